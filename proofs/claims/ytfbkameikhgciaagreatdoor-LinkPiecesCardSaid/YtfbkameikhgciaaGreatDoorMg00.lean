/- Texts laid together: MdShelf, Mem, MapW, MapEntry, Mem2, Mem3. -/
import Derived.Shelf.Utf8.RuneCount
import Derived.Shelf.Strings.Search1
import Derived.Shelf.Strings.Search2
import Derived.Shelf.Strings.Search3
import Derived.Shelf.Strings.Count
import Derived.Shelf.LaysM
import Derived.Shelf.Strings.Shaped
import Derived.Shelf.Strings.Split
import Derived.Shelf.Strings.SplitShaped
import Derived.Shelf.Unicode.Decode
import Derived.Shelf.Strings.RuneCount
import Derived.Shelf.Strings.Explode
import Derived.Shelf.Unicode.DecodeSlow
import Derived.Shelf.Unicode.DecodeAny
import Derived.Shelf.Slices.Equal
import Derived.Shelf.Slices.Empties2
import Derived.Shelf.Bytes.SlSearch0
import Derived.Ground.SlbCloneProg
import Derived.Shelf.Bytes.SlClone
import Derived.Shelf.Bytes.SlEqualAll
import Derived.Shelf.Bytes.Small
import Derived.Test.YtfbkameikhgciaaGreatDoorProg
import Derived.WalkKit
import Derived.Lib.Hide
import Derived.Deep.Draws
import Derived.Laws.CopyOwn
import Derived.Deep.AppendLies
import Derived.Maps.AppendAt
import Derived.Deep.DeepAppendRoom
import Derived.Lib.AppendStr
import Derived.Maps.RangeWalk
import Derived.Maps.Views
import Derived.WideKeyEntry
import Derived.Maps.OwnSet
import Derived.Deep.DeepAppendWide
set_option linter.all false
set_option linter.unusedSimpArgs false
set_option linter.unusedVariables false
set_option maxRecDepth 20000
set_option maxHeartbeats 8000000
section
namespace Go.Proofs
open Go.Shelf
def Tryz.lays146_ren : Go.Shelf.Ren := ⟨fun | 146 => 119 | 221 => 146 | 268 => 168 | 138 => 169 | 143 => 170 | 195 => 179 | 197 => 180 | 218 => 181 | 219 => 182 | 260 => 185 | 217 => 186 | 225 => 187 | 224 => 188 | 267 => 189 | 266 => 190 | 314 => 191 | n => n, fun | 9 => 9 | 31 => 22 | 3 => 3 | 4 => 4 | 0 => 0 | 105 => 259 | 21 => 21 | 5 => 5 | 46 => 123 | 119 => 266 | 139 => 269 | 138 => 268 | 146 => 270 | 51 => 71 | n => n, fun | 1 => 0 | 3 => 1 | 4 => 2 | n => n⟩
theorem Tryz.lays146 : Go.Proofs.Lays.n146 Tryz.prog Tryz.lays146_ren := {
 mixed := by kernel_rfl
 f138 := Tryz.func169.trans (congrArg some (by kernel_rfl))
 f143 := Tryz.func170.trans (congrArg some (by kernel_rfl))
 f146 := Tryz.func119.trans (congrArg some (by kernel_rfl))
 f195 := Tryz.func179.trans (congrArg some (by kernel_rfl))
 f197 := Tryz.func180.trans (congrArg some (by kernel_rfl))
 f217 := Tryz.func186.trans (congrArg some (by kernel_rfl))
 f218 := Tryz.func181.trans (congrArg some (by kernel_rfl))
 f219 := Tryz.func182.trans (congrArg some (by kernel_rfl))
 f221 := Tryz.func146.trans (congrArg some (by kernel_rfl))
 f224 := Tryz.func188.trans (congrArg some (by kernel_rfl))
 f225 := Tryz.func187.trans (congrArg some (by kernel_rfl))
 f260 := Tryz.func185.trans (congrArg some (by kernel_rfl))
 f266 := Tryz.func190.trans (congrArg some (by kernel_rfl))
 f267 := Tryz.func189.trans (congrArg some (by kernel_rfl))
 f268 := Tryz.func168.trans (congrArg some (by kernel_rfl))
 f314 := Tryz.func191.trans (congrArg some (by kernel_rfl))
 t0 := Tryz.underlying0
 a0 := Tryz.isAgg0
 z0 := Tryz.sizeOf0
 v0 := Tryz.zeroValue0
 t3 := Tryz.underlying3
 a3 := Tryz.isAgg3
 z3 := Tryz.sizeOf3
 v3 := Tryz.zeroValue3
 t4 := Tryz.underlying4
 a4 := Tryz.isAgg4
 z4 := Tryz.sizeOf4
 v4 := Tryz.zeroValue4
 t5 := Tryz.underlying5
 a5 := Tryz.isAgg5
 z5 := Tryz.sizeOf5
 v5 := Tryz.zeroValue5
 t9 := Tryz.underlying9
 a9 := Tryz.isAgg9
 z9 := Tryz.sizeOf9
 v9 := Tryz.zeroValue9
 t21 := Tryz.underlying21
 a21 := Tryz.isAgg21
 z21 := Tryz.sizeOf21
 v21 := Tryz.zeroValue21
 t31 := Tryz.underlying22
 a31 := Tryz.isAgg22
 z31 := Tryz.sizeOf22
 v31 := Tryz.zeroValue22
 t46 := Tryz.underlying123
 a46 := Tryz.isAgg123
 z46 := Tryz.sizeOf123
 v46 := Tryz.zeroValue123
 t51 := Tryz.underlying71
 a51 := Tryz.isAgg71
 z51 := Tryz.sizeOf71
 v51 := Tryz.zeroValue71
 t105 := Tryz.underlying259
 a105 := Tryz.isAgg259
 z105 := Tryz.sizeOf259
 v105 := Tryz.zeroValue259
 t119 := Tryz.underlying266
 a119 := Tryz.isAgg266
 z119 := Tryz.sizeOf266
 t138 := Tryz.underlying268
 a138 := Tryz.isAgg268
 z138 := Tryz.sizeOf268
 v138 := Tryz.zeroValue268
 t139 := Tryz.underlying269
 a139 := Tryz.isAgg269
 z139 := Tryz.sizeOf269
 v139 := Tryz.zeroValue269
 t146 := Tryz.underlying270
 a146 := Tryz.isAgg270
 z146 := Tryz.sizeOf270
 v146 := Tryz.zeroValue270
 g1 := by kernel_rfl
 g3 := by kernel_rfl
 g4 := by kernel_rfl }
open Go.RowKit Go.Lib in
theorem Tryz.strings_Split (s sep : ByteArray) (m : Int) (w : World) (hs : s.size < 4294967281) (hm : w.cell? ⟨0, 0, none⟩ = some (.int .i64 m)) (h1 : 1 ≤ sep.size) :
  Calls Tryz.prog 119 #[.string s, .string sep] w fun e w' =>
   e = .returned (.slice (some ⟨w.heap.size, 0, none⟩) (Lib.countB s sep + 1) (Lib.countB s sep + 1)) ∧ w' = w.alloc (.cells ((Lib.splitB sep 0 (Lib.countB s sep) s).map Value.string).toArray 9) := Any.strings_Split Tryz.lays146 (by kernel_rfl) s sep m w hs hm h1
def Tryz.laysM146_ren : Go.Shelf.Ren := ⟨fun | 146 => 119 | 221 => 146 | 268 => 168 | 138 => 169 | 143 => 170 | 195 => 179 | 197 => 180 | 218 => 181 | 219 => 182 | 260 => 185 | 217 => 186 | 225 => 187 | 224 => 188 | 267 => 189 | 266 => 190 | 314 => 191 | n => n, fun | 9 => 9 | 31 => 22 | 3 => 3 | 4 => 4 | 0 => 0 | 105 => 259 | 21 => 21 | 5 => 5 | 46 => 123 | 119 => 266 | 139 => 269 | 138 => 268 | 146 => 270 | 51 => 71 | n => n, fun | 1 => 0 | 3 => 1 | 4 => 2 | n => n⟩
theorem Tryz.laysM146 : Go.Proofs.LaysM.n146 Tryz.prog Tryz.laysM146_ren := {
 mixed := by kernel_rfl
 f138 := Tryz.func169.trans (congrArg some (by kernel_rfl))
 f143 := Tryz.func170.trans (congrArg some (by kernel_rfl))
 f146 := Tryz.func119.trans (congrArg some (by kernel_rfl))
 f195 := Tryz.func179.trans (congrArg some (by kernel_rfl))
 f197 := Tryz.func180.trans (congrArg some (by kernel_rfl))
 f217 := Tryz.func186.trans (congrArg some (by kernel_rfl))
 f218 := Tryz.func181.trans (congrArg some (by kernel_rfl))
 f219 := Tryz.func182.trans (congrArg some (by kernel_rfl))
 f221 := Tryz.func146.trans (congrArg some (by kernel_rfl))
 f224 := Tryz.func188.trans (congrArg some (by kernel_rfl))
 f225 := Tryz.func187.trans (congrArg some (by kernel_rfl))
 f260 := Tryz.func185.trans (congrArg some (by kernel_rfl))
 f266 := Tryz.func190.trans (congrArg some (by kernel_rfl))
 f267 := Tryz.func189.trans (congrArg some (by kernel_rfl))
 f268 := Tryz.func168.trans (congrArg some (by kernel_rfl))
 f314 := Tryz.func191.trans (congrArg some (by kernel_rfl))
 t0 := Tryz.underlying0
 a0 := Tryz.isAgg0
 z0 := Tryz.sizeOf0
 v0 := Tryz.zeroValue0
 t3 := Tryz.underlying3
 a3 := Tryz.isAgg3
 z3 := Tryz.sizeOf3
 v3 := Tryz.zeroValue3
 t4 := Tryz.underlying4
 a4 := Tryz.isAgg4
 z4 := Tryz.sizeOf4
 v4 := Tryz.zeroValue4
 t5 := Tryz.underlying5
 a5 := Tryz.isAgg5
 z5 := Tryz.sizeOf5
 v5 := Tryz.zeroValue5
 t9 := Tryz.underlying9
 a9 := Tryz.isAgg9
 z9 := Tryz.sizeOf9
 v9 := Tryz.zeroValue9
 t21 := Tryz.underlying21
 a21 := Tryz.isAgg21
 z21 := Tryz.sizeOf21
 v21 := Tryz.zeroValue21
 t31 := Tryz.underlying22
 a31 := Tryz.isAgg22
 z31 := Tryz.sizeOf22
 v31 := Tryz.zeroValue22
 t46 := Tryz.underlying123
 a46 := Tryz.isAgg123
 z46 := Tryz.sizeOf123
 v46 := Tryz.zeroValue123
 t51 := Tryz.underlying71
 a51 := Tryz.isAgg71
 z51 := Tryz.sizeOf71
 v51 := Tryz.zeroValue71
 t105 := Tryz.underlying259
 a105 := Tryz.isAgg259
 z105 := Tryz.sizeOf259
 v105 := Tryz.zeroValue259
 t119 := Tryz.underlying266
 a119 := Tryz.isAgg266
 z119 := Tryz.sizeOf266
 t138 := Tryz.underlying268
 a138 := Tryz.isAgg268
 z138 := Tryz.sizeOf268
 v138 := Tryz.zeroValue268
 t139 := Tryz.underlying269
 a139 := Tryz.isAgg269
 z139 := Tryz.sizeOf269
 v139 := Tryz.zeroValue269
 t146 := Tryz.underlying270
 a146 := Tryz.isAgg270
 z146 := Tryz.sizeOf270
 v146 := Tryz.zeroValue270
 g1 := by kernel_rfl
 g3 := by kernel_rfl
 g4 := by kernel_rfl
 i0 := by kernel_rfl
 i3 := by kernel_rfl
 i4 := by kernel_rfl
 i5 := by kernel_rfl
 i9 := by kernel_rfl
 i21 := by kernel_rfl
 i31 := by kernel_rfl
 i46 := by kernel_rfl
 i51 := by kernel_rfl
 i105 := by kernel_rfl
 i138 := by kernel_rfl
 i139 := by kernel_rfl
 i146 := by kernel_rfl
 m1 := by kernel_rfl
 s1_3 := fun w h => Go.Proofs.cell_of_shapedOpen_int (zero := #[.int .i64 0]) (t := 3) h (of_decide_eq_true (by kernel_rfl)) (by kernel_rfl) rfl (by kernel_rfl) (by kernel_rfl) Tryz.underlying3
 m3 := by kernel_rfl
 m4 := by kernel_rfl }
open Go.RowKit Go.Lib in
def Tryz.lays197_ren : Go.Shelf.Ren := ⟨fun | 197 => 180 | 260 => 185 | n => n, fun | 9 => 9 | 21 => 21 | 3 => 3 | 4 => 4 | 5 => 5 | 105 => 259 | 119 => 266 | 0 => 0 | 46 => 123 | 139 => 269 | 138 => 268 | n => n, fun | 3 => 1 | 4 => 2 | n => n⟩
theorem Tryz.lays197 : Go.Proofs.Lays.n197 Tryz.prog Tryz.lays197_ren := {
 mixed := by kernel_rfl
 f197 := Tryz.func180.trans (congrArg some (by kernel_rfl))
 f260 := Tryz.func185.trans (congrArg some (by kernel_rfl))
 t0 := Tryz.underlying0
 a0 := Tryz.isAgg0
 z0 := Tryz.sizeOf0
 v0 := Tryz.zeroValue0
 t3 := Tryz.underlying3
 a3 := Tryz.isAgg3
 z3 := Tryz.sizeOf3
 v3 := Tryz.zeroValue3
 t4 := Tryz.underlying4
 a4 := Tryz.isAgg4
 z4 := Tryz.sizeOf4
 v4 := Tryz.zeroValue4
 t5 := Tryz.underlying5
 a5 := Tryz.isAgg5
 z5 := Tryz.sizeOf5
 v5 := Tryz.zeroValue5
 t9 := Tryz.underlying9
 a9 := Tryz.isAgg9
 z9 := Tryz.sizeOf9
 v9 := Tryz.zeroValue9
 t21 := Tryz.underlying21
 a21 := Tryz.isAgg21
 z21 := Tryz.sizeOf21
 v21 := Tryz.zeroValue21
 t46 := Tryz.underlying123
 a46 := Tryz.isAgg123
 z46 := Tryz.sizeOf123
 v46 := Tryz.zeroValue123
 t105 := Tryz.underlying259
 a105 := Tryz.isAgg259
 z105 := Tryz.sizeOf259
 v105 := Tryz.zeroValue259
 t119 := Tryz.underlying266
 a119 := Tryz.isAgg266
 z119 := Tryz.sizeOf266
 t138 := Tryz.underlying268
 a138 := Tryz.isAgg268
 z138 := Tryz.sizeOf268
 v138 := Tryz.zeroValue268
 t139 := Tryz.underlying269
 a139 := Tryz.isAgg269
 z139 := Tryz.sizeOf269
 v139 := Tryz.zeroValue269
 g3 := by kernel_rfl
 g4 := by kernel_rfl }
open Go.RowKit Go.Lib in
theorem Tryz.utf8_DecodeRuneInString (s : ByteArray) (w : World) (hT : Lib.Utf8Tabs 1 2 w) :
  Calls Tryz.prog 180 #[.string s] w fun e w' => e = .returned (.tuple #[.int .i32 (Lib.decodeGo s).1, .int .i64 (Lib.decodeGo s).2]) ∧ Below w.heap.size w w' := Any.utf8_DecodeRuneInString Tryz.lays197 s w hT
end Go.Proofs
end
section
namespace Go.PH
open Go.RowKit
def str (l : List UInt8) : ByteArray := ⟨l.toArray⟩
theorem zt (l : List UInt8) : (str l).toList = l := by rw [ByteArray.toList_eq]; rfl
theorem zj (l : List UInt8) : (str l).size = l.length := rfl
def u8v (x : UInt8) : Value := .int .u8 (x.toNat : Int)
theorem Vd (x : UInt8) : (u8v x).oneCell' = true := rfl
theorem YR (x : UInt8) : u8v x = .int .u8 (x.toNat : Int) := rfl
structure Rd (w : World) (B size : Nat) (A : Option Addr) (n c : Nat) (xs : List Value) : Prop where
 len : xs.length = n * size
 cap : n ≤ c
 max : c ≤ maxLen
 at_ : 0 < n → ∃ b off, A = some ⟨b, off, none⟩ ∧ b < B ∧ ∀ j u, xs[j]? = some u → w.cell? ⟨b, off + j, none⟩ = some u
variable {w w' : World} {B B' size n c : Nat} {A : Option Addr} {xs : List Value}
theorem Rd.keep (h : Rd w B size A n c xs) (hk : ∀ p : Addr, p.block < B → w'.cell? p = w.cell? p) : Rd w' B size A n c xs :=
 ⟨h.len, h.cap, h.max, fun hn => by
  obtain ⟨b, off, e, hb, hc⟩ := h.at_ hn
  exact ⟨b, off, e, hb, fun j u hu => (hk _ hb).trans (hc j u hu)⟩⟩
theorem Rd.more (h : Rd w B size A n c xs) (hB : B ≤ B') : Rd w B' size A n c xs :=
 ⟨h.len, h.cap, h.max, fun hn => by
  obtain ⟨b, off, e, hb, hc⟩ := h.at_ hn
  exact ⟨b, off, e, by omega, hc⟩⟩
theorem Rd.below (h : Rd w B size A n c xs) (hb : Below B w w') : Rd w' B size A n c xs := h.keep fun _ hp => hb.cell hp
theorem Rd.below' (h : Rd w B size A n c xs) (hb : Below B' w w') (hB : B ≤ B') : Rd w' B size A n c xs := h.below (hb.mono hB)
theorem Rd.nil (w : World) (B size c : Nat) (hc : c ≤ maxLen) (A : Option Addr) : Rd w B size A 0 c [] := ⟨by simp, Nat.zero_le _, hc, fun h => absurd h (Nat.lt_irrefl 0)⟩
theorem Rd.of_own {base e : Nat} (h : w.ownsRow base e size (.slice A n c) n xs) : Rd w w.heap.size size A n c xs := by
 rcases h.2 with ⟨hv, rfl⟩ | ⟨g, cap, cur, hv, _, hh, hnc, hm, hs, hx⟩
 ·injection hv with h1 h2 h3
  subst h1 h3
  exact ⟨h.1, Nat.le_refl _, by simp [maxLen], fun hn => absurd hn (Nat.lt_irrefl 0)⟩
 ·injection hv with h1 h2 h3
  subst h1 h3
  have hlt := (Array.getElem?_eq_some_iff.1 hh).1
  refine ⟨h.1, hnc, hm, fun _ => ⟨g, 0, rfl, hlt, fun j u hu => ?_⟩⟩
  rw [Nat.zero_add]
  have h' := h.cells (g := g) rfl j u hu
  have hadd : (⟨g, 0, none⟩ : Addr).add j = ⟨g, j, none⟩ := by unfold Addr.add; split <;> simp_all
  rwa [hadd] at h'
theorem Rd.at_k (h : Rd w B 1 A n c xs) {k : Nat} (hk : k < n) : ∃ b off u, A = some ⟨b, off, none⟩ ∧ b < B ∧ xs[k]? = some u ∧ w.cell? ⟨b, off + k, none⟩ = some u := by
 obtain ⟨b, off, e, hb, hc⟩ := h.at_ (by omega)
 have hl : k < xs.length := by have := h.len; omega
 exact ⟨b, off, xs[k], e, hb, List.getElem?_eq_getElem hl, hc k _ (List.getElem?_eq_getElem hl)⟩
abbrev RdB (w : World) (B : Nat) (A : Option Addr) (n c : Nat) (l : List UInt8) : Prop := Rd w B 1 A n c (l.map u8v)
theorem RdB.length {l : List UInt8} (h : RdB w B A n c l) : l.length = n := by have := h.len; simpa using this
theorem RdB.at_k {l : List UInt8} (h : RdB w B A n c l) {k : Nat} (hk : k < n) : ∃ b off, A = some ⟨b, off, none⟩ ∧ b < B ∧ ∃ hl : k < l.length, w.cell? ⟨b, off + k, none⟩ = some (.int .u8 (l[k].toNat : Int)) := by
 obtain ⟨b, off, u, e, hb, hx, hc⟩ := Rd.at_k h hk
 have hl : k < l.length := by have := h.length; omega
 refine ⟨b, off, e, hb, hl, ?_⟩
 rw [List.getElem?_map, List.getElem?_eq_getElem hl] at hx
 simp at hx
 rw [hc, ← hx]; rfl
def Hold (p : Prop) : Prop := p
theorem zc {p : Prop} (h : p) : Hold p := h
section
variable {P : Program} {ops : Array Oper} {Q : Exit → Act → World → Prop} {rest : List Oper} {a : Act} {w : World} {dst : Option Tmp} {ty : TypeId} {pos : String} {after : Array Edge} {guard : Option (Nat × Bool)}
theorem zT {xs : Array Operand} {ts : Array TypeId} (h : Hold (wpList P ops Q (⟨dst, .call ⟨.builtin .append, xs, ts⟩, ty, pos, after, guard⟩ :: rest) a w)) :
  wpList P ops Q (⟨dst, .call ⟨.builtin .append, xs, ts⟩, ty, pos, after, guard⟩ :: rest) a w := h
theorem yr {xs : Array Operand} {ts : Array TypeId} (h : Hold (wpList P ops Q (⟨dst, .call ⟨.builtin .copy, xs, ts⟩, ty, pos, after, guard⟩ :: rest) a w)) :
  wpList P ops Q (⟨dst, .call ⟨.builtin .copy, xs, ts⟩, ty, pos, after, guard⟩ :: rest) a w := h
theorem yt {t : TypeId} {l c : Operand} (h : Hold (wpList P ops Q (⟨dst, .makeSlice t l c, ty, pos, after, guard⟩ :: rest) a w)) :
  wpList P ops Q (⟨dst, .makeSlice t l c, ty, pos, after, guard⟩ :: rest) a w := h
theorem yu {s t : TypeId} {x : Operand} (h : Hold (wpList P ops Q (⟨dst, .convert s t x, ty, pos, after, guard⟩ :: rest) a w)) :
  wpList P ops Q (⟨dst, .convert s t x, ty, pos, after, guard⟩ :: rest) a w := h
theorem yc {t : TypeId} {x : Operand} {lo hi mx : Option Operand} (h : Hold (wpList P ops Q (⟨dst, .slice t x lo hi mx, ty, pos, after, guard⟩ :: rest) a w)) :
  wpList P ops Q (⟨dst, .slice t x lo hi mx, ty, pos, after, guard⟩ :: rest) a w := h
end
structure SlT (P : Program) (t e size bytes : Nat) (z : Value) : Prop where
 u : P.underlying t = some (.slice e)
 i : ∃ i, P.info? e = some i ∧ i.zero = some z ∧ i.size = size ∧ i.bytes = bytes
 zs : z.cells.size = size
 pos : 0 < size
theorem SlT.mk' {P : Program} {t e size bytes : Nat} {z : Value} (u : P.underlying t = some (.slice e)) (h : (P.info? e).map (fun i => (i.zero, i.size, i.bytes)) = some (some z, size, bytes))
  (zs : z.cells.size = size) (pos : 0 < size) : SlT P t e size bytes z := ⟨u, info_parts h, zs, pos⟩
abbrev Own (w : World) (base e size : Nat) (A : Option Addr) (n c : Nat) (xs : List Value) : Prop := w.ownsRow base e size (.slice A n c) n xs
abbrev blk (A : Option Addr) : Option Nat := A.map (·.block)
theorem yC (A : Option Addr) (n c : Nat) : (Value.slice A n c).ownBlock = blk A := by cases A <;> rfl
section
variable {P : Program} {w w' : World} {base e size bytes t n c m B : Nat} {A A' : Option Addr} {xs news : List Value} {z : Value}
theorem qD {v : Value} (h : w.ownsRow base e size v n xs) : ∃ A c, v = .slice A n c := by
 rcases h.2 with ⟨rfl, rfl⟩ | ⟨g, cap, cur, rfl, _⟩
 ·exact ⟨none, 0, rfl⟩
 ·exact ⟨_, _, rfl⟩
theorem Own.rd (h : Own w base e size A n c xs) : Rd w w.heap.size size A n c xs := Rd.of_own h
theorem Own.none_ (w : World) (base e size : Nat) : Own w base e size none 0 0 [] := World.ownsRow_nil w base e size
theorem Own.blk_lt (h : Own w base e size A n c xs) {g : Nat} (hg : blk A = some g) : base ≤ g ∧ g < w.heap.size := World.ownsRow.lt h g (by rw [yC]; exact hg)
theorem Rd.grown (h : Rd w B size A n c xs) {row : Option Nat} (hg : w.grownBy w' row) (hB : B ≤ w.heap.size) (hr : ∀ g, row = some g → B ≤ g) : Rd w' B size A n c xs :=
 h.keep fun p hp => World.cell?_of_block (hg.block p.block (by omega) (fun e => by have := hr _ e.symm; omega))
theorem Rd.grown_ne (h : Rd w B size A n c xs) {row : Option Nat} (hg : w.grownBy w' row) (hB : B ≤ w.heap.size) (hne : blk A = none ∨ blk A ≠ row) : Rd w' B size A n c xs :=
 ⟨h.len, h.cap, h.max, fun hn => by
  obtain ⟨b, off, e, hb, hc⟩ := h.at_ hn
  refine ⟨b, off, e, hb, fun j u hu => (World.cell?_of_block (hg.block b (by omega) ?_)).trans (hc j u hu)⟩
  subst e
  simpa [blk] using hne⟩
theorem Qu (hT : SlT P t e size bytes z) (ty : TypeId) (hown : Own w base e size A n c xs) {B m c' : Nat} {A' : Option Addr} {news : List Value} (hr : Rd w B size A' m c' news) (h1 : ∀ u ∈ news, u.oneCell' = true)
  (hsz : (n + m) * bytes ≤ 140737488355328) (h63 : n + m ≤ maxLen) (hbase : base ≤ w.heap.size) :
  ∃ A2 c2 w', (Builtin.append_ #[t, t] ty #[.slice A n c, .slice A' m c']).run P w = .ok (.slice A2 (n + m) c2) w' ∧ Own w' base e size A2 (n + m) c2 (xs ++ news) ∧ w.grownBy w' (blk A) ∧
   (blk A2 = blk A ∨ blk A2 = some w.heap.size) := by
 obtain ⟨i, hi, hz, hs, hby⟩ := hT.i
 rcases A' with _ | ad
 ·have hm : m = 0 := by
   rcases Nat.eq_zero_or_pos m with h0 | h0
   ·exact h0
   ·obtain ⟨b, off, e, _⟩ := hr.at_ h0; cases e
  subst hm
  have hn : news = [] := List.eq_nil_of_length_eq_zero (by simpa using hr.len)
  subst hn
  refine ⟨A, c, w, ?_, by simpa using hown, World.grownBy.refl w _, .inl rfl⟩
  rcases hown.2 with ⟨hv, rfl⟩ | ⟨g, cap, cur, hv, _, _, hnc, _⟩
  ·injection hv with h1 h2 h3
   subst h1 h3
   simp [Builtin.append_, run_underlying hT.u, sizeOf, typeInfo, hi, Builtin.lenOf, Builtin.firstCells]
  ·injection hv with h1 h2 h3
   subst h1 h3
   simp [Builtin.append_, run_underlying hT.u, sizeOf, typeInfo, hi, Builtin.lenOf, Builtin.firstCells, hnc, storeCells]
 ·have hcells : ∀ j u, news[j]? = some u → w.cell? (ad.add j) = some u := by
   intro j u hu
   have hm : 0 < m := by
    rcases Nat.eq_zero_or_pos m with h0 | h0
    ·subst h0
     have hn : news = [] := List.eq_nil_of_length_eq_zero (by simpa using hr.len)
     subst hn; simp at hu
    ·exact h0
   obtain ⟨b, off, e, _, hc⟩ := hr.at_ hm
   injection e with e
   subst e
   have hadd : (⟨b, off, none⟩ : Addr).add j = ⟨b, off + j, none⟩ := by unfold Addr.add; split <;> simp_all
   rw [hadd]; exact hc j u hu
  obtain ⟨v', w', hrun, h2, h3, _, h5⟩ := run_append_own_at (P := P) w base t ty e i z size bytes hT.u hi hz hs hby hT.zs hT.pos _ n xs hown ad m c' news hr.len hcells h1 h63 hsz hbase
  obtain ⟨A2, c2, rfl⟩ := qD h2
  rw [yC] at h3 h5
  rw [yC] at h5
  exact ⟨A2, c2, w', hrun, h2, h3, h5⟩
theorem yn {ops : Array Oper} {rest : List Oper} {o : Oper} {a : Act} {Q : Exit → Act → World → Prop} {s x : Operand} (hT : SlT P t e size bytes z) (hw : Region.wanted o (yielded ops a.tmps) = true)
  (ho : o.op = .call { callee := .builtin .append, args := #[s, x], argTypes := #[t, t] }) (hs : a.eval s = .slice A n c) {c' : Nat} (hx : a.eval x = .slice A' m c')
  (hown : Own w base e size A n c xs) (hr : Rd w B size A' m c' news) (h1 : ∀ u ∈ news, u.oneCell' = true)
  (hsz : (n + m) * bytes ≤ 140737488355328) (h63 : n + m ≤ maxLen) (hbase : base ≤ w.heap.size)
  (h : ∀ A2 c2 w', Own w' base e size A2 (n + m) c2 (xs ++ news) → w.grownBy w' (blk A) → (blk A2 = blk A ∨ blk A2 = some w.heap.size) → wpList P ops Q rest (a.put o.dst (.slice A2 (n + m) c2)) w') :
  wpList P ops Q (o :: rest) a w := by
 refine BigFrame.wpList_want hw fun K hK => ?_
 obtain ⟨A2, c2, w', hrun, h2, h3, h4⟩ := Qu hT o.type hown hr h1 hsz h63 hbase
 unfold Oper.wp execOp
 simp only [ho, resolve, invoke, builtin, Sem.run_bind, Sem.run_pure, Result.andThen_ok, List.map_toArray, List.map_cons, List.map_nil, hs, hx, hrun]
 exact hK _ _ (h A2 c2 w' h2 h3 h4)
theorem Ym (hT : SlT P t e size bytes z) (ty : TypeId) (hown : Own w base e size A n c xs) {B m c' : Nat} {A' : Option Addr} {news : List Value} (hr : Rd w B size A' m c' news) (h1 : ∀ u ∈ news, u.oneCell' = true)
  (hroom : n + m ≤ c) (hbase : base ≤ w.heap.size) :
  ∃ w', (Builtin.append_ #[t, t] ty #[.slice A n c, .slice A' m c']).run P w = .ok (.slice A (n + m) c) w' ∧ Own w' base e size A (n + m) c (xs ++ news) ∧ w.grownBy w' (blk A) := by
 obtain ⟨i, hi, hz, hs, hby⟩ := hT.i
 rcases A' with _ | ad
 ·have hm : m = 0 := by
   rcases Nat.eq_zero_or_pos m with h0 | h0
   ·exact h0
   ·obtain ⟨b, off, e, _⟩ := hr.at_ h0; cases e
  subst hm
  have hn : news = [] := List.eq_nil_of_length_eq_zero (by simpa using hr.len)
  subst hn
  refine ⟨w, ?_, by simpa using hown, World.grownBy.refl w _⟩
  rcases hown.2 with ⟨hv, rfl⟩ | ⟨g, cap, cur, hv, _, _, hnc, _⟩
  ·injection hv with h1 h2 h3
   subst h1 h3
   simp [Builtin.append_, run_underlying hT.u, sizeOf, typeInfo, hi, Builtin.lenOf, Builtin.firstCells]
  ·injection hv with h1 h2 h3
   subst h1 h3
   simp [Builtin.append_, run_underlying hT.u, sizeOf, typeInfo, hi, Builtin.lenOf, Builtin.firstCells, hnc, storeCells]
 ·have hcells : ∀ j u, news[j]? = some u → w.cell? (ad.add j) = some u := by
   intro j u hu
   have hm : 0 < m := by
    rcases Nat.eq_zero_or_pos m with h0 | h0
    ·subst h0
     have hn : news = [] := List.eq_nil_of_length_eq_zero (by simpa using hr.len)
     subst hn; simp at hu
    ·exact h0
   obtain ⟨b, off, e, _, hc⟩ := hr.at_ hm
   injection e with e
   subst e
   have hadd : (⟨b, off, none⟩ : Addr).add j = ⟨b, off + j, none⟩ := by unfold Addr.add; split <;> simp_all
   rw [hadd]; exact hc j u hu
  have hown' := hown
  rcases hown.2 with ⟨hv, rfl⟩ | ⟨g, cap, cur, hv, _⟩
  ·injection hv with h1 h2 h3
   subst h1 h3
   obtain rfl : m = 0 := by omega
   obtain ⟨v', w', hrun, h2, h3, h4, h5⟩ := run_append_own_at (P := P) w base t ty e i z size bytes hT.u hi hz hs hby hT.zs hT.pos _ 0 xs hown ad 0 c' news hr.len hcells h1 (by omega) (by rw [Nat.add_zero, Nat.zero_mul]; omega) hbase
   obtain rfl := h4.2 ⟨rfl, rfl⟩
   exact ⟨w', hrun, h2, h3⟩
  ·injection hv with h2 h3 h4
   subst h2 h4
   exact run_append_own_spare (P := P) w base t ty e i size hT.u hi hs g n c xs hown ad m c' news hr.len hcells h1 hroom
theorem vu {ops : Array Oper} {rest : List Oper} {o : Oper} {a : Act} {Q : Exit → Act → World → Prop} {s x : Operand} (hT : SlT P t e size bytes z) (hw : Region.wanted o (yielded ops a.tmps) = true)
  (ho : o.op = .call { callee := .builtin .append, args := #[s, x], argTypes := #[t, t] }) (hs : a.eval s = .slice A n c) {c' : Nat} (hx : a.eval x = .slice A' m c')
  (hown : Own w base e size A n c xs) (hr : Rd w B size A' m c' news) (h1 : ∀ u ∈ news, u.oneCell' = true) (hroom : n + m ≤ c) (hbase : base ≤ w.heap.size)
  (h : ∀ w', Own w' base e size A (n + m) c (xs ++ news) → w.grownBy w' (blk A) → wpList P ops Q rest (a.put o.dst (.slice A (n + m) c)) w') :
  wpList P ops Q (o :: rest) a w := by
 refine BigFrame.wpList_want hw fun K hK => ?_
 obtain ⟨w', hrun, h2, h3⟩ := Ym hT o.type hown hr h1 hroom hbase
 unfold Oper.wp execOp
 simp only [ho, resolve, invoke, builtin, Sem.run_bind, Sem.run_pure, Result.andThen_ok, List.map_toArray, List.map_cons, List.map_nil, hs, hx, hrun]
 exact hK _ _ (h w' h2 h3)
theorem qM {ops : Array Oper} {rest : List Oper} {o : Oper} {a : Act} {Q : Exit → Act → World → Prop} {s x : Operand} {u : TypeId} (hT : SlT P t e 1 1 (.int .u8 0)) (hu : P.underlying u = some .string) (hw : Region.wanted o (yielded ops a.tmps) = true)
  (ho : o.op = .call { callee := .builtin .append, args := #[s, x], argTypes := #[t, u] }) (hs : a.eval s = .slice A n c) {l : List UInt8} (hx : a.eval x = .string (str l))
  (hown : Own w base e 1 A n c xs) (hsz : n + l.length ≤ 140737488355328) (hbase : base ≤ w.heap.size)
  (h : ∀ A2 c2 w', Own w' base e 1 A2 (n + l.length) c2 (xs ++ l.map u8v) → w.grownBy w' (blk A) → wpList P ops Q rest (a.put o.dst (.slice A2 (n + l.length) c2)) w') :
  wpList P ops Q (o :: rest) a w := by
 refine BigFrame.wpList_want hw fun K hK => ?_
 obtain ⟨i, hi, hz, hs1, hby⟩ := hT.i
 obtain ⟨v', w', hrun, h2, h3, _⟩ := Lib.run_append_own_string (P := P) (w := w) base t u o.type e i hT.u hu hi hz hs1 hby _ n xs hown (str l) (by rw [zj]; simp only [maxLen]; omega) (by rw [zj]; omega) hbase
 rw [zj] at h2
 obtain ⟨A2, c2, rfl⟩ := qD h2
 rw [yC] at h3
 have e1 : Lib.strCells (str l) = l.map u8v := by
  unfold Lib.strCells
  simp [str, u8v]
 rw [e1] at h2
 unfold Oper.wp execOp
 simp only [ho, resolve, invoke, builtin, Sem.run_bind, Sem.run_pure, Result.andThen_ok, List.map_toArray, List.map_cons, List.map_nil, hs, hx, hrun]
 exact hK _ _ (h A2 c2 w' h2 h3)
theorem Qv {ops : Array Oper} {rest : List Oper} {o : Oper} {a : Act} {Q : Exit → Act → World → Prop} {l c : Operand} (hT : SlT P t e size bytes z) (hw : Region.wanted o (yielded ops a.tmps) = true)
  (ho : o.op = .makeSlice t l c) {kl kc : IntKind} {L C : Int} (n cap : Nat) (hl : a.eval l = .int kl L) (hc : a.eval c = .int kc C) (hL : L = (n : Int)) (hC : C = (cap : Int)) (hnc : n ≤ cap)
  (hsz : bytes * cap ≤ 281474976710656) (h63 : cap ≤ maxLen) (base : Nat) (hbase : base ≤ w.heap.size)
  (h : ∀ w', Own w' base e size (some ⟨w.heap.size, 0, none⟩) n cap ((madeCells z.cells (cap * size)).toList.take (n * size)) → w.grownBy w' none → wpList P ops Q rest (a.put o.dst (.slice (some ⟨w.heap.size, 0, none⟩) n cap)) w') :
  wpList P ops Q (o :: rest) a w := by
 refine BigFrame.wpList_want hw fun K hK => ?_
 obtain ⟨i, hi, hz, hs, hby⟩ := hT.i
 have h63' : cap ≤ 9223372036854775807 := by simpa [maxLen] using h63
 have hb' : (i.bytes : Int) * (cap : Int) ≤ 281474976710656 := by
  have h : ((i.bytes * cap : Nat) : Int) ≤ 281474976710656 := by rw [hby]; omega
  rwa [Int.natCast_mul] at h
 have hr := run_make (P := P) w t e i z hT.u hi hz kl kc (n : Int) (cap : Int) (by omega) (by omega) hb' (by omega)
 simp only [Int.toNat_natCast, hs] at hr
 subst hL hC
 unfold Oper.wp execOp
 simp only [ho, hl, hc, Sem.run_bind, Sem.run_pure, Result.andThen_ok, hr]
 refine hK _ _ (h _ ⟨?_, .inr ⟨w.heap.size, cap, _, rfl, hbase, heap_alloc_new w _, hnc, h63, size_madeCells _ _, rfl⟩⟩ (World.grownBy_alloc w _ none))
 rw [List.length_take, Array.length_toList, size_madeCells]
 exact Nat.min_eq_left (Nat.mul_le_mul_right _ hnc)
def Bd (o : Option Value) (dflt k : Nat) : Prop := (o = none ∧ k = dflt) ∨ ∃ kd X, o = some (.int kd X) ∧ X = (k : Int)
def cutA (A : Option Addr) (size l m : Nat) : Option Addr := if m = l then A else A.map (·.add (l * size))
theorem Ve (A : Option Addr) (size l m : Nat) : cutA A size l m = A ∨ cutA A size l m = A.map (·.add (l * size)) := by unfold cutA; split <;> simp
theorem qN (A : Option Addr) (size l m : Nat) : blk (cutA A size l m) = blk A := by
 unfold cutA
 split
 ·rfl
 ·cases A with
  | none => rfl
  | some a => simp only [Option.map_some, blk]; congr 1; unfold Addr.add; split <;> rfl
theorem jm (hT : SlT P t e size bytes z) (w : World) {A : Option Addr} {n c : Nat} (hmax : c ≤ maxLen) (hnc : n ≤ c) {lo hi mx : Option Value} (l h m : Nat) (hlo : Bd lo 0 l) (hhi : Bd hi n h) (hmx : Bd mx c m) (hmh : mx.isSome = true → hi.isSome = true) (h1 : l ≤ h) (h2 : h ≤ m) (h3 : m ≤ c) (h4 : h ≤ n) :
  (Instr.sliceAt t (.slice A n c) lo hi mx).run P w = .ok (.slice (cutA A size l m) (h - l) (m - l)) w := by
 unfold cutA
 obtain ⟨i, hi', hz, hs, hby⟩ := hT.i
 have hel : P.elem t = e := by simp [Program.elem, hT.u]
 have hu' : P.underlying t = some (.slice (P.elem t)) := by rw [hel]; exact hT.u
 have hb : (Instr.sliceBounds true n c lo hi mx).run P w = .ok (l, h, m) w := by
  have hm' : ∀ code, mx = none ∧ m = c ∨ ∃ v, mx = some v ∧ (Instr.sliceBound v c code).run P w = .ok m w := by
   intro code
   rcases hmx with ⟨h, e⟩ | ⟨kd, X, rfl, rfl⟩
   ·exact .inl ⟨h, e⟩
   ·exact .inr ⟨_, rfl, by rw [run_sliceBound w kd _ c code (by omega) (by omega)]; simp⟩
  have hh' : ∀ code y, h ≤ y → hi = none ∧ h = n ∨ ∃ v, hi = some v ∧ (Instr.sliceBound v y code).run P w = .ok h w := by
   intro code y hy
   rcases hhi with ⟨h, e⟩ | ⟨kd, X, rfl, rfl⟩
   ·exact .inl ⟨h, e⟩
   ·exact .inr ⟨_, rfl, by rw [run_sliceBound w kd _ y code (by omega) (by omega)]; simp⟩
  have hl' : ∀ code y, l ≤ y → lo = none ∧ l = 0 ∨ ∃ v, lo = some v ∧ (Instr.sliceBound v y code).run P w = .ok l w := by
   intro code y hy
   rcases hlo with ⟨h, e⟩ | ⟨kd, X, rfl, rfl⟩
   ·exact .inl ⟨h, e⟩
   ·exact .inr ⟨_, rfl, by rw [run_sliceBound w kd _ y code (by omega) (by omega)]; simp⟩
  unfold Instr.sliceBounds
  rcases hm' .slice3Acap with ⟨rfl, rfl⟩ | ⟨vm, rfl, em⟩
  ·rcases hh' .sliceAcap m h2 with ⟨rfl, rfl⟩ | ⟨vh, rfl, eh⟩
   ·rcases hl' .sliceB h h1 with ⟨rfl, rfl⟩ | ⟨vl, rfl, el⟩
    ·simp [Sem.run_pure]
    ·simp [Result.andThen, el]
   ·rcases hl' .sliceB h h1 with ⟨rfl, rfl⟩ | ⟨vl, rfl, el⟩
    ·simp [Result.andThen, eh]
    ·simp [Sem.run_bind, Result.andThen, eh, el]
  ·rcases hh' .slice3B m h2 with ⟨rfl, rfl⟩ | ⟨vh, rfl, eh⟩
   ·simp at hmh
   ·rcases hl' .slice3C h h1 with ⟨rfl, rfl⟩ | ⟨vl, rfl, el⟩
    ·simp [Sem.run_bind, Result.andThen, em, eh]
    ·simp [Sem.run_bind, Result.andThen, em, eh, el]
 rw [run_sliceAt_slice w t _ _ _ _ hu', run_slice_any w t A n c hu', hb]
 simp [Result.andThen, sizeOf, typeInfo, hel, hi', hs, sliced]
theorem vw (hr : Rd w B size A n c xs) (l h m : Nat) (h1 : l ≤ h) (h2 : h ≤ m) (h3 : m ≤ c) (h4 : h ≤ n) : Rd w B size (cutA A size l m) (h - l) (m - l) ((xs.take (h * size)).drop (l * size)) := by
 unfold cutA
 refine ⟨?_, by omega, by have := hr.max; omega, fun hpos => ?_⟩
 ·have hlen := hr.len
  rw [List.length_drop, List.length_take, hlen, Nat.min_eq_left (Nat.mul_le_mul_right _ h4), Nat.sub_mul]
 ·obtain ⟨b, off, rfl, hb, hc⟩ := hr.at_ (by omega)
  rw [if_neg (by omega)]
  have hadd : (⟨b, off, none⟩ : Addr).add (l * size) = ⟨b, off + l * size, none⟩ := by unfold Addr.add; split <;> simp_all
  refine ⟨b, off + l * size, by simp [hadd], hb, fun j u hu => ?_⟩
  rw [List.getElem?_drop, List.getElem?_take] at hu
  split at hu
  ·rw [Nat.add_assoc]; exact hc _ u hu
  ·cases hu
theorem Vf (hT : SlT P t e size bytes z) (hr : Rd w B size A n c xs) {lo hi mx : Option Value} (l h m : Nat) (hlo : Bd lo 0 l) (hhi : Bd hi n h) (hmx : Bd mx c m) (hmh : mx.isSome = true → hi.isSome = true) (h1 : l ≤ h) (h2 : h ≤ m) (h3 : m ≤ c) (h4 : h ≤ n) :
  ∃ A', (Instr.sliceAt t (.slice A n c) lo hi mx).run P w = .ok (.slice A' (h - l) (m - l)) w ∧ Rd w B size A' (h - l) (m - l) ((xs.take (h * size)).drop (l * size)) ∧ (A' = A ∨ A' = A.map (·.add (l * size))) :=
 ⟨_, jm hT w hr.max hr.cap l h m hlo hhi hmx hmh h1 h2 h3 h4, vw hr l h m h1 h2 h3 h4, Ve _ _ _ _⟩
theorem V9 {ops : Array Oper} {rest : List Oper} {o : Oper} {a : Act} {Q : Exit → Act → World → Prop} {x : Operand} {lo hi mx : Option Operand} (hT : SlT P t e size bytes z) (hw : Region.wanted o (yielded ops a.tmps) = true)
  (ho : o.op = .slice t x lo hi mx) (hx : a.eval x = .slice A n c) (hr : Rd w B size A n c xs) (l h m : Nat) (hlo : Bd (lo.map a.eval) 0 l) (hhi : Bd (hi.map a.eval) n h) (hmx : Bd (mx.map a.eval) c m) (hmh : mx.isSome = true → hi.isSome = true)
  (h1 : l ≤ h) (h2 : h ≤ m) (h3 : m ≤ c) (h4 : h ≤ n)
  (hk : ∀ A', Rd w B size A' (h - l) (m - l) ((xs.take (h * size)).drop (l * size)) → wpList P ops Q rest (a.put o.dst (.slice A' (h - l) (m - l))) w) :
  wpList P ops Q (o :: rest) a w := by
 refine BigFrame.wpList_want hw fun K hK => ?_
 obtain ⟨A', hrun, hr', _⟩ := Vf hT hr l h m hlo hhi hmx (by simpa using hmh) h1 h2 h3 h4
 unfold Oper.wp execOp
 simp only [ho, hx, Sem.run_bind, Sem.run_pure, Result.andThen_ok, hrun]
 exact hK _ _ (hk A' hr')
theorem jg {src dst e : TypeId} (h1 : P.underlying src = some (.slice e)) (h2 : P.underlying dst = some .string) (h3 : P.underlying e = some (.int .u8)) {l : List UInt8} (hr : RdB w B A n c l) :
  (convert src dst (.slice A n c)).run P w = .ok (.string (str l)) w := by
 have hl := hr.length
 rcases A with _ | ad
 ·have hm : n = 0 := by
   rcases Nat.eq_zero_or_pos n with h0 | h0
   ·exact h0
   ·obtain ⟨b, off, e, _⟩ := hr.at_ h0; cases e
  subst hm
  have hn : l = [] := List.eq_nil_of_length_eq_zero hl
  subst hn
  simp [convert, run_underlying h1, run_underlying h2, run_underlying h3, Conv.bytesToString]
  rfl
 ·rw [run_convert_bytes_string w src dst e (some ad) n c h1 h3 h2]
  have hcells : ∀ j u, (l.map u8v)[j]? = some u → w.cell? (ad.add j) = some u := by
   intro j u hu
   have hj : j < l.length := by have := (List.getElem?_eq_some_iff.1 hu).1; simpa using this
   obtain ⟨b, off, e, _, hc⟩ := hr.at_ (by omega)
   injection e with e
   subst e
   have hadd : (⟨b, off, none⟩ : Addr).add j = ⟨b, off + j, none⟩ := by unfold Addr.add; split <;> simp_all
   rw [hadd]; exact hc j u hu
  have hld := run_loadCells_list (P := P) w ad (l.map u8v) hcells
  have hm : (l.map u8v) = (l.map fun x => (x.toNat : Int)).map (Value.int .u8) := by simp [u8v]
  rw [List.length_map, hl, hm] at hld
  rw [run_bytesToString (P := P) w ad n c (l.map fun x => (x.toNat : Int)) hld]
  have hf : ∀ (l : List UInt8) (s : ByteArray), (l.map fun x => (x.toNat : Int)).foldl (fun r n => r.push (UInt8.ofNat n.toNat)) s = ⟨s.data ++ l.toArray⟩ := by
   intro l
   induction l with
   | nil => intro s; simp
   | cons x l ih => intro s; simp only [List.map_cons, List.foldl_cons, ih]; simp [ByteArray.push]
  rw [hf]
  show Result.ok (Value.string ⟨#[] ++ l.toArray⟩) w = _
  rw [Array.empty_append]; rfl
theorem za {B : Nat} {a w : World} (h : Below B a w) (n : Nat) : Below B a (w.drewN n) := ⟨h.os, h.tape, h.output, h.size, h.block⟩
theorem Own.drewN (h : Own w base e size A n c xs) (k : Nat) : Own (w.drewN k) base e size A n c xs := h
theorem Rd.drewN (h : Rd w B size A n c xs) (k : Nat) : Rd (w.drewN k) B size A n c xs := h.keep fun _ _ => rfl
theorem Rd.drew (h : Rd w B size A n c xs) : Rd w.drew B size A n c xs := h.keep fun _ _ => rfl
theorem zaa (w : World) (cs : Array Value) (e : TypeId) (fr : Nat × Nat) (n c : Nat) (hs : cs.size = n * size) (hc : n ≤ c) (hm : c ≤ maxLen) :
  Rd (w.alloc (.cells cs e fr)) (w.alloc (.cells cs e fr)).heap.size size (some ⟨w.heap.size, 0, none⟩) n c cs.toList := by
 refine ⟨by simpa using hs, hc, hm, fun _ => ⟨w.heap.size, 0, rfl, by simp, fun j u hu => ?_⟩⟩
 rw [Nat.zero_add, cell_of_row _ w.heap.size j cs e fr (heap_alloc_new w _)]
 simpa using hu
theorem xe {w : World} (base : Nat) (cs : Array Value) (e n : Nat) (hb : base ≤ w.heap.size) (hm : n ≤ maxLen) (hs : cs.size = n * size) (_hpos : 0 < size) :
  Own (w.alloc (.cells cs e)) base e size (some ⟨w.heap.size, 0, none⟩) n n cs.toList := World.ownsRow_lit w cs n hb hm hs
theorem zU (l : List UInt8) : ∀ u ∈ l.map u8v, u.oneCell' = true := by simp [Vd]
theorem OwnB.at_k {l : List UInt8} (h : Own w base e 1 A n c (l.map u8v)) {k : Nat} (hk : k < n) : ∃ g, A = some ⟨g, 0, none⟩ ∧ base ≤ g ∧ g < w.heap.size ∧ ∃ hl : k < l.length, w.cell? ⟨g, k, none⟩ = some (.int .u8 (l[k].toNat : Int)) ∧
  w.frozen? ⟨g, k, none⟩ = false ∧ ∀ x : UInt8, Own (w.setCell ⟨g, k, none⟩ (u8v x)) base e 1 A n c ((l.set k x).map u8v) := by
 have hlen : l.length = n := by have := h.1; simpa using this
 rcases h.2 with ⟨hv, rfl⟩ | ⟨g, cap, cur, hv, hb, hh, _⟩
 ·omega
 injection hv with e1 e2 e3
 subst e1 e3
 refine ⟨g, rfl, hb, (Array.getElem?_eq_some_iff.1 hh).1, by omega, ?_, h.frozenAt k, fun x => ?_⟩
 ·rw [h.cellAt k (by omega), List.getElem?_map, List.getElem?_eq_getElem (by omega)]; rfl
 ·have := (h.stored k (u8v x)).1
  rwa [← List.map_set] at this
theorem OwnB.length {l : List UInt8} (h : Own w base e 1 A n c (l.map u8v)) : l.length = n := by have := h.1; simpa using this
end
def k_A : Op → Bool
  | .call c => match c.callee with
    | .builtin .append => true
    | .builtin .copy => true
    | _ => false
  | .makeSlice _ _ _ => true
  | _ => false
def k_B : Op → Bool
  | .store _ _ _ => true
  | o => k_A o
def k_S : Op → Bool
  | .slice _ _ _ _ _ => true
  | o => k_A o
def k_M : Op → Bool
  | .insert _ _ _ _ => true
  | .range _ _ => true
  | .next _ _ => true
  | o => k_A o
section
variable {P : Program} {ops : Array Oper} {Q : Exit → Act → World → Prop} {rest : List Oper} {a : Act} {w : World} {o : Oper}
theorem h_A (h : Hold (wpList P ops Q (o :: rest) a w)) (_hs : k_A o.op = true := by decide) : wpList P ops Q (o :: rest) a w := h
theorem h_B (h : Hold (wpList P ops Q (o :: rest) a w)) (_hs : k_B o.op = true := by decide) : wpList P ops Q (o :: rest) a w := h
theorem h_S (h : Hold (wpList P ops Q (o :: rest) a w)) (_hs : k_S o.op = true := by decide) : wpList P ops Q (o :: rest) a w := h
theorem h_M (h : Hold (wpList P ops Q (o :: rest) a w)) (_hs : k_M o.op = true := by decide) : wpList P ops Q (o :: rest) a w := h
end
theorem g_S : (∀ (α : Type) (l : List α) (i : Nat) (h : i < l.toArray.size), l.toArray[i] = l[i]'(by simpa using h)) ∧ (∀ (α : Type) (x : α) (l : List α) (i : Nat) (h : i + 1 < (x :: l).length), (x :: l)[i + 1] = l[i]'(by simpa using h)) ∧ (∀ (α : Type) (x : α) (l : List α) (h : 0 < (x :: l).length), (x :: l)[0] = x) ∧
    (∀ (α : Type) (l : List α) (i : Nat) (x : α), l.toArray.setIfInBounds i x = (l.set i x).toArray) ∧ (∀ (α : Type) (x y : α) (l : List α), (x :: l).set 0 y = y :: l) ∧ (∀ (α : Type) (x y : α) (l : List α) (i : Nat), (x :: l).set (i + 1) y = x :: l.set i y) :=
  ⟨fun _ _ _ _ => rfl, fun _ _ _ _ _ => rfl, fun _ _ _ _ => rfl, fun _ _ _ _ => by simp, fun _ _ _ _ => rfl, fun _ _ _ _ _ => rfl⟩
end Go.PH
end
section
namespace Go.PH
open Go.RowKit
section
variable {P : Program} {ops : Array Oper} {Q : Exit → Act → World → Prop} {rest : List Oper} {a : Act} {w : World} {dst : Option Tmp} {ty : TypeId} {pos : String} {after : Array Edge} {guard : Option (Nat × Bool)}
end
theorem ze {H : Type} {P : Program} (w : World) {ops : Array Oper} {rest : List Oper} {o : Oper} {a : Act} {Q : Exit → Act → World → Prop}
  (hg : o.guard = none) (m x v : Operand) (t : TypeId) (hop : o.op = Op.insert t m x v)
  (k e : TypeId) (K : Maps.Keyed P k) (ht : P.underlying t = some (.map k e)) (R : Value → Option (DataW H × List MemPlace)) (b n : Nat) (D : DataW H)
  (hm : a.eval m = .map (some b)) (hown : w.ownsMap P k R b n D) (hn : n < maxLen) (key val : Value) (kl : Lit) (hx : a.eval x = key) (hv : a.eval v = val) (hkey : keyOf P k key = some kl)
  (d : DataW H) (ps : List MemPlace) (hval : R val = some (d, ps))
  (hK : ∀ w', w'.ownsMap P k R b (n + 1) (D.put kl d) → w.grownBy w' (some b) → wpList P ops Q rest (a.put o.dst undef) w') :
  wpList P ops Q (o :: rest) a w := by
 refine wpList_plain hg fun K' hK' => ?_
 obtain ⟨w', hrun, r1, r2⟩ := hown.update K ht hn hkey hval
 unfold Oper.wp
 simp [execOp, hop, hm, hx, hv, hrun, Result.andThen]
 exact hK' _ _ (hK w' r1 r2)
end Go.PH
end
section
namespace Go.PH
open Go.RowKit Go.WideElems Go.ChangeMaps Go.MapKept
variable {H : Type} {P : Program} {w : World} {t k e : TypeId} {R : Value → Option (DataW H × List MemPlace)} {b n : Nat} {D : DataW H}
end Go.PH
end
section
namespace Go.PH
open Go.RowKit
section
variable {P : Program} {w w' : World} {base e size bytes t n c m B : Nat} {A A' : Option Addr} {xs news : List Value} {z : Value}
theorem kw {ops : Array Oper} {rest : List Oper} {o : Oper} {a : Act} {Q : Exit → Act → World → Prop} {x : Operand} {lo hi mx : Option Operand} (hT : SlT P t e size bytes z) (hw : Region.wanted o (yielded ops a.tmps) = true)
  (ho : o.op = .slice t x lo hi mx) (hx : a.eval x = .slice A n c) (hr : Rd w B size A n c xs) (l h m : Nat) (hlo : Bd (lo.map a.eval) 0 l) (hhi : Bd (hi.map a.eval) n h) (hmx : Bd (mx.map a.eval) c m) (hmh : mx.isSome = true → hi.isSome = true)
  (h1 : l ≤ h) (h2 : h ≤ m) (h3 : m ≤ c) (h4 : h ≤ n)
  (hk : ∀ A', Rd w B size A' (h - l) (m - l) ((xs.take (h * size)).drop (l * size)) → blk A' = blk A → wpList P ops Q rest (a.put o.dst (.slice A' (h - l) (m - l))) w) :
  wpList P ops Q (o :: rest) a w := by
 refine BigFrame.wpList_want hw fun K hK => ?_
 have hrun := jm (A := A) hT w hr.max hr.cap l h m hlo hhi hmx (by simpa using hmh) h1 h2 h3 h4
 unfold Oper.wp execOp
 simp only [ho, hx, Sem.run_bind, Sem.run_pure, Result.andThen_ok, hrun]
 exact hK _ _ (hk _ (vw hr l h m h1 h2 h3 h4) (qN _ _ _ _))
theorem Own.base_le {base' c : Nat} (h : Own w base e size A n c xs) (hb : base' ≤ base) : Own w base' e size A n c xs :=
 ⟨h.1, h.2.imp id fun ⟨g, cap, cur, h1, h2, h3⟩ => ⟨g, cap, cur, h1, Nat.le_trans hb h2, h3⟩⟩
theorem RdB.cut {l : List UInt8} {c lo k : Nat} (hr : RdB w B A n c l) (h : lo + k ≤ n) : RdB w B (cutA A 1 lo c) k (c - lo) ((l.drop lo).take k) := by
 have h1 := vw hr lo (lo + k) c (by omega) (by have := hr.cap; omega) (Nat.le_refl _) h
 have e : (((l.map u8v).take ((lo + k) * 1)).drop (lo * 1)) = ((l.drop lo).take k).map u8v := by
  rw [Nat.mul_one, Nat.mul_one, ← List.map_take, ← List.map_drop, List.drop_take, Nat.add_sub_cancel_left]
 rw [e, Nat.add_sub_cancel_left] at h1
 exact h1
end
end Go.PH
end
section
namespace Go.PH
open Go.RowKit
section
variable {P : Program} {w w' : World} {base e t n c : Nat} {A : Option Addr} {xs : List Value}
theorem qZ (hl : xs.length = n) (l : List UInt8) (C : Nat) (hC : n + l.length ≤ C) (hm : C ≤ maxLen) (hbase : base ≤ w.heap.size) :
  Own (w.drew.alloc (.cells (xs.toArray ++ (l.map u8v).toArray ++ Builtin.zeroCells (Value.int .u8 0).cells (C - (n + l.length))) e)) base e 1 (some ⟨w.heap.size, 0, none⟩) (n + l.length) C (xs ++ l.map u8v) := by
 refine ⟨by simp [hl], .inr ⟨w.heap.size, C, _, rfl, hbase, heap_alloc_new w.drew _, hC, hm, ?_, ?_⟩⟩
 ·have h1 : (Value.int IntKind.u8 0).cells.size = 1 := rfl
  simp only [Array.size_append, List.size_toArray, size_zeroCells, h1, hl, List.length_map]
  omega
 ·rw [Array.toList_append, Array.toList_append, Nat.mul_one]
  simp only []
  rw [List.take_append_of_le_length (by simp [hl]), List.take_of_length_le (by simp [hl])]
theorem kE {g cap : Nat} {cur : Array Value} (hg : w.heap[g]? = some (.cells cur e (0, 0))) (hcs : cur.size = cap) (hx : cur.toList.take n = xs) (hn : xs.length = n) (l : List UInt8) (hroom : n + l.length ≤ cap) (hm : cap ≤ maxLen) (hb : base ≤ g) :
  Own (w.setRow g (cur.toList.take n ++ l.map u8v ++ cur.toList.drop (n + l.length)).toArray) base e 1 (some ⟨g, 0, none⟩) (n + l.length) cap (xs ++ l.map u8v) := by
 refine ⟨by simp [hn], .inr ⟨g, cap, _, rfl, hb, setRow_heap w g cur _ e _ hg, hroom, hm, ?_, ?_⟩⟩
 ·simp; omega
 ·rw [hx, Nat.mul_one]
  simp only []
  rw [List.take_append_of_le_length (by simp [hn]), List.take_of_length_le (by simp [hn])]
end
end Go.PH
end

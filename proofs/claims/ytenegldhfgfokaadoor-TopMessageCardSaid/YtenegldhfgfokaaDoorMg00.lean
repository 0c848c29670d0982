/- Texts laid together: CrcMath, MdShelf, Mem, MapW, MapEntry, Mem2, Mem3, Mem4. -/
import Derived.Shelf.Utf8.RuneCount
import Derived.Shelf.Strings.Search1
import Derived.Shelf.Strings.Search2
import Derived.Shelf.Strings.Search3
import Derived.Shelf.Strings.Count
import Derived.Shelf.LaysM
import Derived.Shelf.Strings.Shaped
import Derived.Shelf.Strings.Split
import Derived.Shelf.Strings.SplitShaped
import Derived.Shelf.Unicode.Decode
import Derived.Shelf.Strings.RuneCount
import Derived.Shelf.Strings.Explode
import Derived.Shelf.Unicode.DecodeSlow
import Derived.Shelf.Unicode.DecodeAny
import Derived.Shelf.Slices.Equal
import Derived.Shelf.Slices.Empties2
import Derived.Shelf.Bytes.SlSearch0
import Derived.Ground.SlbCloneProg
import Derived.Shelf.Bytes.SlClone
import Derived.Shelf.Bytes.SlEqualAll
import Derived.Shelf.Bytes.Small
import Derived.Test.YtenegldhfgfokaaDoorProg
import Derived.WalkKit
import Derived.Lib.Hide
import Derived.Deep.Draws
import Derived.Laws.CopyOwn
import Derived.Deep.AppendLies
import Derived.Maps.AppendAt
import Derived.Deep.DeepAppendRoom
import Derived.Lib.AppendStr
import Derived.Maps.RangeWalk
import Derived.Maps.Views
import Derived.WideKeyEntry
import Derived.Maps.OwnSet
import Derived.Deep.DeepAppendWide
set_option linter.all false
set_option linter.unusedSimpArgs false
set_option linter.unusedVariables false
section
/- CRC-32C as plain mathematics: the register's steps by bits and by four bits, sums, sealing, opening. No program in sight. -/
namespace Go.PH

def crcTab : List Nat := [0x00000000, 0x105ec76f, 0x20bd8ede, 0x30e349b1, 0x417b1dbc, 0x5125dad3, 0x61c69362, 0x7198540d, 0x82f63b78, 0x92a8fc17, 0xa24bb5a6, 0xb21572c9, 0xc38d26c4, 0xd3d3e1ab, 0xe330a81a, 0xf36e6f75]
def tab (i : Nat) : Nat := crcTab.getD i 0
def nib (r : Nat) : Nat := (r / 16) ^^^ tab (r % 16)
def stepT (r : Nat) (b : Nat) : Nat := nib (nib (r ^^^ b))
/-- one bit -/
def bit (r : Nat) : Nat := if r % 2 = 1 then (r / 2) ^^^ 2197175160 else r / 2
def bitN : Nat → Nat → Nat
 | 0, r => r
 | k + 1, r => bitN k (bit r)
def stepR (r : Nat) (b : Nat) : Nat := bitN 8 (r ^^^ b)
def reg (r : Nat) (l : List UInt8) : Nat := l.foldl (fun r b => stepR r b.toNat) r
def more (s : Nat) (l : List UInt8) : Nat := 4294967295 ^^^ reg (4294967295 ^^^ s) l
def sum (l : List UInt8) : Nat := more 0 l
theorem xor_lt32 {a b : Nat} (ha : a < 4294967296) (hb : b < 4294967296) : a ^^^ b < 4294967296 := Nat.xor_lt_two_pow (n := 32) ha hb
theorem tab_lt (i : Nat) : tab i < 4294967296 := by
 unfold tab
 rcases Nat.lt_or_ge i 16 with h | h
 ·have : ∀ i : Fin 16, crcTab.getD i.val 0 < 4294967296 := by decide
  exact this ⟨i, h⟩
 ·simp only [List.getD]; rw [List.getElem?_eq_none (by simpa [crcTab] using h)]; simp
theorem nib_lt {r : Nat} (h : r < 4294967296) : nib r < 4294967296 := xor_lt32 (by omega) (tab_lt _)
theorem xor_div2 (a b : Nat) : (a ^^^ b) / 2 = (a / 2) ^^^ (b / 2) := by
 have h : ∀ x : Nat, x / 2 = x >>> 1 := fun x => by simp [Nat.shiftRight_eq_div_pow]
 rw [h, h, h, Nat.shiftRight_xor_distrib]
theorem xor_mod2 (a b : Nat) : (a ^^^ b) % 2 = (a % 2 + b % 2) % 2 := by
 have h : ∀ x : Nat, x % 2 = (x.testBit 0).toNat := fun x => by rw [Nat.testBit_zero]; rcases Nat.mod_two_eq_zero_or_one x with h | h <;> simp [h]
 rw [h (a ^^^ b), Nat.testBit_xor, h a, h b]
 cases a.testBit 0 <;> cases b.testBit 0 <;> rfl
theorem bit_xor (a b : Nat) : bit (a ^^^ b) = bit a ^^^ bit b := by
 unfold bit
 rw [xor_mod2, xor_div2]
 rcases Nat.mod_two_eq_zero_or_one a with h | h <;> rcases Nat.mod_two_eq_zero_or_one b with h' | h' <;> simp only [h, h']
 ·rfl
 ·simp [Nat.xor_assoc]
 ·simp only [Nat.add_zero, Nat.mod_succ, ↓reduceIte, Nat.zero_ne_one, if_false]; rw [Nat.xor_assoc, Nat.xor_comm (b / 2), ← Nat.xor_assoc]
 ·simp only [Nat.reduceAdd, Nat.mod_self, Nat.zero_ne_one, if_false, if_true]
  rw [Nat.xor_assoc, ← Nat.xor_assoc 2197175160, Nat.xor_comm 2197175160, Nat.xor_assoc, Nat.xor_self, Nat.xor_zero]
theorem bit_double (a : Nat) : bit (2 * a) = a := by unfold bit; rw [if_neg (by omega)]; omega
theorem bitN_xor (k : Nat) : ∀ a b : Nat, bitN k (a ^^^ b) = bitN k a ^^^ bitN k b := by
 induction k with
 | zero => intro a b; rfl
 | succ k ih => intro a b; show bitN k (bit (a ^^^ b)) = _; rw [bit_xor, ih]; rfl
theorem bitN_add (j k r : Nat) : bitN (j + k) r = bitN k (bitN j r) := by
 induction j generalizing r with
 | zero => simp [bitN]
 | succ j ih => rw [Nat.succ_add]; exact ih (bit r)
theorem bitN_pow (k a : Nat) : bitN k (2 ^ k * a) = a := by
 induction k generalizing a with
 | zero => simp [bitN]
 | succ k ih =>
  show bitN k (bit (2 ^ (k + 1) * a)) = a
  rw [show 2 ^ (k + 1) * a = 2 * (2 ^ k * a) by rw [Nat.pow_succ, Nat.mul_comm (2 ^ k) 2, Nat.mul_assoc], bit_double, ih]
theorem add_low (q m : Nat) (k : Nat) (h : m < 2 ^ k) : 2 ^ k * q + m = (2 ^ k * q) ^^^ m := by
 rw [Nat.two_pow_add_eq_or_of_lt h]
 apply Nat.eq_of_testBit_eq
 intro i
 rw [Nat.testBit_or, Nat.testBit_xor]
 rcases Nat.lt_or_ge i k with hi | hi
 ·rw [Nat.testBit_two_pow_mul]; simp [Nat.not_le.2 hi]
 ·rw [Nat.testBit_lt_two_pow (x := m) (Nat.lt_of_lt_of_le h (Nat.pow_le_pow_right (by omega) hi))]; simp
theorem bitN4_low : ∀ m : Fin 16, bitN 4 m.val = tab m.val := by decide
theorem nib_eq (r : Nat) : nib r = bitN 4 r := by
 have e : r = 2 ^ 4 * (r / 16) + r % 16 := by omega
 have hm : r % 16 < 16 := Nat.mod_lt _ (by omega)
 conv => rhs; rw [e, add_low _ _ 4 hm, bitN_xor, bitN_pow]
 have := bitN4_low ⟨r % 16, hm⟩
 simp only at this
 rw [this]; rfl
theorem stepT_eq (r b : Nat) : stepT r b = stepR r b := by
 unfold stepT stepR
 rw [nib_eq, nib_eq, ← bitN_add]

theorem reg_snoc (r : Nat) (a : List UInt8) (b : UInt8) : reg r (a ++ [b]) = stepR (reg r a) b.toNat := by simp [reg]
theorem sum_check : sum [49, 50, 51, 52, 53, 54, 55, 56, 57] = 3808858755 := by decide +kernel
end Go.PH
end
section
/- Contracts of Go's library, laid at this program by the kit's own command in its plain mode (shelfname.py cut it down and put the names in). -/
namespace Go.Proofs
open Go.Shelf
open Go.RowKit Go.Lib in
open Go.RowKit Go.Lib in
def Tryd.lays197_ren : Go.Shelf.Ren := ⟨fun | 197 => 76 | 260 => 83 | n => n, fun | 9 => 9 | 21 => 21 | 3 => 3 | 4 => 4 | 5 => 5 | 105 => 152 | 119 => 163 | 0 => 0 | 46 => 109 | 139 => 166 | 138 => 165 | n => n, fun | 3 => 2 | 4 => 3 | n => n⟩
theorem Tryd.lays197 : Go.Proofs.Lays.n197 Tryd.prog Tryd.lays197_ren := {
 mixed := by kernel_rfl
 f197 := Tryd.func76.trans (congrArg some (by kernel_rfl))
 f260 := Tryd.func83.trans (congrArg some (by kernel_rfl))
 t0 := Tryd.underlying0
 a0 := Tryd.isAgg0
 z0 := Tryd.sizeOf0
 v0 := Tryd.zeroValue0
 t3 := Tryd.underlying3
 a3 := Tryd.isAgg3
 z3 := Tryd.sizeOf3
 v3 := Tryd.zeroValue3
 t4 := Tryd.underlying4
 a4 := Tryd.isAgg4
 z4 := Tryd.sizeOf4
 v4 := Tryd.zeroValue4
 t5 := Tryd.underlying5
 a5 := Tryd.isAgg5
 z5 := Tryd.sizeOf5
 v5 := Tryd.zeroValue5
 t9 := Tryd.underlying9
 a9 := Tryd.isAgg9
 z9 := Tryd.sizeOf9
 v9 := Tryd.zeroValue9
 t21 := Tryd.underlying21
 a21 := Tryd.isAgg21
 z21 := Tryd.sizeOf21
 v21 := Tryd.zeroValue21
 t46 := Tryd.underlying109
 a46 := Tryd.isAgg109
 z46 := Tryd.sizeOf109
 v46 := Tryd.zeroValue109
 t105 := Tryd.underlying152
 a105 := Tryd.isAgg152
 z105 := Tryd.sizeOf152
 v105 := Tryd.zeroValue152
 t119 := Tryd.underlying163
 a119 := Tryd.isAgg163
 z119 := Tryd.sizeOf163
 t138 := Tryd.underlying165
 a138 := Tryd.isAgg165
 z138 := Tryd.sizeOf165
 v138 := Tryd.zeroValue165
 t139 := Tryd.underlying166
 a139 := Tryd.isAgg166
 z139 := Tryd.sizeOf166
 v139 := Tryd.zeroValue166
 g3 := by kernel_rfl
 g4 := by kernel_rfl }
open Go.RowKit Go.Lib in
theorem Tryd.utf8_DecodeRuneInString (s : ByteArray) (w : World) (hT : Lib.Utf8Tabs 2 3 w) :
  Calls Tryd.prog 76 #[.string s] w fun e w' => e = .returned (.tuple #[.int .i32 (Lib.decodeGo s).1, .int .i64 (Lib.decodeGo s).2]) ∧ Below w.heap.size w w' := Any.utf8_DecodeRuneInString Tryd.lays197 s w hT
end Go.Proofs
end
section
/- Words for memory that all walks share: slices that read as bytes, fresh rows. -/
namespace Go.PH
open Go.RowKit

/-- a text, by its bytes -/
def str (l : List UInt8) : ByteArray := ⟨l.toArray⟩
theorem str_toList (l : List UInt8) : (str l).toList = l := by rw [ByteArray.toList_eq]; rfl
theorem str_size (l : List UInt8) : (str l).size = l.length := rfl
theorem str_of (s : ByteArray) : str s.data.toList = s := rfl
/-- a byte as a value -/
def u8v (x : UInt8) : Value := .int .u8 (x.toNat : Int)
theorem u8v_one (x : UInt8) : (u8v x).oneCell' = true := rfl
theorem u8v_eq (x : UInt8) : u8v x = .int .u8 (x.toNat : Int) := rfl

/-- the slice value '.slice A n c' reads as the cells xs (of elements of 'size' cells each), below block B -/
structure Rd (w : World) (B size : Nat) (A : Option Addr) (n c : Nat) (xs : List Value) : Prop where
 len : xs.length = n * size
 cap : n ≤ c
 max : c ≤ maxLen
 at_ : 0 < n → ∃ b off, A = some ⟨b, off, none⟩ ∧ b < B ∧ ∀ j u, xs[j]? = some u → w.cell? ⟨b, off + j, none⟩ = some u

variable {w w' : World} {B B' size n c : Nat} {A : Option Addr} {xs : List Value}
theorem Rd.keep (h : Rd w B size A n c xs) (hk : ∀ p : Addr, p.block < B → w'.cell? p = w.cell? p) : Rd w' B size A n c xs :=
 ⟨h.len, h.cap, h.max, fun hn => by
  obtain ⟨b, off, e, hb, hc⟩ := h.at_ hn
  exact ⟨b, off, e, hb, fun j u hu => (hk _ hb).trans (hc j u hu)⟩⟩
theorem Rd.more (h : Rd w B size A n c xs) (hB : B ≤ B') : Rd w B' size A n c xs :=
 ⟨h.len, h.cap, h.max, fun hn => by
  obtain ⟨b, off, e, hb, hc⟩ := h.at_ hn
  exact ⟨b, off, e, by omega, hc⟩⟩
theorem Rd.below (h : Rd w B size A n c xs) (hb : Below B w w') : Rd w' B size A n c xs := h.keep fun _ hp => hb.cell hp
theorem Rd.nil (w : World) (B size c : Nat) (hc : c ≤ maxLen) (A : Option Addr) : Rd w B size A 0 c [] := ⟨by simp, Nat.zero_le _, hc, fun h => absurd h (Nat.lt_irrefl 0)⟩
theorem Rd.of_own {base e : Nat} (h : w.ownsRow base e size (.slice A n c) n xs) : Rd w w.heap.size size A n c xs := by
 rcases h.2 with ⟨hv, rfl⟩ | ⟨g, cap, cur, hv, _, hh, hnc, hm, hs, hx⟩
 ·injection hv with h1 h2 h3
  subst h1 h3
  exact ⟨h.1, Nat.le_refl _, by simp [maxLen], fun hn => absurd hn (Nat.lt_irrefl 0)⟩
 ·injection hv with h1 h2 h3
  subst h1 h3
  have hlt := (Array.getElem?_eq_some_iff.1 hh).1
  refine ⟨h.1, hnc, hm, fun _ => ⟨g, 0, rfl, hlt, fun j u hu => ?_⟩⟩
  rw [Nat.zero_add]
  have h' := h.cells (g := g) rfl j u hu
  have hadd : (⟨g, 0, none⟩ : Addr).add j = ⟨g, j, none⟩ := by unfold Addr.add; split <;> simp_all
  rwa [hadd] at h'
/-- a cut: 's[i:j]' -/
theorem Rd.at_k (h : Rd w B 1 A n c xs) {k : Nat} (hk : k < n) : ∃ b off u, A = some ⟨b, off, none⟩ ∧ b < B ∧ xs[k]? = some u ∧ w.cell? ⟨b, off + k, none⟩ = some u := by
 obtain ⟨b, off, e, hb, hc⟩ := h.at_ (by omega)
 have hl : k < xs.length := by have := h.len; omega
 exact ⟨b, off, xs[k], e, hb, List.getElem?_eq_getElem hl, hc k _ (List.getElem?_eq_getElem hl)⟩

/-- the first k elements -/
theorem Rd.front (h : Rd w B size A n c xs) {k : Nat} (hk : k ≤ n) : Rd w B size A k c (xs.take (k * size)) :=
 ⟨by rw [List.length_take, h.len]; exact Nat.min_eq_left (Nat.mul_le_mul_right _ hk), Nat.le_trans hk h.cap, h.max, fun hp => by
  obtain ⟨b, off, e, hb, hc⟩ := h.at_ (by omega)
  refine ⟨b, off, e, hb, fun j u hu => hc j u ?_⟩
  rw [List.getElem?_take] at hu
  split at hu
  ·exact hu
  ·cases hu⟩
/-- bytes -/
abbrev RdB (w : World) (B : Nat) (A : Option Addr) (n c : Nat) (l : List UInt8) : Prop := Rd w B 1 A n c (l.map u8v)
theorem RdB.front {l : List UInt8} (h : Rd w B 1 A n c (l.map u8v)) {k : Nat} (hk : k ≤ n) : RdB w B A k c (l.take k) := by
 have := h.front hk
 rwa [Nat.mul_one, ← List.map_take] at this
theorem RdB.length {l : List UInt8} (h : RdB w B A n c l) : l.length = n := by have := h.len; simpa using this
theorem RdB.at_k {l : List UInt8} (h : RdB w B A n c l) {k : Nat} (hk : k < n) : ∃ b off, A = some ⟨b, off, none⟩ ∧ b < B ∧ ∃ hl : k < l.length, w.cell? ⟨b, off + k, none⟩ = some (.int .u8 (l[k].toNat : Int)) := by
 obtain ⟨b, off, u, e, hb, hx, hc⟩ := Rd.at_k h hk
 have hl : k < l.length := by have := h.length; omega
 refine ⟨b, off, e, hb, hl, ?_⟩
 rw [List.getElem?_map, List.getElem?_eq_getElem hl] at hx
 simp at hx
 rw [hc, ← hx]; rfl

/-! ### stops of the walk: the next operation is one of these kinds -/
def Hold (p : Prop) : Prop := p
theorem unhold {p : Prop} (h : p) : Hold p := h
section
variable {P : Program} {ops : Array Oper} {Q : Exit → Act → World → Prop} {rest : List Oper} {a : Act} {w : World} {dst : Option Tmp} {ty : TypeId} {pos : String} {after : Array Edge} {guard : Option (Nat × Bool)}
theorem hold_append {xs : Array Operand} {ts : Array TypeId} (h : Hold (wpList P ops Q (⟨dst, .call ⟨.builtin .append, xs, ts⟩, ty, pos, after, guard⟩ :: rest) a w)) :
  wpList P ops Q (⟨dst, .call ⟨.builtin .append, xs, ts⟩, ty, pos, after, guard⟩ :: rest) a w := h
theorem hold_copy {xs : Array Operand} {ts : Array TypeId} (h : Hold (wpList P ops Q (⟨dst, .call ⟨.builtin .copy, xs, ts⟩, ty, pos, after, guard⟩ :: rest) a w)) :
  wpList P ops Q (⟨dst, .call ⟨.builtin .copy, xs, ts⟩, ty, pos, after, guard⟩ :: rest) a w := h
theorem hold_make {t : TypeId} {l c : Operand} (h : Hold (wpList P ops Q (⟨dst, .makeSlice t l c, ty, pos, after, guard⟩ :: rest) a w)) :
  wpList P ops Q (⟨dst, .makeSlice t l c, ty, pos, after, guard⟩ :: rest) a w := h
theorem hold_conv {s t : TypeId} {x : Operand} (h : Hold (wpList P ops Q (⟨dst, .convert s t x, ty, pos, after, guard⟩ :: rest) a w)) :
  wpList P ops Q (⟨dst, .convert s t x, ty, pos, after, guard⟩ :: rest) a w := h
theorem hold_slice {t : TypeId} {x : Operand} {lo hi mx : Option Operand} (h : Hold (wpList P ops Q (⟨dst, .slice t x lo hi mx, ty, pos, after, guard⟩ :: rest) a w)) :
  wpList P ops Q (⟨dst, .slice t x lo hi mx, ty, pos, after, guard⟩ :: rest) a w := h
end

/-! ### slice types -/
/-- t is the type of slices of e, whose elements take 'size' cells, 'bytes' bytes, and start at z -/
structure SlT (P : Program) (t e size bytes : Nat) (z : Value) : Prop where
 u : P.underlying t = some (.slice e)
 i : ∃ i, P.info? e = some i ∧ i.zero = some z ∧ i.size = size ∧ i.bytes = bytes
 zs : z.cells.size = size
 pos : 0 < size
theorem SlT.mk' {P : Program} {t e size bytes : Nat} {z : Value} (u : P.underlying t = some (.slice e)) (h : (P.info? e).map (fun i => (i.zero, i.size, i.bytes)) = some (some z, size, bytes))
  (zs : z.cells.size = size) (pos : 0 < size) : SlT P t e size bytes z := ⟨u, info_parts h, zs, pos⟩

/-- a slice of the call's own -/
abbrev Own (w : World) (base e size : Nat) (A : Option Addr) (n c : Nat) (xs : List Value) : Prop := w.ownsRow base e size (.slice A n c) n xs
abbrev blk (A : Option Addr) : Option Nat := A.map (·.block)
theorem ownBlock_eq (A : Option Addr) (n c : Nat) : (Value.slice A n c).ownBlock = blk A := by cases A <;> rfl

section
variable {P : Program} {w w' : World} {base e size bytes t n c m B : Nat} {A A' : Option Addr} {xs news : List Value} {z : Value}

theorem slice_of_own {v : Value} (h : w.ownsRow base e size v n xs) : ∃ A c, v = .slice A n c := by
 rcases h.2 with ⟨rfl, rfl⟩ | ⟨g, cap, cur, rfl, _⟩
 ·exact ⟨none, 0, rfl⟩
 ·exact ⟨_, _, rfl⟩
theorem Own.rd (h : Own w base e size A n c xs) : Rd w w.heap.size size A n c xs := Rd.of_own h
theorem Own.none_ (w : World) (base e size : Nat) : Own w base e size none 0 0 [] := World.ownsRow_nil w base e size
theorem Own.blk_lt (h : Own w base e size A n c xs) {g : Nat} (hg : blk A = some g) : base ≤ g ∧ g < w.heap.size := World.ownsRow.lt h g (by rw [ownBlock_eq]; exact hg)
theorem Rd.grown (h : Rd w B size A n c xs) {row : Option Nat} (hg : w.grownBy w' row) (hB : B ≤ w.heap.size) (hr : ∀ g, row = some g → B ≤ g) : Rd w' B size A n c xs :=
 h.keep fun p hp => World.cell?_of_block (hg.block p.block (by omega) (fun e => by have := hr _ e.symm; omega))
/-- reading a row whose block is not the one that was written -/
theorem Rd.grown_ne (h : Rd w B size A n c xs) {row : Option Nat} (hg : w.grownBy w' row) (hB : B ≤ w.heap.size) (hne : blk A = none ∨ blk A ≠ row) : Rd w' B size A n c xs :=
 ⟨h.len, h.cap, h.max, fun hn => by
  obtain ⟨b, off, e, hb, hc⟩ := h.at_ hn
  refine ⟨b, off, e, hb, fun j u hu => (World.cell?_of_block (hg.block b (by omega) ?_)).trans (hc j u hu)⟩
  subst e
  simpa [blk] using hne⟩

theorem run_app (hT : SlT P t e size bytes z) (ty : TypeId) (hown : Own w base e size A n c xs) {B m c' : Nat} {A' : Option Addr} {news : List Value} (hr : Rd w B size A' m c' news) (h1 : ∀ u ∈ news, u.oneCell' = true)
  (hsz : (n + m) * bytes ≤ 140737488355328) (h63 : n + m ≤ maxLen) (hbase : base ≤ w.heap.size) :
  ∃ A2 c2 w', (Builtin.append_ #[t, t] ty #[.slice A n c, .slice A' m c']).run P w = .ok (.slice A2 (n + m) c2) w' ∧ Own w' base e size A2 (n + m) c2 (xs ++ news) ∧ w.grownBy w' (blk A) ∧
   (blk A2 = blk A ∨ blk A2 = some w.heap.size) := by
 obtain ⟨i, hi, hz, hs, hby⟩ := hT.i
 rcases A' with _ | ad
 ·have hm : m = 0 := by
   rcases Nat.eq_zero_or_pos m with h0 | h0
   ·exact h0
   ·obtain ⟨b, off, e, _⟩ := hr.at_ h0; cases e
  subst hm
  have hn : news = [] := List.eq_nil_of_length_eq_zero (by simpa using hr.len)
  subst hn
  refine ⟨A, c, w, ?_, by simpa using hown, World.grownBy.refl w _, .inl rfl⟩
  rcases hown.2 with ⟨hv, rfl⟩ | ⟨g, cap, cur, hv, _, _, hnc, _⟩
  ·injection hv with h1 h2 h3
   subst h1 h3
   simp [Builtin.append_, run_underlying hT.u, sizeOf, typeInfo, hi, Builtin.lenOf, Builtin.firstCells]
  ·injection hv with h1 h2 h3
   subst h1 h3
   simp [Builtin.append_, run_underlying hT.u, sizeOf, typeInfo, hi, Builtin.lenOf, Builtin.firstCells, hnc, storeCells]
 ·have hcells : ∀ j u, news[j]? = some u → w.cell? (ad.add j) = some u := by
   intro j u hu
   have hm : 0 < m := by
    rcases Nat.eq_zero_or_pos m with h0 | h0
    ·subst h0
     have hn : news = [] := List.eq_nil_of_length_eq_zero (by simpa using hr.len)
     subst hn; simp at hu
    ·exact h0
   obtain ⟨b, off, e, _, hc⟩ := hr.at_ hm
   injection e with e
   subst e
   have hadd : (⟨b, off, none⟩ : Addr).add j = ⟨b, off + j, none⟩ := by unfold Addr.add; split <;> simp_all
   rw [hadd]; exact hc j u hu
  obtain ⟨v', w', hrun, h2, h3, _, h5⟩ := run_append_own_at (P := P) w base t ty e i z size bytes hT.u hi hz hs hby hT.zs hT.pos _ n xs hown ad m c' news hr.len hcells h1 h63 hsz hbase
  obtain ⟨A2, c2, rfl⟩ := slice_of_own h2
  rw [ownBlock_eq] at h3 h5
  rw [ownBlock_eq] at h5
  exact ⟨A2, c2, w', hrun, h2, h3, h5⟩

/-- append(own, src...) -/
theorem wp_app {ops : Array Oper} {rest : List Oper} {o : Oper} {a : Act} {Q : Exit → Act → World → Prop} {s x : Operand} (hT : SlT P t e size bytes z) (hw : Region.wanted o (yielded ops a.tmps) = true)
  (ho : o.op = .call { callee := .builtin .append, args := #[s, x], argTypes := #[t, t] }) (hs : a.eval s = .slice A n c) {c' : Nat} (hx : a.eval x = .slice A' m c')
  (hown : Own w base e size A n c xs) (hr : Rd w B size A' m c' news) (h1 : ∀ u ∈ news, u.oneCell' = true)
  (hsz : (n + m) * bytes ≤ 140737488355328) (h63 : n + m ≤ maxLen) (hbase : base ≤ w.heap.size)
  (h : ∀ A2 c2 w', Own w' base e size A2 (n + m) c2 (xs ++ news) → w.grownBy w' (blk A) → (blk A2 = blk A ∨ blk A2 = some w.heap.size) → wpList P ops Q rest (a.put o.dst (.slice A2 (n + m) c2)) w') :
  wpList P ops Q (o :: rest) a w := by
 refine BigFrame.wpList_want hw fun K hK => ?_
 obtain ⟨A2, c2, w', hrun, h2, h3, h4⟩ := run_app hT o.type hown hr h1 hsz h63 hbase
 unfold Oper.wp execOp
 simp only [ho, resolve, invoke, builtin, Sem.run_bind, Sem.run_pure, Result.andThen_ok, List.map_toArray, List.map_cons, List.map_nil, hs, hx, hrun]
 exact hK _ _ (h A2 c2 w' h2 h3 h4)

/-- append(own, src...), where there is room -/
theorem run_app_fit (hT : SlT P t e size bytes z) (ty : TypeId) (hown : Own w base e size A n c xs) {B m c' : Nat} {A' : Option Addr} {news : List Value} (hr : Rd w B size A' m c' news) (h1 : ∀ u ∈ news, u.oneCell' = true)
  (hroom : n + m ≤ c) (hbase : base ≤ w.heap.size) :
  ∃ w', (Builtin.append_ #[t, t] ty #[.slice A n c, .slice A' m c']).run P w = .ok (.slice A (n + m) c) w' ∧ Own w' base e size A (n + m) c (xs ++ news) ∧ w.grownBy w' (blk A) := by
 obtain ⟨i, hi, hz, hs, hby⟩ := hT.i
 rcases A' with _ | ad
 ·have hm : m = 0 := by
   rcases Nat.eq_zero_or_pos m with h0 | h0
   ·exact h0
   ·obtain ⟨b, off, e, _⟩ := hr.at_ h0; cases e
  subst hm
  have hn : news = [] := List.eq_nil_of_length_eq_zero (by simpa using hr.len)
  subst hn
  refine ⟨w, ?_, by simpa using hown, World.grownBy.refl w _⟩
  rcases hown.2 with ⟨hv, rfl⟩ | ⟨g, cap, cur, hv, _, _, hnc, _⟩
  ·injection hv with h1 h2 h3
   subst h1 h3
   simp [Builtin.append_, run_underlying hT.u, sizeOf, typeInfo, hi, Builtin.lenOf, Builtin.firstCells]
  ·injection hv with h1 h2 h3
   subst h1 h3
   simp [Builtin.append_, run_underlying hT.u, sizeOf, typeInfo, hi, Builtin.lenOf, Builtin.firstCells, hnc, storeCells]
 ·have hcells : ∀ j u, news[j]? = some u → w.cell? (ad.add j) = some u := by
   intro j u hu
   have hm : 0 < m := by
    rcases Nat.eq_zero_or_pos m with h0 | h0
    ·subst h0
     have hn : news = [] := List.eq_nil_of_length_eq_zero (by simpa using hr.len)
     subst hn; simp at hu
    ·exact h0
   obtain ⟨b, off, e, _, hc⟩ := hr.at_ hm
   injection e with e
   subst e
   have hadd : (⟨b, off, none⟩ : Addr).add j = ⟨b, off + j, none⟩ := by unfold Addr.add; split <;> simp_all
   rw [hadd]; exact hc j u hu
  have hown' := hown
  rcases hown.2 with ⟨hv, rfl⟩ | ⟨g, cap, cur, hv, _⟩
  ·injection hv with h1 h2 h3
   subst h1 h3
   obtain rfl : m = 0 := by omega
   obtain ⟨v', w', hrun, h2, h3, h4, h5⟩ := run_append_own_at (P := P) w base t ty e i z size bytes hT.u hi hz hs hby hT.zs hT.pos _ 0 xs hown ad 0 c' news hr.len hcells h1 (by omega) (by rw [Nat.add_zero, Nat.zero_mul]; omega) hbase
   obtain rfl := h4.2 ⟨rfl, rfl⟩
   exact ⟨w', hrun, h2, h3⟩
  ·injection hv with h2 h3 h4
   subst h2 h4
   exact run_append_own_spare (P := P) w base t ty e i size hT.u hi hs g n c xs hown ad m c' news hr.len hcells h1 hroom
theorem wp_app_fit {ops : Array Oper} {rest : List Oper} {o : Oper} {a : Act} {Q : Exit → Act → World → Prop} {s x : Operand} (hT : SlT P t e size bytes z) (hw : Region.wanted o (yielded ops a.tmps) = true)
  (ho : o.op = .call { callee := .builtin .append, args := #[s, x], argTypes := #[t, t] }) (hs : a.eval s = .slice A n c) {c' : Nat} (hx : a.eval x = .slice A' m c')
  (hown : Own w base e size A n c xs) (hr : Rd w B size A' m c' news) (h1 : ∀ u ∈ news, u.oneCell' = true) (hroom : n + m ≤ c) (hbase : base ≤ w.heap.size)
  (h : ∀ w', Own w' base e size A (n + m) c (xs ++ news) → w.grownBy w' (blk A) → wpList P ops Q rest (a.put o.dst (.slice A (n + m) c)) w') :
  wpList P ops Q (o :: rest) a w := by
 refine BigFrame.wpList_want hw fun K hK => ?_
 obtain ⟨w', hrun, h2, h3⟩ := run_app_fit hT o.type hown hr h1 hroom hbase
 unfold Oper.wp execOp
 simp only [ho, resolve, invoke, builtin, Sem.run_bind, Sem.run_pure, Result.andThen_ok, List.map_toArray, List.map_cons, List.map_nil, hs, hx, hrun]
 exact hK _ _ (h w' h2 h3)
/-- append(own, text...) -/
theorem wp_app_str {ops : Array Oper} {rest : List Oper} {o : Oper} {a : Act} {Q : Exit → Act → World → Prop} {s x : Operand} {u : TypeId} (hT : SlT P t e 1 1 (.int .u8 0)) (hu : P.underlying u = some .string) (hw : Region.wanted o (yielded ops a.tmps) = true)
  (ho : o.op = .call { callee := .builtin .append, args := #[s, x], argTypes := #[t, u] }) (hs : a.eval s = .slice A n c) {l : List UInt8} (hx : a.eval x = .string (str l))
  (hown : Own w base e 1 A n c xs) (hsz : n + l.length ≤ 140737488355328) (hbase : base ≤ w.heap.size)
  (h : ∀ A2 c2 w', Own w' base e 1 A2 (n + l.length) c2 (xs ++ l.map u8v) → w.grownBy w' (blk A) → wpList P ops Q rest (a.put o.dst (.slice A2 (n + l.length) c2)) w') :
  wpList P ops Q (o :: rest) a w := by
 refine BigFrame.wpList_want hw fun K hK => ?_
 obtain ⟨i, hi, hz, hs1, hby⟩ := hT.i
 obtain ⟨v', w', hrun, h2, h3, _⟩ := Lib.run_append_own_string (P := P) (w := w) base t u o.type e i hT.u hu hi hz hs1 hby _ n xs hown (str l) (by rw [str_size]; simp only [maxLen]; omega) (by rw [str_size]; omega) hbase
 rw [str_size] at h2
 obtain ⟨A2, c2, rfl⟩ := slice_of_own h2
 rw [ownBlock_eq] at h3
 have e1 : Lib.strCells (str l) = l.map u8v := by
  unfold Lib.strCells
  simp [str, u8v]
 rw [e1] at h2
 unfold Oper.wp execOp
 simp only [ho, resolve, invoke, builtin, Sem.run_bind, Sem.run_pure, Result.andThen_ok, List.map_toArray, List.map_cons, List.map_nil, hs, hx, hrun]
 exact hK _ _ (h A2 c2 w' h2 h3)

/-- make([]T, n) -/
theorem wp_make {ops : Array Oper} {rest : List Oper} {o : Oper} {a : Act} {Q : Exit → Act → World → Prop} {l c : Operand} (hT : SlT P t e size bytes z) (hw : Region.wanted o (yielded ops a.tmps) = true)
  (ho : o.op = .makeSlice t l c) {kl kc : IntKind} {L C : Int} (n cap : Nat) (hl : a.eval l = .int kl L) (hc : a.eval c = .int kc C) (hL : L = (n : Int)) (hC : C = (cap : Int)) (hnc : n ≤ cap)
  (hsz : bytes * cap ≤ 281474976710656) (h63 : cap ≤ maxLen) (base : Nat) (hbase : base ≤ w.heap.size)
  (h : ∀ w', Own w' base e size (some ⟨w.heap.size, 0, none⟩) n cap ((madeCells z.cells (cap * size)).toList.take (n * size)) → w.grownBy w' none → wpList P ops Q rest (a.put o.dst (.slice (some ⟨w.heap.size, 0, none⟩) n cap)) w') :
  wpList P ops Q (o :: rest) a w := by
 refine BigFrame.wpList_want hw fun K hK => ?_
 obtain ⟨i, hi, hz, hs, hby⟩ := hT.i
 have h63' : cap ≤ 9223372036854775807 := by simpa [maxLen] using h63
 have hb' : (i.bytes : Int) * (cap : Int) ≤ 281474976710656 := by
  have h : ((i.bytes * cap : Nat) : Int) ≤ 281474976710656 := by rw [hby]; omega
  rwa [Int.natCast_mul] at h
 have hr := run_make (P := P) w t e i z hT.u hi hz kl kc (n : Int) (cap : Int) (by omega) (by omega) hb' (by omega)
 simp only [Int.toNat_natCast, hs] at hr
 subst hL hC
 unfold Oper.wp execOp
 simp only [ho, hl, hc, Sem.run_bind, Sem.run_pure, Result.andThen_ok, hr]
 refine hK _ _ (h _ ⟨?_, .inr ⟨w.heap.size, cap, _, rfl, hbase, heap_alloc_new w _, hnc, h63, size_madeCells _ _, rfl⟩⟩ (World.grownBy_alloc w _ none))
 rw [List.length_take, Array.length_toList, size_madeCells]
 exact Nat.min_eq_left (Nat.mul_le_mul_right _ hnc)

/-- a bound of a cut: left out, or a number -/
def Bd (o : Option Value) (dflt k : Nat) : Prop := (o = none ∧ k = dflt) ∨ ∃ kd X, o = some (.int kd X) ∧ X = (k : Int)
/-- where a cut slice lies -/
def cutA (A : Option Addr) (size l m : Nat) : Option Addr := if m = l then A else A.map (·.add (l * size))
theorem cutA_eq (A : Option Addr) (size l m : Nat) : cutA A size l m = A ∨ cutA A size l m = A.map (·.add (l * size)) := by unfold cutA; split <;> simp
theorem cutA_blk (A : Option Addr) (size l m : Nat) : blk (cutA A size l m) = blk A := by
 unfold cutA
 split
 ·rfl
 ·cases A with
  | none => rfl
  | some a => simp only [Option.map_some, blk]; congr 1; unfold Addr.add; split <;> rfl
theorem run_cutA (hT : SlT P t e size bytes z) (w : World) {A : Option Addr} {n c : Nat} (hmax : c ≤ maxLen) (hnc : n ≤ c) {lo hi mx : Option Value} (l h m : Nat) (hlo : Bd lo 0 l) (hhi : Bd hi n h) (hmx : Bd mx c m) (hmh : mx.isSome = true → hi.isSome = true) (h1 : l ≤ h) (h2 : h ≤ m) (h3 : m ≤ c) (h4 : h ≤ n) :
  (Instr.sliceAt t (.slice A n c) lo hi mx).run P w = .ok (.slice (cutA A size l m) (h - l) (m - l)) w := by
 unfold cutA
 obtain ⟨i, hi', hz, hs, hby⟩ := hT.i
 have hel : P.elem t = e := by simp [Program.elem, hT.u]
 have hu' : P.underlying t = some (.slice (P.elem t)) := by rw [hel]; exact hT.u
 have hb : (Instr.sliceBounds true n c lo hi mx).run P w = .ok (l, h, m) w := by
  have hm' : ∀ code, mx = none ∧ m = c ∨ ∃ v, mx = some v ∧ (Instr.sliceBound v c code).run P w = .ok m w := by
   intro code
   rcases hmx with ⟨h, e⟩ | ⟨kd, X, rfl, rfl⟩
   ·exact .inl ⟨h, e⟩
   ·exact .inr ⟨_, rfl, by rw [run_sliceBound w kd _ c code (by omega) (by omega)]; simp⟩
  have hh' : ∀ code y, h ≤ y → hi = none ∧ h = n ∨ ∃ v, hi = some v ∧ (Instr.sliceBound v y code).run P w = .ok h w := by
   intro code y hy
   rcases hhi with ⟨h, e⟩ | ⟨kd, X, rfl, rfl⟩
   ·exact .inl ⟨h, e⟩
   ·exact .inr ⟨_, rfl, by rw [run_sliceBound w kd _ y code (by omega) (by omega)]; simp⟩
  have hl' : ∀ code y, l ≤ y → lo = none ∧ l = 0 ∨ ∃ v, lo = some v ∧ (Instr.sliceBound v y code).run P w = .ok l w := by
   intro code y hy
   rcases hlo with ⟨h, e⟩ | ⟨kd, X, rfl, rfl⟩
   ·exact .inl ⟨h, e⟩
   ·exact .inr ⟨_, rfl, by rw [run_sliceBound w kd _ y code (by omega) (by omega)]; simp⟩
  unfold Instr.sliceBounds
  rcases hm' .slice3Acap with ⟨rfl, rfl⟩ | ⟨vm, rfl, em⟩
  ·rcases hh' .sliceAcap m h2 with ⟨rfl, rfl⟩ | ⟨vh, rfl, eh⟩
   ·rcases hl' .sliceB h h1 with ⟨rfl, rfl⟩ | ⟨vl, rfl, el⟩
    ·simp [Sem.run_pure]
    ·simp [Result.andThen, el]
   ·rcases hl' .sliceB h h1 with ⟨rfl, rfl⟩ | ⟨vl, rfl, el⟩
    ·simp [Result.andThen, eh]
    ·simp [Sem.run_bind, Result.andThen, eh, el]
  ·rcases hh' .slice3B m h2 with ⟨rfl, rfl⟩ | ⟨vh, rfl, eh⟩
   ·simp at hmh
   ·rcases hl' .slice3C h h1 with ⟨rfl, rfl⟩ | ⟨vl, rfl, el⟩
    ·simp [Sem.run_bind, Result.andThen, em, eh]
    ·simp [Sem.run_bind, Result.andThen, em, eh, el]
 rw [run_sliceAt_slice w t _ _ _ _ hu', run_slice_any w t A n c hu', hb]
 simp [Result.andThen, sizeOf, typeInfo, hel, hi', hs, sliced]
theorem rd_cut (hr : Rd w B size A n c xs) (l h m : Nat) (h1 : l ≤ h) (h2 : h ≤ m) (h3 : m ≤ c) (h4 : h ≤ n) : Rd w B size (cutA A size l m) (h - l) (m - l) ((xs.take (h * size)).drop (l * size)) := by
 unfold cutA
 refine ⟨?_, by omega, by have := hr.max; omega, fun hpos => ?_⟩
 ·have hlen := hr.len
  rw [List.length_drop, List.length_take, hlen, Nat.min_eq_left (Nat.mul_le_mul_right _ h4), Nat.sub_mul]
 ·obtain ⟨b, off, rfl, hb, hc⟩ := hr.at_ (by omega)
  rw [if_neg (by omega)]
  have hadd : (⟨b, off, none⟩ : Addr).add (l * size) = ⟨b, off + l * size, none⟩ := by unfold Addr.add; split <;> simp_all
  refine ⟨b, off + l * size, by simp [hadd], hb, fun j u hu => ?_⟩
  rw [List.getElem?_drop, List.getElem?_take] at hu
  split at hu
  ·rw [Nat.add_assoc]; exact hc _ u hu
  ·cases hu
theorem run_cut (hT : SlT P t e size bytes z) (hr : Rd w B size A n c xs) {lo hi mx : Option Value} (l h m : Nat) (hlo : Bd lo 0 l) (hhi : Bd hi n h) (hmx : Bd mx c m) (hmh : mx.isSome = true → hi.isSome = true) (h1 : l ≤ h) (h2 : h ≤ m) (h3 : m ≤ c) (h4 : h ≤ n) :
  ∃ A', (Instr.sliceAt t (.slice A n c) lo hi mx).run P w = .ok (.slice A' (h - l) (m - l)) w ∧ Rd w B size A' (h - l) (m - l) ((xs.take (h * size)).drop (l * size)) ∧ (A' = A ∨ A' = A.map (·.add (l * size))) :=
 ⟨_, run_cutA hT w hr.max hr.cap l h m hlo hhi hmx hmh h1 h2 h3 h4, rd_cut hr l h m h1 h2 h3 h4, cutA_eq _ _ _ _⟩
theorem wp_cut {ops : Array Oper} {rest : List Oper} {o : Oper} {a : Act} {Q : Exit → Act → World → Prop} {x : Operand} {lo hi mx : Option Operand} (hT : SlT P t e size bytes z) (hw : Region.wanted o (yielded ops a.tmps) = true)
  (ho : o.op = .slice t x lo hi mx) (hx : a.eval x = .slice A n c) (hr : Rd w B size A n c xs) (l h m : Nat) (hlo : Bd (lo.map a.eval) 0 l) (hhi : Bd (hi.map a.eval) n h) (hmx : Bd (mx.map a.eval) c m) (hmh : mx.isSome = true → hi.isSome = true)
  (h1 : l ≤ h) (h2 : h ≤ m) (h3 : m ≤ c) (h4 : h ≤ n)
  (hk : ∀ A', Rd w B size A' (h - l) (m - l) ((xs.take (h * size)).drop (l * size)) → wpList P ops Q rest (a.put o.dst (.slice A' (h - l) (m - l))) w) :
  wpList P ops Q (o :: rest) a w := by
 refine BigFrame.wpList_want hw fun K hK => ?_
 obtain ⟨A', hrun, hr', _⟩ := run_cut hT hr l h m hlo hhi hmx (by simpa using hmh) h1 h2 h3 h4
 unfold Oper.wp execOp
 simp only [ho, hx, Sem.run_bind, Sem.run_pure, Result.andThen_ok, hrun]
 exact hK _ _ (hk A' hr')

/-- string(bytes) -/
theorem run_str {src dst e : TypeId} (h1 : P.underlying src = some (.slice e)) (h2 : P.underlying dst = some .string) (h3 : P.underlying e = some (.int .u8)) {l : List UInt8} (hr : RdB w B A n c l) :
  (convert src dst (.slice A n c)).run P w = .ok (.string (str l)) w := by
 have hl := hr.length
 rcases A with _ | ad
 ·have hm : n = 0 := by
   rcases Nat.eq_zero_or_pos n with h0 | h0
   ·exact h0
   ·obtain ⟨b, off, e, _⟩ := hr.at_ h0; cases e
  subst hm
  have hn : l = [] := List.eq_nil_of_length_eq_zero hl
  subst hn
  simp [convert, run_underlying h1, run_underlying h2, run_underlying h3, Conv.bytesToString]
  rfl
 ·rw [run_convert_bytes_string w src dst e (some ad) n c h1 h3 h2]
  have hcells : ∀ j u, (l.map u8v)[j]? = some u → w.cell? (ad.add j) = some u := by
   intro j u hu
   have hj : j < l.length := by have := (List.getElem?_eq_some_iff.1 hu).1; simpa using this
   obtain ⟨b, off, e, _, hc⟩ := hr.at_ (by omega)
   injection e with e
   subst e
   have hadd : (⟨b, off, none⟩ : Addr).add j = ⟨b, off + j, none⟩ := by unfold Addr.add; split <;> simp_all
   rw [hadd]; exact hc j u hu
  have hld := run_loadCells_list (P := P) w ad (l.map u8v) hcells
  have hm : (l.map u8v) = (l.map fun x => (x.toNat : Int)).map (Value.int .u8) := by simp [u8v]
  rw [List.length_map, hl, hm] at hld
  rw [run_bytesToString (P := P) w ad n c (l.map fun x => (x.toNat : Int)) hld]
  have hf : ∀ (l : List UInt8) (s : ByteArray), (l.map fun x => (x.toNat : Int)).foldl (fun r n => r.push (UInt8.ofNat n.toNat)) s = ⟨s.data ++ l.toArray⟩ := by
   intro l
   induction l with
   | nil => intro s; simp
   | cons x l ih => intro s; simp only [List.map_cons, List.foldl_cons, ih]; simp [ByteArray.push]
  rw [hf]
  show Result.ok (Value.string ⟨#[] ++ l.toArray⟩) w = _
  rw [Array.empty_append]; rfl

theorem below_drewN {B : Nat} {a w : World} (h : Below B a w) (n : Nat) : Below B a (w.drewN n) := ⟨h.os, h.tape, h.output, h.size, h.block⟩
theorem Own.drewN (h : Own w base e size A n c xs) (k : Nat) : Own (w.drewN k) base e size A n c xs := h
theorem Rd.drewN (h : Rd w B size A n c xs) (k : Nat) : Rd (w.drewN k) B size A n c xs := h.keep fun _ _ => rfl
theorem Rd.drew (h : Rd w B size A n c xs) : Rd w.drew B size A n c xs := h.keep fun _ _ => rfl
/-- a block that was just laid, marked or not, reads as its cells -/
theorem rd_new (w : World) (cs : Array Value) (e : TypeId) (fr : Nat × Nat) (n c : Nat) (hs : cs.size = n * size) (hc : n ≤ c) (hm : c ≤ maxLen) :
  Rd (w.alloc (.cells cs e fr)) (w.alloc (.cells cs e fr)).heap.size size (some ⟨w.heap.size, 0, none⟩) n c cs.toList := by
 refine ⟨by simpa using hs, hc, hm, fun _ => ⟨w.heap.size, 0, rfl, by simp, fun j u hu => ?_⟩⟩
 rw [Nat.zero_add, cell_of_row _ w.heap.size j cs e fr (heap_alloc_new w _)]
 simpa using hu
/-- a literal's block -/
theorem own_lit {w : World} (base : Nat) (cs : Array Value) (e n : Nat) (hb : base ≤ w.heap.size) (hm : n ≤ maxLen) (hs : cs.size = n * size) (_hpos : 0 < size) :
  Own (w.alloc (.cells cs e)) base e size (some ⟨w.heap.size, 0, none⟩) n n cs.toList := World.ownsRow_lit w cs n hb hm hs
theorem map_one (l : List UInt8) : ∀ u ∈ l.map u8v, u.oneCell' = true := by simp [u8v_one]

/-- a byte of an own row: where it lies, that it may be written, what is owned behind the store -/
theorem OwnB.at_k {l : List UInt8} (h : Own w base e 1 A n c (l.map u8v)) {k : Nat} (hk : k < n) : ∃ g, A = some ⟨g, 0, none⟩ ∧ base ≤ g ∧ g < w.heap.size ∧ ∃ hl : k < l.length, w.cell? ⟨g, k, none⟩ = some (.int .u8 (l[k].toNat : Int)) ∧
  w.frozen? ⟨g, k, none⟩ = false ∧ ∀ x : UInt8, Own (w.setCell ⟨g, k, none⟩ (u8v x)) base e 1 A n c ((l.set k x).map u8v) := by
 have hlen : l.length = n := by have := h.1; simpa using this
 rcases h.2 with ⟨hv, rfl⟩ | ⟨g, cap, cur, hv, hb, hh, _⟩
 ·omega
 injection hv with e1 e2 e3
 subst e1 e3
 refine ⟨g, rfl, hb, (Array.getElem?_eq_some_iff.1 hh).1, by omega, ?_, h.frozenAt k, fun x => ?_⟩
 ·rw [h.cellAt k (by omega), List.getElem?_map, List.getElem?_eq_getElem (by omega)]; rfl
 ·have := (h.stored k (u8v x)).1
  rwa [← List.map_set] at this
theorem OwnB.length {l : List UInt8} (h : Own w base e 1 A n c (l.map u8v)) : l.length = n := by have := h.1; simpa using this
end
def k_A : Op → Bool
  | .call c => match c.callee with
    | .builtin .append => true
    | .builtin .copy => true
    | _ => false
  | .makeSlice _ _ _ => true
  | _ => false
def k_B : Op → Bool
  | .store _ _ _ => true
  | o => k_A o
def k_S : Op → Bool
  | .slice _ _ _ _ _ => true
  | o => k_A o
def k_X : Op → Bool
  | .slice _ _ _ _ _ => true
  | .convert _ _ _ => true
  | o => k_A o
def k_M : Op → Bool
  | .insert _ _ _ _ => true
  | .range _ _ => true
  | .next _ _ => true
  | o => k_A o
section
variable {P : Program} {ops : Array Oper} {Q : Exit → Act → World → Prop} {rest : List Oper} {a : Act} {w : World} {o : Oper}
theorem h_A (h : Hold (wpList P ops Q (o :: rest) a w)) (_hs : k_A o.op = true := by decide) : wpList P ops Q (o :: rest) a w := h
theorem h_B (h : Hold (wpList P ops Q (o :: rest) a w)) (_hs : k_B o.op = true := by decide) : wpList P ops Q (o :: rest) a w := h
theorem h_S (h : Hold (wpList P ops Q (o :: rest) a w)) (_hs : k_S o.op = true := by decide) : wpList P ops Q (o :: rest) a w := h
theorem h_X (h : Hold (wpList P ops Q (o :: rest) a w)) (_hs : k_X o.op = true := by decide) : wpList P ops Q (o :: rest) a w := h
theorem h_M (h : Hold (wpList P ops Q (o :: rest) a w)) (_hs : k_M o.op = true := by decide) : wpList P ops Q (o :: rest) a w := h
end
theorem g_S : (∀ (α : Type) (l : List α) (i : Nat) (h : i < l.toArray.size), l.toArray[i] = l[i]'(by simpa using h)) ∧ (∀ (α : Type) (x : α) (l : List α) (i : Nat) (h : i + 1 < (x :: l).length), (x :: l)[i + 1] = l[i]'(by simpa using h)) ∧ (∀ (α : Type) (x : α) (l : List α) (h : 0 < (x :: l).length), (x :: l)[0] = x) ∧
    (∀ (α : Type) (l : List α) (i : Nat) (x : α), l.toArray.setIfInBounds i x = (l.set i x).toArray) ∧ (∀ (α : Type) (x y : α) (l : List α), (x :: l).set 0 y = y :: l) ∧ (∀ (α : Type) (x y : α) (l : List α) (i : Nat), (x :: l).set (i + 1) y = x :: l.set i y) :=
  ⟨fun _ _ _ _ => rfl, fun _ _ _ _ _ => rfl, fun _ _ _ _ => rfl, fun _ _ _ _ => by simp, fun _ _ _ _ => rfl, fun _ _ _ _ _ => rfl⟩
end Go.PH
end
section
/- Maps in a walk: a literal's entries laid in, and where a walk over a map stops. -/
namespace Go.PH
open Go.RowKit
section
variable {P : Program} {ops : Array Oper} {Q : Exit → Act → World → Prop} {rest : List Oper} {a : Act} {w : World} {dst : Option Tmp} {ty : TypeId} {pos : String} {after : Array Edge} {guard : Option (Nat × Bool)}
end
/-- 'm[k] = v' of a literal -/
theorem wpList_insert_own {H : Type} {P : Program} (w : World) {ops : Array Oper} {rest : List Oper} {o : Oper} {a : Act} {Q : Exit → Act → World → Prop}
  (hg : o.guard = none) (m x v : Operand) (t : TypeId) (hop : o.op = Op.insert t m x v)
  (k e : TypeId) (K : Maps.Keyed P k) (ht : P.underlying t = some (.map k e)) (R : Value → Option (DataW H × List MemPlace)) (b n : Nat) (D : DataW H)
  (hm : a.eval m = .map (some b)) (hown : w.ownsMap P k R b n D) (hn : n < maxLen) (key val : Value) (kl : Lit) (hx : a.eval x = key) (hv : a.eval v = val) (hkey : keyOf P k key = some kl)
  (d : DataW H) (ps : List MemPlace) (hval : R val = some (d, ps))
  (hK : ∀ w', w'.ownsMap P k R b (n + 1) (D.put kl d) → w.grownBy w' (some b) → wpList P ops Q rest (a.put o.dst undef) w') :
  wpList P ops Q (o :: rest) a w := by
 refine wpList_plain hg fun K' hK' => ?_
 obtain ⟨w', hrun, r1, r2⟩ := hown.update K ht hn hkey hval
 unfold Oper.wp
 simp [execOp, hop, hm, hx, hv, hrun, Result.andThen]
 exact hK' _ _ (hK w' r1 r2)
end Go.PH
end
section
/- 'm[k] = append(m[k], ..)': the entry taken, then stored into, in a map that is owned. -/
namespace Go.PH
open Go.RowKit Go.WideElems Go.ChangeMaps Go.MapKept
variable {H : Type} {P : Program} {w : World} {t k e : TypeId} {R : Value → Option (DataW H × List MemPlace)} {b n : Nat} {D : DataW H}
end Go.PH
end
section
/- More words for memory: a cut slice keeps its block. -/
namespace Go.PH
open Go.RowKit
section
variable {P : Program} {w w' : World} {base e size bytes t n c m B : Nat} {A A' : Option Addr} {xs news : List Value} {z : Value}
theorem wp_cutB {ops : Array Oper} {rest : List Oper} {o : Oper} {a : Act} {Q : Exit → Act → World → Prop} {x : Operand} {lo hi mx : Option Operand} (hT : SlT P t e size bytes z) (hw : Region.wanted o (yielded ops a.tmps) = true)
  (ho : o.op = .slice t x lo hi mx) (hx : a.eval x = .slice A n c) (hr : Rd w B size A n c xs) (l h m : Nat) (hlo : Bd (lo.map a.eval) 0 l) (hhi : Bd (hi.map a.eval) n h) (hmx : Bd (mx.map a.eval) c m) (hmh : mx.isSome = true → hi.isSome = true)
  (h1 : l ≤ h) (h2 : h ≤ m) (h3 : m ≤ c) (h4 : h ≤ n)
  (hk : ∀ A', Rd w B size A' (h - l) (m - l) ((xs.take (h * size)).drop (l * size)) → blk A' = blk A → wpList P ops Q rest (a.put o.dst (.slice A' (h - l) (m - l))) w) :
  wpList P ops Q (o :: rest) a w := by
 refine BigFrame.wpList_want hw fun K hK => ?_
 have hrun := run_cutA (A := A) hT w hr.max hr.cap l h m hlo hhi hmx (by simpa using hmh) h1 h2 h3 h4
 unfold Oper.wp execOp
 simp only [ho, hx, Sem.run_bind, Sem.run_pure, Result.andThen_ok, hrun]
 exact hK _ _ (hk _ (rd_cut hr l h m h1 h2 h3 h4) (cutA_blk _ _ _ _))
theorem Own.base_le {base' c : Nat} (h : Own w base e size A n c xs) (hb : base' ≤ base) : Own w base' e size A n c xs :=
 ⟨h.1, h.2.imp id fun ⟨g, cap, cur, h1, h2, h3⟩ => ⟨g, cap, cur, h1, Nat.le_trans hb h2, h3⟩⟩
theorem RdB.cut {l : List UInt8} {c lo k : Nat} (hr : RdB w B A n c l) (h : lo + k ≤ n) : RdB w B (cutA A 1 lo c) k (c - lo) ((l.drop lo).take k) := by
 have h1 := rd_cut hr lo (lo + k) c (by omega) (by have := hr.cap; omega) (Nat.le_refl _) h
 have e : (((l.map u8v).take ((lo + k) * 1)).drop (lo * 1)) = ((l.drop lo).take k).map u8v := by
  rw [Nat.mul_one, Nat.mul_one, ← List.map_take, ← List.map_drop, List.drop_take, Nat.add_sub_cancel_left]
 rw [e, Nat.add_sub_cancel_left] at h1
 exact h1
end
end Go.PH
end
section
/- append of a text to an own row near the form's reach: growslice's own test is what bounds it. -/
namespace Go.PH
open Go.RowKit
section
variable {P : Program} {w w' : World} {base e t n c : Nat} {A : Option Addr} {xs : List Value}
end
end Go.PH
end
section
/- More words for memory: append of a slice of another named type; append and cuts as one operation of a drawn region. -/
namespace Go.PH
open Go.RowKit
section
variable {P : Program} {w w' : World} {base e size bytes t t2 n c m B : Nat} {A A' : Option Addr} {xs news : List Value} {z : Value}
theorem run_append_type {e2 : TypeId} (h1 : P.underlying t = some (.slice e)) (h2 : P.underlying t2 = some (.slice e2)) (ty : TypeId) (u v : Value) (w : World) :
  (Builtin.append_ #[t, t2] ty #[u, v]).run P w = (Builtin.append_ #[t, t] ty #[u, v]).run P w := by
 cases u <;> simp [Builtin.append_, run_underlying h1, run_underlying h2]
theorem op_app {ops : Array Oper} {o : Oper} {a : Act} {K : Act → World → Prop} {Q : Exit → Act → World → Prop} {s x : Operand} {e2 : TypeId} (hT : SlT P t e size bytes z) (h2 : P.underlying t2 = some (.slice e2))
  (ho : o.op = .call { callee := .builtin .append, args := #[s, x], argTypes := #[t, t2] }) (hs : a.eval s = .slice A n c) {c' : Nat} (hx : a.eval x = .slice A' m c')
  (hown : Own w base e size A n c xs) (hr : Rd w B size A' m c' news) (h1 : ∀ u ∈ news, u.oneCell' = true)
  (hsz : (n + m) * bytes ≤ 140737488355328) (h63 : n + m ≤ maxLen) (hbase : base ≤ w.heap.size)
  (h : ∀ A2 c2 w', Own w' base e size A2 (n + m) c2 (xs ++ news) → w.grownBy w' (blk A) → (blk A2 = blk A ∨ blk A2 = some w.heap.size) → K (a.put o.dst (.slice A2 (n + m) c2)) w') :
  o.wp P a w K Q := by
 obtain ⟨A2, c2, w', hrun, h2', h3, h4⟩ := run_app hT o.type hown hr h1 hsz h63 hbase
 unfold Oper.wp execOp
 simp only [ho, resolve, invoke, builtin, Sem.run_bind, Sem.run_pure, Result.andThen_ok, List.map_toArray, List.map_cons, List.map_nil, hs, hx, run_append_type hT.u h2, hrun]
 exact h A2 c2 w' h2' h3 h4
end
end Go.PH
end

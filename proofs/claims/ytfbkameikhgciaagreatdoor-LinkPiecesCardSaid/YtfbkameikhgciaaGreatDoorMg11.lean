/- Texts laid together: LkBytes, MdMath, MdSplit, MdFind, MdKinds, MdLaid, MdNamed. -/
import Derived.Lib.SplitLaws
import Derived.Deep.DeepCutAuto
import Derived.BigQuiet
import Derived.Deep.QuietTactic
import Derived.Test.YtfbkameikhgciaaGreatDoorCards
import Derived.Test.YtfbkameikhgciaaGreatDoorTie
import Derived.Lib.LaidTab
import Derived.Test.YtfbkameikhgciaaGreatDoorMg00
import Derived.Test.YtfbkameikhgciaaGreatDoorMg01
import Derived.Test.YtfbkameikhgciaaGreatDoorMg02
import Derived.Test.YtfbkameikhgciaaGreatDoorMg03
import Derived.Test.YtfbkameikhgciaaGreatDoorMg08
import Derived.Test.YtfbkameikhgciaaGreatDoorMg09
set_option linter.all false
set_option linter.unusedSimpArgs false
set_option linter.unusedVariables false
set_option maxRecDepth 20000
set_option maxHeartbeats 8000000
section
namespace Go.PH
open Go.RowKit Go.Proofs
def jh (most : Int) (a : As) : List UInt8 := yN (cutF most a)
theorem bplB : BPl 59 2 0 := ⟨by kernel_rfl, by omega⟩
theorem Xw (lb sz : Nat) (a : As) (A : Option Addr) (n c : Nat) (w : World) (h4 : w.cell? ⟨lb, 4, none⟩ = some (.int .u64 (sz : Int))) (hsz : sz ≤ 1000000) (hr : RdG w w.heap.size A n c a.segs) (hw : a.wf) (hs : ∀ s ∈ a.segs, s.load.length ≤ 140737488351232) (hn : n ≤ 140737488351232) :
  Calls Tryz.prog 31 #[.pointer (some ⟨lb, 0, none⟩), .agg (asV a.chan a.track A n c)] w fun e w' => e = .returned (.tuple #[.string (str (jh ((sz : Int) - 12) a)), .int .i64 (xL ((sz : Int) - 12) a : Int)]) ∧ Below w.heap.size w w' := by
 have hct := fun (W : World) (h : Below w.heap.size w W) => JZ a ((sz : Int) - 12) A n c w.heap.size W (hr.below h) h.size hw hs hn
 have hlw : lb < w.heap.size := World.block_lt_of_cell? _ _ h4
 obtain ⟨xb, w0, hqb, hqv, hX, hB0⟩ := zr w (asV a.chan a.track A n c) 42
 have HWF := Lib.hid (Vn (most := (sz : Int) - 12) hw)
 have hfl := YY ((sz : Int) - 12) a
 unfold jh
 generalize cutF ((sz : Int) - 12) a = FS at *
 generalize xL ((sz : Int) - 12) a = ER at *
 have hw12 : IntKind.i64.wrap ((sz : Int) - 12) = (sz : Int) - 12 := IntWalk.i64_in _ ⟨by omega, by omega⟩
 have hwz : IntKind.i64.wrap (sz : Int) = (sz : Int) := IntWalk.i64_in _ ⟨by omega, by omega⟩
 clear hr hw hs
 unfold asV at *
 go_enter Tryz.func31, Tryz.ntmps31
 go_upto_region 1 with fail
 rw [← hqb, ← hqv]
 have hxw : w.heap.size ≤ xb := by omega
 clear hqb hqv
 have k4 : w0.cell? ⟨lb, 4, none⟩ = some (.int .u64 (sz : Int)) := (hB0.cell (p := ⟨lb, 4, none⟩) hlw).trans h4
 refine zD (fun W : World => Below w0.heap.size w0 W) (by kernel_rfl) ?_
 have hS : Below w0.heap.size w0 w0.drew := za (Below.refl _ _) 1
 have hk4 := fun (wS : World) (hSw : Below w0.heap.size w0 wS) => (hSw.cell (p := ⟨lb, 4, none⟩) (World.block_lt_of_cell? _ _ k4)).trans k4
 have hct2 := hct w0.drew (za hB0 1)
 have hB1 : Below w.heap.size w w0.drew := za hB0 1
 clear hct h4 k4
 generalize w0.drew = wd at *
 refine zv 0 (v := ?_) rfl (by kernel_rfl) (by kernel_rfl) (by kernel_rfl) hS rfl ?_ ?_
 rotate_left
 ·intro wS hSw; have k0 := (hX.below hSw).cell (j := 0) rfl; have k1 := (hX.below hSw).cell (j := 1) rfl; have k2 := (hX.below hSw).cell (j := 2) rfl; go_simp; (with_reducible rfl)
 simp only [List.getElem_toArray, List.getElem_cons_zero, Act.put, List.setIfInBounds_toArray, List.set_cons_zero, List.set_cons_succ]
 refine rg_t 1 hS ?_
 simp only [g_S, Act.put]
 refine rg_t 2 hS ?_
 simp only [g_S, Act.put]
 refine rg_t 3 hS ?_
 simp only [g_S, Act.put]
 refine zv 4 (v := ?_) rfl (by kernel_rfl) (by kernel_rfl) (by kernel_rfl) hS rfl ?_ ?_
 rotate_left
 ·intro wS hSw; have k0 := hk4 _ hSw; go_simp; (with_reducible rfl)
 simp only [g_S, Act.put]
 refine rg_t 5 hS ?_
 simp only [g_S, Act.put]
 refine rg_t 6 hS ?_
 simp only [g_S, Act.put]
 refine zi 7 rfl (by kernel_rfl) rfl (fun K hK => ?_)
 go_simp
 (with_reducible refine hct2.mono ?_)
 rintro e w1 ⟨A2, c2, rfl, hO, hB2⟩
 have hS1 : Below w0.heap.size w0 w1 := hS.trans (hB2.mono hS.size)
 refine hK _ _ hS1 ?_
 clear hK K
 try simp only [g_S, Act.put]
 refine rg_t 8 hS1 ?_
 simp only [g_S, Act.put]
 refine rg_t 9 hS1 ?_
 simp only [g_S, Act.put]
 refine rg_t 10 hS1 ?_
 simp only [g_S, Act.put]
 refine rg_t 11 hS1 ?_
 simp only [g_S, Act.put]
 refine rg_t 12 hS1 ?_
 simp only [g_S, Act.put]
 refine zK (by kernel_rfl) ?_
 replace hB2 := hB1.trans (hB2.mono hB1.size)
 clear hS hS1 hct2 hk4 hB1 hX hB0
 clear w0
 obtain ⟨bb, w2, hqb, hqv, hBb, hB12⟩ := zr w1 #[.pointer none, .slice none 0 0] 59
 have hO2 := zg hO hB12
 have hbw : w1.heap.size ≤ bb := by omega
 have hB3 := hB2.trans (hB12.mono hB2.size)
 have hwb : w.heap.size ≤ bb := by have := hB2.size; omega
 have hAb : ∀ g, blk A2 = some g → g < bb := fun g hg => by have := (hO.blk_lt hg).2; omega
 go_upto_region 3 with fail
 rw [← hqb, ← hqv]
 clear hqb hqv
 have hn2 := yw jG hO2.rd
 obtain ⟨N, hN⟩ : ∃ N, N = FS.length := ⟨_, rfl⟩
 rw [← hN] at hO2 hfl ⊢
 have HN := Lib.hid hN
 have hrF := fun (W : World) (h : Below w2.heap.size w2 W) {i : Nat} (hi : i < N) => xW jG (hO2.rd.below h) hi
 have hlt2 := hBb.lt
 have hOn : Own w2 (bb + 1) 5 1 none 0 0 (([] : List UInt8).map u8v) := Own.none_ _ _ _ _
 have hNm : (N : Int) ≤ 16388 := by omega
 clear hn2 hN hO
 go_wp2_with (with_reducible refine h_B ?_)
 go_loopw [26] (fun s26 wr => ∃ (i m c3 : Nat) (p : Value) (A3 : Option Addr), i ≤ N ∧ s26 = .int .i64 (i : Int) ∧ Hid (m = (yN (FS.take i)).length) ∧ Box wr bb 59 #[p, .slice A3 m c3] ∧ (p = .pointer none ∨ p = bPtr bb 0) ∧ Own wr (bb + 1) 5 1 A3 m c3 ((yN (FS.take i)).map u8v) ∧ KeepF (fun g => bb ≤ g) w2 wr) (fun s26 _ => N - (RowKit.intOf s26).toNat)
 case atStart => exact ⟨0, 0, 0, .pointer none, none, by omega, rfl, Lib.hid rfl, hBb, .inl rfl, hOn, .refl _ _⟩
 case round =>
  clear hOn hBb
  obtain ⟨i, m, c3, p, A3, hi, rfl, HM, hBb, hp, hO3, hK3⟩ := hrel
  have hFr : OwnF wr wd.heap.size A2 N c2 FS := j7 hO2 (fun g hg => hK3.2.1 g (by have := (hO2.blk_lt hg).2; exact this) (by have := hAb g hg; omega))
  have hBr : Below w.heap.size w wr := hB3.trans (hK3.toBelow (by have := hB3.size; omega) (fun g hg => by omega))
  have hne3 : blk A3 ≠ some bb := fun e => by have := (hO3.blk_lt e).1; omega
  by_cases hlt : i < N
  ·have g1 : (i : Int) < (N : Int) := by omega
   obtain ⟨b, off, rfl, hbB, hkl, hcl⟩ := xW jG hFr.rd hlt
   have k0 := hcl 0 _ rfl
   have k1 := hcl 1 _ rfl
   have k2 := hcl 2 _ rfl
   have k3 := hcl 3 _ rfl
   have k4 := hcl 4 _ rfl
   have k5 := hcl 5 _ rfl
   have k6 := hcl 6 _ rfl
   have k7 := hcl 7 _ rfl
   have hwf := HWF.out _ (List.getElem_mem hkl)
   have HT := Lib.hid (Yp hkl)
   clear hcl hrF
   generalize FS[i] = f at *
   simp only [Nat.add_zero] at k0
   obtain ⟨fb, w4, hqb, hqv, hF, hB4⟩ := zr wr #[.bool false, .bool false, .bool false, .bool false, .int .u8 0, .int .u8 0, .int .u16 0, .string ⟨#[]⟩] 97
   go_wp2_with (with_reducible refine h_B ?_)
   rw [← hqb, ← hqv]
   have hfb : bb < fb := by rw [hqb]; exact hBb.lt
   have hfw : wr.heap.size ≤ fb := by rw [hqb]; exact Nat.le_refl _
   clear hqb hqv
   refine zc (zm (v := .agg #[.bool f.first, .bool f.last, .bool f.beg, .bool f.fin, .int .u8 (f.ty : Int), .int .u8 (f.track : Int), .int .u16 (f.chan : Int), .string (str f.load)]) (vs := [.bool f.first, .bool f.last, .bool f.beg, .bool f.fin, .int .u8 (f.ty : Int), .int .u8 (f.track : Int), .int .u16 (f.chan : Int), .string (str f.load)]) rfl rfl rfl rfl hF rfl (by kernel_rfl) (by simp) (by simp [Value.oneCell']) #[.bool f.first, .bool f.last, .bool f.beg, .bool f.fin, .int .u8 (f.ty : Int), .int .u8 (f.track : Int), .int .u16 (f.chan : Int), .string (str f.load)] (by simp) ?_)
   intro w5 hF5 hg5 hzz
   clear hzz
   have hBb5 := (hBb.below hB4).grown hg5 (sne (by omega))
   have hO5 := zf (zg hO3 hB4) hg5 (fun g hg e => by injection e with e; have := (hO3.blk_lt hg).2; omega)
   have hK5 : KeepF (fun g => bb ≤ g) w2 w5 := hK3.trans ((KeepF.below (F := fun g => bb ≤ g) hB4).trans (.grown (F := fun g => bb ≤ g) hg5 (fun g hg => .inl (by injection hg with hg; omega))) (fun g hg => .inl hg)) (fun g hg => .inl hg)
   have hsz5 : bb + 1 ≤ w5.heap.size := hBb5.lt
   clear hF hg5 hB4 hO3 hBb hK3 k0 k1 k2 k3 k4 k5 k6 k7 hFr hfw
   clear w4
   have f0 := hF5.c0
   have f1 := hF5.c1
   have f2 := hF5.c2
   have f3 := hF5.c3
   have f4 := hF5.c4
   have f5 := hF5.c5
   have f6 := hF5.c6
   have f7 := hF5.c7
   have hfp := JW f w5 hwf.1 (by have := hwf.2; omega)
   unfold frV at hfp
   have hpl := QD f
   have hml : m ≤ 67125248 := by
    have h1 := HM.out
    have h2 := vy (FS.take i)
    have h3 : (FS.take i).length ≤ i := List.length_take_le _ _
    omega
   go_wp2_with (with_reducible refine h_B ?_)
   refine hfp.mono ?_
   rintro e w6 ⟨A6, c6, rfl, hO6, hB6⟩
   have hBb6 := hBb5.below hB6
   have hO6' := zg hO5 hB6
   have hK6 : KeepF (fun g => bb ≤ g) w2 w6 := hK5.trans (KeepF.below (F := fun g => bb ≤ g) hB6) (fun g hg => .inl hg)
   have hwr := Xy bplB w6 #[p, .slice A3 m c3] hBb6 rfl p rfl hp A3 A6 (yN (FS.take i)) f.put rfl hO6' hne3 (by have := hB6.size; omega) hO6.rd (fun e => by have := (hO6.blk_lt e).1; omega) (by omega)
   clear hfp f0 f1 f2 f3 f4 f5 f6 f7 hF5 hO5 hBb5 hK5
   go_wp2_with (with_reducible refine h_B ?_)
   refine hwr.mono ?_
   rintro e w7 ⟨rfl, hW⟩
   clear hwr
   obtain ⟨⟨A7, c7, hBb7, hO7, hne7, hA7⟩, hk7⟩ := hW
   have hK7 : KeepF (fun g => bb ≤ g) w2 w7 := hK6.trans (hk7.weak (G := fun g => bb ≤ g) (fun g hg => by rcases hg with hg | hg; exact .inl (by omega); exact .inl (by have := (hO6'.blk_lt hg).1; omega))) (fun g hg => .inl hg)
   have HM7 : Hid ((yN (FS.take i) ++ f.put).length = (yN (FS.take (i + 1))).length) := Lib.hid (by rw [HT.out])
   rw [← HT.out] at hO7 hBb7
   go_wp2_with (with_reducible refine h_B ?_)
   exact ⟨⟨i + 1, _, c7, bPtr bb 0, A7, by omega, by go_num, Lib.hid rfl, hBb7, .inr rfl, hO7, hK7⟩, by simp [RowKit.intOf]; omega⟩
  ·have g1 : ¬ (i : Int) < (N : Int) := by omega
   have HF : Hid (yN (FS.take i) = yN FS) := Lib.hid (by rw [List.take_of_length_le (by have := HN.out; omega)])
   have hst := ka (off := 0) (n := m) (c := c3) wr #[p, .slice A3 m c3] hBb A3 (yN (FS.take i)) rfl hO3
   rw [HF.out] at hst
   clear hrF
   go_wp2_with (with_reducible refine h_B ?_)
   refine hst.mono ?_
   rintro e w4 ⟨rfl, hK4⟩
   have hB4 : Below w.heap.size w w4 := hBr.trans (hK4.toBelow hBr.size (fun g hg => by have := (hO3.blk_lt hg).1; omega))
   go_wp2_with (with_reducible refine h_B ?_)
   go_ret2
   exact ⟨rfl, hB4⟩
end Go.PH
end
section
namespace Go.PH
structure MRow where
 code : Nat
 word : List UInt8
 kinds : List UInt8
deriving DecidableEq
structure RRow where
 cls : Nat
 code : Nat
 name : List UInt8
 kinds : List UInt8
deriving DecidableEq
def yo : Nat → List UInt8
 | 1 => [99, 111, 110, 110, 101, 99, 116, 105, 111, 110]
 | 2 => [115, 101, 115, 115, 105, 111, 110]
 | 3 => [101, 120, 101, 99, 117, 116, 105, 111, 110]
 | 4 => [109, 101, 115, 115, 97, 103, 101]
 | 5 => [116, 120]
 | 6 => [100, 116, 120]
 | 8 => [113, 117, 101, 117, 101]
 | _ => []
def yK : Nat → List UInt8
 | 1 => [49, 32, 115, 116, 97, 114, 116, 32, 116, 59, 50, 32, 115, 116, 97, 114, 116, 45, 111, 107, 32, 116, 59, 53, 32, 116, 117, 110, 101, 32, 119, 119, 59, 54, 32, 116, 117, 110, 101, 45, 111, 107, 32, 119, 119, 59, 55, 32, 111, 112, 101, 110, 32, 115, 59, 56, 32, 111, 112, 101, 110, 45, 111, 107, 32, 59, 49, 49, 32, 99, 108, 111, 115, 101, 32, 119, 115, 59, 49, 50, 32, 99, 108, 111, 115, 101, 45, 111, 107, 32]
 | 2 => [49, 32, 97, 116, 116, 97, 99, 104, 32, 116, 98, 59, 50, 32, 97, 116, 116, 97, 99, 104, 101, 100, 32, 116, 59, 51, 32, 100, 101, 116, 97, 99, 104, 32, 116, 59, 52, 32, 100, 101, 116, 97, 99, 104, 101, 100, 32, 116, 110, 59, 55, 32, 112, 111, 105, 110, 116, 32, 100, 59, 49, 48, 32, 99, 111, 109, 112, 108, 101, 116, 101, 100, 32, 114, 59, 49, 49, 32, 107, 110, 111, 119, 110, 32, 114, 59, 49, 50, 32, 102, 108, 117, 115, 104, 32]
 | 3 => [49, 32, 115, 121, 110, 99, 32, 59, 50, 32, 114, 101, 115, 117, 108, 116, 32, 100, 118, 59, 51, 32, 101, 120, 99, 101, 112, 116, 105, 111, 110, 32, 119, 100, 116]
 | 4 => [49, 32, 116, 114, 97, 110, 115, 102, 101, 114, 32, 115, 110, 59, 50, 32, 97, 99, 99, 101, 112, 116, 32, 114, 59, 51, 32, 114, 101, 106, 101, 99, 116, 32, 114, 119, 115, 59, 52, 32, 114, 101, 108, 101, 97, 115, 101, 32, 114, 98, 59, 55, 32, 115, 117, 98, 115, 99, 114, 105, 98, 101, 32, 115, 115, 59, 56, 32, 99, 97, 110, 99, 101, 108, 32, 115, 59, 49, 48, 32, 102, 108, 111, 119, 32, 115, 100, 59, 49, 50, 32, 115, 116, 111, 112, 32, 115]
 | 5 => [49, 32, 115, 101, 108, 101, 99, 116, 32, 59, 50, 32, 99, 111, 109, 109, 105, 116, 32, 59, 51, 32, 114, 111, 108, 108, 98, 97, 99, 107, 32]
 | 6 => [49, 32, 115, 101, 108, 101, 99, 116, 32, 59, 50, 32, 115, 116, 97, 114, 116, 32, 120, 98, 98, 59, 51, 32, 101, 110, 100, 32, 120, 98, 98, 59, 52, 32, 99, 111, 109, 109, 105, 116, 32, 120, 98, 59, 53, 32, 102, 111, 114, 103, 101, 116, 32, 120, 59, 54, 32, 103, 101, 116, 45, 116, 105, 109, 101, 111, 117, 116, 32, 120, 59, 55, 32, 112, 114, 101, 112, 97, 114, 101, 32, 120, 59, 56, 32, 114, 101, 99, 111, 118, 101, 114, 32, 59, 57, 32, 114, 111, 108, 108, 98, 97, 99, 107, 32, 120, 59, 49, 48, 32, 115, 101, 116, 45, 116, 105, 109, 101, 111, 117, 116, 32, 120, 100]
 | 8 => [49, 32, 100, 101, 99, 108, 97, 114, 101, 32, 115, 98, 100, 59, 50, 32, 100, 101, 108, 101, 116, 101, 32, 115, 98, 59, 51, 32, 112, 117, 114, 103, 101, 32, 115, 59, 52, 32, 113, 117, 101, 114, 121, 32, 115]
 | _ => []
def xQ : Nat → List MRow
 | 1 => [⟨1, [115, 116, 97, 114, 116], [116]⟩, ⟨2, [115, 116, 97, 114, 116, 45, 111, 107], [116]⟩, ⟨5, [116, 117, 110, 101], [119, 119]⟩, ⟨6, [116, 117, 110, 101, 45, 111, 107], [119, 119]⟩, ⟨7, [111, 112, 101, 110], [115]⟩, ⟨8, [111, 112, 101, 110, 45, 111, 107], []⟩, ⟨11, [99, 108, 111, 115, 101], [119, 115]⟩, ⟨12, [99, 108, 111, 115, 101, 45, 111, 107], []⟩]
 | 2 => [⟨1, [97, 116, 116, 97, 99, 104], [116, 98]⟩, ⟨2, [97, 116, 116, 97, 99, 104, 101, 100], [116]⟩, ⟨3, [100, 101, 116, 97, 99, 104], [116]⟩, ⟨4, [100, 101, 116, 97, 99, 104, 101, 100], [116, 110]⟩, ⟨7, [112, 111, 105, 110, 116], [100]⟩, ⟨10, [99, 111, 109, 112, 108, 101, 116, 101, 100], [114]⟩, ⟨11, [107, 110, 111, 119, 110], [114]⟩, ⟨12, [102, 108, 117, 115, 104], []⟩]
 | 3 => [⟨1, [115, 121, 110, 99], []⟩, ⟨2, [114, 101, 115, 117, 108, 116], [100, 118]⟩, ⟨3, [101, 120, 99, 101, 112, 116, 105, 111, 110], [119, 100, 116]⟩]
 | 4 => [⟨1, [116, 114, 97, 110, 115, 102, 101, 114], [115, 110]⟩, ⟨2, [97, 99, 99, 101, 112, 116], [114]⟩, ⟨3, [114, 101, 106, 101, 99, 116], [114, 119, 115]⟩, ⟨4, [114, 101, 108, 101, 97, 115, 101], [114, 98]⟩, ⟨7, [115, 117, 98, 115, 99, 114, 105, 98, 101], [115, 115]⟩, ⟨8, [99, 97, 110, 99, 101, 108], [115]⟩, ⟨10, [102, 108, 111, 119], [115, 100]⟩, ⟨12, [115, 116, 111, 112], [115]⟩]
 | 5 => [⟨1, [115, 101, 108, 101, 99, 116], []⟩, ⟨2, [99, 111, 109, 109, 105, 116], []⟩, ⟨3, [114, 111, 108, 108, 98, 97, 99, 107], []⟩]
 | 6 => [⟨1, [115, 101, 108, 101, 99, 116], []⟩, ⟨2, [115, 116, 97, 114, 116], [120, 98, 98]⟩, ⟨3, [101, 110, 100], [120, 98, 98]⟩, ⟨4, [99, 111, 109, 109, 105, 116], [120, 98]⟩, ⟨5, [102, 111, 114, 103, 101, 116], [120]⟩, ⟨6, [103, 101, 116, 45, 116, 105, 109, 101, 111, 117, 116], [120]⟩, ⟨7, [112, 114, 101, 112, 97, 114, 101], [120]⟩, ⟨8, [114, 101, 99, 111, 118, 101, 114], []⟩, ⟨9, [114, 111, 108, 108, 98, 97, 99, 107], [120]⟩, ⟨10, [115, 101, 116, 45, 116, 105, 109, 101, 111, 117, 116], [120, 100]⟩]
 | 8 => [⟨1, [100, 101, 99, 108, 97, 114, 101], [115, 98, 100]⟩, ⟨2, [100, 101, 108, 101, 116, 101], [115, 98]⟩, ⟨3, [112, 117, 114, 103, 101], [115]⟩, ⟨4, [113, 117, 101, 114, 121], [115]⟩]
 | _ => []
def refTab : List RRow := [⟨1, 1, [99, 111, 110, 110, 101, 99, 116, 105, 111, 110, 46, 115, 116, 97, 114, 116], [116]⟩, ⟨1, 2, [99, 111, 110, 110, 101, 99, 116, 105, 111, 110, 46, 115, 116, 97, 114, 116, 45, 111, 107], [116]⟩, ⟨1, 5, [99, 111, 110, 110, 101, 99, 116, 105, 111, 110, 46, 116, 117, 110, 101], [119, 119]⟩, ⟨1, 6, [99, 111, 110, 110, 101, 99, 116, 105, 111, 110, 46, 116, 117, 110, 101, 45, 111, 107], [119, 119]⟩, ⟨1, 7, [99, 111, 110, 110, 101, 99, 116, 105, 111, 110, 46, 111, 112, 101, 110], [115]⟩, ⟨1, 8, [99, 111, 110, 110, 101, 99, 116, 105, 111, 110, 46, 111, 112, 101, 110, 45, 111, 107], []⟩, ⟨1, 11, [99, 111, 110, 110, 101, 99, 116, 105, 111, 110, 46, 99, 108, 111, 115, 101], [119, 115]⟩, ⟨1, 12, [99, 111, 110, 110, 101, 99, 116, 105, 111, 110, 46, 99, 108, 111, 115, 101, 45, 111, 107], []⟩, ⟨2, 1, [115, 101, 115, 115, 105, 111, 110, 46, 97, 116, 116, 97, 99, 104], [116, 98]⟩, ⟨2, 2, [115, 101, 115, 115, 105, 111, 110, 46, 97, 116, 116, 97, 99, 104, 101, 100], [116]⟩, ⟨2, 3, [115, 101, 115, 115, 105, 111, 110, 46, 100, 101, 116, 97, 99, 104], [116]⟩, ⟨2, 4, [115, 101, 115, 115, 105, 111, 110, 46, 100, 101, 116, 97, 99, 104, 101, 100], [116, 110]⟩, ⟨2, 7, [115, 101, 115, 115, 105, 111, 110, 46, 112, 111, 105, 110, 116], [100]⟩, ⟨2, 10, [115, 101, 115, 115, 105, 111, 110, 46, 99, 111, 109, 112, 108, 101, 116, 101, 100], [114]⟩, ⟨2, 11, [115, 101, 115, 115, 105, 111, 110, 46, 107, 110, 111, 119, 110], [114]⟩, ⟨2, 12, [115, 101, 115, 115, 105, 111, 110, 46, 102, 108, 117, 115, 104], []⟩, ⟨3, 1, [101, 120, 101, 99, 117, 116, 105, 111, 110, 46, 115, 121, 110, 99], []⟩, ⟨3, 2, [101, 120, 101, 99, 117, 116, 105, 111, 110, 46, 114, 101, 115, 117, 108, 116], [100, 118]⟩, ⟨3, 3, [101, 120, 101, 99, 117, 116, 105, 111, 110, 46, 101, 120, 99, 101, 112, 116, 105, 111, 110], [119, 100, 116]⟩, ⟨4, 1, [109, 101, 115, 115, 97, 103, 101, 46, 116, 114, 97, 110, 115, 102, 101, 114], [115, 110]⟩, ⟨4, 2, [109, 101, 115, 115, 97, 103, 101, 46, 97, 99, 99, 101, 112, 116], [114]⟩, ⟨4, 3, [109, 101, 115, 115, 97, 103, 101, 46, 114, 101, 106, 101, 99, 116], [114, 119, 115]⟩, ⟨4, 4, [109, 101, 115, 115, 97, 103, 101, 46, 114, 101, 108, 101, 97, 115, 101], [114, 98]⟩, ⟨4, 7, [109, 101, 115, 115, 97, 103, 101, 46, 115, 117, 98, 115, 99, 114, 105, 98, 101], [115, 115]⟩, ⟨4, 8, [109, 101, 115, 115, 97, 103, 101, 46, 99, 97, 110, 99, 101, 108], [115]⟩, ⟨4, 10, [109, 101, 115, 115, 97, 103, 101, 46, 102, 108, 111, 119], [115, 100]⟩, ⟨4, 12, [109, 101, 115, 115, 97, 103, 101, 46, 115, 116, 111, 112], [115]⟩, ⟨5, 1, [116, 120, 46, 115, 101, 108, 101, 99, 116], []⟩, ⟨5, 2, [116, 120, 46, 99, 111, 109, 109, 105, 116], []⟩, ⟨5, 3, [116, 120, 46, 114, 111, 108, 108, 98, 97, 99, 107], []⟩, ⟨6, 1, [100, 116, 120, 46, 115, 101, 108, 101, 99, 116], []⟩, ⟨6, 2, [100, 116, 120, 46, 115, 116, 97, 114, 116], [120, 98, 98]⟩, ⟨6, 3, [100, 116, 120, 46, 101, 110, 100], [120, 98, 98]⟩, ⟨6, 4, [100, 116, 120, 46, 99, 111, 109, 109, 105, 116], [120, 98]⟩, ⟨6, 5, [100, 116, 120, 46, 102, 111, 114, 103, 101, 116], [120]⟩, ⟨6, 6, [100, 116, 120, 46, 103, 101, 116, 45, 116, 105, 109, 101, 111, 117, 116], [120]⟩, ⟨6, 7, [100, 116, 120, 46, 112, 114, 101, 112, 97, 114, 101], [120]⟩, ⟨6, 8, [100, 116, 120, 46, 114, 101, 99, 111, 118, 101, 114], []⟩, ⟨6, 9, [100, 116, 120, 46, 114, 111, 108, 108, 98, 97, 99, 107], [120]⟩, ⟨6, 10, [100, 116, 120, 46, 115, 101, 116, 45, 116, 105, 109, 101, 111, 117, 116], [120, 100]⟩, ⟨8, 1, [113, 117, 101, 117, 101, 46, 100, 101, 99, 108, 97, 114, 101], [115, 98, 100]⟩, ⟨8, 2, [113, 117, 101, 117, 101, 46, 100, 101, 108, 101, 116, 101], [115, 98]⟩, ⟨8, 3, [113, 117, 101, 117, 101, 46, 112, 117, 114, 103, 101], [115]⟩, ⟨8, 4, [113, 117, 101, 117, 101, 46, 113, 117, 101, 114, 121], [115]⟩]
def zZ (c k : Nat) : Option MRow := (xQ c).find? fun r => decide (r.code = k)
def v7 (c k : Nat) : Option (List UInt8) := (zZ c k).map fun r => yo c ++ [46] ++ r.word
def Yt (c k : Nat) : Option RRow := refTab.find? fun r => decide (r.cls = c ∧ r.code = k)
theorem Y4 {c : Nat} (h : xQ c ≠ []) : c = 1 ∨ c = 2 ∨ c = 3 ∨ c = 4 ∨ c = 5 ∨ c = 6 ∨ c = 8 := by
 unfold xQ at h
 split at h <;> simp_all
theorem QN (c : Nat) : refTab.filter (fun r => decide (r.cls = c)) = (xQ c).map fun r => ⟨c, r.code, yo c ++ [46] ++ r.word, r.kinds⟩ := by
 by_cases h : c = 1 ∨ c = 2 ∨ c = 3 ∨ c = 4 ∨ c = 5 ∨ c = 6 ∨ c = 8
 ·rcases h with rfl | rfl | rfl | rfl | rfl | rfl | rfl <;> decide
 ·have h1 : xQ c = [] := by
   cases hc : xQ c with
   | nil => rfl
   | cons _ _ => exact absurd (Y4 (by rw [hc]; simp)) h
  rw [h1]
  simp only [List.map_nil, List.filter_eq_nil_iff, decide_eq_true_eq]
  have hall : ∀ r ∈ refTab, r.cls = 1 ∨ r.cls = 2 ∨ r.cls = 3 ∨ r.cls = 4 ∨ r.cls = 5 ∨ r.cls = 6 ∨ r.cls = 8 := by decide
  intro r hr e
  have := hall r hr
  rw [e] at this
  exact h this
theorem J7 (c k : Nat) : Yt c k = (zZ c k).map fun r => ⟨c, r.code, yo c ++ [46] ++ r.word, r.kinds⟩ := by
 have e : Yt c k = (refTab.filter fun r => decide (r.cls = c)).find? fun r => decide (r.code = k) := by
  unfold Yt
  rw [List.find?_filter]
  congr 1
  funext r
  simp
 rw [e, QN, List.find?_map]
 rfl
theorem Vs : ∀ r ∈ refTab, r.kinds.length ≤ 3 ∧ r.name.length ≤ 30 ∧ r.cls < 256 ∧ r.code < 256 := by decide
theorem vB {c k : Nat} {r : MRow} (h : zZ c k = some r) : r.kinds.length ≤ 3 ∧ (yo c ++ [46] ++ r.word).length ≤ 30 ∧ c < 256 ∧ r.code < 256 := by
 have hr := J7 c k
 rw [h] at hr
 exact Vs _ (List.mem_of_find?_eq_some hr)
end Go.PH
end
section
namespace Go.PH
def yD (d : UInt8) : List UInt8 → List (List UInt8)
 | [] => [[]]
 | c :: r => if c = d then [] :: yD d r else
  match yD d r with
  | h :: t => (c :: h) :: t
  | [] => [[c]]
theorem ZN {d : UInt8} : ∀ {a : List UInt8}, d ∉ a → yD d a = [a]
 | [], _ => rfl
 | c :: a, h => by
  have hc : c ≠ d := fun e => h (by simp [e])
  have ih := ZN (a := a) (fun e => h (List.mem_cons_of_mem _ e))
  rw [yD, if_neg hc, ih]
theorem vA {d : UInt8} : ∀ {a : List UInt8} (r : List UInt8), d ∉ a → yD d (a ++ d :: r) = a :: yD d r
 | [], r, _ => by simp [yD]
 | c :: a, r, h => by
  have hc : c ≠ d := fun e => h (by simp [e])
  have ih := vA (a := a) r (fun e => h (List.mem_cons_of_mem _ e))
  rw [List.cons_append, yD, if_neg hc, ih]
theorem jq : ∀ {a : List UInt8} {c : UInt8} (r : List UInt8), c ∉ a → Lib.indexByte (a ++ c :: r) c = (a.length : Int)
 | [], c, r, _ => by simp [Lib.indexByte]
 | b :: a, c, r, h => by
  have hb : (b == c) = false := by simp; exact fun e => h (by simp [e])
  have ih := jq (a := a) (c := c) r (fun e => h (by simp [e]))
  rw [List.cons_append, Lib.indexByte, hb, ih]
  have : ((a.length : Int) == -1) = false := by rw [beq_eq_false_iff_ne]; omega
  simp [this]
def sepS (d : UInt8) : ByteArray := ⟨#[d]⟩
theorem jH {d : UInt8} : ∀ (k : Nat) (l : List UInt8), l.count d = k → (Lib.splitB (sepS d) 0 k (str l)).map (fun b => b.data.toList) = yD d l
 | 0, l, h => by
  rw [Lib.splitB_zero, ZN (List.count_eq_zero.1 h)]; rfl
 | k + 1, l, h => by
  have hm : d ∈ l := List.count_pos_iff.1 (by omega)
  obtain ⟨a, r, rfl, ha⟩ := List.eq_append_cons_of_mem hm
  have hc : r.count d = k := by
   rw [List.count_append, List.count_cons_self, List.count_eq_zero.2 ha] at h; omega
  have hi : Lib.indexB (str (a ++ d :: r)) (sepS d) = (a.length : Int) := by
   show Lib.index (a ++ d :: r) [d] = _
   rw [Lib.index_one, jq r ha]
  rw [Lib.splitB_hit (sepS d) 0 k _ a.length hi, List.map_cons, vA r ha]
  have e1 : (str (a ++ d :: r)).extract (a.length + (sepS d).size) (str (a ++ d :: r)).size = str r := by
   rw [zj, xg]
   congr 1
   rw [List.take_of_length_le (Nat.le_refl _)]
   show (a ++ d :: r).drop (a.length + 1) = r
   rw [← List.drop_drop, List.drop_left]
   rfl
  have e2 : ((str (a ++ d :: r)).extract 0 (a.length + 0)).data.toList = a := by
   rw [xg, Nat.add_zero, List.take_left, List.drop_zero]; rfl
  rw [e1, e2, jH k r hc]
theorem jI {d : UInt8} (l : List UInt8) : Lib.countB (str l) (sepS d) = l.count d := by
 show Lib.count l [d] = _
 exact Lib.count_one d l
theorem vZ {d : UInt8} (l : List UInt8) : (yD d l).length = l.count d + 1 := by
 rw [← jH _ l rfl, List.length_map]
 exact Lib.splitB_all (sepS d) (by show 1 ≤ 1; omega) 0 _ _ (jI l)
theorem ZO {d : UInt8} (l : List UInt8) : (Lib.splitB (sepS d) 0 (Lib.countB (str l) (sepS d)) (str l)).map Value.string = (yD d l).map (fun p => Value.string (str p)) := by
 rw [jI, ← jH _ l rfl, List.map_map]
 rfl
def qu (l : List UInt8) : Nat := l.foldl (fun n c => (10 * n + c.toNat + 208) % 256) 0
def kJ (p : List UInt8) : Option MRow := match yD 32 p with
 | [a, b, c] => some ⟨qu a, b, c⟩
 | _ => none
def xu (k : Nat) : List (List UInt8) → Option MRow
 | [] => none
 | p :: l => match kJ p with
  | some r => if r.code = k then some r else xu k l
  | none => xu k l
theorem ZP (k : Nat) (a b : List (List UInt8)) : xu k (a ++ b) = match xu k a with
 | some r => some r
 | none => xu k b := by
 induction a with
 | nil => rfl
 | cons p a ih =>
  simp only [List.cons_append, xu]
  cases kJ p with
  | none => exact ih
  | some r =>
   simp only
   by_cases h : r.code = k
   ·rw [if_pos h, if_pos h]
   ·rw [if_neg h, if_neg h]; exact ih
theorem ZQ (k : Nat) : ∀ l : List (List UInt8), xu k l = (l.filterMap kJ).find? fun r => decide (r.code = k)
 | [] => rfl
 | p :: l => by
  have ih := ZQ k l
  rw [xu, List.filterMap_cons]
  cases kJ p with
  | none => exact ih
  | some r =>
   by_cases h : r.code = k
   ·simp [h]
   ·simp only [h, if_false, List.find?_cons, decide_false]
    exact ih
theorem XD (c : Nat) : (yD 59 (yK c)).filterMap kJ = xQ c := by
 by_cases h : c = 1 ∨ c = 2 ∨ c = 3 ∨ c = 4 ∨ c = 5 ∨ c = 6 ∨ c = 8
 ·rcases h with rfl | rfl | rfl | rfl | rfl | rfl | rfl <;> decide +kernel
 ·have h1 : xQ c = [] := by
   cases hc : xQ c with
   | nil => rfl
   | cons _ _ => exact absurd (Y4 (by rw [hc]; simp)) h
  have h2 : yK c = [] := by
   unfold yK
   split
   all_goals first | rfl | (exfalso; apply h; simp)
  rw [h1, h2]
  decide +kernel
theorem QM (c k : Nat) : xu k (yD 59 (yK c)) = zZ c k := by rw [ZQ, XD]; rfl
theorem J6 (l : List UInt8) : qu l < 256 := by
 unfold qu
 rcases List.eq_nil_or_concat l with rfl | ⟨m, x, rfl⟩
 ·decide
 ·rw [List.concat_eq_append, List.foldl_append]
  exact Nat.mod_lt _ (by decide)
theorem XE (l : List UInt8) (c : UInt8) : qu (l ++ [c]) = (10 * qu l + c.toNat + 208) % 256 := by simp [qu]
theorem qv (c : Nat) : (yK c).length ≤ 200 ∧ (yo c).length ≤ 20 := by
 unfold yK yo
 constructor <;> split <;> decide +kernel
theorem v6 (d : UInt8) : ∀ (l : List UInt8), ∀ p ∈ yD d l, p.length ≤ l.length
 | [], p, hp => by simp [yD] at hp; subst hp; simp
 | c :: r, p, hp => by
  have ih := v6 d r
  rw [yD] at hp
  split at hp
  ·rcases List.mem_cons.1 hp with rfl | hp
   ·simp
   ·have := ih p hp; simp; omega
  ·cases hd : yD d r with
   | nil => rw [hd] at hp; simp at hp; subst hp; simp
   | cons h t =>
    rw [hd] at hp ih
    rcases List.mem_cons.1 hp with rfl | hp
    ·have := ih h (List.mem_cons_self ..); simp; omega
    ·have := ih p (List.mem_cons_of_mem _ hp); simp; omega
end Go.PH
end
section
namespace Go.PH
open Go.RowKit Go.Proofs
structure MEnv (w : World) : Prop where
 mx : ∃ m : Int, w.cell? ⟨0, 0, none⟩ = some (.int .i64 m)
theorem MEnv.lt {w : World} (h : MEnv w) : 0 < w.heap.size := by
 obtain ⟨m, hm⟩ := h.mx
 exact World.block_lt_of_cell? w _ hm
theorem MEnv.on {w w' : World} (h : MEnv w) (hB : Below w.heap.size w w') : MEnv w' where
 mx := by
  have hl := h.lt
  obtain ⟨m, hm⟩ := h.mx
  exact ⟨m, (hB.cell (p := ⟨0, 0, none⟩) hl).trans hm⟩
theorem kH (c : Nat) (w : World) : Calls Tryz.prog 111 #[.int .u8 (c : Int)] w fun e w' => e = .returned (.tuple #[.string (str (yo c)), .string (str (yK c))]) ∧ w = w' := by
 by_cases h : c = 1 ∨ c = 2 ∨ c = 3 ∨ c = 4 ∨ c = 5 ∨ c = 6 ∨ c = 8
 ·rcases h with rfl | rfl | rfl | rfl | rfl | rfl | rfl
  all_goals
   go_enter Tryz.func111, Tryz.ntmps111
   go_wp2_with (with_reducible refine h_A ?_)
   go_ret2
   exact ⟨rfl, rfl⟩
 ·have h1 : yK c = [] ∧ yo c = [] := by
   constructor
   ·unfold yK
    split
    all_goals first | rfl | (exfalso; apply h; simp)
   ·unfold yo
    split
    all_goals first | rfl | (exfalso; apply h; simp)
  have e1 : ((c : Int) == 1) = false := by simp; omega
  have e2 : ((c : Int) == 2) = false := by simp; omega
  have e3 : ((c : Int) == 3) = false := by simp; omega
  have e4 : ((c : Int) == 4) = false := by simp; omega
  have e5 : ((c : Int) == 5) = false := by simp; omega
  have e6 : ((c : Int) == 6) = false := by simp; omega
  have e8 : ((c : Int) == 8) = false := by simp; omega
  rw [h1.1, h1.2]
  clear h h1
  go_enter Tryz.func111, Tryz.ntmps111
  go_wp2_with (with_reducible refine h_A ?_)
  go_ret2
  exact ⟨rfl, rfl⟩
theorem QJ (n c : Nat) : IntKind.u8.wrap (IntKind.u8.wrap (IntKind.u8.wrap (10 * (n : Int)) + (c : Int)) - 48) = (((10 * n + c + 208) % 256 : Nat) : Int) := by
 simp only [IntKind.wrap_u8]; omega
theorem J4 (l : List UInt8) (w : World) (hl : l.length ≤ 1000) : Calls Tryz.prog 120 #[.string (str l)] w fun e w' => e = .returned (.int .u8 (qu l : Int)) ∧ w = w' := by
 have hss := zj l
 go_enter Tryz.func120, Tryz.ntmps120
 go_wp2_with (with_reducible refine h_A ?_)
 go_loop [3, 7] (fun s3 s7 => ∃ k : Nat, k ≤ l.length ∧ s7 = .int .i64 k ∧ s3 = .int .u8 ((qu (l.take k) : Nat) : Int)) (fun _ s7 => l.length - (RowKit.intOf s7).toNat)
 case atStart => exact ⟨0, by omega, rfl, rfl⟩
 case round =>
  obtain ⟨k, hk, rfl, rfl⟩ := hrel
  by_cases hlt : k < l.length
  ·have hkn : (k : Int) < (l.length : Int) := by omega
   have hst := Lib.hid (QJ (qu (l.take k)) l[k].toNat)
   have hsn : Hid (qu (l.take (k + 1)) = (10 * qu (l.take k) + l[k].toNat + 208) % 256) := Lib.hid (by rw [List.take_succ_eq_append_getElem hlt, XE])
   have hlt9 := J6 (l.take k)
   go_wp2_with (with_reducible refine h_A ?_)
   refine ⟨⟨k + 1, by omega, by go_num, ?_⟩, by simp [RowKit.intOf]; omega⟩
   rw [hsn.out]
   show Value.int IntKind.u8 (((10 * ((qu (l.take k) : Nat) : Int) + ((l[k].toNat : Nat) : Int)) % 256 - 48) % 256) = _
   congr 1
   omega
  ·obtain rfl : k = l.length := by omega
   rw [List.take_length]
   go_wp2_with (with_reducible refine h_A ?_)
   go_ret
   exact ⟨rfl, rfl⟩
def Vr (r : Option MRow) : List UInt8 := (r.map (·.word)).getD []
def yg (r : Option MRow) : List UInt8 := (r.map (·.kinds)).getD []
def J5 (w : World) (r : Option MRow) (e : Ending) (w' : World) : Prop := e = .returned (.tuple #[.string (str (Vr r)), .string (str (yg r)), .bool r.isSome]) ∧ Below w.heap.size w w'
theorem qH {k : Nat} {P : List (List UInt8)} {j : Nat} (hj : j < P.length) (h : xu k (P.take j) = none) : xu k (P.take (j + 1)) = xu k [P[j]] := by
 rw [List.take_succ_eq_append_getElem hj, ZP, h]
theorem QK {k : Nat} {P : List (List UInt8)} {j : Nat} (hj : j < P.length) (h : xu k (P.take j) = none) {r : MRow} (hr : xu k [P[j]] = some r) : xu k P = some r := by
 have e : P = P.take (j + 1) ++ P.drop (j + 1) := (List.take_append_drop _ _).symm
 rw [e, ZP, qH hj h, hr]
theorem XB {k : Nat} {p a b c : List UInt8} (h : yD 32 p = [a, b, c]) : xu k [p] = if qu a = k then some ⟨qu a, b, c⟩ else none := by
 unfold xu kJ
 rw [h]
 simp only
 split <;> rfl
theorem XC {k : Nat} {p : List UInt8} (h : (yD 32 p).length ≠ 3) : xu k [p] = none := by
 unfold xu kJ
 split
 ·rename_i h1
  split at h1
  ·rename_i h2; rw [h2] at h; exact absurd rfl h
  ·cases h1
 ·rfl
theorem len3 {α : Type} {l : List α} (h : l.length = 3) : ∃ a b c, l = [a, b, c] := by
 match l, h with
 | [a, b, c], _ => exact ⟨a, b, c, rfl⟩
theorem ZM (d : UInt8) (l : List UInt8) (w : World) (he : MEnv w) (hl : l.length ≤ 100000) :
  Calls Tryz.prog 119 #[.string (str l), .string (sepS d)] w fun e w' => e = .returned (.slice (some ⟨w.heap.size, 0, none⟩) (yD d l).length (yD d l).length) ∧ w' = w.alloc (.cells ((yD d l).map (fun p => Value.string (str p))).toArray 9) := by
 obtain ⟨m, hm⟩ := he.mx
 have hsp := Tryz.strings_Split (str l) (sepS d) m w (by rw [zj]; omega) hm (by show 1 ≤ 1; omega)
 rw [ZO] at hsp
 have hcd : Lib.countB (str l) (sepS d) + 1 = (yD d l).length := by rw [jI, vZ]
 rw [hcd] at hsp
 exact hsp
theorem QL {w : World} {g : Nat} {t : TypeId} {P : List (List UInt8)} (hb : Box w g t (P.map (fun p => Value.string (str p))).toArray) {j : Nat} (hj : j < P.length) : w.cell? ⟨g, j, none⟩ = some (.string (str P[j])) := by
 refine hb.cell ?_
 simp [hj]
theorem Y3 (c k : Nat) (w : World) (he : MEnv w) :
  Calls Tryz.prog 101 #[.int .u8 (c : Int), .int .u8 (k : Int)] w (J5 w (zZ c k)) := by
 obtain ⟨RS, hRS⟩ : ∃ RS, RS = zZ c k := ⟨_, rfl⟩
 rw [← hRS]
 have HRS : Hid (RS = xu k (yD 59 (yK c))) := Lib.hid (by rw [hRS, QM])
 obtain ⟨P, hP⟩ : ∃ P, P = yD 59 (yK c) := ⟨_, rfl⟩
 have hPl : ∀ p ∈ P, p.length ≤ 200 := by
  intro p hp
  rw [hP] at hp
  have h1 := v6 59 (yK c) p hp
  have h2 := (qv c).1
  omega
 have hPn : P.length ≤ 201 := by
  have h1 : P.length = (yK c).count 59 + 1 := by rw [hP, vZ]
  have h2 := (qv c).1
  have h3 : (yK c).count 59 ≤ (yK c).length := List.count_le_length
  omega
 have hcl := kH c w
 have hsp := ZM 59 (yK c) w he (by have := (qv c).1; omega)
 have he0 := he
 rw [← hP] at hsp HRS
 clear hRS hP he
 have hB0 := (Below.refl w.heap.size w).alloc (Nat.le_refl _) (.cells (P.map (fun p => Value.string (str p))).toArray 9)
 have hb0 := Box.new w (P.map (fun p => Value.string (str p))).toArray 9
 go_enter Tryz.func101, Tryz.ntmps101
 go_wp2_with (with_reducible refine h_A ?_)
 refine hcl.mono ?_
 rintro e w1 ⟨rfl, rfl⟩
 go_wp2_with (with_reducible refine h_A ?_)
 refine hsp.mono ?_
 rintro e w1 ⟨rfl, rfl⟩
 clear hcl hsp
 obtain ⟨g0, hg0⟩ : ∃ g, g = w.heap.size := ⟨_, rfl⟩
 rw [← hg0] at hb0
 have hgw : g0 ≤ w.heap.size := by omega
 rw [← hg0]
 clear hg0
 generalize (w.alloc (.cells (P.map (fun p => Value.string (str p))).toArray 9)) = w1 at *
 go_wp2_with (with_reducible refine h_A ?_)
 go_loopw [20] (fun s wr => ∃ (j : Nat), j ≤ P.length ∧ s = .int .i64 j ∧ Hid (xu k (P.take j) = none) ∧ Box wr g0 9 (P.map (fun p => Value.string (str p))).toArray ∧ Below w.heap.size w wr) (fun s _ => P.length - (RowKit.intOf s).toNat)
 case atStart => exact ⟨0, by omega, rfl, Lib.hid rfl, hb0, hB0⟩
 case round =>
  obtain ⟨j, hj, rfl, HN, hb, hB⟩ := hrel
  clear hb0 hB0
  by_cases hlt : j < P.length
  ·have hjn : (j : Int) < (P.length : Int) := by omega
   have hp := hPl P[j] (List.getElem_mem hlt)
   have hc0 := QL hb hlt
   have HS := Lib.hid (qH hlt HN.out)
   have HH : Hid (∀ r, xu k [P[j]] = some r → RS = some r) := Lib.hid (fun r hr => by rw [HRS.out]; exact QK hlt HN.out hr)
   generalize P[j] = p at *
   have hsp := ZM 32 p wr (he0.on hB) (by omega)
   have hB2 := hB.alloc hB.size (.cells ((yD 32 p).map (fun p => Value.string (str p))).toArray 9)
   have hb2 := hb.alloc (.cells ((yD 32 p).map (fun p => Value.string (str p))).toArray 9)
   have hbp := Box.new wr ((yD 32 p).map (fun p => Value.string (str p))).toArray 9
   go_wp2_with (with_reducible refine h_A ?_)
   refine hsp.mono ?_
   rintro e w2 ⟨rfl, rfl⟩
   clear hsp hc0 hb hB
   obtain ⟨g1, hg1⟩ : ∃ g, g = wr.heap.size := ⟨_, rfl⟩
   rw [← hg1] at hbp ⊢
   clear hg1
   have HC1 : Hid ((yD 32 p).length ≠ 3 → xu k [p] = none) := Lib.hid (fun h => XC h)
   have HC3 : Hid (∀ a b c, yD 32 p = [a, b, c] → xu k [p] = if qu a = k then some ⟨qu a, b, c⟩ else none) := Lib.hid (fun a b c h => XB h)
   have hcl : ∀ q ∈ yD 32 p, q.length ≤ 1000 := fun q hq => by have := v6 32 p q hq; omega
   have hcn : (yD 32 p).length ≤ 1000 := by
    have h1 : (yD 32 p).length = p.count 32 + 1 := vZ p
    have h3 : p.count 32 ≤ p.length := List.count_le_length
    omega
   generalize yD 32 p = Q at *
   generalize (wr.alloc (.cells (Q.map (fun p => Value.string (str p))).toArray 9)) = w2 at *
   by_cases h3 : Q.length = 3
   ·obtain ⟨qa, qb, qc, rfl⟩ := len3 h3
    have k0 := hbp.c0
    have k1 := hbp.c1
    have k2 := hbp.c2
    have hla := hcl qa (by simp)
    have HQ := Lib.hid (HC3.out _ _ _ rfl)
    clear HC1 HC3 hcl h3 hbp
    have hcd := J4 qa w2 hla
    by_cases hk : qu qa = k
    ·have HR : Hid (RS = some ⟨qu qa, qb, qc⟩) := Lib.hid (HH.out _ (by rw [HQ.out, if_pos hk]))
     subst hk
     clear HH HQ HS HN
     go_wp2_with (with_reducible refine h_A ?_)
     refine hcd.mono ?_
     rintro e w3 ⟨rfl, rfl⟩
     clear hcd
     go_wp2_with (with_reducible refine h_A ?_)
     go_quiet (fail)
     go_wp2_with (with_reducible refine h_A ?_)
     go_ret3
     rw [HR.out]
     exact ⟨rfl, za hB2 _⟩
    ·have HN2 : Hid (xu k (P.take (j + 1)) = none) := Lib.hid (by rw [HS.out, HQ.out, if_neg hk])
     have hk' : ((qu qa : Int) == (k : Int)) = false := by simp; omega
     clear HH HQ HS HN hk
     go_wp2_with (with_reducible refine h_A ?_)
     refine hcd.mono ?_
     rintro e w3 ⟨rfl, rfl⟩
     clear hcd
     go_wp2_with (with_reducible refine h_A ?_)
     exact ⟨⟨j + 1, by omega, by go_num, HN2, hb2, hB2⟩, by simp [RowKit.intOf]; omega⟩
   ·have HN2 : Hid (xu k (P.take (j + 1)) = none) := Lib.hid (by rw [HS.out, HC1.out h3])
    have h3' : ((Q.length : Int) == 3) = false := by simp; omega
    clear HH HS HN HC1 HC3 hcl hbp h3
    go_wp2_with (with_reducible refine h_A ?_)
    exact ⟨⟨j + 1, by omega, by go_num, HN2, hb2, hB2⟩, by simp [RowKit.intOf]; omega⟩
  ·obtain rfl : j = P.length := by omega
   have HR : Hid (RS = none) := Lib.hid (by rw [HRS.out]; have := HN.out; rwa [List.take_length] at this)
   clear HN
   go_wp2_with (with_reducible refine h_A ?_)
   go_ret3
   rw [HR.out]
   exact ⟨rfl, hB⟩
end Go.PH
end
section
namespace Go.PH
open Go.RowKit Go.Proofs
theorem js (c k : Nat) (w : World) (he : MEnv w) :
  Calls Tryz.prog 69 #[.int .u8 (c : Int), .int .u8 (k : Int)] w fun e w' => e = .returned (.tuple #[.string (str (yg (zZ c k))), .bool (zZ c k).isSome]) ∧ Below w.heap.size w w' := by
 have hf := Y3 c k w he
 generalize zZ c k = r at *
 unfold J5 at hf
 generalize yg r = kd at *
 generalize Vr r = wd at *
 generalize r.isSome = is at *
 go_enter Tryz.func69, Tryz.ntmps69
 go_wp2_with (with_reducible refine h_A ?_)
 refine hf.mono ?_
 rintro e w1 ⟨rfl, hB⟩
 go_wp2_with (with_reducible refine h_A ?_)
 go_ret2
 exact ⟨rfl, hB⟩
end Go.PH
end
section
namespace Go.Proofs.YtfbkameikhgciaaGreatDoor
open Go.PH Go.RowKit Go.ChangeShapes Go.WideShapes Go.ChangeAt
theorem own : ownKnob Tryz.prog.godebug = none := by kernel_rfl
theorem laidOut : laidOutB Tryz.prog = true := by kernel_rfl
def utfList : List (String × DataW Unit) := [("unicode/utf8.acceptRanges", Rows.laid_unicode_utf8_acceptRanges), ("unicode/utf8.first", Rows.laid_unicode_utf8_first)]
theorem env {W : World} (h : laidMetH Tryz.prog utfList W) (hsh : W.ShapedOpen Tryz.prog) : MEnv W := ⟨Tryz.laysM146.s1_3 W hsh⟩
def u8s (l : List Nat) : Array Value := (l.map fun (n : Nat) => Value.int .u8 (n : Int)).toArray
def accN : List Nat := [128, 191, 160, 191, 128, 159, 144, 191, 128, 143, 0, 0, 0, 0, 0, 0, 0, 0, 0, 0, 0, 0, 0, 0, 0, 0, 0, 0, 0, 0, 0, 0]
def withCells (h : Array Obj) (g : Nat) (cs : Array Value) : Array Obj := h.modify g fun
 | .cells _ t frozen => .cells cs t frozen
 | o => o
noncomputable def wit (os : Os) : World :=
 let w0 := World.holding Tryz.prog os ⟨#[], #[], []⟩
 { w0 with heap := withCells (withCells w0.heap 2 (u8s accN)) 1 (u8s Go.Pinned.utf8FirstZ) }
theorem utf_met (os : Os) (args : Array Value) : laidMet Tryz.prog utfList ((wit os).forCall (fun _ _ => 0) ⟨#[], args, []⟩).memory :=
 laidMet_of_run' 8 (by kernel_rfl) (by kernel_rfl)
end Go.Proofs.YtfbkameikhgciaaGreatDoor
end
section
namespace Go.PH
open Go.RowKit Go.Proofs
def xv (c k : Nat) : List UInt8 := (v7 c k).getD []
theorem Q3 (c k : Nat) (w : World) (he : MEnv w) :
  Calls Tryz.prog 88 #[.int .u8 (c : Int), .int .u8 (k : Int)] w fun e w' => e = .returned (.tuple #[.string (str (xv c k)), .bool (v7 c k).isSome]) ∧ Below w.heap.size w w' := by
 have hcl := kH c w
 have hf := Y3 c k w he
 have hln : (yo c).length ≤ 20 := (qv c).2
 cases hr : zZ c k with
 | none =>
  have HN : Hid (xv c k = [] ∧ (v7 c k).isSome = false) := Lib.hid (by unfold xv v7; rw [hr]; exact ⟨rfl, rfl⟩)
  rw [hr] at hf
  unfold J5 at hf
  simp only [Option.isSome_none] at hf
  clear hr
  go_enter Tryz.func88, Tryz.ntmps88
  go_wp2_with (with_reducible refine h_A ?_)
  refine hcl.mono ?_
  rintro e w1 ⟨rfl, rfl⟩
  go_wp2_with (with_reducible refine h_A ?_)
  refine hf.mono ?_
  rintro e w1 ⟨rfl, hB⟩
  go_wp2_with (with_reducible refine h_A ?_)
  go_ret2
  rw [HN.out.1, HN.out.2]
  exact ⟨rfl, hB⟩
 | some r =>
  have HN : Hid (xv c k = yo c ++ [46] ++ r.word ∧ (v7 c k).isSome = true) := Lib.hid (by unfold xv v7; rw [hr]; exact ⟨rfl, rfl⟩)
  have hrl : (yo c ++ [46] ++ r.word).length ≤ 30 := (vB hr).2.1
  simp only [List.length_append, List.length_cons, List.length_nil] at hrl
  rw [hr] at hf
  unfold J5 at hf
  simp only [Option.isSome_some] at hf
  have hw : Vr (some r) = r.word := rfl
  rw [hw] at hf
  clear hr hw
  have hs1 := zj (yo c)
  have hs2 := zj r.word
  go_enter Tryz.func88, Tryz.ntmps88
  go_wp2_with (with_reducible refine h_A ?_)
  refine hcl.mono ?_
  rintro e w1 ⟨rfl, rfl⟩
  go_wp2_with (with_reducible refine h_A ?_)
  refine hf.mono ?_
  rintro e w1 ⟨rfl, hB⟩
  go_wp2_with (with_reducible refine h_A ?_)
  go_ret2
  rw [HN.out.1, HN.out.2]
  exact ⟨rfl, hB⟩
end Go.PH
end

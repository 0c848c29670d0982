/- Texts laid together: FrScan, FrBytes, FrScanMath2, FrScanMath3, FrScanMath4, OctReadText, OctRef, OctRefNum, SpMath, SpMath2, SpMath3, SpMath4, SpMath5, SpMath6, SpMath7, SpMem. -/
import Derived.Test.YtenegldhfgfokaaGreatDoorMg01
import Derived.Test.YtenegldhfgfokaaGreatDoorMg03
import Derived.Test.YtenegldhfgfokaaGreatDoorMg04
import Derived.Test.YtenegldhfgfokaaGreatDoorMg05
import Derived.Test.YtenegldhfgfokaaGreatDoorMg07
set_option linter.all false
set_option linter.unusedSimpArgs false
set_option linter.unusedVariables false
section
/- The walk of frame's Scan. -/
namespace Go.PH
open Go.RowKit Go.Proofs

theorem fnum_ok {l : List UInt8} {x : Nat} (hx : x = 1 ∨ x = 2 ∨ x = 4 ∨ x = 8) (h : x ≤ l.length) : mnum l false (x : Int) = (unbe (l.take x), l.drop x, false) := by
 rw [mnum_yes (wideB_yes (by omega)), mtake_yes h]
theorem byteF_eq {l : List UInt8} {i : Nat} (h : i < l.length) : byteF l i = l[i].toNat := by simp [byteF, List.getD, List.getElem?_eq_getElem h]
theorem byteF_lt (l : List UInt8) (i : Nat) : byteF l i < 256 := (l.getD i 0).toNat_lt
theorem unbe_two (l : List UInt8) (i : Nat) (h : i + 2 ≤ l.length) : unbe ((l.drop i).take 2) = 256 * byteF l i + byteF l (i + 1) := by
 rw [List.drop_eq_getElem_cons (by omega), List.drop_eq_getElem_cons (show i + 1 < l.length by omega), byteF_eq (show i < l.length by omega), byteF_eq (show i + 1 < l.length by omega), List.take_succ_cons, List.take_succ_cons, List.take_zero]
 unfold unbe
 simp only [List.foldl_cons, List.foldl_nil]
 omega
theorem byteF_take (l : List UInt8) (i k : Nat) (h : i < k) : byteF (l.take k) i = byteF l i := by
 simp [byteF, List.getD, List.getElem?_take, h]
theorem frN_eq (l : List UInt8) : frN l = 256 * byteF l 2 + byteF l 3 := rfl
theorem frScan_at {rest : List UInt8} {l : List Fr} {u : Nat} {fs r : List Fr × Nat × Nat} (h : fs = (l ++ (frScan rest).1, u + (frScan rest).2.1, (frScan rest).2.2)) (hr : frScan rest = r) : fs = (l ++ r.1, u + r.2.1, r.2.2) := by rw [h, hr]

set_option maxRecDepth 20000 in
set_option maxHeartbeats 4000000 in
theorem scan_any (A : Option Addr) (n c : Nat) (b : List UInt8) (w : World) (hr : RdB w w.heap.size A n c b) (hn : n ≤ 1000000000) :
  Calls Tryz.prog 9 #[.slice A n c] w fun e w' => ∃ A2 c2, e = .returned (.tuple #[.slice A2 (frScan b).1.length c2, .int .i64 (frScan b).2.1, .int .i64 (frScan b).2.2]) ∧ OwnF w' w.heap.size A2 (frScan b).1.length c2 (frScan b).1 ∧ Below w.heap.size w w' := by
 have hl := RdB.length hr
 have hcap := hr.cap
 obtain ⟨fs, hfs⟩ : ∃ fs, fs = frScan b := ⟨_, rfl⟩
 rw [← hfs]
 go_enter Tryz.func9, Tryz.ntmps9
 go_wp2_with (with_reducible refine h_A ?_)
 go_loopw [6, 5] (fun s v wr => ∃ (u N c2 : Nat) (A2 : Option Addr) (l : List Fr), u ≤ n ∧ s = .int .i64 u ∧ v = .slice A2 N c2 ∧ l.length = N ∧ N ≤ u ∧ fs = (l ++ (frScan (b.drop u)).1, u + (frScan (b.drop u)).2.1, (frScan (b.drop u)).2.2) ∧ OwnF wr w.heap.size A2 N c2 l ∧ Below w.heap.size w wr) (fun s _ _ => n - (RowKit.intOf s).toNat)
 case atStart => exact ⟨0, 0, 0, none, [], by omega, rfl, rfl, rfl, by omega, by rw [hfs]; simp, Own.none_ _ _ _ _, Below.refl _ _⟩
 case round =>
  obtain ⟨u, N, c2, A2, l, hu, rfl, rfl, hlN, hNu, hsc, ho, hBr⟩ := hrel
  have HSC := Lib.hid hsc
  have HLN := Lib.hid hlN
  clear hsc hfs hlN
  have hz := hBr.size
  go_wp2_with (with_reducible refine h_S ?_)
  refine unhold (wp_cutB slB rfl rfl rfl (hr.below hBr) u n c (.inr ⟨_, _, rfl, rfl⟩) (.inl ⟨rfl, rfl⟩) (.inl ⟨rfl, rfl⟩) (by intro h; cases h) (by omega) (by omega) (Nat.le_refl _) (Nat.le_refl _) ?_)
  intro A3 hr3 _
  simp only [Nat.mul_one] at hr3
  rw [List.take_of_length_le (by simp; omega), ← List.map_drop] at hr3
  have hrl : (b.drop u).length = n - u := by simp; omega
  generalize hrest : b.drop u = rest at *
  have HREST := Lib.hid hrest
  clear hrest
  obtain ⟨R, hR⟩ : ∃ R, R = n - u := ⟨_, rfl⟩
  obtain ⟨D, hD⟩ : ∃ D, D = c - u := ⟨_, rfl⟩
  rw [← hR, ← hD] at hr3 ⊢
  rw [← hR] at hrl
  have hRn : R ≤ 1000000000 := by omega
  have HRU := Lib.hid (show R + u = n by omega)
  clear hR hD
  have hback : Rd w w.heap.size 1 A3 R D (rest.map u8v) := Rd.keep hr3 (fun p hp => (hBr.cell hp).symm)
  have hwl := well_any A3 R D rest w.heap.size wr hr3 hz (by omega)
  cases hwell : frWell rest
  ·rw [hwell] at hwl
   have HF := Lib.hid (frScan_at HSC.out (frScan_bad hwell))
   clear hwell
   go_wp2_with (with_reducible refine h_A ?_)
   refine hwl.mono ?_
   rintro e w1 ⟨rfl, hB1⟩
   have hB2 := hBr.trans (hB1.mono hz)
   have ho2 := own_below ho hB1
   go_wp2_with (with_reducible refine h_A ?_)
   go_ret3
   rw [HF.out]
   simp only [List.append_nil, Nat.add_zero]
   rw [HLN.out]
   exact ⟨A2, c2, rfl, ho2, hB2⟩
  ·rw [hwell] at hwl
   by_cases h12 : rest.length < 12
   ·have hd12 : (R : Int) < 12 := by omega
    have HF := Lib.hid (frScan_at HSC.out (frScan_short hwell h12))
    clear hwell h12
    go_wp2_with (with_reducible refine h_A ?_)
    refine hwl.mono ?_
    rintro e w1 ⟨rfl, hB1⟩
    have hB2 := hBr.trans (hB1.mono hz)
    have ho2 := own_below ho hB1
    go_wp2_with (with_reducible refine h_A ?_)
    go_ret3
    rw [HF.out]
    simp only [List.append_nil, Nat.add_zero]
    rw [HLN.out]
    exact ⟨A2, c2, rfl, ho2, hB2⟩
   ·have hd12 : ¬ (R : Int) < 12 := by omega
    have hNb := frWell_n hwell (by omega)
    have hb0 := frWell_at hwell (k := 0) (by omega) (by omega) (by omega)
    have HW := Lib.hid hwell
    clear hwell
    have hxl : (rest.take 12).length = 12 := by simp; omega
    have hm0 : mtake (rest.take 12) false 2 = ((rest.take 12).take 2, (rest.take 12).drop 2, false) := mtake_yes (n := 2) (by omega)
    have hm1 : mnum ((rest.take 12).drop 2) false 2 = (frN rest, (rest.take 12).drop 4, false) := by
     refine (fnum_ok (x := 2) (by omega) (by simp; omega)).trans ?_
     rw [unbe_two _ 2 (by omega), byteF_take _ _ _ (by omega), byteF_take _ _ _ (by omega), frN_eq, List.drop_drop]
    have hm2 : mtake ((rest.take 12).drop 4) false 2 = (((rest.take 12).drop 4).take 2, (rest.take 12).drop 6, false) := (mtake_yes (n := 2) (by simp; omega)).trans (by rw [List.drop_drop])
    have hm3 : mnum ((rest.take 12).drop 6) false 2 = (256 * byteF rest 6 + byteF rest 7, (rest.take 12).drop 8, false) := by
     refine (fnum_ok (x := 2) (by omega) (by simp; omega)).trans ?_
     rw [unbe_two _ 6 (by omega), byteF_take _ _ _ (by omega), byteF_take _ _ _ (by omega), List.drop_drop]
    go_wp2_with (with_reducible refine h_A ?_)
    refine hwl.mono ?_
    rintro e w1 ⟨rfl, hB1⟩
    have hB2 := hBr.trans (hB1.mono hz)
    have ho2 := own_below ho hB1
    have hr31 := hr3.below (hB1.mono hz)
    have hz1 := hB2.size
    clear ho hBr hB1
    go_wp2_with (with_reducible refine h_S ?_)
    refine unhold (wp_cutB slB rfl rfl rfl hr31 0 12 D (.inl ⟨rfl, rfl⟩) (.inr ⟨_, _, rfl, rfl⟩) (.inl ⟨rfl, rfl⟩) (by intro h; cases h) (by omega) (by have := hr31.cap; omega) (Nat.le_refl _) (by omega) ?_)
    intro A4 hr4 _
    simp only [Nat.mul_one, Nat.zero_mul, List.drop_zero, ← List.map_take, Nat.sub_zero] at hr4 ⊢
    go_wp2_with (with_reducible refine h_A ?_)
    refine (rdopen_any A4 12 D (rest.take 12) w1 (hr4.more hz1) (by omega)).mono ?_
    rintro e w2 ⟨rb, vb, rfl, hrb, hvb, hRd, hB3⟩
    have hB4 := hB2.trans (hB3.mono hz1)
    have ho3 := own_below ho2 hB3
    have hz2 : w1.heap.size ≤ w2.heap.size := hB3.size
    have hA2 : ∀ g, blk A2 = some g → g < w1.heap.size := fun g hg => (ho2.blk_lt hg).2
    clear ho2 hB3
    have hFv : w1.heap.size ≤ vb ∧ vb < w2.heap.size := hRd.inF rfl
    have hAF : ∀ g, blk A2 = some g → some vb ≠ some g := by
     intro g hg e
     injection e with e
     have := hA2 g hg
     omega
    have hvw : ∀ g, some vb = some g → w.heap.size ≤ g := fun g hg => by injection hg with hg; omega
    have ht1 := rdtake_any hRd 2 (by omega) (by omega)
    rw [hm0] at ht1
    go_wp2_with (with_reducible refine h_A ?_)
    refine ht1.mono ?_
    rintro e w3 ⟨A5, c5, rfl, _, hRd3, hg3⟩
    have hB5 := hB4.grown hg3 hB4.size hvw
    have ho4 := own_stays ho3 hg3 hAF
    have hn1 := rdnum_any hRd3 2 (by omega) (by omega)
    rw [hm1] at hn1
    obtain ⟨Nn, hNn⟩ : ∃ Nn, Nn = frN rest := ⟨_, rfl⟩
    rw [← hNn] at hn1 hNb
    have HNN := Lib.hid hNn
    clear hNn ht1 hm0 hm1 hRd hg3 ho3 hB4
    have hwn : IntKind.i64.wrap ((Nn : Nat) : Int) = (Nn : Int) := IntWalk.i64_in _ ⟨by omega, by omega⟩
    go_wp2_with (with_reducible refine h_A ?_)
    refine hn1.mono ?_
    rintro e w4 ⟨rfl, hRd4, hg4⟩
    have hB6 := hB5.grown hg4 hB5.size hvw
    have ho5 := own_stays ho4 hg4 hAF
    clear hn1 hg4 hRd3 ho4 hB5
    by_cases hwait : R < Nn
    ·have hdw : (R : Int) < (Nn : Int) := by omega
     have HF := Lib.hid (frScan_at HSC.out (frScan_wait HW.out (by omega) (by rw [← HNN.out]; omega)))
     go_wp2_with (with_reducible refine h_A ?_)
     go_ret3
     rw [HF.out]
     simp only [List.append_nil, Nat.add_zero]
     rw [HLN.out]
     exact ⟨A2, c2, rfl, ho5, hB6⟩
    ·have hdw : ¬ (R : Int) < (Nn : Int) := by omega
     have HF := Lib.hid (frScan_at HSC.out (frScan_more HW.out (by omega) (by rw [← HNN.out]; omega)))
     have ht2 := rdtake_any hRd4 2 (by omega) (by omega)
     rw [hm2] at ht2
     go_wp2_with (with_reducible refine h_A ?_)
     refine ht2.mono ?_
     rintro e w5 ⟨A6, c6, rfl, _, hRd5, hg5⟩
     have hB7 := hB6.grown hg5 hB6.size hvw
     have ho6 := own_stays ho5 hg5 hAF
     have hn2 := rdnum_any (Rdr.drew hRd5) 2 (by omega) (by omega)
     rw [hm3] at hn2
     clear ht2 hm2 hm3 hRd4 hg5 ho5 hB6
     have hr35 : RdB w5 w.heap.size A3 R D rest := Rd.below hback hB7
     obtain ⟨xb, xo, rfl, hxb, hx0l, hx0⟩ := RdB.at_k hr35 (k := 0) (by omega)
     obtain ⟨xb1, xo1, e1, _, hx1l, hx1⟩ := RdB.at_k hr35 (k := 1) (by omega)
     obtain ⟨xb5, xo5, e5, _, hx5l, hx5⟩ := RdB.at_k hr35 (k := 5) (by omega)
     obtain ⟨rfl, rfl⟩ : xb = xb1 ∧ xo = xo1 := by simpa using e1
     obtain ⟨rfl, rfl⟩ : xb = xb5 ∧ xo = xo5 := by simpa using e5
     clear e1 e5
     rw [← byteF_eq hx0l] at hx0
     rw [← byteF_eq hx1l] at hx1
     rw [← byteF_eq hx5l] at hx5
     have hy0 := byteF_lt rest 0
     have hy6 := byteF_lt rest 6
     have hy7 := byteF_lt rest 7
     have hcut := rd_cut hr35 12 Nn D (by omega) (by have := hr35.cap; omega) (Nat.le_refl _) (by omega)
     simp only [Nat.mul_one, ← List.map_take, ← List.map_drop] at hcut
     have hfr : Hid (frAt rest Nn = ⟨byteF rest 0 / 8 % 2 == 1, byteF rest 0 / 4 % 2 == 1, byteF rest 0 / 2 % 2 == 1, byteF rest 0 % 2 == 1, byteF rest 1, byteF rest 5, 256 * byteF rest 6 + byteF rest 7, (rest.take Nn).drop 12⟩) := Lib.hid rfl
     have hb15 : byteF rest 0 < 16 := by have : frMost 0 = 15 := rfl; omega
     have hand := and_bit ⟨byteF rest 0, hb15⟩
     simp only at hand
     obtain ⟨ha8, ha4, ha2, ha1⟩ := hand
     obtain ⟨ch, hch⟩ : ∃ ch, ch = 256 * byteF rest 6 + byteF rest 7 := ⟨_, rfl⟩
     rw [← hch] at hn2 hfr
     have hchb : ch < 65536 := by omega
     generalize byteF rest 0 = x0 at *
     generalize byteF rest 1 = x1 at *
     generalize byteF rest 5 = x5 at *
     generalize (x0 / 8 % 2 == 1) = f1 at *
     generalize (x0 / 4 % 2 == 1) = f2 at *
     generalize (x0 / 2 % 2 == 1) = f3 at *
     generalize (x0 % 2 == 1) = f4 at *
     clear hch hy6 hy7
     have hwch : IntKind.u16.wrap ((ch : Nat) : Int) = (ch : Int) := IntWalk.u16_in _ ⟨by omega, by omega⟩
     generalize (rest.take Nn).drop 12 = ld at *
     have hkeep : ∀ w' : World, Below w.heap.size w5 w' → (fun wx : World => wx.cell? ⟨xb, xo, none⟩ = some (.int .u8 (x0 : Int)) ∧ wx.cell? ⟨xb, xo + 1, none⟩ = some (.int .u8 (x1 : Int)) ∧ wx.cell? ⟨xb, xo + 5, none⟩ = some (.int .u8 (x5 : Int)) ∧ RdB wx w.heap.size (cutA (some ⟨xb, xo, none⟩) 1 12 D) (Nn - 12) (D - 12) ld) w' := fun w' h =>
      ⟨(h.cell (p := ⟨xb, xo + 0, none⟩) hxb).trans hx0, (h.cell (p := ⟨xb, xo + 1, none⟩) hxb).trans hx1, (h.cell (p := ⟨xb, xo + 5, none⟩) hxb).trans hx5, Rd.below hcut h⟩
     have hS := hkeep w5.drew (below_drewN (Below.refl _ _) 1)
     simp only at hS hkeep
     have hz5 := hB7.size
     have hR0 : 0 < R := by omega
     have hR1 : (1 : Int) < (R : Int) := by omega
     have hR5 : (5 : Int) < (R : Int) := by omega
     go_wp2_with (with_reducible refine h_A ?_)
     refine rg_start (fun wx : World => wx.cell? ⟨xb, xo, none⟩ = some (.int .u8 (x0 : Int)) ∧ wx.cell? ⟨xb, xo + 1, none⟩ = some (.int .u8 (x1 : Int)) ∧ wx.cell? ⟨xb, xo + 5, none⟩ = some (.int .u8 (x5 : Int)) ∧ RdB wx w.heap.size (cutA (some ⟨xb, xo, none⟩) 1 12 D) (Nn - 12) (D - 12) ld) (by kernel_rfl) ?_
     refine rg_t 0 hS ?_
     simp only [List.getElem_toArray, List.getElem_cons_zero, Act.put, List.setIfInBounds_toArray, List.set_cons_zero, List.set_cons_succ]
     refine rg_t 1 hS ?_
     simp only [g_S, Act.put]
     refine rg_t 2 hS ?_
     simp only [g_S, Act.put]
     refine rg_t 3 hS ?_
     simp only [g_S, Act.put]
     refine rg_t 4 hS ?_
     simp only [g_S, Act.put]
     refine rg_t 5 hS ?_
     simp only [g_S, Act.put]
     refine rg_t 6 hS ?_
     simp only [g_S, Act.put]
     refine rg_t 7 hS ?_
     simp only [g_S, Act.put]
     refine rg_t 8 hS ?_
     simp only [g_S, Act.put]
     refine rg_t 9 hS ?_
     simp only [g_S, Act.put]
     refine rg_t 10 hS ?_
     simp only [g_S, Act.put]
     refine rg_t 11 hS ?_
     simp only [g_S, Act.put]
     refine rg_t 12 hS ?_
     simp only [g_S, Act.put]
     refine rg_t 13 hS ?_
     simp only [g_S, Act.put]
     refine rg_t 14 hS ?_
     simp only [g_S, Act.put]
     refine rg_t 15 hS ?_
     simp only [g_S, Act.put]
     refine rg_t 16 hS ?_
     simp only [g_S, Act.put]
     refine rg_t 17 hS ?_
     simp only [g_S, Act.put]
     refine rg_t 18 hS ?_
     simp only [g_S, Act.put]
     refine rg_t 19 hS ?_
     simp only [g_S, Act.put]
     refine rg_t 20 hS ?_
     simp only [g_S, Act.put]
     refine rg_t 21 hS ?_
     simp only [g_S, Act.put]
     refine rg_t 22 hS ?_
     simp only [g_S, Act.put]
     refine rg_t 23 hS ?_
     simp only [g_S, Act.put]
     refine rg_t 24 hS ?_
     simp only [g_S, Act.put]
     refine rg_t 25 hS ?_
     simp only [g_S, Act.put]
     refine rg_t 26 hS ?_
     simp only [g_S, Act.put]
     refine rg_t 27 hS ?_
     simp only [g_S, Act.put]
     refine rg_t 30 hS ?_
     simp only [g_S, Act.put]
     refine rg_t 31 hS ?_
     simp only [g_S, Act.put]
     have hc1 : Bd (some (Value.int .i64 12)) 0 12 := .inr ⟨_, _, rfl, rfl⟩
     have hc2 : Bd (some (Value.int .i64 (Nn : Int))) R Nn := .inr ⟨_, _, rfl, rfl⟩
     refine rg_slice 32 slB rfl (by kernel_rfl) (by kernel_rfl) (by kernel_rfl) hS rfl rfl rfl hr35.max hr35.cap 12 Nn D hc1 hc2 (.inl ⟨rfl, rfl⟩) (fun h => by cases h) (by omega) (by have := hr35.cap; omega) (Nat.le_refl _) (by omega) ?_
     simp only [g_S, Act.put]
     refine rg_take 33 (v := ?_) rfl (by kernel_rfl) (by kernel_rfl) (by kernel_rfl) hS rfl ?_ ?_
     rotate_left
     ·intro wS hSw; have hv := run_strB (w := wS) hSw.2.2.2; go_simp; (with_reducible rfl)
     simp only [g_S, Act.put]
     refine rg_one 28 rfl (by kernel_rfl) rfl (fun K hK => ?_)
     go_simp
     refine hn2.mono ?_
     rintro e w6 ⟨rfl, _, hg6⟩
     have hB56 : Below w.heap.size w5 w6 := (below_drewN (Below.refl w.heap.size w5) 1).grown hg6 hz5 hvw
     have hB8 := hB7.trans hB56
     have hS6 := hkeep w6 hB56
     have ho7 : OwnF w6 w.heap.size A2 N c2 l := own_stays (w := w5.drew) ho6 hg6 hAF
     have hz6 := hB8.size
     clear hn2 hg6 ho6
     refine hK _ _ hS6 ?_; clear hK K
     refine rg_t 29 hS6 ?_
     simp only [g_S, Act.put]
     refine rg_t 34 hS6 ?_
     simp only [g_S, Act.put]
     have hS7 := hkeep (w6.alloc (.cells #[.bool f1, .bool f2, .bool f3, .bool f4, .int .u8 (x1 : Int), .int .u8 (x5 : Int), .int .u16 (ch : Int), .string (str ld)] 43)) (hB56.alloc hz6 _)
     refine rg_one 35 rfl (by kernel_rfl) rfl (fun K hK => ?_)
     go_simp
     refine hK _ _ hS7 ?_
     clear hK K
     refine rg_one 36 rfl (by kernel_rfl) rfl (fun K hK => ?_)
     refine op_rec (W := w6) frShape slF Tryz.underlying33 rfl rfl rfl rfl ⟨f1, f2, f3, f4, x1, x5, ch, ld⟩ rfl ho7 (by omega) (by omega) hz6 ?_
     intro A8 c8 w8 ho8 hg8 _ hB68
     have hB58 := hB56.trans hB68
     have hS8 := hkeep w8 hB58
     have hB9 := hB7.trans hB58
     simp only [g_S, Act.put]
     refine hK _ _ hS8 ?_
     clear hK K
     refine rg_t 37 hS8 ?_
     simp only [g_S, Act.put]
     refine rg_end (by kernel_rfl) ?_
     have hwu : IntKind.i64.wrap ((u : Int) + (Nn : Int)) = ((u + Nn : Nat) : Int) := by rw [IntWalk.i64_in _ ⟨by omega, by omega⟩]; omega
     have hdr : rest.drop Nn = b.drop (u + Nn) := by rw [← HREST.out, List.drop_drop]
     have hfs2 : fs = ((l ++ [⟨f1, f2, f3, f4, x1, x5, ch, ld⟩]) ++ (frScan (b.drop (u + Nn))).1, (u + Nn) + (frScan (b.drop (u + Nn))).2.1, (frScan (b.drop (u + Nn))).2.2) := by
      rw [HF.out, ← HNN.out, hfr.out, hdr]; simp [Nat.add_assoc]
     have HFS := Lib.hid hfs2
     clear hdr hfs2
     go_wp2_with (with_reducible refine h_A ?_)
     have hRU := HRU.out
     exact ⟨⟨u + Nn, N + 1, c8, A8, l ++ [⟨f1, f2, f3, f4, x1, x5, ch, ld⟩], by omega, by first | rfl | go_num, rfl, by simp [HLN.out], by omega, HFS.out, ho8, hB9⟩, by simp [RowKit.intOf]; omega⟩
end Go.PH
end
section
/- The walk of the laws' bytes: the frames that may be, and their bytes one behind the other. -/
namespace Go.PH
open Go.RowKit Go.Proofs

def frOks (l : List Fr) : List Fr := l.filter Fr.ok
def frBytes (l : List Fr) : List UInt8 := (frOks l).flatMap Fr.bytes
theorem Fr.bytes_length (f : Fr) : f.bytes.length = 12 + f.load.length := by simp [Fr.bytes, be_length]; omega
end Go.PH
end
section
/- More about scanning: lengths; frames' bytes scanned; what is scanned, put again; pieces. -/
namespace Go.PH

theorem frScan_le (b : List UInt8) : (frScan b).1.length * 12 ≤ (frScan b).2.1 ∧ (frScan b).2.1 ≤ b.length := by
 induction hn : b.length using Nat.strongRecOn generalizing b with
 | ind n ih =>
  subst hn
  by_cases hw : frWell b = false
  ·rw [frScan_bad hw]; simp
  ·have hw1 : frWell b = true := by simpa using hw
   by_cases h12 : b.length < 12
   ·rw [frScan_short hw1 h12]; simp
   ·by_cases hl : b.length < frN b
    ·rw [frScan_wait hw1 (by omega) hl]; simp
    ·have hN := (frWell_n hw1 (by omega)).1
     rw [frScan_more hw1 (by omega) (by omega)]
     have := ih _ (by rw [List.length_drop]; omega) (b.drop (frN b)) rfl
     rw [List.length_drop] at this
     simp only [List.length_cons]
     omega
end Go.PH
end
section
/- What is scanned, put again; frames' bytes scanned; pieces. -/
namespace Go.PH

theorem be2 (n : Nat) : be 2 n = [UInt8.ofNat (n / 256), UInt8.ofNat n] := by simp [be]
theorem place_take {b : List UInt8} {j k : Nat} (h : j < k) : placeOk (b.take k) j = placeOk b j := by
 have e : ∀ i, i < k → (b.take k).getD i 0 = b.getD i 0 := fun i hi => by simp [List.getD, List.getElem?_take, hi]
 unfold placeOk
 split
 ·next e3 => subst e3; unfold frN; rw [e 2 (by omega), e 3 (by omega)]
 ·rw [e j h]
theorem frWell_take {b : List UInt8} (h : frWell b = true) (k : Nat) : frWell (b.take k) = true := by
 unfold frWell at h ⊢
 rw [List.all_eq_true] at h ⊢
 intro j hj
 have hj := List.mem_range.1 hj
 rw [List.length_take] at hj
 rw [place_take (by omega)]
 exact h j (List.mem_range.2 (by omega))
theorem frWell_app {a : List UInt8} (p : List UInt8) (h : 12 ≤ a.length) : frWell (a ++ p) = frWell a := by
 cases hw : frWell a
 ·cases hw2 : frWell (a ++ p)
  ·rfl
  ·have := frWell_take hw2 a.length
   rw [List.take_left' rfl, hw] at this
   cases this
 ·unfold frWell at hw ⊢
  rw [List.all_eq_true] at hw ⊢
  intro j hj
  have hj := List.mem_range.1 hj
  rw [← place_take (k := a.length) (by omega), List.take_left' rfl]
  exact hw j (List.mem_range.2 (by omega))
theorem frWell_bad {a : List UInt8} (p : List UInt8) (h : frWell a = false) : frWell (a ++ p) = false := by
 cases hw2 : frWell (a ++ p)
 ·rfl
 ·have := frWell_take hw2 a.length
  rw [List.take_left' rfl, h] at this
  cases this
theorem byteF_app {a : List UInt8} (p : List UInt8) {i : Nat} (h : i < a.length) : byteF (a ++ p) i = byteF a i := by
 simp [byteF, List.getD, List.getElem?_append_left h]
theorem frN_app {a : List UInt8} (p : List UInt8) (h : 4 ≤ a.length) : frN (a ++ p) = frN a := by
 rw [frN_eq, frN_eq, byteF_app p (by omega), byteF_app p (by omega)]
theorem frAt_app {a : List UInt8} (p : List UInt8) {n : Nat} (h : 12 ≤ a.length) (hn : n ≤ a.length) : frAt (a ++ p) n = frAt a n := by
 unfold frAt
 rw [byteF_app p (by omega), byteF_app p (by omega), byteF_app p (by omega), byteF_app p (by omega), byteF_app p (by omega), List.take_append_of_le_length hn]
/-- pieces -/
theorem frScan_app (a p : List UInt8) : ((frScan a).2.2 = 0 → frScan (a ++ p) = ((frScan a).1 ++ (frScan (a.drop (frScan a).2.1 ++ p)).1, (frScan a).2.1 + (frScan (a.drop (frScan a).2.1 ++ p)).2.1, (frScan (a.drop (frScan a).2.1 ++ p)).2.2)) ∧
  ((frScan a).2.2 ≠ 0 → frScan (a ++ p) = frScan a) := by
 induction hn : a.length using Nat.strongRecOn generalizing a with
 | ind n ih =>
  subst hn
  by_cases hw : frWell a = false
  ·rw [frScan_bad hw, frScan_bad (frWell_bad p hw)]
   exact ⟨fun h => by simp at h, fun _ => rfl⟩
  ·have hw1 : frWell a = true := by simpa using hw
   by_cases h12 : a.length < 12
   ·rw [frScan_short hw1 h12]
    exact ⟨fun _ => by simp, fun h => absurd rfl h⟩
   ·by_cases hl : a.length < frN a
    ·rw [frScan_wait hw1 (by omega) hl]
     exact ⟨fun _ => by simp, fun h => absurd rfl h⟩
    ·have hN := (frWell_n hw1 (by omega)).1
     rw [frScan_more hw1 (by omega) (by omega)]
     have hw2 : frWell (a ++ p) = true := by rw [frWell_app p (by omega)]; exact hw1
     have hN2 := frN_app (a := a) p (by omega)
     rw [frScan_more hw2 (by simp; omega) (by rw [hN2]; simp; omega), hN2, frAt_app p (by omega) (by omega), List.drop_append_of_le_length (by omega)]
     obtain ⟨i1, i2⟩ := ih _ (by rw [List.length_drop]; omega) (a.drop (frN a)) rfl
     simp only
     refine ⟨fun h => ?_, fun h => ?_⟩
     ·rw [i1 h]
      simp [List.drop_drop, Nat.add_assoc]
     ·rw [i2 h]
end Go.PH
end
section
/- Frames' bytes, and the beginning of another one's, scanned. -/
namespace Go.PH

theorem flags_back : ∀ a b c d : Bool, ((bitv a 8 + bitv b 4 + bitv c 2 + bitv d 1) / 8 % 2 == 1) = a ∧ ((bitv a 8 + bitv b 4 + bitv c 2 + bitv d 1) / 4 % 2 == 1) = b ∧ ((bitv a 8 + bitv b 4 + bitv c 2 + bitv d 1) / 2 % 2 == 1) = c ∧ ((bitv a 8 + bitv b 4 + bitv c 2 + bitv d 1) % 2 == 1) = d := by decide
theorem toNat_of (n : Nat) : (UInt8.ofNat n).toNat = n % 256 := by rw [UInt8.toNat_ofNat']
theorem Fr.bytes_cons (f : Fr) : f.bytes = UInt8.ofNat f.flags :: UInt8.ofNat f.ty :: UInt8.ofNat ((12 + f.load.length) / 256) :: UInt8.ofNat (12 + f.load.length) :: 0 :: UInt8.ofNat f.track :: UInt8.ofNat (f.chan / 256) :: UInt8.ofNat f.chan :: 0 :: 0 :: 0 :: 0 :: f.load := by
 simp [Fr.bytes, be2]
theorem fr_all {f : Fr} (hw : f.wf) (hok : f.ok = true) : frWell f.bytes = true ∧ frN f.bytes = f.bytes.length ∧ frAt f.bytes f.bytes.length = f := by
 have hfl := f.flags_lt
 obtain ⟨w1, w2, w3⟩ := hw
 have ⟨⟨o1, o2⟩, o3⟩ : (f.ty ≤ 3 ∧ f.track ≤ 15) ∧ f.load.length ≤ 4084 := by unfold Fr.ok at hok; simpa using hok
 have hlen := f.bytes_length
 have hN : frN f.bytes = f.bytes.length := by
  rw [hlen, f.bytes_cons, frN_eq]
  simp only [byteF, List.getD_cons_zero, List.getD_cons_succ, toNat_of]
  omega
 refine ⟨?_, hN, ?_⟩
 ·unfold frWell
  rw [List.all_eq_true]
  intro k hk
  have hk := List.mem_range.1 hk
  have hk12 : k < 12 := by omega
  unfold placeOk
  rw [hN]
  split
  ·simp; omega
  ·next h3 =>
   rw [f.bytes_cons]
   match k, hk12, h3 with
   | 0, _, _ => simp [frMost, toNat_of]; omega
   | 1, _, _ => simp [frMost, toNat_of]; omega
   | 2, _, _ => simp [frMost, toNat_of]; omega
   | 3, _, h => exact absurd rfl h
   | 4, _, _ => simp [frMost]
   | 5, _, _ => simp [frMost, toNat_of]; omega
   | 6, _, _ => simp [frMost, toNat_of]; omega
   | 7, _, _ => simp [frMost, toNat_of]; omega
   | 8, _, _ => simp [frMost]
   | 9, _, _ => simp [frMost]
   | 10, _, _ => simp [frMost]
   | 11, _, _ => simp [frMost]
 ·rw [hlen]
  have hb : frAt f.bytes (12 + f.load.length) = ⟨byteF f.bytes 0 / 8 % 2 == 1, byteF f.bytes 0 / 4 % 2 == 1, byteF f.bytes 0 / 2 % 2 == 1, byteF f.bytes 0 % 2 == 1, byteF f.bytes 1, byteF f.bytes 5, 256 * byteF f.bytes 6 + byteF f.bytes 7, (f.bytes.take (12 + f.load.length)).drop 12⟩ := rfl
  have h0 : byteF f.bytes 0 = f.flags := by rw [f.bytes_cons]; simp only [byteF, List.getD_cons_zero, toNat_of]; omega
  have h1 : byteF f.bytes 1 = f.ty := by rw [f.bytes_cons]; simp only [byteF, List.getD_cons_zero, List.getD_cons_succ, toNat_of]; omega
  have h5 : byteF f.bytes 5 = f.track := by rw [f.bytes_cons]; simp only [byteF, List.getD_cons_zero, List.getD_cons_succ, toNat_of]; omega
  have h67 : 256 * byteF f.bytes 6 + byteF f.bytes 7 = f.chan := by rw [f.bytes_cons]; simp only [byteF, List.getD_cons_zero, List.getD_cons_succ, toNat_of]; omega
  have hld : (f.bytes.take (12 + f.load.length)).drop 12 = f.load := by
   rw [← hlen, List.take_length, f.bytes_cons]; rfl
  rw [hb, h0, h1, h5, h67, hld]
  have := flags_back f.first f.last f.beg f.fin
  unfold Fr.flags
  rw [this.1, this.2.1, this.2.2.1, this.2.2.2]
theorem frScan_one {f : Fr} (hw : f.wf) (hok : f.ok = true) (r : List UInt8) : frScan (f.bytes ++ r) = (f :: (frScan r).1, f.bytes.length + (frScan r).2.1, (frScan r).2.2) := by
 obtain ⟨h1, h2, h3⟩ := fr_all hw hok
 have hlen := f.bytes_length
 have e1 : frN (f.bytes ++ r) = f.bytes.length := by rw [frN_app r (by omega), h2]
 rw [frScan_more (by rw [frWell_app r (by omega)]; exact h1) (by simp; omega) (by rw [e1]; simp), e1, frAt_app r (by omega) (Nat.le_refl _), h3, List.drop_left' rfl]
theorem frScan_row {l : List Fr} (hw : ∀ f ∈ l, f.wf) (r : List UInt8) : frScan (frBytes l ++ r) = (frOks l ++ (frScan r).1, (frBytes l).length + (frScan r).2.1, (frScan r).2.2) := by
 induction l with
 | nil => simp [frBytes, frOks]
 | cons f l ih =>
  have ih := ih (fun g hg => hw g (List.mem_cons_of_mem _ hg))
  cases hok : f.ok
  ·have e1 : frOks (f :: l) = frOks l := by simp [frOks, hok]
   have e2 : frBytes (f :: l) = frBytes l := by unfold frBytes; rw [e1]
   rw [e1, e2]; exact ih
  ·have e1 : frOks (f :: l) = f :: frOks l := by simp [frOks, hok]
   have e2 : frBytes (f :: l) = f.bytes ++ frBytes l := by unfold frBytes; rw [e1]; simp
   rw [e1, e2, List.append_assoc, frScan_one (hw f (List.mem_cons_self ..)) hok, ih]
   simp [Nat.add_assoc]
end Go.PH
end
section
/- The walk of octet's Text. -/
namespace Go.PH
open Go.RowKit Go.Proofs

set_option maxHeartbeats 1000000 in
theorem rdtext_any {F : Nat → Prop} {w : World} {v : Value} {vb : Option Nat} {l : List UInt8} {bad : Bool} (h : Rdr F w v vb l bad) (x most : Int) (hx : -9223372036854775808 ≤ x) (hx' : x ≤ 9223372036854775807) (hm : -9223372036854775808 ≤ most) (hm' : most ≤ 9223372036854775807) :
  Calls Tryz.prog 79 #[v, .int .i64 x, .int .i64 most] w fun e w' => e = .returned (.string (str (mtext l bad x most).1)) ∧ Rdr F w' v vb (mtext l bad x most).2.1 (mtext l bad x most).2.2 ∧ w.grownBy w' vb := by
 by_cases h8 : x = 8
 ·subst h8
  rw [mtext_no (by omega)]
  go_enter Tryz.func79, Tryz.ntmps79
  go_wp2_with (with_reducible refine h_A ?_)
  refine (rdspoil_any h).mono ?_
  rintro e w1 ⟨rfl, h1, hg1⟩
  go_wp2_with (with_reducible refine h_A ?_)
  go_ret
  exact ⟨rfl, h1, hg1⟩
 have hN := rdnum_any h x hx hx'
 have hlt := mnum_lt l bad x
 rw [mtext_eq h8]
 generalize mnum l bad x = r at hN hlt ⊢
 obtain ⟨n, l', bad'⟩ := r
 simp only at hN hlt ⊢
 by_cases hb : bad' = true
 ·subst hb
  rw [if_pos (.inl rfl)]
  go_enter Tryz.func79, Tryz.ntmps79
  go_wp2_with (with_reducible refine h_A ?_)
  refine hN.mono ?_
  rintro e w1 ⟨rfl, h1, hg1⟩
  go_wp2_with (with_reducible refine h_A ?_)
  refine (rdbad_any h1).mono ?_
  rintro e w2 ⟨rfl, rfl⟩
  go_wp2_with (with_reducible refine h_A ?_)
  refine (rdspoil_any h1).mono ?_
  rintro e w3 ⟨rfl, h3, hg3⟩
  go_wp2_with (with_reducible refine h_A ?_)
  go_ret
  exact ⟨rfl, h3, hg1.trans hg3⟩
 obtain rfl : bad' = false := by simpa using hb
 by_cases hneg : most < 0
 ·rw [if_pos (.inr (.inl hneg))]
  go_enter Tryz.func79, Tryz.ntmps79
  go_wp2_with (with_reducible refine h_A ?_)
  refine hN.mono ?_
  rintro e w1 ⟨rfl, h1, hg1⟩
  go_wp2_with (with_reducible refine h_A ?_)
  refine (rdbad_any h1).mono ?_
  rintro e w2 ⟨rfl, rfl⟩
  go_wp2_with (with_reducible refine h_A ?_)
  refine (rdspoil_any h1).mono ?_
  rintro e w3 ⟨rfl, h3, hg3⟩
  go_wp2_with (with_reducible refine h_A ?_)
  go_ret
  exact ⟨rfl, h3, hg1.trans hg3⟩
 by_cases hmore : most < (n : Int)
 ·rw [if_pos (.inr (.inr (.inl hmore)))]
  go_enter Tryz.func79, Tryz.ntmps79
  go_wp2_with (with_reducible refine h_A ?_)
  refine hN.mono ?_
  rintro e w1 ⟨rfl, h1, hg1⟩
  go_wp2_with (with_reducible refine h_A ?_)
  refine (rdbad_any h1).mono ?_
  rintro e w2 ⟨rfl, rfl⟩
  go_wp2_with (with_reducible refine h_A ?_)
  refine (rdspoil_any h1).mono ?_
  rintro e w3 ⟨rfl, h3, hg3⟩
  go_wp2_with (with_reducible refine h_A ?_)
  go_ret
  exact ⟨rfl, h3, hg1.trans hg3⟩
 by_cases hleft : l'.length < n
 ·rw [if_pos (.inr (.inr (.inr hleft)))]
  go_enter Tryz.func79, Tryz.ntmps79
  go_wp2_with (with_reducible refine h_A ?_)
  refine hN.mono ?_
  rintro e w1 ⟨rfl, h1, hg1⟩
  have hll := h1.len
  go_wp2_with (with_reducible refine h_A ?_)
  refine (rdbad_any h1).mono ?_
  rintro e w2 ⟨rfl, rfl⟩
  go_wp2_with (with_reducible refine h_A ?_)
  refine (rdleft_any h1).mono ?_
  rintro e w2 ⟨rfl, rfl⟩
  go_wp2_with (with_reducible refine h_A ?_)
  refine (rdspoil_any h1).mono ?_
  rintro e w3 ⟨rfl, h3, hg3⟩
  go_wp2_with (with_reducible refine h_A ?_)
  go_ret
  exact ⟨rfl, h3, hg1.trans hg3⟩
 rw [if_neg (by simp; omega), mtake_yes (by omega)]
 have hn63 : (n : Int) ≤ 9223372036854775807 := by omega
 have hleft' : ¬ ((l'.length : Int) < (n : Int)) := by omega
 have hneg' : 0 ≤ most := by omega
 have hmore' : (n : Int) ≤ most := by omega
 go_enter Tryz.func79, Tryz.ntmps79
 go_wp2_with (with_reducible refine h_A ?_)
 refine hN.mono ?_
 rintro e w1 ⟨rfl, h1, hg1⟩
 have hll := h1.len
 go_wp2_with (with_reducible refine h_A ?_)
 refine (rdbad_any h1).mono ?_
 rintro e w2 ⟨rfl, rfl⟩
 go_wp2_with (with_reducible refine h_A ?_)
 refine (rdleft_any h1).mono ?_
 rintro e w2 ⟨rfl, rfl⟩
 go_wp2_with (with_reducible refine h_A ?_)
 have hT := rdtake_any h1 (n : Int) (by omega) (by omega)
 rw [mtake_yes (by omega)] at hT
 simp only [List.length_take, Nat.min_eq_left (Nat.le_of_not_lt hleft)] at hT
 refine hT.mono ?_
 rintro e w3 ⟨A3, c3, rfl, ho3, h3, hg3⟩
 have hcv := run_strB ho3.rd
 go_wp2_with (with_reducible refine h_A ?_)
 go_ret
 exact ⟨rfl, h3, hg1.trans hg3⟩
end Go.PH
end
section
/- The walks of the reference's reader. -/
namespace Go.PH
open Go.RowKit Go.Proofs

/-- the reference's reader in block b -/
def Qrd (F : Nat → Prop) (w : World) (b : Nat) (l : List UInt8) (bad : Bool) : Prop :=
 ∃ A n c, w.cell? ⟨b, 0, none⟩ = some (.slice A n c) ∧ w.cell? ⟨b, 1, none⟩ = some (.bool bad) ∧ w.frozen? ⟨b, 0, none⟩ = false ∧ w.frozen? ⟨b, 1, none⟩ = false ∧ RdB w w.heap.size A n c l ∧ blk A ≠ some b ∧ n ≤ 140737488351240 ∧ F b ∧ ∀ g, blk A = some g → F g
theorem Qrd.len {F : Nat → Prop} {w : World} {b : Nat} {l : List UInt8} {bad : Bool} (h : Qrd F w b l bad) : l.length ≤ 140737488351240 := by
 obtain ⟨A, n, c, _, _, _, _, hr, _, hn, _⟩ := h
 rw [hr.length]; exact hn
theorem Qrd.lt {F : Nat → Prop} {w : World} {b : Nat} {l : List UInt8} {bad : Bool} (h : Qrd F w b l bad) : b < w.heap.size := by
 obtain ⟨A, n, c, h0, _⟩ := h
 exact World.block_lt_of_cell? w _ h0

theorem Qrd.kept {F : Nat → Prop} {w w' : World} {b : Nat} {l : List UInt8} {bad : Bool} {row : Option Nat} (h : Qrd F w b l bad) (hg : w.grownBy w' row) (hne : ∀ g, row = some g → ¬ F g) : Qrd F w' b l bad := by
 obtain ⟨A, n, c, h0, h1, hf0, hf1, hr, hA, hn, hF, hF2⟩ := h
 have hb : b < w.heap.size := World.block_lt_of_cell? w _ h0
 refine ⟨A, n, c, hg.cell h0 (fun e => hne _ e.symm hF), hg.cell h1 (fun e => hne _ e.symm hF), (hg.frozen_far ⟨b, 0, none⟩ hb (fun e => hne _ e.symm hF)).trans hf0, (hg.frozen_far ⟨b, 1, none⟩ hb (fun e => hne _ e.symm hF)).trans hf1, (hr.grown_ne hg (Nat.le_refl _) ?_).more hg.size, hA, hn, hF, hF2⟩
 rcases hA : blk A with _ | g
 ·exact .inl rfl
 ·exact .inr fun e => hne g e.symm (hF2 g hA)
theorem Qrd.below {F : Nat → Prop} {w w' : World} {b : Nat} {l : List UInt8} {bad : Bool} (h : Qrd F w b l bad) (hB : Below w.heap.size w w') : Qrd F w' b l bad := h.kept (grownOf hB none) (by simp)
theorem Qrd.drew {F : Nat → Prop} {w : World} {b : Nat} {l : List UInt8} {bad : Bool} (h : Qrd F w b l bad) : Qrd F w.drew b l bad := h.kept (grownDrew w none) (by simp)
theorem Qrd.inF {F : Nat → Prop} {w : World} {b : Nat} {l : List UInt8} {bad : Bool} (h : Qrd F w b l bad) : F b := by
 obtain ⟨A, n, c, h0, h1, hf0, hf1, hr, hA, hn, hF, hF2⟩ := h
 exact hF
end Go.PH
end
section
/- The walk of the reference's Number. -/
namespace Go.PH
open Go.RowKit Go.Proofs

end Go.PH
end
section
/- Rows of spans as plain mathematics: a right row is told by its members. No program in sight. -/
namespace Go.PH

abbrev Sp := Nat × Nat
/-- a row is right: each span the right way round, a gap ahead of each but the first -/
def spRight : List Sp → Bool
 | [] => true
 | [a] => decide (a.1 ≤ a.2)
 | a :: b :: l => decide (a.1 ≤ a.2) && decide (a.2 + 2 ≤ b.1) && spRight (b :: l)
end Go.PH
end
section
/- Adding to, and cutting out of, a right row, as plain mathematics. -/
namespace Go.PH

/-- a row is right behind a number: its first span begins at m or later -/
def spFrom (m : Nat) : List Sp → Prop
 | [] => True
 | a :: _ => m ≤ a.1
theorem spRight_cons {a : Sp} {l : List Sp} : spRight (a :: l) = true ↔ (a.1 ≤ a.2 ∧ spFrom (a.2 + 2) l ∧ spRight l = true) := by
 cases l with
 | nil => simp [spRight, spFrom]
 | cons b l => simp [spRight, spFrom, and_assoc]
end Go.PH
end
section
/- What Add tells: a right row with the numbers put in. -/
namespace Go.PH

end Go.PH
end
section
/- The reference's way: edges, and the spans between them, as plain mathematics. -/
namespace Go.PH

theorem spRight_app (a : List Sp) (z : Sp) : spRight (a ++ [z]) = true ↔ (spRight a = true ∧ z.1 ≤ z.2 ∧ ∀ b ∈ a.getLast?, b.2 + 2 ≤ z.1) := by
 induction a with
 | nil => simp [spRight]
 | cons b a ih =>
  rw [List.cons_append, spRight_cons, ih, spRight_cons]
  cases a with
  | nil =>
   simp [spFrom, spRight]
   intro _
   exact and_comm
  | cons c a =>
   simp only [List.cons_append, spFrom, List.getLast?_cons_cons]
   constructor
   ·rintro ⟨h1, h2, h3, h4, h5⟩; exact ⟨⟨h1, h2, h3⟩, h4, h5⟩
   ·rintro ⟨⟨h1, h2, h3⟩, h4, h5⟩; exact ⟨h1, h2, h3, h4, h5⟩
end Go.PH
end
section
/- The reference's row between edges, as plain mathematics: right, with the members that are asked for. -/
namespace Go.PH

end Go.PH
end
section
/- What Has, Both, Either tell, as plain mathematics. -/
namespace Go.PH

end Go.PH
end
section
/- Rows by their beginnings; how many numbers a row has; as plain mathematics. -/
namespace Go.PH

theorem spRight_front : ∀ {a b : List Sp}, spRight (a ++ b) = true → spRight a = true
 | [], _, _ => rfl
 | x :: a, b, h => by
  rw [List.cons_append] at h
  obtain ⟨h1, h2, h3⟩ := spRight_cons.1 h
  refine spRight_cons.2 ⟨h1, ?_, spRight_front h3⟩
  cases a with
  | nil => trivial
  | cons y a => exact h2
theorem spRight_take {l : List Sp} (h : spRight l = true) (k : Nat) : spRight (l.take k) = true := spRight_front (b := l.drop k) (by rw [List.take_append_drop]; exact h)
/-- the next span stands rightly behind those ahead of it -/
def spNext (l : List Sp) (k : Nat) (h : k < l.length) : Prop := l[k].1 ≤ l[k].2 ∧ ∀ (h0 : 0 < k), l[k - 1].2 + 2 ≤ l[k].1
theorem spRight_next {l : List Sp} {k : Nat} (hk : k < l.length) (h : spRight (l.take k) = true) : spRight (l.take (k + 1)) = true ↔ spNext l k hk := by
 rw [List.take_succ_eq_append_getElem hk, spRight_app]
 unfold spNext
 constructor
 ·rintro ⟨_, h1, h2⟩
  refine ⟨h1, fun h0 => h2 _ ?_⟩
  rw [List.getLast?_eq_getElem?, List.length_take, Nat.min_eq_left (by omega), List.getElem?_take, if_pos (by omega), List.getElem?_eq_getElem (by omega)]
  rfl
 ·rintro ⟨h1, h2⟩
  refine ⟨h, h1, fun b hb => ?_⟩
  rcases Nat.eq_zero_or_pos k with rfl | h0
  ·simp at hb
  ·rw [List.getLast?_eq_getElem?, List.length_take, Nat.min_eq_left (by omega), List.getElem?_take, if_pos (by omega), List.getElem?_eq_getElem (by omega)] at hb
   cases hb
   exact h2 h0
theorem spRight_yes {l : List Sp} {k : Nat} (hk : k < l.length) (h : spRight (l.take k) = true) (h1 : spNext l k hk) : spRight (l.take (k + 1)) = true := (spRight_next hk h).2 h1
theorem spRight_no {l : List Sp} {k : Nat} (hk : k < l.length) (h : spRight (l.take k) = true) (h1 : ¬ spNext l k hk) : spRight l = false := by
 rcases hr : spRight l with _ | _
 ·rfl
 ·exact absurd ((spRight_next hk h).1 (spRight_take hr _)) h1
theorem spNext_iff {l : List Sp} {k : Nat} (hk : k < l.length) : spNext l k hk ↔ (l[k].1 ≤ l[k].2 ∧ (k = 0 ∨ (l.getD (k - 1) (0, 0)).2 + 2 ≤ l[k].1)) := by
 unfold spNext
 have e : l.getD (k - 1) (0, 0) = l[k - 1] := by
  have : k - 1 < l.length := by omega
  simp [List.getD, List.getElem?_eq_getElem this]
 rw [e]
 constructor
 ·rintro ⟨h1, h2⟩
  refine ⟨h1, ?_⟩
  rcases Nat.eq_zero_or_pos k with h0 | h0
  ·exact .inl h0
  ·exact .inr (h2 h0)
 ·rintro ⟨h1, h2⟩
  refine ⟨h1, fun h0 => ?_⟩
  rcases h2 with h2 | h2
  ·omega
  ·exact h2
/-- bounds -/
def spOK (N : Nat) (l : List Sp) : Prop := ∀ a ∈ l, a.1 < N ∧ a.2 < N
end Go.PH
end
section
/- Slices of spans in memory. -/
namespace Go.PH
open Go.RowKit Go.Proofs

def sp2 (a : Sp) : List Value := [.int .u32 (a.1 : Int), .int .u32 (a.2 : Int)]
def spCells (l : List Sp) : List Value := l.flatMap sp2
theorem spCells_cons (a : Sp) (l : List Sp) : spCells (a :: l) = .int .u32 (a.1 : Int) :: .int .u32 (a.2 : Int) :: spCells l := rfl
theorem spCells_app (a b : List Sp) : spCells (a ++ b) = spCells a ++ spCells b := by simp [spCells]
theorem spCells_len (l : List Sp) : (spCells l).length = l.length * 2 := by
 induction l with
 | nil => rfl
 | cons a l ih => rw [spCells_cons]; simp only [List.length_cons, ih]; omega
theorem spCells_take : ∀ (l : List Sp) (k : Nat), (spCells l).take (k * 2) = spCells (l.take k)
 | [], k => by simp [spCells]
 | a :: l, 0 => by simp [spCells]
 | a :: l, k + 1 => by rw [spCells_cons, show (k + 1) * 2 = k * 2 + 1 + 1 by omega, List.take_succ_cons, List.take_succ_cons, spCells_take l k, List.take_succ_cons, spCells_cons]
theorem spCells_drop : ∀ (l : List Sp) (k : Nat), (spCells l).drop (k * 2) = spCells (l.drop k)
 | [], k => by simp [spCells]
 | a :: l, 0 => by simp
 | a :: l, k + 1 => by rw [spCells_cons, show (k + 1) * 2 = k * 2 + 1 + 1 by omega, List.drop_succ_cons, List.drop_succ_cons, spCells_drop l k, List.drop_succ_cons]
theorem spCells_get : ∀ (l : List Sp) (k : Nat) (h : k < l.length), (spCells l)[k * 2]? = some (.int .u32 (l[k].1 : Int)) ∧ (spCells l)[k * 2 + 1]? = some (.int .u32 (l[k].2 : Int))
 | a :: l, 0, _ => by simp [spCells_cons]
 | a :: l, k + 1, h => by
  have := spCells_get l k (by simpa using h)
  rw [spCells_cons, show (k + 1) * 2 = k * 2 + 1 + 1 by omega]
  simpa using this
theorem spCells_one (l : List Sp) : ∀ u ∈ spCells l, u.oneCell' = true := by
 intro u hu
 simp only [spCells, List.mem_flatMap, sp2, List.mem_cons, List.not_mem_nil, or_false] at hu
 obtain ⟨a, _, rfl | rfl⟩ := hu <;> rfl
/-- a slice of spans -/
abbrev RdS (w : World) (B : Nat) (A : Option Addr) (n c : Nat) (l : List Sp) : Prop := Rd w B 2 A n c (spCells l)
variable {w w' : World} {B n c : Nat} {A : Option Addr} {l : List Sp}
theorem RdS.length (h : RdS w B A n c l) : l.length = n := by have := h.len; rw [spCells_len] at this; omega
theorem RdS.at_k (h : RdS w B A n c l) {k : Nat} (hk : k < n) : ∃ b off, A = some ⟨b, off, none⟩ ∧ b < B ∧ ∃ hl : k < l.length, w.cell? ⟨b, off + k * 2, none⟩ = some (.int .u32 (l[k].1 : Int)) ∧ w.cell? ⟨b, off + k * 2 + 1, none⟩ = some (.int .u32 (l[k].2 : Int)) := by
 obtain ⟨b, off, e, hb, hc⟩ := h.at_ (by omega)
 have hl := h.length
 have hg := spCells_get l k (by omega)
 exact ⟨b, off, e, hb, by omega, hc _ _ hg.1, by have := hc _ _ hg.2; rwa [← Nat.add_assoc] at this⟩
theorem RdS.at_p (h : RdS w B A n c l) {k : Nat} (hk : k ≤ n) (h0 : 0 < k) : ∃ b off, A = some ⟨b, off, none⟩ ∧ b < B ∧ w.cell? ⟨b, off + (k - 1) * 2 + 1, none⟩ = some (.int .u32 ((l.getD (k - 1) (0, 0)).2 : Int)) := by
 obtain ⟨b, off, e, hb, hl, _, hc⟩ := RdS.at_k h (k := k - 1) (by omega)
 refine ⟨b, off, e, hb, ?_⟩
 rw [hc]; simp [List.getD, List.getElem?_eq_getElem hl]
theorem spOK_getD {N : Nat} {l : List Sp} (h : spOK N l) (k : Nat) (hN : 0 < N) : (l.getD k (0, 0)).1 < N ∧ (l.getD k (0, 0)).2 < N := by
 rw [List.getD]
 cases hk : l[k]? with
 | none => exact ⟨hN, hN⟩
 | some a => exact h a (List.mem_of_getElem? hk)
theorem RdS.cut {lo k : Nat} (hr : RdS w B A n c l) (h : lo + k ≤ n) : RdS w B (cutA A 2 lo c) k (c - lo) ((l.drop lo).take k) := by
 have h1 := rd_cut hr lo (lo + k) c (by omega) (by have := hr.cap; omega) (Nat.le_refl _) h
 rw [spCells_take, spCells_drop, List.drop_take, Nat.add_sub_cancel_left] at h1
 exact h1
theorem slS : SlT Tryz.prog 64 132 2 8 (.agg #[.int .u32 0, .int .u32 0]) := SlT.mk' Tryz.underlying64 (by kernel_rfl) rfl (by omega)
abbrev OwnS (w : World) (base : Nat) (A : Option Addr) (n c : Nat) (l : List Sp) : Prop := Own w base 132 2 A n c (spCells l)
end Go.PH
end

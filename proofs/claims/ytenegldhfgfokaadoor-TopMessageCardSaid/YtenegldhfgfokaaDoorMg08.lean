/- Texts laid together: FrScan, FrBytes, FrScanMath2, FrScanMath3, FrScanMath4, OctReadText, OwnB, Str. -/
import Derived.Lib.ConvBytes
import Derived.Test.YtenegldhfgfokaaDoorMg01
import Derived.Test.YtenegldhfgfokaaDoorMg03
import Derived.Test.YtenegldhfgfokaaDoorMg04
import Derived.Test.YtenegldhfgfokaaDoorMg05
import Derived.Test.YtenegldhfgfokaaDoorMg07
set_option linter.all false
set_option linter.unusedSimpArgs false
set_option linter.unusedVariables false
section
/- The walk of frame's Scan. -/
namespace Go.PH
open Go.RowKit Go.Proofs

theorem fnum_ok {l : List UInt8} {x : Nat} (hx : x = 1 ∨ x = 2 ∨ x = 4 ∨ x = 8) (h : x ≤ l.length) : mnum l false (x : Int) = (unbe (l.take x), l.drop x, false) := by
 rw [mnum_yes (wideB_yes (by omega)), mtake_yes h]
theorem byteF_eq {l : List UInt8} {i : Nat} (h : i < l.length) : byteF l i = l[i].toNat := by simp [byteF, List.getD, List.getElem?_eq_getElem h]
theorem byteF_lt (l : List UInt8) (i : Nat) : byteF l i < 256 := (l.getD i 0).toNat_lt
theorem unbe_two (l : List UInt8) (i : Nat) (h : i + 2 ≤ l.length) : unbe ((l.drop i).take 2) = 256 * byteF l i + byteF l (i + 1) := by
 rw [List.drop_eq_getElem_cons (by omega), List.drop_eq_getElem_cons (show i + 1 < l.length by omega), byteF_eq (show i < l.length by omega), byteF_eq (show i + 1 < l.length by omega), List.take_succ_cons, List.take_succ_cons, List.take_zero]
 unfold unbe
 simp only [List.foldl_cons, List.foldl_nil]
 omega
theorem byteF_take (l : List UInt8) (i k : Nat) (h : i < k) : byteF (l.take k) i = byteF l i := by
 simp [byteF, List.getD, List.getElem?_take, h]
theorem frN_eq (l : List UInt8) : frN l = 256 * byteF l 2 + byteF l 3 := rfl
theorem frScan_at {rest : List UInt8} {l : List Fr} {u : Nat} {fs r : List Fr × Nat × Nat} (h : fs = (l ++ (frScan rest).1, u + (frScan rest).2.1, (frScan rest).2.2)) (hr : frScan rest = r) : fs = (l ++ r.1, u + r.2.1, r.2.2) := by rw [h, hr]

set_option maxRecDepth 20000 in
set_option maxHeartbeats 4000000 in
theorem scan_any (A : Option Addr) (n c : Nat) (b : List UInt8) (w : World) (hr : RdB w w.heap.size A n c b) (hn : n ≤ 1000000000) :
  Calls Tryd.prog 10 #[.slice A n c] w fun e w' => ∃ A2 c2, e = .returned (.tuple #[.slice A2 (frScan b).1.length c2, .int .i64 (frScan b).2.1, .int .i64 (frScan b).2.2]) ∧ OwnF w' w.heap.size A2 (frScan b).1.length c2 (frScan b).1 ∧ Below w.heap.size w w' := by
 have hl := RdB.length hr
 have hcap := hr.cap
 obtain ⟨fs, hfs⟩ : ∃ fs, fs = frScan b := ⟨_, rfl⟩
 rw [← hfs]
 go_enter Tryd.func10, Tryd.ntmps10
 go_wp2_with (with_reducible refine h_A ?_)
 go_loopw [6, 5] (fun s v wr => ∃ (u N c2 : Nat) (A2 : Option Addr) (l : List Fr), u ≤ n ∧ s = .int .i64 u ∧ v = .slice A2 N c2 ∧ l.length = N ∧ N ≤ u ∧ fs = (l ++ (frScan (b.drop u)).1, u + (frScan (b.drop u)).2.1, (frScan (b.drop u)).2.2) ∧ OwnF wr w.heap.size A2 N c2 l ∧ Below w.heap.size w wr) (fun s _ _ => n - (RowKit.intOf s).toNat)
 case atStart => exact ⟨0, 0, 0, none, [], by omega, rfl, rfl, rfl, by omega, by rw [hfs]; simp, Own.none_ _ _ _ _, Below.refl _ _⟩
 case round =>
  obtain ⟨u, N, c2, A2, l, hu, rfl, rfl, hlN, hNu, hsc, ho, hBr⟩ := hrel
  have HSC := Lib.hid hsc
  have HLN := Lib.hid hlN
  clear hsc hfs hlN
  have hz := hBr.size
  go_wp2_with (with_reducible refine h_S ?_)
  refine unhold (wp_cutB slB rfl rfl rfl (hr.below hBr) u n c (.inr ⟨_, _, rfl, rfl⟩) (.inl ⟨rfl, rfl⟩) (.inl ⟨rfl, rfl⟩) (by intro h; cases h) (by omega) (by omega) (Nat.le_refl _) (Nat.le_refl _) ?_)
  intro A3 hr3 _
  simp only [Nat.mul_one] at hr3
  rw [List.take_of_length_le (by simp; omega), ← List.map_drop] at hr3
  have hrl : (b.drop u).length = n - u := by simp; omega
  generalize hrest : b.drop u = rest at *
  have HREST := Lib.hid hrest
  clear hrest
  obtain ⟨R, hR⟩ : ∃ R, R = n - u := ⟨_, rfl⟩
  obtain ⟨D, hD⟩ : ∃ D, D = c - u := ⟨_, rfl⟩
  rw [← hR, ← hD] at hr3 ⊢
  rw [← hR] at hrl
  have hRn : R ≤ 1000000000 := by omega
  have HRU := Lib.hid (show R + u = n by omega)
  clear hR hD
  have hback : Rd w w.heap.size 1 A3 R D (rest.map u8v) := Rd.keep hr3 (fun p hp => (hBr.cell hp).symm)
  have hwl := well_any A3 R D rest w.heap.size wr hr3 hz (by omega)
  cases hwell : frWell rest
  ·rw [hwell] at hwl
   have HF := Lib.hid (frScan_at HSC.out (frScan_bad hwell))
   clear hwell
   go_wp2_with (with_reducible refine h_A ?_)
   refine hwl.mono ?_
   rintro e w1 ⟨rfl, hB1⟩
   have hB2 := hBr.trans (hB1.mono hz)
   have ho2 := own_below ho hB1
   go_wp2_with (with_reducible refine h_A ?_)
   go_ret3
   rw [HF.out]
   simp only [List.append_nil, Nat.add_zero]
   rw [HLN.out]
   exact ⟨A2, c2, rfl, ho2, hB2⟩
  ·rw [hwell] at hwl
   by_cases h12 : rest.length < 12
   ·have hd12 : (R : Int) < 12 := by omega
    have HF := Lib.hid (frScan_at HSC.out (frScan_short hwell h12))
    clear hwell h12
    go_wp2_with (with_reducible refine h_A ?_)
    refine hwl.mono ?_
    rintro e w1 ⟨rfl, hB1⟩
    have hB2 := hBr.trans (hB1.mono hz)
    have ho2 := own_below ho hB1
    go_wp2_with (with_reducible refine h_A ?_)
    go_ret3
    rw [HF.out]
    simp only [List.append_nil, Nat.add_zero]
    rw [HLN.out]
    exact ⟨A2, c2, rfl, ho2, hB2⟩
   ·have hd12 : ¬ (R : Int) < 12 := by omega
    have hNb := frWell_n hwell (by omega)
    have hb0 := frWell_at hwell (k := 0) (by omega) (by omega) (by omega)
    have HW := Lib.hid hwell
    clear hwell
    have hxl : (rest.take 12).length = 12 := by simp; omega
    have hm0 : mtake (rest.take 12) false 2 = ((rest.take 12).take 2, (rest.take 12).drop 2, false) := mtake_yes (n := 2) (by omega)
    have hm1 : mnum ((rest.take 12).drop 2) false 2 = (frN rest, (rest.take 12).drop 4, false) := by
     refine (fnum_ok (x := 2) (by omega) (by simp; omega)).trans ?_
     rw [unbe_two _ 2 (by omega), byteF_take _ _ _ (by omega), byteF_take _ _ _ (by omega), frN_eq, List.drop_drop]
    have hm2 : mtake ((rest.take 12).drop 4) false 2 = (((rest.take 12).drop 4).take 2, (rest.take 12).drop 6, false) := (mtake_yes (n := 2) (by simp; omega)).trans (by rw [List.drop_drop])
    have hm3 : mnum ((rest.take 12).drop 6) false 2 = (256 * byteF rest 6 + byteF rest 7, (rest.take 12).drop 8, false) := by
     refine (fnum_ok (x := 2) (by omega) (by simp; omega)).trans ?_
     rw [unbe_two _ 6 (by omega), byteF_take _ _ _ (by omega), byteF_take _ _ _ (by omega), List.drop_drop]
    go_wp2_with (with_reducible refine h_A ?_)
    refine hwl.mono ?_
    rintro e w1 ⟨rfl, hB1⟩
    have hB2 := hBr.trans (hB1.mono hz)
    have ho2 := own_below ho hB1
    have hr31 := hr3.below (hB1.mono hz)
    have hz1 := hB2.size
    clear ho hBr hB1
    go_wp2_with (with_reducible refine h_S ?_)
    refine unhold (wp_cutB slB rfl rfl rfl hr31 0 12 D (.inl ⟨rfl, rfl⟩) (.inr ⟨_, _, rfl, rfl⟩) (.inl ⟨rfl, rfl⟩) (by intro h; cases h) (by omega) (by have := hr31.cap; omega) (Nat.le_refl _) (by omega) ?_)
    intro A4 hr4 _
    simp only [Nat.mul_one, Nat.zero_mul, List.drop_zero, ← List.map_take, Nat.sub_zero] at hr4 ⊢
    go_wp2_with (with_reducible refine h_A ?_)
    refine (rdopen_any A4 12 D (rest.take 12) w1 (hr4.more hz1) (by omega)).mono ?_
    rintro e w2 ⟨rb, vb, rfl, hrb, hvb, hRd, hB3⟩
    have hB4 := hB2.trans (hB3.mono hz1)
    have ho3 := own_below ho2 hB3
    have hz2 : w1.heap.size ≤ w2.heap.size := hB3.size
    have hA2 : ∀ g, blk A2 = some g → g < w1.heap.size := fun g hg => (ho2.blk_lt hg).2
    clear ho2 hB3
    have hFv : w1.heap.size ≤ vb ∧ vb < w2.heap.size := hRd.inF rfl
    have hAF : ∀ g, blk A2 = some g → some vb ≠ some g := by
     intro g hg e
     injection e with e
     have := hA2 g hg
     omega
    have hvw : ∀ g, some vb = some g → w.heap.size ≤ g := fun g hg => by injection hg with hg; omega
    have ht1 := rdtake_any hRd 2 (by omega) (by omega)
    rw [hm0] at ht1
    go_wp2_with (with_reducible refine h_A ?_)
    refine ht1.mono ?_
    rintro e w3 ⟨A5, c5, rfl, _, hRd3, hg3⟩
    have hB5 := hB4.grown hg3 hB4.size hvw
    have ho4 := own_stays ho3 hg3 hAF
    have hn1 := rdnum_any hRd3 2 (by omega) (by omega)
    rw [hm1] at hn1
    obtain ⟨Nn, hNn⟩ : ∃ Nn, Nn = frN rest := ⟨_, rfl⟩
    rw [← hNn] at hn1 hNb
    have HNN := Lib.hid hNn
    clear hNn ht1 hm0 hm1 hRd hg3 ho3 hB4
    have hwn : IntKind.i64.wrap ((Nn : Nat) : Int) = (Nn : Int) := IntWalk.i64_in _ ⟨by omega, by omega⟩
    go_wp2_with (with_reducible refine h_A ?_)
    refine hn1.mono ?_
    rintro e w4 ⟨rfl, hRd4, hg4⟩
    have hB6 := hB5.grown hg4 hB5.size hvw
    have ho5 := own_stays ho4 hg4 hAF
    clear hn1 hg4 hRd3 ho4 hB5
    by_cases hwait : R < Nn
    ·have hdw : (R : Int) < (Nn : Int) := by omega
     have HF := Lib.hid (frScan_at HSC.out (frScan_wait HW.out (by omega) (by rw [← HNN.out]; omega)))
     go_wp2_with (with_reducible refine h_A ?_)
     go_ret3
     rw [HF.out]
     simp only [List.append_nil, Nat.add_zero]
     rw [HLN.out]
     exact ⟨A2, c2, rfl, ho5, hB6⟩
    ·have hdw : ¬ (R : Int) < (Nn : Int) := by omega
     have HF := Lib.hid (frScan_at HSC.out (frScan_more HW.out (by omega) (by rw [← HNN.out]; omega)))
     have ht2 := rdtake_any hRd4 2 (by omega) (by omega)
     rw [hm2] at ht2
     go_wp2_with (with_reducible refine h_A ?_)
     refine ht2.mono ?_
     rintro e w5 ⟨A6, c6, rfl, _, hRd5, hg5⟩
     have hB7 := hB6.grown hg5 hB6.size hvw
     have ho6 := own_stays ho5 hg5 hAF
     have hn2 := rdnum_any (Rdr.drew hRd5) 2 (by omega) (by omega)
     rw [hm3] at hn2
     clear ht2 hm2 hm3 hRd4 hg5 ho5 hB6
     have hr35 : RdB w5 w.heap.size A3 R D rest := Rd.below hback hB7
     obtain ⟨xb, xo, rfl, hxb, hx0l, hx0⟩ := RdB.at_k hr35 (k := 0) (by omega)
     obtain ⟨xb1, xo1, e1, _, hx1l, hx1⟩ := RdB.at_k hr35 (k := 1) (by omega)
     obtain ⟨xb5, xo5, e5, _, hx5l, hx5⟩ := RdB.at_k hr35 (k := 5) (by omega)
     obtain ⟨rfl, rfl⟩ : xb = xb1 ∧ xo = xo1 := by simpa using e1
     obtain ⟨rfl, rfl⟩ : xb = xb5 ∧ xo = xo5 := by simpa using e5
     clear e1 e5
     rw [← byteF_eq hx0l] at hx0
     rw [← byteF_eq hx1l] at hx1
     rw [← byteF_eq hx5l] at hx5
     have hy0 := byteF_lt rest 0
     have hy6 := byteF_lt rest 6
     have hy7 := byteF_lt rest 7
     have hcut := rd_cut hr35 12 Nn D (by omega) (by have := hr35.cap; omega) (Nat.le_refl _) (by omega)
     simp only [Nat.mul_one, ← List.map_take, ← List.map_drop] at hcut
     have hfr : Hid (frAt rest Nn = ⟨byteF rest 0 / 8 % 2 == 1, byteF rest 0 / 4 % 2 == 1, byteF rest 0 / 2 % 2 == 1, byteF rest 0 % 2 == 1, byteF rest 1, byteF rest 5, 256 * byteF rest 6 + byteF rest 7, (rest.take Nn).drop 12⟩) := Lib.hid rfl
     have hb15 : byteF rest 0 < 16 := by have : frMost 0 = 15 := rfl; omega
     have hand := and_bit ⟨byteF rest 0, hb15⟩
     simp only at hand
     obtain ⟨ha8, ha4, ha2, ha1⟩ := hand
     obtain ⟨ch, hch⟩ : ∃ ch, ch = 256 * byteF rest 6 + byteF rest 7 := ⟨_, rfl⟩
     rw [← hch] at hn2 hfr
     have hchb : ch < 65536 := by omega
     generalize byteF rest 0 = x0 at *
     generalize byteF rest 1 = x1 at *
     generalize byteF rest 5 = x5 at *
     generalize (x0 / 8 % 2 == 1) = f1 at *
     generalize (x0 / 4 % 2 == 1) = f2 at *
     generalize (x0 / 2 % 2 == 1) = f3 at *
     generalize (x0 % 2 == 1) = f4 at *
     clear hch hy6 hy7
     have hwch : IntKind.u16.wrap ((ch : Nat) : Int) = (ch : Int) := IntWalk.u16_in _ ⟨by omega, by omega⟩
     generalize (rest.take Nn).drop 12 = ld at *
     have hkeep : ∀ w' : World, Below w.heap.size w5 w' → (fun wx : World => wx.cell? ⟨xb, xo, none⟩ = some (.int .u8 (x0 : Int)) ∧ wx.cell? ⟨xb, xo + 1, none⟩ = some (.int .u8 (x1 : Int)) ∧ wx.cell? ⟨xb, xo + 5, none⟩ = some (.int .u8 (x5 : Int)) ∧ RdB wx w.heap.size (cutA (some ⟨xb, xo, none⟩) 1 12 D) (Nn - 12) (D - 12) ld) w' := fun w' h =>
      ⟨(h.cell (p := ⟨xb, xo + 0, none⟩) hxb).trans hx0, (h.cell (p := ⟨xb, xo + 1, none⟩) hxb).trans hx1, (h.cell (p := ⟨xb, xo + 5, none⟩) hxb).trans hx5, Rd.below hcut h⟩
     have hS := hkeep w5.drew (below_drewN (Below.refl _ _) 1)
     simp only at hS hkeep
     have hz5 := hB7.size
     have hR0 : 0 < R := by omega
     have hR1 : (1 : Int) < (R : Int) := by omega
     have hR5 : (5 : Int) < (R : Int) := by omega
     go_wp2_with (with_reducible refine h_A ?_)
     refine rg_start (fun wx : World => wx.cell? ⟨xb, xo, none⟩ = some (.int .u8 (x0 : Int)) ∧ wx.cell? ⟨xb, xo + 1, none⟩ = some (.int .u8 (x1 : Int)) ∧ wx.cell? ⟨xb, xo + 5, none⟩ = some (.int .u8 (x5 : Int)) ∧ RdB wx w.heap.size (cutA (some ⟨xb, xo, none⟩) 1 12 D) (Nn - 12) (D - 12) ld) (by kernel_rfl) ?_
     refine rg_t 0 hS ?_
     simp only [List.getElem_toArray, List.getElem_cons_zero, Act.put, List.setIfInBounds_toArray, List.set_cons_zero, List.set_cons_succ]
     refine rg_t 1 hS ?_
     simp only [g_S, Act.put]
     refine rg_t 2 hS ?_
     simp only [g_S, Act.put]
     refine rg_t 3 hS ?_
     simp only [g_S, Act.put]
     refine rg_t 4 hS ?_
     simp only [g_S, Act.put]
     refine rg_t 5 hS ?_
     simp only [g_S, Act.put]
     refine rg_t 6 hS ?_
     simp only [g_S, Act.put]
     refine rg_t 7 hS ?_
     simp only [g_S, Act.put]
     refine rg_t 8 hS ?_
     simp only [g_S, Act.put]
     refine rg_t 9 hS ?_
     simp only [g_S, Act.put]
     refine rg_t 10 hS ?_
     simp only [g_S, Act.put]
     refine rg_t 11 hS ?_
     simp only [g_S, Act.put]
     refine rg_t 12 hS ?_
     simp only [g_S, Act.put]
     refine rg_t 13 hS ?_
     simp only [g_S, Act.put]
     refine rg_t 14 hS ?_
     simp only [g_S, Act.put]
     refine rg_t 15 hS ?_
     simp only [g_S, Act.put]
     refine rg_t 16 hS ?_
     simp only [g_S, Act.put]
     refine rg_t 17 hS ?_
     simp only [g_S, Act.put]
     refine rg_t 18 hS ?_
     simp only [g_S, Act.put]
     refine rg_t 19 hS ?_
     simp only [g_S, Act.put]
     refine rg_t 20 hS ?_
     simp only [g_S, Act.put]
     refine rg_t 21 hS ?_
     simp only [g_S, Act.put]
     refine rg_t 22 hS ?_
     simp only [g_S, Act.put]
     refine rg_t 23 hS ?_
     simp only [g_S, Act.put]
     refine rg_t 24 hS ?_
     simp only [g_S, Act.put]
     refine rg_t 25 hS ?_
     simp only [g_S, Act.put]
     refine rg_t 26 hS ?_
     simp only [g_S, Act.put]
     refine rg_t 27 hS ?_
     simp only [g_S, Act.put]
     refine rg_t 30 hS ?_
     simp only [g_S, Act.put]
     refine rg_t 31 hS ?_
     simp only [g_S, Act.put]
     have hc1 : Bd (some (Value.int .i64 12)) 0 12 := .inr ⟨_, _, rfl, rfl⟩
     have hc2 : Bd (some (Value.int .i64 (Nn : Int))) R Nn := .inr ⟨_, _, rfl, rfl⟩
     refine rg_slice 32 slB rfl (by kernel_rfl) (by kernel_rfl) (by kernel_rfl) hS rfl rfl rfl hr35.max hr35.cap 12 Nn D hc1 hc2 (.inl ⟨rfl, rfl⟩) (fun h => by cases h) (by omega) (by have := hr35.cap; omega) (Nat.le_refl _) (by omega) ?_
     simp only [g_S, Act.put]
     refine rg_take 33 (v := ?_) rfl (by kernel_rfl) (by kernel_rfl) (by kernel_rfl) hS rfl ?_ ?_
     rotate_left
     ·intro wS hSw; have hv := run_strB (w := wS) hSw.2.2.2; go_simp; (with_reducible rfl)
     simp only [g_S, Act.put]
     refine rg_one 28 rfl (by kernel_rfl) rfl (fun K hK => ?_)
     go_simp
     refine hn2.mono ?_
     rintro e w6 ⟨rfl, _, hg6⟩
     have hB56 : Below w.heap.size w5 w6 := (below_drewN (Below.refl w.heap.size w5) 1).grown hg6 hz5 hvw
     have hB8 := hB7.trans hB56
     have hS6 := hkeep w6 hB56
     have ho7 : OwnF w6 w.heap.size A2 N c2 l := own_stays (w := w5.drew) ho6 hg6 hAF
     have hz6 := hB8.size
     clear hn2 hg6 ho6
     refine hK _ _ hS6 ?_; clear hK K
     refine rg_t 29 hS6 ?_
     simp only [g_S, Act.put]
     refine rg_t 34 hS6 ?_
     simp only [g_S, Act.put]
     have hS7 := hkeep (w6.alloc (.cells #[.bool f1, .bool f2, .bool f3, .bool f4, .int .u8 (x1 : Int), .int .u8 (x5 : Int), .int .u16 (ch : Int), .string (str ld)] 51)) (hB56.alloc hz6 _)
     refine rg_one 35 rfl (by kernel_rfl) rfl (fun K hK => ?_)
     go_simp
     refine hK _ _ hS7 ?_
     clear hK K
     refine rg_one 36 rfl (by kernel_rfl) rfl (fun K hK => ?_)
     refine op_rec (W := w6) frShape slF Tryd.underlying42 rfl rfl rfl rfl ⟨f1, f2, f3, f4, x1, x5, ch, ld⟩ rfl ho7 (by omega) (by omega) hz6 ?_
     intro A8 c8 w8 ho8 hg8 _ hB68
     have hB58 := hB56.trans hB68
     have hS8 := hkeep w8 hB58
     have hB9 := hB7.trans hB58
     simp only [g_S, Act.put]
     refine hK _ _ hS8 ?_
     clear hK K
     refine rg_t 37 hS8 ?_
     simp only [g_S, Act.put]
     refine rg_end (by kernel_rfl) ?_
     have hwu : IntKind.i64.wrap ((u : Int) + (Nn : Int)) = ((u + Nn : Nat) : Int) := by rw [IntWalk.i64_in _ ⟨by omega, by omega⟩]; omega
     have hdr : rest.drop Nn = b.drop (u + Nn) := by rw [← HREST.out, List.drop_drop]
     have hfs2 : fs = ((l ++ [⟨f1, f2, f3, f4, x1, x5, ch, ld⟩]) ++ (frScan (b.drop (u + Nn))).1, (u + Nn) + (frScan (b.drop (u + Nn))).2.1, (frScan (b.drop (u + Nn))).2.2) := by
      rw [HF.out, ← HNN.out, hfr.out, hdr]; simp [Nat.add_assoc]
     have HFS := Lib.hid hfs2
     clear hdr hfs2
     go_wp2_with (with_reducible refine h_A ?_)
     have hRU := HRU.out
     exact ⟨⟨u + Nn, N + 1, c8, A8, l ++ [⟨f1, f2, f3, f4, x1, x5, ch, ld⟩], by omega, by first | rfl | go_num, rfl, by simp [HLN.out], by omega, HFS.out, ho8, hB9⟩, by simp [RowKit.intOf]; omega⟩
end Go.PH
end
section
/- The walk of the laws' bytes: the frames that may be, and their bytes one behind the other. -/
namespace Go.PH
open Go.RowKit Go.Proofs

def frOks (l : List Fr) : List Fr := l.filter Fr.ok
def frBytes (l : List Fr) : List UInt8 := (frOks l).flatMap Fr.bytes
theorem Fr.bytes_length (f : Fr) : f.bytes.length = 12 + f.load.length := by simp [Fr.bytes, be_length]; omega
end Go.PH
end
section
/- More about scanning: lengths; frames' bytes scanned; what is scanned, put again; pieces. -/
namespace Go.PH

theorem frScan_le (b : List UInt8) : (frScan b).1.length * 12 ≤ (frScan b).2.1 ∧ (frScan b).2.1 ≤ b.length := by
 induction hn : b.length using Nat.strongRecOn generalizing b with
 | ind n ih =>
  subst hn
  by_cases hw : frWell b = false
  ·rw [frScan_bad hw]; simp
  ·have hw1 : frWell b = true := by simpa using hw
   by_cases h12 : b.length < 12
   ·rw [frScan_short hw1 h12]; simp
   ·by_cases hl : b.length < frN b
    ·rw [frScan_wait hw1 (by omega) hl]; simp
    ·have hN := (frWell_n hw1 (by omega)).1
     rw [frScan_more hw1 (by omega) (by omega)]
     have := ih _ (by rw [List.length_drop]; omega) (b.drop (frN b)) rfl
     rw [List.length_drop] at this
     simp only [List.length_cons]
     omega
end Go.PH
end
section
/- What is scanned, put again; frames' bytes scanned; pieces. -/
namespace Go.PH

theorem be2 (n : Nat) : be 2 n = [UInt8.ofNat (n / 256), UInt8.ofNat n] := by simp [be]
theorem place_take {b : List UInt8} {j k : Nat} (h : j < k) : placeOk (b.take k) j = placeOk b j := by
 have e : ∀ i, i < k → (b.take k).getD i 0 = b.getD i 0 := fun i hi => by simp [List.getD, List.getElem?_take, hi]
 unfold placeOk
 split
 ·next e3 => subst e3; unfold frN; rw [e 2 (by omega), e 3 (by omega)]
 ·rw [e j h]
theorem frWell_take {b : List UInt8} (h : frWell b = true) (k : Nat) : frWell (b.take k) = true := by
 unfold frWell at h ⊢
 rw [List.all_eq_true] at h ⊢
 intro j hj
 have hj := List.mem_range.1 hj
 rw [List.length_take] at hj
 rw [place_take (by omega)]
 exact h j (List.mem_range.2 (by omega))
theorem frWell_app {a : List UInt8} (p : List UInt8) (h : 12 ≤ a.length) : frWell (a ++ p) = frWell a := by
 cases hw : frWell a
 ·cases hw2 : frWell (a ++ p)
  ·rfl
  ·have := frWell_take hw2 a.length
   rw [List.take_left' rfl, hw] at this
   cases this
 ·unfold frWell at hw ⊢
  rw [List.all_eq_true] at hw ⊢
  intro j hj
  have hj := List.mem_range.1 hj
  rw [← place_take (k := a.length) (by omega), List.take_left' rfl]
  exact hw j (List.mem_range.2 (by omega))
theorem frWell_bad {a : List UInt8} (p : List UInt8) (h : frWell a = false) : frWell (a ++ p) = false := by
 cases hw2 : frWell (a ++ p)
 ·rfl
 ·have := frWell_take hw2 a.length
  rw [List.take_left' rfl, h] at this
  cases this
theorem byteF_app {a : List UInt8} (p : List UInt8) {i : Nat} (h : i < a.length) : byteF (a ++ p) i = byteF a i := by
 simp [byteF, List.getD, List.getElem?_append_left h]
theorem frN_app {a : List UInt8} (p : List UInt8) (h : 4 ≤ a.length) : frN (a ++ p) = frN a := by
 rw [frN_eq, frN_eq, byteF_app p (by omega), byteF_app p (by omega)]
theorem frAt_app {a : List UInt8} (p : List UInt8) {n : Nat} (h : 12 ≤ a.length) (hn : n ≤ a.length) : frAt (a ++ p) n = frAt a n := by
 unfold frAt
 rw [byteF_app p (by omega), byteF_app p (by omega), byteF_app p (by omega), byteF_app p (by omega), byteF_app p (by omega), List.take_append_of_le_length hn]
/-- pieces -/
theorem frScan_app (a p : List UInt8) : ((frScan a).2.2 = 0 → frScan (a ++ p) = ((frScan a).1 ++ (frScan (a.drop (frScan a).2.1 ++ p)).1, (frScan a).2.1 + (frScan (a.drop (frScan a).2.1 ++ p)).2.1, (frScan (a.drop (frScan a).2.1 ++ p)).2.2)) ∧
  ((frScan a).2.2 ≠ 0 → frScan (a ++ p) = frScan a) := by
 induction hn : a.length using Nat.strongRecOn generalizing a with
 | ind n ih =>
  subst hn
  by_cases hw : frWell a = false
  ·rw [frScan_bad hw, frScan_bad (frWell_bad p hw)]
   exact ⟨fun h => by simp at h, fun _ => rfl⟩
  ·have hw1 : frWell a = true := by simpa using hw
   by_cases h12 : a.length < 12
   ·rw [frScan_short hw1 h12]
    exact ⟨fun _ => by simp, fun h => absurd rfl h⟩
   ·by_cases hl : a.length < frN a
    ·rw [frScan_wait hw1 (by omega) hl]
     exact ⟨fun _ => by simp, fun h => absurd rfl h⟩
    ·have hN := (frWell_n hw1 (by omega)).1
     rw [frScan_more hw1 (by omega) (by omega)]
     have hw2 : frWell (a ++ p) = true := by rw [frWell_app p (by omega)]; exact hw1
     have hN2 := frN_app (a := a) p (by omega)
     rw [frScan_more hw2 (by simp; omega) (by rw [hN2]; simp; omega), hN2, frAt_app p (by omega) (by omega), List.drop_append_of_le_length (by omega)]
     obtain ⟨i1, i2⟩ := ih _ (by rw [List.length_drop]; omega) (a.drop (frN a)) rfl
     simp only
     refine ⟨fun h => ?_, fun h => ?_⟩
     ·rw [i1 h]
      simp [List.drop_drop, Nat.add_assoc]
     ·rw [i2 h]
end Go.PH
end
section
/- Frames' bytes, and the beginning of another one's, scanned. -/
namespace Go.PH

theorem flags_back : ∀ a b c d : Bool, ((bitv a 8 + bitv b 4 + bitv c 2 + bitv d 1) / 8 % 2 == 1) = a ∧ ((bitv a 8 + bitv b 4 + bitv c 2 + bitv d 1) / 4 % 2 == 1) = b ∧ ((bitv a 8 + bitv b 4 + bitv c 2 + bitv d 1) / 2 % 2 == 1) = c ∧ ((bitv a 8 + bitv b 4 + bitv c 2 + bitv d 1) % 2 == 1) = d := by decide
theorem toNat_of (n : Nat) : (UInt8.ofNat n).toNat = n % 256 := by rw [UInt8.toNat_ofNat']
theorem Fr.bytes_cons (f : Fr) : f.bytes = UInt8.ofNat f.flags :: UInt8.ofNat f.ty :: UInt8.ofNat ((12 + f.load.length) / 256) :: UInt8.ofNat (12 + f.load.length) :: 0 :: UInt8.ofNat f.track :: UInt8.ofNat (f.chan / 256) :: UInt8.ofNat f.chan :: 0 :: 0 :: 0 :: 0 :: f.load := by
 simp [Fr.bytes, be2]
theorem fr_all {f : Fr} (hw : f.wf) (hok : f.ok = true) : frWell f.bytes = true ∧ frN f.bytes = f.bytes.length ∧ frAt f.bytes f.bytes.length = f := by
 have hfl := f.flags_lt
 obtain ⟨w1, w2, w3⟩ := hw
 have ⟨⟨o1, o2⟩, o3⟩ : (f.ty ≤ 3 ∧ f.track ≤ 15) ∧ f.load.length ≤ 4084 := by unfold Fr.ok at hok; simpa using hok
 have hlen := f.bytes_length
 have hN : frN f.bytes = f.bytes.length := by
  rw [hlen, f.bytes_cons, frN_eq]
  simp only [byteF, List.getD_cons_zero, List.getD_cons_succ, toNat_of]
  omega
 refine ⟨?_, hN, ?_⟩
 ·unfold frWell
  rw [List.all_eq_true]
  intro k hk
  have hk := List.mem_range.1 hk
  have hk12 : k < 12 := by omega
  unfold placeOk
  rw [hN]
  split
  ·simp; omega
  ·next h3 =>
   rw [f.bytes_cons]
   match k, hk12, h3 with
   | 0, _, _ => simp [frMost, toNat_of]; omega
   | 1, _, _ => simp [frMost, toNat_of]; omega
   | 2, _, _ => simp [frMost, toNat_of]; omega
   | 3, _, h => exact absurd rfl h
   | 4, _, _ => simp [frMost]
   | 5, _, _ => simp [frMost, toNat_of]; omega
   | 6, _, _ => simp [frMost, toNat_of]; omega
   | 7, _, _ => simp [frMost, toNat_of]; omega
   | 8, _, _ => simp [frMost]
   | 9, _, _ => simp [frMost]
   | 10, _, _ => simp [frMost]
   | 11, _, _ => simp [frMost]
 ·rw [hlen]
  have hb : frAt f.bytes (12 + f.load.length) = ⟨byteF f.bytes 0 / 8 % 2 == 1, byteF f.bytes 0 / 4 % 2 == 1, byteF f.bytes 0 / 2 % 2 == 1, byteF f.bytes 0 % 2 == 1, byteF f.bytes 1, byteF f.bytes 5, 256 * byteF f.bytes 6 + byteF f.bytes 7, (f.bytes.take (12 + f.load.length)).drop 12⟩ := rfl
  have h0 : byteF f.bytes 0 = f.flags := by rw [f.bytes_cons]; simp only [byteF, List.getD_cons_zero, toNat_of]; omega
  have h1 : byteF f.bytes 1 = f.ty := by rw [f.bytes_cons]; simp only [byteF, List.getD_cons_zero, List.getD_cons_succ, toNat_of]; omega
  have h5 : byteF f.bytes 5 = f.track := by rw [f.bytes_cons]; simp only [byteF, List.getD_cons_zero, List.getD_cons_succ, toNat_of]; omega
  have h67 : 256 * byteF f.bytes 6 + byteF f.bytes 7 = f.chan := by rw [f.bytes_cons]; simp only [byteF, List.getD_cons_zero, List.getD_cons_succ, toNat_of]; omega
  have hld : (f.bytes.take (12 + f.load.length)).drop 12 = f.load := by
   rw [← hlen, List.take_length, f.bytes_cons]; rfl
  rw [hb, h0, h1, h5, h67, hld]
  have := flags_back f.first f.last f.beg f.fin
  unfold Fr.flags
  rw [this.1, this.2.1, this.2.2.1, this.2.2.2]
theorem frScan_one {f : Fr} (hw : f.wf) (hok : f.ok = true) (r : List UInt8) : frScan (f.bytes ++ r) = (f :: (frScan r).1, f.bytes.length + (frScan r).2.1, (frScan r).2.2) := by
 obtain ⟨h1, h2, h3⟩ := fr_all hw hok
 have hlen := f.bytes_length
 have e1 : frN (f.bytes ++ r) = f.bytes.length := by rw [frN_app r (by omega), h2]
 rw [frScan_more (by rw [frWell_app r (by omega)]; exact h1) (by simp; omega) (by rw [e1]; simp), e1, frAt_app r (by omega) (Nat.le_refl _), h3, List.drop_left' rfl]
theorem frScan_row {l : List Fr} (hw : ∀ f ∈ l, f.wf) (r : List UInt8) : frScan (frBytes l ++ r) = (frOks l ++ (frScan r).1, (frBytes l).length + (frScan r).2.1, (frScan r).2.2) := by
 induction l with
 | nil => simp [frBytes, frOks]
 | cons f l ih =>
  have ih := ih (fun g hg => hw g (List.mem_cons_of_mem _ hg))
  cases hok : f.ok
  ·have e1 : frOks (f :: l) = frOks l := by simp [frOks, hok]
   have e2 : frBytes (f :: l) = frBytes l := by unfold frBytes; rw [e1]
   rw [e1, e2]; exact ih
  ·have e1 : frOks (f :: l) = f :: frOks l := by simp [frOks, hok]
   have e2 : frBytes (f :: l) = f.bytes ++ frBytes l := by unfold frBytes; rw [e1]; simp
   rw [e1, e2, List.append_assoc, frScan_one (hw f (List.mem_cons_self ..)) hok, ih]
   simp [Nat.add_assoc]
end Go.PH
end
section
/- The walk of octet's Text. -/
namespace Go.PH
open Go.RowKit Go.Proofs

set_option maxHeartbeats 1000000 in
theorem rdtext_any {F : Nat → Prop} {w : World} {v : Value} {vb : Option Nat} {l : List UInt8} {bad : Bool} (h : Rdr F w v vb l bad) (x most : Int) (hx : -9223372036854775808 ≤ x) (hx' : x ≤ 9223372036854775807) (hm : -9223372036854775808 ≤ most) (hm' : most ≤ 9223372036854775807) :
  Calls Tryd.prog 50 #[v, .int .i64 x, .int .i64 most] w fun e w' => e = .returned (.string (str (mtext l bad x most).1)) ∧ Rdr F w' v vb (mtext l bad x most).2.1 (mtext l bad x most).2.2 ∧ w.grownBy w' vb := by
 by_cases h8 : x = 8
 ·subst h8
  rw [mtext_no (by omega)]
  go_enter Tryd.func50, Tryd.ntmps50
  go_wp2_with (with_reducible refine h_A ?_)
  refine (rdspoil_any h).mono ?_
  rintro e w1 ⟨rfl, h1, hg1⟩
  go_wp2_with (with_reducible refine h_A ?_)
  go_ret
  exact ⟨rfl, h1, hg1⟩
 have hN := rdnum_any h x hx hx'
 have hlt := mnum_lt l bad x
 rw [mtext_eq h8]
 generalize mnum l bad x = r at hN hlt ⊢
 obtain ⟨n, l', bad'⟩ := r
 simp only at hN hlt ⊢
 by_cases hb : bad' = true
 ·subst hb
  rw [if_pos (.inl rfl)]
  go_enter Tryd.func50, Tryd.ntmps50
  go_wp2_with (with_reducible refine h_A ?_)
  refine hN.mono ?_
  rintro e w1 ⟨rfl, h1, hg1⟩
  go_wp2_with (with_reducible refine h_A ?_)
  refine (rdbad_any h1).mono ?_
  rintro e w2 ⟨rfl, rfl⟩
  go_wp2_with (with_reducible refine h_A ?_)
  refine (rdspoil_any h1).mono ?_
  rintro e w3 ⟨rfl, h3, hg3⟩
  go_wp2_with (with_reducible refine h_A ?_)
  go_ret
  exact ⟨rfl, h3, hg1.trans hg3⟩
 obtain rfl : bad' = false := by simpa using hb
 by_cases hneg : most < 0
 ·rw [if_pos (.inr (.inl hneg))]
  go_enter Tryd.func50, Tryd.ntmps50
  go_wp2_with (with_reducible refine h_A ?_)
  refine hN.mono ?_
  rintro e w1 ⟨rfl, h1, hg1⟩
  go_wp2_with (with_reducible refine h_A ?_)
  refine (rdbad_any h1).mono ?_
  rintro e w2 ⟨rfl, rfl⟩
  go_wp2_with (with_reducible refine h_A ?_)
  refine (rdspoil_any h1).mono ?_
  rintro e w3 ⟨rfl, h3, hg3⟩
  go_wp2_with (with_reducible refine h_A ?_)
  go_ret
  exact ⟨rfl, h3, hg1.trans hg3⟩
 by_cases hmore : most < (n : Int)
 ·rw [if_pos (.inr (.inr (.inl hmore)))]
  go_enter Tryd.func50, Tryd.ntmps50
  go_wp2_with (with_reducible refine h_A ?_)
  refine hN.mono ?_
  rintro e w1 ⟨rfl, h1, hg1⟩
  go_wp2_with (with_reducible refine h_A ?_)
  refine (rdbad_any h1).mono ?_
  rintro e w2 ⟨rfl, rfl⟩
  go_wp2_with (with_reducible refine h_A ?_)
  refine (rdspoil_any h1).mono ?_
  rintro e w3 ⟨rfl, h3, hg3⟩
  go_wp2_with (with_reducible refine h_A ?_)
  go_ret
  exact ⟨rfl, h3, hg1.trans hg3⟩
 by_cases hleft : l'.length < n
 ·rw [if_pos (.inr (.inr (.inr hleft)))]
  go_enter Tryd.func50, Tryd.ntmps50
  go_wp2_with (with_reducible refine h_A ?_)
  refine hN.mono ?_
  rintro e w1 ⟨rfl, h1, hg1⟩
  have hll := h1.len
  go_wp2_with (with_reducible refine h_A ?_)
  refine (rdbad_any h1).mono ?_
  rintro e w2 ⟨rfl, rfl⟩
  go_wp2_with (with_reducible refine h_A ?_)
  refine (rdleft_any h1).mono ?_
  rintro e w2 ⟨rfl, rfl⟩
  go_wp2_with (with_reducible refine h_A ?_)
  refine (rdspoil_any h1).mono ?_
  rintro e w3 ⟨rfl, h3, hg3⟩
  go_wp2_with (with_reducible refine h_A ?_)
  go_ret
  exact ⟨rfl, h3, hg1.trans hg3⟩
 rw [if_neg (by simp; omega), mtake_yes (by omega)]
 have hn63 : (n : Int) ≤ 9223372036854775807 := by omega
 have hleft' : ¬ ((l'.length : Int) < (n : Int)) := by omega
 have hneg' : 0 ≤ most := by omega
 have hmore' : (n : Int) ≤ most := by omega
 go_enter Tryd.func50, Tryd.ntmps50
 go_wp2_with (with_reducible refine h_A ?_)
 refine hN.mono ?_
 rintro e w1 ⟨rfl, h1, hg1⟩
 have hll := h1.len
 go_wp2_with (with_reducible refine h_A ?_)
 refine (rdbad_any h1).mono ?_
 rintro e w2 ⟨rfl, rfl⟩
 go_wp2_with (with_reducible refine h_A ?_)
 refine (rdleft_any h1).mono ?_
 rintro e w2 ⟨rfl, rfl⟩
 go_wp2_with (with_reducible refine h_A ?_)
 have hT := rdtake_any h1 (n : Int) (by omega) (by omega)
 rw [mtake_yes (by omega)] at hT
 simp only [List.length_take, Nat.min_eq_left (Nat.le_of_not_lt hleft)] at hT
 refine hT.mono ?_
 rintro e w3 ⟨A3, c3, rfl, ho3, h3, hg3⟩
 have hcv := run_strB ho3.rd
 go_wp2_with (with_reducible refine h_A ?_)
 go_ret
 exact ⟨rfl, h3, hg1.trans hg3⟩
end Go.PH
end
section
/- Rows of bytes of one's own; all blocks but one stay. -/
namespace Go.PH
open Go.RowKit Go.Proofs

abbrev OwnB (w : World) (base : Nat) (A : Option Addr) (n c : Nat) (l : List UInt8) : Prop := Own w base 5 1 A n c (l.map u8v)
/-- all blocks but one stay as they are -/
def KB (w w' : World) (row : Option Nat) : Prop := w.heap.size ≤ w'.heap.size ∧ ∀ g, g < w.heap.size → row ≠ some g → w'.heap[g]? = w.heap[g]?
theorem KB.box {w w' : World} {row : Option Nat} (h : KB w w' row) {g : Nat} {t : TypeId} {cs : Array Value} (hb : Box w g t cs) (hne : row ≠ some g) : Box w' g t cs := (h.2 g hb.lt hne).trans hb
end Go.PH
end
section
/- Texts: cut, put together, turned into bytes. -/
namespace Go.PH
open Go.RowKit
section
variable {P : Program} {w : World} {t : TypeId}
theorem str_extract (l : List UInt8) (a b : Nat) : (str l).extract a b = str ((l.take b).drop a) := by
 rw [List.drop_take]; exact ByteArray.extract_mk l a b
theorem str_app (a b : List UInt8) : str a ++ str b = str (a ++ b) := by
 apply ByteArray.ext
 simp [str]
theorem run_cutS (hu : P.underlying t = some .string) (w : World) {l : List UInt8} {lo hi : Option Value} (i j : Nat) (hlo : Bd lo 0 i) (hhi : Bd hi l.length j) (h1 : i ≤ j) (h2 : j ≤ l.length) :
  (Instr.sliceAt t (.string (str l)) lo hi none).run P w = .ok (.string (str ((l.take j).drop i))) w := by
 rw [run_sliceAt_string w t _ _ _ _ hu]
 rcases hlo with ⟨rfl, rfl⟩ | ⟨kd, X, rfl, rfl⟩
 ·rcases hhi with ⟨rfl, rfl⟩ | ⟨kd, X, rfl, rfl⟩
  ·rw [run_slice_string_all (h := hu), str_size, str_extract]
  ·rw [run_slice_string_h (ht := hu) (h0 := by omega) (h2 := by rw [str_size]; omega), str_extract]; simp
 ·rcases hhi with ⟨rfl, rfl⟩ | ⟨kd', X, rfl, rfl⟩
  ·rw [run_slice_string_l (ht := hu) (h0 := by omega) (h1 := by rw [str_size]; omega), str_size, str_extract]; simp
  ·rw [run_slice_string (h := hu) (h0 := by omega) (h1 := by omega) (h2 := by rw [str_size]; omega), str_extract]; simp
variable {ops : Array Oper} {rest : List Oper} {o : Oper} {a : Act} {Q : Exit → Act → World → Prop} {x : Operand} {K : Act → World → Prop}
theorem exec_cutS {lo hi : Option Operand} (hu : P.underlying t = some .string) (ho : o.op = .slice t x lo hi none) {l : List UInt8} (hx : a.eval x = .string (str l)) (i j : Nat) (hlo : Bd (lo.map a.eval) 0 i) (hhi : Bd (hi.map a.eval) l.length j) (h1 : i ≤ j) (h2 : j ≤ l.length) :
  (execOp a.eval o).run P w = .ok (.value (.string (str ((l.take j).drop i)))) w := by
 have hrun := run_cutS hu w i j hlo hhi h1 h2
 unfold execOp
 simp only [ho, hx, Sem.run_bind, Sem.run_pure, Result.andThen_ok, Option.map_none, hrun]
theorem op_cutS {lo hi : Option Operand} (hu : P.underlying t = some .string) (ho : o.op = .slice t x lo hi none) {l : List UInt8} (hx : a.eval x = .string (str l)) (i j : Nat) (hlo : Bd (lo.map a.eval) 0 i) (hhi : Bd (hi.map a.eval) l.length j) (h1 : i ≤ j) (h2 : j ≤ l.length)
  (hk : K (a.put o.dst (.string (str ((l.take j).drop i)))) w) : o.wp P a w K Q := by
 have hrun := run_cutS hu w i j hlo hhi h1 h2
 unfold Oper.wp execOp
 simp only [ho, hx, Sem.run_bind, Sem.run_pure, Result.andThen_ok, Option.map_none, hrun]
 exact hk
theorem wp_cutS {lo hi : Option Operand} (hu : P.underlying t = some .string) (hw : Region.wanted o (yielded ops a.tmps) = true) (ho : o.op = .slice t x lo hi none) {l : List UInt8} (hx : a.eval x = .string (str l)) (i j : Nat) (hlo : Bd (lo.map a.eval) 0 i) (hhi : Bd (hi.map a.eval) l.length j) (h1 : i ≤ j) (h2 : j ≤ l.length)
  (hk : wpList P ops Q rest (a.put o.dst (.string (str ((l.take j).drop i)))) w) : wpList P ops Q (o :: rest) a w :=
 BigFrame.wpList_want hw fun K hK => op_cutS hu ho hx i j hlo hhi h1 h2 (hK _ _ hk)
/-- []byte(s) -/
theorem run_s2b {src dst e : TypeId} (hs : P.underlying src = some .string) (hd : P.underlying dst = some (.slice e)) (he : P.underlying e = some (.int .u8)) (w : World) (l : List UInt8) (hl : l.length ≤ 140737488351240) :
  ∃ c w', (convert src dst (.string (str l))).run P w = .ok (.slice (some ⟨w.heap.size, 0, none⟩) l.length c) w' ∧ RdB w' w'.heap.size (some ⟨w.heap.size, 0, none⟩) l.length c l ∧ Below w.heap.size w w' := by
 refine ⟨_, _, Lib.run_convert_string_bytes w src dst e (str l) hs hd he, ?_, ?_⟩
 ·refine ⟨by simp, ?_, ?_, fun hn => ⟨_, _, rfl, by rw [Lib.bytesWorld_size]; omega, fun j u hu => ?_⟩⟩
  ·exact grownCap_ge _ _ _ _
  ·exact grownCap_le_maxLen _ _ _ _ (by simp only [maxLen, str_size]; omega)
  ·have hj : j < l.length := by have := (List.getElem?_eq_some_iff.1 hu).1; simpa using this
   have := Lib.bytesWorld_cell w e (str l) j (by rw [str_size]; exact hj)
   simp only [Nat.zero_add]
   rw [this]
   simp [u8v, str, List.getD, hj] at hu ⊢
   exact hu
 ·refine ⟨?_, ?_, ?_, by rw [Lib.bytesWorld_size]; omega, fun k hk => Lib.bytesWorld_at_old w e (str l) k hk⟩
  all_goals rfl
theorem op_s2b {src dst e : TypeId} (hs : P.underlying src = some .string) (hd : P.underlying dst = some (.slice e)) (he : P.underlying e = some (.int .u8)) (ho : o.op = .convert src dst x) {l : List UInt8} (hx : a.eval x = .string (str l)) (hl : l.length ≤ 140737488351240)
  (hk : ∀ c w', RdB w' w'.heap.size (some ⟨w.heap.size, 0, none⟩) l.length c l → Below w.heap.size w w' → K (a.put o.dst (.slice (some ⟨w.heap.size, 0, none⟩) l.length c)) w') : o.wp P a w K Q := by
 obtain ⟨c, w', hrun, h1, h2⟩ := run_s2b hs hd he w l hl
 unfold Oper.wp execOp
 simp only [ho, hx, Sem.run_bind, Sem.run_pure, Result.andThen_ok, hrun]
 exact hk _ _ h1 h2
theorem wp_s2b {src dst e : TypeId} (hs : P.underlying src = some .string) (hd : P.underlying dst = some (.slice e)) (he : P.underlying e = some (.int .u8)) (hw : Region.wanted o (yielded ops a.tmps) = true) (ho : o.op = .convert src dst x) {l : List UInt8} (hx : a.eval x = .string (str l)) (hl : l.length ≤ 140737488351240)
  (hk : ∀ c w', RdB w' w'.heap.size (some ⟨w.heap.size, 0, none⟩) l.length c l → Below w.heap.size w w' → wpList P ops Q rest (a.put o.dst (.slice (some ⟨w.heap.size, 0, none⟩) l.length c)) w') : wpList P ops Q (o :: rest) a w :=
 BigFrame.wpList_want hw fun K hK => op_s2b hs hd he ho hx hl fun c w' h1 h2 => hK _ _ (hk c w' h1 h2)
end
end Go.PH
end

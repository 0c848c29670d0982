/- The walk of frame's Scan. -/
import Derived.Test.YtgjdpgihehpecaaFrScanMath
import Derived.Test.YtgjdpgihehpecaaOctRead2
namespace Go.PH
open Go.RowKit Go.Proofs

theorem fnum_ok {l : List UInt8} {x : Nat} (hx : x = 1 ∨ x = 2 ∨ x = 4 ∨ x = 8) (h : x ≤ l.length) : mnum l false (x : Int) = (unbe (l.take x), l.drop x, false) := by
  rw [mnum_yes (wideB_yes (by omega)), mtake_yes h]
theorem byteN_eq {l : List UInt8} {i : Nat} (h : i < l.length) : byteN l i = l[i].toNat := by simp [byteN, List.getD, List.getElem?_eq_getElem h]
theorem byteN_lt (l : List UInt8) (i : Nat) : byteN l i < 256 := (l.getD i 0).toNat_lt
theorem unbe_two (l : List UInt8) (i : Nat) (h : i + 2 ≤ l.length) : unbe ((l.drop i).take 2) = 256 * byteN l i + byteN l (i + 1) := by
  rw [List.drop_eq_getElem_cons (by omega), List.drop_eq_getElem_cons (show i + 1 < l.length by omega), byteN_eq (show i < l.length by omega), byteN_eq (show i + 1 < l.length by omega), List.take_succ_cons, List.take_succ_cons, List.take_zero]
  unfold unbe
  simp only [List.foldl_cons, List.foldl_nil]
  omega
theorem byteN_take (l : List UInt8) (i k : Nat) (h : i < k) : byteN (l.take k) i = byteN l i := by
  simp [byteN, List.getD, List.getElem?_take, h]
theorem frN_eq (l : List UInt8) : frN l = 256 * byteN l 2 + byteN l 3 := rfl
theorem frScan_at {rest : List UInt8} {l : List Fr} {u : Nat} {fs r : List Fr × Nat × Nat} (h : fs = (l ++ (frScan rest).1, u + (frScan rest).2.1, (frScan rest).2.2)) (hr : frScan rest = r) : fs = (l ++ r.1, u + r.2.1, r.2.2) := by rw [h, hr]

set_option maxRecDepth 20000 in
set_option maxHeartbeats 4000000 in
theorem scan_any (A : Option Addr) (n c : Nat) (b : List UInt8) (w : World) (hr : RdB w w.heap.size A n c b) (hn : n ≤ 1000000000) :
    Calls Try.prog 12 #[.slice A n c] w fun e w' => ∃ A2 c2, e = .returned (.tuple #[.slice A2 (frScan b).1.length c2, .int .i64 (frScan b).2.1, .int .i64 (frScan b).2.2]) ∧ OwnF w' w.heap.size A2 (frScan b).1.length c2 (frScan b).1 ∧ Below w.heap.size w w' := by
  have hl := RdB.length hr
  have hcap := hr.cap
  obtain ⟨fs, hfs⟩ : ∃ fs, fs = frScan b := ⟨_, rfl⟩
  rw [← hfs]
  go_enter Try.func12, Try.ntmps12
  go_wp2_with (first | (with_reducible refine hold_append ?_) | (with_reducible refine hold_make ?_) | (with_reducible refine hold_copy ?_))
  go_loopw [6, 5] (fun s v wr => ∃ (u N c2 : Nat) (A2 : Option Addr) (l : List Fr), u ≤ n ∧ s = .int .i64 u ∧ v = .slice A2 N c2 ∧ l.length = N ∧ N ≤ u ∧ fs = (l ++ (frScan (b.drop u)).1, u + (frScan (b.drop u)).2.1, (frScan (b.drop u)).2.2) ∧ OwnF wr w.heap.size A2 N c2 l ∧ Below w.heap.size w wr) (fun s _ _ => n - (intOf s).toNat)
  case atStart => exact ⟨0, 0, 0, none, [], by omega, rfl, rfl, rfl, by omega, by rw [hfs]; simp, Own.none_ _ _ _ _, Below.refl _ _⟩
  case round =>
    obtain ⟨u, N, c2, A2, l, hu, rfl, rfl, hlN, hNu, hsc, ho, hBr⟩ := hrel
    have HSC := Lib.hid hsc
    have HLN := Lib.hid hlN
    clear hsc hfs hlN
    have hz := hBr.size
    go_wp2_with (first | (with_reducible refine hold_append ?_) | (with_reducible refine hold_make ?_) | (with_reducible refine hold_copy ?_) | (with_reducible refine hold_slice ?_))
    refine unhold (wp_cutB slB rfl rfl rfl (hr.below hBr) u n c (.inr ⟨_, _, rfl, rfl⟩) (.inl ⟨rfl, rfl⟩) (.inl ⟨rfl, rfl⟩) (by intro h; cases h) (by omega) (by omega) (Nat.le_refl _) (Nat.le_refl _) ?_)
    intro A3 hr3 _
    simp only [Nat.mul_one] at hr3
    rw [List.take_of_length_le (by simp; omega), ← List.map_drop] at hr3
    have hrl : (b.drop u).length = n - u := by simp; omega
    generalize hrest : b.drop u = rest at *
    have HREST := Lib.hid hrest
    clear hrest
    obtain ⟨R, hR⟩ : ∃ R, R = n - u := ⟨_, rfl⟩
    obtain ⟨D, hD⟩ : ∃ D, D = c - u := ⟨_, rfl⟩
    rw [← hR, ← hD] at hr3 ⊢
    rw [← hR] at hrl
    have hRn : R ≤ 1000000000 := by omega
    have HRU := Lib.hid (show R + u = n by omega)
    clear hR hD
    have hback : Rd w w.heap.size 1 A3 R D (rest.map u8v) := Rd.keep hr3 (fun p hp => (hBr.cell hp).symm)
    have hwl := well_any A3 R D rest w.heap.size wr hr3 hz (by omega)
    cases hwell : frWell rest
    · rw [hwell] at hwl
      have HF := Lib.hid (frScan_at HSC.out (frScan_bad hwell))
      clear hwell
      go_wp2_with (first | (with_reducible refine hold_append ?_) | (with_reducible refine hold_make ?_) | (with_reducible refine hold_copy ?_))
      refine hwl.mono ?_
      rintro e w1 ⟨rfl, hB1⟩
      have hB2 := hBr.trans (hB1.mono hz)
      have ho2 := own_below ho hB1
      go_wp2_with (first | (with_reducible refine hold_append ?_) | (with_reducible refine hold_make ?_) | (with_reducible refine hold_copy ?_))
      go_ret3
      rw [HF.out]
      simp only [List.append_nil, Nat.add_zero]
      rw [HLN.out]
      exact ⟨A2, c2, rfl, ho2, hB2⟩
    · rw [hwell] at hwl
      by_cases h12 : rest.length < 12
      · have hd12 : (R : Int) < 12 := by omega
        have HF := Lib.hid (frScan_at HSC.out (frScan_short hwell h12))
        clear hwell h12
        go_wp2_with (first | (with_reducible refine hold_append ?_) | (with_reducible refine hold_make ?_) | (with_reducible refine hold_copy ?_))
        refine hwl.mono ?_
        rintro e w1 ⟨rfl, hB1⟩
        have hB2 := hBr.trans (hB1.mono hz)
        have ho2 := own_below ho hB1
        go_wp2_with (first | (with_reducible refine hold_append ?_) | (with_reducible refine hold_make ?_) | (with_reducible refine hold_copy ?_))
        go_ret3
        rw [HF.out]
        simp only [List.append_nil, Nat.add_zero]
        rw [HLN.out]
        exact ⟨A2, c2, rfl, ho2, hB2⟩
      · have hd12 : ¬ (R : Int) < 12 := by omega
        have hNb := frWell_n hwell (by omega)
        have hb0 := frWell_at hwell (k := 0) (by omega) (by omega) (by omega)
        have HW := Lib.hid hwell
        clear hwell
        have hxl : (rest.take 12).length = 12 := by simp; omega
        have hm0 : mtake (rest.take 12) false 2 = ((rest.take 12).take 2, (rest.take 12).drop 2, false) := mtake_yes (n := 2) (by omega)
        have hm1 : mnum ((rest.take 12).drop 2) false 2 = (frN rest, (rest.take 12).drop 4, false) := by
          refine (fnum_ok (x := 2) (by omega) (by simp; omega)).trans ?_
          rw [unbe_two _ 2 (by omega), byteN_take _ _ _ (by omega), byteN_take _ _ _ (by omega), frN_eq, List.drop_drop]
        have hm2 : mtake ((rest.take 12).drop 4) false 2 = (((rest.take 12).drop 4).take 2, (rest.take 12).drop 6, false) := (mtake_yes (n := 2) (by simp; omega)).trans (by rw [List.drop_drop])
        have hm3 : mnum ((rest.take 12).drop 6) false 2 = (256 * byteN rest 6 + byteN rest 7, (rest.take 12).drop 8, false) := by
          refine (fnum_ok (x := 2) (by omega) (by simp; omega)).trans ?_
          rw [unbe_two _ 6 (by omega), byteN_take _ _ _ (by omega), byteN_take _ _ _ (by omega), List.drop_drop]
        go_wp2_with (first | (with_reducible refine hold_append ?_) | (with_reducible refine hold_make ?_) | (with_reducible refine hold_copy ?_))
        refine hwl.mono ?_
        rintro e w1 ⟨rfl, hB1⟩
        have hB2 := hBr.trans (hB1.mono hz)
        have ho2 := own_below ho hB1
        have hr31 := hr3.below (hB1.mono hz)
        have hz1 := hB2.size
        clear ho hBr hB1
        go_wp2_with (first | (with_reducible refine hold_append ?_) | (with_reducible refine hold_make ?_) | (with_reducible refine hold_copy ?_) | (with_reducible refine hold_slice ?_))
        refine unhold (wp_cutB slB rfl rfl rfl hr31 0 12 D (.inl ⟨rfl, rfl⟩) (.inr ⟨_, _, rfl, rfl⟩) (.inl ⟨rfl, rfl⟩) (by intro h; cases h) (by omega) (by have := hr31.cap; omega) (Nat.le_refl _) (by omega) ?_)
        intro A4 hr4 _
        simp only [Nat.mul_one, Nat.zero_mul, List.drop_zero, ← List.map_take, Nat.sub_zero] at hr4 ⊢
        go_wp2_with (first | (with_reducible refine hold_append ?_) | (with_reducible refine hold_make ?_) | (with_reducible refine hold_copy ?_))
        refine (rdopen_any A4 12 D (rest.take 12) w1 (hr4.more hz1) (by omega)).mono ?_
        rintro e w2 ⟨rb, vb, rfl, hrb, hvb, hRd, hB3⟩
        have hB4 := hB2.trans (hB3.mono hz1)
        have ho3 := own_below ho2 hB3
        have hz2 : w1.heap.size ≤ w2.heap.size := hB3.size
        have hA2 : ∀ g, blk A2 = some g → g < w1.heap.size := fun g hg => (ho2.blk_lt hg).2
        clear ho2 hB3
        have hFv : w1.heap.size ≤ vb ∧ vb < w2.heap.size := hRd.inF rfl
        have hAF : ∀ g, blk A2 = some g → some vb ≠ some g := by
          intro g hg e
          injection e with e
          have := hA2 g hg
          omega
        have hvw : ∀ g, some vb = some g → w.heap.size ≤ g := fun g hg => by injection hg with hg; omega
        have ht1 := rdtake_any hRd 2 (by omega) (by omega)
        rw [hm0] at ht1
        go_wp2_with (first | (with_reducible refine hold_append ?_) | (with_reducible refine hold_make ?_) | (with_reducible refine hold_copy ?_))
        refine ht1.mono ?_
        rintro e w3 ⟨A5, c5, rfl, _, hRd3, hg3⟩
        have hB5 := hB4.grown hg3 hB4.size hvw
        have ho4 := own_stays ho3 hg3 hAF
        have hn1 := rdnum_any hRd3 2 (by omega) (by omega)
        rw [hm1] at hn1
        obtain ⟨Nn, hNn⟩ : ∃ Nn, Nn = frN rest := ⟨_, rfl⟩
        rw [← hNn] at hn1 hNb
        have HNN := Lib.hid hNn
        clear hNn ht1 hm0 hm1 hRd hg3 ho3 hB4
        have hwn : IntKind.i64.wrap ((Nn : Nat) : Int) = (Nn : Int) := IntWalk.i64_in _ ⟨by omega, by omega⟩
        go_wp2_with (first | (with_reducible refine hold_append ?_) | (with_reducible refine hold_make ?_) | (with_reducible refine hold_copy ?_))
        refine hn1.mono ?_
        rintro e w4 ⟨rfl, hRd4, hg4⟩
        have hB6 := hB5.grown hg4 hB5.size hvw
        have ho5 := own_stays ho4 hg4 hAF
        clear hn1 hg4 hRd3 ho4 hB5
        by_cases hwait : R < Nn
        · have hdw : (R : Int) < (Nn : Int) := by omega
          have HF := Lib.hid (frScan_at HSC.out (frScan_wait HW.out (by omega) (by rw [← HNN.out]; omega)))
          go_wp2_with (first | (with_reducible refine hold_append ?_) | (with_reducible refine hold_make ?_) | (with_reducible refine hold_copy ?_))
          go_ret3
          rw [HF.out]
          simp only [List.append_nil, Nat.add_zero]
          rw [HLN.out]
          exact ⟨A2, c2, rfl, ho5, hB6⟩
        · have hdw : ¬ (R : Int) < (Nn : Int) := by omega
          have HF := Lib.hid (frScan_at HSC.out (frScan_more HW.out (by omega) (by rw [← HNN.out]; omega)))
          have ht2 := rdtake_any hRd4 2 (by omega) (by omega)
          rw [hm2] at ht2
          go_wp2_with (first | (with_reducible refine hold_append ?_) | (with_reducible refine hold_make ?_) | (with_reducible refine hold_copy ?_))
          refine ht2.mono ?_
          rintro e w5 ⟨A6, c6, rfl, _, hRd5, hg5⟩
          have hB7 := hB6.grown hg5 hB6.size hvw
          have ho6 := own_stays ho5 hg5 hAF
          have hn2 := rdnum_any (Rdr.drew hRd5) 2 (by omega) (by omega)
          rw [hm3] at hn2
          clear ht2 hm2 hm3 hRd4 hg5 ho5 hB6
          have hr35 : RdB w5 w.heap.size A3 R D rest := Rd.below hback hB7
          obtain ⟨xb, xo, rfl, hxb, hx0l, hx0⟩ := RdB.at_k hr35 (k := 0) (by omega)
          obtain ⟨xb1, xo1, e1, _, hx1l, hx1⟩ := RdB.at_k hr35 (k := 1) (by omega)
          obtain ⟨xb5, xo5, e5, _, hx5l, hx5⟩ := RdB.at_k hr35 (k := 5) (by omega)
          obtain ⟨rfl, rfl⟩ : xb = xb1 ∧ xo = xo1 := by simpa using e1
          obtain ⟨rfl, rfl⟩ : xb = xb5 ∧ xo = xo5 := by simpa using e5
          clear e1 e5
          rw [← byteN_eq hx0l] at hx0
          rw [← byteN_eq hx1l] at hx1
          rw [← byteN_eq hx5l] at hx5
          have hy0 := byteN_lt rest 0
          have hy6 := byteN_lt rest 6
          have hy7 := byteN_lt rest 7
          have hcut := rd_cut hr35 12 Nn D (by omega) (by have := hr35.cap; omega) (Nat.le_refl _) (by omega)
          simp only [Nat.mul_one, ← List.map_take, ← List.map_drop] at hcut
          have hfr : Hid (frAt rest Nn = ⟨byteN rest 0 / 8 % 2 == 1, byteN rest 0 / 4 % 2 == 1, byteN rest 0 / 2 % 2 == 1, byteN rest 0 % 2 == 1, byteN rest 1, byteN rest 5, 256 * byteN rest 6 + byteN rest 7, (rest.take Nn).drop 12⟩) := Lib.hid rfl
          have hb15 : byteN rest 0 < 16 := by have : frMost 0 = 15 := rfl; omega
          have hand := and_bit ⟨byteN rest 0, hb15⟩
          simp only at hand
          obtain ⟨ha8, ha4, ha2, ha1⟩ := hand
          obtain ⟨ch, hch⟩ : ∃ ch, ch = 256 * byteN rest 6 + byteN rest 7 := ⟨_, rfl⟩
          rw [← hch] at hn2 hfr
          have hchb : ch < 65536 := by omega
          generalize byteN rest 0 = x0 at *
          generalize byteN rest 1 = x1 at *
          generalize byteN rest 5 = x5 at *
          generalize (x0 / 8 % 2 == 1) = f1 at *
          generalize (x0 / 4 % 2 == 1) = f2 at *
          generalize (x0 / 2 % 2 == 1) = f3 at *
          generalize (x0 % 2 == 1) = f4 at *
          clear hch hy6 hy7
          have hwch : IntKind.u16.wrap ((ch : Nat) : Int) = (ch : Int) := IntWalk.u16_in _ ⟨by omega, by omega⟩
          generalize (rest.take Nn).drop 12 = ld at *
          have hkeep : ∀ w' : World, Below w.heap.size w5 w' → (fun wx : World => wx.cell? ⟨xb, xo, none⟩ = some (.int .u8 (x0 : Int)) ∧ wx.cell? ⟨xb, xo + 1, none⟩ = some (.int .u8 (x1 : Int)) ∧ wx.cell? ⟨xb, xo + 5, none⟩ = some (.int .u8 (x5 : Int)) ∧ RdB wx w.heap.size (cutA (some ⟨xb, xo, none⟩) 1 12 D) (Nn - 12) (D - 12) ld) w' := fun w' h =>
            ⟨(h.cell (p := ⟨xb, xo + 0, none⟩) hxb).trans hx0, (h.cell (p := ⟨xb, xo + 1, none⟩) hxb).trans hx1, (h.cell (p := ⟨xb, xo + 5, none⟩) hxb).trans hx5, Rd.below hcut h⟩
          have hS := hkeep w5.drew (below_drewN (Below.refl _ _) 1)
          simp only at hS hkeep
          have hz5 := hB7.size
          have hR0 : 0 < R := by omega
          have hR1 : (1 : Int) < (R : Int) := by omega
          have hR5 : (5 : Int) < (R : Int) := by omega
          go_wp2_with (first | (with_reducible refine hold_append ?_) | (with_reducible refine hold_make ?_) | (with_reducible refine hold_copy ?_))
          refine rg_start (fun wx : World => wx.cell? ⟨xb, xo, none⟩ = some (.int .u8 (x0 : Int)) ∧ wx.cell? ⟨xb, xo + 1, none⟩ = some (.int .u8 (x1 : Int)) ∧ wx.cell? ⟨xb, xo + 5, none⟩ = some (.int .u8 (x5 : Int)) ∧ RdB wx w.heap.size (cutA (some ⟨xb, xo, none⟩) 1 12 D) (Nn - 12) (D - 12) ld) (by kernel_rfl) ?_
          refine rg_take 0 (v := ?_) rfl (by kernel_rfl) (by kernel_rfl) (by kernel_rfl) hS rfl ?_ ?_
          rotate_left
          · intro wS hSw; go_simp; (with_reducible rfl)
          simp only [List.getElem_toArray, List.getElem_cons_zero, Act.put, List.setIfInBounds_toArray, List.set_cons_zero, List.set_cons_succ]
          refine rg_take 1 (v := ?_) rfl (by kernel_rfl) (by kernel_rfl) (by kernel_rfl) hS rfl ?_ ?_
          rotate_left
          · intro wS hSw; go_simp; (with_reducible rfl)
          simp only [List.getElem_toArray, List.getElem_cons_succ, List.getElem_cons_zero, Act.put, List.setIfInBounds_toArray, List.set_cons_zero, List.set_cons_succ]
          refine rg_take 2 (v := ?_) rfl (by kernel_rfl) (by kernel_rfl) (by kernel_rfl) hS rfl ?_ ?_
          rotate_left
          · intro wS hSw; go_simp; (with_reducible rfl)
          simp only [List.getElem_toArray, List.getElem_cons_succ, List.getElem_cons_zero, Act.put, List.setIfInBounds_toArray, List.set_cons_zero, List.set_cons_succ]
          refine rg_take 3 (v := ?_) rfl (by kernel_rfl) (by kernel_rfl) (by kernel_rfl) hS rfl ?_ ?_
          rotate_left
          · intro wS hSw; go_simp; (with_reducible rfl)
          simp only [List.getElem_toArray, List.getElem_cons_succ, List.getElem_cons_zero, Act.put, List.setIfInBounds_toArray, List.set_cons_zero, List.set_cons_succ]
          refine rg_take 4 (v := ?_) rfl (by kernel_rfl) (by kernel_rfl) (by kernel_rfl) hS rfl ?_ ?_
          rotate_left
          · intro wS hSw; go_simp; (with_reducible rfl)
          simp only [List.getElem_toArray, List.getElem_cons_succ, List.getElem_cons_zero, Act.put, List.setIfInBounds_toArray, List.set_cons_zero, List.set_cons_succ]
          refine rg_take 5 (v := ?_) rfl (by kernel_rfl) (by kernel_rfl) (by kernel_rfl) hS rfl ?_ ?_
          rotate_left
          · intro wS hSw; go_simp; (with_reducible rfl)
          simp only [List.getElem_toArray, List.getElem_cons_succ, List.getElem_cons_zero, Act.put, List.setIfInBounds_toArray, List.set_cons_zero, List.set_cons_succ]
          refine rg_take 6 (v := ?_) rfl (by kernel_rfl) (by kernel_rfl) (by kernel_rfl) hS rfl ?_ ?_
          rotate_left
          · intro wS hSw; go_simp; (with_reducible rfl)
          simp only [List.getElem_toArray, List.getElem_cons_succ, List.getElem_cons_zero, Act.put, List.setIfInBounds_toArray, List.set_cons_zero, List.set_cons_succ]
          refine rg_take 7 (v := ?_) rfl (by kernel_rfl) (by kernel_rfl) (by kernel_rfl) hS rfl ?_ ?_
          rotate_left
          · intro wS hSw; go_simp; (with_reducible rfl)
          simp only [List.getElem_toArray, List.getElem_cons_succ, List.getElem_cons_zero, Act.put, List.setIfInBounds_toArray, List.set_cons_zero, List.set_cons_succ]
          refine rg_take 8 (v := ?_) rfl (by kernel_rfl) (by kernel_rfl) (by kernel_rfl) hS rfl ?_ ?_
          rotate_left
          · intro wS hSw; go_simp; (with_reducible rfl)
          simp only [List.getElem_toArray, List.getElem_cons_succ, List.getElem_cons_zero, Act.put, List.setIfInBounds_toArray, List.set_cons_zero, List.set_cons_succ]
          refine rg_take 9 (v := ?_) rfl (by kernel_rfl) (by kernel_rfl) (by kernel_rfl) hS rfl ?_ ?_
          rotate_left
          · intro wS hSw; go_simp; (with_reducible rfl)
          simp only [List.getElem_toArray, List.getElem_cons_succ, List.getElem_cons_zero, Act.put, List.setIfInBounds_toArray, List.set_cons_zero, List.set_cons_succ]
          refine rg_take 10 (v := ?_) rfl (by kernel_rfl) (by kernel_rfl) (by kernel_rfl) hS rfl ?_ ?_
          rotate_left
          · intro wS hSw; go_simp; (with_reducible rfl)
          simp only [List.getElem_toArray, List.getElem_cons_succ, List.getElem_cons_zero, Act.put, List.setIfInBounds_toArray, List.set_cons_zero, List.set_cons_succ]
          refine rg_take 11 (v := ?_) rfl (by kernel_rfl) (by kernel_rfl) (by kernel_rfl) hS rfl ?_ ?_
          rotate_left
          · intro wS hSw; go_simp; (with_reducible rfl)
          simp only [List.getElem_toArray, List.getElem_cons_succ, List.getElem_cons_zero, Act.put, List.setIfInBounds_toArray, List.set_cons_zero, List.set_cons_succ]
          refine rg_take 12 (v := ?_) rfl (by kernel_rfl) (by kernel_rfl) (by kernel_rfl) hS rfl ?_ ?_
          rotate_left
          · intro wS hSw; go_simp; (with_reducible rfl)
          simp only [List.getElem_toArray, List.getElem_cons_succ, List.getElem_cons_zero, Act.put, List.setIfInBounds_toArray, List.set_cons_zero, List.set_cons_succ]
          refine rg_take 13 (v := ?_) rfl (by kernel_rfl) (by kernel_rfl) (by kernel_rfl) hS rfl ?_ ?_
          rotate_left
          · intro wS hSw; go_simp; (with_reducible rfl)
          simp only [List.getElem_toArray, List.getElem_cons_succ, List.getElem_cons_zero, Act.put, List.setIfInBounds_toArray, List.set_cons_zero, List.set_cons_succ]
          refine rg_take 14 (v := ?_) rfl (by kernel_rfl) (by kernel_rfl) (by kernel_rfl) hS rfl ?_ ?_
          rotate_left
          · intro wS hSw; go_simp; (with_reducible rfl)
          simp only [List.getElem_toArray, List.getElem_cons_succ, List.getElem_cons_zero, Act.put, List.setIfInBounds_toArray, List.set_cons_zero, List.set_cons_succ]
          refine rg_take 15 (v := ?_) rfl (by kernel_rfl) (by kernel_rfl) (by kernel_rfl) hS rfl ?_ ?_
          rotate_left
          · intro wS hSw; go_simp; (with_reducible rfl)
          simp only [List.getElem_toArray, List.getElem_cons_succ, List.getElem_cons_zero, Act.put, List.setIfInBounds_toArray, List.set_cons_zero, List.set_cons_succ]
          refine rg_take 16 (v := ?_) rfl (by kernel_rfl) (by kernel_rfl) (by kernel_rfl) hS rfl ?_ ?_
          rotate_left
          · intro wS hSw; go_simp; (with_reducible rfl)
          simp only [List.getElem_toArray, List.getElem_cons_succ, List.getElem_cons_zero, Act.put, List.setIfInBounds_toArray, List.set_cons_zero, List.set_cons_succ]
          refine rg_take 17 (v := ?_) rfl (by kernel_rfl) (by kernel_rfl) (by kernel_rfl) hS rfl ?_ ?_
          rotate_left
          · intro wS hSw; go_simp; (with_reducible rfl)
          simp only [List.getElem_toArray, List.getElem_cons_succ, List.getElem_cons_zero, Act.put, List.setIfInBounds_toArray, List.set_cons_zero, List.set_cons_succ]
          refine rg_take 18 (v := ?_) rfl (by kernel_rfl) (by kernel_rfl) (by kernel_rfl) hS rfl ?_ ?_
          rotate_left
          · intro wS hSw; go_simp; (with_reducible rfl)
          simp only [List.getElem_toArray, List.getElem_cons_succ, List.getElem_cons_zero, Act.put, List.setIfInBounds_toArray, List.set_cons_zero, List.set_cons_succ]
          refine rg_take 19 (v := ?_) rfl (by kernel_rfl) (by kernel_rfl) (by kernel_rfl) hS rfl ?_ ?_
          rotate_left
          · intro wS hSw; go_simp; (with_reducible rfl)
          simp only [List.getElem_toArray, List.getElem_cons_succ, List.getElem_cons_zero, Act.put, List.setIfInBounds_toArray, List.set_cons_zero, List.set_cons_succ]
          refine rg_take 20 (v := ?_) rfl (by kernel_rfl) (by kernel_rfl) (by kernel_rfl) hS rfl ?_ ?_
          rotate_left
          · intro wS hSw; go_simp; (with_reducible rfl)
          simp only [List.getElem_toArray, List.getElem_cons_succ, List.getElem_cons_zero, Act.put, List.setIfInBounds_toArray, List.set_cons_zero, List.set_cons_succ]
          refine rg_take 21 (v := ?_) rfl (by kernel_rfl) (by kernel_rfl) (by kernel_rfl) hS rfl ?_ ?_
          rotate_left
          · intro wS hSw; go_simp; (with_reducible rfl)
          simp only [List.getElem_toArray, List.getElem_cons_succ, List.getElem_cons_zero, Act.put, List.setIfInBounds_toArray, List.set_cons_zero, List.set_cons_succ]
          refine rg_take 22 (v := ?_) rfl (by kernel_rfl) (by kernel_rfl) (by kernel_rfl) hS rfl ?_ ?_
          rotate_left
          · intro wS hSw; go_simp; (with_reducible rfl)
          simp only [List.getElem_toArray, List.getElem_cons_succ, List.getElem_cons_zero, Act.put, List.setIfInBounds_toArray, List.set_cons_zero, List.set_cons_succ]
          refine rg_take 23 (v := ?_) rfl (by kernel_rfl) (by kernel_rfl) (by kernel_rfl) hS rfl ?_ ?_
          rotate_left
          · intro wS hSw; go_simp; (with_reducible rfl)
          simp only [List.getElem_toArray, List.getElem_cons_succ, List.getElem_cons_zero, Act.put, List.setIfInBounds_toArray, List.set_cons_zero, List.set_cons_succ]
          refine rg_take 24 (v := ?_) rfl (by kernel_rfl) (by kernel_rfl) (by kernel_rfl) hS rfl ?_ ?_
          rotate_left
          · intro wS hSw; go_simp; (with_reducible rfl)
          simp only [List.getElem_toArray, List.getElem_cons_succ, List.getElem_cons_zero, Act.put, List.setIfInBounds_toArray, List.set_cons_zero, List.set_cons_succ]
          refine rg_take 25 (v := ?_) rfl (by kernel_rfl) (by kernel_rfl) (by kernel_rfl) hS rfl ?_ ?_
          rotate_left
          · intro wS hSw; go_simp; (with_reducible rfl)
          simp only [List.getElem_toArray, List.getElem_cons_succ, List.getElem_cons_zero, Act.put, List.setIfInBounds_toArray, List.set_cons_zero, List.set_cons_succ]
          refine rg_take 26 (v := ?_) rfl (by kernel_rfl) (by kernel_rfl) (by kernel_rfl) hS rfl ?_ ?_
          rotate_left
          · intro wS hSw; go_simp; (with_reducible rfl)
          simp only [List.getElem_toArray, List.getElem_cons_succ, List.getElem_cons_zero, Act.put, List.setIfInBounds_toArray, List.set_cons_zero, List.set_cons_succ]
          refine rg_take 27 (v := ?_) rfl (by kernel_rfl) (by kernel_rfl) (by kernel_rfl) hS rfl ?_ ?_
          rotate_left
          · intro wS hSw; go_simp; (with_reducible rfl)
          simp only [List.getElem_toArray, List.getElem_cons_succ, List.getElem_cons_zero, Act.put, List.setIfInBounds_toArray, List.set_cons_zero, List.set_cons_succ]
          refine rg_take 30 (v := ?_) rfl (by kernel_rfl) (by kernel_rfl) (by kernel_rfl) hS rfl ?_ ?_
          rotate_left
          · intro wS hSw; go_simp; (with_reducible rfl)
          simp only [List.getElem_toArray, List.getElem_cons_succ, List.getElem_cons_zero, Act.put, List.setIfInBounds_toArray, List.set_cons_zero, List.set_cons_succ]
          refine rg_take 31 (v := ?_) rfl (by kernel_rfl) (by kernel_rfl) (by kernel_rfl) hS rfl ?_ ?_
          rotate_left
          · intro wS hSw; go_simp; (with_reducible rfl)
          simp only [List.getElem_toArray, List.getElem_cons_succ, List.getElem_cons_zero, Act.put, List.setIfInBounds_toArray, List.set_cons_zero, List.set_cons_succ]
          have hc1 : Bd (some (Value.int .i64 12)) 0 12 := .inr ⟨_, _, rfl, rfl⟩
          have hc2 : Bd (some (Value.int .i64 (Nn : Int))) R Nn := .inr ⟨_, _, rfl, rfl⟩
          refine rg_slice 32 slB rfl (by kernel_rfl) (by kernel_rfl) (by kernel_rfl) hS rfl rfl rfl hr35.max hr35.cap 12 Nn D hc1 hc2 (.inl ⟨rfl, rfl⟩) (fun h => by cases h) (by omega) (by have := hr35.cap; omega) (Nat.le_refl _) (by omega) ?_
          simp only [List.getElem_toArray, List.getElem_cons_succ, List.getElem_cons_zero, Act.put, List.setIfInBounds_toArray, List.set_cons_zero, List.set_cons_succ]
          refine rg_take 33 (v := ?_) rfl (by kernel_rfl) (by kernel_rfl) (by kernel_rfl) hS rfl ?_ ?_
          rotate_left
          · intro wS hSw; have hv := run_strB (w := wS) hSw.2.2.2; go_simp; (with_reducible rfl)
          simp only [List.getElem_toArray, List.getElem_cons_succ, List.getElem_cons_zero, Act.put, List.setIfInBounds_toArray, List.set_cons_zero, List.set_cons_succ]
          refine rg_one 28 rfl (by kernel_rfl) rfl (fun K hK => ?_)
          go_simp
          refine hn2.mono ?_
          rintro e w6 ⟨rfl, _, hg6⟩
          have hB56 : Below w.heap.size w5 w6 := (below_drewN (Below.refl w.heap.size w5) 1).grown hg6 hz5 hvw
          have hB8 := hB7.trans hB56
          have hS6 := hkeep w6 hB56
          have ho7 : OwnF w6 w.heap.size A2 N c2 l := own_stays (w := w5.drew) ho6 hg6 hAF
          have hz6 := hB8.size
          clear hn2 hg6 ho6
          refine hK _ _ hS6 ?_; clear hK K
          refine rg_take 29 (v := ?_) rfl (by kernel_rfl) (by kernel_rfl) (by kernel_rfl) hS6 rfl ?_ ?_
          rotate_left
          · intro wS hSw; go_simp; (with_reducible rfl)
          simp only [List.getElem_toArray, List.getElem_cons_succ, List.getElem_cons_zero, Act.put, List.setIfInBounds_toArray, List.set_cons_zero, List.set_cons_succ]
          refine rg_take 34 (v := ?_) rfl (by kernel_rfl) (by kernel_rfl) (by kernel_rfl) hS6 rfl ?_ ?_
          rotate_left
          · intro wS hSw; go_simp; (with_reducible rfl)
          simp only [List.getElem_toArray, List.getElem_cons_succ, List.getElem_cons_zero, Act.put, List.setIfInBounds_toArray, List.set_cons_zero, List.set_cons_succ]
          have hS7 := hkeep (w6.alloc (.cells #[.bool f1, .bool f2, .bool f3, .bool f4, .int .u8 (x1 : Int), .int .u8 (x5 : Int), .int .u16 (ch : Int), .string (str ld)] 24)) (hB56.alloc hz6 _)
          refine rg_one 35 rfl (by kernel_rfl) rfl (fun K hK => ?_)
          go_simp
          refine hK _ _ hS7 ?_
          clear hK K
          refine rg_one 36 rfl (by kernel_rfl) rfl (fun K hK => ?_)
          refine op_rec (W := w6) frShape slF Try.underlying34 rfl rfl rfl rfl ⟨f1, f2, f3, f4, x1, x5, ch, ld⟩ rfl ho7 (by omega) (by omega) hz6 ?_
          intro A8 c8 w8 ho8 hg8 _ hB68
          have hB58 := hB56.trans hB68
          have hS8 := hkeep w8 hB58
          have hB9 := hB7.trans hB58
          simp only [List.getElem_toArray, List.getElem_cons_succ, List.getElem_cons_zero, Act.put, List.setIfInBounds_toArray, List.set_cons_zero, List.set_cons_succ]
          refine hK _ _ hS8 ?_
          clear hK K
          refine rg_take 37 (v := ?_) rfl (by kernel_rfl) (by kernel_rfl) (by kernel_rfl) hS8 rfl ?_ ?_
          rotate_left
          · intro wS hSw; go_simp; (with_reducible rfl)
          simp only [List.getElem_toArray, List.getElem_cons_succ, List.getElem_cons_zero, Act.put, List.setIfInBounds_toArray, List.set_cons_zero, List.set_cons_succ]
          refine rg_end (by kernel_rfl) ?_
          have hwu : IntKind.i64.wrap ((u : Int) + (Nn : Int)) = ((u + Nn : Nat) : Int) := by rw [IntWalk.i64_in _ ⟨by omega, by omega⟩]; omega
          have hdr : rest.drop Nn = b.drop (u + Nn) := by rw [← HREST.out, List.drop_drop]
          have hfs2 : fs = ((l ++ [⟨f1, f2, f3, f4, x1, x5, ch, ld⟩]) ++ (frScan (b.drop (u + Nn))).1, (u + Nn) + (frScan (b.drop (u + Nn))).2.1, (frScan (b.drop (u + Nn))).2.2) := by
            rw [HF.out, ← HNN.out, hfr.out, hdr]; simp [Nat.add_assoc]
          have HFS := Lib.hid hfs2
          clear hdr hfs2
          go_wp2_with (first | (with_reducible refine hold_append ?_) | (with_reducible refine hold_make ?_) | (with_reducible refine hold_copy ?_))
          have hRU := HRU.out
          exact ⟨⟨u + Nn, N + 1, c8, A8, l ++ [⟨f1, f2, f3, f4, x1, x5, ch, ld⟩], by omega, by first | rfl | go_num, rfl, by simp [HLN.out], by omega, HFS.out, ho8, hB9⟩, by simp [intOf]; omega⟩
end Go.PH

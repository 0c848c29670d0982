/- The walk of slices.Compact at a row of names of the call's own. -/
import Derived.Test.YtokfnonjmacpgaaDoorXdGrow
set_option linter.all false
set_option linter.unusedSimpArgs false
set_option linter.unusedVariables false
namespace Go.PH
open Go.RowKit Go.Proofs Go.Sort

theorem xid_neqC (a b : Xd) (w : World) : (binOp .neq 24 (.agg (xdV a)) (.agg (xdV b))).run Tryd.prog w = .ok (.bool (!decide (a = b))) w := by
  rw [run_neq_struct, xid_equal]
  rfl
set_option maxRecDepth 20000 in
set_option maxHeartbeats 4000000 in
theorem compactx_any (A : Option Addr) (n c : Nat) (l : List Xd) (base : Nat) (w : World) (ho : OwnX w base A n c l) (hb : base ≤ w.heap.size) (hn9 : n ≤ 1000000000) :
    Calls Tryd.prog 52 #[.slice A n c] w fun e w' => e = .returned (.slice A (compTo l n).length c) ∧ OwnX w' base A (compTo l n).length c (compTo l n) ∧ Below base w w' := by
  have hl := own_len xdShape ho
  by_cases h2 : n < 2
  · have hd : (n : Int) < 2 := by omega
    have hc : compTo l n = l := by
      rw [compTo_all n (by omega) (fun j hj => by omega), ← hl, List.take_length]
    rw [hc, hl]
    clear hc hl
    go_enter Tryd.func52, Tryd.ntmps52
    go_wp2_with (first | (with_reducible refine hold_append ?_) | (with_reducible refine hold_make ?_) | (with_reducible refine hold_copy ?_))
    go_ret
    exact ⟨rfl, ho, Below.refl _ _⟩
  · have hd : ¬ (n : Int) < 2 := by omega
    obtain ⟨g, rfl, hbg, hgs⟩ := own_some ho (by omega)
    have hnc : n ≤ c ∧ c ≤ maxLen := by obtain ⟨_, _, _, h3, h4, _⟩ := own_heap ho; exact ⟨h3, h4⟩
    have hgrow : ∀ {w1 w2 : World}, Below base w w1 → w1.grownBy w2 (some g) → Below base w w2 := fun h1 h2 => h1.grown h2 (Nat.le_trans hb h1.size) (fun g' e => by injection e with e; omega)
    obtain ⟨R, hR⟩ : ∃ R, R = compTo l n := ⟨_, rfl⟩
    rw [← hR]
    have HR := Lib.hid hR
    have HL := Lib.hid hl
    clear hR hl
    go_enter Tryd.func52, Tryd.ntmps52
    go_wp2_with (first | (with_reducible refine hold_append ?_) | (with_reducible refine hold_make ?_) | (with_reducible refine hold_copy ?_))
    go_loopw [3] (fun s wr => ∃ (k : Nat), 1 ≤ k ∧ k ≤ n ∧ s = .int .i64 k ∧ (∀ j, j + 1 < k → l[j + 1]? ≠ l[j]?) ∧ OwnX wr base (some ⟨g, 0, none⟩) n c l ∧ Below base w wr) (fun s _ => n - (RowKit.intOf s).toNat)
    case atStart => exact ⟨1, by omega, by omega, rfl, fun j hj => by omega, ho, Below.refl _ _⟩
    case round =>
      obtain ⟨k, hk1, hk, rfl, hall, hor, hBr⟩ := hrel
      have HA := Lib.hid hall
      clear hall ho
      by_cases hlt : k < n
      · have hkn : (k : Int) < (n : Int) := by omega
        obtain ⟨b, off, e1, _, hkl, hc⟩ := rec_at xdShape hor.rd hlt
        obtain ⟨b', off', e2, _, hkl', hc'⟩ := rec_at xdShape hor.rd (show k - 1 < n by omega)
        injection e1 with e1; injection e1 with e1 e3; subst e1 e3
        injection e2 with e1; injection e1 with e1 e3; subst e1 e3
        have k0 := hc 0 _ rfl
        have k1 := hc 1 _ rfl
        have k2 := hc 2 _ rfl
        have j0 := hc' 0 _ rfl
        have j1 := hc' 1 _ rfl
        have j2 := hc' 2 _ rfl
        simp only [Nat.add_zero, Nat.zero_add] at k0 k1 k2 j0 j1 j2
        clear hc hc'
        have hneq := fun w => xid_eql l[k] l[k - 1] w
        have hgd := fun x y => run_eqGuard_agg (P := Tryd.prog) wr .eql 24 x y (xdV l[k]) (xdV l[k - 1]) xid_guard
        by_cases hxx : l[k] = l[k - 1]
        · rw [decide_eq_true hxx] at hneq
          have hst : Hid (compTo l (k + 1) = l.take k) := Lib.hid (by
            rw [← compTo_all k (by omega) HA.out]
            have := compTo_skip (l := l) (k := k - 1) (by omega) (by simp only [show k - 1 + 1 = k by omega]; exact hxx)
            rwa [show k - 1 + 2 = k + 1 by omega, show k - 1 + 1 = k by omega] at this)
          clear hxx
          generalize l[k] = x at *
          generalize l[k - 1] = y at *
          obtain ⟨xf, xg, xh⟩ := x
          obtain ⟨yf, yg, yh⟩ := y
          simp only [xdV] at hneq hgd k0 k1 k2 j0 j1 j2
          go_wp2_with (first | (with_reducible refine hold_append ?_) | (with_reducible refine hold_make ?_) | (with_reducible refine hold_copy ?_))
          go_quiet (fail)
          go_wp2_with (first | (with_reducible refine hold_slice ?_) | (with_reducible refine hold_store ?_) | (with_reducible refine hold_clear ?_))
          refine unhold (wp_cutE slX rfl rfl rfl hnc.2 hnc.1 k n c (.inr ⟨_, _, rfl, rfl⟩) (.inl ⟨rfl, rfl⟩) (.inl ⟨rfl, rfl⟩) (by intro h; cases h) (by omega) (by omega) (Nat.le_refl _) (Nat.le_refl _) ?_)
          rw [cutA_some _ _ _ _ _ (by omega), Nat.zero_add]
          obtain ⟨k00, hk00⟩ : ∃ k00, k00 = k := ⟨k, rfl⟩
          go_wp2_with (first | (with_reducible refine hold_append ?_) | (with_reducible refine hold_make ?_) | (with_reducible refine hold_copy ?_))
          go_loopw [3, 5] (fun s v wx => ∃ (k1 k2 : Nat) (r : List Xd), 1 ≤ k2 ∧ k2 ≤ n - k ∧ k1 + 1 ≤ k + k2 ∧ 1 ≤ k1 ∧ s = .int .i64 k1 ∧ v = .int .i64 k2 ∧ r.take k1 = compTo l (k + k2) ∧ (compTo l (k + k2)).length = k1 ∧ r.drop (k + k2 - 1) = l.drop (k + k2 - 1) ∧ OwnX wx base (some ⟨g, 0, none⟩) n c r ∧ Below base w wx) (fun _ v _ => n - (RowKit.intOf v).toNat)
          case atStart => exact ⟨k, 1, l, by omega, by omega, by omega, by omega, rfl, rfl, hst.out.symm, by rw [hst.out, List.length_take]; omega, rfl, hor, below_drewN hBr _⟩
          case round =>
            clear k0 k1 k2 j0 j1 j2 hor hBr hlt hkn
            obtain ⟨q1, q2, r, hq1, hq2, hq3, hq4, rfl, rfl, htk, htl, hdr, hor, hBr⟩ := hrel
            have HT := Lib.hid htk
            have HLn := Lib.hid htl
            have HD := Lib.hid hdr
            clear htk htl hdr
            have hrl := own_len xdShape hor
            have HRL := Lib.hid hrl
            clear hrl
            by_cases hlt : q2 < n - k
            · have hkn : (q2 : Int) < ((n - k : Nat) : Int) := by omega
              obtain ⟨b, off, e1, _, hrk, hc⟩ := rec_at xdShape hor.rd (show k + q2 < n by omega)
              obtain ⟨b', off', e2, _, hrk', hc'⟩ := rec_at xdShape hor.rd (show k + (q2 - 1) < n by omega)
              injection e1 with e1; injection e1 with e1 e3; subst e1 e3
              injection e2 with e1; injection e1 with e1 e3; subst e1 e3
              have k0 := hc 0 _ rfl
              have k1 := hc 1 _ rfl
              have k2 := hc 2 _ rfl
              have j0 := hc' 0 _ rfl
              have j1 := hc' 1 _ rfl
              have j2 := hc' 2 _ rfl
              simp only [Nat.add_zero, Nat.zero_add, Nat.add_mul] at k0 k1 k2 j0 j1 j2
              clear hc hc'
              have hlk : k + q2 < l.length := by rw [HL.out]; omega
              have hlk' : k + (q2 - 1) < l.length := by rw [HL.out]; omega
              have ex : r[k + q2] = l[k + q2] := by
                have := drop_get HD.out (i := k + q2) (by omega)
                rwa [List.getElem?_eq_getElem hrk, List.getElem?_eq_getElem hlk, Option.some_inj] at this
              have ey : r[k + (q2 - 1)] = l[k + (q2 - 1)] := by
                have := drop_get HD.out (i := k + (q2 - 1)) (by omega)
                rwa [List.getElem?_eq_getElem hrk', List.getElem?_eq_getElem hlk', Option.some_inj] at this
              have HSK : Hid (l[k + q2] = l[k + (q2 - 1)] → compTo l (k + q2 + 1) = compTo l (k + q2)) := Lib.hid fun h => by
                have := compTo_skip (l := l) (k := k + (q2 - 1)) (by omega) (by simp only [show k + (q2 - 1) + 1 = k + q2 by omega]; exact h)
                rwa [show k + (q2 - 1) + 2 = k + q2 + 1 by omega, show k + (q2 - 1) + 1 = k + q2 by omega] at this
              have HSS : Hid (l[k + q2] ≠ l[k + (q2 - 1)] → compTo l (k + q2 + 1) = compTo l (k + q2) ++ [l[k + q2]]) := Lib.hid fun h => by
                have := compTo_step (l := l) (k := k + (q2 - 1)) (by omega) (by simp only [show k + (q2 - 1) + 1 = k + q2 by omega]; exact h)
                simp only [show k + (q2 - 1) + 2 = k + q2 + 1 by omega, show k + (q2 - 1) + 1 = k + q2 by omega] at this
                exact this
              rw [ex] at k0 k1 k2
              rw [ey] at j0 j1 j2
              clear ex ey hneq hgd
              have hneq := fun w => xid_neqC l[k + q2] l[k + (q2 - 1)] w
              have hgd := fun x y => run_eqGuard_agg (P := Tryd.prog) wr .neq 24 x y (xdV l[k + q2]) (xdV l[k + (q2 - 1)]) xid_guard
              generalize hX : l[k + q2] = X at *
              generalize hY : l[k + (q2 - 1)] = Y at *
              obtain ⟨af, ag, ah⟩ := X
              obtain ⟨bf, bg, bh⟩ := Y
              clear hX hY
              by_cases hxx : (⟨af, ag, ah⟩ : Xd) = ⟨bf, bg, bh⟩
              · rw [decide_eq_true hxx] at hneq
                have HS := Lib.hid (HSK.out hxx)
                clear hxx
                simp only [xdV, Bool.not_true] at hneq hgd k0 k1 k2 j0 j1 j2
                go_wp2_with (first | (with_reducible refine hold_append ?_) | (with_reducible refine hold_make ?_) | (with_reducible refine hold_copy ?_))
                go_quiet (fail)
                go_wp2_with (first | (with_reducible refine hold_append ?_) | (with_reducible refine hold_make ?_) | (with_reducible refine hold_copy ?_))
                exact ⟨⟨q1, q2 + 1, r, by omega, by omega, by omega, by omega, rfl, by go_num, by rw [show k + (q2 + 1) = k + q2 + 1 by omega, HS.out]; exact HT.out, by rw [show k + (q2 + 1) = k + q2 + 1 by omega, HS.out]; exact HLn.out, drop_more HD.out (by omega), hor, below_drewN hBr _⟩, by simp [RowKit.intOf]; omega⟩
              · rw [decide_eq_false hxx] at hneq
                have HS := Lib.hid (HSS.out hxx)
                clear hxx
                simp only [xdV, Bool.not_false] at hneq hgd k0 k1 k2 j0 j1 j2
                go_wp2_with (first | (with_reducible refine hold_append ?_) | (with_reducible refine hold_make ?_) | (with_reducible refine hold_copy ?_))
                go_quiet (fail)
                go_wp2_with (first | (with_reducible refine hold_slice ?_) | (with_reducible refine hold_store ?_) | (with_reducible refine hold_clear ?_))
                refine unhold (wp_recset xdShape rfl rfl rfl rfl (Own.drewN hor _) (k := q1) (i := 0) (vs := [.int .u32 (af : Int), .string (str ag), .string (str ah)]) (by omega) (by have := HRL.out; omega) ⟨af, ag, ah⟩ rfl (by kernel_rfl) (by simp [xdC]) (by simp) (by omega) ?_)
                intro w7 ho7 hg7 _
                have hB7 := hgrow (below_drewN hBr _) hg7
                go_wp2_with (first | (with_reducible refine hold_append ?_) | (with_reducible refine hold_make ?_) | (with_reducible refine hold_copy ?_))
                exact ⟨⟨q1 + 1, q2 + 1, r.set q1 ⟨af, ag, ah⟩, by omega, by omega, by omega, by omega, by go_num, by go_num, by rw [show k + (q2 + 1) = k + q2 + 1 by omega, HS.out, set_take _ _ _ (by have := HRL.out; omega), HT.out], by rw [show k + (q2 + 1) = k + q2 + 1 by omega, HS.out, List.length_append, HLn.out]; rfl, by rw [set_drop _ _ _ _ (by omega)]; exact drop_more HD.out (by omega), ho7, hB7⟩, by simp [RowKit.intOf]; omega⟩
            · have hkn : ¬ (q2 : Int) < ((n - k : Nat) : Int) := by omega
              have HE : Hid (R = r.take q1 ∧ R.length = q1) := Lib.hid (by
                have e : k + q2 = n := by omega
                have h1 := HT.out
                have h2 := HLn.out
                rw [e] at h1 h2
                rw [HR.out]
                exact ⟨h1.symm, h2⟩)
              clear hneq hgd
              go_wp2_with (first | (with_reducible refine hold_slice ?_) | (with_reducible refine hold_store ?_) | (with_reducible refine hold_clear ?_))
              refine unhold (wp_cutE slX rfl rfl rfl hnc.2 hnc.1 q1 n c (.inr ⟨_, _, rfl, rfl⟩) (.inl ⟨rfl, rfl⟩) (.inl ⟨rfl, rfl⟩) (by intro h; cases h) (by omega) (by omega) (Nat.le_refl _) (Nat.le_refl _) ?_)
              rw [cutA_some _ _ _ _ _ (by omega), Nat.zero_add]
              go_wp2_with (first | (with_reducible refine hold_slice ?_) | (with_reducible refine hold_store ?_) | (with_reducible refine hold_clear ?_))
              refine unhold (wp_rectail xdShape rfl rfl Tryd.underlying53 Tryd.zeroValue24 rfl rfl (by simp; decide) hor (by omega) rfl ?_)
              intro w7 ho7 hg7 _
              have hB7 := hgrow hBr hg7
              go_wp2_with (first | (with_reducible refine hold_slice ?_) | (with_reducible refine hold_store ?_) | (with_reducible refine hold_clear ?_))
              refine unhold (wp_cutE slX rfl rfl rfl hnc.2 hnc.1 0 q1 c (.inl ⟨rfl, rfl⟩) (.inr ⟨_, _, rfl, rfl⟩) (.inl ⟨rfl, rfl⟩) (by intro h; cases h) (by omega) (by omega) (Nat.le_refl _) (by omega) ?_)
              rw [cutA_zero _ _ rfl]
              simp only [Nat.sub_zero]
              go_wp2_with (first | (with_reducible refine hold_append ?_) | (with_reducible refine hold_make ?_) | (with_reducible refine hold_copy ?_))
              go_ret
              rw [HE.out.2, HE.out.1]
              exact ⟨rfl, ho7, hB7⟩
        · rw [decide_eq_false hxx] at hneq
          have hall2 : Hid (∀ j, j + 1 < k + 1 → l[j + 1]? ≠ l[j]?) := Lib.hid fun j hj => by
            by_cases hjk : j + 1 < k
            · exact HA.out j hjk
            · obtain rfl : j = k - 1 := by omega
              simp only [show k - 1 + 1 = k by omega]
              rw [List.getElem?_eq_getElem hkl, List.getElem?_eq_getElem hkl']
              simpa using hxx
          clear hxx
          generalize l[k] = x at *
          generalize l[k - 1] = y at *
          obtain ⟨xf, xg, xh⟩ := x
          obtain ⟨yf, yg, yh⟩ := y
          simp only [xdV] at hneq hgd k0 k1 k2 j0 j1 j2
          go_wp2_with (first | (with_reducible refine hold_append ?_) | (with_reducible refine hold_make ?_) | (with_reducible refine hold_copy ?_))
          go_quiet (fail)
          go_wp2_with (first | (with_reducible refine hold_append ?_) | (with_reducible refine hold_make ?_) | (with_reducible refine hold_copy ?_))
          exact ⟨⟨k + 1, by omega, by omega, by go_num, hall2.out, hor, below_drewN hBr _⟩, by simp [RowKit.intOf]; omega⟩
      · obtain rfl : k = n := by omega
        go_wp2_with (first | (with_reducible refine hold_append ?_) | (with_reducible refine hold_make ?_) | (with_reducible refine hold_copy ?_))
        go_ret
        rw [HR.out, compTo_all k (by rw [HL.out]; exact Nat.le_refl _) HA.out, ← HL.out, List.take_length, HL.out]
        exact ⟨rfl, hor, hBr⟩
end Go.PH

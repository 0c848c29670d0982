/- The walk of the reference's Sorted. -/
import Derived.Test.YtokfnonjmacpgaaDoorXdSorted
set_option linter.all false
set_option linter.unusedSimpArgs false
set_option linter.unusedVariables false
namespace Go.PH
open Go.RowKit Go.Proofs Go.Sort

set_option maxRecDepth 20000 in
set_option maxHeartbeats 4000000 in
theorem rsorted_any (A : Option Addr) (n c : Nat) (l : List Xd) (B : Nat) (w : World) (hr : RdX w B A n c l) (hB : B ≤ w.heap.size) (hwf : ∀ x ∈ l, x.wf) (hn9 : n ≤ 1000000) :
    Calls Tryd.prog 27 #[.slice A n c] w fun e w' => ∃ A2 c2, e = .returned (.slice A2 (xdSort l).length c2) ∧ OwnX w' w.heap.size A2 (xdSort l).length c2 (xdSort l) ∧ Below w.heap.size w w' := by
  have hl := rec_length xdShape hr
  have HL := Lib.hid hl
  clear hl
  obtain ⟨R, hR⟩ : ∃ R, R = xdSort l := ⟨_, rfl⟩
  rw [← hR]
  have HR := Lib.hid hR
  clear hR
  go_enter Tryd.func27, Tryd.ntmps27
  go_wp2_with (first | (with_reducible refine hold_append ?_) | (with_reducible refine hold_make ?_) | (with_reducible refine hold_copy ?_))
  go_loopw [3, 4] (fun v s wr => ∃ (k N c2 : Nat) (A2 : Option Addr) (O : List Xd), k ≤ n ∧ N ≤ k ∧ v = .slice A2 N c2 ∧ s = .int .i64 k ∧ O = xdSort (l.take k) ∧ OwnX wr w.heap.size A2 N c2 O ∧ Below w.heap.size w wr) (fun _ s _ => n - (RowKit.intOf s).toNat)
  case atStart => exact ⟨0, 0, 0, none, [], by omega, by omega, rfl, rfl, by simp [xdSort], Own.none_ _ _ _ _, Below.refl _ _⟩
  case round =>
    obtain ⟨k, N, c2, A2, O, hk, hNk, rfl, rfl, hO, ho, hBr⟩ := hrel
    have HO := Lib.hid hO
    clear hO
    have hz := hBr.size
    by_cases hlt : k < n
    · have hkn : (k : Int) < (n : Int) := by omega
      obtain ⟨b, off, rfl, hbB, hkl, hc⟩ := rec_at xdShape (Rd.below hr (hBr.mono hB)) hlt
      have hxw := hwf l[k] (List.getElem_mem hkl)
      have hOw : ∀ y ∈ O, y.wf := fun y hy => by
        rw [HO.out, xdSort_mem] at hy
        exact hwf y (List.mem_of_mem_take hy.1)
      have HT := Lib.hid (List.take_succ_eq_append_getElem hkl)
      have hck := fun W => rcheck_any l[k] W hxw
      have k0 := hc 0 _ rfl
      have k1 := hc 1 _ rfl
      have k2 := hc 2 _ rfl
      simp only [Nat.add_zero] at k0 k1 k2
      clear hc hwf
      have hOl := own_len xdShape ho
      have HOL := Lib.hid hOl
      clear hOl
      generalize l[k] = x at *
      have HOK : Hid (x.err = if x.ok then 0 else 40) := Lib.hid rfl
      have HS : Hid (xdSort (l.take (k + 1)) = if x.ok then xdIns x O else O) := Lib.hid (by rw [HT.out, xdSort_snoc, HO.out])
      generalize x.err = er at *
      cases hx : x.ok
      · obtain rfl : er = 40 := by have := HOK.out; rw [hx] at this; simpa using this
        have HS2 := Lib.hid HS.out
        rw [hx] at HS2
        clear HS HOK HT hx hOw
        obtain ⟨xf, xg, xh⟩ := x
        simp only [xdV] at hck k0 k1 k2
        go_wp2_with (first | (with_reducible refine hold_append ?_) | (with_reducible refine hold_make ?_) | (with_reducible refine hold_copy ?_))
        refine (hck _).mono ?_
        rintro e w2 ⟨rfl, hB2⟩
        have hB02 := hBr.trans (hB2.mono hz)
        have ho2 := own_below ho hB2
        clear hck
        go_wp2_with (first | (with_reducible refine hold_append ?_) | (with_reducible refine hold_make ?_) | (with_reducible refine hold_copy ?_))
        exact ⟨⟨k + 1, N, c2, A2, O, by omega, by omega, rfl, by go_num, by rw [HS2.out]; rfl, ho2, hB02⟩, by simp [RowKit.intOf]; omega⟩
      · obtain rfl : er = 0 := by have := HOK.out; rw [hx] at this; simpa using this
        have HS2 := Lib.hid HS.out
        rw [hx] at HS2
        clear HS HOK HT hx
        have hcmp := fun (y : Xd) W (hy : y ∈ O) => rcompare_any y x W (hOw y hy) hxw
        have HX : Hid (∃ x', x' = x) := Lib.hid ⟨x, rfl⟩
        obtain ⟨xf, xg, xh⟩ := x
        simp only [xdV] at hck k0 k1 k2 hcmp
        go_wp2_with (first | (with_reducible refine hold_append ?_) | (with_reducible refine hold_make ?_) | (with_reducible refine hold_copy ?_))
        refine (hck _).mono ?_
        rintro e w2 ⟨rfl, hB2⟩
        have hB02 := hBr.trans (hB2.mono hz)
        have ho2 := own_below ho hB2
        have hz2 := hB02.size
        have hbw : b < wr.heap.size := Nat.lt_of_lt_of_le (Nat.lt_of_lt_of_le hbB hB) hz
        have p0 := (hB2.cell (p := ⟨b, off + k * 3, none⟩) hbw).trans k0
        have p1 := (hB2.cell (p := ⟨b, off + k * 3 + 1, none⟩) hbw).trans k1
        have p2 := (hB2.cell (p := ⟨b, off + k * 3 + 2, none⟩) hbw).trans k2
        have hbw2 : b < w.heap.size := Nat.lt_of_lt_of_le hbB hB
        clear hck k0 k1 k2 ho hBr hB2
        go_wp2_with (first | (with_reducible refine hold_append ?_) | (with_reducible refine hold_make ?_) | (with_reducible refine hold_copy ?_))
        go_loopw [5] (fun s wx => ∃ (i : Nat), i ≤ N ∧ s = .int .i64 i ∧ (∀ j (hj : j < O.length), j < i → Xd.cmp O[j] ⟨xf, xg, xh⟩ < 0) ∧ OwnX wx w.heap.size A2 N c2 O ∧ Below w.heap.size w wx ∧ wx.cell? ⟨b, off + k * 3, none⟩ = some (.int .u32 (xf : Int)) ∧ wx.cell? ⟨b, off + k * 3 + 1, none⟩ = some (.string (str xg)) ∧ wx.cell? ⟨b, off + k * 3 + 2, none⟩ = some (.string (str xh))) (fun s _ => N - (RowKit.intOf s).toNat)
        case atStart => exact ⟨0, by omega, rfl, fun j hj h => by omega, ho2, hB02, p0, p1, p2⟩
        case round =>
          clear p0 p1 p2 ho2 hB02
          obtain ⟨i, hi, rfl, hlow, hor, hBr, p0, p1, p2⟩ := hrel
          have HLO := Lib.hid hlow
          clear hlow
          have hzr := hBr.size
          by_cases hiN : i < N
          · have hd : (i : Int) < (N : Int) := by omega
            obtain ⟨b', off', rfl, hbB', hil, hc'⟩ := rec_at xdShape hor.rd hiN
            have j0 := hc' 0 _ rfl
            have j1 := hc' 1 _ rfl
            have j2 := hc' 2 _ rfl
            simp only [Nat.add_zero] at j0 j1 j2
            clear hc'
            have hcm := fun W => hcmp O[i] W (List.getElem_mem hil)
            obtain ⟨Y, hY⟩ : ∃ Y, Y = O[i] := ⟨_, rfl⟩
            rw [← hY] at hcm j0 j1 j2
            have HY := Lib.hid hY
            clear hY
            obtain ⟨r, hr2⟩ : ∃ r, r = Xd.cmp Y ⟨xf, xg, xh⟩ := ⟨_, rfl⟩
            rw [← hr2] at hcm
            have HRC := Lib.hid hr2
            clear hr2
            obtain ⟨yf, yg, yh⟩ := Y
            simp only at hcm j0 j1 j2
            have hS : (wr.drew.cell? ⟨b, off + k * 3, none⟩ = some (.int .u32 (xf : Int)) ∧ wr.drew.cell? ⟨b, off + k * 3 + 1, none⟩ = some (.string (str xg)) ∧ wr.drew.cell? ⟨b, off + k * 3 + 2, none⟩ = some (.string (str xh))) ∧ (wr.drew.cell? ⟨b', off' + i * 3, none⟩ = some (.int .u32 (yf : Int)) ∧ wr.drew.cell? ⟨b', off' + i * 3 + 1, none⟩ = some (.string (str yg)) ∧ wr.drew.cell? ⟨b', off' + i * 3 + 2, none⟩ = some (.string (str yh))) := ⟨⟨p0, p1, p2⟩, ⟨j0, j1, j2⟩⟩
            go_wp2_with (first | (with_reducible refine hold_append ?_) | (with_reducible refine hold_make ?_) | (with_reducible refine hold_copy ?_))
            refine rg_start (fun W : World => (W.cell? ⟨b, off + k * 3, none⟩ = some (.int .u32 (xf : Int)) ∧ W.cell? ⟨b, off + k * 3 + 1, none⟩ = some (.string (str xg)) ∧ W.cell? ⟨b, off + k * 3 + 2, none⟩ = some (.string (str xh))) ∧ (W.cell? ⟨b', off' + i * 3, none⟩ = some (.int .u32 (yf : Int)) ∧ W.cell? ⟨b', off' + i * 3 + 1, none⟩ = some (.string (str yg)) ∧ W.cell? ⟨b', off' + i * 3 + 2, none⟩ = some (.string (str yh)))) (by kernel_rfl) ?_
            refine rg_take 0 (v := ?_) rfl (by kernel_rfl) (by kernel_rfl) (by kernel_rfl) hS rfl ?_ ?_
            rotate_left
            · intro wS hSw; go_simp; (with_reducible rfl)
            simp only [List.getElem_toArray, List.getElem_cons_zero, Act.put, List.setIfInBounds_toArray, List.set_cons_zero, List.set_cons_succ]
            refine rg_take 1 (v := ?_) rfl (by kernel_rfl) (by kernel_rfl) (by kernel_rfl) hS rfl ?_ ?_
            rotate_left
            · intro wS hSw; go_simp; (with_reducible rfl)
            simp only [List.getElem_toArray, List.getElem_cons_succ, List.getElem_cons_zero, Act.put, List.setIfInBounds_toArray, List.set_cons_zero, List.set_cons_succ]
            refine rg_take 2 (v := ?_) rfl (by kernel_rfl) (by kernel_rfl) (by kernel_rfl) hS rfl ?_ ?_
            rotate_left
            · intro wS hSw; go_simp; (with_reducible rfl)
            simp only [List.getElem_toArray, List.getElem_cons_succ, List.getElem_cons_zero, Act.put, List.setIfInBounds_toArray, List.set_cons_zero, List.set_cons_succ]
            refine rg_take 3 (v := ?_) rfl (by kernel_rfl) (by kernel_rfl) (by kernel_rfl) hS rfl ?_ ?_
            rotate_left
            · intro wS hSw; go_simp; (with_reducible rfl)
            simp only [List.getElem_toArray, List.getElem_cons_succ, List.getElem_cons_zero, Act.put, List.setIfInBounds_toArray, List.set_cons_zero, List.set_cons_succ]
            refine rg_take 4 (v := ?_) rfl (by kernel_rfl) (by kernel_rfl) (by kernel_rfl) hS rfl ?_ ?_
            rotate_left
            · intro wS hSw; go_simp; (with_reducible rfl)
            simp only [List.getElem_toArray, List.getElem_cons_succ, List.getElem_cons_zero, Act.put, List.setIfInBounds_toArray, List.set_cons_zero, List.set_cons_succ]
            refine rg_take 5 (v := ?_) rfl (by kernel_rfl) (by kernel_rfl) (by kernel_rfl) hS rfl ?_ ?_
            rotate_left
            · intro wS hSw; go_simp; (with_reducible rfl)
            simp only [List.getElem_toArray, List.getElem_cons_succ, List.getElem_cons_zero, Act.put, List.setIfInBounds_toArray, List.set_cons_zero, List.set_cons_succ]
            refine rg_take 6 (v := ?_) rfl (by kernel_rfl) (by kernel_rfl) (by kernel_rfl) hS rfl ?_ ?_
            rotate_left
            · intro wS hSw; go_simp; (with_reducible rfl)
            simp only [List.getElem_toArray, List.getElem_cons_succ, List.getElem_cons_zero, Act.put, List.setIfInBounds_toArray, List.set_cons_zero, List.set_cons_succ]
            refine rg_take 7 (v := ?_) rfl (by kernel_rfl) (by kernel_rfl) (by kernel_rfl) hS rfl ?_ ?_
            rotate_left
            · intro wS hSw; go_simp; (with_reducible rfl)
            simp only [List.getElem_toArray, List.getElem_cons_succ, List.getElem_cons_zero, Act.put, List.setIfInBounds_toArray, List.set_cons_zero, List.set_cons_succ]
            refine rg_take 8 (v := ?_) rfl (by kernel_rfl) (by kernel_rfl) (by kernel_rfl) hS rfl ?_ ?_
            rotate_left
            · intro wS hSw; go_simp; (with_reducible rfl)
            simp only [List.getElem_toArray, List.getElem_cons_succ, List.getElem_cons_zero, Act.put, List.setIfInBounds_toArray, List.set_cons_zero, List.set_cons_succ]
            refine rg_take 9 (v := ?_) rfl (by kernel_rfl) (by kernel_rfl) (by kernel_rfl) hS rfl ?_ ?_
            rotate_left
            · intro wS hSw; go_simp; (with_reducible rfl)
            simp only [List.getElem_toArray, List.getElem_cons_succ, List.getElem_cons_zero, Act.put, List.setIfInBounds_toArray, List.set_cons_zero, List.set_cons_succ]
            refine rg_take 10 (v := ?_) rfl (by kernel_rfl) (by kernel_rfl) (by kernel_rfl) hS rfl ?_ ?_
            rotate_left
            · intro wS hSw; go_simp; (with_reducible rfl)
            simp only [List.getElem_toArray, List.getElem_cons_succ, List.getElem_cons_zero, Act.put, List.setIfInBounds_toArray, List.set_cons_zero, List.set_cons_succ]
            refine rg_take 11 (v := ?_) rfl (by kernel_rfl) (by kernel_rfl) (by kernel_rfl) hS rfl ?_ ?_
            rotate_left
            · intro wS hSw; go_simp; (with_reducible rfl)
            simp only [List.getElem_toArray, List.getElem_cons_succ, List.getElem_cons_zero, Act.put, List.setIfInBounds_toArray, List.set_cons_zero, List.set_cons_succ]
            refine rg_take 12 (v := ?_) rfl (by kernel_rfl) (by kernel_rfl) (by kernel_rfl) hS rfl ?_ ?_
            rotate_left
            · intro wS hSw; go_simp; (with_reducible rfl)
            simp only [List.getElem_toArray, List.getElem_cons_succ, List.getElem_cons_zero, Act.put, List.setIfInBounds_toArray, List.set_cons_zero, List.set_cons_succ]
            refine rg_one 13 rfl (by kernel_rfl) rfl (fun K hK => ?_)
            go_simp
            refine (hcm wr.drew).mono ?_
            rintro e w3 ⟨rfl, hB3⟩
            have hbx : b < wr.drew.heap.size := Nat.lt_of_lt_of_le hbw2 hzr
            have hS3 : (w3.cell? ⟨b, off + k * 3, none⟩ = some (.int .u32 (xf : Int)) ∧ w3.cell? ⟨b, off + k * 3 + 1, none⟩ = some (.string (str xg)) ∧ w3.cell? ⟨b, off + k * 3 + 2, none⟩ = some (.string (str xh))) ∧ (w3.cell? ⟨b', off' + i * 3, none⟩ = some (.int .u32 (yf : Int)) ∧ w3.cell? ⟨b', off' + i * 3 + 1, none⟩ = some (.string (str yg)) ∧ w3.cell? ⟨b', off' + i * 3 + 2, none⟩ = some (.string (str yh))) := ⟨⟨(hB3.cell hbx).trans p0, (hB3.cell hbx).trans p1, (hB3.cell hbx).trans p2⟩, ⟨(hB3.cell hbB').trans j0, (hB3.cell hbB').trans j1, (hB3.cell hbB').trans j2⟩⟩
            have ho3 := own_below (Own.drewN hor 1) hB3
            have hB03 := (below_drewN hBr 1).trans (hB3.mono hzr)
            refine hK _ _ hS3 ?_; clear hK K
            have q0 := hS3.1.1
            have q1 := hS3.1.2.1
            have q2 := hS3.1.2.2
            by_cases hneg : r < 0
            · have HLO2 : Hid (∀ j (hj : j < O.length), j < i + 1 → Xd.cmp O[j] ⟨xf, xg, xh⟩ < 0) := Lib.hid fun j hj hji => by
                by_cases hjj : j < i
                · exact HLO.out j hj hjj
                · obtain rfl : j = i := by omega
                  rw [← HY.out, ← HRC.out]; exact hneg
              refine rg_take 14 (v := ?_) rfl (by kernel_rfl) (by kernel_rfl) (by kernel_rfl) hS3 rfl ?_ ?_
              rotate_left
              · intro wS hSw; go_simp; (with_reducible rfl)
              simp only [List.getElem_toArray, List.getElem_cons_succ, List.getElem_cons_zero, Act.put, List.setIfInBounds_toArray, List.set_cons_zero, List.set_cons_succ]
              refine rg_take 15 (v := ?_) rfl (by kernel_rfl) (by kernel_rfl) (by kernel_rfl) hS3 rfl ?_ ?_
              rotate_left
              · intro wS hSw; go_simp; (with_reducible rfl)
              simp only [List.getElem_toArray, List.getElem_cons_succ, List.getElem_cons_zero, Act.put, List.setIfInBounds_toArray, List.set_cons_zero, List.set_cons_succ]
              refine rg_end (by kernel_rfl) ?_
              go_wp2_with (first | (with_reducible refine hold_append ?_) | (with_reducible refine hold_make ?_) | (with_reducible refine hold_copy ?_))
              exact ⟨⟨i + 1, by omega, by go_num, HLO2.out, ho3, hB03, q0, q1, q2⟩, by simp [RowKit.intOf]; omega⟩
            · have HNL : Hid (¬ Xd.cmp O[i] ⟨xf, xg, xh⟩ < 0) := Lib.hid (by rw [← HY.out, ← HRC.out]; exact hneg)
              refine rg_take 14 (v := ?_) rfl (by kernel_rfl) (by kernel_rfl) (by kernel_rfl) hS3 rfl ?_ ?_
              rotate_left
              · intro wS hSw; go_simp; (with_reducible rfl)
              simp only [List.getElem_toArray, List.getElem_cons_succ, List.getElem_cons_zero, Act.put, List.setIfInBounds_toArray, List.set_cons_zero, List.set_cons_succ]
              refine rg_take 15 (v := ?_) rfl (by kernel_rfl) (by kernel_rfl) (by kernel_rfl) hS3 rfl ?_ ?_
              rotate_left
              · intro wS hSw; go_simp; (with_reducible rfl)
              simp only [List.getElem_toArray, List.getElem_cons_succ, List.getElem_cons_zero, Act.put, List.setIfInBounds_toArray, List.set_cons_zero, List.set_cons_succ]
              refine rg_end (by kernel_rfl) ?_
              have j0 := hS3.2.1
              have j1 := hS3.2.2.1
              have j2 := hS3.2.2.2
              have HINS := Lib.hid (xdIns_at ⟨xf, xg, xh⟩ O i (by omega) HLO.out (fun _ => HNL.out))
              clear hS3 hcm hneg
              have heq := fun W => xid_eql ⟨yf, yg, yh⟩ ⟨xf, xg, xh⟩ W
              simp only [xdV] at heq
              have hgd := fun x y => run_eqGuard_agg (P := Tryd.prog) w3 .eql 24 x y #[.int .u32 (yf : Int), .string (str yg), .string (str yh)] #[.int .u32 (xf : Int), .string (str xg), .string (str xh)] xid_guard
              by_cases hxx : (⟨yf, yg, yh⟩ : Xd) = ⟨xf, xg, xh⟩
              · rw [decide_eq_true hxx] at heq
                have HF : Hid (xdIns ⟨xf, xg, xh⟩ O = O) := Lib.hid (by rw [HINS.out, if_pos (by rw [List.getElem?_eq_getElem hil, ← HY.out, hxx])])
                clear hxx HINS
                go_wp2_with (first | (with_reducible refine hold_append ?_) | (with_reducible refine hold_make ?_) | (with_reducible refine hold_copy ?_))
                go_quiet (fail)
                go_wp2_with (first | (with_reducible refine hold_append ?_) | (with_reducible refine hold_make ?_) | (with_reducible refine hold_copy ?_))
                exact ⟨⟨k + 1, N, c2, _, O, by omega, by omega, rfl, by go_num, by rw [HS2.out]; simp [HF.out], ho3, below_drewN hB03 _⟩, by simp [RowKit.intOf]; omega⟩
              · rw [decide_eq_false hxx] at heq
                have HF : Hid (xdIns ⟨xf, xg, xh⟩ O = O.take i ++ [⟨xf, xg, xh⟩] ++ O.drop i) := Lib.hid (by rw [HINS.out, if_neg (by rw [List.getElem?_eq_getElem hil, ← HY.out]; intro h; injection h with h; exact hxx h)])
                clear hxx HINS
                go_wp2_with (first | (with_reducible refine hold_append ?_) | (with_reducible refine hold_make ?_) | (with_reducible refine hold_copy ?_))
                go_quiet (fail)
                clear heq hgd j0 j1 j2
                have hcap := ho3.rd.cap
                go_wp2_with (first | (with_reducible refine hold_append ?_) | (with_reducible refine hold_make ?_) | (with_reducible refine hold_copy ?_) | (with_reducible refine hold_slice ?_))
                refine unhold (wp_cut slX rfl rfl rfl (ho3.rd.drewN _) 0 i c2 (.inl ⟨rfl, rfl⟩) (.inr ⟨_, _, rfl, rfl⟩) (.inl ⟨rfl, rfl⟩) (by intro h; cases h) (by omega) (by omega) (Nat.le_refl _) (by omega) ?_)
                intro A3 hr3
                simp only [Nat.zero_mul, List.drop_zero, rowC_take xdShape, Nat.sub_zero] at hr3 ⊢
                go_wp2_with (first | (with_reducible refine hold_append ?_) | (with_reducible refine hold_make ?_) | (with_reducible refine hold_copy ?_) | (with_reducible refine hold_slice ?_))
                refine unhold (wp_app slX rfl rfl rfl rfl (Own.none_ _ w.heap.size _ _) hr3 (rowC_one xdShape _) (by omega) (by simp [maxLen]; omega) hB03.size ?_)
                intro A4 c4 w4 ho4 hg4 hb4
                simp only [Nat.zero_add, List.nil_append] at ho4 ⊢
                have hoz := own_stays (ho3.drewN _) hg4 (fun g _ e => by cases e)
                have hB4 : Below w.heap.size w w4 := (below_drewN hB03 _).grown hg4 hB03.size (fun g e => by cases e)
                have r0 : w4.cell? _ = _ := hg4.cell q0 (fun e => by cases e)
                have r1 : w4.cell? _ = _ := hg4.cell q1 (fun e => by cases e)
                have r2 : w4.cell? _ = _ := hg4.cell q2 (fun e => by cases e)
                have hne4 : ∀ g, blk (some ⟨b', off', none⟩) = some g → blk A4 ≠ some g := fun g hg e => by
                  rcases hb4 with h | h
                  · rw [h] at e; cases e
                  · rw [h] at e
                    injection e with e
                    have := (ho3.blk_lt hg).2
                    simp only [World.drewN] at e
                    omega
                clear q0 q1 q2 hg4
                go_wp2_with (first | (with_reducible refine hold_append ?_) | (with_reducible refine hold_make ?_) | (with_reducible refine hold_copy ?_) | (with_reducible refine hold_slice ?_))
                refine unhold (wp_rec xdShape slX Tryd.underlying53 rfl rfl rfl rfl rfl (⟨xf, xg, xh⟩ : Xd) rfl ho4 (by omega) (by omega) hB4.size ?_)
                intro A5 c5 w5 ho5 hg5 hb5 hB5
                have hoz5 := own_stays hoz hg5 hne4
                have hB05 := hB4.trans hB5
                go_wp2_with (first | (with_reducible refine hold_append ?_) | (with_reducible refine hold_make ?_) | (with_reducible refine hold_copy ?_) | (with_reducible refine hold_slice ?_))
                refine unhold (wp_cut slX rfl rfl rfl hoz5.rd i N c2 (.inr ⟨_, _, rfl, rfl⟩) (.inl ⟨rfl, rfl⟩) (.inl ⟨rfl, rfl⟩) (by intro h; cases h) (by omega) (by omega) (Nat.le_refl _) (by omega) ?_)
                intro A6 hr6
                rw [List.take_of_length_le (show (rowC xdC O).length ≤ N * 3 by rw [rowC_len xdShape, HOL.out]; exact Nat.le_refl _), rowC_drop xdShape] at hr6
                try simp only [Nat.sub_self] at hr6
                go_wp2_with (first | (with_reducible refine hold_append ?_) | (with_reducible refine hold_make ?_) | (with_reducible refine hold_copy ?_) | (with_reducible refine hold_slice ?_))
                refine unhold (wp_app slX rfl rfl rfl rfl ho5 hr6 (rowC_one xdShape _) (by omega) (by simp [maxLen]; omega) hB05.size ?_)
                intro A7 c7 w7 ho7 hg7 _
                rw [← rowC_app] at ho7
                have hB7 : Below w.heap.size w w7 := hB05.trans (below_own_grown ho5 hg7 hB05.size)
                go_wp2_with (first | (with_reducible refine hold_append ?_) | (with_reducible refine hold_make ?_) | (with_reducible refine hold_copy ?_))
                exact ⟨⟨k + 1, _, c7, A7, _, by omega, by omega, rfl, by go_num, by rw [HS2.out, ← HF.out]; simp, ho7, hB7⟩, by simp [RowKit.intOf]; omega⟩
          · have hd : decide ((i : Int) < (N : Int)) = false := by simp; omega
            obtain rfl : i = N := by omega
            have HINS := Lib.hid (xdIns_at ⟨xf, xg, xh⟩ O i (by have := HOL.out; omega) HLO.out (fun h => by have := HOL.out; omega))
            have HF : Hid (xdIns ⟨xf, xg, xh⟩ O = O.take i ++ [⟨xf, xg, xh⟩] ++ O.drop i) := Lib.hid (by rw [HINS.out, if_neg (by rw [List.getElem?_eq_none (by have := HOL.out; omega)]; intro h; cases h)])
            clear HINS hiN
            have q0 := p0
            have q1 := p1
            have q2 := p2
            clear p0 p1 p2
            go_wp2_with (first | (with_reducible refine hold_append ?_) | (with_reducible refine hold_make ?_) | (with_reducible refine hold_copy ?_))
            go_quiet (fail)
            go_wp2_with (first | (with_reducible refine hold_append ?_) | (with_reducible refine hold_make ?_) | (with_reducible refine hold_copy ?_))
            go_quiet (fail)
            have hcap := hor.rd.cap
            go_wp2_with (first | (with_reducible refine hold_append ?_) | (with_reducible refine hold_make ?_) | (with_reducible refine hold_copy ?_) | (with_reducible refine hold_slice ?_))
            refine unhold (wp_cut slX rfl rfl rfl ((hor.drewN _).rd.drewN _) 0 i c2 (.inl ⟨rfl, rfl⟩) (.inr ⟨_, _, rfl, rfl⟩) (.inl ⟨rfl, rfl⟩) (by intro h; cases h) (by omega) (by omega) (Nat.le_refl _) (by omega) ?_)
            intro A3 hr3
            simp only [Nat.zero_mul, List.drop_zero, rowC_take xdShape, Nat.sub_zero] at hr3 ⊢
            go_wp2_with (first | (with_reducible refine hold_append ?_) | (with_reducible refine hold_make ?_) | (with_reducible refine hold_copy ?_) | (with_reducible refine hold_slice ?_))
            refine unhold (wp_app slX rfl rfl rfl rfl (Own.none_ _ w.heap.size _ _) hr3 (rowC_one xdShape _) (by omega) (by simp [maxLen]; omega) hBr.size ?_)
            intro A4 c4 w4 ho4 hg4 hb4
            simp only [Nat.zero_add, List.nil_append] at ho4 ⊢
            have hoz := own_stays ((hor.drewN _).drewN _) hg4 (fun g _ e => by cases e)
            have hB4 : Below w.heap.size w w4 := (below_drewN (below_drewN hBr _) _).grown hg4 hBr.size (fun g e => by cases e)
            have r0 : w4.cell? _ = _ := hg4.cell q0 (fun e => by cases e)
            have r1 : w4.cell? _ = _ := hg4.cell q1 (fun e => by cases e)
            have r2 : w4.cell? _ = _ := hg4.cell q2 (fun e => by cases e)
            have hne4 : ∀ g, blk A2 = some g → blk A4 ≠ some g := fun g hg e => by
              rcases hb4 with h | h
              · rw [h] at e; cases e
              · rw [h] at e
                injection e with e
                have := (hor.blk_lt hg).2
                simp only [World.drewN] at e
                omega
            clear q0 q1 q2 hg4
            go_wp2_with (first | (with_reducible refine hold_append ?_) | (with_reducible refine hold_make ?_) | (with_reducible refine hold_copy ?_) | (with_reducible refine hold_slice ?_))
            refine unhold (wp_rec xdShape slX Tryd.underlying53 rfl rfl rfl rfl rfl (⟨xf, xg, xh⟩ : Xd) rfl ho4 (by omega) (by omega) hB4.size ?_)
            intro A5 c5 w5 ho5 hg5 hb5 hB5
            have hoz5 := own_stays hoz hg5 hne4
            have hB05 := hB4.trans hB5
            go_wp2_with (first | (with_reducible refine hold_append ?_) | (with_reducible refine hold_make ?_) | (with_reducible refine hold_copy ?_) | (with_reducible refine hold_slice ?_))
            refine unhold (wp_cut slX rfl rfl rfl hoz5.rd i i c2 (.inr ⟨_, _, rfl, rfl⟩) (.inl ⟨rfl, rfl⟩) (.inl ⟨rfl, rfl⟩) (by intro h; cases h) (by omega) (by omega) (Nat.le_refl _) (by omega) ?_)
            intro A6 hr6
            rw [List.take_of_length_le (show (rowC xdC O).length ≤ i * 3 by rw [rowC_len xdShape, HOL.out]; exact Nat.le_refl _), rowC_drop xdShape] at hr6
            try simp only [Nat.sub_self] at hr6
            go_wp2_with (first | (with_reducible refine hold_append ?_) | (with_reducible refine hold_make ?_) | (with_reducible refine hold_copy ?_) | (with_reducible refine hold_slice ?_))
            refine unhold (wp_app slX rfl rfl rfl rfl ho5 hr6 (rowC_one xdShape _) (by omega) (by simp [maxLen]; omega) hB05.size ?_)
            intro A7 c7 w7 ho7 hg7 _
            rw [← rowC_app] at ho7
            have hB7 : Below w.heap.size w w7 := hB05.trans (below_own_grown ho5 hg7 hB05.size)
            go_wp2_with (first | (with_reducible refine hold_append ?_) | (with_reducible refine hold_make ?_) | (with_reducible refine hold_copy ?_))
            exact ⟨⟨k + 1, _, c7, A7, _, by omega, by omega, rfl, by go_num, by rw [HS2.out, ← HF.out]; simp, ho7, hB7⟩, by simp [RowKit.intOf]; omega⟩
    · obtain rfl : k = n := by omega
      have hall : l.take k = l := by rw [← HL.out, List.take_length]
      have hOR : O = R := by rw [HO.out, hall, HR.out]
      subst hOR
      have hOl := own_len xdShape ho
      go_wp2_with (first | (with_reducible refine hold_append ?_) | (with_reducible refine hold_make ?_) | (with_reducible refine hold_copy ?_))
      go_ret
      rw [hOl]
      exact ⟨A2, c2, rfl, ho, hBr⟩
end Go.PH

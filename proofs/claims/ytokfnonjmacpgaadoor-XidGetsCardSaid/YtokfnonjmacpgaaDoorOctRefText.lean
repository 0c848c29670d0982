/- The walk of the reference reader's Text. -/
import Derived.Test.YtokfnonjmacpgaaDoorOctRef
namespace Go.PH
open Go.RowKit Go.Proofs

set_option maxHeartbeats 1000000 in
theorem qtext_any {F : Nat → Prop} {w : World} {b : Nat} {l : List UInt8} {bad : Bool} (h : Qrd F w b l bad) (x most : Int) (hx : -9223372036854775808 ≤ x) (hx' : x ≤ 9223372036854775807) (hm : -9223372036854775808 ≤ most) (hm' : most ≤ 9223372036854775807) :
    Calls Tryd.prog 50 #[.pointer (some ⟨b, 0, none⟩), .int .i64 x, .int .i64 most] w fun e w' => e = .returned (.string (str (mtext l bad x most).1)) ∧ Qrd F w' b (mtext l bad x most).2.1 (mtext l bad x most).2.2 ∧ w.grownBy w' (some b) := by
  by_cases h8 : ¬(x = 1 ∨ x = 2 ∨ x = 4)
  · have b1 : (x != 1) = true := by simp; omega
    have b2 : (x != 2) = true := by simp; omega
    have b4 : (x != 4) = true := by simp; omega
    rw [mtext_no h8]
    go_enter Tryd.func50, Tryd.ntmps50
    go_wp2_with (first | (with_reducible refine hold_append ?_) | (with_reducible refine hold_make ?_) | (with_reducible refine hold_copy ?_))
    refine (qspoil_any h).mono ?_
    rintro e w1 ⟨rfl, h1, hg1⟩
    go_wp2_with (first | (with_reducible refine hold_append ?_) | (with_reducible refine hold_make ?_) | (with_reducible refine hold_copy ?_))
    go_ret
    exact ⟨rfl, h1, hg1⟩
  have hN := qnum_any h x hx hx'
  have hlt := mnum_lt l bad x
  rw [mtext_eq (by omega)]
  generalize mnum l bad x = r at hN hlt ⊢
  obtain ⟨n, l', bad'⟩ := r
  simp only at hN hlt ⊢
  have hl64 : ∀ {w1 : World}, Qrd F w1 b l' bad' → l'.length ≤ 140737488351240 := fun h => h.len
  rcases (show x = 1 ∨ x = 2 ∨ x = 4 by omega) with rfl | rfl | rfl
  all_goals
    by_cases hb : bad' = true
    · subst hb
      rw [if_pos (.inl rfl)]
      go_enter Tryd.func50, Tryd.ntmps50
      go_wp2_with (first | (with_reducible refine hold_append ?_) | (with_reducible refine hold_make ?_) | (with_reducible refine hold_copy ?_))
      refine hN.mono ?_
      rintro e w1 ⟨rfl, h1, hg1⟩
      obtain ⟨A, m, c, h10, h11, hf0, hf1, hr, hA, hn, hF⟩ := h1
      go_wp2_with (first | (with_reducible refine hold_append ?_) | (with_reducible refine hold_make ?_) | (with_reducible refine hold_copy ?_))
      refine (qspoil_any ⟨A, m, c, h10, h11, hf0, hf1, hr, hA, hn, hF⟩).mono ?_
      rintro e w3 ⟨rfl, h3, hg3⟩
      go_wp2_with (first | (with_reducible refine hold_append ?_) | (with_reducible refine hold_make ?_) | (with_reducible refine hold_copy ?_))
      go_ret
      exact ⟨rfl, h3, hg1.trans hg3⟩
    obtain rfl : bad' = false := by simpa using hb
    by_cases hbd : most < 0 ∨ most < (n : Int) ∨ l'.length < n
    · rw [if_pos (.inr hbd)]
      go_enter Tryd.func50, Tryd.ntmps50
      go_wp2_with (first | (with_reducible refine hold_append ?_) | (with_reducible refine hold_make ?_) | (with_reducible refine hold_copy ?_))
      refine hN.mono ?_
      rintro e w1 ⟨rfl, h1, hg1⟩
      have hll := h1.len
      have h1' := h1
      obtain ⟨A, m, c, h10, h11, hf0, hf1, hr, hA, hn, hF⟩ := h1
      have hml := hr.length
      by_cases hneg : most < 0
      · go_wp2_with (first | (with_reducible refine hold_append ?_) | (with_reducible refine hold_make ?_) | (with_reducible refine hold_copy ?_))
        refine (qspoil_any h1').mono ?_
        rintro e w3 ⟨rfl, h3, hg3⟩
        go_wp2_with (first | (with_reducible refine hold_append ?_) | (with_reducible refine hold_make ?_) | (with_reducible refine hold_copy ?_))
        go_ret
        exact ⟨rfl, h3, hg1.trans hg3⟩
      by_cases hmore : most < (n : Int)
      · go_wp2_with (first | (with_reducible refine hold_append ?_) | (with_reducible refine hold_make ?_) | (with_reducible refine hold_copy ?_))
        refine (qspoil_any h1').mono ?_
        rintro e w3 ⟨rfl, h3, hg3⟩
        go_wp2_with (first | (with_reducible refine hold_append ?_) | (with_reducible refine hold_make ?_) | (with_reducible refine hold_copy ?_))
        go_ret
        exact ⟨rfl, h3, hg1.trans hg3⟩
      have hless : (m : Int) < (n : Int) := by omega
      go_wp2_with (first | (with_reducible refine hold_append ?_) | (with_reducible refine hold_make ?_) | (with_reducible refine hold_copy ?_))
      refine (qspoil_any h1').mono ?_
      rintro e w3 ⟨rfl, h3, hg3⟩
      go_wp2_with (first | (with_reducible refine hold_append ?_) | (with_reducible refine hold_make ?_) | (with_reducible refine hold_copy ?_))
      go_ret
      exact ⟨rfl, h3, hg1.trans hg3⟩
    rw [if_neg (by simp; omega), mtake_yes (by omega)]
    have hn63 : (n : Int) ≤ 9223372036854775807 := by omega
    have hneg' : 0 ≤ most := by omega
    have hmore' : (n : Int) ≤ most := by omega
    go_enter Tryd.func50, Tryd.ntmps50
    go_wp2_with (first | (with_reducible refine hold_append ?_) | (with_reducible refine hold_make ?_) | (with_reducible refine hold_copy ?_))
    refine hN.mono ?_
    rintro e w1 ⟨rfl, h1, hg1⟩
    have hT := qtake_any h1 (n : Int) (by omega) (by omega)
    rw [mtake_yes (by omega)] at hT
    simp only [List.length_take, Nat.min_eq_left (show n ≤ l'.length by omega)] at hT
    obtain ⟨A, m, c, h10, h11, hf0, hf1, hr, hA, hn, hF⟩ := h1
    have hml := hr.length
    have hleft' : (n : Int) ≤ (m : Int) := by omega
    go_wp2_with (first | (with_reducible refine hold_append ?_) | (with_reducible refine hold_make ?_) | (with_reducible refine hold_copy ?_))
    refine hT.mono ?_
    rintro e w3 ⟨A3, c3, rfl, ho3, h3, hg3⟩
    have hcv := run_strB ho3.rd
    go_wp2_with (first | (with_reducible refine hold_append ?_) | (with_reducible refine hold_make ?_) | (with_reducible refine hold_copy ?_))
    go_ret
    exact ⟨rfl, h3, hg1.trans hg3⟩
end Go.PH

/- The walk of octet's Text. -/
import Derived.Test.YtidpbbleneekgaaDoorOctRead2
set_option linter.all false
set_option linter.unusedSimpArgs false
set_option linter.unusedVariables false
namespace Go.PH
open Go.RowKit Go.Proofs

theorem wideB_text {x : Int} (h : ¬(x = 1 ∨ x = 2 ∨ x = 4)) (h8 : x ≠ 8) : wideB x = false := wideB_no (by omega) (by omega) (by omega) h8

set_option maxHeartbeats 1000000 in
theorem rdtext_any {F : Nat → Prop} {w : World} {v : Value} {vb : Option Nat} {l : List UInt8} {bad : Bool} (h : Rdr F w v vb l bad) (x most : Int) (hx : -9223372036854775808 ≤ x) (hx' : x ≤ 9223372036854775807) (hm : -9223372036854775808 ≤ most) (hm' : most ≤ 9223372036854775807) :
    Calls Tryd.prog 69 #[v, .int .i64 x, .int .i64 most] w fun e w' => e = .returned (.string (str (mtext l bad x most).1)) ∧ Rdr F w' v vb (mtext l bad x most).2.1 (mtext l bad x most).2.2 ∧ w.grownBy w' vb := by
  by_cases h8 : x = 8
  · subst h8
    rw [mtext_no (by omega)]
    go_enter Tryd.func69, Tryd.ntmps69
    go_wp2_with (first | (with_reducible refine hold_append ?_) | (with_reducible refine hold_make ?_) | (with_reducible refine hold_copy ?_))
    refine (rdspoil_any h).mono ?_
    rintro e w1 ⟨rfl, h1, hg1⟩
    go_wp2_with (first | (with_reducible refine hold_append ?_) | (with_reducible refine hold_make ?_) | (with_reducible refine hold_copy ?_))
    go_ret
    exact ⟨rfl, h1, hg1⟩
  have hN := rdnum_any h x hx hx'
  have hlt := mnum_lt l bad x
  rw [mtext_eq h8]
  generalize mnum l bad x = r at hN hlt ⊢
  obtain ⟨n, l', bad'⟩ := r
  simp only at hN hlt ⊢
  by_cases hb : bad' = true
  · subst hb
    rw [if_pos (.inl rfl)]
    go_enter Tryd.func69, Tryd.ntmps69
    go_wp2_with (first | (with_reducible refine hold_append ?_) | (with_reducible refine hold_make ?_) | (with_reducible refine hold_copy ?_))
    refine hN.mono ?_
    rintro e w1 ⟨rfl, h1, hg1⟩
    go_wp2_with (first | (with_reducible refine hold_append ?_) | (with_reducible refine hold_make ?_) | (with_reducible refine hold_copy ?_))
    refine (rdbad_any h1).mono ?_
    rintro e w2 ⟨rfl, rfl⟩
    go_wp2_with (first | (with_reducible refine hold_append ?_) | (with_reducible refine hold_make ?_) | (with_reducible refine hold_copy ?_))
    refine (rdspoil_any h1).mono ?_
    rintro e w3 ⟨rfl, h3, hg3⟩
    go_wp2_with (first | (with_reducible refine hold_append ?_) | (with_reducible refine hold_make ?_) | (with_reducible refine hold_copy ?_))
    go_ret
    exact ⟨rfl, h3, hg1.trans hg3⟩
  obtain rfl : bad' = false := by simpa using hb
  by_cases hneg : most < 0
  · rw [if_pos (.inr (.inl hneg))]
    go_enter Tryd.func69, Tryd.ntmps69
    go_wp2_with (first | (with_reducible refine hold_append ?_) | (with_reducible refine hold_make ?_) | (with_reducible refine hold_copy ?_))
    refine hN.mono ?_
    rintro e w1 ⟨rfl, h1, hg1⟩
    go_wp2_with (first | (with_reducible refine hold_append ?_) | (with_reducible refine hold_make ?_) | (with_reducible refine hold_copy ?_))
    refine (rdbad_any h1).mono ?_
    rintro e w2 ⟨rfl, rfl⟩
    go_wp2_with (first | (with_reducible refine hold_append ?_) | (with_reducible refine hold_make ?_) | (with_reducible refine hold_copy ?_))
    refine (rdspoil_any h1).mono ?_
    rintro e w3 ⟨rfl, h3, hg3⟩
    go_wp2_with (first | (with_reducible refine hold_append ?_) | (with_reducible refine hold_make ?_) | (with_reducible refine hold_copy ?_))
    go_ret
    exact ⟨rfl, h3, hg1.trans hg3⟩
  by_cases hmore : most < (n : Int)
  · rw [if_pos (.inr (.inr (.inl hmore)))]
    go_enter Tryd.func69, Tryd.ntmps69
    go_wp2_with (first | (with_reducible refine hold_append ?_) | (with_reducible refine hold_make ?_) | (with_reducible refine hold_copy ?_))
    refine hN.mono ?_
    rintro e w1 ⟨rfl, h1, hg1⟩
    go_wp2_with (first | (with_reducible refine hold_append ?_) | (with_reducible refine hold_make ?_) | (with_reducible refine hold_copy ?_))
    refine (rdbad_any h1).mono ?_
    rintro e w2 ⟨rfl, rfl⟩
    go_wp2_with (first | (with_reducible refine hold_append ?_) | (with_reducible refine hold_make ?_) | (with_reducible refine hold_copy ?_))
    refine (rdspoil_any h1).mono ?_
    rintro e w3 ⟨rfl, h3, hg3⟩
    go_wp2_with (first | (with_reducible refine hold_append ?_) | (with_reducible refine hold_make ?_) | (with_reducible refine hold_copy ?_))
    go_ret
    exact ⟨rfl, h3, hg1.trans hg3⟩
  by_cases hleft : l'.length < n
  · rw [if_pos (.inr (.inr (.inr hleft)))]
    go_enter Tryd.func69, Tryd.ntmps69
    go_wp2_with (first | (with_reducible refine hold_append ?_) | (with_reducible refine hold_make ?_) | (with_reducible refine hold_copy ?_))
    refine hN.mono ?_
    rintro e w1 ⟨rfl, h1, hg1⟩
    have hll := h1.len
    go_wp2_with (first | (with_reducible refine hold_append ?_) | (with_reducible refine hold_make ?_) | (with_reducible refine hold_copy ?_))
    refine (rdbad_any h1).mono ?_
    rintro e w2 ⟨rfl, rfl⟩
    go_wp2_with (first | (with_reducible refine hold_append ?_) | (with_reducible refine hold_make ?_) | (with_reducible refine hold_copy ?_))
    refine (rdleft_any h1).mono ?_
    rintro e w2 ⟨rfl, rfl⟩
    go_wp2_with (first | (with_reducible refine hold_append ?_) | (with_reducible refine hold_make ?_) | (with_reducible refine hold_copy ?_))
    refine (rdspoil_any h1).mono ?_
    rintro e w3 ⟨rfl, h3, hg3⟩
    go_wp2_with (first | (with_reducible refine hold_append ?_) | (with_reducible refine hold_make ?_) | (with_reducible refine hold_copy ?_))
    go_ret
    exact ⟨rfl, h3, hg1.trans hg3⟩
  rw [if_neg (by simp; omega), mtake_yes (by omega)]
  have hn63 : (n : Int) ≤ 9223372036854775807 := by omega
  have hleft' : ¬ ((l'.length : Int) < (n : Int)) := by omega
  have hneg' : 0 ≤ most := by omega
  have hmore' : (n : Int) ≤ most := by omega
  go_enter Tryd.func69, Tryd.ntmps69
  go_wp2_with (first | (with_reducible refine hold_append ?_) | (with_reducible refine hold_make ?_) | (with_reducible refine hold_copy ?_))
  refine hN.mono ?_
  rintro e w1 ⟨rfl, h1, hg1⟩
  have hll := h1.len
  go_wp2_with (first | (with_reducible refine hold_append ?_) | (with_reducible refine hold_make ?_) | (with_reducible refine hold_copy ?_))
  refine (rdbad_any h1).mono ?_
  rintro e w2 ⟨rfl, rfl⟩
  go_wp2_with (first | (with_reducible refine hold_append ?_) | (with_reducible refine hold_make ?_) | (with_reducible refine hold_copy ?_))
  refine (rdleft_any h1).mono ?_
  rintro e w2 ⟨rfl, rfl⟩
  go_wp2_with (first | (with_reducible refine hold_append ?_) | (with_reducible refine hold_make ?_) | (with_reducible refine hold_copy ?_))
  have hT := rdtake_any h1 (n : Int) (by omega) (by omega)
  rw [mtake_yes (by omega)] at hT
  simp only [List.length_take, Nat.min_eq_left (Nat.le_of_not_lt hleft)] at hT
  refine hT.mono ?_
  rintro e w3 ⟨A3, c3, rfl, ho3, h3, hg3⟩
  have hcv := run_strB ho3.rd
  go_wp2_with (first | (with_reducible refine hold_append ?_) | (with_reducible refine hold_make ?_) | (with_reducible refine hold_copy ?_))
  go_ret
  exact ⟨rfl, h3, hg1.trans hg3⟩
end Go.PH

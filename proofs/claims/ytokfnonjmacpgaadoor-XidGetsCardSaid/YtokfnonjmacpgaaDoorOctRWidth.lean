/- The walk of the reference's Width. -/
import Derived.Test.YtokfnonjmacpgaaDoorOctWalk
namespace Go.PH
open Go.RowKit Go.Proofs

theorem rwidth_any (x : Int) (w : World) : Calls Tryd.prog 71 #[.int .i64 x] w fun e w' => e = .returned (.bool (wideB x)) ∧ w' = w := by
  by_cases h1 : x = 1
  · subst h1
    go_enter Tryd.func71, Tryd.ntmps71
    go_wp2_with (first | (with_reducible refine hold_append ?_) | (with_reducible refine hold_make ?_) | (with_reducible refine hold_copy ?_))
    go_ret
    exact ⟨rfl, rfl⟩
  by_cases h2 : x = 2
  · subst h2
    go_enter Tryd.func71, Tryd.ntmps71
    go_wp2_with (first | (with_reducible refine hold_append ?_) | (with_reducible refine hold_make ?_) | (with_reducible refine hold_copy ?_))
    go_ret
    exact ⟨rfl, rfl⟩
  by_cases h4 : x = 4
  · subst h4
    go_enter Tryd.func71, Tryd.ntmps71
    go_wp2_with (first | (with_reducible refine hold_append ?_) | (with_reducible refine hold_make ?_) | (with_reducible refine hold_copy ?_))
    go_ret
    exact ⟨rfl, rfl⟩
  by_cases h8 : x = 8
  · subst h8
    go_enter Tryd.func71, Tryd.ntmps71
    go_wp2_with (first | (with_reducible refine hold_append ?_) | (with_reducible refine hold_make ?_) | (with_reducible refine hold_copy ?_))
    go_ret
    exact ⟨rfl, rfl⟩
  have b1 : (x == 1) = false := by simpa using h1
  have b2 : (x == 2) = false := by simpa using h2
  have b4 : (x == 4) = false := by simpa using h4
  have b8 : (x == 8) = false := by simpa using h8
  rw [wideB_no h1 h2 h4 h8]
  go_enter Tryd.func71, Tryd.ntmps71
  go_wp2_with (first | (with_reducible refine hold_append ?_) | (with_reducible refine hold_make ?_) | (with_reducible refine hold_copy ?_))
  go_ret
  exact ⟨by simp, rfl⟩

end Go.PH

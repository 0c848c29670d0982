/- Texts laid together: GtGreat. -/
import Derived.Test.YtcfhnnbgghbjfaaMg26
section
/- The walk of great. -/
set_option linter.all false
set_option linter.unusedSimpArgs false
set_option linter.unusedVariables false
namespace Go.PH
open Go.RowKit Go.Proofs

theorem great_any (G : Gl) (A : Option Addr) (n c : Nat) (w : World) : Calls Try.prog 9 #[.agg (glV G A n c)] w fun e w' => e = .returned (.bool (decide (20 < n))) ∧ Below w.heap.size w w' := by
  have hb := Box.new w (glV G A n c) 28
  have hB := (Below.refl w.heap.size w).alloc (Nat.le_refl _) (.cells (glV G A n c) 28)
  have x5 := hb.cell (j := 5) rfl
  have hd : decide ((20 : Int) < (n : Int)) = decide (20 < n) := by rw [decide_eq_decide]; omega
  obtain ⟨bb, hbb⟩ : ∃ bb, bb = decide (20 < n) := ⟨_, rfl⟩
  rw [← hbb] at hd ⊢
  clear hbb
  unfold glV at *
  go_enter Try.func9, Try.ntmps9
  go_wp2_with (first | (with_reducible refine hold_append ?_) | (with_reducible refine hold_make ?_) | (with_reducible refine hold_copy ?_))
  go_ret
  exact ⟨rfl, hB⟩
end Go.PH
end

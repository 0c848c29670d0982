/- More about scanning: lengths; frames' bytes scanned; what is scanned, put again; pieces. -/
import Derived.Test.YtgjdpgihehpecaaFrScan
import Derived.Test.YtgjdpgihehpecaaFrBytes
namespace Go.PH

theorem frScan_le (b : List UInt8) : (frScan b).1.length * 12 ≤ (frScan b).2.1 ∧ (frScan b).2.1 ≤ b.length := by
  induction hn : b.length using Nat.strongRecOn generalizing b with
  | ind n ih =>
    subst hn
    by_cases hw : frWell b = false
    · rw [frScan_bad hw]; simp
    · have hw1 : frWell b = true := by simpa using hw
      by_cases h12 : b.length < 12
      · rw [frScan_short hw1 h12]; simp
      · by_cases hl : b.length < frN b
        · rw [frScan_wait hw1 (by omega) hl]; simp
        · have hN := (frWell_n hw1 (by omega)).1
          rw [frScan_more hw1 (by omega) (by omega)]
          have := ih _ (by rw [List.length_drop]; omega) (b.drop (frN b)) rfl
          rw [List.length_drop] at this
          simp only [List.length_cons]
          omega
theorem frScan_err (b : List UInt8) : (frScan b).2.2 = 0 ∨ (frScan b).2.2 = 60 := by
  induction hn : b.length using Nat.strongRecOn generalizing b with
  | ind n ih =>
    subst hn
    by_cases hw : frWell b = false
    · rw [frScan_bad hw]; simp
    · have hw1 : frWell b = true := by simpa using hw
      by_cases h12 : b.length < 12
      · rw [frScan_short hw1 h12]; simp
      · by_cases hl : b.length < frN b
        · rw [frScan_wait hw1 (by omega) hl]; simp
        · have hN := (frWell_n hw1 (by omega)).1
          rw [frScan_more hw1 (by omega) (by omega)]
          exact ih _ (by rw [List.length_drop]; omega) (b.drop (frN b)) rfl
end Go.PH

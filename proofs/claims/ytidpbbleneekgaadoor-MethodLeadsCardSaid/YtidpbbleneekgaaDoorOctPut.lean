/- The walk of octet's Put. -/
import Derived.Test.YtidpbbleneekgaaDoorOctWalk
import Derived.Test.YtidpbbleneekgaaDoorMem2
set_option linter.all false
set_option linter.unusedSimpArgs false
set_option linter.unusedVariables false
namespace Go.PH
open Go.RowKit Go.Proofs

set_option maxHeartbeats 1000000 in
theorem put_any (A : Option Addr) (n c : Nat) (l : List UInt8) (v : Nat) (x : Int) (w : World) (hb : RdB w w.heap.size A n c l) (hv : v < 18446744073709551616) (hn : n ≤ 281474976710600) :
    Calls Tryd.prog 21 #[.slice A n c, .int .u64 v, .int .i64 x] w fun e w' => ∃ A2 c2, e = .returned (.slice A2 (puts l v x).length c2) ∧ Own w' w.heap.size 5 1 A2 (puts l v x).length c2 ((puts l v x).map u8v) ∧ Below w.heap.size w w' := by
  have hl := hb.length
  by_cases hw : wideB x = true
  · have h8 := wideB_le hw
    obtain ⟨i, rfl⟩ : ∃ i : Nat, x = i := ⟨x.toNat, by omega⟩
    rw [puts_yes hw]
    simp only [List.length_append, be_length, Int.toNat_natCast, hl]
    go_enter Tryd.func21, Tryd.ntmps21
    go_wp2_with (first | (with_reducible refine hold_append ?_) | (with_reducible refine hold_make ?_) | (with_reducible refine hold_copy ?_))
    refine (wide_any i w).mono ?_
    rw [hw]
    rintro e w' ⟨rfl, rfl⟩
    go_wp2_with (first | (with_reducible refine hold_append ?_) | (with_reducible refine hold_make ?_) | (with_reducible refine hold_copy ?_))
    refine (number_any v i w' hv (by omega) (by omega)).mono ?_
    rintro e w1 ⟨A1, rfl, ho1, hB1⟩
    go_wp2_with (first | (with_reducible refine hold_append ?_) | (with_reducible refine hold_make ?_) | (with_reducible refine hold_copy ?_))
    refine (behind_any A n c l A1 i i (be i v) w1 ((hb.below hB1).more hB1.size) ho1.rd (by omega)).mono ?_
    rintro e w2 ⟨A2, rfl, ho2, hB2⟩
    go_wp2_with (first | (with_reducible refine hold_append ?_) | (with_reducible refine hold_make ?_) | (with_reducible refine hold_copy ?_))
    go_ret
    exact ⟨A2, n + i, rfl, ho2.base_le hB1.size, hB1.trans (hB2.mono hB1.size)⟩
  · have hw' : wideB x = false := by simpa using hw
    rw [puts_no hw']
    rw [hl]
    go_enter Tryd.func21, Tryd.ntmps21
    go_wp2_with (first | (with_reducible refine hold_append ?_) | (with_reducible refine hold_make ?_) | (with_reducible refine hold_copy ?_))
    refine (wide_any x w).mono ?_
    rw [hw']
    rintro e w' ⟨rfl, rfl⟩
    go_wp2_with (first | (with_reducible refine hold_append ?_) | (with_reducible refine hold_make ?_) | (with_reducible refine hold_copy ?_))
    refine (behind_any A n c l none 0 0 [] w' hb (Rd.nil _ _ _ _ (by simp [maxLen]) _) (by omega)).mono ?_
    rintro e w2 ⟨A2, rfl, ho2, hB2⟩
    simp only [Nat.add_zero, List.append_nil] at ho2 ⊢
    go_wp2_with (first | (with_reducible refine hold_append ?_) | (with_reducible refine hold_make ?_) | (with_reducible refine hold_copy ?_))
    go_ret
    exact ⟨A2, n, rfl, ho2, hB2⟩

end Go.PH

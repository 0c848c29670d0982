/- SpansGets: for every input of the form's own reach the law returns true and writes nothing that was there. -/
import Derived.Test.YtjlfjlafpgjhbaaSpGet
namespace Go.PH
open Go.RowKit Go.Proofs

theorem spGet_len (b : List UInt8) : (spGet b).length ≤ 8192 := by
  unfold spGet
  split
  · rw [getSpans_len]
    have hN : getN b < 65536 := unbe_take
    omega
  · simp
set_option maxRecDepth 20000 in
theorem law_SpansGets (A : Option Addr) (n c : Nat) (b : List UInt8) (w : World) (hr : RdB w w.heap.size A n c b) (hn : n ≤ 140737488351232) :
    Calls Try.prog 8 #[.slice A n c] w fun e w' => e = .returned (.bool true) ∧ Below w.heap.size w w' := by
  by_cases h60 : 9000 < n
  · have h60' : (9000 : Int) < (n : Int) := by omega
    go_enter Try.func8, Try.ntmps8
    go_wp2_with (first | (with_reducible refine hold_append ?_) | (with_reducible refine hold_make ?_) | (with_reducible refine hold_copy ?_))
    refine (head_any w).mono ?_
    rintro e w1 ⟨rfl, hB1⟩
    go_wp2_with (first | (with_reducible refine hold_append ?_) | (with_reducible refine hold_make ?_) | (with_reducible refine hold_copy ?_))
    go_ret
    exact ⟨rfl, hB1⟩
  · have h60' : ¬ (9000 : Int) < (n : Int) := by omega
    have hgl := spGet_len b
    go_enter Try.func8, Try.ntmps8
    go_wp2_with (first | (with_reducible refine hold_append ?_) | (with_reducible refine hold_make ?_) | (with_reducible refine hold_copy ?_))
    refine (spget_any A n c b w hr (by omega)).mono ?_
    rintro e w1 ⟨A1, c1, rfl, ho1, hB1⟩
    have hz1 := hB1.size
    go_wp2_with (first | (with_reducible refine hold_append ?_) | (with_reducible refine hold_make ?_) | (with_reducible refine hold_copy ?_))
    refine (rspget_any A n c b w1 ((hr.below hB1).more hz1) (by omega)).mono ?_
    rintro e w2 ⟨A2, c2, rfl, ho2, hB2⟩
    have ho12 := below_ownS ho1 hB2
    have hB02 := hB1.trans (hB2.mono hz1)
    have hz2 := hB02.size
    generalize spGet b = g at *
    generalize spGetN b = gn at *
    generalize spGetErr b = ge at *
    have hq1 : (((gn : Nat) : Int) == ((gn : Nat) : Int)) = true := by simp
    have hq2 : (((ge : Nat) : Int) == ((ge : Nat) : Int)) = true := by simp
    go_wp2_with (first | (with_reducible refine hold_append ?_) | (with_reducible refine hold_make ?_) | (with_reducible refine hold_copy ?_))
    refine (ssame_any _ _ _ _ _ _ _ _ _ w2 ho12.rd ho2.rd (Nat.le_refl _) (by omega) (by omega)).mono ?_
    rintro e w3 ⟨rfl, hB3⟩
    have hB03 := hB02.trans (hB3.mono hz2)
    rw [decide_eq_true rfl]
    go_wp2_with (first | (with_reducible refine hold_append ?_) | (with_reducible refine hold_make ?_) | (with_reducible refine hold_copy ?_))
    refine (head_any w3).mono ?_
    rintro e w4 ⟨rfl, hB4⟩
    have hB04 := hB03.trans (hB4.mono hB03.size)
    go_wp2_with (first | (with_reducible refine hold_append ?_) | (with_reducible refine hold_make ?_) | (with_reducible refine hold_copy ?_))
    go_ret
    exact ⟨rfl, hB04⟩
end Go.PH

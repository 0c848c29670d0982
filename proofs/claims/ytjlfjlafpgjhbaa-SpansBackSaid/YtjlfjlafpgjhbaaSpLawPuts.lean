/- SpansPuts: for every input of the form's own reach the law returns true and writes nothing that was there. -/
import Derived.Test.YtjlfjlafpgjhbaaSpPut
namespace Go.PH
open Go.RowKit Go.Proofs

theorem spPut_len (l : List Sp) : (spPut l).length ≤ 8002 := by
  unfold spPut
  split
  · simp only [List.length_append, be_length, spBytes_len]; omega
  · simp
set_option maxRecDepth 20000 in
theorem law_SpansPuts (A : Option Addr) (n c : Nat) (l : List Sp) (w : World) (hr : RdS w w.heap.size A n c l) (hb : spOK 4294967296 l) (hn : n ≤ 140737488351232) :
    Calls Try.prog 6 #[.slice A n c] w fun e w' => e = .returned (.bool true) ∧ Below w.heap.size w w' := by
  by_cases h60 : 1100 < n
  · go_enter Try.func6, Try.ntmps6
    go_wp2_with (first | (with_reducible refine hold_append ?_) | (with_reducible refine hold_make ?_) | (with_reducible refine hold_copy ?_))
    refine (head_any w).mono ?_
    rintro e w1 ⟨rfl, hB1⟩
    go_wp2_with (first | (with_reducible refine hold_append ?_) | (with_reducible refine hold_make ?_) | (with_reducible refine hold_copy ?_))
    go_ret
    exact ⟨rfl, hB1⟩
  · have h60' : ¬ (1100 : Int) < (n : Int) := by omega
    go_enter Try.func6, Try.ntmps6
    go_wp2_with (first | (with_reducible refine hold_append ?_) | (with_reducible refine hold_make ?_) | (with_reducible refine hold_copy ?_))
    refine (spput_any A n c l _ w hr hb (Nat.le_refl _) (by omega)).mono ?_
    rintro e w1 ⟨A1, c1, rfl, ho1, hB1⟩
    have hz1 := hB1.size
    go_wp2_with (first | (with_reducible refine hold_append ?_) | (with_reducible refine hold_make ?_) | (with_reducible refine hold_copy ?_))
    refine (rspput_any A n c l _ w1 (hr.below hB1) hb hz1 (by omega)).mono ?_
    rintro e w2 ⟨A2, c2, rfl, ho2, hB2⟩
    have ho12 := below_ownS ho1 hB2
    have hB02 := hB1.trans (hB2.mono hz1)
    have hv1 := run_strB (w := w2) ho12.rd
    have hv2 := run_strB (w := w2) ho2.rd
    generalize spPut l = pb at *
    generalize spPutErr l = pe at *
    have hq : ((str pb).toList == (str pb).toList) = true := by simp
    have hqe : (((pe : Nat) : Int) == ((pe : Nat) : Int)) = true := by simp
    go_wp2_with (first | (with_reducible refine hold_append ?_) | (with_reducible refine hold_make ?_) | (with_reducible refine hold_copy ?_))
    refine (head_any w2).mono ?_
    rintro e w3 ⟨rfl, hB3⟩
    have hB03 := hB02.trans (hB3.mono hB02.size)
    go_wp2_with (first | (with_reducible refine hold_append ?_) | (with_reducible refine hold_make ?_) | (with_reducible refine hold_copy ?_))
    go_ret
    exact ⟨rfl, hB03⟩
end Go.PH

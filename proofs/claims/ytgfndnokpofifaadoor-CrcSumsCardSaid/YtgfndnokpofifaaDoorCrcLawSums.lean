/- CrcSums: for every input of the form's own reach the law returns true and writes nothing that was there. Condition: the listed table reads as its numbers. -/
import Derived.Test.YtgfndnokpofifaaDoorCrcHead
namespace Go.PH
open Go.RowKit Go.Proofs

set_option maxHeartbeats 1000000 in
theorem law_CrcSums (s : Nat) (A : Option Addr) (n c : Nat) (l : List UInt8) (w : World) (hb : RdB w w.heap.size A n c l) (ht : TabAt w) (hg0 : 0 < w.heap.size) (hn : n ≤ 140737488351232) (hs : s < 4294967296) :
    Calls Tryd.prog 3 #[.int .u32 s, .slice A n c] w fun e w' => e = .returned (.bool true) ∧ Below w.heap.size w w' := by
  have hl := hb.length
  go_enter Tryd.func3, Tryd.ntmps3
  go_wp2_with (first | (with_reducible refine hold_append ?_) | (with_reducible refine hold_make ?_) | (with_reducible refine hold_copy ?_))
  refine unhold (wp_app slB rfl rfl rfl rfl (Own.none_ w w.heap.size _ _) hb (map_one l) (by omega) (by simp [maxLen]; omega) (Nat.le_refl _) ?_)
  intro A1 c1 w1 ho1 hg1 _
  have hB1 : Below w.heap.size w w1 := (Below.refl _ _).grown hg1 (Nat.le_refl _) (by simp [blk])
  simp only [Nat.zero_add, List.nil_append] at ho1
  have ht1 := ht.below hB1 hg0
  have hb1 := hb.below hB1
  have hcv1 := run_str Tryd.underlying23 Tryd.underlying9 Tryd.underlying5 ho1.rd
  have hcv2 := run_str Tryd.underlying23 Tryd.underlying9 Tryd.underlying5 hb1
  go_wp2_with (first | (with_reducible refine hold_append ?_) | (with_reducible refine hold_make ?_) | (with_reducible refine hold_copy ?_))
  refine (sum_any A1 n c1 l _ w1 ho1.rd ht1 (by omega)).mono ?_
  rintro e w' ⟨rfl, rfl⟩
  go_wp2_with (first | (with_reducible refine hold_append ?_) | (with_reducible refine hold_make ?_) | (with_reducible refine hold_copy ?_))
  refine (rsum_any A n c l _ w1 hb1 (by omega)).mono ?_
  rintro e w' ⟨rfl, rfl⟩
  go_wp2_with (first | (with_reducible refine hold_append ?_) | (with_reducible refine hold_make ?_) | (with_reducible refine hold_copy ?_))
  refine (more_any A1 n c1 s l _ w1 ho1.rd ht1 (by omega) hs).mono ?_
  rintro e w' ⟨rfl, rfl⟩
  go_wp2_with (first | (with_reducible refine hold_append ?_) | (with_reducible refine hold_make ?_) | (with_reducible refine hold_copy ?_))
  refine (rmore_any A n c s l _ w1 hb1 (by omega) hs).mono ?_
  rintro e w' ⟨rfl, rfl⟩
  go_wp2_with (first | (with_reducible refine hold_append ?_) | (with_reducible refine hold_make ?_) | (with_reducible refine hold_copy ?_))
  refine (head_any w1 ht1 (Nat.lt_of_lt_of_le hg0 hB1.size)).mono ?_
  rintro e w2 ⟨rfl, hB2⟩
  go_wp2_with (first | (with_reducible refine hold_append ?_) | (with_reducible refine hold_make ?_) | (with_reducible refine hold_copy ?_))
  go_ret
  exact ⟨rfl, hB1.trans (hB2.mono hB1.size)⟩
end Go.PH

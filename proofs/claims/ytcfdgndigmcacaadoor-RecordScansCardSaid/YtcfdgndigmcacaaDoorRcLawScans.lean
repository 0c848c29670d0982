/- RecordScans: for every input of the form's own reach the law returns true and writes nothing that was there. Condition: the listed table reads as its numbers. -/
import Derived.Test.YtcfdgndigmcacaaDoorRcHead
import Derived.Test.YtcfdgndigmcacaaDoorRcRefScan2
namespace Go.PH
open Go.RowKit Go.Proofs

set_option maxRecDepth 20000 in
set_option maxHeartbeats 1000000 in
theorem law_RecordScans (b : List UInt8) (w : World) (ht : TabAt w) (hg0 : 0 < w.heap.size) (hn : b.length ≤ 140737488351232) :
    Calls Tryd.prog 5 #[.string (str b)] w fun e w' => e = .returned (.bool true) ∧ Below w.heap.size w w' := by
  have hss := str_size b
  by_cases h5 : 5000 < b.length
  · have hd : (5000 : Int) < ((str b).size : Int) := by omega
    clear hss
    go_enter Tryd.func5, Tryd.ntmps5
    go_wp2_with (first | (with_reducible refine hold_append ?_) | (with_reducible refine hold_make ?_) | (with_reducible refine hold_copy ?_))
    refine (head_any w ht hg0).mono ?_
    rintro e w4 ⟨rfl, hB5⟩
    go_wp2_with (first | (with_reducible refine hold_append ?_) | (with_reducible refine hold_make ?_) | (with_reducible refine hold_copy ?_))
    go_ret
    exact ⟨rfl, hB5⟩
  · have hd : ¬ (5000 : Int) < ((str b).size : Int) := by omega
    have hs1 := rcscan_any b w ht hg0 (by omega)
    have hs2 := fun W => rrscan_any b W (by omega)
    have hle := rcScan_le b
    obtain ⟨⟨l, u, s⟩, hx⟩ : ∃ x, x = rcScan b := ⟨_, rfl⟩
    rw [← hx] at hs1 hs2 hle
    simp only at hs1 hs2 hle
    obtain ⟨N, hN⟩ : ∃ N, N = l.length := ⟨_, rfl⟩
    rw [← hN] at hs1 hs2 hle
    clear hx hss hN
    have hq1 : ((u : Int) == (u : Int)) = true := by simp
    have hq2 : ((s : Int) == (s : Int)) = true := by simp
    have hws : IntKind.i64.wrap (s : Int) = (s : Int) := IntWalk.i64_in _ ⟨by omega, by omega⟩
    go_enter Tryd.func5, Tryd.ntmps5
    go_wp2_with (first | (with_reducible refine hold_append ?_) | (with_reducible refine hold_make ?_) | (with_reducible refine hold_copy ?_))
    refine hs1.mono ?_
    rintro e w1 ⟨A1, c1, rfl, ho1, hB1⟩
    have hz1 := hB1.size
    clear hs1
    go_wp2_with (first | (with_reducible refine hold_append ?_) | (with_reducible refine hold_make ?_) | (with_reducible refine hold_copy ?_))
    refine (hs2 w1).mono ?_
    rintro e w2 ⟨A2, c2, rfl, ho2, hB2⟩
    have ho12 : OwnR w2 w.heap.size A1 N c1 l := own_below ho1 hB2
    have hB3 := hB1.trans (hB2.mono hz1)
    have hsm := rsame_any A1 N c1 l A2 N c2 l w2.heap.size w2 ho12.rd ho2.rd (Nat.le_refl _) (by omega) (by omega)
    rw [decide_eq_true rfl] at hsm
    clear hs2 hB1 hB2 ho1 ho2 ho12
    go_wp2_with (first | (with_reducible refine hold_append ?_) | (with_reducible refine hold_make ?_) | (with_reducible refine hold_copy ?_))
    refine hsm.mono ?_
    rintro e w3 ⟨rfl, hB4⟩
    have hB5 := hB3.trans (hB4.mono hB3.size)
    go_wp2_with (first | (with_reducible refine hold_append ?_) | (with_reducible refine hold_make ?_) | (with_reducible refine hold_copy ?_))
    refine (head_any w3 (ht.below hB5 hg0) (Nat.lt_of_lt_of_le hg0 hB5.size)).mono ?_
    rintro e w4 ⟨rfl, hB6⟩
    have hB7 := hB5.trans (hB6.mono hB5.size)
    go_wp2_with (first | (with_reducible refine hold_append ?_) | (with_reducible refine hold_make ?_) | (with_reducible refine hold_copy ?_))
    go_ret
    exact ⟨rfl, hB7⟩
end Go.PH

/- RecordPuts: for every input of the form's own reach the law returns true and writes nothing that was there. Condition: the listed table reads as its numbers. -/
import Derived.Test.YtcfdgndigmcacaaDoorRcHead
import Derived.Test.YtcfdgndigmcacaaDoorRcRefPut2
namespace Go.PH
open Go.RowKit Go.Proofs

set_option maxRecDepth 20000 in
set_option maxHeartbeats 1000000 in
theorem law_RecordPuts (A : Option Addr) (n c : Nat) (l : List Rc) (w : World) (hr : RdR w w.heap.size A n c l) (hf : ∀ r ∈ l, r.wf ∧ r.data.length ≤ 140737488351232) (ht : TabAt w) (hg0 : 0 < w.heap.size) (hn : n ≤ 140737488351232) :
    Calls Tryd.prog 3 #[.slice A n c] w fun e w' => e = .returned (.bool true) ∧ Below w.heap.size w w' := by
  have hgr := great_any A n c l w hr (fun r h => (hf r h).2) hn
  cases hg : rcGreat l
  · rw [hg] at hgr
    have hng := rcGreat_no hg
    have hbl := rcBytes_len l
    have hp1 := rcput_any A n c l w hr hf hn ht hg0 (by omega)
    have hp2 := fun W hr => rrput_any A n c l W hr hf hn (by omega)
    generalize rcPut l = pl at *
    obtain ⟨sb, er⟩ := pl
    simp only at hp1 hp2
    clear hg hbl hng
    have hq : ((str sb).toList == (str sb).toList) = true := by simp
    have hq2 : ((er : Int) == (er : Int)) = true := by simp
    go_enter Tryd.func3, Tryd.ntmps3
    go_wp2_with (first | (with_reducible refine hold_append ?_) | (with_reducible refine hold_make ?_) | (with_reducible refine hold_copy ?_))
    refine hgr.mono ?_
    rintro e w1 ⟨rfl, rfl⟩
    go_wp2_with (first | (with_reducible refine hold_append ?_) | (with_reducible refine hold_make ?_) | (with_reducible refine hold_copy ?_))
    refine hp1.mono ?_
    rintro e w2 ⟨rfl, hB2⟩
    have hp2' := hp2 w2 ((hr.below hB2).more hB2.size)
    clear hp1 hp2
    go_wp2_with (first | (with_reducible refine hold_append ?_) | (with_reducible refine hold_make ?_) | (with_reducible refine hold_copy ?_))
    refine hp2'.mono ?_
    rintro e w3 ⟨rfl, hB3⟩
    have hB4 := hB2.trans (hB3.mono hB2.size)
    have hz4 := hB4.size
    go_wp2_with (first | (with_reducible refine hold_append ?_) | (with_reducible refine hold_make ?_) | (with_reducible refine hold_copy ?_))
    refine (head_any w3 (ht.below hB4 hg0) (Nat.lt_of_lt_of_le hg0 hz4)).mono ?_
    rintro e w4 ⟨rfl, hB5⟩
    have hB6 := hB4.trans (hB5.mono hz4)
    go_wp2_with (first | (with_reducible refine hold_append ?_) | (with_reducible refine hold_make ?_) | (with_reducible refine hold_copy ?_))
    go_ret
    exact ⟨rfl, hB6⟩
  · rw [hg] at hgr
    clear hg
    go_enter Tryd.func3, Tryd.ntmps3
    go_wp2_with (first | (with_reducible refine hold_append ?_) | (with_reducible refine hold_make ?_) | (with_reducible refine hold_copy ?_))
    refine hgr.mono ?_
    rintro e w1 ⟨rfl, rfl⟩
    go_wp2_with (first | (with_reducible refine hold_append ?_) | (with_reducible refine hold_make ?_) | (with_reducible refine hold_copy ?_))
    refine (head_any w1 ht hg0).mono ?_
    rintro e w4 ⟨rfl, hB5⟩
    go_wp2_with (first | (with_reducible refine hold_append ?_) | (with_reducible refine hold_make ?_) | (with_reducible refine hold_copy ?_))
    go_ret
    exact ⟨rfl, hB5⟩
end Go.PH

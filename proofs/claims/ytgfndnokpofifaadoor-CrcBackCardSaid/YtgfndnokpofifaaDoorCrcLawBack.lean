/- CrcBack: for every input of the form's own reach the law returns true and writes nothing that was there. Condition: the listed table reads as its numbers. -/
import Derived.Test.YtgfndnokpofifaaDoorCrcLawSeals
namespace Go.PH
open Go.RowKit Go.Proofs

set_option maxHeartbeats 1000000 in
theorem law_CrcBack (A : Option Addr) (n c : Nat) (l : List UInt8) (w : World) (hb : RdB w w.heap.size A n c l) (ht : TabAt w) (hg0 : 0 < w.heap.size) (hn : n ≤ 140737488351232) :
    Calls Tryd.prog 6 #[.slice A n c] w fun e w' => e = .returned (.bool true) ∧ Below w.heap.size w w' := by
  have hl := hb.length
  go_enter Tryd.func6, Tryd.ntmps6
  go_wp2_with (first | (with_reducible refine hold_append ?_) | (with_reducible refine hold_make ?_) | (with_reducible refine hold_copy ?_))
  refine (seal_any A n c l w hb ht hg0 (by omega)).mono ?_
  rintro e w1 ⟨A1, c1, rfl, ho1, hB1⟩
  have hz1 := hB1.size
  go_wp2_with (first | (with_reducible refine hold_append ?_) | (with_reducible refine hold_make ?_) | (with_reducible refine hold_copy ?_))
  refine (open_any A1 (n + 4) c1 (seal' l) w1 ho1.rd (ht.below hB1 hg0) (by omega) (by omega)).mono ?_
  rintro e w2 ⟨A2, c2, rfl, ho2, hB2⟩
  have hB2' := hB1.trans (hB2.mono hz1)
  have hz2 := hB2'.size
  have hop : opens (seal' l) = true := opens_seal l
  have hon : opn (seal' l) = l := by rw [opn_of hop, take_seal]
  rw [hop, hon, hl]
  rw [hon, hl] at ho2
  clear hop hon
  go_wp2_with (first | (with_reducible refine hold_append ?_) | (with_reducible refine hold_make ?_) | (with_reducible refine hold_copy ?_))
  have hr1 : RdB w2.drew w1.heap.size A1 (n + 4) c1 (seal' l) := (ho1.rd.below hB2).drew
  have hr2 : RdB w2.drew w2.heap.size A2 n c2 l := ho2.rd.drew
  have hr0 : RdB w2.drew w.heap.size A n c l := (hb.below hB2').drew
  have hc4 := hr1.cap
  have hcx1 : (n : Int) ≤ (c1 : Int) := by omega
  have hcut : RdB w2.drew w1.heap.size (if c1 = 0 then A1 else A1) n c1 l := by
    rw [ite_self]
    refine ⟨by simp [hl], by omega, hr1.max, fun hp => ?_⟩
    obtain ⟨b, off, e, hbb, hc⟩ := hr1.at_ (by omega)
    refine ⟨b, off, e, hbb, fun j u hu => hc j u ?_⟩
    rw [seal', List.map_append, List.getElem?_append_left (by have := (List.getElem?_eq_some_iff.1 hu).1; simpa using this)]
    exact hu
  have hcv0 := run_strB hr0
  have hcv1 := run_strB hcut
  have hcv2 := run_strB hr2
  rw [ite_self] at hcv1
  have hss : ((str l).toList == (str l).toList) = true := by simp
  have hwr : IntKind.i64.wrap ((n : Int) + 4) = (n : Int) + 4 := IntWalk.i64_in _ ⟨by omega, by omega⟩
  have ht2 : TabAt w2.drew := ht.below (below_drewN hB2' 1) hg0
  have hg2 : 0 < w2.drew.heap.size := Nat.lt_of_lt_of_le hg0 hz2
  go_region_held3 (fun w' => (convert 23 9 (.slice A n c)).run Tryd.prog w' = .ok (.string (str l)) w' ∧ (convert 23 9 (.slice A1 n c1)).run Tryd.prog w' = .ok (.string (str l)) w' ∧ (convert 23 9 (.slice A2 n c2)).run Tryd.prog w' = .ok (.string (str l)) w') (first | exact ⟨hcv0, hcv1, hcv2⟩ | exact ⟨run_strB (hr0.below (hB3.mono hz2)), run_strB hcut3, run_strB (hr2.below hB3)⟩)
    (first | (go_at_call 14; refine (head_any w2.drew ht2 hg2).mono ?_; rintro e w3 ⟨rfl, hB3⟩; have hcut3 := hcut.below (hB3.mono hB2.size); rw [ite_self] at hcut3))
  go_wp2
  go_ret
  exact ⟨rfl, hB2'.trans ((Below.drew (Below.refl _ _)).trans (hB3.mono hz2))⟩
end Go.PH

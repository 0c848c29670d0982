/- The walks of crc and of its reference: opening by the reference; the known answers; the laws. -/
import Derived.Test.YtcfdgndigmcacaaDoorCrcWalk2
import Derived.Test.YtcfdgndigmcacaaDoorRegion
namespace Go.PH
open Go.RowKit Go.Proofs


set_option maxHeartbeats 1000000 in
theorem ropen_any (A : Option Addr) (n c : Nat) (l : List UInt8) (w : World) (hb : RdB w w.heap.size A n c l) (hn : n ≤ 140737488351236) :
    Calls Tryd.prog 33 #[.slice A n c] w fun e w' => ∃ A2 c2, e = .returned (.tuple #[.slice A2 (opn l).length c2, .bool (opens l)]) ∧ Own w' w.heap.size 5 1 A2 (opn l).length c2 ((opn l).map u8v) ∧ Below w.heap.size w w' := by
  have hl := hb.length
  by_cases h4 : n < 4
  · have e1 : opens l = false := opens_short (by omega)
    rw [opn_no e1, e1]
    clear e1
    go_enter Tryd.func33, Tryd.ntmps33
    go_wp2_with (first | (with_reducible refine hold_append ?_) | (with_reducible refine hold_make ?_) | (with_reducible refine hold_copy ?_))
    go_ret2
    exact ⟨none, 0, rfl, Own.none_ _ _ _ _, Below.refl _ _⟩
  · go_enter Tryd.func33, Tryd.ntmps33
    go_wp2_with (first | (with_reducible refine hold_append ?_) | (with_reducible refine hold_make ?_) | (with_reducible refine hold_copy ?_) | (with_reducible refine hold_slice ?_))
    refine unhold (wp_cut slB rfl rfl rfl hb 0 (n - 4) c (.inl ⟨rfl, rfl⟩) (.inr ⟨_, _, rfl, by omega⟩) (.inl ⟨rfl, rfl⟩) (by simp) (by omega) (by have := hb.cap; omega) (by omega) (by omega) ?_)
    intro A1 hr1
    simp only [Nat.zero_mul, Nat.mul_one, List.drop_zero, ← List.map_take, Nat.sub_zero] at hr1
    go_wp2_with (first | (with_reducible refine hold_append ?_) | (with_reducible refine hold_make ?_) | (with_reducible refine hold_copy ?_) | (with_reducible refine hold_slice ?_))
    have hcv : ∀ wx : World, RdB wx w.heap.size A n c l → (convert 31 9 (.slice A n c)).run Tryd.prog wx = .ok (.string (str l)) wx := fun wx h => run_str Tryd.underlying31 Tryd.underlying9 Tryd.underlying5 h
    have hS : RdB w.drew w.heap.size A n c l := hb.drew
    refine rg_start (fun wx => RdB wx w.heap.size A n c l) (by kernel_rfl) ?_
    refine rg_take 0 (v := ?_) rfl (by kernel_rfl) (by kernel_rfl) (by kernel_rfl) hS rfl ?_ ?_
    rotate_left
    · intro wS hSw; go_simp; (with_reducible rfl)
    simp only [List.getElem_toArray, List.getElem_cons_zero, Act.put, List.setIfInBounds_toArray, List.set_cons_zero, List.set_cons_succ]
    refine rg_take 3 (v := ?_) rfl (by kernel_rfl) (by kernel_rfl) (by kernel_rfl) hS rfl ?_ ?_
    rotate_left
    · intro wS hSw; go_simp; (with_reducible rfl)
    simp only [List.getElem_toArray, List.getElem_cons_succ, List.getElem_cons_zero, Act.put, List.setIfInBounds_toArray, List.set_cons_zero, List.set_cons_succ]
    refine rg_take 4 (v := ?_) rfl (by kernel_rfl) (by kernel_rfl) (by kernel_rfl) hS rfl ?_ ?_
    rotate_left
    · intro wS hSw; have := hcv _ hSw; go_simp; (with_reducible rfl)
    simp only [List.getElem_toArray, List.getElem_cons_succ, List.getElem_cons_zero, Act.put, List.setIfInBounds_toArray, List.set_cons_zero, List.set_cons_succ]
    refine rg_one 1 rfl (by kernel_rfl) rfl (fun K hK => ?_)
    go_simp
    refine (rseal_any A1 (n - 4) c (l.take (n - 4)) w.drew hr1.drew (by omega)).mono ?_
    rintro e w1 ⟨A2, c2, rfl, ho1, hB1⟩
    have hS1 : RdB w1 w.heap.size A n c l := hb.drew.below hB1
    have hcv1 : (convert 31 9 (.slice A2 (n - 4 + 4) c2)).run Tryd.prog w1 = .ok (.string (str (seal' (l.take (n - 4))))) w1 := run_str Tryd.underlying31 Tryd.underlying9 Tryd.underlying5 ho1.rd
    refine hK _ _ hS1 ?_; clear hK K
    refine rg_one 2 rfl (by kernel_rfl) rfl (fun K hK => ?_)
    go_simp
    refine hK _ _ hS1 ?_; clear hK K
    have hio := opens_seal_iff (l := l) (by omega)
    rw [hl] at hio
    cases hop : opens l
    · have hne : (!(str (seal' (l.take (n - 4)))).toList == (str l).toList) = true := by
        rw [hop] at hio
        simp only [str_toList, Bool.not_eq_true', beq_eq_false_iff_ne]
        intro e
        exact Bool.false_ne_true (hio.2 e)
      have e0 := opn_no hop
      have E0 := Lib.hid e0
      have HOP := Lib.hid hop
      clear hio hcv hop e0
      refine rg_take 5 (v := ?_) rfl (by kernel_rfl) (by kernel_rfl) (by kernel_rfl) hS1 rfl ?_ ?_
      rotate_left
      · intro wS hSw; go_simp; (with_reducible rfl)
      simp only [List.getElem_toArray, List.getElem_cons_succ, List.getElem_cons_zero, Act.put, List.setIfInBounds_toArray, List.set_cons_zero, List.set_cons_succ]
      refine rg_end (by kernel_rfl) ?_
      go_wp2_with (first | (with_reducible refine hold_append ?_) | (with_reducible refine hold_make ?_) | (with_reducible refine hold_copy ?_))
      go_ret2
      exact ⟨none, 0, by rw [E0.out, HOP.out]; rfl, by rw [E0.out]; exact Own.none_ _ _ _ _, Below.trans (Below.drew (Below.refl _ _)) hB1⟩
    · have hne : (!(str (seal' (l.take (n - 4)))).toList == (str l).toList) = false := by
        rw [hop] at hio
        simp only [str_toList, Bool.not_eq_false', beq_iff_eq]
        exact hio.1 rfl
      have e0 := opn_of hop
      rw [hl] at e0
      have hB1' : Below w.heap.size w w1 := Below.trans (Below.drew (Below.refl _ _)) hB1
      have hr2 := hr1.drew.below hB1
      have E0 := Lib.hid e0
      have HOP := Lib.hid hop
      clear hio hcv hop e0
      refine rg_take 5 (v := ?_) rfl (by kernel_rfl) (by kernel_rfl) (by kernel_rfl) hS1 rfl ?_ ?_
      rotate_left
      · intro wS hSw; go_simp; (with_reducible rfl)
      simp only [List.getElem_toArray, List.getElem_cons_succ, List.getElem_cons_zero, Act.put, List.setIfInBounds_toArray, List.set_cons_zero, List.set_cons_succ]
      refine rg_end (by kernel_rfl) ?_
      go_wp2_with (first | (with_reducible refine hold_append ?_) | (with_reducible refine hold_make ?_) | (with_reducible refine hold_copy ?_))
      refine unhold (wp_app slB rfl rfl rfl rfl (Own.none_ w1 w.heap.size _ _) hr2 (map_one _) (by omega) (by simp [maxLen]; omega) hB1'.size ?_)
      intro A3 c3 w3 ho3 hg3 _
      have hB3 := hB1'.grown hg3 hB1'.size (by simp [blk])
      simp only [Nat.zero_add, List.nil_append] at ho3
      go_wp2_with (first | (with_reducible refine hold_append ?_) | (with_reducible refine hold_make ?_) | (with_reducible refine hold_copy ?_))
      go_ret2
      have hlen : (opn l).length = n - 4 := by rw [E0.out, List.length_take]; omega
      refine ⟨A3, c3, ?_, ?_, hB3⟩
      · rw [hlen, HOP.out]; rfl
      · rw [hlen, E0.out]; exact ho3
end Go.PH

/- CrcSeals, CrcOpens: for every input of the form's own reach the laws return true and write nothing that was there. Condition: the listed table reads as its numbers. -/
import Derived.Test.YtgfndnokpofifaaDoorCrcHead
namespace Go.PH
open Go.RowKit Go.Proofs

theorem run_strB {w : World} {A : Option Addr} {n c B : Nat} {l : List UInt8} (h : RdB w B A n c l) : (convert 23 9 (.slice A n c)).run Tryd.prog w = .ok (.string (str l)) w :=
  run_str Tryd.underlying23 Tryd.underlying9 Tryd.underlying5 h

set_option maxHeartbeats 1000000 in
theorem law_CrcSeals (A : Option Addr) (n c : Nat) (l : List UInt8) (w : World) (hb : RdB w w.heap.size A n c l) (ht : TabAt w) (hg0 : 0 < w.heap.size) (hn : n ≤ 140737488351232) :
    Calls Tryd.prog 4 #[.slice A n c] w fun e w' => e = .returned (.bool true) ∧ Below w.heap.size w w' := by
  have hl := hb.length
  go_enter Tryd.func4, Tryd.ntmps4
  go_wp2_with (first | (with_reducible refine hold_append ?_) | (with_reducible refine hold_make ?_) | (with_reducible refine hold_copy ?_))
  refine unhold (wp_app slB rfl rfl rfl rfl (Own.none_ w w.heap.size _ _) hb (map_one l) (by omega) (by simp [maxLen]; omega) (Nat.le_refl _) ?_)
  intro A1 c1 w1 ho1 hg1 _
  have hB1 : Below w.heap.size w w1 := (Below.refl _ _).grown hg1 (Nat.le_refl _) (by simp [blk])
  simp only [Nat.zero_add, List.nil_append] at ho1
  have hz1 := hB1.size
  go_wp2_with (first | (with_reducible refine hold_append ?_) | (with_reducible refine hold_make ?_) | (with_reducible refine hold_copy ?_))
  refine (seal_any A1 n c1 l w1 ho1.rd (ht.below hB1 hg0) (by omega) (by omega)).mono ?_
  rintro e w2 ⟨A2, c2, rfl, ho2, hB2⟩
  have hB2' := hB1.trans (hB2.mono hz1)
  have hz2 := hB2'.size
  have hr2 := ho2.rd
  have hb2 := hb.below hB2'
  have hcv2 := run_strB hr2.drew
  go_wp2_with (first | (with_reducible refine hold_append ?_) | (with_reducible refine hold_make ?_) | (with_reducible refine hold_copy ?_))
  have hS : RdB w2.drew w2.heap.size A2 (n + 4) c2 (seal' l) := hr2.drew
  refine rg_start (fun wx => RdB wx w2.heap.size A2 (n + 4) c2 (seal' l)) (by kernel_rfl) ?_
  refine rg_take 0 (v := ?_) rfl (by kernel_rfl) (by kernel_rfl) (by kernel_rfl) hS rfl ?_ ?_
  rotate_left
  · intro wS hSw; go_simp; (with_reducible rfl)
  simp only [List.getElem_toArray, List.getElem_cons_succ, List.getElem_cons_zero, Act.put, List.setIfInBounds_toArray, List.set_cons_zero, List.set_cons_succ]
  refine rg_take 1 (v := ?_) rfl (by kernel_rfl) (by kernel_rfl) (by kernel_rfl) hS rfl ?_ ?_
  rotate_left
  · intro wS hSw; have := run_strB hSw; go_simp; (with_reducible rfl)
  simp only [List.getElem_toArray, List.getElem_cons_succ, List.getElem_cons_zero, Act.put, List.setIfInBounds_toArray, List.set_cons_zero, List.set_cons_succ]
  refine rg_take 2 (v := ?_) rfl (by kernel_rfl) (by kernel_rfl) (by kernel_rfl) hS rfl ?_ ?_
  rotate_left
  · intro wS hSw; go_simp; (with_reducible rfl)
  simp only [List.getElem_toArray, List.getElem_cons_succ, List.getElem_cons_zero, Act.put, List.setIfInBounds_toArray, List.set_cons_zero, List.set_cons_succ]
  refine rg_one 3 rfl (by kernel_rfl) rfl (fun K hK => ?_)
  go_simp
  refine (rseal_any A n c l w2.drew (hb2.drew.more hz2) hn).mono ?_
  rintro e w3 ⟨A3, c3, rfl, ho3, hB3⟩
  have hS3 : RdB w3 w2.heap.size A2 (n + 4) c2 (seal' l) := hr2.drew.below hB3
  have hcv3 := run_strB ho3.rd
  refine hK _ _ hS3 ?_; clear hK K
  refine rg_one 4 rfl (by kernel_rfl) rfl (fun K hK => ?_)
  go_simp
  refine hK _ _ hS3 ?_; clear hK K
  refine rg_take 5 (v := ?_) rfl (by kernel_rfl) (by kernel_rfl) (by kernel_rfl) hS3 rfl ?_ ?_
  rotate_left
  · intro wS hSw; go_simp; (with_reducible rfl)
  simp only [List.getElem_toArray, List.getElem_cons_succ, List.getElem_cons_zero, Act.put, List.setIfInBounds_toArray, List.set_cons_zero, List.set_cons_succ]
  refine rg_end (by kernel_rfl) ?_
  have ho2' : Own w3 w1.heap.size 5 1 A2 (n + 4) c2 ((seal' l).map u8v) := ho2.kept (row := none) (w' := w3) ⟨hB3.os, hB3.tape, hB3.output, hB3.size, fun k hk _ => hB3.block k hk⟩ (by cases hv : (Value.slice A2 (n + 4) c2).ownBlock <;> simp)
  have hB13 : Below w1.heap.size w1 w3 := hB2.trans ((Below.drew (Below.refl _ _)).trans (hB3.mono hB2.size))
  clear hcv2 hcv3 hS hS3 ho2 ho3 hr2 hb2
  go_wp2_with (first | (with_reducible refine hold_append ?_) | (with_reducible refine hold_make ?_) | (with_reducible refine hold_copy ?_))
  go_loopw [5] (fun i wr => ∃ (k : Nat) (l' : List UInt8), k ≤ n + 4 ∧ i = .int .i64 k ∧ Own wr w1.heap.size 5 1 A2 (n + 4) c2 (l'.map u8v) ∧ Below w1.heap.size w1 wr) (fun i _ => n + 4 - (intOf i).toNat)
  case atStart => exact ⟨0, _, by omega, rfl, ho2', hB13⟩
  case round =>
    obtain ⟨k, l', hk, rfl, ho, hB⟩ := hrel
    by_cases hlt : k < n + 4
    · obtain ⟨g, rfl, hbg, hgl, hkl, hcell, hfr, hst⟩ := OwnB.at_k ho hlt
      go_wp2
      have h1 := hst (l'[k] + 1)
      rw [u8v_add1] at h1
      exact ⟨⟨k + 1, _, by omega, by go_num, h1, hB.setCell hbg _⟩, by simp [intOf]; omega⟩
    · have hcv1 := run_strB ((ho1.rd).below hB)
      have hBw := hB1.trans (hB.mono hz1)
      have hcvb := run_strB (hb.below hBw)
      go_wp2_with (first | (with_reducible refine hold_append ?_) | (with_reducible refine hold_make ?_) | (with_reducible refine hold_copy ?_))
      refine (head_any wr (ht.below hBw hg0) (Nat.lt_of_lt_of_le hg0 hBw.size)).mono ?_
      rintro e w4 ⟨rfl, hB4⟩
      go_wp2_with (first | (with_reducible refine hold_append ?_) | (with_reducible refine hold_make ?_) | (with_reducible refine hold_copy ?_))
      go_ret
      exact ⟨rfl, hBw.trans (hB4.mono hBw.size)⟩

set_option maxHeartbeats 1000000 in
theorem law_CrcOpens (A : Option Addr) (n c : Nat) (l : List UInt8) (w : World) (hb : RdB w w.heap.size A n c l) (ht : TabAt w) (hg0 : 0 < w.heap.size) (hn : n ≤ 140737488351232) :
    Calls Tryd.prog 5 #[.slice A n c] w fun e w' => e = .returned (.bool true) ∧ Below w.heap.size w w' := by
  have hl := hb.length
  go_enter Tryd.func5, Tryd.ntmps5
  go_wp2_with (first | (with_reducible refine hold_append ?_) | (with_reducible refine hold_make ?_) | (with_reducible refine hold_copy ?_))
  refine unhold (wp_app slB rfl rfl rfl rfl (Own.none_ w w.heap.size _ _) hb (map_one l) (by omega) (by simp [maxLen]; omega) (Nat.le_refl _) ?_)
  intro A1 c1 w1 ho1 hg1 _
  have hB1 : Below w.heap.size w w1 := (Below.refl _ _).grown hg1 (Nat.le_refl _) (by simp [blk])
  simp only [Nat.zero_add, List.nil_append] at ho1
  have hz1 := hB1.size
  go_wp2_with (first | (with_reducible refine hold_append ?_) | (with_reducible refine hold_make ?_) | (with_reducible refine hold_copy ?_))
  refine (open_any A1 n c1 l w1 ho1.rd (ht.below hB1 hg0) (by omega) (by omega)).mono ?_
  rintro e w2 ⟨A2, c2, rfl, ho2, hB2⟩
  have hB2' := hB1.trans (hB2.mono hz1)
  have hz2 := hB2'.size
  obtain ⟨m, hm⟩ : ∃ m, m = (opn l).length := ⟨_, rfl⟩
  obtain ⟨is, his⟩ : ∃ is, is = opens l := ⟨_, rfl⟩
  rw [← hm] at ho2 ⊢
  rw [← his]
  go_wp2_with (first | (with_reducible refine hold_append ?_) | (with_reducible refine hold_make ?_) | (with_reducible refine hold_copy ?_))
  refine (ropen_any A n c l w2 ((hb.below hB2').more hz2) (by omega)).mono ?_
  rintro e w3 ⟨A3, c3, rfl, ho3, hB3⟩
  rw [← hm] at ho3 ⊢
  rw [← his]
  have hM := Lib.hid hm
  clear hm his
  have ho2' : Own w3 w1.heap.size 5 1 A2 m c2 ((opn l).map u8v) := ho2.kept (row := none) (w' := w3) ⟨hB3.os, hB3.tape, hB3.output, hB3.size, fun k hk _ => hB3.block k hk⟩ (by cases hv : (Value.slice A2 m c2).ownBlock <;> simp)
  have hB13 : Below w1.heap.size w1 w3 := hB2.trans (hB3.mono hB2.size)
  have hcv2 := run_strB ho2'.rd
  have hcv3 := run_strB ho3.rd
  have hne : (is != is) = false := by simp
  have hne2 : (!(str (opn l)).toList == (str (opn l)).toList) = false := by simp
  go_wp2_with (first | (with_reducible refine hold_append ?_) | (with_reducible refine hold_make ?_) | (with_reducible refine hold_copy ?_))
  go_loopw [8] (fun i wr => ∃ (k : Nat) (l' : List UInt8), k ≤ m ∧ i = .int .i64 k ∧ Own wr w1.heap.size 5 1 A2 m c2 (l'.map u8v) ∧ Below w1.heap.size w1 wr) (fun i _ => m - (intOf i).toNat)
  case atStart => exact ⟨0, _, by omega, rfl, ho2', hB13⟩
  case round =>
    obtain ⟨k, l', hk, rfl, ho, hB⟩ := hrel
    have hml : m ≤ n := by rw [hM.out]; unfold opn; split <;> simp; omega
    clear hcv2 hcv3
    by_cases hlt : k < m
    · obtain ⟨g, rfl, hbg, hgl, hkl, hcell, hfr, hst⟩ := OwnB.at_k ho hlt
      go_wp2
      have h1 := hst (l'[k] + 1)
      rw [u8v_add1] at h1
      exact ⟨⟨k + 1, _, by omega, by go_num, h1, hB.setCell hbg _⟩, by simp [intOf]; omega⟩
    · have hcv1 := run_strB ((ho1.rd).below hB)
      have hBw := hB1.trans (hB.mono hz1)
      have hcvb := run_strB (hb.below hBw)
      go_wp2_with (first | (with_reducible refine hold_append ?_) | (with_reducible refine hold_make ?_) | (with_reducible refine hold_copy ?_))
      refine (head_any wr (ht.below hBw hg0) (Nat.lt_of_lt_of_le hg0 hBw.size)).mono ?_
      rintro e w4 ⟨rfl, hB4⟩
      go_wp2_with (first | (with_reducible refine hold_append ?_) | (with_reducible refine hold_make ?_) | (with_reducible refine hold_copy ?_))
      go_ret
      exact ⟨rfl, hBw.trans (hB4.mono hBw.size)⟩
end Go.PH

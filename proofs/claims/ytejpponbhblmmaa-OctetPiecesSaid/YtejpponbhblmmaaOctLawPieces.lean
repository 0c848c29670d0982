/- OctetPieces: for every input of the form's own reach the law returns true and writes nothing that was there. -/
import Derived.Test.YtejpponbhblmmaaOctHead
namespace Go.PH
open Go.RowKit Go.Proofs

theorem str_bne_self (l : List UInt8) : (!((str l).toList == (str l).toList)) = false := by simp
set_option maxHeartbeats 1000000 in
theorem law_OctetPieces (A : Option Addr) (n c : Nat) (l : List UInt8) (A' : Option Addr) (n' c' : Nat) (l' : List UInt8) (w : World) (hb : RdB w w.heap.size A n c l) (hb' : RdB w w.heap.size A' n' c' l') (hn : n ≤ 140737488351232) (hn' : n' ≤ 140737488351232) :
    Calls Try.prog 4 #[.slice A n c, .slice A' n' c'] w fun e w' => e = .returned (.bool true) ∧ Below w.heap.size w w' := by
  have hl := hb.length
  have hl' := hb'.length
  have hcap := hb.cap
  go_enter Try.func4, Try.ntmps4
  go_wp2_with (first | (with_reducible refine hold_append ?_) | (with_reducible refine hold_make ?_) | (with_reducible refine hold_copy ?_))
  refine (rdopen_any A n c l w hb (by omega)).mono ?_
  rintro e w1 ⟨rb, b, rfl, hrb, hbb, hR, hB⟩
  go_wp2_with (first | (with_reducible refine hold_append ?_) | (with_reducible refine hold_make ?_) | (with_reducible refine hold_copy ?_))
  go_loopw [7, 6] (fun i s wr => ∃ k at_ : Nat, k ≤ n' ∧ k ≤ 100 ∧ i = .int .i64 k ∧ s = .int .i64 at_ ∧ at_ ≤ n ∧ Rdr wr (.pointer (some ⟨rb, 0, none⟩)) (some b) (l.drop at_) false ∧ Below w.heap.size w wr) (fun i _ _ => n' - (intOf i).toNat)
  case atStart => exact ⟨0, 0, by omega, by omega, rfl, rfl, by omega, by simpa using hR, hB⟩
  case round =>
    obtain ⟨k, at_, hk, hk1, rfl, rfl, hat, hR, hB⟩ := hrel
    by_cases hlt : k < n'
    · by_cases h100 : k < 100
      · obtain ⟨b2, off2, rfl, hb2, hkl, hcell⟩ := RdB.at_k (hb'.below hB) (k := k) hlt
        have hby := l'[k].toNat_lt
        obtain ⟨m, hm⟩ : ∃ m : Nat, m = l'[k].toNat := ⟨_, rfl⟩
        rw [← hm] at hcell hby
        clear hm
        have hT := rdtake_any hR (m : Int) (by omega) (by omega)
        have hdl : (l.drop at_).length = n - at_ := by rw [List.length_drop, hl]
        by_cases hlong : n - at_ < m
        · have hlong' : (n : Int) - (at_ : Int) < (m : Int) := by omega
          have e1 : mtake (l.drop at_) false (m : Int) = ([], [], true) := mtake_no (.inr (.inr (by rw [hdl]; omega)))
          rw [e1] at hT
          simp only [List.length_nil] at hT
          go_wp2_with (first | (with_reducible refine hold_append ?_) | (with_reducible refine hold_make ?_) | (with_reducible refine hold_copy ?_))
          refine hT.mono ?_
          rintro e w2 ⟨A2, c2, rfl, ho2, hR2, hg2⟩
          have hB2 := hB.grown hg2 hB.size (by rintro g ⟨rfl⟩; exact hbb)
          go_wp2_with (first | (with_reducible refine hold_append ?_) | (with_reducible refine hold_make ?_) | (with_reducible refine hold_copy ?_))
          refine (rdbad_any hR2).mono ?_
          rintro e w3 ⟨rfl, rfl⟩
          go_wp2_with (first | (with_reducible refine hold_append ?_) | (with_reducible refine hold_make ?_) | (with_reducible refine hold_copy ?_))
          refine (rdleft_any hR2).mono ?_
          rintro e w3 ⟨rfl, rfl⟩
          simp only [List.length_nil]
          go_wp2_with (first | (with_reducible refine hold_append ?_) | (with_reducible refine hold_make ?_) | (with_reducible refine hold_copy ?_))
          refine (head_any w3).mono ?_
          rintro e w4 ⟨rfl, hB4⟩
          go_wp2_with (first | (with_reducible refine hold_append ?_) | (with_reducible refine hold_make ?_) | (with_reducible refine hold_copy ?_))
          go_ret
          exact ⟨rfl, hB2.trans (hB4.mono hB2.size)⟩
        · have hlong' : ¬ (n : Int) - (at_ : Int) < (m : Int) := by omega
          have e1 : mtake (l.drop at_) false (m : Int) = ((l.drop at_).take m, (l.drop at_).drop m, false) := mtake_yes (by rw [hdl]; omega)
          rw [e1] at hT
          simp only [List.length_take, hdl, Nat.min_eq_left (Nat.le_of_not_lt hlong), List.drop_drop] at hT
          go_wp2_with (first | (with_reducible refine hold_append ?_) | (with_reducible refine hold_make ?_) | (with_reducible refine hold_copy ?_))
          refine hT.mono ?_
          rintro e w2 ⟨A2, c2, rfl, ho2, hR2, hg2⟩
          have hB2 := hB.grown hg2 hB.size (by rintro g ⟨rfl⟩; exact hbb)
          have hr2 : RdB w2 w2.heap.size A2 m c2 ((l.drop at_).take m) := ho2.rd
          have hrb := (hb.below hB2).more hB2.size
          have hS : RdB w2.drew w2.heap.size A2 m c2 ((l.drop at_).take m) ∧ RdB w2.drew w2.heap.size A n c l := ⟨hr2.drew, hrb.drew⟩
          have hw1 : IntKind.i64.wrap ((at_ : Int) + (m : Int)) = (at_ : Int) + (m : Int) := IntWalk.i64_in _ ⟨by omega, by omega⟩
          have hcv8 := fun (wS : World) (h : RdB wS w2.heap.size A n c l) => run_strB (h.cut (lo := at_) (k := m) (by omega))
          have hcut : ∀ wS : World, (Instr.sliceAt 22 (.slice A n c) (some (.int .i64 (at_ : Int))) (some (.int .i64 ((at_ : Int) + (m : Int)))) none).run Try.prog wS = .ok (.slice (cutA A 1 at_ c) m (c - at_)) wS := fun wS => by
            have := run_cutA (A := A) slB wS hb.max hb.cap (lo := some (.int .i64 (at_ : Int))) (hi := some (.int .i64 ((at_ : Int) + (m : Int)))) (mx := none) at_ (at_ + m) c (.inr ⟨_, _, rfl, rfl⟩) (.inr ⟨_, _, rfl, by omega⟩) (.inl ⟨rfl, rfl⟩) (by intro h; rfl) (by omega) (by omega) (Nat.le_refl _) (by omega)
            rwa [Nat.add_sub_cancel_left] at this
          go_wp2_with (first | (with_reducible refine hold_append ?_) | (with_reducible refine hold_make ?_) | (with_reducible refine hold_copy ?_))
          refine rg_start (fun wx => RdB wx w2.heap.size A2 m c2 ((l.drop at_).take m) ∧ RdB wx w2.heap.size A n c l) (by kernel_rfl) ?_
          refine rg_take 0 (v := ?_) rfl (by kernel_rfl) (by kernel_rfl) (by kernel_rfl) hS rfl ?_ ?_
          rotate_left
          · intro wS hSw; go_simp; (with_reducible rfl)
          simp only [List.getElem_toArray, List.getElem_cons_succ, List.getElem_cons_zero, Act.put, List.setIfInBounds_toArray, List.set_cons_zero, List.set_cons_succ]
          refine rg_take 1 (v := ?_) rfl (by kernel_rfl) (by kernel_rfl) (by kernel_rfl) hS rfl ?_ ?_
          rotate_left
          · intro wS hSw; have := run_strB hSw.1; go_simp; (with_reducible rfl)
          simp only [List.getElem_toArray, List.getElem_cons_succ, List.getElem_cons_zero, Act.put, List.setIfInBounds_toArray, List.set_cons_zero, List.set_cons_succ]
          refine rg_take 2 (v := ?_) rfl (by kernel_rfl) (by kernel_rfl) (by kernel_rfl) hS rfl ?_ ?_
          rotate_left
          · intro wS hSw; go_simp; (with_reducible rfl)
          simp only [List.getElem_toArray, List.getElem_cons_succ, List.getElem_cons_zero, Act.put, List.setIfInBounds_toArray, List.set_cons_zero, List.set_cons_succ]
          refine rg_take 3 (v := ?_) rfl (by kernel_rfl) (by kernel_rfl) (by kernel_rfl) hS rfl ?_ ?_
          rotate_left
          · intro wS hSw; go_simp; (with_reducible rfl)
          simp only [List.getElem_toArray, List.getElem_cons_succ, List.getElem_cons_zero, Act.put, List.setIfInBounds_toArray, List.set_cons_zero, List.set_cons_succ]
          refine rg_take 4 (v := ?_) rfl (by kernel_rfl) (by kernel_rfl) (by kernel_rfl) hS rfl ?_ ?_
          rotate_left
          · intro wS hSw; go_simp; (with_reducible rfl)
          simp only [List.getElem_toArray, List.getElem_cons_succ, List.getElem_cons_zero, Act.put, List.setIfInBounds_toArray, List.set_cons_zero, List.set_cons_succ]
          refine rg_take 5 (v := ?_) rfl (by kernel_rfl) (by kernel_rfl) (by kernel_rfl) hS rfl ?_ ?_
          rotate_left
          · intro wS hSw; go_simp; (with_reducible rfl)
          simp only [List.getElem_toArray, List.getElem_cons_succ, List.getElem_cons_zero, Act.put, List.setIfInBounds_toArray, List.set_cons_zero, List.set_cons_succ]
          refine rg_take 6 (v := ?_) rfl (by kernel_rfl) (by kernel_rfl) (by kernel_rfl) hS rfl ?_ ?_
          rotate_left
          · intro wS hSw; go_simp; (with_reducible rfl)
          simp only [List.getElem_toArray, List.getElem_cons_succ, List.getElem_cons_zero, Act.put, List.setIfInBounds_toArray, List.set_cons_zero, List.set_cons_succ]
          refine rg_take 7 (v := ?_) rfl (by kernel_rfl) (by kernel_rfl) (by kernel_rfl) hS rfl ?_ ?_
          rotate_left
          · intro wS hSw; have := hcut wS; go_simp; (with_reducible rfl)
          simp only [List.getElem_toArray, List.getElem_cons_succ, List.getElem_cons_zero, Act.put, List.setIfInBounds_toArray, List.set_cons_zero, List.set_cons_succ]
          refine rg_take 8 (v := ?_) rfl (by kernel_rfl) (by kernel_rfl) (by kernel_rfl) hS rfl ?_ ?_
          rotate_left
          · intro wS hSw; have := hcv8 wS hSw.2; go_simp; (with_reducible rfl)
          simp only [List.getElem_toArray, List.getElem_cons_succ, List.getElem_cons_zero, Act.put, List.setIfInBounds_toArray, List.set_cons_zero, List.set_cons_succ]
          refine rg_take 9 (v := ?_) rfl (by kernel_rfl) (by kernel_rfl) (by kernel_rfl) hS rfl ?_ ?_
          rotate_left
          · intro wS hSw; go_simp; (with_reducible rfl)
          simp only [List.getElem_toArray, List.getElem_cons_succ, List.getElem_cons_zero, Act.put, List.setIfInBounds_toArray, List.set_cons_zero, List.set_cons_succ]
          refine rg_take 10 (v := ?_) rfl (by kernel_rfl) (by kernel_rfl) (by kernel_rfl) hS rfl ?_ ?_
          rotate_left
          · intro wS hSw; go_simp; (with_reducible rfl)
          simp only [List.getElem_toArray, List.getElem_cons_succ, List.getElem_cons_zero, Act.put, List.setIfInBounds_toArray, List.set_cons_zero, List.set_cons_succ]
          refine rg_take 11 (v := ?_) rfl (by kernel_rfl) (by kernel_rfl) (by kernel_rfl) hS rfl ?_ ?_
          rotate_left
          · intro wS hSw; go_simp; (with_reducible rfl)
          simp only [List.getElem_toArray, List.getElem_cons_succ, List.getElem_cons_zero, Act.put, List.setIfInBounds_toArray, List.set_cons_zero, List.set_cons_succ]
          refine rg_one 12 rfl (by kernel_rfl) rfl (fun K hK => ?_)
          go_simp
          refine (rdbad_any hR2.drew).mono ?_
          rintro e w3 ⟨rfl, rfl⟩
          refine hK _ _ hS ?_; clear hK K
          refine rg_take 13 (v := ?_) rfl (by kernel_rfl) (by kernel_rfl) (by kernel_rfl) hS rfl ?_ ?_
          rotate_left
          · intro wS hSw; go_simp; (with_reducible rfl)
          simp only [List.getElem_toArray, List.getElem_cons_succ, List.getElem_cons_zero, Act.put, List.setIfInBounds_toArray, List.set_cons_zero, List.set_cons_succ]
          refine rg_end (by kernel_rfl) ?_
          have hB3 := below_drewN hB2 1
          have hR3 := hR2.drew
          go_wp2_with (first | (with_reducible refine hold_append ?_) | (with_reducible refine hold_make ?_) | (with_reducible refine hold_copy ?_))
          refine (rdleft_any hR3).mono ?_
          rintro e w3 ⟨rfl, rfl⟩
          simp only [List.length_drop, hl]
          go_wp2_with (first | (with_reducible refine hold_append ?_) | (with_reducible refine hold_make ?_) | (with_reducible refine hold_copy ?_))
          exact ⟨⟨k + 1, at_ + m, by omega, by omega, by go_num, by go_num, by omega, hR3, hB3⟩, by simp [intOf]; omega⟩
      · obtain rfl : k = 100 := by omega
        go_wp2_with (first | (with_reducible refine hold_append ?_) | (with_reducible refine hold_make ?_) | (with_reducible refine hold_copy ?_))
        refine (head_any wr).mono ?_
        rintro e w4 ⟨rfl, hB4⟩
        go_wp2_with (first | (with_reducible refine hold_append ?_) | (with_reducible refine hold_make ?_) | (with_reducible refine hold_copy ?_))
        go_ret
        exact ⟨rfl, hB.trans (hB4.mono hB.size)⟩
    · have hkn : ¬ (k : Int) < (n' : Int) := by omega
      go_wp2_with (first | (with_reducible refine hold_append ?_) | (with_reducible refine hold_make ?_) | (with_reducible refine hold_copy ?_))
      refine (head_any wr).mono ?_
      rintro e w4 ⟨rfl, hB4⟩
      go_wp2_with (first | (with_reducible refine hold_append ?_) | (with_reducible refine hold_make ?_) | (with_reducible refine hold_copy ?_))
      go_ret
      exact ⟨rfl, hB.trans (hB4.mono hB.size)⟩
end Go.PH

/- FrameAgain: for every input of the form's own reach the law returns true and writes nothing that was there. -/
import Derived.Test.YtgjdpgihehpecaaFrHead
import Derived.Test.YtgjdpgihehpecaaFrBytes
import Derived.Test.YtgjdpgihehpecaaFrScanMath3
import Derived.Test.YtgjdpgihehpecaaRegion2
namespace Go.PH
open Go.RowKit Go.Proofs

theorem frScan_wf (b : List UInt8) : ∀ f ∈ (frScan b).1, f.wf ∧ f.load.length ≤ 140737488351232 := by
  induction hn : b.length using Nat.strongRecOn generalizing b with
  | ind n ih =>
    subst hn
    by_cases hw : frWell b = false
    · rw [frScan_bad hw]; simp
    · have hw1 : frWell b = true := by simpa using hw
      by_cases h12 : b.length < 12
      · rw [frScan_short hw1 h12]; simp
      · by_cases hl : b.length < frN b
        · rw [frScan_wait hw1 (by omega) hl]; simp
        · have hN := frWell_n hw1 (by omega)
          rw [frScan_more hw1 (by omega) (by omega)]
          intro f hf
          rcases List.mem_cons.1 hf with rfl | hf
          · refine ⟨frAt_wf _ _, ?_⟩
            show ((b.take (frN b)).drop 12).length ≤ _
            rw [List.length_drop, List.length_take]; omega
          · exact ih _ (by rw [List.length_drop]; omega) (b.drop (frN b)) rfl f hf
set_option maxRecDepth 20000 in
set_option maxHeartbeats 1000000 in
theorem law_FrameAgain (A : Option Addr) (n c : Nat) (b : List UInt8) (w : World) (hr : RdB w w.heap.size A n c b) (hn : n ≤ 140737488351232) :
    Calls Try.prog 6 #[.slice A n c] w fun e w' => e = .returned (.bool true) ∧ Below w.heap.size w w' := by
  have hl := RdB.length hr
  have hcap := hr.cap
  have hmax := hr.max
  by_cases h60 : 20000 < n
  · have hd : (20000 : Int) < (n : Int) := by omega
    go_enter Try.func6, Try.ntmps6
    go_wp2_with (first | (with_reducible refine hold_append ?_) | (with_reducible refine hold_make ?_) | (with_reducible refine hold_copy ?_))
    refine (head_any w).mono ?_
    rintro e w1 ⟨rfl, hB1⟩
    go_wp2_with (first | (with_reducible refine hold_append ?_) | (with_reducible refine hold_make ?_) | (with_reducible refine hold_copy ?_))
    go_ret
    exact ⟨rfl, hB1⟩
  · have hd : ¬ (20000 : Int) < (n : Int) := by omega
    have hs := scan_any A n c b w hr (by omega)
    have hle := frScan_le b
    have hwf := frScan_wf b
    have hput := frScan_put b
    have herr := frScan_err b
    obtain ⟨⟨l, u, e⟩, hfs⟩ : ∃ fs, fs = frScan b := ⟨_, rfl⟩
    rw [← hfs] at hs hle hwf hput herr
    simp only at hs hle hwf hput herr
    clear hfs
    obtain ⟨hp1, hp2⟩ := hput
    have hby := fun A c W h => bytes_any A l.length c l W.heap.size W h (Nat.le_refl _) hwf (by omega)
    rw [hp1] at hby
    have hbl : (frBytes l).length = u := by rw [hp2, List.length_take]; omega
    rw [hbl] at hby
    generalize frBytes l = bb at *
    obtain ⟨N, hN⟩ : ∃ N, N = l.length := ⟨_, rfl⟩
    rw [← hN] at hs hle hby
    have HN := Lib.hid hN
    clear hN hwf hp1 hbl
    have HP := Lib.hid hp2
    clear hp2
    have he60 : ∀ v, v = e → (((e : Nat) : Int) != 0 && ((e : Nat) : Int) != 60) = false := fun v _ => by rcases herr with rfl | rfl <;> rfl
    go_enter Try.func6, Try.ntmps6
    go_wp2_with (first | (with_reducible refine hold_append ?_) | (with_reducible refine hold_make ?_) | (with_reducible refine hold_copy ?_))
    refine hs.mono ?_
    rintro ex w1 ⟨A1, c1, rfl, ho1, hB1⟩
    have hz1 := hB1.size
    have hu0 : ¬ (u : Int) < 0 := by omega
    have hun : ¬ (n : Int) < (u : Int) := by omega
    clear hs
    rcases herr with rfl | rfl
    all_goals
      go_wp2_with (first | (with_reducible refine hold_append ?_) | (with_reducible refine hold_make ?_) | (with_reducible refine hold_copy ?_))
      refine (hby A1 c1 w1 ho1.rd).mono ?_
      rintro ex w2 ⟨A2, c2, A3, c3, rfl, ho2, ho3, hB2⟩
      have hB02 := hB1.trans (hB2.mono hz1)
      have hz2 := hB02.size
      have hr2 := hr.below hB02
      have hv1 := fun wx (h : RdB wx w2.heap.size A2 u c2 bb) => run_strB h
      have hcut := rd_cut hr2 0 u c (Nat.zero_le _) (by omega) (Nat.le_refl _) (by omega)
      simp only [Nat.mul_one, ← List.map_take, ← List.map_drop, Nat.zero_mul, List.drop_zero, Nat.sub_zero] at hcut
      rw [← HP.out] at hcut
      have hq : ((str bb).toList == (str bb).toList) = true := by simp
      have hq1 : (((N : Nat) : Int) == ((N : Nat) : Int)) = true := by simp
      go_wp2_with (first | (with_reducible refine hold_append ?_) | (with_reducible refine hold_make ?_) | (with_reducible refine hold_copy ?_))
      refine rg_start (fun wx : World => RdB wx w2.heap.size A2 u c2 bb ∧ RdB wx w.heap.size (cutA A 1 0 c) u c bb) (by kernel_rfl) ?_
      have hS : RdB w2.drew w2.heap.size A2 u c2 bb ∧ RdB w2.drew w.heap.size (cutA A 1 0 c) u c bb := ⟨Rd.drew ho2.rd, Rd.drew hcut⟩
      refine rg_take 0 (v := ?_) rfl (by kernel_rfl) (by kernel_rfl) (by kernel_rfl) hS rfl ?_ ?_
      rotate_left
      · intro wS hSw; go_simp; (with_reducible rfl)
      simp only [List.getElem_toArray, List.getElem_cons_zero, Act.put, List.setIfInBounds_toArray, List.set_cons_zero, List.set_cons_succ]
      refine rg_take 1 (v := ?_) rfl (by kernel_rfl) (by kernel_rfl) (by kernel_rfl) hS rfl ?_ ?_
      rotate_left
      · intro wS hSw; go_simp; (with_reducible rfl)
      simp only [List.getElem_toArray, List.getElem_cons_succ, List.getElem_cons_zero, Act.put, List.setIfInBounds_toArray, List.set_cons_zero, List.set_cons_succ]
      refine rg_take 2 (v := ?_) rfl (by kernel_rfl) (by kernel_rfl) (by kernel_rfl) hS rfl ?_ ?_
      rotate_left
      · intro wS hSw; go_simp; (with_reducible rfl)
      simp only [List.getElem_toArray, List.getElem_cons_succ, List.getElem_cons_zero, Act.put, List.setIfInBounds_toArray, List.set_cons_zero, List.set_cons_succ]
      refine rg_take 3 (v := ?_) rfl (by kernel_rfl) (by kernel_rfl) (by kernel_rfl) hS rfl ?_ ?_
      rotate_left
      · intro wS hSw; go_simp; (with_reducible rfl)
      simp only [List.getElem_toArray, List.getElem_cons_succ, List.getElem_cons_zero, Act.put, List.setIfInBounds_toArray, List.set_cons_zero, List.set_cons_succ]
      refine rg_take 4 (v := ?_) rfl (by kernel_rfl) (by kernel_rfl) (by kernel_rfl) hS rfl ?_ ?_
      rotate_left
      · intro wS hSw; go_simp; (with_reducible rfl)
      simp only [List.getElem_toArray, List.getElem_cons_succ, List.getElem_cons_zero, Act.put, List.setIfInBounds_toArray, List.set_cons_zero, List.set_cons_succ]
      refine rg_take 5 (v := ?_) rfl (by kernel_rfl) (by kernel_rfl) (by kernel_rfl) hS rfl ?_ ?_
      rotate_left
      · intro wS hSw; go_simp; (with_reducible rfl)
      simp only [List.getElem_toArray, List.getElem_cons_succ, List.getElem_cons_zero, Act.put, List.setIfInBounds_toArray, List.set_cons_zero, List.set_cons_succ]
      refine rg_take 6 (v := ?_) rfl (by kernel_rfl) (by kernel_rfl) (by kernel_rfl) hS rfl ?_ ?_
      rotate_left
      · intro wS hSw; go_simp; (with_reducible rfl)
      simp only [List.getElem_toArray, List.getElem_cons_succ, List.getElem_cons_zero, Act.put, List.setIfInBounds_toArray, List.set_cons_zero, List.set_cons_succ]
      refine rg_take 7 (v := ?_) rfl (by kernel_rfl) (by kernel_rfl) (by kernel_rfl) hS rfl ?_ ?_
      rotate_left
      · intro wS hSw; have hv := run_strB (w := wS) hSw.1; go_simp; (with_reducible rfl)
      simp only [List.getElem_toArray, List.getElem_cons_succ, List.getElem_cons_zero, Act.put, List.setIfInBounds_toArray, List.set_cons_zero, List.set_cons_succ]
      refine rg_take 8 (v := ?_) rfl (by kernel_rfl) (by kernel_rfl) (by kernel_rfl) hS rfl ?_ ?_
      rotate_left
      · intro wS hSw; go_simp; (with_reducible rfl)
      simp only [List.getElem_toArray, List.getElem_cons_succ, List.getElem_cons_zero, Act.put, List.setIfInBounds_toArray, List.set_cons_zero, List.set_cons_succ]
      refine rg_take 9 (v := ?_) rfl (by kernel_rfl) (by kernel_rfl) (by kernel_rfl) hS rfl ?_ ?_
      rotate_left
      · intro wS hSw; go_simp; (with_reducible rfl)
      simp only [List.getElem_toArray, List.getElem_cons_succ, List.getElem_cons_zero, Act.put, List.setIfInBounds_toArray, List.set_cons_zero, List.set_cons_succ]
      have hd2 : Bd (some (Value.int .i64 (u : Int))) n u := .inr ⟨_, _, rfl, rfl⟩
      refine rg_slice 10 slB rfl (by kernel_rfl) (by kernel_rfl) (by kernel_rfl) hS rfl rfl rfl hmax hcap 0 u c (.inl ⟨rfl, rfl⟩) hd2 (.inl ⟨rfl, rfl⟩) (fun h => by cases h) (by omega) (by omega) (Nat.le_refl _) (by omega) ?_
      simp only [List.getElem_toArray, List.getElem_cons_succ, List.getElem_cons_zero, Act.put, List.setIfInBounds_toArray, List.set_cons_zero, List.set_cons_succ]
      refine rg_take 11 (v := ?_) rfl (by kernel_rfl) (by kernel_rfl) (by kernel_rfl) hS rfl ?_ ?_
      rotate_left
      · intro wS hSw; have hv := run_strB (w := wS) hSw.2; go_simp; (with_reducible rfl)
      simp only [List.getElem_toArray, List.getElem_cons_succ, List.getElem_cons_zero, Act.put, List.setIfInBounds_toArray, List.set_cons_zero, List.set_cons_succ]
      refine rg_take 12 (v := ?_) rfl (by kernel_rfl) (by kernel_rfl) (by kernel_rfl) hS rfl ?_ ?_
      rotate_left
      · intro wS hSw; go_simp; (with_reducible rfl)
      simp only [List.getElem_toArray, List.getElem_cons_succ, List.getElem_cons_zero, Act.put, List.setIfInBounds_toArray, List.set_cons_zero, List.set_cons_succ]
      refine rg_take 13 (v := ?_) rfl (by kernel_rfl) (by kernel_rfl) (by kernel_rfl) hS rfl ?_ ?_
      rotate_left
      · intro wS hSw; go_simp; (with_reducible rfl)
      simp only [List.getElem_toArray, List.getElem_cons_succ, List.getElem_cons_zero, Act.put, List.setIfInBounds_toArray, List.set_cons_zero, List.set_cons_succ]
      refine rg_take 14 (v := ?_) rfl (by kernel_rfl) (by kernel_rfl) (by kernel_rfl) hS rfl ?_ ?_
      rotate_left
      · intro wS hSw; go_simp; (with_reducible rfl)
      simp only [List.getElem_toArray, List.getElem_cons_succ, List.getElem_cons_zero, Act.put, List.setIfInBounds_toArray, List.set_cons_zero, List.set_cons_succ]
      refine rg_one 15 rfl (by kernel_rfl) rfl (fun K hK => ?_)
      go_simp
      refine (head_any w2.drew).mono ?_
      rintro ex w3 ⟨rfl, hB3⟩
      have hB03 := (below_drewN hB02 1).trans (hB3.mono hz2)
      have hS3 : RdB w3 w2.heap.size A2 u c2 bb ∧ RdB w3 w.heap.size (cutA A 1 0 c) u c bb := ⟨Rd.below hS.1 hB3, Rd.below hS.2 (hB3.mono hz2)⟩
      refine hK _ _ hS3 ?_; clear hK K
      refine rg_take 16 (v := ?_) rfl (by kernel_rfl) (by kernel_rfl) (by kernel_rfl) hS3 rfl ?_ ?_
      rotate_left
      · intro wS hSw; go_simp; (with_reducible rfl)
      simp only [List.getElem_toArray, List.getElem_cons_succ, List.getElem_cons_zero, Act.put, List.setIfInBounds_toArray, List.set_cons_zero, List.set_cons_succ]
      refine rg_take 17 (v := ?_) rfl (by kernel_rfl) (by kernel_rfl) (by kernel_rfl) hS3 rfl ?_ ?_
      rotate_left
      · intro wS hSw; go_simp; (with_reducible rfl)
      simp only [List.getElem_toArray, List.getElem_cons_succ, List.getElem_cons_zero, Act.put, List.setIfInBounds_toArray, List.set_cons_zero, List.set_cons_succ]
      refine rg_end (by kernel_rfl) ?_
      go_wp2_with (first | (with_reducible refine hold_append ?_) | (with_reducible refine hold_make ?_) | (with_reducible refine hold_copy ?_))
      go_ret
      exact ⟨rfl, hB03⟩
end Go.PH

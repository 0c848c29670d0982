/- The document's wires: the walk of Clear. -/
import Derived.Test.YtemngfljlaimdaaWrRef2
set_option linter.all false
set_option linter.unusedSimpArgs false
set_option linter.unusedVariables false
namespace Go.PH
open Go.RowKit Go.Proofs

theorem clearW_take (R : List Wl) (nd : Int) (k : Nat) (hk : k < R.length) : clearW (R.take (k + 1)) nd = clearW (R.take k) nd ++ (if R[k].fr ≠ nd ∧ R[k].to ≠ nd then [R[k]] else []) := by
  rw [List.take_succ_eq_append_getElem hk]
  unfold clearW
  rw [List.filter_append]
  congr 1
  by_cases h : R[k].fr ≠ nd ∧ R[k].to ≠ nd
  · rw [if_pos h, List.filter_cons_of_pos (by simpa using h)]; rfl
  · rw [if_neg h, List.filter_cons_of_neg (by simpa using h)]; rfl
set_option maxRecDepth 20000 in
set_option maxHeartbeats 2000000 in
theorem rclear_any (F : Nat → Prop) (qb : Nat) (R : List Wl) (nd : Int) (w : World) (h : Rw w F qb R) (hR : R.length ≤ 1000000) :
    Calls Try.prog 24 #[.pointer (some ⟨qb, 0, none⟩), .int .i64 nd] w (RcR w F qb (clearW R nd) (.tuple #[])) := by
  obtain ⟨A, c, hx, ho, hqF, hAF⟩ := h.ex
  have HL := Lib.hid h.lt
  clear h
  obtain ⟨n, hn⟩ : ∃ n, n = R.length := ⟨_, rfl⟩
  rw [← hn] at hx ho hR
  have HN := Lib.hid hn
  clear hn
  have c0 := hx.cell (j := 0) rfl
  have hrd := ho.rd
  have HO := Lib.hid ho
  clear ho
  go_enter Try.func24, Try.ntmps24
  go_wp2_with (first | (with_reducible refine hold_append ?_) | (with_reducible refine hold_make ?_) | (with_reducible refine hold_copy ?_))
  try go_frame
  clear c0
  go_loopw [4, 5] (fun s x wr => ∃ (k : Nat) (A' : Option Addr) (c' : Nat) (l : List Wl), k ≤ n ∧ l.length ≤ k ∧ s = .slice A' l.length c' ∧ x = .int .i64 k ∧ Hid (clearW (R.take k) nd = l) ∧ Own wr w.heap.size 63 3 A' l.length c' (rowC lwC l) ∧ Below w.heap.size w wr) (fun _ x _ => n - (intOf x).toNat)
  case atStart => exact ⟨0, none, 0, [], by omega, by simp, rfl, rfl, Lib.hid rfl, Own.none_ _ _ _ _, Below.refl _ _⟩
  case round =>
    obtain ⟨k, A', c', l, hk, hlk, rfl, rfl, HC, ho, hB⟩ := hrel
    have c0 := (hx.below hB).cell (j := 0) rfl
    obtain ⟨m, hm⟩ : ∃ m, m = l.length := ⟨_, rfl⟩
    rw [← hm] at hlk ho
    have HM := Lib.hid hm
    by_cases hlt : k < n
    · have d1 : (k : Int) < (n : Int) := by omega
      have hkl : k < R.length := by rw [← HN.out]; exact hlt
      obtain ⟨bb, off, rfl, _, _, hc⟩ := rec_at lwShape (hrd.below hB) (k := k) hlt
      have k0 := hc 0 (.int .i64 R[k].fr) rfl
      have k1 := hc 1 (.int .i64 R[k].to) rfl
      have k2 := hc 2 (.string (str R[k].s)) rfl
      simp only [Nat.add_zero] at k0
      have hct := clearW_take R nd k hkl
      rw [HC.out] at hct
      clear hc HC
      generalize R[k] = x at *
      by_cases e : x.fr ≠ nd ∧ x.to ≠ nd
      · have g1 : (x.fr != nd) = true := by simp [e.1]
        have g2 : (x.to != nd) = true := by simp [e.2]
        rw [if_pos e] at hct
        have HC := Lib.hid hct
        clear hct e
        rw [← hm]
        clear hm
        go_wp2_with (first | (with_reducible refine hold_append ?_) | (with_reducible refine hold_make ?_) | (with_reducible refine hold_copy ?_))
        obtain ⟨xa, xb, xs⟩ := x
        simp only at *
        refine unhold (wp_rec lwShape slL Try.underlying35 rfl rfl rfl rfl rfl (⟨xa, xb, xs⟩ : Wl) rfl ho (by omega) (by omega) hB.size ?_)
        intro A2 c2 w2 ho2 hg2 hA2 hB2
        have hB3 : Below w.heap.size w w2 := hB.trans hB2
        have HO2 := Lib.hid ho2
        clear ho ho2 hg2 hA2 hB2 hB c0 k0 k1 k2 g1 g2
        go_wp2_with (first | (with_reducible refine hold_append ?_) | (with_reducible refine hold_make ?_) | (with_reducible refine hold_copy ?_))
        refine ⟨⟨k + 1, A2, c2, l ++ [⟨xa, xb, xs⟩], by omega, by have := HM.out; simp; omega, by have := HM.out; simp [this], by first | rfl | go_num, HC, by have := HM.out; rw [List.length_append]; simp only [List.length_singleton]; rw [← this]; exact HO2.out, hB3⟩, by simp [intOf]; omega⟩
      · rw [if_neg e, List.append_nil] at hct
        have HC := Lib.hid hct
        clear hct
        by_cases e1 : x.fr = nd
        · have g1 : (x.fr != nd) = false := by simp [e1]
          clear e e1
          go_wp2_with (first | (with_reducible refine hold_append ?_) | (with_reducible refine hold_make ?_) | (with_reducible refine hold_copy ?_))
          exact ⟨⟨k + 1, A', c', l, by omega, by rw [← hm]; omega, by rfl, by first | rfl | go_num, HC, by rw [← hm]; exact ho, hB⟩, by simp [intOf]; omega⟩
        · have g1 : (x.fr != nd) = true := by simp [e1]
          have g2 : (x.to != nd) = false := by
            have : x.to = nd := Classical.byContradiction fun h => e ⟨e1, h⟩
            simp [this]
          clear e e1
          go_wp2_with (first | (with_reducible refine hold_append ?_) | (with_reducible refine hold_make ?_) | (with_reducible refine hold_copy ?_))
          exact ⟨⟨k + 1, A', c', l, by omega, by rw [← hm]; omega, by rfl, by first | rfl | go_num, HC, by rw [← hm]; exact ho, hB⟩, by simp [intOf]; omega⟩
    · have d1 : decide ((k : Int) < (n : Int)) = false := by simp; omega
      have HR : Hid (clearW R nd = l) := Lib.hid (by rw [← HC.out, List.take_of_length_le (by rw [← HN.out]; omega)])
      have hx2 := hx.below hB
      have HOO := Lib.hid ho
      have hA9 : ∀ g, blk A' = some g → w.heap.size ≤ g := fun g hg => (ho.blk_lt hg).1
      clear ho
      rw [← hm]
      clear hm
      go_wp2_with (first | (with_reducible refine hold_append ?_) | (with_reducible refine hold_make ?_) | (with_reducible refine hold_copy ?_) | (with_reducible refine hold_store ?_))
      refine unhold (wp_box (v := .slice A' m c') (vs := [.slice A' m c']) rfl rfl rfl rfl hx2 rfl (by kernel_rfl) (by simp) (by simp [Value.oneCell']) #[.slice A' m c'] (by simp) ?_)
      intro w3 hx3 hg3 _
      go_wp2_with (first | (with_reducible refine hold_append ?_) | (with_reducible refine hold_make ?_) | (with_reducible refine hold_copy ?_))
      first | go_ret | go_end0 | skip
      rw [HR.out]
      exact Rw.put HL.out hqF hB.size (fun g hg _ => hB.block g hg) (.below hB) (HOO.out.base_le (Nat.zero_le _)) HM.out (fun g hg => ⟨.inr (hA9 g hg), by have := hA9 g hg; have := HL.out qb hqF; omega⟩) hx3 hg3 _
end Go.PH

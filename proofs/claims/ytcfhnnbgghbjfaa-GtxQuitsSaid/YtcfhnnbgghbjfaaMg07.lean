/- Texts laid together: LtMath. -/
import Derived.Test.YtcfhnnbgghbjfaaMg06
section
/- When letters may be, as mathematics: the two ways of saying it agree. -/
set_option linter.all false
set_option linter.unusedSimpArgs false
set_option linter.unusedVariables false
namespace Go.PH

theorem sort_self (l : List Xd) : l = xdSort l ↔ (∀ x ∈ l, x.ok = true) ∧ Rises l := by
  constructor
  · intro h
    refine ⟨fun x hx => ?_, by rw [h]; exact xdSort_rises l⟩
    rw [h] at hx
    exact ((xdSort_mem l x).1 hx).2
  · rintro ⟨h1, h2⟩
    refine rises_ext _ _ h2 (xdSort_rises l) (fun z => ?_)
    rw [xdSort_mem]
    exact ⟨fun h => ⟨h, h1 z h⟩, fun h => h.1⟩
theorem sort_step {l : List Xd} {k : Nat} (hk : k < l.length) (h : l.take k = xdSort (l.take k)) : l.take (k + 1) = xdSort (l.take (k + 1)) ↔ l[k].ok = true ∧ (k = 0 ∨ ∃ q, l[k - 1]? = some q ∧ Xd.cmp q l[k] < 0) := by
  rw [sort_self] at h ⊢
  rw [List.take_succ_eq_append_getElem hk]
  unfold Rises at *
  rw [List.pairwise_append]
  constructor
  · rintro ⟨h1, _, _, h4⟩
    refine ⟨h1 _ (List.mem_append.2 (Or.inr (List.mem_singleton.2 rfl))), ?_⟩
    rcases Nat.eq_zero_or_pos k with h0 | h0
    · exact Or.inl h0
    · refine Or.inr ⟨l[k - 1], List.getElem?_eq_getElem (by omega), h4 _ ?_ _ (by simp)⟩
      rw [List.mem_take_iff_getElem]
      exact ⟨k - 1, by omega, rfl⟩
  · rintro ⟨h1, h2⟩
    refine ⟨fun x hx => ?_, h.2, by simp, fun a ha b hb => ?_⟩
    · rcases List.mem_append.1 hx with hx | hx
      · exact h.1 x hx
      · rw [List.mem_singleton.1 hx]; exact h1
    · rw [List.mem_singleton.1 hb]
      rcases h2 with h2 | ⟨q, h2, h3⟩
      · subst h2; simp at ha
      · rw [List.mem_take_iff_getElem] at ha
        obtain ⟨j, hj, rfl⟩ := ha
        by_cases hjk : j = k - 1
        · subst hjk
          rw [List.getElem?_eq_getElem (by omega)] at h2
          injection h2 with h2
          rw [h2]; exact h3
        · refine cmp_trans ?_ h3
          have h5 := List.pairwise_iff_getElem.1 h.2 j (k - 1) (by simp; omega) (by simp; omega) (by omega)
          rw [List.getElem?_eq_getElem (by omega)] at h2
          injection h2 with h2
          simp only [List.getElem_take] at h5
          rw [← h2]; exact h5
theorem sort_front {l : List Xd} (k : Nat) (h : l = xdSort l) : l.take k = xdSort (l.take k) := by
  rw [sort_self] at *
  exact ⟨fun x hx => h.1 x (List.mem_of_mem_take hx), h.2.sublist (List.take_sublist k l)⟩
/-- the reference's way of saying which letters may be -/
def ltRef (l : Lt) : Bool :=
  let ans := decide (17 ≤ l.kind ∧ l.kind ≤ 21)
  let rec_ := decide (l.kind = 5 ∨ l.kind = 21)
  (ans || decide (1 ≤ l.kind ∧ l.kind ≤ 5)) && decide (l.names.length ≤ 200) && (if rec_ then decide (l.x = xd0') else l.x.ok) && decide (l.xa ≤ 7) && decide (l.no ≤ 999) && decide (l.xa = 0 ∨ l.no = 0) &&
    (if !ans || rec_ then decide (l.xa = 0 ∧ l.no = 0) else true) && (decide (l.names = []) || decide (l.kind = 21)) && decide (l.names = xdSort l.names)
theorem lt_ref (l : Lt) : ltOk l = ltRef l := by
  obtain ⟨kind, x, xa, no, names⟩ := l
  unfold ltOk ltRef
  simp only
  generalize decide (x = xd0') = a1
  generalize x.ok = a2
  generalize decide (names = []) = a3
  generalize decide (names = xdSort names) = a4
  by_cases h : kind ≤ 21
  · have : kind = 0 ∨ kind = 1 ∨ kind = 2 ∨ kind = 3 ∨ kind = 4 ∨ kind = 5 ∨ (6 ≤ kind ∧ kind ≤ 16) ∨ kind = 17 ∨ kind = 18 ∨ kind = 19 ∨ kind = 20 ∨ kind = 21 := by omega
    rcases this with rfl | rfl | rfl | rfl | rfl | rfl | ⟨h1, h2⟩ | rfl | rfl | rfl | rfl | rfl
    case inr.inr.inr.inr.inr.inr.inl =>
      have e1 : decide (16 < kind) = false := by simp; omega
      have e2 : decide (1 ≤ kind ∧ kind ≤ 5) = false := by simp; omega
      have e3 : decide (17 ≤ kind ∧ kind ≤ 21) = false := by simp; omega
      simp [e1, e2, e3]
    all_goals (cases a1 <;> cases a2 <;> cases a3 <;> cases a4 <;> simp <;> (try (rw [Bool.eq_iff_iff]; simp only [Bool.and_eq_true, decide_eq_true_eq]; constructor <;> (intros; simp_all; try omega))))
  · have e1 : decide (16 < kind) = true := by simp; omega
    have e2 : decide (1 ≤ kind - 16 ∧ kind - 16 ≤ 5) = false := by simp; omega
    have e3 : decide (17 ≤ kind ∧ kind ≤ 21) = false := by simp; omega
    have e4 : decide (1 ≤ kind ∧ kind ≤ 5) = false := by simp; omega
    rw [e1, e3, e4]
    simp only [if_true, e2]
    simp
end Go.PH
end

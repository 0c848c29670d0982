/- Cutting a right row by a right row, span by span, as plain mathematics. -/
import Derived.Test.YtjlfjlafpgjhbaaSpMath7
namespace Go.PH

theorem spCut_len0 (f t : Nat) : ∀ (l : List Sp), spRight l = true → spFrom f l → (spCut f t l).length ≤ l.length
  | [], _, _ => by simp [spCut]
  | a :: l, hr, hf => by
    obtain ⟨h1, h2, h3⟩ := spRight_cons.1 hr
    simp only [spFrom] at hf
    have ih := spCut_len0 f t l h3 (by cases l with | nil => trivial | cons b l => simp only [spFrom] at h2 ⊢; omega)
    have e : spCut f t (a :: l) = spPiece f t a ++ spCut f t l := rfl
    have hp : (spPiece f t a).length ≤ 1 := by
      unfold spPiece
      split
      · simp
      · rw [if_neg (by omega)]
        split <;> simp
    rw [e, List.length_append, List.length_cons]; omega
theorem spCut_len1 (f t : Nat) : ∀ (l : List Sp), spRight l = true → (spCut f t l).length ≤ l.length + 1
  | [], _ => by simp [spCut]
  | a :: l, hr => by
    obtain ⟨h1, h2, h3⟩ := spRight_cons.1 hr
    have ih := spCut_len1 f t l h3
    have e : spCut f t (a :: l) = spPiece f t a ++ spCut f t l := rfl
    rw [e, List.length_append, List.length_cons]
    by_cases hc : a.2 < f
    · have hp : (spPiece f t a).length = 1 := by simp [spPiece, hc]
      omega
    · have i0 := spCut_len0 f t l h3 (by cases l with | nil => trivial | cons b l => simp only [spFrom] at h2 ⊢; omega)
      have := spPiece_len f t a
      omega
def spMinus (a b : List Sp) : List Sp := b.foldl (fun out s => spCut s.1 s.2 out) a
theorem spMinus_next {a b : List Sp} {k : Nat} (hk : k < b.length) : spMinus a (b.take (k + 1)) = spCut b[k].1 b[k].2 (spMinus a (b.take k)) := by
  unfold spMinus; rw [List.take_succ_eq_append_getElem hk, List.foldl_append]; simp
theorem spMinus_ok {N : Nat} : ∀ (b a : List Sp), spRight a = true → (∀ s ∈ b, s.1 ≤ s.2) → spOK N a → spRight (spMinus a b) = true ∧ (∀ n, spIn (spMinus a b) n = true ↔ (spIn a n = true ∧ ¬ spIn b n = true)) ∧ spOK N (spMinus a b) ∧ (spMinus a b).length ≤ a.length + b.length
  | [], a, ha, _, ho => ⟨ha, fun n => by simp [spMinus, spIn], ho, by simp [spMinus]⟩
  | s :: b, a, ha, hs, ho => by
    have h1 := hs s (by simp)
    have hc := (spCut_right s.1 s.2 h1 a ha).1
    obtain ⟨i1, i2, i3, i4⟩ := spMinus_ok b (spCut s.1 s.2 a) hc (fun z hz => hs z (by simp [hz])) (spCut_ok h1 ha ho)
    have hl := spCut_len1 s.1 s.2 a ha
    refine ⟨i1, fun n => ?_, i3, by show (spMinus (spCut s.1 s.2 a) b).length ≤ _; simp only [List.length_cons]; omega⟩
    show spIn (spMinus (spCut s.1 s.2 a) b) n = true ↔ _
    rw [i2, spCut_in s.1 s.2 h1, spIn_cons]
    constructor
    · rintro ⟨⟨h2, h3⟩, h4⟩; exact ⟨h2, fun h5 => h5.elim h3 h4⟩
    · rintro ⟨h2, h3⟩; exact ⟨⟨h2, fun h => h3 (.inl h)⟩, fun h => h3 (.inr h)⟩
end Go.PH

/- Adding to, and cutting out of, a right row, as plain mathematics. -/
import Derived.Test.YtjlfjlafpgjhbaaSpMath
namespace Go.PH

/-- what the loop of Add does behind the place: spans that touch are taken into s -/
def spTake (s : Sp) (t : Nat) : List Sp → Sp × List Sp
  | [] => (s, [])
  | a :: l => if a.1 ≤ t + 1 then spTake (min s.1 a.1, max s.2 a.2) t l else (s, a :: l)
/-- Add: the spans that end ahead of f - 1 stay -/
def spAdd (f t : Nat) : List Sp → List Sp
  | [] => [(f, t)]
  | a :: l => if a.2 < f - 1 then a :: spAdd f t l else (spTake (f, t) t (a :: l)).1 :: (spTake (f, t) t (a :: l)).2
/-- Cut -/
def spCut (f t : Nat) : List Sp → List Sp
  | [] => []
  | a :: l => (if a.2 < f ∨ t < a.1 then [a] else (if a.1 < f then [(a.1, f - 1)] else []) ++ (if t < a.2 then [(t + 1, a.2)] else [])) ++ spCut f t l

theorem spIn_cons (a : Sp) (l : List Sp) (n : Nat) : spIn (a :: l) n = true ↔ ((a.1 ≤ n ∧ n ≤ a.2) ∨ spIn l n = true) := by simp [spIn]
theorem spIn_app (a b : List Sp) (n : Nat) : spIn (a ++ b) n = true ↔ (spIn a n = true ∨ spIn b n = true) := by simp [spIn]
theorem spCut_in (f t : Nat) (hft : f ≤ t) (l : List Sp) (n : Nat) : spIn (spCut f t l) n = true ↔ (spIn l n = true ∧ ¬ (f ≤ n ∧ n ≤ t)) := by
  induction l with
  | nil => simp [spCut, spIn]
  | cons a l ih =>
    rw [spCut, spIn_app, ih, spIn_cons]
    have key : spIn (if a.2 < f ∨ t < a.1 then [a] else (if a.1 < f then [(a.1, f - 1)] else []) ++ (if t < a.2 then [(t + 1, a.2)] else [])) n = true ↔ ((a.1 ≤ n ∧ n ≤ a.2) ∧ ¬ (f ≤ n ∧ n ≤ t)) := by
      split
      · simp [spIn]; omega
      · rw [spIn_app]
        split <;> split <;> simp [spIn] <;> omega
    rw [key]
    constructor
    · rintro (⟨h1, h2⟩ | ⟨h1, h2⟩)
      · exact ⟨.inl h1, h2⟩
      · exact ⟨.inr h1, h2⟩
    · rintro ⟨h1 | h1, h2⟩
      · exact .inl ⟨h1, h2⟩
      · exact .inr ⟨h1, h2⟩
/-- a row is right behind a number: its first span begins at m or later -/
def spFrom (m : Nat) : List Sp → Prop
  | [] => True
  | a :: _ => m ≤ a.1
theorem spRight_cons {a : Sp} {l : List Sp} : spRight (a :: l) = true ↔ (a.1 ≤ a.2 ∧ spFrom (a.2 + 2) l ∧ spRight l = true) := by
  cases l with
  | nil => simp [spRight, spFrom]
  | cons b l => simp [spRight, spFrom, and_assoc]
theorem spCut_right (f t : Nat) (hft : f ≤ t) (l : List Sp) (h : spRight l = true) : spRight (spCut f t l) = true ∧ ∀ m, spFrom m l → spFrom m (spCut f t l) := by
  induction l with
  | nil => exact ⟨rfl, fun m h => h⟩
  | cons a l ih =>
    obtain ⟨h1, h2, h3⟩ := spRight_cons.1 h
    obtain ⟨i1, i2⟩ := ih h3
    have i3 := i2 _ h2
    have wk : ∀ m, m ≤ a.2 + 2 → spFrom m (spCut f t l) := fun m hm => by
      cases hc : spCut f t l with
      | nil => trivial
      | cons b r => rw [hc] at i3; simp only [spFrom] at i3 ⊢; omega
    rw [spCut]
    split
    · exact ⟨spRight_cons.2 ⟨h1, i3, i1⟩, fun m hm => hm⟩
    · split <;> split
      · refine ⟨?_, fun m hm => hm⟩
        simp only [List.cons_append, List.nil_append]
        exact spRight_cons.2 ⟨by simp; omega, by simp [spFrom]; omega, spRight_cons.2 ⟨by simp; omega, wk _ (by simp), i1⟩⟩
      · refine ⟨?_, fun m hm => hm⟩
        simp only [List.cons_append, List.nil_append]
        exact spRight_cons.2 ⟨by simp; omega, wk _ (by simp; omega), i1⟩
      · refine ⟨?_, fun m hm => ?_⟩
        · simp only [List.cons_append, List.nil_append]
          exact spRight_cons.2 ⟨by simp; omega, wk _ (by simp), i1⟩
        · simp only [List.cons_append, List.nil_append, spFrom] at hm ⊢
          omega
      · refine ⟨by simpa using i1, fun m hm => ?_⟩
        simp only [List.nil_append]
        exact wk m (by simp only [spFrom] at hm; omega)
end Go.PH

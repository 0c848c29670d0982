/- What Add tells: a right row with the numbers put in. -/
import Derived.Test.YtjlfjlafpgjhbaaSpMath2
namespace Go.PH

theorem spTake_in (t : Nat) : ∀ (l : List Sp) (s : Sp), spRight l = true → s.1 ≤ s.2 → t ≤ s.2 → (∀ n, spIn l n = true → s.1 ≤ n + 1) → (s.2 = t ∨ spFrom (s.2 + 2) l) →
    ∀ n, spIn ((spTake s t l).1 :: (spTake s t l).2) n = true ↔ ((s.1 ≤ n ∧ n ≤ s.2) ∨ spIn l n = true) := by
  intro l
  induction l with
  | nil => intro s _ _ _ _ _ n; simp [spTake, spIn]
  | cons a l ih =>
    intro s hr hs ht hlow hcase n
    obtain ⟨h1, h2, h3⟩ := spRight_cons.1 hr
    rw [spTake]
    split
    · rename_i hle
      have ha := hlow a.1 ((spIn_cons _ _ _).2 (.inl ⟨Nat.le_refl _, h1⟩))
      have hst : s.2 = t := by
        rcases hcase with h | h
        · exact h
        · simp only [spFrom] at h; omega
      have hfar : ∀ n, spIn l n = true → a.2 + 2 ≤ n := fun n hn => spRight_far hr hn
      have := ih (min s.1 a.1, max s.2 a.2) h3 (by simp; omega) (by simp; omega) (fun n hn => by have := hfar n hn; simp; omega) (by
        simp only
        rcases Nat.le_total a.2 s.2 with hq | hq
        · left; omega
        · right; rw [Nat.max_eq_right hq]; exact h2) n
      rw [this, spIn_cons]
      simp only
      constructor
      · rintro (h | h)
        · by_cases h4 : s.1 ≤ n ∧ n ≤ s.2
          · exact .inl h4
          · right; left; omega
        · exact .inr (.inr h)
      · rintro (h | h | h)
        · left; omega
        · left; omega
        · exact .inr h
    · rw [spIn_cons]
theorem spTake_right (t : Nat) : ∀ (l : List Sp) (s : Sp), spRight l = true → s.1 ≤ s.2 → t ≤ s.2 → (s.2 = t ∨ spFrom (s.2 + 2) l) →
    spRight ((spTake s t l).1 :: (spTake s t l).2) = true ∧ ∀ m, m ≤ s.1 → spFrom m l → m ≤ (spTake s t l).1.1 := by
  intro l
  induction l with
  | nil => intro s _ hs _ _; exact ⟨spRight_cons.2 ⟨hs, trivial, rfl⟩, fun m hm _ => hm⟩
  | cons a l ih =>
    intro s hr hs ht hcase
    obtain ⟨h1, h2, h3⟩ := spRight_cons.1 hr
    rw [spTake]
    split
    · rename_i hle
      have hst : s.2 = t := by
        rcases hcase with h | h
        · exact h
        · simp only [spFrom] at h; omega
      obtain ⟨i1, i2⟩ := ih (min s.1 a.1, max s.2 a.2) h3 (by simp; omega) (by simp; omega) (by
        simp only
        rcases Nat.le_total a.2 s.2 with hq | hq
        · left; omega
        · right; rw [Nat.max_eq_right hq]; exact h2)
      refine ⟨i1, fun m hm hf => i2 m (by simp only [spFrom] at hf; simp; omega) ?_⟩
      simp only [spFrom] at hf
      cases l with
      | nil => trivial
      | cons b l => simp only [spFrom] at h2 ⊢; omega
    · rename_i hle
      refine ⟨spRight_cons.2 ⟨hs, ?_, hr⟩, fun m hm _ => hm⟩
      rcases hcase with h | h
      · simp only [spFrom]; omega
      · exact h
theorem spAdd_right (f t : Nat) (hft : f ≤ t) (l : List Sp) (hr : spRight l = true) : spRight (spAdd f t l) = true ∧ ∀ m, m ≤ f → spFrom m l → spFrom m (spAdd f t l) := by
  induction l with
  | nil => exact ⟨spRight_cons.2 ⟨hft, trivial, rfl⟩, fun m hm _ => hm⟩
  | cons a l ih =>
    obtain ⟨h1, h2, h3⟩ := spRight_cons.1 hr
    rw [spAdd]
    split
    · rename_i hlt
      obtain ⟨i1, i2⟩ := ih h3
      exact ⟨spRight_cons.2 ⟨h1, i2 _ (by omega) h2, i1⟩, fun m _ hm => hm⟩
    · obtain ⟨i1, i2⟩ := spTake_right t (a :: l) (f, t) hr hft (Nat.le_refl _) (.inl rfl)
      exact ⟨i1, fun m hm hf => i2 m hm hf⟩
theorem spAdd_in (f t : Nat) (hft : f ≤ t) (l : List Sp) (hr : spRight l = true) (n : Nat) : spIn (spAdd f t l) n = true ↔ ((f ≤ n ∧ n ≤ t) ∨ spIn l n = true) := by
  induction l with
  | nil => simp [spAdd, spIn]
  | cons a l ih =>
    obtain ⟨h1, h2, h3⟩ := spRight_cons.1 hr
    rw [spAdd]
    split
    · rw [spIn_cons, ih h3, spIn_cons]
      constructor
      · rintro (h | h | h)
        · exact .inr (.inl h)
        · exact .inl h
        · exact .inr (.inr h)
      · rintro (h | h | h)
        · exact .inr (.inl h)
        · exact .inl h
        · exact .inr (.inr h)
    · rename_i hge
      rw [spTake]
      split
      · rename_i hle
        have := spTake_in t l (min f a.1, max t a.2) h3 (by simp; omega) (by simp; omega) (fun m hm => by have := spRight_far hr hm; simp; omega) (by
          simp only
          rcases Nat.le_total a.2 t with hq | hq
          · left; omega
          · right; rw [Nat.max_eq_right hq]; exact h2) n
        rw [this, spIn_cons]
        simp only
        constructor
        · rintro (h | h)
          · by_cases h4 : f ≤ n ∧ n ≤ t
            · exact .inl h4
            · right; left; omega
          · exact .inr (.inr h)
        · rintro (h | h | h)
          · left; omega
          · left; omega
          · exact .inr h
      · rw [spIn_cons]
end Go.PH

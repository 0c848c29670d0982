/- Rows of spans as plain mathematics: a right row is told by its members. No program in sight. -/
namespace Go.PH

abbrev Sp := Nat × Nat
/-- a row is right: each span the right way round, a gap ahead of each but the first -/
def spRight : List Sp → Bool
  | [] => true
  | [a] => decide (a.1 ≤ a.2)
  | a :: b :: l => decide (a.1 ≤ a.2) && decide (a.2 + 2 ≤ b.1) && spRight (b :: l)
def spIn (l : List Sp) (n : Nat) : Bool := l.any fun a => decide (a.1 ≤ n) && decide (n ≤ a.2)
theorem spRight_tail {a : Sp} {l : List Sp} (h : spRight (a :: l) = true) : spRight l = true := by
  cases l with
  | nil => rfl
  | cons b l => simp [spRight] at h; exact h.2
theorem spRight_head {a : Sp} {l : List Sp} (h : spRight (a :: l) = true) : a.1 ≤ a.2 := by
  cases l with
  | nil => simpa [spRight] using h
  | cons b l => simp [spRight] at h; exact h.1.1
/-- whoever is in the tail lies past the head and a gap -/
theorem spRight_far {a : Sp} {l : List Sp} (h : spRight (a :: l) = true) {n : Nat} (hn : spIn l n = true) : a.2 + 2 ≤ n := by
  induction l generalizing a with
  | nil => simp [spIn] at hn
  | cons b l ih =>
    simp [spRight] at h
    obtain ⟨⟨h1, h2⟩, h3⟩ := h
    simp only [spIn, List.any_cons, Bool.or_eq_true, Bool.and_eq_true, decide_eq_true_eq] at hn
    rcases hn with hn | hn
    · omega
    · have := ih h3 hn
      have := spRight_head h3
      omega
/-- right rows with the same members are the same -/
theorem spRight_ext : ∀ {a b : List Sp}, spRight a = true → spRight b = true → (∀ n, spIn a n = spIn b n) → a = b := by
  intro a
  induction a with
  | nil =>
    intro b _ hb h
    cases b with
    | nil => rfl
    | cons y b =>
      have h1 := h y.1
      have := spRight_head hb
      simp [spIn] at h1
      have := h1.1
      omega
  | cons x a ih =>
    intro b ha hb h
    cases b with
    | nil =>
      have h1 := h x.1
      have := spRight_head ha
      simp [spIn] at h1
      have := h1.1
      omega
    | cons y b =>
      have hx := spRight_head ha
      have hy := spRight_head hb
      have mem : ∀ (z : Sp) (l : List Sp) (n : Nat), spIn (z :: l) n = true ↔ ((z.1 ≤ n ∧ n ≤ z.2) ∨ spIn l n = true) := fun z l n => by simp [spIn]
      have low : ∀ n, spIn (x :: a) n = true → x.1 ≤ n := fun n hn => by
        rcases (mem _ _ _).1 hn with h1 | h1
        · exact h1.1
        · have := spRight_far ha h1; omega
      have low' : ∀ n, spIn (y :: b) n = true → y.1 ≤ n := fun n hn => by
        rcases (mem _ _ _).1 hn with h1 | h1
        · exact h1.1
        · have := spRight_far hb h1; omega
      have h1 : x.1 = y.1 := by
        have e1 := low' x.1 (by rw [← h]; exact (mem _ _ _).2 (.inl ⟨Nat.le_refl _, hx⟩))
        have e2 := low y.1 (by rw [h]; exact (mem _ _ _).2 (.inl ⟨Nat.le_refl _, hy⟩))
        omega
      have h2 : x.2 = y.2 := by
        rcases Nat.lt_trichotomy x.2 y.2 with hlt | he | hlt
        · have e1 : spIn (x :: a) (x.2 + 1) = true := by rw [h]; exact (mem _ _ _).2 (.inl ⟨by omega, by omega⟩)
          rcases (mem _ _ _).1 e1 with h3 | h3
          · omega
          · have := spRight_far ha h3; omega
        · exact he
        · have e1 : spIn (y :: b) (y.2 + 1) = true := by rw [← h]; exact (mem _ _ _).2 (.inl ⟨by omega, by omega⟩)
          rcases (mem _ _ _).1 e1 with h3 | h3
          · omega
          · have := spRight_far hb h3; omega
      have hxy : x = y := Prod.ext h1 h2
      subst hxy
      congr 1
      refine ih (spRight_tail ha) (spRight_tail hb) fun n => ?_
      have h3 := h n
      rcases Nat.lt_or_ge n (x.2 + 1) with hn | hn
      · have n1 : spIn a n = false := by
          rcases hb1 : spIn a n with _ | _
          · rfl
          · have := spRight_far ha hb1; omega
        have n2 : spIn b n = false := by
          rcases hb1 : spIn b n with _ | _
          · rfl
          · have := spRight_far hb hb1; omega
        rw [n1, n2]
      · have e1 : (decide (x.1 ≤ n) && decide (n ≤ x.2)) = false := by simp; omega
        simpa [spIn, e1] using h3
end Go.PH

/- The reference's way: edges, and the spans between them, as plain mathematics. -/
import Derived.Test.YtjlfjlafpgjhbaaSpMath3
namespace Go.PH

/-- a number put into a rising row, once -/
def insE (n : Nat) : List Nat → List Nat
  | [] => [n]
  | x :: l => if x < n then x :: insE n l else if x = n then x :: l else n :: x :: l
def Rising (l : List Nat) : Prop := l.Pairwise (· < ·)
theorem insE_mem (n : Nat) (l : List Nat) (m : Nat) : m ∈ insE n l ↔ (m = n ∨ m ∈ l) := by
  induction l with
  | nil => simp [insE]
  | cons x l ih =>
    rw [insE]
    split
    · simp only [List.mem_cons, ih]
      constructor
      · rintro (h | h | h) <;> simp [h]
      · rintro (h | h | h) <;> simp [h]
    · split
      · rename_i h1 h2
        subst h2
        simp
      · simp
theorem insE_rising (n : Nat) (l : List Nat) (h : Rising l) : Rising (insE n l) := by
  induction l with
  | nil => simp [insE, Rising]
  | cons x l ih =>
    simp only [Rising, List.pairwise_cons] at h
    rw [insE]
    split
    · rename_i hx
      simp only [Rising, List.pairwise_cons]
      refine ⟨fun m hm => ?_, ih h.2⟩
      rcases (insE_mem n l m).1 hm with rfl | hm
      · exact hx
      · exact h.1 m hm
    · split
      · simp only [Rising, List.pairwise_cons]; exact h
      · simp only [Rising, List.pairwise_cons]
        refine ⟨fun m hm => ?_, h⟩
        rcases List.mem_cons.1 hm with rfl | hm
        · omega
        · have := h.1 m hm; omega
/-- the edges of a row -/
def edgesOf (l : List Sp) : List Nat := l.foldl (fun out a => insE (a.2 + 1) (insE a.1 out)) []
theorem edges_fold_rising (l : List Sp) (o : List Nat) (h : Rising o) : Rising (l.foldl (fun out a => insE (a.2 + 1) (insE a.1 out)) o) := by
  induction l generalizing o with
  | nil => exact h
  | cons a l ih => exact ih _ (insE_rising _ _ (insE_rising _ _ h))
theorem edges_fold_mem (l : List Sp) (o : List Nat) (m : Nat) : m ∈ l.foldl (fun out a => insE (a.2 + 1) (insE a.1 out)) o ↔ (m ∈ o ∨ ∃ a ∈ l, m = a.1 ∨ m = a.2 + 1) := by
  induction l generalizing o with
  | nil => simp
  | cons a l ih =>
    rw [List.foldl_cons, ih, insE_mem, insE_mem]
    simp only [List.mem_cons, exists_eq_or_imp]
    constructor
    · rintro ((h | h | h) | h)
      · exact .inr (.inl (.inr h))
      · exact .inr (.inl (.inl h))
      · exact .inl h
      · exact .inr (.inr h)
    · rintro (h | (h | h) | h)
      · exact .inl (.inr (.inr h))
      · exact .inl (.inr (.inl h))
      · exact .inl (.inl h)
      · exact .inr h
/-- between two edges that stand side by side membership does not turn -/
theorem spIn_between (l : List Sp) (x y : Nat) (hno : ∀ a ∈ l, (a.1 ≤ x ∨ y ≤ a.1) ∧ (a.2 + 1 ≤ x ∨ y ≤ a.2 + 1)) (n : Nat) (h1 : x ≤ n) (h2 : n < y) : spIn l n = spIn l x := by
  induction l with
  | nil => rfl
  | cons a l ih =>
    have h3 := hno a (by simp)
    have h4 := ih fun b hb => hno b (by simp [hb])
    have h5 : (decide (a.1 ≤ n) && decide (n ≤ a.2)) = (decide (a.1 ≤ x) && decide (x ≤ a.2)) := by
      rw [Bool.eq_iff_iff]
      simp only [Bool.and_eq_true, decide_eq_true_eq]
      omega
    simp only [spIn, List.any_cons] at h4 ⊢
    rw [h5, h4]
/-- a span put behind a right row that ends ahead of it -/
def spPush (out : List Sp) (x y : Nat) : List Sp :=
  match out.getLast? with
  | some z => if z.2 + 1 = x then out.dropLast ++ [(z.1, y - 1)] else out ++ [(x, y - 1)]
  | none => [(x, y - 1)]
theorem spRight_app (a : List Sp) (z : Sp) : spRight (a ++ [z]) = true ↔ (spRight a = true ∧ z.1 ≤ z.2 ∧ ∀ b ∈ a.getLast?, b.2 + 2 ≤ z.1) := by
  induction a with
  | nil => simp [spRight]
  | cons b a ih =>
    rw [List.cons_append, spRight_cons, ih, spRight_cons]
    cases a with
    | nil =>
      simp [spFrom, spRight]
      intro _
      exact and_comm
    | cons c a =>
      simp only [List.cons_append, spFrom, List.getLast?_cons_cons]
      constructor
      · rintro ⟨h1, h2, h3, h4, h5⟩; exact ⟨⟨h1, h2, h3⟩, h4, h5⟩
      · rintro ⟨⟨h1, h2, h3⟩, h4, h5⟩; exact ⟨h1, h2, h3, h4, h5⟩
theorem spPush_ok (out : List Sp) (x y : Nat) (hxy : x < y) (hr : spRight out = true) (hl : ∀ z ∈ out.getLast?, z.2 + 1 ≤ x) :
    spRight (spPush out x y) = true ∧ (∀ z ∈ (spPush out x y).getLast?, z.2 + 1 ≤ y) ∧ ∀ n, spIn (spPush out x y) n = true ↔ (spIn out n = true ∨ (x ≤ n ∧ n < y)) := by
  rcases List.eq_nil_or_concat out with rfl | ⟨a, z, rfl⟩
  · refine ⟨?_, ?_, fun n => ?_⟩
    · simp [spPush, spRight]; omega
    · simp [spPush]; omega
    · simp [spPush, spIn]; omega
  · simp only [List.concat_eq_append] at hr hl ⊢
    have hz := hl z (by simp)
    obtain ⟨h1, h2, h3⟩ := (spRight_app a z).1 hr
    unfold spPush
    simp only [List.getLast?_append, List.getLast?_singleton, Option.some_or, List.dropLast_concat]
    split
    · rename_i he
      refine ⟨(spRight_app _ _).2 ⟨h1, by simp; omega, h3⟩, by simp; omega, fun n => ?_⟩
      rw [spIn_app, spIn_app]
      simp [spIn]
      constructor
      · rintro (h | h)
        · exact .inl (.inl h)
        · by_cases h5 : n ≤ z.2
          · exact .inl (.inr ⟨h.1, h5⟩)
          · right; omega
      · rintro ((h | h) | h)
        · exact .inl h
        · right; omega
        · right; omega
    · refine ⟨(spRight_app _ _).2 ⟨hr, by simp; omega, by simp; omega⟩, by simp; omega, fun n => ?_⟩
      rw [spIn_app, show (spIn [(x, y - 1)] n = true) = (x ≤ n ∧ n < y) by simp [spIn]; intro _; omega]
end Go.PH

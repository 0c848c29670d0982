/- The reference's row between edges, as plain mathematics: right, with the members that are asked for. -/
import Derived.Test.YtjlfjlafpgjhbaaSpMath4
namespace Go.PH

/-- the pairs of neighbours among rising edges, put behind a row where the predicate holds -/
def spOfGo (p : Nat → Bool) (out : List Sp) : List Nat → List Sp
  | x :: y :: l => spOfGo p (if p x then spPush out x y else out) (y :: l)
  | _ => out
theorem spOfGo_ok (p q : Nat → Bool) : ∀ (e : List Nat) (out : List Sp), Rising e → spRight out = true → (∀ z ∈ out.getLast?, ∀ x ∈ e.head?, z.2 + 1 ≤ x) →
    (∀ x y, (∃ a b, e = a ++ x :: y :: b) → ∀ n, x ≤ n → n < y → q n = p x) →
    spRight (spOfGo p out e) = true ∧ ∀ n, spIn (spOfGo p out e) n = true ↔ (spIn out n = true ∨ (q n = true ∧ (∃ x ∈ e.head?, x ≤ n) ∧ ∃ y ∈ e.getLast?, n < y)) := by
  intro e
  induction e with
  | nil => intro out _ hr _ _; exact ⟨hr, fun n => by simp [spOfGo]⟩
  | cons x l ih =>
    intro out hri hr hl hq
    cases l with
    | nil =>
      refine ⟨hr, fun n => ?_⟩
      simp only [spOfGo, List.head?_cons, Option.mem_def, Option.some.injEq, exists_eq_left', List.getLast?_singleton]
      constructor
      · exact .inl
      · rintro (h | ⟨_, h1, h2⟩)
        · exact h
        · omega
    | cons y l =>
      have hri' : Rising (y :: l) := (List.pairwise_cons.1 hri).2
      have hxy : x < y := (List.pairwise_cons.1 hri).1 y (by simp)
      have hlast : ∀ z ∈ (y :: l).getLast?, y ≤ z := by
        intro z hz
        have hm : z ∈ y :: l := List.mem_of_getLast? hz
        rcases List.mem_cons.1 hm with rfl | hm
        · exact Nat.le_refl _
        · exact Nat.le_of_lt ((List.pairwise_cons.1 hri').1 z hm)
      have hne : ∃ z, (y :: l).getLast? = some z := by
        cases hz : (y :: l).getLast? with
        | none => simp at hz
        | some z => exact ⟨z, rfl⟩
      obtain ⟨z, hz⟩ := hne
      have hyz := hlast z hz
      have hgl : (x :: y :: l).getLast? = some z := by rw [List.getLast?_cons_cons]; exact hz
      have hq0 := hq x y ⟨[], l, rfl⟩
      have hq' : ∀ x' y', (∃ a b, y :: l = a ++ x' :: y' :: b) → ∀ n, x' ≤ n → n < y' → q n = p x' := fun x' y' ⟨a, b, h⟩ => hq x' y' ⟨x :: a, b, by rw [h]; rfl⟩
      rw [spOfGo]
      cases hp : p x
      · obtain ⟨i1, i2⟩ := ih out hri' hr (fun w hw v hv => by
          simp at hv; subst hv
          have := hl w hw x (by simp)
          omega) hq'
        simp only [Bool.false_eq_true, if_false]
        refine ⟨i1, fun n => ?_⟩
        rw [i2]
        simp only [hz, hgl, List.head?_cons, Option.mem_def, Option.some.injEq, exists_eq_left']
        constructor
        · rintro (h | ⟨h1, h2, h3⟩)
          · exact .inl h
          · exact .inr ⟨h1, by omega, h3⟩
        · rintro (h | ⟨h1, h2, h3⟩)
          · exact .inl h
          · rcases Nat.lt_or_ge n y with h4 | h4
            · rw [hq0 n h2 h4, hp] at h1; cases h1
            · exact .inr ⟨h1, h4, h3⟩
      · obtain ⟨p1, p2, p3⟩ := spPush_ok out x y hxy hr (fun w hw => hl w hw x (by simp))
        obtain ⟨i1, i2⟩ := ih (spPush out x y) hri' p1 (fun w hw v hv => by
          simp at hv; subst hv
          exact p2 w hw) hq'
        simp only [if_true]
        refine ⟨i1, fun n => ?_⟩
        rw [i2, p3]
        simp only [hz, hgl, List.head?_cons, Option.mem_def, Option.some.injEq, exists_eq_left']
        constructor
        · rintro ((h | ⟨h1, h2⟩) | ⟨h1, h2, h3⟩)
          · exact .inl h
          · exact .inr ⟨by rw [hq0 n h1 h2, hp], h1, by omega⟩
          · exact .inr ⟨h1, by omega, h3⟩
        · rintro (h | ⟨h1, h2, h3⟩)
          · exact .inl (.inl h)
          · rcases Nat.lt_or_ge n y with h4 | h4
            · exact .inl (.inr ⟨h2, h4⟩)
            · exact .inr ⟨h1, h4, h3⟩
/-- the reference's Of -/
def spOf (f : Bool → Bool → Bool) (a b : List Sp) : List Sp := spOfGo (fun x => f (spIn a x) (spIn b x)) [] (edgesOf (a ++ b))
theorem rising_split {l a b : List Nat} {x y m : Nat} (h : Rising l) (e : l = a ++ x :: y :: b) (hm : m ∈ l) : m ≤ x ∨ y ≤ m := by
  subst e
  rw [Rising, List.pairwise_append] at h
  obtain ⟨h1, h2, h3⟩ := h
  rcases List.mem_append.1 hm with hm | hm
  · exact .inl (Nat.le_of_lt (h3 m hm x (by simp)))
  · rcases List.mem_cons.1 hm with rfl | hm
    · exact .inl (Nat.le_refl _)
    · rcases List.mem_cons.1 hm with rfl | hm
      · exact .inr (Nat.le_refl _)
      · have := (List.pairwise_cons.1 (List.pairwise_cons.1 h2).2).1 m hm
        exact .inr (Nat.le_of_lt this)
theorem edgesOf_rising (l : List Sp) : Rising (edgesOf l) := edges_fold_rising l [] (by simp [Rising])
theorem edgesOf_mem (l : List Sp) (m : Nat) : m ∈ edgesOf l ↔ ∃ a ∈ l, m = a.1 ∨ m = a.2 + 1 := by
  rw [edgesOf, edges_fold_mem]; simp
theorem rising_head {l : List Nat} (h : Rising l) {m : Nat} (hm : m ∈ l) : ∃ x ∈ l.head?, x ≤ m := by
  cases l with
  | nil => cases hm
  | cons y l =>
    refine ⟨y, by simp, ?_⟩
    rcases List.mem_cons.1 hm with rfl | hm
    · exact Nat.le_refl _
    · exact Nat.le_of_lt ((List.pairwise_cons.1 h).1 m hm)
theorem rising_last {l : List Nat} (h : Rising l) {m : Nat} (hm : m ∈ l) : ∃ x ∈ l.getLast?, m ≤ x := by
  rcases List.eq_nil_or_concat l with rfl | ⟨a, z, rfl⟩
  · cases hm
  · simp only [List.concat_eq_append] at *
    refine ⟨z, by simp, ?_⟩
    rw [Rising, List.pairwise_append] at h
    rcases List.mem_append.1 hm with hm | hm
    · exact Nat.le_of_lt (h.2.2 m hm z (by simp))
    · simp at hm; omega
theorem spIn_edges (l k : List Sp) (hlk : ∀ a ∈ l, a ∈ k) (n : Nat) (hn : spIn l n = true) : (∃ x ∈ (edgesOf k).head?, x ≤ n) ∧ ∃ y ∈ (edgesOf k).getLast?, n < y := by
  simp only [spIn, List.any_eq_true, Bool.and_eq_true, decide_eq_true_eq] at hn
  obtain ⟨a, ha, h1, h2⟩ := hn
  obtain ⟨x, hx, hxl⟩ := rising_head (edgesOf_rising k) ((edgesOf_mem k a.1).2 ⟨a, hlk a ha, .inl rfl⟩)
  obtain ⟨y, hy, hyl⟩ := rising_last (edgesOf_rising k) ((edgesOf_mem k (a.2 + 1)).2 ⟨a, hlk a ha, .inr rfl⟩)
  exact ⟨⟨x, hx, by omega⟩, ⟨y, hy, by omega⟩⟩
theorem spOf_ok (f : Bool → Bool → Bool) (hf : f false false = false) (a b : List Sp) : spRight (spOf f a b) = true ∧ ∀ n, spIn (spOf f a b) n = f (spIn a n) (spIn b n) := by
  have hri := edgesOf_rising (a ++ b)
  have hbt : ∀ (l : List Sp), (∀ z ∈ l, z ∈ a ++ b) → ∀ x y, (∃ u v, edgesOf (a ++ b) = u ++ x :: y :: v) → ∀ n, x ≤ n → n < y → spIn l n = spIn l x := by
    intro l hl x y ⟨u, v, e⟩ n h1 h2
    refine spIn_between l x y (fun z hz => ?_) n h1 h2
    have m1 := rising_split hri e ((edgesOf_mem _ z.1).2 ⟨z, hl z hz, .inl rfl⟩)
    have m2 := rising_split hri e ((edgesOf_mem _ (z.2 + 1)).2 ⟨z, hl z hz, .inr rfl⟩)
    exact ⟨m1, m2⟩
  obtain ⟨h1, h2⟩ := spOfGo_ok (fun x => f (spIn a x) (spIn b x)) (fun n => f (spIn a n) (spIn b n)) (edgesOf (a ++ b)) [] hri rfl (by simp) (fun x y hxy n hn1 hn2 => by
    show f (spIn a n) (spIn b n) = f (spIn a x) (spIn b x)
    rw [hbt a (fun z hz => by simp [hz]) x y hxy n hn1 hn2, hbt b (fun z hz => by simp [hz]) x y hxy n hn1 hn2])
  refine ⟨h1, fun n => ?_⟩
  rw [Bool.eq_iff_iff]
  show spIn (spOfGo _ [] _) n = true ↔ _
  rw [h2]
  constructor
  · rintro (h | h)
    · simp [spIn] at h
    · exact h.1
  · intro h
    refine .inr ⟨h, ?_⟩
    rcases ha : spIn a n with _ | _
    · rcases hb : spIn b n with _ | _
      · rw [ha, hb, hf] at h; cases h
      · exact spIn_edges b (a ++ b) (fun z hz => by simp [hz]) n hb
    · exact spIn_edges a (a ++ b) (fun z hz => by simp [hz]) n ha
end Go.PH

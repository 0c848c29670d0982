/- What Has, Both, Either tell, as plain mathematics. -/
import Derived.Test.YtjlfjlafpgjhbaaSpMath5
namespace Go.PH

/-- the place of a number in a right row: spans that end ahead of it stand ahead of the place, the others behind -/
def spAt (l : List Sp) (m i : Nat) : Prop := i ≤ l.length ∧ (∀ k (h : k < l.length), k < i → l[k].2 < m) ∧ ∀ k (h : k < l.length), i ≤ k → m ≤ l[k].2
theorem spAt_tail {a : Sp} {l : List Sp} {m i : Nat} (h : spAt (a :: l) m (i + 1)) : a.2 < m ∧ spAt l m i :=
  ⟨h.2.1 0 (by simp) (by omega), by have := h.1; simp at this; omega, fun k hk hi => h.2.1 (k + 1) (by simp; omega) (by omega), fun k hk hi => h.2.2 (k + 1) (by simp; omega) (by omega)⟩
theorem spAt_zero {a : Sp} {l : List Sp} {m : Nat} (h : spAt (a :: l) m 0) : m ≤ a.2 := h.2.2 0 (by simp) (by omega)
theorem spAdd_at (f t : Nat) : ∀ (l : List Sp) (i : Nat), spAt l (f - 1) i → spAdd f t l = l.take i ++ (spTake (f, t) t (l.drop i)).1 :: (spTake (f, t) t (l.drop i)).2
  | [], i, _ => by simp [spAdd, spTake]
  | a :: l, 0, h => by
    have := spAt_zero h
    rw [spAdd, if_neg (by omega)]
    rfl
  | a :: l, i + 1, h => by
    obtain ⟨h1, h2⟩ := spAt_tail h
    rw [spAdd, if_pos h1, spAdd_at f t l i h2]
    rfl
theorem spHas_at (n : Nat) : ∀ (l : List Sp) (i : Nat), spRight l = true → spAt l n i → spIn l n = match l[i]? with | some a => decide (a.1 ≤ n) | none => false
  | [], i, _, _ => by simp [spIn]
  | a :: l, 0, hr, h => by
    have h1 := spAt_zero h
    simp only [List.getElem?_cons_zero]
    rw [Bool.eq_iff_iff, spIn_cons]
    simp only [decide_eq_true_eq]
    constructor
    · rintro (h2 | h2)
      · exact h2.1
      · have := spRight_far hr h2; omega
    · intro h2; exact .inl ⟨h2, h1⟩
  | a :: l, i + 1, hr, h => by
    obtain ⟨h1, h2⟩ := spAt_tail h
    have ih := spHas_at n l i (spRight_tail hr) h2
    rw [List.getElem?_cons_succ, ← ih, Bool.eq_iff_iff, spIn_cons]
    constructor
    · rintro (h3 | h3)
      · omega
      · exact h3
    · exact .inr
/-- what a row has of one span -/
def spOver (s : Sp) : List Sp → List Sp
  | [] => []
  | a :: l => if a.2 < s.1 then spOver s l else if a.1 ≤ s.2 then (max a.1 s.1, min a.2 s.2) :: spOver s l else []
/-- behind the place: as long as spans begin in s -/
def spClip (s : Sp) : List Sp → List Sp
  | [] => []
  | a :: l => if a.1 ≤ s.2 then (max a.1 s.1, min a.2 s.2) :: spClip s l else []
theorem spOver_clip (s : Sp) (hs : s.1 ≤ s.2) : ∀ (l : List Sp), spRight l = true → spFrom s.1 l → spOver s l = spClip s l
  | [], _, _ => rfl
  | a :: l, hr, hf => by
    obtain ⟨h1, h2, h3⟩ := spRight_cons.1 hr
    simp only [spFrom] at hf
    rw [spOver, if_neg (by omega), spClip, spOver_clip s hs l h3 (by cases l with | nil => trivial | cons b l => simp only [spFrom] at h2 ⊢; omega)]
theorem spOver_at (s : Sp) (hs : s.1 ≤ s.2) : ∀ (l : List Sp) (i : Nat), spRight l = true → spAt l s.1 i → spOver s l = spClip s (l.drop i)
  | [], i, _, _ => by simp [spOver, spClip]
  | a :: l, 0, hr, h => by
    obtain ⟨h1, h2, h3⟩ := spRight_cons.1 hr
    have h0 := spAt_zero h
    rw [spOver, if_neg (by omega), List.drop_zero, spClip, spOver_clip s hs l h3 (by cases l with | nil => trivial | cons b l => simp only [spFrom] at h2 ⊢; omega)]
  | a :: l, i + 1, hr, h => by
    obtain ⟨h1, h2⟩ := spAt_tail h
    rw [spOver, if_pos h1, spOver_at s hs l i (spRight_tail hr) h2]
    rfl
theorem spOver_in (s : Sp) : ∀ (l : List Sp), spRight l = true → ∀ n, spIn (spOver s l) n = true ↔ (spIn l n = true ∧ s.1 ≤ n ∧ n ≤ s.2)
  | [], _, n => by simp [spOver, spIn]
  | a :: l, hr, n => by
    have ih := spOver_in s l (spRight_tail hr) n
    have hd := spRight_head hr
    rw [spOver]
    split
    · rw [ih, spIn_cons]
      constructor
      · rintro ⟨h1, h2⟩; exact ⟨.inr h1, h2⟩
      · rintro ⟨h1 | h1, h2⟩
        · omega
        · exact ⟨h1, h2⟩
    · split
      · rw [spIn_cons, ih, spIn_cons]
        simp only
        constructor
        · rintro (h1 | h1)
          · exact ⟨.inl (by omega), by omega⟩
          · exact ⟨.inr h1.1, h1.2⟩
        · rintro ⟨h1 | h1, h2⟩
          · left; omega
          · exact .inr ⟨h1, h2⟩
      · rw [spIn_cons]
        constructor
        · intro h; simp [spIn] at h
        · rintro ⟨h1 | h1, h2⟩
          · omega
          · have := spRight_far hr h1; omega
theorem spOver_right (s : Sp) (hs : s.1 ≤ s.2) : ∀ (l : List Sp), spRight l = true → spRight (spOver s l) = true ∧ (∀ m, spFrom m l → spFrom m (spOver s l)) ∧ spFrom s.1 (spOver s l) ∧ ∀ z ∈ (spOver s l).getLast?, z.2 ≤ s.2
  | [], _ => ⟨rfl, fun _ h => h, trivial, by simp [spOver]⟩
  | a :: l, hr => by
    obtain ⟨h1, h2, h3⟩ := spRight_cons.1 hr
    obtain ⟨i1, i2, i3, i4⟩ := spOver_right s hs l h3
    rw [spOver]
    split
    · refine ⟨i1, fun m hm => ?_, i3, i4⟩
      have := i2 _ h2
      cases hc : spOver s l with
      | nil => trivial
      | cons b r => rw [hc] at this; simp only [spFrom] at this hm ⊢; omega
    · split
      · refine ⟨spRight_cons.2 ⟨by simp; omega, ?_, i1⟩, fun m hm => by simp only [spFrom] at hm ⊢; omega, by simp only [spFrom]; omega, ?_⟩
        · have := i2 _ h2
          cases hc : spOver s l with
          | nil => trivial
          | cons b r => rw [hc] at this; simp only [spFrom] at this ⊢; omega
        · intro z hz
          cases hc : spOver s l with
          | nil => rw [hc] at hz; simp at hz; subst hz; simp; omega
          | cons b r => rw [hc] at hz i4; rw [List.getLast?_cons_cons] at hz; exact i4 z hz
      · exact ⟨rfl, fun _ _ => trivial, trivial, by simp⟩
def spBoth (a b : List Sp) : List Sp := b.flatMap fun s => spOver s a
theorem spBoth_in (a b : List Sp) (ha : spRight a = true) (n : Nat) : spIn (spBoth a b) n = true ↔ (spIn a n = true ∧ spIn b n = true) := by
  induction b with
  | nil => simp [spBoth, spIn]
  | cons s b ih =>
    rw [spBoth, List.flatMap_cons, spIn_app, spOver_in s a ha, spIn_cons]
    rw [spBoth] at ih
    rw [ih]
    constructor
    · rintro (⟨h1, h2⟩ | ⟨h1, h2⟩)
      · exact ⟨h1, .inl h2⟩
      · exact ⟨h1, .inr h2⟩
    · rintro ⟨h1, h2 | h2⟩
      · exact .inl ⟨h1, h2⟩
      · exact .inr ⟨h1, h2⟩
theorem spRight_glue : ∀ (a b : List Sp), spRight a = true → spRight b = true → (∀ z ∈ a.getLast?, spFrom (z.2 + 2) b) → spRight (a ++ b) = true
  | [], b, _, hb, _ => hb
  | x :: a, b, ha, hb, h => by
    obtain ⟨h1, h2, h3⟩ := spRight_cons.1 ha
    rw [List.cons_append]
    refine spRight_cons.2 ⟨h1, ?_, spRight_glue a b h3 hb (fun z hz => h z ?_)⟩
    · cases a with
      | nil => exact h x (by simp)
      | cons y a => exact h2
    · cases a with
      | nil => simp at hz
      | cons y a => rw [List.getLast?_cons_cons]; exact hz
theorem spBoth_right (a b : List Sp) (ha : spRight a = true) (hb : spRight b = true) : spRight (spBoth a b) = true ∧ ∀ m, spFrom m b → spFrom m (spBoth a b) := by
  induction b with
  | nil => exact ⟨rfl, fun _ h => h⟩
  | cons s b ih =>
    obtain ⟨h1, h2, h3⟩ := spRight_cons.1 hb
    obtain ⟨i1, i2⟩ := ih h3
    obtain ⟨o1, _, o3, o4⟩ := spOver_right s h1 a ha
    have e : spBoth a (s :: b) = spOver s a ++ spBoth a b := by rw [spBoth, List.flatMap_cons]; rfl
    rw [e]
    have wk : ∀ m m' (l : List Sp), m ≤ m' → spFrom m' l → spFrom m l := fun m m' l hm h => by
      cases l with
      | nil => trivial
      | cons b r => simp only [spFrom] at h ⊢; omega
    have i3 := i2 _ h2
    refine ⟨spRight_glue _ _ o1 i1 (fun z hz => wk _ _ _ (by have := o4 z hz; omega) i3), fun m hm => ?_⟩
    simp only [spFrom] at hm
    cases hc : spOver s a with
    | nil => exact wk _ _ _ (by omega) i3
    | cons y r => rw [hc] at o3; simp only [spFrom] at o3; simp only [List.cons_append, spFrom]; omega
def spEither (a b : List Sp) : List Sp := b.foldl (fun out s => spAdd s.1 s.2 out) a
theorem spEither_ok (b : List Sp) : ∀ (a : List Sp), spRight a = true → (∀ s ∈ b, s.1 ≤ s.2) → spRight (spEither a b) = true ∧ ∀ n, spIn (spEither a b) n = true ↔ (spIn a n = true ∨ spIn b n = true) := by
  induction b with
  | nil => intro a ha _; exact ⟨ha, fun n => by simp [spEither, spIn]⟩
  | cons s b ih =>
    intro a ha hs
    have h1 := hs s (by simp)
    obtain ⟨i1, i2⟩ := ih (spAdd s.1 s.2 a) (spAdd_right s.1 s.2 h1 a ha).1 (fun z hz => hs z (by simp [hz]))
    refine ⟨i1, fun n => ?_⟩
    show spIn (spEither (spAdd s.1 s.2 a) b) n = true ↔ _
    rw [i2, spAdd_in s.1 s.2 h1 a ha, spIn_cons]
    constructor
    · rintro ((h | h) | h)
      · exact .inr (.inl h)
      · exact .inl h
      · exact .inr (.inr h)
    · rintro (h | h | h)
      · exact .inl (.inr h)
      · exact .inl (.inl h)
      · exact .inr h
theorem spRight_each {l : List Sp} (h : spRight l = true) : ∀ a ∈ l, a.1 ≤ a.2 := by
  induction l with
  | nil => simp
  | cons b l ih =>
    obtain ⟨h1, _, h3⟩ := spRight_cons.1 h
    intro a ha
    rcases List.mem_cons.1 ha with rfl | ha
    · exact h1
    · exact ih h3 a ha
/-- the reference's answers are the program's -/
theorem spOf_add (l : List Sp) (f t : Nat) (hft : f ≤ t) (hr : spRight l = true) : spOf (· || ·) l [(f, t)] = spAdd f t l := by
  obtain ⟨h1, h2⟩ := spOf_ok (· || ·) rfl l [(f, t)]
  refine spRight_ext h1 (spAdd_right f t hft l hr).1 fun n => ?_
  rw [h2, Bool.eq_iff_iff, spAdd_in f t hft l hr]
  simp [spIn, or_comm]
theorem spOf_cut (l : List Sp) (f t : Nat) (hft : f ≤ t) (hr : spRight l = true) : spOf (fun x y => x && !y) l [(f, t)] = spCut f t l := by
  obtain ⟨h1, h2⟩ := spOf_ok (fun x y => x && !y) rfl l [(f, t)]
  refine spRight_ext h1 (spCut_right f t hft l hr).1 fun n => ?_
  rw [h2, Bool.eq_iff_iff, spCut_in f t hft l]
  rw [Bool.and_eq_true, Bool.not_eq_true', ← Bool.not_eq_true, spIn_cons]
  simp [spIn]

theorem spOf_both (a b : List Sp) (ha : spRight a = true) (hb : spRight b = true) : spOf (· && ·) a b = spBoth a b := by
  obtain ⟨h1, h2⟩ := spOf_ok (· && ·) rfl a b
  refine spRight_ext h1 (spBoth_right a b ha hb).1 fun n => ?_
  rw [h2, Bool.eq_iff_iff, spBoth_in a b ha]
  simp
theorem spOf_either (a b : List Sp) (ha : spRight a = true) (hb : spRight b = true) : spOf (· || ·) a b = spEither a b := by
  obtain ⟨h1, h2⟩ := spOf_ok (· || ·) rfl a b
  have h3 := spEither_ok b a ha (spRight_each hb)
  refine spRight_ext h1 h3.1 fun n => ?_
  rw [h2, Bool.eq_iff_iff, h3.2]
  simp
end Go.PH

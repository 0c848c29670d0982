/- Texts laid together: SpMath6, SpMath7, SpMem, SpRRight, SpSame, SpSee. -/
import Derived.Deep.QuietTactic
import Derived.BigQuiet
import Derived.Laws.StructEq
import Derived.Test.YtidpbbleneekgaaGreatDoorMg01
import Derived.Test.YtidpbbleneekgaaGreatDoorMg02
import Derived.Test.YtidpbbleneekgaaGreatDoorMg03
import Derived.Test.YtidpbbleneekgaaGreatDoorMg05
section
/- What Has, Both, Either tell, as plain mathematics. -/
set_option linter.all false
set_option linter.unusedSimpArgs false
set_option linter.unusedVariables false
namespace Go.PH

/-- the place of a number in a right row: spans that end ahead of it stand ahead of the place, the others behind -/
def spAt (l : List Sp) (m i : Nat) : Prop := i ≤ l.length ∧ (∀ k (h : k < l.length), k < i → l[k].2 < m) ∧ ∀ k (h : k < l.length), i ≤ k → m ≤ l[k].2
theorem spAt_tail {a : Sp} {l : List Sp} {m i : Nat} (h : spAt (a :: l) m (i + 1)) : a.2 < m ∧ spAt l m i :=
  ⟨h.2.1 0 (by simp) (by omega), by have := h.1; simp at this; omega, fun k hk hi => h.2.1 (k + 1) (by simp; omega) (by omega), fun k hk hi => h.2.2 (k + 1) (by simp; omega) (by omega)⟩
theorem spAt_zero {a : Sp} {l : List Sp} {m : Nat} (h : spAt (a :: l) m 0) : m ≤ a.2 := h.2.2 0 (by simp) (by omega)
theorem spAdd_at (f t : Nat) : ∀ (l : List Sp) (i : Nat), spAt l (f - 1) i → spAdd f t l = l.take i ++ (spTake (f, t) t (l.drop i)).1 :: (spTake (f, t) t (l.drop i)).2
  | [], i, _ => by simp [spAdd, spTake]
  | a :: l, 0, h => by
    have := spAt_zero h
    rw [spAdd, if_neg (by omega)]
    rfl
  | a :: l, i + 1, h => by
    obtain ⟨h1, h2⟩ := spAt_tail h
    rw [spAdd, if_pos h1, spAdd_at f t l i h2]
    rfl
theorem spHas_at (n : Nat) : ∀ (l : List Sp) (i : Nat), spRight l = true → spAt l n i → spIn l n = match l[i]? with | some a => decide (a.1 ≤ n) | none => false
  | [], i, _, _ => by simp [spIn]
  | a :: l, 0, hr, h => by
    have h1 := spAt_zero h
    simp only [List.getElem?_cons_zero]
    rw [Bool.eq_iff_iff, spIn_cons]
    simp only [decide_eq_true_eq]
    constructor
    · rintro (h2 | h2)
      · exact h2.1
      · have := spRight_far hr h2; omega
    · intro h2; exact .inl ⟨h2, h1⟩
  | a :: l, i + 1, hr, h => by
    obtain ⟨h1, h2⟩ := spAt_tail h
    have ih := spHas_at n l i (spRight_tail hr) h2
    rw [List.getElem?_cons_succ, ← ih, Bool.eq_iff_iff, spIn_cons]
    constructor
    · rintro (h3 | h3)
      · omega
      · exact h3
    · exact .inr
/-- what a row has of one span -/
def spOver (s : Sp) : List Sp → List Sp
  | [] => []
  | a :: l => if a.2 < s.1 then spOver s l else if a.1 ≤ s.2 then (max a.1 s.1, min a.2 s.2) :: spOver s l else []
/-- behind the place: as long as spans begin in s -/
def spClip (s : Sp) : List Sp → List Sp
  | [] => []
  | a :: l => if a.1 ≤ s.2 then (max a.1 s.1, min a.2 s.2) :: spClip s l else []
theorem spOver_clip (s : Sp) (hs : s.1 ≤ s.2) : ∀ (l : List Sp), spRight l = true → spFrom s.1 l → spOver s l = spClip s l
  | [], _, _ => rfl
  | a :: l, hr, hf => by
    obtain ⟨h1, h2, h3⟩ := spRight_cons.1 hr
    simp only [spFrom] at hf
    rw [spOver, if_neg (by omega), spClip, spOver_clip s hs l h3 (by cases l with | nil => trivial | cons b l => simp only [spFrom] at h2 ⊢; omega)]
theorem spOver_at (s : Sp) (hs : s.1 ≤ s.2) : ∀ (l : List Sp) (i : Nat), spRight l = true → spAt l s.1 i → spOver s l = spClip s (l.drop i)
  | [], i, _, _ => by simp [spOver, spClip]
  | a :: l, 0, hr, h => by
    obtain ⟨h1, h2, h3⟩ := spRight_cons.1 hr
    have h0 := spAt_zero h
    rw [spOver, if_neg (by omega), List.drop_zero, spClip, spOver_clip s hs l h3 (by cases l with | nil => trivial | cons b l => simp only [spFrom] at h2 ⊢; omega)]
  | a :: l, i + 1, hr, h => by
    obtain ⟨h1, h2⟩ := spAt_tail h
    rw [spOver, if_pos h1, spOver_at s hs l i (spRight_tail hr) h2]
    rfl
theorem spOver_in (s : Sp) : ∀ (l : List Sp), spRight l = true → ∀ n, spIn (spOver s l) n = true ↔ (spIn l n = true ∧ s.1 ≤ n ∧ n ≤ s.2)
  | [], _, n => by simp [spOver, spIn]
  | a :: l, hr, n => by
    have ih := spOver_in s l (spRight_tail hr) n
    have hd := spRight_head hr
    rw [spOver]
    split
    · rw [ih, spIn_cons]
      constructor
      · rintro ⟨h1, h2⟩; exact ⟨.inr h1, h2⟩
      · rintro ⟨h1 | h1, h2⟩
        · omega
        · exact ⟨h1, h2⟩
    · split
      · rw [spIn_cons, ih, spIn_cons]
        simp only
        constructor
        · rintro (h1 | h1)
          · exact ⟨.inl (by omega), by omega⟩
          · exact ⟨.inr h1.1, h1.2⟩
        · rintro ⟨h1 | h1, h2⟩
          · left; omega
          · exact .inr ⟨h1, h2⟩
      · rw [spIn_cons]
        constructor
        · intro h; simp [spIn] at h
        · rintro ⟨h1 | h1, h2⟩
          · omega
          · have := spRight_far hr h1; omega
theorem spOver_right (s : Sp) (hs : s.1 ≤ s.2) : ∀ (l : List Sp), spRight l = true → spRight (spOver s l) = true ∧ (∀ m, spFrom m l → spFrom m (spOver s l)) ∧ spFrom s.1 (spOver s l) ∧ ∀ z ∈ (spOver s l).getLast?, z.2 ≤ s.2
  | [], _ => ⟨rfl, fun _ h => h, trivial, by simp [spOver]⟩
  | a :: l, hr => by
    obtain ⟨h1, h2, h3⟩ := spRight_cons.1 hr
    obtain ⟨i1, i2, i3, i4⟩ := spOver_right s hs l h3
    rw [spOver]
    split
    · refine ⟨i1, fun m hm => ?_, i3, i4⟩
      have := i2 _ h2
      cases hc : spOver s l with
      | nil => trivial
      | cons b r => rw [hc] at this; simp only [spFrom] at this hm ⊢; omega
    · split
      · refine ⟨spRight_cons.2 ⟨by simp; omega, ?_, i1⟩, fun m hm => by simp only [spFrom] at hm ⊢; omega, by simp only [spFrom]; omega, ?_⟩
        · have := i2 _ h2
          cases hc : spOver s l with
          | nil => trivial
          | cons b r => rw [hc] at this; simp only [spFrom] at this ⊢; omega
        · intro z hz
          cases hc : spOver s l with
          | nil => rw [hc] at hz; simp at hz; subst hz; simp; omega
          | cons b r => rw [hc] at hz i4; rw [List.getLast?_cons_cons] at hz; exact i4 z hz
      · exact ⟨rfl, fun _ _ => trivial, trivial, by simp⟩
def spBoth (a b : List Sp) : List Sp := b.flatMap fun s => spOver s a
theorem spBoth_in (a b : List Sp) (ha : spRight a = true) (n : Nat) : spIn (spBoth a b) n = true ↔ (spIn a n = true ∧ spIn b n = true) := by
  induction b with
  | nil => simp [spBoth, spIn]
  | cons s b ih =>
    rw [spBoth, List.flatMap_cons, spIn_app, spOver_in s a ha, spIn_cons]
    rw [spBoth] at ih
    rw [ih]
    constructor
    · rintro (⟨h1, h2⟩ | ⟨h1, h2⟩)
      · exact ⟨h1, .inl h2⟩
      · exact ⟨h1, .inr h2⟩
    · rintro ⟨h1, h2 | h2⟩
      · exact .inl ⟨h1, h2⟩
      · exact .inr ⟨h1, h2⟩
theorem spRight_glue : ∀ (a b : List Sp), spRight a = true → spRight b = true → (∀ z ∈ a.getLast?, spFrom (z.2 + 2) b) → spRight (a ++ b) = true
  | [], b, _, hb, _ => hb
  | x :: a, b, ha, hb, h => by
    obtain ⟨h1, h2, h3⟩ := spRight_cons.1 ha
    rw [List.cons_append]
    refine spRight_cons.2 ⟨h1, ?_, spRight_glue a b h3 hb (fun z hz => h z ?_)⟩
    · cases a with
      | nil => exact h x (by simp)
      | cons y a => exact h2
    · cases a with
      | nil => simp at hz
      | cons y a => rw [List.getLast?_cons_cons]; exact hz
theorem spBoth_right (a b : List Sp) (ha : spRight a = true) (hb : spRight b = true) : spRight (spBoth a b) = true ∧ ∀ m, spFrom m b → spFrom m (spBoth a b) := by
  induction b with
  | nil => exact ⟨rfl, fun _ h => h⟩
  | cons s b ih =>
    obtain ⟨h1, h2, h3⟩ := spRight_cons.1 hb
    obtain ⟨i1, i2⟩ := ih h3
    obtain ⟨o1, _, o3, o4⟩ := spOver_right s h1 a ha
    have e : spBoth a (s :: b) = spOver s a ++ spBoth a b := by rw [spBoth, List.flatMap_cons]; rfl
    rw [e]
    have wk : ∀ m m' (l : List Sp), m ≤ m' → spFrom m' l → spFrom m l := fun m m' l hm h => by
      cases l with
      | nil => trivial
      | cons b r => simp only [spFrom] at h ⊢; omega
    have i3 := i2 _ h2
    refine ⟨spRight_glue _ _ o1 i1 (fun z hz => wk _ _ _ (by have := o4 z hz; omega) i3), fun m hm => ?_⟩
    simp only [spFrom] at hm
    cases hc : spOver s a with
    | nil => exact wk _ _ _ (by omega) i3
    | cons y r => rw [hc] at o3; simp only [spFrom] at o3; simp only [List.cons_append, spFrom]; omega
def spEither (a b : List Sp) : List Sp := b.foldl (fun out s => spAdd s.1 s.2 out) a
theorem spEither_ok (b : List Sp) : ∀ (a : List Sp), spRight a = true → (∀ s ∈ b, s.1 ≤ s.2) → spRight (spEither a b) = true ∧ ∀ n, spIn (spEither a b) n = true ↔ (spIn a n = true ∨ spIn b n = true) := by
  induction b with
  | nil => intro a ha _; exact ⟨ha, fun n => by simp [spEither, spIn]⟩
  | cons s b ih =>
    intro a ha hs
    have h1 := hs s (by simp)
    obtain ⟨i1, i2⟩ := ih (spAdd s.1 s.2 a) (spAdd_right s.1 s.2 h1 a ha).1 (fun z hz => hs z (by simp [hz]))
    refine ⟨i1, fun n => ?_⟩
    show spIn (spEither (spAdd s.1 s.2 a) b) n = true ↔ _
    rw [i2, spAdd_in s.1 s.2 h1 a ha, spIn_cons]
    constructor
    · rintro ((h | h) | h)
      · exact .inr (.inl h)
      · exact .inl h
      · exact .inr (.inr h)
    · rintro (h | h | h)
      · exact .inl (.inr h)
      · exact .inl (.inl h)
      · exact .inr h
theorem spRight_each {l : List Sp} (h : spRight l = true) : ∀ a ∈ l, a.1 ≤ a.2 := by
  induction l with
  | nil => simp
  | cons b l ih =>
    obtain ⟨h1, _, h3⟩ := spRight_cons.1 h
    intro a ha
    rcases List.mem_cons.1 ha with rfl | ha
    · exact h1
    · exact ih h3 a ha
/-- the reference's answers are the program's -/
theorem spOf_add (l : List Sp) (f t : Nat) (hft : f ≤ t) (hr : spRight l = true) : spOf (· || ·) l [(f, t)] = spAdd f t l := by
  obtain ⟨h1, h2⟩ := spOf_ok (· || ·) rfl l [(f, t)]
  refine spRight_ext h1 (spAdd_right f t hft l hr).1 fun n => ?_
  rw [h2, Bool.eq_iff_iff, spAdd_in f t hft l hr]
  simp [spIn, or_comm]
theorem spOf_cut (l : List Sp) (f t : Nat) (hft : f ≤ t) (hr : spRight l = true) : spOf (fun x y => x && !y) l [(f, t)] = spCut f t l := by
  obtain ⟨h1, h2⟩ := spOf_ok (fun x y => x && !y) rfl l [(f, t)]
  refine spRight_ext h1 (spCut_right f t hft l hr).1 fun n => ?_
  rw [h2, Bool.eq_iff_iff, spCut_in f t hft l]
  rw [Bool.and_eq_true, Bool.not_eq_true', ← Bool.not_eq_true, spIn_cons]
  simp [spIn]

theorem spOf_both (a b : List Sp) (ha : spRight a = true) (hb : spRight b = true) : spOf (· && ·) a b = spBoth a b := by
  obtain ⟨h1, h2⟩ := spOf_ok (· && ·) rfl a b
  refine spRight_ext h1 (spBoth_right a b ha hb).1 fun n => ?_
  rw [h2, Bool.eq_iff_iff, spBoth_in a b ha]
  simp
theorem spOf_either (a b : List Sp) (ha : spRight a = true) (hb : spRight b = true) : spOf (· || ·) a b = spEither a b := by
  obtain ⟨h1, h2⟩ := spOf_ok (· || ·) rfl a b
  have h3 := spEither_ok b a ha (spRight_each hb)
  refine spRight_ext h1 h3.1 fun n => ?_
  rw [h2, Bool.eq_iff_iff, h3.2]
  simp
end Go.PH
end
section
/- Rows by their beginnings; how many numbers a row has; as plain mathematics. -/
set_option linter.all false
set_option linter.unusedSimpArgs false
set_option linter.unusedVariables false
namespace Go.PH

theorem spRight_front : ∀ {a b : List Sp}, spRight (a ++ b) = true → spRight a = true
  | [], _, _ => rfl
  | x :: a, b, h => by
    rw [List.cons_append] at h
    obtain ⟨h1, h2, h3⟩ := spRight_cons.1 h
    refine spRight_cons.2 ⟨h1, ?_, spRight_front h3⟩
    cases a with
    | nil => trivial
    | cons y a => exact h2
theorem spRight_take {l : List Sp} (h : spRight l = true) (k : Nat) : spRight (l.take k) = true := spRight_front (b := l.drop k) (by rw [List.take_append_drop]; exact h)
/-- the next span stands rightly behind those ahead of it -/
def spNext (l : List Sp) (k : Nat) (h : k < l.length) : Prop := l[k].1 ≤ l[k].2 ∧ ∀ (h0 : 0 < k), l[k - 1].2 + 2 ≤ l[k].1
theorem spRight_next {l : List Sp} {k : Nat} (hk : k < l.length) (h : spRight (l.take k) = true) : spRight (l.take (k + 1)) = true ↔ spNext l k hk := by
  rw [List.take_succ_eq_append_getElem hk, spRight_app]
  unfold spNext
  constructor
  · rintro ⟨_, h1, h2⟩
    refine ⟨h1, fun h0 => h2 _ ?_⟩
    rw [List.getLast?_eq_getElem?, List.length_take, Nat.min_eq_left (by omega), List.getElem?_take, if_pos (by omega), List.getElem?_eq_getElem (by omega)]
    rfl
  · rintro ⟨h1, h2⟩
    refine ⟨h, h1, fun b hb => ?_⟩
    rcases Nat.eq_zero_or_pos k with rfl | h0
    · simp at hb
    · rw [List.getLast?_eq_getElem?, List.length_take, Nat.min_eq_left (by omega), List.getElem?_take, if_pos (by omega), List.getElem?_eq_getElem (by omega)] at hb
      cases hb
      exact h2 h0
theorem spRight_yes {l : List Sp} {k : Nat} (hk : k < l.length) (h : spRight (l.take k) = true) (h1 : spNext l k hk) : spRight (l.take (k + 1)) = true := (spRight_next hk h).2 h1
theorem spRight_no {l : List Sp} {k : Nat} (hk : k < l.length) (h : spRight (l.take k) = true) (h1 : ¬ spNext l k hk) : spRight l = false := by
  rcases hr : spRight l with _ | _
  · rfl
  · exact absurd ((spRight_next hk h).1 (spRight_take hr _)) h1
theorem spNext_iff {l : List Sp} {k : Nat} (hk : k < l.length) : spNext l k hk ↔ (l[k].1 ≤ l[k].2 ∧ (k = 0 ∨ (l.getD (k - 1) (0, 0)).2 + 2 ≤ l[k].1)) := by
  unfold spNext
  have e : l.getD (k - 1) (0, 0) = l[k - 1] := by
    have : k - 1 < l.length := by omega
    simp [List.getD, List.getElem?_eq_getElem this]
  rw [e]
  constructor
  · rintro ⟨h1, h2⟩
    refine ⟨h1, ?_⟩
    rcases Nat.eq_zero_or_pos k with h0 | h0
    · exact .inl h0
    · exact .inr (h2 h0)
  · rintro ⟨h1, h2⟩
    refine ⟨h1, fun h0 => ?_⟩
    rcases h2 with h2 | h2
    · omega
    · exact h2
/-- how many numbers -/
def spSum (l : List Sp) : Nat := (l.map fun a => a.2 - a.1 + 1).sum
theorem spSum_next {l : List Sp} {k : Nat} (hk : k < l.length) : spSum (l.take (k + 1)) = spSum (l.take k) + (l[k].2 - l[k].1 + 1) := by
  unfold spSum
  rw [List.take_succ_eq_append_getElem hk, List.map_append, List.sum_append]
  simp
theorem countP_between (f t : Nat) : ∀ N, t < N → f ≤ t → (List.range N).countP (fun n => decide (f ≤ n) && decide (n ≤ t)) = t - f + 1 := by
  intro N
  induction N with
  | zero => intro h; omega
  | succ N ih =>
    intro h hft
    rw [List.range_succ, List.countP_append]
    rcases Nat.lt_or_ge t N with h1 | h1
    · rw [ih h1 hft]
      simp [show ¬ N ≤ t by omega]
    · obtain rfl : t = N := by omega
      have : ∀ M, M ≤ t → f ≤ M → (List.range M).countP (fun n => decide (f ≤ n) && decide (n ≤ t)) = M - f := by
        intro M
        induction M with
        | zero => intro _ h; simp
        | succ M ihM =>
          intro hM hf
          rw [List.range_succ, List.countP_append]
          rcases Nat.lt_or_ge M f with h2 | h2
          · obtain rfl : f = M + 1 := by omega
            rw [List.countP_eq_zero.2 (by intro n hn; simp at hn ⊢; omega)]
            simp; omega
          · rw [ihM (by omega) h2]
            simp [h2, show M ≤ t by omega]; omega
      rw [this t (Nat.le_refl _) hft]
      simp [hft]
theorem spSum_count (N : Nat) : ∀ (l : List Sp), spRight l = true → (∀ a ∈ l, a.2 < N) → spSum l = (List.range N).countP (spIn l)
  | [], _, _ => by
    rw [List.countP_eq_zero.2 (by intro n _; simp [spIn])]
    rfl
  | a :: l, hr, hb => by
    have ih := spSum_count N l (spRight_tail hr) (fun z hz => hb z (by simp [hz]))
    have hd := spRight_head hr
    have e : spSum (a :: l) = (a.2 - a.1 + 1) + spSum l := by simp [spSum]
    rw [e, ih, ← countP_between a.1 a.2 N (hb a (by simp)) hd]
    have hdis : ∀ n, (decide (a.1 ≤ n) && decide (n ≤ a.2)) = true → spIn l n = true → False := by
      intro n h1 h2
      have := spRight_far hr h2
      simp at h1; omega
    generalize List.range N = L
    induction L with
    | nil => rfl
    | cons n L ihL =>
      rw [List.countP_cons, List.countP_cons, List.countP_cons]
      have hc : spIn (a :: l) n = ((decide (a.1 ≤ n) && decide (n ≤ a.2)) || spIn l n) := by simp [spIn]
      rw [hc]
      have hd := hdis n
      revert hd
      cases (decide (a.1 ≤ n) && decide (n ≤ a.2)) <;> cases spIn l n <;> intro hd <;> simp at hd ⊢ <;> omega
/-- what is cut off, and what it was cut off with, are what both have -/
theorem spSum_minus (N : Nat) (a b c d : List Sp) (ha : spRight c = true) (hb : spRight b = true) (hd : spRight d = true) (nc : ∀ z ∈ c, z.2 < N) (nb : ∀ z ∈ b, z.2 < N) (nd : ∀ z ∈ d, z.2 < N)
    (h1 : ∀ n, spIn c n = true ↔ (spIn a n = true ∧ ¬ spIn b n = true)) (h2 : ∀ n, spIn d n = true ↔ (spIn a n = true ∨ spIn b n = true)) : spSum c + spSum b = spSum d := by
  rw [spSum_count N c ha nc, spSum_count N b hb nb, spSum_count N d hd nd]
  generalize List.range N = L
  induction L with
  | nil => rfl
  | cons n L ih =>
    rw [List.countP_cons, List.countP_cons, List.countP_cons]
    have e1 := h1 n
    have e2 := h2 n
    revert e1 e2
    cases spIn a n <;> cases spIn b n <;> cases spIn c n <;> cases spIn d n <;> simp <;> omega
/-- bounds -/
def spOK (N : Nat) (l : List Sp) : Prop := ∀ a ∈ l, a.1 < N ∧ a.2 < N
theorem spOK_in {N : Nat} {l : List Sp} (hr : spRight l = true) (h : ∀ n, spIn l n = true → n < N) : spOK N l := by
  intro a ha
  have h1 := spRight_each hr a ha
  have h2 : ∀ n, a.1 ≤ n → n ≤ a.2 → n < N := fun n h3 h4 => h n (by simp only [spIn, List.any_eq_true, Bool.and_eq_true, decide_eq_true_eq]; exact ⟨a, ha, h3, h4⟩)
  exact ⟨h2 _ (Nat.le_refl _) h1, h2 _ h1 (Nat.le_refl _)⟩
theorem spOK_lt {N : Nat} {l : List Sp} (h : spOK N l) {n : Nat} (hn : spIn l n = true) : n < N := by
  simp only [spIn, List.any_eq_true, Bool.and_eq_true, decide_eq_true_eq] at hn
  obtain ⟨a, ha, _, h2⟩ := hn
  have := (h a ha).2
  omega
theorem spCut_ok {N f t : Nat} (hft : f ≤ t) {l : List Sp} (hr : spRight l = true) (h : spOK N l) : spOK N (spCut f t l) :=
  spOK_in (spCut_right f t hft l hr).1 fun n hn => spOK_lt h ((spCut_in f t hft l n).1 hn).1
theorem spAdd_ok {N f t : Nat} (hft : f ≤ t) (ht : t < N) {l : List Sp} (hr : spRight l = true) (h : spOK N l) : spOK N (spAdd f t l) :=
  spOK_in (spAdd_right f t hft l hr).1 fun n hn => by
    rcases (spAdd_in f t hft l hr n).1 hn with h1 | h1
    · omega
    · exact spOK_lt h h1
theorem spBoth_ok {N : Nat} {a b : List Sp} (ha : spRight a = true) (hb : spRight b = true) (h : spOK N a) : spOK N (spBoth a b) :=
  spOK_in (spBoth_right a b ha hb).1 fun n hn => spOK_lt h ((spBoth_in a b ha n).1 hn).1
theorem spEither_bd {N : Nat} {a b : List Sp} (ha : spRight a = true) (hb : spRight b = true) (h : spOK N a) (h' : spOK N b) : spOK N (spEither a b) :=
  spOK_in (spEither_ok b a ha (spRight_each hb)).1 fun n hn => by
    rcases ((spEither_ok b a ha (spRight_each hb)).2 n).1 hn with h1 | h1
    · exact spOK_lt h h1
    · exact spOK_lt h' h1
theorem spCut_app (f t : Nat) (a b : List Sp) : spCut f t (a ++ b) = spCut f t a ++ spCut f t b := by
  induction a with
  | nil => rfl
  | cons x a ih => rw [List.cons_append, spCut, spCut, ih, List.append_assoc]
theorem spIn_hit {l : List Sp} {k : Nat} (hk : k < l.length) {m : Nat} (h1 : l[k].1 ≤ m) (h2 : m ≤ l[k].2) : spIn l m = true := by
  simp only [spIn, List.any_eq_true, Bool.and_eq_true, decide_eq_true_eq]
  exact ⟨l[k], List.getElem_mem hk, h1, h2⟩
theorem spIn_miss {l : List Sp} {k : Nat} (hk : k < l.length) {m : Nat} (h : spIn (l.take k) m = false) (h1 : ¬ (l[k].1 ≤ m ∧ m ≤ l[k].2)) : spIn (l.take (k + 1)) m = false := by
  rw [List.take_succ_eq_append_getElem hk]
  rcases hx : spIn (l.take k ++ [l[k]]) m with _ | _
  · rfl
  · rw [spIn_app, h] at hx
    simp [spIn] at hx
    omega
theorem spRight_mono : ∀ {l : List Sp}, spRight l = true → ∀ (j k : Nat) (hk : k < l.length) (hj : j ≤ k), l[j].2 ≤ l[k].2
  | [], _, _, _, hk, _ => absurd hk (by simp)
  | a :: l, hr, 0, 0, _, _ => Nat.le_refl _
  | a :: l, hr, 0, k + 1, hk, _ => by
    have hk' : k < l.length := by simpa using hk
    have h1 := spRight_far hr (spIn_hit hk' (Nat.le_refl _) (spRight_each (spRight_tail hr) _ (List.getElem_mem hk')))
    have h2 := spRight_each (spRight_tail hr) _ (List.getElem_mem hk')
    simp only [List.getElem_cons_zero, List.getElem_cons_succ]
    omega
  | a :: l, hr, j + 1, 0, _, hj => by omega
  | a :: l, hr, j + 1, k + 1, hk, hj => by
    simp only [List.getElem_cons_succ]
    exact spRight_mono (spRight_tail hr) j k (by simpa using hk) (by omega)
theorem spSum_le {N : Nat} : ∀ {l : List Sp}, spOK N l → spSum l ≤ l.length * N
  | [], _ => by simp [spSum]
  | a :: l, h => by
    have ih := spSum_le (N := N) (l := l) (fun z hz => h z (by simp [hz]))
    have ha := h a (by simp)
    have e : spSum (a :: l) = (a.2 - a.1 + 1) + spSum l := by simp [spSum]
    rw [e, List.length_cons, Nat.add_mul]
    omega
/-- what Cut leaves of one span -/
def spPiece (f t : Nat) (a : Sp) : List Sp := if a.2 < f ∨ t < a.1 then [a] else (if a.1 < f then [(a.1, f - 1)] else []) ++ (if t < a.2 then [(t + 1, a.2)] else [])
theorem spCut_next {f t : Nat} {l : List Sp} {k : Nat} (hk : k < l.length) : spCut f t (l.take (k + 1)) = spCut f t (l.take k) ++ spPiece f t l[k] := by
  rw [List.take_succ_eq_append_getElem hk, spCut_app]
  simp [spCut, spPiece]
theorem spPiece_len (f t : Nat) (a : Sp) : (spPiece f t a).length ≤ 2 := by
  unfold spPiece
  split
  · simp
  · split <;> split <;> simp
theorem spCut_len (f t : Nat) : ∀ (l : List Sp), (spCut f t l).length ≤ 2 * l.length
  | [] => by simp [spCut]
  | a :: l => by
    have h1 := spCut_len f t l
    have h2 := spPiece_len f t a
    have e : spCut f t (a :: l) = spPiece f t a ++ spCut f t l := rfl
    rw [e, List.length_append, List.length_cons]
    omega
/-- what Add, Cut tell, with the error -/
def cutR (l : List Sp) (f t : Nat) : List Sp := if spRight l = true ∧ f ≤ t then spCut f t l else []
def addR (l : List Sp) (f t : Nat) : List Sp := if spRight l = true ∧ f ≤ t then spAdd f t l else []
def spErr (l : List Sp) (f t : Nat) : Nat := if spRight l = true then (if f ≤ t then 0 else 2) else 30
theorem cutR_not {l : List Sp} {f t : Nat} (h : spRight l = false) : cutR l f t = [] := by simp [cutR, h]
theorem cutR_arg {l : List Sp} {f t : Nat} (h : t < f) : cutR l f t = [] := by simp [cutR, Nat.not_le.2 h]
theorem cutR_ok {l : List Sp} {f t : Nat} (h : spRight l = true) (h1 : f ≤ t) : cutR l f t = spCut f t l := by simp [cutR, h, h1]
theorem addR_not {l : List Sp} {f t : Nat} (h : spRight l = false) : addR l f t = [] := by simp [addR, h]
theorem addR_arg {l : List Sp} {f t : Nat} (h : t < f) : addR l f t = [] := by simp [addR, Nat.not_le.2 h]
theorem addR_ok {l : List Sp} {f t : Nat} (h : spRight l = true) (h1 : f ≤ t) : addR l f t = spAdd f t l := by simp [addR, h, h1]
theorem spErr_not {l : List Sp} {f t : Nat} (h : spRight l = false) : spErr l f t = 30 := by simp [spErr, h]
theorem spErr_arg {l : List Sp} {f t : Nat} (h : spRight l = true) (h1 : t < f) : spErr l f t = 2 := by simp [spErr, h, Nat.not_le.2 h1]
theorem spErr_ok {l : List Sp} {f t : Nat} (h : spRight l = true) (h1 : f ≤ t) : spErr l f t = 0 := by simp [spErr, h, h1]
theorem spOver_len (s : Sp) : ∀ (l : List Sp), (spOver s l).length ≤ l.length
  | [] => by simp [spOver]
  | a :: l => by
    have := spOver_len s l
    rw [spOver]
    split
    · simp; omega
    · split <;> simp <;> omega
theorem spTake_len (t : Nat) : ∀ (l : List Sp) (s : Sp), (spTake s t l).2.length ≤ l.length
  | [], _ => by simp [spTake]
  | a :: l, s => by
    rw [spTake]
    split
    · have := spTake_len t l (min s.1 a.1, max s.2 a.2); simp; omega
    · simp
theorem spAdd_len (f t : Nat) : ∀ (l : List Sp), (spAdd f t l).length ≤ l.length + 1
  | [] => by simp [spAdd]
  | a :: l => by
    rw [spAdd]
    split
    · have := spAdd_len f t l; simp; omega
    · have := spTake_len t (a :: l) (f, t); simp at this ⊢; omega
theorem spEither_len : ∀ (b a : List Sp), (spEither a b).length ≤ a.length + b.length
  | [], a => by simp [spEither]
  | s :: b, a => by
    have h1 := spEither_len b (spAdd s.1 s.2 a)
    have h2 := spAdd_len s.1 s.2 a
    have e : spEither a (s :: b) = spEither (spAdd s.1 s.2 a) b := rfl
    rw [e, List.length_cons]; omega
theorem spBoth_len : ∀ (b a : List Sp), (spBoth a b).length ≤ b.length * a.length
  | [], a => by simp [spBoth]
  | s :: b, a => by
    have h1 := spBoth_len b a
    have h2 := spOver_len s a
    have e : spBoth a (s :: b) = spOver s a ++ spBoth a b := rfl
    rw [e, List.length_append, List.length_cons, Nat.add_mul]; omega
end Go.PH
end
section
/- Slices of spans in memory. -/
set_option linter.all false
set_option linter.unusedSimpArgs false
set_option linter.unusedVariables false
namespace Go.PH
open Go.RowKit Go.Proofs

def sp2 (a : Sp) : List Value := [.int .u32 (a.1 : Int), .int .u32 (a.2 : Int)]
def spCells (l : List Sp) : List Value := l.flatMap sp2
theorem spCells_cons (a : Sp) (l : List Sp) : spCells (a :: l) = .int .u32 (a.1 : Int) :: .int .u32 (a.2 : Int) :: spCells l := rfl
theorem spCells_nil : spCells [] = [] := rfl
theorem spCells_app (a b : List Sp) : spCells (a ++ b) = spCells a ++ spCells b := by simp [spCells]
theorem spCells_len (l : List Sp) : (spCells l).length = l.length * 2 := by
  induction l with
  | nil => rfl
  | cons a l ih => rw [spCells_cons]; simp only [List.length_cons, ih]; omega
theorem spCells_take : ∀ (l : List Sp) (k : Nat), (spCells l).take (k * 2) = spCells (l.take k)
  | [], k => by simp [spCells]
  | a :: l, 0 => by simp [spCells]
  | a :: l, k + 1 => by rw [spCells_cons, show (k + 1) * 2 = k * 2 + 1 + 1 by omega, List.take_succ_cons, List.take_succ_cons, spCells_take l k, List.take_succ_cons, spCells_cons]
theorem spCells_drop : ∀ (l : List Sp) (k : Nat), (spCells l).drop (k * 2) = spCells (l.drop k)
  | [], k => by simp [spCells]
  | a :: l, 0 => by simp
  | a :: l, k + 1 => by rw [spCells_cons, show (k + 1) * 2 = k * 2 + 1 + 1 by omega, List.drop_succ_cons, List.drop_succ_cons, spCells_drop l k, List.drop_succ_cons]
theorem spCells_get : ∀ (l : List Sp) (k : Nat) (h : k < l.length), (spCells l)[k * 2]? = some (.int .u32 (l[k].1 : Int)) ∧ (spCells l)[k * 2 + 1]? = some (.int .u32 (l[k].2 : Int))
  | a :: l, 0, _ => by simp [spCells_cons]
  | a :: l, k + 1, h => by
    have := spCells_get l k (by simpa using h)
    rw [spCells_cons, show (k + 1) * 2 = k * 2 + 1 + 1 by omega]
    simpa using this
theorem spCells_one (l : List Sp) : ∀ u ∈ spCells l, u.oneCell' = true := by
  intro u hu
  simp only [spCells, List.mem_flatMap, sp2, List.mem_cons, List.not_mem_nil, or_false] at hu
  obtain ⟨a, _, rfl | rfl⟩ := hu <;> rfl
theorem spCells_set : ∀ (l : List Sp) (k : Nat) (v : Nat) (h : k < l.length), (spCells l).set (k * 2 + 1) (.int .u32 (v : Int)) = spCells (l.set k (l[k].1, v))
  | a :: l, 0, v, _ => by simp [spCells_cons]
  | a :: l, k + 1, v, h => by
    have := spCells_set l k v (by simpa using h)
    rw [spCells_cons, show (k + 1) * 2 + 1 = k * 2 + 1 + 1 + 1 by omega]
    simp only [List.set_cons_succ, this, List.getElem_cons_succ, spCells_cons]
/-- a slice of spans -/
abbrev RdS (w : World) (B : Nat) (A : Option Addr) (n c : Nat) (l : List Sp) : Prop := Rd w B 2 A n c (spCells l)
variable {w w' : World} {B n c : Nat} {A : Option Addr} {l : List Sp}
theorem RdS.length (h : RdS w B A n c l) : l.length = n := by have := h.len; rw [spCells_len] at this; omega
theorem RdS.at_k (h : RdS w B A n c l) {k : Nat} (hk : k < n) : ∃ b off, A = some ⟨b, off, none⟩ ∧ b < B ∧ ∃ hl : k < l.length, w.cell? ⟨b, off + k * 2, none⟩ = some (.int .u32 (l[k].1 : Int)) ∧ w.cell? ⟨b, off + k * 2 + 1, none⟩ = some (.int .u32 (l[k].2 : Int)) := by
  obtain ⟨b, off, e, hb, hc⟩ := h.at_ (by omega)
  have hl := h.length
  have hg := spCells_get l k (by omega)
  exact ⟨b, off, e, hb, by omega, hc _ _ hg.1, by have := hc _ _ hg.2; rwa [← Nat.add_assoc] at this⟩
theorem RdS.at_p (h : RdS w B A n c l) {k : Nat} (hk : k ≤ n) (h0 : 0 < k) : ∃ b off, A = some ⟨b, off, none⟩ ∧ b < B ∧ w.cell? ⟨b, off + (k - 1) * 2 + 1, none⟩ = some (.int .u32 ((l.getD (k - 1) (0, 0)).2 : Int)) := by
  obtain ⟨b, off, e, hb, hl, _, hc⟩ := RdS.at_k h (k := k - 1) (by omega)
  refine ⟨b, off, e, hb, ?_⟩
  rw [hc]; simp [List.getD, List.getElem?_eq_getElem hl]
theorem spOK_getD {N : Nat} {l : List Sp} (h : spOK N l) (k : Nat) (hN : 0 < N) : (l.getD k (0, 0)).1 < N ∧ (l.getD k (0, 0)).2 < N := by
  rw [List.getD]
  cases hk : l[k]? with
  | none => exact ⟨hN, hN⟩
  | some a => exact h a (List.mem_of_getElem? hk)
theorem RdS.cut {lo k : Nat} (hr : RdS w B A n c l) (h : lo + k ≤ n) : RdS w B (cutA A 2 lo c) k (c - lo) ((l.drop lo).take k) := by
  have h1 := rd_cut hr lo (lo + k) c (by omega) (by have := hr.cap; omega) (Nat.le_refl _) h
  rw [spCells_take, spCells_drop, List.drop_take, Nat.add_sub_cancel_left] at h1
  exact h1
theorem slS : SlT Tryz.prog 45 113 2 8 (.agg #[.int .u32 0, .int .u32 0]) := SlT.mk' Tryz.underlying45 (by kernel_rfl) rfl (by omega)
abbrev OwnS (w : World) (base : Nat) (A : Option Addr) (n c : Nat) (l : List Sp) : Prop := Own w base 113 2 A n c (spCells l)
end Go.PH
end
section
/- Whether spans stand right, as the document says: its walk. -/
set_option linter.all false
set_option linter.unusedSimpArgs false
set_option linter.unusedVariables false
namespace Go.PH
open Go.RowKit Go.Proofs

set_option maxRecDepth 20000 in
theorem rright_any (A : Option Addr) (n c : Nat) (l : List Sp) (B : Nat) (w : World) (hr : RdS w B A n c l) (hb : spOK 4294967296 l) (hB : B ≤ w.heap.size) (hn : n ≤ 140737488355328) :
    Calls Tryz.prog 94 #[.slice A n c] w fun e w' => e = .returned (.bool (spRight l)) ∧ Below w.heap.size w w' := by
  have hl := hr.length
  go_enter Tryz.func94, Tryz.ntmps94
  go_wp2_with (first | (with_reducible refine hold_append ?_) | (with_reducible refine hold_make ?_) | (with_reducible refine hold_copy ?_))
  go_loopw [3] (fun s wr => ∃ (k : Nat), k ≤ n ∧ s = .int .i64 k ∧ spRight (l.take k) = true ∧ Below w.heap.size w wr) (fun s _ => n - (RowKit.intOf s).toNat)
  case atStart => exact ⟨0, by omega, rfl, by simp [spRight], Below.refl _ _⟩
  case round =>
    obtain ⟨k, hk, rfl, hrk, hBr⟩ := hrel
    by_cases hlt : k < n
    · have hrr := hr.below (hBr.mono hB)
      obtain ⟨b, off, rfl, hbB, hkl, hc0, hc1⟩ := RdS.at_k hrr hlt
      have hbk := hb l[k] (List.getElem_mem hkl)
      have HN := Lib.hid (spNext_iff hkl)
      have hcp := RdS.at_p hrr hk
      have hbp := (spOK_getD hb (k - 1) (by omega)).2
      generalize (l.getD (k - 1) (0, 0)).2 = t0 at *
      generalize l[k].1 = f at *
      generalize l[k].2 = t at *
      by_cases h1 : t < f
      · have hd : (t : Int) < (f : Int) := by omega
        have hno := spRight_no hkl hrk (by rw [HN.out]; omega)
        go_wp2_with (first | (with_reducible refine hold_append ?_) | (with_reducible refine hold_make ?_) | (with_reducible refine hold_copy ?_))
        go_quiet (fail)
        go_wp2_with (first | (with_reducible refine hold_append ?_) | (with_reducible refine hold_make ?_) | (with_reducible refine hold_copy ?_))
        go_ret
        rw [hno]
        exact ⟨rfl, below_drewN hBr _⟩
      · have hd : decide ((t : Int) < (f : Int)) = false := by simp; omega
        rcases Nat.eq_zero_or_pos k with hk0 | h0
        · have hd0 : decide (0 < k) = false := by simp; omega
          have hy := spRight_yes hkl hrk (by rw [HN.out]; omega)
          clear hk0
          go_wp2_with (first | (with_reducible refine hold_append ?_) | (with_reducible refine hold_make ?_) | (with_reducible refine hold_copy ?_))
          go_quiet (fail)
          go_wp2_with (first | (with_reducible refine hold_append ?_) | (with_reducible refine hold_make ?_) | (with_reducible refine hold_copy ?_))
          go_quiet (fail)
          go_wp2_with (first | (with_reducible refine hold_append ?_) | (with_reducible refine hold_make ?_) | (with_reducible refine hold_copy ?_))
          exact ⟨⟨k + 1, by omega, by go_num, hy, by first | exact below_drewN hBr _ | exact below_drewN (below_drewN hBr _) _⟩, by simp [RowKit.intOf]; omega⟩
        · have hd0 : (0 : Int) < (k : Int) := by omega
          obtain ⟨b', off', e', _, hc2⟩ := hcp h0
          obtain ⟨rfl, rfl⟩ : b = b' ∧ off = off' := by simpa using e'
          clear e' hcp
          have hw1 : IntKind.i64.wrap ((k : Int) - 1) = ((k - 1 : Nat) : Int) := by rw [IntWalk.i64_in _ ⟨by omega, by omega⟩]; omega
          have hlt1 : ((k - 1 : Nat) : Int) < (n : Int) := by omega
          by_cases h2 : f < t0 + 2
          · have hd1 : (f : Int) < (t0 : Int) + 2 := by omega
            have hno := spRight_no hkl hrk (by rw [HN.out]; omega)
            go_wp2_with (first | (with_reducible refine hold_append ?_) | (with_reducible refine hold_make ?_) | (with_reducible refine hold_copy ?_))
            go_quiet (fail)
            go_wp2_with (first | (with_reducible refine hold_append ?_) | (with_reducible refine hold_make ?_) | (with_reducible refine hold_copy ?_))
            go_quiet (fail)
            go_wp2_with (first | (with_reducible refine hold_append ?_) | (with_reducible refine hold_make ?_) | (with_reducible refine hold_copy ?_))
            go_ret
            rw [hno]
            exact ⟨rfl, by first | exact below_drewN hBr _ | exact below_drewN (below_drewN hBr _) _⟩
          · have hd1 : decide ((f : Int) < (t0 : Int) + 2) = false := by simp; omega
            have hy := spRight_yes hkl hrk (by rw [HN.out]; omega)
            go_wp2_with (first | (with_reducible refine hold_append ?_) | (with_reducible refine hold_make ?_) | (with_reducible refine hold_copy ?_))
            go_quiet (fail)
            go_wp2_with (first | (with_reducible refine hold_append ?_) | (with_reducible refine hold_make ?_) | (with_reducible refine hold_copy ?_))
            go_quiet (fail)
            go_wp2_with (first | (with_reducible refine hold_append ?_) | (with_reducible refine hold_make ?_) | (with_reducible refine hold_copy ?_))
            exact ⟨⟨k + 1, by omega, by go_num, hy, by first | exact below_drewN hBr _ | exact below_drewN (below_drewN hBr _) _⟩, by simp [RowKit.intOf]; omega⟩
    · obtain rfl : k = n := by omega
      go_wp2_with (first | (with_reducible refine hold_append ?_) | (with_reducible refine hold_make ?_) | (with_reducible refine hold_copy ?_))
      go_ret
      rw [← hl, List.take_length] at hrk
      rw [hrk]
      exact ⟨rfl, hBr⟩
end Go.PH
end
section
/- The walks of the reference's Copy and Same of spans. -/
set_option linter.all false
set_option linter.unusedSimpArgs false
set_option linter.unusedVariables false
namespace Go.PH
open Go.RowKit Go.Proofs

theorem scopy_any (A : Option Addr) (n c : Nat) (l : List Sp) (w : World) (hb : RdS w w.heap.size A n c l) (hn : n ≤ 1000000000) :
    Calls Tryz.prog 29 #[.slice A n c] w fun e w' => ∃ A2 c2, e = .returned (.slice A2 n c2) ∧ OwnS w' w.heap.size A2 n c2 l ∧ Below w.heap.size w w' := by
  have hl := hb.length
  go_enter Tryz.func29, Tryz.ntmps29
  go_wp2_with (first | (with_reducible refine hold_append ?_) | (with_reducible refine hold_make ?_) | (with_reducible refine hold_copy ?_))
  refine unhold (wp_app (base := w.heap.size) slS rfl rfl rfl rfl (Own.none_ w w.heap.size _ _) hb (spCells_one l) (by omega) (by simp [maxLen]; omega) (Nat.le_refl _) ?_)
  intro A2 c2 w2 ho2 hg2 _
  have hB2 : Below w.heap.size w w2 := (Below.refl _ _).grown hg2 (Nat.le_refl _) (by simp [blk])
  simp only [Nat.zero_add, List.nil_append] at ho2
  go_wp2_with (first | (with_reducible refine hold_append ?_) | (with_reducible refine hold_make ?_) | (with_reducible refine hold_copy ?_))
  go_ret
  exact ⟨A2, c2, by first | rfl | simp, ho2, hB2⟩

theorem span_fields : Tryz.prog.underlying 113 = some (.struct (Tryz.prog.fieldsOf 113)) := by kernel_rfl
theorem span_stood : Tryz.prog.stoodInHeld 113 = false := by kernel_rfl
theorem span_guard : Tryz.prog.eqGuardType Tryz.prog.depth 113 = false := by kernel_rfl
theorem span_neq (f t f' t' : Nat) (w : World) : (binOp .neq 113 (.agg #[.int .u32 f, .int .u32 t]) (.agg #[.int .u32 f', .int .u32 t'])).run Tryz.prog w = .ok (.bool (!decide ((f, t) = (f', t')))) w := by
  rw [run_neq_struct, run_equalIn_struct w 9999 113 _ _ span_fields span_stood]
  simp only [Program.fieldsOf, Tryz.underlying113]
  have hb : (f, t) = (f', t') ↔ f = f' ∧ t = t' := by simp
  have hd : decide ((f, t) = (f', t')) = (((f : Int) == (f' : Int)) && ((t : Int) == (t' : Int))) := by
    rw [Bool.eq_iff_iff]; simp; omega
  rw [hd]
  cases h1 : ((f : Int) == (f' : Int)) <;> cases h2 : ((t : Int) == (t' : Int)) <;> simp [Op.eqFields, part, run_equalIn_int _ 9998 42 .u32 .u32 _ _ Tryz.underlying42, h1, h2, beq_iff_eq, Result.andThen, typeInfo, sizeOf]

set_option maxRecDepth 20000 in
theorem ssame_any (A : Option Addr) (n c : Nat) (l : List Sp) (A' : Option Addr) (n' c' : Nat) (l' : List Sp) (B : Nat) (w : World) (hr : RdS w B A n c l) (hr' : RdS w B A' n' c' l') (hB : B ≤ w.heap.size) (hn : n ≤ 140737488355328) (hn' : n' ≤ 140737488355328) :
    Calls Tryz.prog 57 #[.slice A n c, .slice A' n' c'] w fun e w' => e = .returned (.bool (decide (l = l'))) ∧ Below w.heap.size w w' := by
  have hl := hr.length
  have hl' := hr'.length
  by_cases hnn : n = n'
  · subst hnn
    have h0 : (((n : Nat) : Int) != ((n : Nat) : Int)) = false := by simp
    go_enter Tryz.func57, Tryz.ntmps57
    go_wp2_with (first | (with_reducible refine hold_append ?_) | (with_reducible refine hold_make ?_) | (with_reducible refine hold_copy ?_))
    go_loopw [5] (fun s wr => ∃ (k : Nat), k ≤ n ∧ s = .int .i64 k ∧ l.take k = l'.take k ∧ Below w.heap.size w wr) (fun s _ => n - (RowKit.intOf s).toNat)
    case atStart => exact ⟨0, by omega, rfl, by simp, Below.refl _ _⟩
    case round =>
      obtain ⟨k, hk, rfl, hrk, hBr⟩ := hrel
      by_cases hlt : k < n
      · obtain ⟨b, off, rfl, hbB, hkl, hc0, hc1⟩ := RdS.at_k (hr.below (hBr.mono hB)) hlt
        obtain ⟨b', off', rfl, hbB', hkl', hc0', hc1'⟩ := RdS.at_k (hr'.below (hBr.mono hB)) hlt
        have HT := Lib.hid (List.take_succ_eq_append_getElem hkl)
        have HT' := Lib.hid (List.take_succ_eq_append_getElem hkl')
        have HE : Hid (l = l' → l[k] = l'[k]) := Lib.hid (fun h => by subst h; rfl)
        have HK := Lib.hid hrk
        clear hrk
        generalize l[k] = x at *
        generalize l'[k] = x' at *
        obtain ⟨f, t⟩ := x
        obtain ⟨f', t'⟩ := x'
        have hgd := fun x y => run_eqGuard_agg (P := Tryz.prog) wr .neq 113 x y #[.int .u32 f, .int .u32 t] #[.int .u32 f', .int .u32 t'] span_guard
        by_cases hxx : (f, t) = (f', t')
        · have hne : ∀ w, (binOp .neq 113 (.agg #[.int .u32 f, .int .u32 t]) (.agg #[.int .u32 f', .int .u32 t'])).run Tryz.prog w = .ok (.bool false) w := fun w => by rw [span_neq, decide_eq_true hxx]; rfl
          have hy : l.take (k + 1) = l'.take (k + 1) := by rw [HT.out, HT'.out, HK.out, hxx]
          clear hxx
          go_wp2_with (first | (with_reducible refine hold_append ?_) | (with_reducible refine hold_make ?_) | (with_reducible refine hold_copy ?_))
          go_quiet (fail)
          go_wp2_with (first | (with_reducible refine hold_append ?_) | (with_reducible refine hold_make ?_) | (with_reducible refine hold_copy ?_))
          exact ⟨⟨k + 1, by omega, by go_num, hy, below_drewN hBr _⟩, by simp [RowKit.intOf]; omega⟩
        · have hne : ∀ w, (binOp .neq 113 (.agg #[.int .u32 f, .int .u32 t]) (.agg #[.int .u32 f', .int .u32 t'])).run Tryz.prog w = .ok (.bool true) w := fun w => by rw [span_neq, decide_eq_false hxx]; rfl
          have hno : decide (l = l') = false := by
            have := HE.out
            simp only [decide_eq_false_iff_not]
            exact fun h => hxx (this h)
          clear hxx
          go_wp2_with (first | (with_reducible refine hold_append ?_) | (with_reducible refine hold_make ?_) | (with_reducible refine hold_copy ?_))
          go_quiet (fail)
          go_wp2_with (first | (with_reducible refine hold_append ?_) | (with_reducible refine hold_make ?_) | (with_reducible refine hold_copy ?_))
          go_ret
          rw [hno]
          exact ⟨rfl, below_drewN hBr _⟩
      · obtain rfl : k = n := by omega
        rw [← hl, List.take_length, hl, ← hl', List.take_length] at hrk
        subst hrk
        go_wp2_with (first | (with_reducible refine hold_append ?_) | (with_reducible refine hold_make ?_) | (with_reducible refine hold_copy ?_))
        go_ret
        exact ⟨by simp, hBr⟩
  · have h0 : (((n : Nat) : Int) != ((n' : Nat) : Int)) = true := by simp; omega
    have hne : decide (l = l') = false := by
      simp; rintro rfl; omega
    go_enter Tryz.func57, Tryz.ntmps57
    go_wp2_with (first | (with_reducible refine hold_append ?_) | (with_reducible refine hold_make ?_) | (with_reducible refine hold_copy ?_))
    go_ret
    rw [hne]
    exact ⟨rfl, Below.refl _ _⟩
end Go.PH
end
section
/- Reading rows of spans. -/
set_option linter.all false
set_option linter.unusedSimpArgs false
set_option linter.unusedVariables false
namespace Go.PH
open Go.RowKit Go.Proofs Go.ChangeShapes Go.WideShapes Go.ChangeAt Go.Deep
variable {H : Type} {enc : TypeId × Value → H} {W : World}

def RSpan (a : Sp) (cs : List Value) : Prop := cs = sp2 a ∧ a.1 < 4294967296 ∧ a.2 < 4294967296
theorem cells2s {cs : List Value} {a b : Value} (hl : cs.length = 2) (h0 : (cs.drop 0).take 1 = [a]) (h1 : (cs.drop 1).take 1 = [b]) : cs = [a, b] := by
  match cs, hl with
  | [x, y], _ => simp_all
set_option maxRecDepth 20000 in
theorem reader_span : Reader enc Tryz.prog W 113 RSpan := fun fuel cs d p h hw => by
  obtain ⟨hl, hf⟩ := trod_field Tryz.underlying113 h hw
  obtain ⟨n0, h0, w0⟩ := hf 0 _ rfl (reader_int (k := .u32) Tryz.underlying42)
  obtain ⟨n1, h1, w1⟩ := hf 1 _ rfl (reader_int (k := .u32) Tryz.underlying42)
  have b0 := bounds_u32 w0
  have b1 := bounds_u32 w1
  rw [(by kernel_rfl : Tryz.prog.cellsOf 113 = 2)] at hl
  refine ⟨(n0.toNat, n1.toNat), ?_, by simp; omega, by simp; omega⟩
  simp only [sp2]
  rw [show ((n0.toNat : Nat) : Int) = n0 by omega, show ((n1.toNat : Nat) : Int) = n1 by omega]
  exact cells2s hl h0 h1
theorem spCells_of : ∀ (L : List Sp) (xs : List Value), xs.length = L.length * 2 → (∀ i (h : i < L.length), RSpan L[i] ((xs.drop (i * 2)).take 2)) → xs = spCells L ∧ spOK 4294967296 L
  | [], xs, hl, _ => by
    have := List.eq_nil_of_length_eq_zero (by simpa using hl)
    subst this
    exact ⟨rfl, fun z hz => by cases hz⟩
  | a :: L, xs, hl, h => by
    rcases xs with _ | ⟨x, _ | ⟨y, xs⟩⟩
    · simp at hl
    · simp at hl; omega
    · have h0 := h 0 (by simp)
      obtain ⟨e, b1, b2⟩ := h0
      simp [sp2] at e
      obtain ⟨i1, i2⟩ := spCells_of L xs (by simp at hl; omega) (fun i hi => by
        have := h (i + 1) (by simp; omega)
        simpa [Nat.add_mul] using this)
      refine ⟨by rw [e.1, e.2, spCells_cons, i1], fun z hz => ?_⟩
      rcases List.mem_cons.1 hz with rfl | hz
      · exact ⟨b1, b2⟩
      · exact i2 z hz
theorem RdS.of {A : Option Addr} {n c B : Nat} {xs : List Value} {L : List Sp} (hr : Rd W B 2 A n c xs) (hL : L.length = n) (hR : ∀ i (h : i < L.length), RSpan L[i] ((xs.drop (i * 2)).take 2)) : RdS W B A n c L ∧ spOK 4294967296 L := by
  obtain ⟨h1, h2⟩ := spCells_of L xs (by rw [hr.len, hL]) hR
  subst h1
  exact ⟨hr, h2⟩
end Go.PH
end

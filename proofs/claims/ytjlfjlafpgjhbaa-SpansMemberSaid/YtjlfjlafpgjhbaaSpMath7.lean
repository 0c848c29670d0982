/- Rows by their beginnings; how many numbers a row has; as plain mathematics. -/
import Derived.Test.YtjlfjlafpgjhbaaSpMath6
namespace Go.PH

theorem spRight_front : ∀ {a b : List Sp}, spRight (a ++ b) = true → spRight a = true
  | [], _, _ => rfl
  | x :: a, b, h => by
    rw [List.cons_append] at h
    obtain ⟨h1, h2, h3⟩ := spRight_cons.1 h
    refine spRight_cons.2 ⟨h1, ?_, spRight_front h3⟩
    cases a with
    | nil => trivial
    | cons y a => exact h2
theorem spRight_take {l : List Sp} (h : spRight l = true) (k : Nat) : spRight (l.take k) = true := spRight_front (b := l.drop k) (by rw [List.take_append_drop]; exact h)
/-- the next span stands rightly behind those ahead of it -/
def spNext (l : List Sp) (k : Nat) (h : k < l.length) : Prop := l[k].1 ≤ l[k].2 ∧ ∀ (h0 : 0 < k), l[k - 1].2 + 2 ≤ l[k].1
theorem spRight_next {l : List Sp} {k : Nat} (hk : k < l.length) (h : spRight (l.take k) = true) : spRight (l.take (k + 1)) = true ↔ spNext l k hk := by
  rw [List.take_succ_eq_append_getElem hk, spRight_app]
  unfold spNext
  constructor
  · rintro ⟨_, h1, h2⟩
    refine ⟨h1, fun h0 => h2 _ ?_⟩
    rw [List.getLast?_eq_getElem?, List.length_take, Nat.min_eq_left (by omega), List.getElem?_take, if_pos (by omega), List.getElem?_eq_getElem (by omega)]
    rfl
  · rintro ⟨h1, h2⟩
    refine ⟨h, h1, fun b hb => ?_⟩
    rcases Nat.eq_zero_or_pos k with rfl | h0
    · simp at hb
    · rw [List.getLast?_eq_getElem?, List.length_take, Nat.min_eq_left (by omega), List.getElem?_take, if_pos (by omega), List.getElem?_eq_getElem (by omega)] at hb
      cases hb
      exact h2 h0
theorem spRight_yes {l : List Sp} {k : Nat} (hk : k < l.length) (h : spRight (l.take k) = true) (h1 : spNext l k hk) : spRight (l.take (k + 1)) = true := (spRight_next hk h).2 h1
theorem spRight_no {l : List Sp} {k : Nat} (hk : k < l.length) (h : spRight (l.take k) = true) (h1 : ¬ spNext l k hk) : spRight l = false := by
  rcases hr : spRight l with _ | _
  · rfl
  · exact absurd ((spRight_next hk h).1 (spRight_take hr _)) h1
theorem spNext_iff {l : List Sp} {k : Nat} (hk : k < l.length) : spNext l k hk ↔ (l[k].1 ≤ l[k].2 ∧ (k = 0 ∨ (l.getD (k - 1) (0, 0)).2 + 2 ≤ l[k].1)) := by
  unfold spNext
  have e : l.getD (k - 1) (0, 0) = l[k - 1] := by
    have : k - 1 < l.length := by omega
    simp [List.getD, List.getElem?_eq_getElem this]
  rw [e]
  constructor
  · rintro ⟨h1, h2⟩
    refine ⟨h1, ?_⟩
    rcases Nat.eq_zero_or_pos k with h0 | h0
    · exact .inl h0
    · exact .inr (h2 h0)
  · rintro ⟨h1, h2⟩
    refine ⟨h1, fun h0 => ?_⟩
    rcases h2 with h2 | h2
    · omega
    · exact h2
/-- how many numbers -/
def spSum (l : List Sp) : Nat := (l.map fun a => a.2 - a.1 + 1).sum
theorem spSum_next {l : List Sp} {k : Nat} (hk : k < l.length) : spSum (l.take (k + 1)) = spSum (l.take k) + (l[k].2 - l[k].1 + 1) := by
  unfold spSum
  rw [List.take_succ_eq_append_getElem hk, List.map_append, List.sum_append]
  simp
theorem countP_between (f t : Nat) : ∀ N, t < N → f ≤ t → (List.range N).countP (fun n => decide (f ≤ n) && decide (n ≤ t)) = t - f + 1 := by
  intro N
  induction N with
  | zero => intro h; omega
  | succ N ih =>
    intro h hft
    rw [List.range_succ, List.countP_append]
    rcases Nat.lt_or_ge t N with h1 | h1
    · rw [ih h1 hft]
      simp [show ¬ N ≤ t by omega]
    · obtain rfl : t = N := by omega
      have : ∀ M, M ≤ t → f ≤ M → (List.range M).countP (fun n => decide (f ≤ n) && decide (n ≤ t)) = M - f := by
        intro M
        induction M with
        | zero => intro _ h; simp
        | succ M ihM =>
          intro hM hf
          rw [List.range_succ, List.countP_append]
          rcases Nat.lt_or_ge M f with h2 | h2
          · obtain rfl : f = M + 1 := by omega
            rw [List.countP_eq_zero.2 (by intro n hn; simp at hn ⊢; omega)]
            simp; omega
          · rw [ihM (by omega) h2]
            simp [h2, show M ≤ t by omega]; omega
      rw [this t (Nat.le_refl _) hft]
      simp [hft]
theorem spSum_count (N : Nat) : ∀ (l : List Sp), spRight l = true → (∀ a ∈ l, a.2 < N) → spSum l = (List.range N).countP (spIn l)
  | [], _, _ => by
    rw [List.countP_eq_zero.2 (by intro n _; simp [spIn])]
    rfl
  | a :: l, hr, hb => by
    have ih := spSum_count N l (spRight_tail hr) (fun z hz => hb z (by simp [hz]))
    have hd := spRight_head hr
    have e : spSum (a :: l) = (a.2 - a.1 + 1) + spSum l := by simp [spSum]
    rw [e, ih, ← countP_between a.1 a.2 N (hb a (by simp)) hd]
    have hdis : ∀ n, (decide (a.1 ≤ n) && decide (n ≤ a.2)) = true → spIn l n = true → False := by
      intro n h1 h2
      have := spRight_far hr h2
      simp at h1; omega
    generalize List.range N = L
    induction L with
    | nil => rfl
    | cons n L ihL =>
      rw [List.countP_cons, List.countP_cons, List.countP_cons]
      have hc : spIn (a :: l) n = ((decide (a.1 ≤ n) && decide (n ≤ a.2)) || spIn l n) := by simp [spIn]
      rw [hc]
      have hd := hdis n
      revert hd
      cases (decide (a.1 ≤ n) && decide (n ≤ a.2)) <;> cases spIn l n <;> intro hd <;> simp at hd ⊢ <;> omega
/-- what is cut off, and what it was cut off with, are what both have -/
theorem spSum_minus (N : Nat) (a b c d : List Sp) (ha : spRight c = true) (hb : spRight b = true) (hd : spRight d = true) (nc : ∀ z ∈ c, z.2 < N) (nb : ∀ z ∈ b, z.2 < N) (nd : ∀ z ∈ d, z.2 < N)
    (h1 : ∀ n, spIn c n = true ↔ (spIn a n = true ∧ ¬ spIn b n = true)) (h2 : ∀ n, spIn d n = true ↔ (spIn a n = true ∨ spIn b n = true)) : spSum c + spSum b = spSum d := by
  rw [spSum_count N c ha nc, spSum_count N b hb nb, spSum_count N d hd nd]
  generalize List.range N = L
  induction L with
  | nil => rfl
  | cons n L ih =>
    rw [List.countP_cons, List.countP_cons, List.countP_cons]
    have e1 := h1 n
    have e2 := h2 n
    revert e1 e2
    cases spIn a n <;> cases spIn b n <;> cases spIn c n <;> cases spIn d n <;> simp <;> omega
/-- bounds -/
def spOK (N : Nat) (l : List Sp) : Prop := ∀ a ∈ l, a.1 < N ∧ a.2 < N
theorem spOK_in {N : Nat} {l : List Sp} (hr : spRight l = true) (h : ∀ n, spIn l n = true → n < N) : spOK N l := by
  intro a ha
  have h1 := spRight_each hr a ha
  have h2 : ∀ n, a.1 ≤ n → n ≤ a.2 → n < N := fun n h3 h4 => h n (by simp only [spIn, List.any_eq_true, Bool.and_eq_true, decide_eq_true_eq]; exact ⟨a, ha, h3, h4⟩)
  exact ⟨h2 _ (Nat.le_refl _) h1, h2 _ h1 (Nat.le_refl _)⟩
theorem spOK_lt {N : Nat} {l : List Sp} (h : spOK N l) {n : Nat} (hn : spIn l n = true) : n < N := by
  simp only [spIn, List.any_eq_true, Bool.and_eq_true, decide_eq_true_eq] at hn
  obtain ⟨a, ha, _, h2⟩ := hn
  have := (h a ha).2
  omega
theorem spCut_ok {N f t : Nat} (hft : f ≤ t) {l : List Sp} (hr : spRight l = true) (h : spOK N l) : spOK N (spCut f t l) :=
  spOK_in (spCut_right f t hft l hr).1 fun n hn => spOK_lt h ((spCut_in f t hft l n).1 hn).1
theorem spAdd_ok {N f t : Nat} (hft : f ≤ t) (ht : t < N) {l : List Sp} (hr : spRight l = true) (h : spOK N l) : spOK N (spAdd f t l) :=
  spOK_in (spAdd_right f t hft l hr).1 fun n hn => by
    rcases (spAdd_in f t hft l hr n).1 hn with h1 | h1
    · omega
    · exact spOK_lt h h1
theorem spBoth_ok {N : Nat} {a b : List Sp} (ha : spRight a = true) (hb : spRight b = true) (h : spOK N a) : spOK N (spBoth a b) :=
  spOK_in (spBoth_right a b ha hb).1 fun n hn => spOK_lt h ((spBoth_in a b ha n).1 hn).1
theorem spEither_bd {N : Nat} {a b : List Sp} (ha : spRight a = true) (hb : spRight b = true) (h : spOK N a) (h' : spOK N b) : spOK N (spEither a b) :=
  spOK_in (spEither_ok b a ha (spRight_each hb)).1 fun n hn => by
    rcases ((spEither_ok b a ha (spRight_each hb)).2 n).1 hn with h1 | h1
    · exact spOK_lt h h1
    · exact spOK_lt h' h1
theorem spCut_app (f t : Nat) (a b : List Sp) : spCut f t (a ++ b) = spCut f t a ++ spCut f t b := by
  induction a with
  | nil => rfl
  | cons x a ih => rw [List.cons_append, spCut, spCut, ih, List.append_assoc]
theorem spIn_hit {l : List Sp} {k : Nat} (hk : k < l.length) {m : Nat} (h1 : l[k].1 ≤ m) (h2 : m ≤ l[k].2) : spIn l m = true := by
  simp only [spIn, List.any_eq_true, Bool.and_eq_true, decide_eq_true_eq]
  exact ⟨l[k], List.getElem_mem hk, h1, h2⟩
theorem spIn_miss {l : List Sp} {k : Nat} (hk : k < l.length) {m : Nat} (h : spIn (l.take k) m = false) (h1 : ¬ (l[k].1 ≤ m ∧ m ≤ l[k].2)) : spIn (l.take (k + 1)) m = false := by
  rw [List.take_succ_eq_append_getElem hk]
  rcases hx : spIn (l.take k ++ [l[k]]) m with _ | _
  · rfl
  · rw [spIn_app, h] at hx
    simp [spIn] at hx
    omega
theorem spRight_mono : ∀ {l : List Sp}, spRight l = true → ∀ (j k : Nat) (hk : k < l.length) (hj : j ≤ k), l[j].2 ≤ l[k].2
  | [], _, _, _, hk, _ => absurd hk (by simp)
  | a :: l, hr, 0, 0, _, _ => Nat.le_refl _
  | a :: l, hr, 0, k + 1, hk, _ => by
    have hk' : k < l.length := by simpa using hk
    have h1 := spRight_far hr (spIn_hit hk' (Nat.le_refl _) (spRight_each (spRight_tail hr) _ (List.getElem_mem hk')))
    have h2 := spRight_each (spRight_tail hr) _ (List.getElem_mem hk')
    simp only [List.getElem_cons_zero, List.getElem_cons_succ]
    omega
  | a :: l, hr, j + 1, 0, _, hj => by omega
  | a :: l, hr, j + 1, k + 1, hk, hj => by
    simp only [List.getElem_cons_succ]
    exact spRight_mono (spRight_tail hr) j k (by simpa using hk) (by omega)
theorem spSum_le {N : Nat} : ∀ {l : List Sp}, spOK N l → spSum l ≤ l.length * N
  | [], _ => by simp [spSum]
  | a :: l, h => by
    have ih := spSum_le (N := N) (l := l) (fun z hz => h z (by simp [hz]))
    have ha := h a (by simp)
    have e : spSum (a :: l) = (a.2 - a.1 + 1) + spSum l := by simp [spSum]
    rw [e, List.length_cons, Nat.add_mul]
    omega
/-- what Cut leaves of one span -/
def spPiece (f t : Nat) (a : Sp) : List Sp := if a.2 < f ∨ t < a.1 then [a] else (if a.1 < f then [(a.1, f - 1)] else []) ++ (if t < a.2 then [(t + 1, a.2)] else [])
theorem spCut_next {f t : Nat} {l : List Sp} {k : Nat} (hk : k < l.length) : spCut f t (l.take (k + 1)) = spCut f t (l.take k) ++ spPiece f t l[k] := by
  rw [List.take_succ_eq_append_getElem hk, spCut_app]
  simp [spCut, spPiece]
theorem spPiece_len (f t : Nat) (a : Sp) : (spPiece f t a).length ≤ 2 := by
  unfold spPiece
  split
  · simp
  · split <;> split <;> simp
theorem spCut_len (f t : Nat) : ∀ (l : List Sp), (spCut f t l).length ≤ 2 * l.length
  | [] => by simp [spCut]
  | a :: l => by
    have h1 := spCut_len f t l
    have h2 := spPiece_len f t a
    have e : spCut f t (a :: l) = spPiece f t a ++ spCut f t l := rfl
    rw [e, List.length_append, List.length_cons]
    omega
/-- what Add, Cut tell, with the error -/
def cutR (l : List Sp) (f t : Nat) : List Sp := if spRight l = true ∧ f ≤ t then spCut f t l else []
def addR (l : List Sp) (f t : Nat) : List Sp := if spRight l = true ∧ f ≤ t then spAdd f t l else []
def spErr (l : List Sp) (f t : Nat) : Nat := if spRight l = true then (if f ≤ t then 0 else 2) else 30
theorem cutR_not {l : List Sp} {f t : Nat} (h : spRight l = false) : cutR l f t = [] := by simp [cutR, h]
theorem cutR_arg {l : List Sp} {f t : Nat} (h : t < f) : cutR l f t = [] := by simp [cutR, Nat.not_le.2 h]
theorem cutR_ok {l : List Sp} {f t : Nat} (h : spRight l = true) (h1 : f ≤ t) : cutR l f t = spCut f t l := by simp [cutR, h, h1]
theorem addR_not {l : List Sp} {f t : Nat} (h : spRight l = false) : addR l f t = [] := by simp [addR, h]
theorem addR_arg {l : List Sp} {f t : Nat} (h : t < f) : addR l f t = [] := by simp [addR, Nat.not_le.2 h]
theorem addR_ok {l : List Sp} {f t : Nat} (h : spRight l = true) (h1 : f ≤ t) : addR l f t = spAdd f t l := by simp [addR, h, h1]
theorem spErr_not {l : List Sp} {f t : Nat} (h : spRight l = false) : spErr l f t = 30 := by simp [spErr, h]
theorem spErr_arg {l : List Sp} {f t : Nat} (h : spRight l = true) (h1 : t < f) : spErr l f t = 2 := by simp [spErr, h, Nat.not_le.2 h1]
theorem spErr_ok {l : List Sp} {f t : Nat} (h : spRight l = true) (h1 : f ≤ t) : spErr l f t = 0 := by simp [spErr, h, h1]
theorem spOver_len (s : Sp) : ∀ (l : List Sp), (spOver s l).length ≤ l.length
  | [] => by simp [spOver]
  | a :: l => by
    have := spOver_len s l
    rw [spOver]
    split
    · simp; omega
    · split <;> simp <;> omega
theorem spTake_len (t : Nat) : ∀ (l : List Sp) (s : Sp), (spTake s t l).2.length ≤ l.length
  | [], _ => by simp [spTake]
  | a :: l, s => by
    rw [spTake]
    split
    · have := spTake_len t l (min s.1 a.1, max s.2 a.2); simp; omega
    · simp
theorem spAdd_len (f t : Nat) : ∀ (l : List Sp), (spAdd f t l).length ≤ l.length + 1
  | [] => by simp [spAdd]
  | a :: l => by
    rw [spAdd]
    split
    · have := spAdd_len f t l; simp; omega
    · have := spTake_len t (a :: l) (f, t); simp at this ⊢; omega
theorem spEither_len : ∀ (b a : List Sp), (spEither a b).length ≤ a.length + b.length
  | [], a => by simp [spEither]
  | s :: b, a => by
    have h1 := spEither_len b (spAdd s.1 s.2 a)
    have h2 := spAdd_len s.1 s.2 a
    have e : spEither a (s :: b) = spEither (spAdd s.1 s.2 a) b := rfl
    rw [e, List.length_cons]; omega
theorem spBoth_len : ∀ (b a : List Sp), (spBoth a b).length ≤ b.length * a.length
  | [], a => by simp [spBoth]
  | s :: b, a => by
    have h1 := spBoth_len b a
    have h2 := spOver_len s a
    have e : spBoth a (s :: b) = spOver s a ++ spBoth a b := rfl
    rw [e, List.length_append, List.length_cons, Nat.add_mul]; omega
end Go.PH

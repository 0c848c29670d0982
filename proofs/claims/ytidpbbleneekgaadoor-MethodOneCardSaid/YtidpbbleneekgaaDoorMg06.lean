/- Texts laid together: SpMath7, SpMem, SpSame, SpSee, SpWalk, SpPut. -/
import Derived.Deep.QuietTactic
import Derived.BigQuiet
import Derived.Laws.StructEq
import Derived.Test.YtidpbbleneekgaaDoorMg01
import Derived.Test.YtidpbbleneekgaaDoorMg02
import Derived.Test.YtidpbbleneekgaaDoorMg03
import Derived.Test.YtidpbbleneekgaaDoorMg04
import Derived.Test.YtidpbbleneekgaaDoorMg05
section
/- Rows by their beginnings; how many numbers a row has; as plain mathematics. -/
set_option linter.all false
set_option linter.unusedSimpArgs false
set_option linter.unusedVariables false
namespace Go.PH

theorem spRight_front : ∀ {a b : List Sp}, spRight (a ++ b) = true → spRight a = true
  | [], _, _ => rfl
  | x :: a, b, h => by
    rw [List.cons_append] at h
    obtain ⟨h1, h2, h3⟩ := spRight_cons.1 h
    refine spRight_cons.2 ⟨h1, ?_, spRight_front h3⟩
    cases a with
    | nil => trivial
    | cons y a => exact h2
theorem spRight_take {l : List Sp} (h : spRight l = true) (k : Nat) : spRight (l.take k) = true := spRight_front (b := l.drop k) (by rw [List.take_append_drop]; exact h)
/-- the next span stands rightly behind those ahead of it -/
def spNext (l : List Sp) (k : Nat) (h : k < l.length) : Prop := l[k].1 ≤ l[k].2 ∧ ∀ (h0 : 0 < k), l[k - 1].2 + 2 ≤ l[k].1
theorem spRight_next {l : List Sp} {k : Nat} (hk : k < l.length) (h : spRight (l.take k) = true) : spRight (l.take (k + 1)) = true ↔ spNext l k hk := by
  rw [List.take_succ_eq_append_getElem hk, spRight_app]
  unfold spNext
  constructor
  · rintro ⟨_, h1, h2⟩
    refine ⟨h1, fun h0 => h2 _ ?_⟩
    rw [List.getLast?_eq_getElem?, List.length_take, Nat.min_eq_left (by omega), List.getElem?_take, if_pos (by omega), List.getElem?_eq_getElem (by omega)]
    rfl
  · rintro ⟨h1, h2⟩
    refine ⟨h, h1, fun b hb => ?_⟩
    rcases Nat.eq_zero_or_pos k with rfl | h0
    · simp at hb
    · rw [List.getLast?_eq_getElem?, List.length_take, Nat.min_eq_left (by omega), List.getElem?_take, if_pos (by omega), List.getElem?_eq_getElem (by omega)] at hb
      cases hb
      exact h2 h0
theorem spRight_yes {l : List Sp} {k : Nat} (hk : k < l.length) (h : spRight (l.take k) = true) (h1 : spNext l k hk) : spRight (l.take (k + 1)) = true := (spRight_next hk h).2 h1
theorem spRight_no {l : List Sp} {k : Nat} (hk : k < l.length) (h : spRight (l.take k) = true) (h1 : ¬ spNext l k hk) : spRight l = false := by
  rcases hr : spRight l with _ | _
  · rfl
  · exact absurd ((spRight_next hk h).1 (spRight_take hr _)) h1
theorem spNext_iff {l : List Sp} {k : Nat} (hk : k < l.length) : spNext l k hk ↔ (l[k].1 ≤ l[k].2 ∧ (k = 0 ∨ (l.getD (k - 1) (0, 0)).2 + 2 ≤ l[k].1)) := by
  unfold spNext
  have e : l.getD (k - 1) (0, 0) = l[k - 1] := by
    have : k - 1 < l.length := by omega
    simp [List.getD, List.getElem?_eq_getElem this]
  rw [e]
  constructor
  · rintro ⟨h1, h2⟩
    refine ⟨h1, ?_⟩
    rcases Nat.eq_zero_or_pos k with h0 | h0
    · exact .inl h0
    · exact .inr (h2 h0)
  · rintro ⟨h1, h2⟩
    refine ⟨h1, fun h0 => ?_⟩
    rcases h2 with h2 | h2
    · omega
    · exact h2
/-- how many numbers -/
def spSum (l : List Sp) : Nat := (l.map fun a => a.2 - a.1 + 1).sum
theorem spSum_next {l : List Sp} {k : Nat} (hk : k < l.length) : spSum (l.take (k + 1)) = spSum (l.take k) + (l[k].2 - l[k].1 + 1) := by
  unfold spSum
  rw [List.take_succ_eq_append_getElem hk, List.map_append, List.sum_append]
  simp
theorem countP_between (f t : Nat) : ∀ N, t < N → f ≤ t → (List.range N).countP (fun n => decide (f ≤ n) && decide (n ≤ t)) = t - f + 1 := by
  intro N
  induction N with
  | zero => intro h; omega
  | succ N ih =>
    intro h hft
    rw [List.range_succ, List.countP_append]
    rcases Nat.lt_or_ge t N with h1 | h1
    · rw [ih h1 hft]
      simp [show ¬ N ≤ t by omega]
    · obtain rfl : t = N := by omega
      have : ∀ M, M ≤ t → f ≤ M → (List.range M).countP (fun n => decide (f ≤ n) && decide (n ≤ t)) = M - f := by
        intro M
        induction M with
        | zero => intro _ h; simp
        | succ M ihM =>
          intro hM hf
          rw [List.range_succ, List.countP_append]
          rcases Nat.lt_or_ge M f with h2 | h2
          · obtain rfl : f = M + 1 := by omega
            rw [List.countP_eq_zero.2 (by intro n hn; simp at hn ⊢; omega)]
            simp; omega
          · rw [ihM (by omega) h2]
            simp [h2, show M ≤ t by omega]; omega
      rw [this t (Nat.le_refl _) hft]
      simp [hft]
theorem spSum_count (N : Nat) : ∀ (l : List Sp), spRight l = true → (∀ a ∈ l, a.2 < N) → spSum l = (List.range N).countP (spIn l)
  | [], _, _ => by
    rw [List.countP_eq_zero.2 (by intro n _; simp [spIn])]
    rfl
  | a :: l, hr, hb => by
    have ih := spSum_count N l (spRight_tail hr) (fun z hz => hb z (by simp [hz]))
    have hd := spRight_head hr
    have e : spSum (a :: l) = (a.2 - a.1 + 1) + spSum l := by simp [spSum]
    rw [e, ih, ← countP_between a.1 a.2 N (hb a (by simp)) hd]
    have hdis : ∀ n, (decide (a.1 ≤ n) && decide (n ≤ a.2)) = true → spIn l n = true → False := by
      intro n h1 h2
      have := spRight_far hr h2
      simp at h1; omega
    generalize List.range N = L
    induction L with
    | nil => rfl
    | cons n L ihL =>
      rw [List.countP_cons, List.countP_cons, List.countP_cons]
      have hc : spIn (a :: l) n = ((decide (a.1 ≤ n) && decide (n ≤ a.2)) || spIn l n) := by simp [spIn]
      rw [hc]
      have hd := hdis n
      revert hd
      cases (decide (a.1 ≤ n) && decide (n ≤ a.2)) <;> cases spIn l n <;> intro hd <;> simp at hd ⊢ <;> omega
/-- what is cut off, and what it was cut off with, are what both have -/
theorem spSum_minus (N : Nat) (a b c d : List Sp) (ha : spRight c = true) (hb : spRight b = true) (hd : spRight d = true) (nc : ∀ z ∈ c, z.2 < N) (nb : ∀ z ∈ b, z.2 < N) (nd : ∀ z ∈ d, z.2 < N)
    (h1 : ∀ n, spIn c n = true ↔ (spIn a n = true ∧ ¬ spIn b n = true)) (h2 : ∀ n, spIn d n = true ↔ (spIn a n = true ∨ spIn b n = true)) : spSum c + spSum b = spSum d := by
  rw [spSum_count N c ha nc, spSum_count N b hb nb, spSum_count N d hd nd]
  generalize List.range N = L
  induction L with
  | nil => rfl
  | cons n L ih =>
    rw [List.countP_cons, List.countP_cons, List.countP_cons]
    have e1 := h1 n
    have e2 := h2 n
    revert e1 e2
    cases spIn a n <;> cases spIn b n <;> cases spIn c n <;> cases spIn d n <;> simp <;> omega
/-- bounds -/
def spOK (N : Nat) (l : List Sp) : Prop := ∀ a ∈ l, a.1 < N ∧ a.2 < N
theorem spOK_in {N : Nat} {l : List Sp} (hr : spRight l = true) (h : ∀ n, spIn l n = true → n < N) : spOK N l := by
  intro a ha
  have h1 := spRight_each hr a ha
  have h2 : ∀ n, a.1 ≤ n → n ≤ a.2 → n < N := fun n h3 h4 => h n (by simp only [spIn, List.any_eq_true, Bool.and_eq_true, decide_eq_true_eq]; exact ⟨a, ha, h3, h4⟩)
  exact ⟨h2 _ (Nat.le_refl _) h1, h2 _ h1 (Nat.le_refl _)⟩
theorem spOK_lt {N : Nat} {l : List Sp} (h : spOK N l) {n : Nat} (hn : spIn l n = true) : n < N := by
  simp only [spIn, List.any_eq_true, Bool.and_eq_true, decide_eq_true_eq] at hn
  obtain ⟨a, ha, _, h2⟩ := hn
  have := (h a ha).2
  omega
theorem spCut_ok {N f t : Nat} (hft : f ≤ t) {l : List Sp} (hr : spRight l = true) (h : spOK N l) : spOK N (spCut f t l) :=
  spOK_in (spCut_right f t hft l hr).1 fun n hn => spOK_lt h ((spCut_in f t hft l n).1 hn).1
theorem spAdd_ok {N f t : Nat} (hft : f ≤ t) (ht : t < N) {l : List Sp} (hr : spRight l = true) (h : spOK N l) : spOK N (spAdd f t l) :=
  spOK_in (spAdd_right f t hft l hr).1 fun n hn => by
    rcases (spAdd_in f t hft l hr n).1 hn with h1 | h1
    · omega
    · exact spOK_lt h h1
theorem spBoth_ok {N : Nat} {a b : List Sp} (ha : spRight a = true) (hb : spRight b = true) (h : spOK N a) : spOK N (spBoth a b) :=
  spOK_in (spBoth_right a b ha hb).1 fun n hn => spOK_lt h ((spBoth_in a b ha n).1 hn).1
theorem spEither_bd {N : Nat} {a b : List Sp} (ha : spRight a = true) (hb : spRight b = true) (h : spOK N a) (h' : spOK N b) : spOK N (spEither a b) :=
  spOK_in (spEither_ok b a ha (spRight_each hb)).1 fun n hn => by
    rcases ((spEither_ok b a ha (spRight_each hb)).2 n).1 hn with h1 | h1
    · exact spOK_lt h h1
    · exact spOK_lt h' h1
theorem spCut_app (f t : Nat) (a b : List Sp) : spCut f t (a ++ b) = spCut f t a ++ spCut f t b := by
  induction a with
  | nil => rfl
  | cons x a ih => rw [List.cons_append, spCut, spCut, ih, List.append_assoc]
theorem spIn_hit {l : List Sp} {k : Nat} (hk : k < l.length) {m : Nat} (h1 : l[k].1 ≤ m) (h2 : m ≤ l[k].2) : spIn l m = true := by
  simp only [spIn, List.any_eq_true, Bool.and_eq_true, decide_eq_true_eq]
  exact ⟨l[k], List.getElem_mem hk, h1, h2⟩
theorem spIn_miss {l : List Sp} {k : Nat} (hk : k < l.length) {m : Nat} (h : spIn (l.take k) m = false) (h1 : ¬ (l[k].1 ≤ m ∧ m ≤ l[k].2)) : spIn (l.take (k + 1)) m = false := by
  rw [List.take_succ_eq_append_getElem hk]
  rcases hx : spIn (l.take k ++ [l[k]]) m with _ | _
  · rfl
  · rw [spIn_app, h] at hx
    simp [spIn] at hx
    omega
theorem spRight_mono : ∀ {l : List Sp}, spRight l = true → ∀ (j k : Nat) (hk : k < l.length) (hj : j ≤ k), l[j].2 ≤ l[k].2
  | [], _, _, _, hk, _ => absurd hk (by simp)
  | a :: l, hr, 0, 0, _, _ => Nat.le_refl _
  | a :: l, hr, 0, k + 1, hk, _ => by
    have hk' : k < l.length := by simpa using hk
    have h1 := spRight_far hr (spIn_hit hk' (Nat.le_refl _) (spRight_each (spRight_tail hr) _ (List.getElem_mem hk')))
    have h2 := spRight_each (spRight_tail hr) _ (List.getElem_mem hk')
    simp only [List.getElem_cons_zero, List.getElem_cons_succ]
    omega
  | a :: l, hr, j + 1, 0, _, hj => by omega
  | a :: l, hr, j + 1, k + 1, hk, hj => by
    simp only [List.getElem_cons_succ]
    exact spRight_mono (spRight_tail hr) j k (by simpa using hk) (by omega)
theorem spSum_le {N : Nat} : ∀ {l : List Sp}, spOK N l → spSum l ≤ l.length * N
  | [], _ => by simp [spSum]
  | a :: l, h => by
    have ih := spSum_le (N := N) (l := l) (fun z hz => h z (by simp [hz]))
    have ha := h a (by simp)
    have e : spSum (a :: l) = (a.2 - a.1 + 1) + spSum l := by simp [spSum]
    rw [e, List.length_cons, Nat.add_mul]
    omega
/-- what Cut leaves of one span -/
def spPiece (f t : Nat) (a : Sp) : List Sp := if a.2 < f ∨ t < a.1 then [a] else (if a.1 < f then [(a.1, f - 1)] else []) ++ (if t < a.2 then [(t + 1, a.2)] else [])
theorem spCut_next {f t : Nat} {l : List Sp} {k : Nat} (hk : k < l.length) : spCut f t (l.take (k + 1)) = spCut f t (l.take k) ++ spPiece f t l[k] := by
  rw [List.take_succ_eq_append_getElem hk, spCut_app]
  simp [spCut, spPiece]
theorem spPiece_len (f t : Nat) (a : Sp) : (spPiece f t a).length ≤ 2 := by
  unfold spPiece
  split
  · simp
  · split <;> split <;> simp
theorem spCut_len (f t : Nat) : ∀ (l : List Sp), (spCut f t l).length ≤ 2 * l.length
  | [] => by simp [spCut]
  | a :: l => by
    have h1 := spCut_len f t l
    have h2 := spPiece_len f t a
    have e : spCut f t (a :: l) = spPiece f t a ++ spCut f t l := rfl
    rw [e, List.length_append, List.length_cons]
    omega
/-- what Add, Cut tell, with the error -/
def cutR (l : List Sp) (f t : Nat) : List Sp := if spRight l = true ∧ f ≤ t then spCut f t l else []
def addR (l : List Sp) (f t : Nat) : List Sp := if spRight l = true ∧ f ≤ t then spAdd f t l else []
def spErr (l : List Sp) (f t : Nat) : Nat := if spRight l = true then (if f ≤ t then 0 else 2) else 30
theorem cutR_not {l : List Sp} {f t : Nat} (h : spRight l = false) : cutR l f t = [] := by simp [cutR, h]
theorem cutR_arg {l : List Sp} {f t : Nat} (h : t < f) : cutR l f t = [] := by simp [cutR, Nat.not_le.2 h]
theorem cutR_ok {l : List Sp} {f t : Nat} (h : spRight l = true) (h1 : f ≤ t) : cutR l f t = spCut f t l := by simp [cutR, h, h1]
theorem addR_not {l : List Sp} {f t : Nat} (h : spRight l = false) : addR l f t = [] := by simp [addR, h]
theorem addR_arg {l : List Sp} {f t : Nat} (h : t < f) : addR l f t = [] := by simp [addR, Nat.not_le.2 h]
theorem addR_ok {l : List Sp} {f t : Nat} (h : spRight l = true) (h1 : f ≤ t) : addR l f t = spAdd f t l := by simp [addR, h, h1]
theorem spErr_not {l : List Sp} {f t : Nat} (h : spRight l = false) : spErr l f t = 30 := by simp [spErr, h]
theorem spErr_arg {l : List Sp} {f t : Nat} (h : spRight l = true) (h1 : t < f) : spErr l f t = 2 := by simp [spErr, h, Nat.not_le.2 h1]
theorem spErr_ok {l : List Sp} {f t : Nat} (h : spRight l = true) (h1 : f ≤ t) : spErr l f t = 0 := by simp [spErr, h, h1]
theorem spOver_len (s : Sp) : ∀ (l : List Sp), (spOver s l).length ≤ l.length
  | [] => by simp [spOver]
  | a :: l => by
    have := spOver_len s l
    rw [spOver]
    split
    · simp; omega
    · split <;> simp <;> omega
theorem spTake_len (t : Nat) : ∀ (l : List Sp) (s : Sp), (spTake s t l).2.length ≤ l.length
  | [], _ => by simp [spTake]
  | a :: l, s => by
    rw [spTake]
    split
    · have := spTake_len t l (min s.1 a.1, max s.2 a.2); simp; omega
    · simp
theorem spAdd_len (f t : Nat) : ∀ (l : List Sp), (spAdd f t l).length ≤ l.length + 1
  | [] => by simp [spAdd]
  | a :: l => by
    rw [spAdd]
    split
    · have := spAdd_len f t l; simp; omega
    · have := spTake_len t (a :: l) (f, t); simp at this ⊢; omega
theorem spEither_len : ∀ (b a : List Sp), (spEither a b).length ≤ a.length + b.length
  | [], a => by simp [spEither]
  | s :: b, a => by
    have h1 := spEither_len b (spAdd s.1 s.2 a)
    have h2 := spAdd_len s.1 s.2 a
    have e : spEither a (s :: b) = spEither (spAdd s.1 s.2 a) b := rfl
    rw [e, List.length_cons]; omega
theorem spBoth_len : ∀ (b a : List Sp), (spBoth a b).length ≤ b.length * a.length
  | [], a => by simp [spBoth]
  | s :: b, a => by
    have h1 := spBoth_len b a
    have h2 := spOver_len s a
    have e : spBoth a (s :: b) = spOver s a ++ spBoth a b := rfl
    rw [e, List.length_append, List.length_cons, Nat.add_mul]; omega
end Go.PH
end
section
/- Slices of spans in memory. -/
set_option linter.all false
set_option linter.unusedSimpArgs false
set_option linter.unusedVariables false
namespace Go.PH
open Go.RowKit Go.Proofs

def sp2 (a : Sp) : List Value := [.int .u32 (a.1 : Int), .int .u32 (a.2 : Int)]
def spCells (l : List Sp) : List Value := l.flatMap sp2
theorem spCells_cons (a : Sp) (l : List Sp) : spCells (a :: l) = .int .u32 (a.1 : Int) :: .int .u32 (a.2 : Int) :: spCells l := rfl
theorem spCells_nil : spCells [] = [] := rfl
theorem spCells_app (a b : List Sp) : spCells (a ++ b) = spCells a ++ spCells b := by simp [spCells]
theorem spCells_len (l : List Sp) : (spCells l).length = l.length * 2 := by
  induction l with
  | nil => rfl
  | cons a l ih => rw [spCells_cons]; simp only [List.length_cons, ih]; omega
theorem spCells_take : ∀ (l : List Sp) (k : Nat), (spCells l).take (k * 2) = spCells (l.take k)
  | [], k => by simp [spCells]
  | a :: l, 0 => by simp [spCells]
  | a :: l, k + 1 => by rw [spCells_cons, show (k + 1) * 2 = k * 2 + 1 + 1 by omega, List.take_succ_cons, List.take_succ_cons, spCells_take l k, List.take_succ_cons, spCells_cons]
theorem spCells_drop : ∀ (l : List Sp) (k : Nat), (spCells l).drop (k * 2) = spCells (l.drop k)
  | [], k => by simp [spCells]
  | a :: l, 0 => by simp
  | a :: l, k + 1 => by rw [spCells_cons, show (k + 1) * 2 = k * 2 + 1 + 1 by omega, List.drop_succ_cons, List.drop_succ_cons, spCells_drop l k, List.drop_succ_cons]
theorem spCells_get : ∀ (l : List Sp) (k : Nat) (h : k < l.length), (spCells l)[k * 2]? = some (.int .u32 (l[k].1 : Int)) ∧ (spCells l)[k * 2 + 1]? = some (.int .u32 (l[k].2 : Int))
  | a :: l, 0, _ => by simp [spCells_cons]
  | a :: l, k + 1, h => by
    have := spCells_get l k (by simpa using h)
    rw [spCells_cons, show (k + 1) * 2 = k * 2 + 1 + 1 by omega]
    simpa using this
theorem spCells_one (l : List Sp) : ∀ u ∈ spCells l, u.oneCell' = true := by
  intro u hu
  simp only [spCells, List.mem_flatMap, sp2, List.mem_cons, List.not_mem_nil, or_false] at hu
  obtain ⟨a, _, rfl | rfl⟩ := hu <;> rfl
theorem spCells_set : ∀ (l : List Sp) (k : Nat) (v : Nat) (h : k < l.length), (spCells l).set (k * 2 + 1) (.int .u32 (v : Int)) = spCells (l.set k (l[k].1, v))
  | a :: l, 0, v, _ => by simp [spCells_cons]
  | a :: l, k + 1, v, h => by
    have := spCells_set l k v (by simpa using h)
    rw [spCells_cons, show (k + 1) * 2 + 1 = k * 2 + 1 + 1 + 1 by omega]
    simp only [List.set_cons_succ, this, List.getElem_cons_succ, spCells_cons]
/-- a slice of spans -/
abbrev RdS (w : World) (B : Nat) (A : Option Addr) (n c : Nat) (l : List Sp) : Prop := Rd w B 2 A n c (spCells l)
variable {w w' : World} {B n c : Nat} {A : Option Addr} {l : List Sp}
theorem RdS.length (h : RdS w B A n c l) : l.length = n := by have := h.len; rw [spCells_len] at this; omega
theorem RdS.at_k (h : RdS w B A n c l) {k : Nat} (hk : k < n) : ∃ b off, A = some ⟨b, off, none⟩ ∧ b < B ∧ ∃ hl : k < l.length, w.cell? ⟨b, off + k * 2, none⟩ = some (.int .u32 (l[k].1 : Int)) ∧ w.cell? ⟨b, off + k * 2 + 1, none⟩ = some (.int .u32 (l[k].2 : Int)) := by
  obtain ⟨b, off, e, hb, hc⟩ := h.at_ (by omega)
  have hl := h.length
  have hg := spCells_get l k (by omega)
  exact ⟨b, off, e, hb, by omega, hc _ _ hg.1, by have := hc _ _ hg.2; rwa [← Nat.add_assoc] at this⟩
theorem RdS.at_p (h : RdS w B A n c l) {k : Nat} (hk : k ≤ n) (h0 : 0 < k) : ∃ b off, A = some ⟨b, off, none⟩ ∧ b < B ∧ w.cell? ⟨b, off + (k - 1) * 2 + 1, none⟩ = some (.int .u32 ((l.getD (k - 1) (0, 0)).2 : Int)) := by
  obtain ⟨b, off, e, hb, hl, _, hc⟩ := RdS.at_k h (k := k - 1) (by omega)
  refine ⟨b, off, e, hb, ?_⟩
  rw [hc]; simp [List.getD, List.getElem?_eq_getElem hl]
theorem spOK_getD {N : Nat} {l : List Sp} (h : spOK N l) (k : Nat) (hN : 0 < N) : (l.getD k (0, 0)).1 < N ∧ (l.getD k (0, 0)).2 < N := by
  rw [List.getD]
  cases hk : l[k]? with
  | none => exact ⟨hN, hN⟩
  | some a => exact h a (List.mem_of_getElem? hk)
theorem RdS.cut {lo k : Nat} (hr : RdS w B A n c l) (h : lo + k ≤ n) : RdS w B (cutA A 2 lo c) k (c - lo) ((l.drop lo).take k) := by
  have h1 := rd_cut hr lo (lo + k) c (by omega) (by have := hr.cap; omega) (Nat.le_refl _) h
  rw [spCells_take, spCells_drop, List.drop_take, Nat.add_sub_cancel_left] at h1
  exact h1
theorem slS : SlT Tryd.prog 50 103 2 8 (.agg #[.int .u32 0, .int .u32 0]) := SlT.mk' Tryd.underlying50 (by kernel_rfl) rfl (by omega)
abbrev OwnS (w : World) (base : Nat) (A : Option Addr) (n c : Nat) (l : List Sp) : Prop := Own w base 103 2 A n c (spCells l)
end Go.PH
end
section
/- The walks of the reference's Copy and Same of spans. -/
set_option linter.all false
set_option linter.unusedSimpArgs false
set_option linter.unusedVariables false
namespace Go.PH
open Go.RowKit Go.Proofs

theorem span_fields : Tryd.prog.underlying 103 = some (.struct (Tryd.prog.fieldsOf 103)) := by kernel_rfl
theorem span_stood : Tryd.prog.stoodInHeld 103 = false := by kernel_rfl
theorem span_guard : Tryd.prog.eqGuardType Tryd.prog.depth 103 = false := by kernel_rfl
theorem span_neq (f t f' t' : Nat) (w : World) : (binOp .neq 103 (.agg #[.int .u32 f, .int .u32 t]) (.agg #[.int .u32 f', .int .u32 t'])).run Tryd.prog w = .ok (.bool (!decide ((f, t) = (f', t')))) w := by
  rw [run_neq_struct, run_equalIn_struct w 9999 103 _ _ span_fields span_stood]
  simp only [Program.fieldsOf, Tryd.underlying103]
  have hb : (f, t) = (f', t') ↔ f = f' ∧ t = t' := by simp
  have hd : decide ((f, t) = (f', t')) = (((f : Int) == (f' : Int)) && ((t : Int) == (t' : Int))) := by
    rw [Bool.eq_iff_iff]; simp; omega
  rw [hd]
  cases h1 : ((f : Int) == (f' : Int)) <;> cases h2 : ((t : Int) == (t' : Int)) <;> simp [Op.eqFields, part, run_equalIn_int _ 9998 47 .u32 .u32 _ _ Tryd.underlying47, h1, h2, beq_iff_eq, Result.andThen, typeInfo, sizeOf]

end Go.PH
end
section
/- Reading rows of spans. -/
set_option linter.all false
set_option linter.unusedSimpArgs false
set_option linter.unusedVariables false
namespace Go.PH
open Go.RowKit Go.Proofs Go.ChangeShapes Go.WideShapes Go.ChangeAt Go.Deep
variable {H : Type} {enc : TypeId × Value → H} {W : World}

def RSpan (a : Sp) (cs : List Value) : Prop := cs = sp2 a ∧ a.1 < 4294967296 ∧ a.2 < 4294967296
theorem cells2s {cs : List Value} {a b : Value} (hl : cs.length = 2) (h0 : (cs.drop 0).take 1 = [a]) (h1 : (cs.drop 1).take 1 = [b]) : cs = [a, b] := by
  match cs, hl with
  | [x, y], _ => simp_all
set_option maxRecDepth 20000 in
theorem reader_span : Reader enc Tryd.prog W 103 RSpan := fun fuel cs d p h hw => by
  obtain ⟨hl, hf⟩ := trod_field Tryd.underlying103 h hw
  obtain ⟨n0, h0, w0⟩ := hf 0 _ rfl (reader_int (k := .u32) Tryd.underlying47)
  obtain ⟨n1, h1, w1⟩ := hf 1 _ rfl (reader_int (k := .u32) Tryd.underlying47)
  have b0 := bounds_u32 w0
  have b1 := bounds_u32 w1
  rw [(by kernel_rfl : Tryd.prog.cellsOf 103 = 2)] at hl
  refine ⟨(n0.toNat, n1.toNat), ?_, by simp; omega, by simp; omega⟩
  simp only [sp2]
  rw [show ((n0.toNat : Nat) : Int) = n0 by omega, show ((n1.toNat : Nat) : Int) = n1 by omega]
  exact cells2s hl h0 h1
theorem spCells_of : ∀ (L : List Sp) (xs : List Value), xs.length = L.length * 2 → (∀ i (h : i < L.length), RSpan L[i] ((xs.drop (i * 2)).take 2)) → xs = spCells L ∧ spOK 4294967296 L
  | [], xs, hl, _ => by
    have := List.eq_nil_of_length_eq_zero (by simpa using hl)
    subst this
    exact ⟨rfl, fun z hz => by cases hz⟩
  | a :: L, xs, hl, h => by
    rcases xs with _ | ⟨x, _ | ⟨y, xs⟩⟩
    · simp at hl
    · simp at hl; omega
    · have h0 := h 0 (by simp)
      obtain ⟨e, b1, b2⟩ := h0
      simp [sp2] at e
      obtain ⟨i1, i2⟩ := spCells_of L xs (by simp at hl; omega) (fun i hi => by
        have := h (i + 1) (by simp; omega)
        simpa [Nat.add_mul] using this)
      refine ⟨by rw [e.1, e.2, spCells_cons, i1], fun z hz => ?_⟩
      rcases List.mem_cons.1 hz with rfl | hz
      · exact ⟨b1, b2⟩
      · exact i2 z hz
theorem RdS.of {A : Option Addr} {n c B : Nat} {xs : List Value} {L : List Sp} (hr : Rd W B 2 A n c xs) (hL : L.length = n) (hR : ∀ i (h : i < L.length), RSpan L[i] ((xs.drop (i * 2)).take 2)) : RdS W B A n c L ∧ spOK 4294967296 L := by
  obtain ⟨h1, h2⟩ := spCells_of L xs (by rw [hr.len, hL]) hR
  subst h1
  exact ⟨hr, h2⟩
end Go.PH
end
section
/- The walks of spans: Right. -/
set_option linter.all false
set_option linter.unusedSimpArgs false
set_option linter.unusedVariables false
namespace Go.PH
open Go.RowKit Go.Proofs

set_option maxRecDepth 20000 in
theorem right_any (A : Option Addr) (n c : Nat) (l : List Sp) (B : Nat) (w : World) (hr : RdS w B A n c l) (hb : spOK 4294967296 l) (hB : B ≤ w.heap.size) (hn : n ≤ 140737488355328) :
    Calls Tryd.prog 60 #[.slice A n c] w fun e w' => e = .returned (.bool (spRight l)) ∧ Below w.heap.size w w' := by
  have hl := hr.length
  go_enter Tryd.func60, Tryd.ntmps60
  go_wp2_with (first | (with_reducible refine hold_append ?_) | (with_reducible refine hold_make ?_) | (with_reducible refine hold_copy ?_))
  go_loopw [7] (fun s wr => ∃ (k : Nat), k ≤ n ∧ s = .int .i64 k ∧ spRight (l.take k) = true ∧ Below w.heap.size w wr) (fun s _ => n - (RowKit.intOf s).toNat)
  case atStart => exact ⟨0, by omega, rfl, by simp [spRight], Below.refl _ _⟩
  case round =>
    obtain ⟨k, hk, rfl, hrk, hBr⟩ := hrel
    by_cases hlt : k < n
    · have hrr := hr.below (hBr.mono hB)
      obtain ⟨b, off, rfl, hbB, hkl, hc0, hc1⟩ := RdS.at_k hrr hlt
      have hbk := hb l[k] (List.getElem_mem hkl)
      have HN := Lib.hid (spNext_iff hkl)
      have hcp := RdS.at_p hrr hk
      have hbp := (spOK_getD hb (k - 1) (by omega)).2
      generalize (l.getD (k - 1) (0, 0)).2 = t0 at *
      generalize l[k].1 = f at *
      generalize l[k].2 = t at *
      have hB2 : Below w.heap.size w ((wr.alloc (.cells #[.int .u32 (f : Int), .int .u32 (t : Int)] 103))) := hBr.alloc hBr.size _
      by_cases h1 : t < f
      · have hd : (t : Int) < (f : Int) := by omega
        go_wp2_with (first | (with_reducible refine hold_append ?_) | (with_reducible refine hold_make ?_) | (with_reducible refine hold_copy ?_))
        skip
        go_quiet (fail)
        go_wp2_with (first | (with_reducible refine hold_append ?_) | (with_reducible refine hold_make ?_) | (with_reducible refine hold_copy ?_))
        go_ret
        have e := spRight_no hkl hrk (by rw [HN.out]; omega)
        rw [e]
        exact ⟨rfl, below_drewN hB2 _⟩
      · have hd : decide ((t : Int) < (f : Int)) = false := by simp; omega
        rcases Nat.eq_zero_or_pos k with hk0 | h0
        · have hd0 : decide (0 < k) = false := by simp; omega
          have hy := spRight_yes hkl hrk (by rw [HN.out]; omega)
          clear hk0
          go_wp2_with (first | (with_reducible refine hold_append ?_) | (with_reducible refine hold_make ?_) | (with_reducible refine hold_copy ?_))
          skip
          go_quiet (fail)
          go_wp2_with (first | (with_reducible refine hold_append ?_) | (with_reducible refine hold_make ?_) | (with_reducible refine hold_copy ?_))
          exact ⟨⟨k + 1, by omega, by go_num, hy, below_drewN hB2 _⟩, by simp [RowKit.intOf]; omega⟩
        · have hd0 : (0 : Int) < (k : Int) := by omega
          obtain ⟨b', off', e', _, hc2⟩ := hcp h0
          obtain ⟨rfl, rfl⟩ : b = b' ∧ off = off' := by simpa using e'
          clear e' hcp
          have hbb : b < wr.heap.size := World.block_lt_of_cell? wr _ hc0
          have hc3 := (World.cell?_alloc_past (w := wr) (.cells #[.int .u32 (f : Int), .int .u32 (t : Int)] 103) b (off + (k - 1) * 2 + 1) hbb).trans hc2
          have hw1 : IntKind.i64.wrap ((k : Int) - 1) = ((k - 1 : Nat) : Int) := by rw [IntWalk.i64_in _ ⟨by omega, by omega⟩]; omega
          have hlt1 : ((k - 1 : Nat) : Int) < (n : Int) := by omega
          by_cases h2 : f ≤ t0
          · have hd1 : (f : Int) ≤ (t0 : Int) := by omega
            go_wp2_with (first | (with_reducible refine hold_append ?_) | (with_reducible refine hold_make ?_) | (with_reducible refine hold_copy ?_))
            skip
            go_quiet (fail)
            go_wp2_with (first | (with_reducible refine hold_append ?_) | (with_reducible refine hold_make ?_) | (with_reducible refine hold_copy ?_))
            go_ret
            have e := spRight_no hkl hrk (by rw [HN.out]; omega)
            rw [e]
            exact ⟨rfl, below_drewN hB2 _⟩
          · have hd1 : decide ((f : Int) ≤ (t0 : Int)) = false := by simp; omega
            by_cases h3 : t0 + 1 = f
            · have hd3 : (((t0 : Int) + 1) == (f : Int)) = true := by simp; omega
              have hno := spRight_no hkl hrk (by rw [HN.out]; omega)
              clear h3
              go_wp2_with (first | (with_reducible refine hold_append ?_) | (with_reducible refine hold_make ?_) | (with_reducible refine hold_copy ?_))
              skip
              go_quiet (fail)
              go_wp2_with (first | (with_reducible refine hold_append ?_) | (with_reducible refine hold_make ?_) | (with_reducible refine hold_copy ?_))
              go_ret
              rw [hno]
              exact ⟨rfl, below_drewN hB2 _⟩
            · have hd3 : (((t0 : Int) + 1) == (f : Int)) = false := by simp; omega
              have hy := spRight_yes hkl hrk (by rw [HN.out]; omega)
              go_wp2_with (first | (with_reducible refine hold_append ?_) | (with_reducible refine hold_make ?_) | (with_reducible refine hold_copy ?_))
              skip
              go_quiet (fail)
              go_wp2_with (first | (with_reducible refine hold_append ?_) | (with_reducible refine hold_make ?_) | (with_reducible refine hold_copy ?_))
              exact ⟨⟨k + 1, by omega, by go_num, hy, below_drewN hB2 _⟩, by simp [RowKit.intOf]; omega⟩
    · obtain rfl : k = n := by omega
      go_wp2_with (first | (with_reducible refine hold_append ?_) | (with_reducible refine hold_make ?_) | (with_reducible refine hold_copy ?_))
      go_ret
      rw [← hl, List.take_length] at hrk
      rw [hrk]
      exact ⟨rfl, hBr⟩
end Go.PH
end
section
/- The walks of spans' Put and of its reference's. -/
set_option linter.all false
set_option linter.unusedSimpArgs false
set_option linter.unusedVariables false
namespace Go.PH
open Go.RowKit Go.Proofs

def spBytes (l : List Sp) : List UInt8 := l.flatMap fun a => be 4 a.1 ++ be 4 a.2
def spPut (l : List Sp) : List UInt8 := if spRight l = true ∧ l.length ≤ 1000 then be 2 (8 * l.length) ++ spBytes l else []
def spPutErr (l : List Sp) : Nat := if spRight l = true then (if l.length ≤ 1000 then 0 else 6) else 30
theorem spBytes_next {l : List Sp} {k : Nat} (hk : k < l.length) : spBytes (l.take (k + 1)) = spBytes (l.take k) ++ be 4 l[k].1 ++ be 4 l[k].2 := by
  unfold spBytes; rw [List.take_succ_eq_append_getElem hk, List.flatMap_append]; simp
theorem spBytes_len (l : List Sp) : (spBytes l).length = 8 * l.length := by
  induction l with
  | nil => rfl
  | cons a l ih =>
    have e : spBytes (a :: l) = be 4 a.1 ++ be 4 a.2 ++ spBytes l := rfl
    rw [e]; simp only [List.length_append, be_length, ih, List.length_cons]; omega
theorem put2 {b : List UInt8} {v : Nat} : puts b v 2 = b ++ be 2 v := puts_yes (by decide)
theorem put4 {b : List UInt8} {v : Nat} : puts b v 4 = b ++ be 4 v := puts_yes (by decide)

set_option maxRecDepth 20000 in
set_option maxHeartbeats 1000000 in
theorem spput_any (A : Option Addr) (n c : Nat) (l : List Sp) (B : Nat) (w : World) (hr : RdS w B A n c l) (hb : spOK 4294967296 l) (hB : B ≤ w.heap.size) (hn : n ≤ 140737488351232) :
    Calls Tryd.prog 37 #[.slice A n c] w fun e w' => ∃ A2 c2, e = .returned (.tuple #[.slice A2 (spPut l).length c2, .int .i64 (spPutErr l)]) ∧ Own w' w.heap.size 5 1 A2 (spPut l).length c2 ((spPut l).map u8v) ∧ Below w.heap.size w w' := by
  have hl := hr.length
  have hra := right_any A n c l B w hr hb hB (by omega)
  cases hright : spRight l
  · rw [hright] at hra
    have e1 : spPut l = [] := by simp [spPut, hright]
    have e2 : spPutErr l = 30 := by simp [spPutErr, hright]
    rw [e1, e2]
    go_enter Tryd.func37, Tryd.ntmps37
    go_wp2_with (first | (with_reducible refine hold_append ?_) | (with_reducible refine hold_make ?_) | (with_reducible refine hold_copy ?_))
    refine hra.mono ?_
    rintro e w1 ⟨rfl, hB1⟩
    go_wp2_with (first | (with_reducible refine hold_append ?_) | (with_reducible refine hold_make ?_) | (with_reducible refine hold_copy ?_))
    go_ret2
    exact ⟨none, 0, rfl, Own.none_ _ _ _ _, hB1⟩
  · rw [hright] at hra
    by_cases h1000 : 1000 < n
    · have e1 : spPut l = [] := by simp [spPut]; omega
      have e2 : spPutErr l = 6 := by simp [spPutErr, hright]; omega
      rw [e1, e2]
      have hd : (1000 : Int) < (n : Int) := by omega
      clear hright e1 e2
      go_enter Tryd.func37, Tryd.ntmps37
      go_wp2_with (first | (with_reducible refine hold_append ?_) | (with_reducible refine hold_make ?_) | (with_reducible refine hold_copy ?_))
      refine hra.mono ?_
      rintro e w1 ⟨rfl, hB1⟩
      go_wp2_with (first | (with_reducible refine hold_append ?_) | (with_reducible refine hold_make ?_) | (with_reducible refine hold_copy ?_))
      go_ret2
      exact ⟨none, 0, rfl, Own.none_ _ _ _ _, hB1⟩
    · have e1 : spPut l = be 2 (8 * n) ++ spBytes l := by rw [spPut, if_pos ⟨hright, by omega⟩, hl]
      have e2 : spPutErr l = 0 := by rw [spPutErr, if_pos hright, if_pos (by omega)]
      rw [e1, e2]
      have hd : ¬ (1000 : Int) < (n : Int) := by omega
      clear hright e1 e2
      go_enter Tryd.func37, Tryd.ntmps37
      go_wp2_with (first | (with_reducible refine hold_append ?_) | (with_reducible refine hold_make ?_) | (with_reducible refine hold_copy ?_))
      refine hra.mono ?_
      rintro e w1 ⟨rfl, hB1⟩
      have hw8 : IntKind.i64.wrap (8 * (n : Int)) = ((8 * n : Nat) : Int) := by rw [IntWalk.i64_in _ ⟨by omega, by omega⟩]; omega
      have hw9 : IntKind.u64.wrap ((8 * n : Nat) : Int) = ((8 * n : Nat) : Int) := IntWalk.u64_in _ ⟨by omega, by omega⟩
      have hp2 := put_any none 0 0 [] (8 * n) 2 w1 (Rd.nil _ _ _ _ (by simp [maxLen]) _) (by omega) (by omega)
      rw [put2, List.nil_append] at hp2
      obtain ⟨n8, hn8⟩ : ∃ n8, n8 = 8 * n := ⟨_, rfl⟩
      rw [← hn8] at hw8 hw9 hp2
      have HN8 := Lib.hid hn8
      clear hn8
      go_wp2_with (first | (with_reducible refine hold_append ?_) | (with_reducible refine hold_make ?_) | (with_reducible refine hold_copy ?_))
      refine hp2.mono ?_
      rintro e w2 ⟨A2, c2, rfl, ho2, hB2⟩
      have hB12 := hB1.trans (hB2.mono hB1.size)
      have ho2' := ho2.base_le hB1.size
      rw [HN8.out] at ho2'
      rw [be_length] at ho2' ⊢
      clear ho2 hB1 hB2 hp2
      go_wp2_with (first | (with_reducible refine hold_append ?_) | (with_reducible refine hold_make ?_) | (with_reducible refine hold_copy ?_))
      go_loopw [20, 4] (fun s v wr => ∃ (k N c2 : Nat) (A2 : Option Addr) (out : List UInt8), k ≤ n ∧ s = .int .i64 k ∧ v = .slice A2 N c2 ∧ N = 2 + 8 * k ∧ out = be 2 (8 * n) ++ spBytes (l.take k) ∧ Own wr w.heap.size 5 1 A2 N c2 (out.map u8v) ∧ Below w.heap.size w wr) (fun s _ _ => n - (RowKit.intOf s).toNat)
      case atStart => exact ⟨0, 2, c2, A2, be 2 (8 * n), by omega, rfl, rfl, by omega, by simp [spBytes], ho2', hB12⟩
      case round =>
        clear ho2' hB12
        obtain ⟨k, N, c2, A2, out, hk, rfl, rfl, hN, hout, ho, hBr⟩ := hrel
        by_cases hlt : k < n
        · obtain ⟨b, off, rfl, hbB, hkl, hc0, hc1⟩ := RdS.at_k (hr.below (hBr.mono hB)) hlt
          have hbk := hb l[k] (List.getElem_mem hkl)
          have hnx := spBytes_next hkl
          have HN : Hid (be 2 (8 * n) ++ spBytes (l.take (k + 1)) = (out ++ be 4 l[k].1) ++ be 4 l[k].2) := Lib.hid (by rw [hnx, hout]; simp)
          clear hnx hout
          have HNN := Lib.hid hN
          have hN2 : N ≤ 10000 := by omega
          clear hN
          generalize l[k].1 = f at *
          generalize l[k].2 = t at *
          have hB2 : Below w.heap.size w (wr.alloc (.cells #[.int .u32 (f : Int), .int .u32 (t : Int)] 103)) := hBr.alloc hBr.size _
          have ho2 : Own (wr.alloc (.cells #[.int .u32 (f : Int), .int .u32 (t : Int)] 103)) w.heap.size 5 1 A2 N c2 (out.map u8v) := ho.alloc _
          have hq : (wr.alloc (.cells #[.int .u32 (f : Int), .int .u32 (t : Int)] 103)).drew.cell? ⟨wr.heap.size, 0, none⟩ = some (.int .u32 (f : Int)) ∧ (wr.alloc (.cells #[.int .u32 (f : Int), .int .u32 (t : Int)] 103)).drew.cell? ⟨wr.heap.size, 1, none⟩ = some (.int .u32 (t : Int)) := ⟨World.cell?_alloc_new _ _ _ _, World.cell?_alloc_new _ _ _ _⟩
          go_wp2_with (first | (with_reducible refine hold_append ?_) | (with_reducible refine hold_make ?_) | (with_reducible refine hold_copy ?_))
          have hwf : IntKind.u64.wrap ((f : Nat) : Int) = (f : Int) := IntWalk.u64_in _ ⟨by omega, by omega⟩
          have hwt : IntKind.u64.wrap ((t : Nat) : Int) = (t : Int) := IntWalk.u64_in _ ⟨by omega, by omega⟩
          refine rg_start (fun wx => wx.cell? ⟨wr.heap.size, 0, none⟩ = some (.int .u32 (f : Int)) ∧ wx.cell? ⟨wr.heap.size, 1, none⟩ = some (.int .u32 (t : Int))) (by kernel_rfl) ?_
          refine rg_take 0 (v := ?_) rfl (by kernel_rfl) (by kernel_rfl) (by kernel_rfl) hq rfl ?_ ?_
          rotate_left
          · intro wS hSw; go_simp; (with_reducible rfl)
          simp only [List.getElem_toArray, List.getElem_cons_zero, Act.put, List.setIfInBounds_toArray, List.set_cons_zero, List.set_cons_succ]
          refine rg_take 1 (v := ?_) rfl (by kernel_rfl) (by kernel_rfl) (by kernel_rfl) hq rfl ?_ ?_
          rotate_left
          · intro wS hSw; go_simp; (with_reducible rfl)
          simp only [List.getElem_toArray, List.getElem_cons_succ, List.getElem_cons_zero, Act.put, List.setIfInBounds_toArray, List.set_cons_zero, List.set_cons_succ]
          refine rg_take 2 (v := ?_) rfl (by kernel_rfl) (by kernel_rfl) (by kernel_rfl) hq rfl ?_ ?_
          rotate_left
          · intro wS hSw; go_simp; (with_reducible rfl)
          simp only [List.getElem_toArray, List.getElem_cons_succ, List.getElem_cons_zero, Act.put, List.setIfInBounds_toArray, List.set_cons_zero, List.set_cons_succ]
          refine rg_take 3 (v := ?_) rfl (by kernel_rfl) (by kernel_rfl) (by kernel_rfl) hq rfl ?_ ?_
          rotate_left
          · intro wS hSw; go_simp; (with_reducible rfl)
          simp only [List.getElem_toArray, List.getElem_cons_succ, List.getElem_cons_zero, Act.put, List.setIfInBounds_toArray, List.set_cons_zero, List.set_cons_succ]
          refine rg_take 5 (v := ?_) rfl (by kernel_rfl) (by kernel_rfl) (by kernel_rfl) hq rfl ?_ ?_
          rotate_left
          · intro wS hSw; go_simp; (with_reducible rfl)
          simp only [List.getElem_toArray, List.getElem_cons_succ, List.getElem_cons_zero, Act.put, List.setIfInBounds_toArray, List.set_cons_zero, List.set_cons_succ]
          refine rg_take 6 (v := ?_) rfl (by kernel_rfl) (by kernel_rfl) (by kernel_rfl) hq rfl ?_ ?_
          rotate_left
          · intro wS hSw; go_simp; (with_reducible rfl)
          simp only [List.getElem_toArray, List.getElem_cons_succ, List.getElem_cons_zero, Act.put, List.setIfInBounds_toArray, List.set_cons_zero, List.set_cons_succ]
          refine rg_take 7 (v := ?_) rfl (by kernel_rfl) (by kernel_rfl) (by kernel_rfl) hq rfl ?_ ?_
          rotate_left
          · intro wS hSw; go_simp; (with_reducible rfl)
          simp only [List.getElem_toArray, List.getElem_cons_succ, List.getElem_cons_zero, Act.put, List.setIfInBounds_toArray, List.set_cons_zero, List.set_cons_succ]
          have hB2d := below_drewN hB2 1
          have hkeep : ∀ w4 : World, Below (wr.alloc (.cells #[.int .u32 (f : Int), .int .u32 (t : Int)] 103)).drew.heap.size (wr.alloc (.cells #[.int .u32 (f : Int), .int .u32 (t : Int)] 103)).drew w4 → w4.cell? ⟨wr.heap.size, 0, none⟩ = some (.int .u32 (f : Int)) ∧ w4.cell? ⟨wr.heap.size, 1, none⟩ = some (.int .u32 (t : Int)) := fun w4 hb =>
            ⟨(hb.cell (p := ⟨wr.heap.size, 0, none⟩) (World.block_lt_of_cell? _ _ hq.1)).trans hq.1, (hb.cell (p := ⟨wr.heap.size, 1, none⟩) (World.block_lt_of_cell? _ _ hq.2)).trans hq.2⟩
          have hp4 := put_any A2 N c2 out f 4 (wr.alloc (.cells #[.int .u32 (f : Int), .int .u32 (t : Int)] 103)).drew ho2.rd.drew (by omega) (by omega)
          have hlo : out.length = N := RdB.length ho.rd
          have hlen4 : (out ++ be 4 f).length = N + 4 := by simp [be_length, hlo]
          have hlen8 : ((out ++ be 4 f) ++ be 4 t).length = N + 8 := by simp [be_length, hlo]
          rw [put4, hlen4] at hp4
          refine rg_one 4 rfl (by kernel_rfl) rfl (fun K hK => ?_)
          go_simp
          refine hp4.mono ?_
          rintro e w4 ⟨A4, c4, rfl, ho4, hB4⟩
          have hq4 := hkeep _ hB4
          have hB24 := hB2d.trans (hB4.mono hB2d.size)
          have ho4' := ho4.base_le hB2d.size
          have hp8 := put_any A4 (N + 4) c4 (out ++ be 4 f) t 4 w4 ho4.rd (by omega) (by omega)
          rw [put4, hlen8] at hp8
          refine hK _ _ hq4 ?_; clear hK K
          refine rg_one 8 rfl (by kernel_rfl) rfl (fun K hK => ?_)
          go_simp
          refine hp8.mono ?_
          rintro e w5 ⟨A5, c5, rfl, ho5, hB5⟩
          have hq5 : w5.cell? ⟨wr.heap.size, 0, none⟩ = some (.int .u32 (f : Int)) ∧ w5.cell? ⟨wr.heap.size, 1, none⟩ = some (.int .u32 (t : Int)) := ⟨(hB5.cell (p := ⟨wr.heap.size, 0, none⟩) (World.block_lt_of_cell? _ _ hq4.1)).trans hq4.1, (hB5.cell (p := ⟨wr.heap.size, 1, none⟩) (World.block_lt_of_cell? _ _ hq4.2)).trans hq4.2⟩
          have hB25 := hB24.trans (hB5.mono hB24.size)
          have ho5' := ho5.base_le hB24.size
          refine hK _ _ hq5 ?_; clear hK K
          refine rg_take 9 (v := ?_) rfl (by kernel_rfl) (by kernel_rfl) (by kernel_rfl) hq5 rfl ?_ ?_
          rotate_left
          · intro wS hSw; go_simp; (with_reducible rfl)
          simp only [List.getElem_toArray, List.getElem_cons_succ, List.getElem_cons_zero, Act.put, List.setIfInBounds_toArray, List.set_cons_zero, List.set_cons_succ]
          refine rg_end (by kernel_rfl) ?_
          go_wp2_with (first | (with_reducible refine hold_append ?_) | (with_reducible refine hold_make ?_) | (with_reducible refine hold_copy ?_))
          have hNN := HNN.out
          exact ⟨⟨k + 1, N + 8, c5, A5, (out ++ be 4 f) ++ be 4 t, by omega, by go_num, rfl, by omega, HN.out.symm, ho5', hB25⟩, by simp [RowKit.intOf]; omega⟩
        · obtain rfl : k = n := by omega
          have HO : Hid (out = be 2 (8 * k) ++ spBytes l) := Lib.hid (by rw [hout, List.take_of_length_le (by omega)])
          clear hout
          have hlen : (be 2 (8 * k) ++ spBytes l).length = N := by rw [← HO.out]; exact RdB.length ho.rd
          have HL := Lib.hid hlen
          clear hlen
          go_wp2_with (first | (with_reducible refine hold_append ?_) | (with_reducible refine hold_make ?_) | (with_reducible refine hold_copy ?_))
          go_ret2
          rw [HL.out, ← HO.out]
          exact ⟨A2, c2, rfl, ho, hBr⟩
end Go.PH
end

/- Letters on their way as plain mathematics: bags, places, what the calls make of them. No program in sight. -/
import Derived.Test.YtemngfljlaimdaaMem
set_option linter.all false
set_option linter.unusedSimpArgs false
set_option linter.unusedVariables false
namespace Go.PH

/-- a letter on its way: from, to, what it says -/
structure Wl where
  fr : Int
  to : Int
  s : List UInt8
deriving DecidableEq
def Wl.on (x : Wl) (a b : Int) : Bool := decide (x.fr = a ∧ x.to = b)
/-- a way's letters -/
def bag (R : List Wl) (a b : Int) : List (List UInt8) := (R.filter fun x => x.on a b).map (·.s)
/-- the place of a way's letter -/
def placeW : List Wl → Int → Int → Nat → Option Nat
  | [], _, _, _ => none
  | x :: R, a, b, 0 => if x.on a b then some 0 else (placeW R a b 0).map (· + 1)
  | x :: R, a, b, k + 1 => if x.on a b then (placeW R a b k).map (· + 1) else (placeW R a b (k + 1)).map (· + 1)
theorem placeW_no {x : Wl} {R : List Wl} {a b : Int} {k : Nat} (h : ¬ x.on a b = true) : placeW (x :: R) a b k = (placeW R a b k).map (· + 1) := by
  cases k <;> rw [placeW, if_neg h]
def placeI (R : List Wl) (a b i : Int) : Option Nat := if i < 0 then none else placeW R a b i.toNat
def sendW (R : List Wl) (a b : Int) (s : List UInt8) : List Wl × Nat :=
  if 32768 < s.length then (R, 3) else if 64 ≤ (bag R a b).length then (R, 6) else (R ++ [⟨a, b, s⟩], 0)
def takeW (R : List Wl) (a b i : Int) : List Wl × List UInt8 × Nat := match placeI R a b i with
  | none => (R, [], 7)
  | some j => (R.eraseIdx j, (R[j]?.map (·.s)).getD [], 0)
def doubleW (R : List Wl) (a b i : Int) : List Wl × Nat := match placeI R a b i with
  | none => (R, 7)
  | some j => sendW R a b ((R[j]?.map (·.s)).getD [])
def clearW (R : List Wl) (n : Int) : List Wl := R.filter fun x => decide (x.fr ≠ n ∧ x.to ≠ n)
def ltW (p q : Int × Int) : Bool := decide (p.1 < q.1 ∨ (p.1 = q.1 ∧ p.2 < q.2))
/-- a way put among others -/
def putWay : List (Int × Int) → Int × Int → List (Int × Int)
  | [], x => [x]
  | p :: l, x => if ltW p x then p :: putWay l x else if p = x then p :: l else x :: p :: l
def waysW (R : List Wl) : List (Int × Int) := R.foldl (fun l x => putWay l (x.fr, x.to)) []

theorem bag_nil (a b : Int) : bag [] a b = [] := rfl
theorem bag_cons (x : Wl) (R : List Wl) (a b : Int) : bag (x :: R) a b = if x.on a b then x.s :: bag R a b else bag R a b := by
  unfold bag
  rw [List.filter_cons]
  split <;> simp
theorem bag_app (R S : List Wl) (a b : Int) : bag (R ++ S) a b = bag R a b ++ bag S a b := by simp [bag]
theorem bag_one (a b : Int) (s : List UInt8) (c d : Int) : bag [⟨a, b, s⟩] c d = if a = c ∧ b = d then [s] else [] := by
  rw [bag_cons, bag_nil]
  simp only [Wl.on, decide_eq_true_eq]
theorem place_some : ∀ (R : List Wl) (a b : Int) (k : Nat), k < (bag R a b).length → ∃ j, placeW R a b k = some j ∧ j < R.length ∧ (∃ h : j < R.length, R[j].on a b = true ∧ (bag R a b)[k]? = some R[j].s) ∧ (∀ c d, bag (R.eraseIdx j) c d = if c = a ∧ d = b then (bag R a b).eraseIdx k else bag R c d)
  | [], a, b, k, h => by simp [bag] at h
  | x :: R, a, b, k, h => by
    rw [bag_cons] at h
    by_cases hx : x.on a b = true
    · rw [if_pos hx] at h
      cases k with
      | zero =>
        refine ⟨0, by rw [placeW, if_pos hx], by simp, ⟨by simp, hx, by rw [bag_cons, if_pos hx]; rfl⟩, fun c d => ?_⟩
        simp only [List.eraseIdx_cons_zero]
        rw [bag_cons, bag_cons, if_pos hx]
        simp only [Wl.on, decide_eq_true_eq] at hx ⊢
        by_cases hcd : c = a ∧ d = b
        · rw [if_pos hcd, hcd.1, hcd.2]; rfl
        · rw [if_neg hcd, if_neg (by rintro ⟨e1, e2⟩; exact hcd ⟨by rw [← e1, hx.1], by rw [← e2, hx.2]⟩)]
      | succ k =>
        obtain ⟨j, h1, h2, ⟨h3, h4, h5⟩, h6⟩ := place_some R a b k (by simpa using h)
        refine ⟨j + 1, by rw [placeW, if_pos hx]; simp [h1], by simp; exact h2, ⟨by simp; exact h3, by simpa using h4, by rw [bag_cons, if_pos hx]; simpa using h5⟩, fun c d => ?_⟩
        rw [List.eraseIdx_cons_succ, bag_cons, h6 c d, bag_cons, bag_cons, if_pos hx]
        simp only [Wl.on, decide_eq_true_eq] at hx ⊢
        by_cases hcd : c = a ∧ d = b
        · rw [if_pos hcd, if_pos hcd, if_pos ⟨by rw [hcd.1, hx.1], by rw [hcd.2, hx.2]⟩]; rfl
        · rw [if_neg hcd, if_neg hcd]
    · rw [if_neg hx] at h
      obtain ⟨j, h1, h2, ⟨h3, h4, h5⟩, h6⟩ := place_some R a b k h
      refine ⟨j + 1, by rw [placeW_no hx, h1]; rfl, by simp; exact h2, ⟨by simp; exact h3, by simpa using h4, by rw [bag_cons, if_neg hx]; simpa using h5⟩, fun c d => ?_⟩
      rw [List.eraseIdx_cons_succ, bag_cons, h6 c d, bag_cons, bag_cons, if_neg hx]
      simp only [Wl.on, decide_eq_true_eq] at hx ⊢
      by_cases hcd : c = a ∧ d = b
      · rw [if_pos hcd, if_pos hcd, if_neg (by rintro ⟨e1, e2⟩; exact hx ⟨by rw [e1, hcd.1], by rw [e2, hcd.2]⟩)]
      · rw [if_neg hcd, if_neg hcd]
theorem place_none : ∀ (R : List Wl) (a b : Int) (k : Nat), (bag R a b).length ≤ k → placeW R a b k = none
  | [], _, _, _, _ => rfl
  | x :: R, a, b, k, h => by
    rw [bag_cons] at h
    by_cases hx : x.on a b = true
    · rw [if_pos hx] at h
      cases k with
      | zero => simp at h
      | succ k => rw [placeW, if_pos hx, place_none R a b k (by simpa using h)]; rfl
    · rw [if_neg hx] at h
      rw [placeW_no hx, place_none R a b k h]; rfl
theorem bag_clear (R : List Wl) (n a b : Int) : bag (clearW R n) a b = if a = n ∨ b = n then [] else bag R a b := by
  unfold bag clearW
  rw [List.filter_filter]
  by_cases h : a = n ∨ b = n
  · rw [if_pos h]
    have : R.filter (fun x => x.on a b && decide (x.fr ≠ n ∧ x.to ≠ n)) = [] := by
      rw [List.filter_eq_nil_iff]
      intro x _
      simp only [Wl.on, Bool.and_eq_true, decide_eq_true_eq]
      rintro ⟨⟨e1, e2⟩, h1, h2⟩
      rcases h with h | h <;> omega
    rw [this]; rfl
  · rw [if_neg h]
    congr 1
    apply List.filter_congr
    intro x _
    simp only [Wl.on]
    by_cases hx : x.fr = a ∧ x.to = b
    · have : x.fr ≠ n ∧ x.to ≠ n := by omega
      simp [hx, this]
      omega
    · simp [hx]
/-! ### ways -/
def WaysOk (l : List (Int × Int)) : Prop := l.Pairwise fun p q => ltW p q = true
theorem ltW_iff (p q : Int × Int) : ltW p q = true ↔ p.1 < q.1 ∨ (p.1 = q.1 ∧ p.2 < q.2) := by simp [ltW]
theorem ltW_trans {p q r : Int × Int} (h : ltW p q = true) (h' : ltW q r = true) : ltW p r = true := by
  rw [ltW_iff] at *; omega
theorem putWay_mem : ∀ (l : List (Int × Int)) (x y : Int × Int), y ∈ putWay l x ↔ y = x ∨ y ∈ l
  | [], x, y => by simp [putWay]
  | p :: l, x, y => by
    rw [putWay]
    split
    · rw [List.mem_cons, putWay_mem l x y, List.mem_cons]
      constructor
      · rintro (h | h | h) <;> simp [h]
      · rintro (h | h | h) <;> simp [h]
    · split
      · rename_i e
        subst e
        simp
      · simp
theorem putWay_ok : ∀ (l : List (Int × Int)) (x : Int × Int), WaysOk l → WaysOk (putWay l x)
  | [], x, _ => by simp [putWay, WaysOk]
  | p :: l, x, h => by
    unfold WaysOk at h ⊢
    rw [List.pairwise_cons] at h
    rw [putWay]
    split
    · rename_i h1
      rw [List.pairwise_cons]
      refine ⟨fun y hy => ?_, putWay_ok l x h.2⟩
      rcases (putWay_mem l x y).1 hy with rfl | hy
      · exact h1
      · exact h.1 y hy
    · rename_i h1
      split
      · exact List.pairwise_cons.2 h
      · rename_i h2
        rw [List.pairwise_cons]
        have hxp : ltW x p = true := by
          rw [ltW_iff] at h1 ⊢
          have : ¬ (p.1 = x.1 ∧ p.2 = x.2) := fun e => h2 (Prod.ext e.1 e.2)
          omega
        refine ⟨fun y hy => ?_, List.pairwise_cons.2 h⟩
        rcases List.mem_cons.1 hy with rfl | hy
        · exact hxp
        · exact ltW_trans hxp (h.1 y hy)
theorem foldWays (R : List Wl) : ∀ (l : List (Int × Int)), WaysOk l → WaysOk (R.foldl (fun l x => putWay l (x.fr, x.to)) l) ∧ ∀ y, y ∈ R.foldl (fun l x => putWay l (x.fr, x.to)) l ↔ y ∈ l ∨ ∃ x ∈ R, y = (x.fr, x.to) := by
  induction R with
  | nil => intro l h; exact ⟨h, by simp⟩
  | cons x R ih =>
    intro l h
    obtain ⟨h1, h2⟩ := ih (putWay l (x.fr, x.to)) (putWay_ok l _ h)
    refine ⟨h1, fun y => ?_⟩
    rw [List.foldl_cons, h2 y, putWay_mem]
    constructor
    · rintro ((h | h) | ⟨z, hz, h⟩)
      · exact .inr ⟨x, List.mem_cons_self .., h⟩
      · exact .inl h
      · exact .inr ⟨z, List.mem_cons_of_mem _ hz, h⟩
    · rintro (h | ⟨z, hz, h⟩)
      · exact .inl (.inr h)
      · rcases List.mem_cons.1 hz with rfl | hz
        · exact .inl (.inl h)
        · exact .inr ⟨z, hz, h⟩
theorem ways_ok (R : List Wl) : WaysOk (waysW R) := (foldWays R [] List.Pairwise.nil).1
theorem ways_mem (R : List Wl) (a b : Int) : (a, b) ∈ waysW R ↔ bag R a b ≠ [] := by
  unfold waysW
  rw [(foldWays R [] List.Pairwise.nil).2]
  unfold bag
  simp only [List.not_mem_nil, false_or, ne_eq, List.map_eq_nil_iff, List.filter_eq_nil_iff, Wl.on, decide_eq_true_eq, Prod.mk.injEq]
  constructor
  · rintro ⟨x, hx, e1, e2⟩ h
    exact h x hx ⟨e1.symm, e2.symm⟩
  · intro h
    simp only [Classical.not_forall, Classical.not_not] at h
    obtain ⟨x, hx, e⟩ := h
    exact ⟨x, hx, e.1.symm, e.2.symm⟩
/-- rows that rise and have the same members are one -/
theorem ways_eq : ∀ {l m : List (Int × Int)}, WaysOk l → WaysOk m → (∀ y, y ∈ l ↔ y ∈ m) → l = m
  | [], [], _, _, _ => rfl
  | [], q :: m, _, _, h => by have := (h q).2 (List.mem_cons_self ..); simp at this
  | p :: l, [], _, _, h => by have := (h p).1 (List.mem_cons_self ..); simp at this
  | p :: l, q :: m, h1, h2, h => by
    unfold WaysOk at h1 h2
    rw [List.pairwise_cons] at h1 h2
    have irr : ∀ x : Int × Int, ¬ ltW x x = true := fun x => by rw [ltW_iff]; omega
    have hpq : p = q := by
      have a := (h p).1 (List.mem_cons_self ..)
      have b := (h q).2 (List.mem_cons_self ..)
      rcases List.mem_cons.1 a with a | a
      · exact a
      · rcases List.mem_cons.1 b with b | b
        · exact b.symm
        · exact absurd (ltW_trans (h2.1 p a) (h1.1 q b)) (irr q)
    subst hpq
    congr 1
    refine ways_eq h1.2 h2.2 fun y => ?_
    have := h y
    constructor
    · intro hy
      rcases List.mem_cons.1 (this.1 (List.mem_cons_of_mem _ hy)) with rfl | h3
      · exact absurd (h1.1 y hy) (irr y)
      · exact h3
    · intro hy
      rcases List.mem_cons.1 (this.2 (List.mem_cons_of_mem _ hy)) with rfl | h3
      · exact absurd (h2.1 y hy) (irr y)
      · exact h3
end Go.PH

/- Several wires, and the document's, side by side: no block belongs to two of them. -/
import Derived.Test.YtemngfljlaimdaaWrClear
import Derived.Test.YtemngfljlaimdaaWrHead
import Derived.Test.YtemngfljlaimdaaWrRef4
import Derived.Test.YtemngfljlaimdaaWrSee
set_option linter.all false
set_option linter.unusedSimpArgs false
set_option linter.unusedVariables false
namespace Go.PH
open Go.RowKit Go.Proofs

def upd (H : Nat → Option (Nat × List Wl)) (i : Nat) (x : Nat × List Wl) : Nat → Option (Nat × List Wl) := fun j => if j = i then some x else H j
theorem upd_same (H : Nat → Option (Nat × List Wl)) (i : Nat) (x : Nat × List Wl) : upd H i x i = some x := if_pos rfl
theorem upd_other (H : Nat → Option (Nat × List Wl)) {i j : Nat} (x : Nat × List Wl) (h : j ≠ i) : upd H i x j = H j := if_neg h
/-- wires H (by number), the document's at qb; X: blocks that none of them touches -/
def AW (w0 w : World) (X : Nat → Prop) (n : Nat) (H : Nat → Option (Nat × List Wl)) (qb : Nat) (Q : List Wl) : Prop :=
  ∃ F : Nat → Nat → Prop, (∀ i p R, H i = some (p, R) → Wr w (F (i + 1)) p n R) ∧ Rw w (F 0) qb Q ∧ (∀ i j g, i ≠ j → F i g → ¬ F j g) ∧ (∀ i g, F i g → w0.heap.size ≤ g ∧ g < w.heap.size ∧ ¬ X g) ∧ (∀ g, X g → g < w.heap.size) ∧ Below w0.heap.size w0 w
variable {w0 w w' : World} {X : Nat → Prop} {n m : Nat} {H : Nat → Option (Nat × List Wl)} {qb : Nat} {Q : List Wl}
theorem AW.size (h : AW w0 w X n H qb Q) : w0.heap.size ≤ w.heap.size := by
  obtain ⟨F, _, _, _, _, _, h⟩ := h
  exact h.size
theorem AW.toB (h : AW w0 w X n H qb Q) : Below w0.heap.size w0 w := by
  obtain ⟨F, _, _, _, _, _, h⟩ := h
  exact h
theorem AW.on (h : AW w0 w X n H qb Q) (hB : Below w.heap.size w w') : AW w0 w' X n H qb Q := by
  obtain ⟨F, h1, h2, h3, h4, h5, h6⟩ := h
  exact ⟨F, fun i p R hi => (h1 i p R hi).below hB, h2.below hB, h3, fun i g hg => ⟨(h4 i g hg).1, Nat.lt_of_lt_of_le (h4 i g hg).2.1 hB.size, (h4 i g hg).2.2⟩, fun g hg => Nat.lt_of_lt_of_le (h5 g hg) hB.size, h6.trans (hB.mono h6.size)⟩
theorem AW.mono (h : AW w0 w X n H qb Q) (hn : n ≤ m) : AW w0 w X m H qb Q := by
  obtain ⟨F, h1, h⟩ := h
  exact ⟨F, fun i p R hi => (h1 i p R hi).mono hn, h⟩
/-- blocks that were made behind are none of theirs -/
theorem AW.spare (h : AW w0 w X n H qb Q) {w' : World} (hB : Below w.heap.size w w') (X' : Nat → Prop) (hX : ∀ g, X' g → X g ∨ (w.heap.size ≤ g ∧ g < w'.heap.size)) : AW w0 w' X' n H qb Q := by
  obtain ⟨F, h1, h2, h3, h4, h5, h6⟩ := h
  have hs := hB.size
  exact ⟨F, fun i p R hi => (h1 i p R hi).below hB, h2.below hB, h3, fun i g hg => ⟨(h4 i g hg).1, Nat.lt_of_lt_of_le (h4 i g hg).2.1 hB.size, fun hx => by
    have := h4 i g hg
    rcases hX g hx with h | h
    · exact this.2.2 h
    · omega⟩, fun g hg => by
    rcases hX g hg with h | h
    · have := h5 g h; omega
    · exact h.2, h6.trans (hB.mono h6.size)⟩
/-- all turns of these wires keep the blocks that are none of theirs -/
theorem AW.write (h : AW w0 w X n H qb Q) {g : Nat} (hg : X g) (hgb : w0.heap.size ≤ g) (hG : w.grownBy w' (some g)) : AW w0 w' X n H qb Q := by
  obtain ⟨F, h1, h2, h3, h4, h5, h6⟩ := h
  have hk : ∀ i g', F i g' → w'.heap[g']? = w.heap[g']? := fun i g' hi => hG.block g' (h4 i g' hi).2.1 (fun e => (h4 i g' hi).2.2 (by injection e with e; rw [e]; exact hg))
  exact ⟨F, fun i p R hi => (h1 i p R hi).keep (fun g' hg' => hk _ g' hg') hG.size, h2.keep (fun g' hg' => hk _ g' hg') hG.size, h3, fun i g' hi => ⟨(h4 i g' hi).1, Nat.lt_of_lt_of_le (h4 i g' hi).2.1 hG.size, (h4 i g' hi).2.2⟩, fun g' hg' => Nat.lt_of_lt_of_le (h5 g' hg') hG.size, h6.grown hG h6.size (fun g' e => by injection e with e; omega)⟩
/-- one of them is turned -/
theorem AW.turn {F : Nat → Nat → Prop} (h2 : Rw w (F 0) qb Q) (h1 : ∀ i p R, H i = some (p, R) → Wr w (F (i + 1)) p n R) (h3 : ∀ i j g, i ≠ j → F i g → ¬ F j g) (h4 : ∀ i g, F i g → w0.heap.size ≤ g ∧ g < w.heap.size ∧ ¬ X g) (h5 : ∀ g, X g → g < w.heap.size) (h6 : Below w0.heap.size w0 w)
    (i p : Nat) (R' : List Wl) {F' : Nat → Prop} (hF : ∀ g, F' g → F (i + 1) g ∨ w.heap.size ≤ g) (hW : Wr w' F' p m R') (hnm : n ≤ m) (hK : KeepF (F (i + 1)) w w') : AW w0 w' X m (upd H i (p, R')) qb Q ∧ ∀ g, X g → w'.heap[g]? = w.heap[g]? := by
  have hlt := hW.lt
  have hs := hK.1
  refine ⟨⟨fun j => if j = i + 1 then F' else F j, fun j q R hj => ?_, ?_, fun a b g hab ha hb => ?_, fun a g ha => ?_, fun g hg => Nat.lt_of_lt_of_le (h5 g hg) hs, h6.trans (hK.toBelow h6.size (fun g hg => (h4 _ g hg).1))⟩, fun g hg => hK.2.1 g (h5 g hg) (fun e => (h4 _ g e).2.2 hg)⟩
  · by_cases hji : j = i
    · subst hji
      rw [upd_same] at hj
      injection hj with hj
      injection hj with e1 e2
      subst e1 e2
      simp only [if_true]
      exact hW
    · rw [upd_other _ _ hji] at hj
      simp only
      rw [if_neg (by omega)]
      exact ((h1 j q R hj).keep (fun g hg => hK.2.1 g (h4 _ g hg).2.1 (h3 _ _ g (by omega) hg)) hs).mono hnm
  · simp only
    rw [if_neg (by omega)]
    exact h2.keep (fun g hg => hK.2.1 g (h4 _ g hg).2.1 (h3 _ _ g (by omega) hg)) hs
  · simp only at ha hb
    by_cases h1 : a = i + 1
    · rw [if_pos h1] at ha
      rw [if_neg (by omega)] at hb
      rcases hF g ha with h | h
      · exact h3 _ _ g (by omega) h hb
      · have := (h4 _ g hb).2.1; omega
    · rw [if_neg h1] at ha
      by_cases h2 : b = i + 1
      · rw [if_pos h2] at hb
        rcases hF g hb with h | h
        · exact h3 _ _ g (by omega) h ha
        · have := (h4 _ g ha).2.1; omega
      · rw [if_neg h2] at hb
        exact h3 _ _ g hab ha hb
  · simp only at ha
    by_cases h1 : a = i + 1
    · rw [if_pos h1] at ha
      refine ⟨?_, hlt g ha, fun hx => ?_⟩
      · rcases hF g ha with h | h
        · exact (h4 _ g h).1
        · have := h6.size; omega
      · rcases hF g ha with h | h
        · exact (h4 _ g h).2.2 hx
        · have := h5 g hx; omega
    · rw [if_neg h1] at ha
      obtain ⟨q1, q2, q3⟩ := h4 _ g ha
      exact ⟨q1, by omega, q3⟩
/-- the document's are turned -/
theorem AW.turnQ {F : Nat → Nat → Prop} (h1 : ∀ i p R, H i = some (p, R) → Wr w (F (i + 1)) p n R) (h3 : ∀ i j g, i ≠ j → F i g → ¬ F j g) (h4 : ∀ i g, F i g → w0.heap.size ≤ g ∧ g < w.heap.size ∧ ¬ X g) (h5 : ∀ g, X g → g < w.heap.size) (h6 : Below w0.heap.size w0 w)
    (Q' : List Wl) {F' : Nat → Prop} (hF : ∀ g, F' g → F 0 g ∨ w.heap.size ≤ g) (hW : Rw w' F' qb Q') (hK : KeepF (F 0) w w') : AW w0 w' X n H qb Q' ∧ ∀ g, X g → w'.heap[g]? = w.heap[g]? := by
  have hlt := hW.lt
  have hs := hK.1
  refine ⟨⟨fun j => if j = 0 then F' else F j, fun j q R hj => ?_, ?_, fun a b g hab ha hb => ?_, fun a g ha => ?_, fun g hg => Nat.lt_of_lt_of_le (h5 g hg) hs, h6.trans (hK.toBelow h6.size (fun g hg => (h4 _ g hg).1))⟩, fun g hg => hK.2.1 g (h5 g hg) (fun e => (h4 _ g e).2.2 hg)⟩
  · simp only
    rw [if_neg (by omega)]
    exact ((h1 j q R hj).keep (fun g hg => hK.2.1 g (h4 _ g hg).2.1 (h3 _ _ g (by omega) hg)) hs)
  · simp only [if_true]
    exact hW
  · simp only at ha hb
    by_cases h1 : a = 0
    · rw [if_pos h1] at ha
      rw [if_neg (by omega)] at hb
      rcases hF g ha with h | h
      · exact h3 _ _ g (by omega) h hb
      · have := (h4 _ g hb).2.1; omega
    · rw [if_neg h1] at ha
      by_cases h2 : b = 0
      · rw [if_pos h2] at hb
        rcases hF g hb with h | h
        · exact h3 _ _ g (by omega) h ha
        · have := (h4 _ g ha).2.1; omega
      · rw [if_neg h2] at hb
        exact h3 _ _ g hab ha hb
  · simp only at ha
    by_cases h1 : a = 0
    · rw [if_pos h1] at ha
      refine ⟨?_, hlt g ha, fun hx => ?_⟩
      · rcases hF g ha with h | h
        · exact (h4 _ g h).1
        · have := h6.size; omega
      · rcases hF g ha with h | h
        · exact (h4 _ g h).2.2 hx
        · have := h5 g hx; omega
    · rw [if_neg h1] at ha
      obtain ⟨q1, q2, q3⟩ := h4 _ g ha
      exact ⟨q1, by omega, q3⟩
/-- one more is made -/
theorem newA (h : AW w0 w X n H qb Q) (i : Nat) :
    Calls Try.prog 7 #[] w fun e w' => ∃ pb, e = .returned (.pointer (some ⟨pb, 0, none⟩)) ∧ AW w0 w' X n (upd H i (pb, [])) qb Q ∧ Below w.heap.size w w' := by
  obtain ⟨F, h1, h2, h3, h4, h5, h6⟩ := h
  refine (new_any w).mono ?_
  rintro e w' ⟨rfl, hW, hB⟩
  have hs := hB.size
  refine ⟨_, rfl, ⟨fun j => if j = i + 1 then (fun g => g = w.heap.size ∨ g = w.heap.size + 1) else F j, fun j q R hj => ?_, ?_, fun a b g hab ha hb => ?_, fun a g ha => ?_, fun g hg => Nat.lt_of_lt_of_le (h5 g hg) hs, h6.trans (hB.mono h6.size)⟩, hB⟩
  · by_cases hji : j = i
    · subst hji
      rw [upd_same] at hj
      injection hj with hj
      injection hj with e1 e2
      subst e1 e2
      simp only [if_true]
      exact hW.mono (Nat.zero_le _)
    · rw [upd_other _ _ hji] at hj
      simp only
      rw [if_neg (by omega)]
      exact (h1 j q R hj).below hB
  · simp only
    rw [if_neg (by omega)]
    exact h2.below hB
  · simp only at ha hb
    by_cases h1 : a = i + 1
    · rw [if_pos h1] at ha
      rw [if_neg (by omega)] at hb
      have := (h4 _ g hb).2.1
      rcases ha with h | h <;> omega
    · rw [if_neg h1] at ha
      by_cases h2 : b = i + 1
      · rw [if_pos h2] at hb
        have := (h4 _ g ha).2.1
        rcases hb with h | h <;> omega
      · rw [if_neg h2] at hb
        exact h3 _ _ g hab ha hb
  · simp only at ha
    by_cases h1 : a = i + 1
    · rw [if_pos h1] at ha
      have hl := hW.lt g ha
      have hb := h6.size
      refine ⟨by rcases ha with h | h <;> omega, hl, fun hx => ?_⟩
      have := h5 g hx
      rcases ha with h | h <;> omega
    · rw [if_neg h1] at ha
      obtain ⟨q1, q2, q3⟩ := h4 _ g ha
      exact ⟨q1, by omega, q3⟩
theorem sendA (h : AW w0 w X n H qb Q) {i p : Nat} {R : List Wl} (hi : H i = some (p, R)) (a b : Int) (s : List UInt8) (ha : i64ok a) (hb : i64ok b) (hs : s.length ≤ 140737488351232) (hn : n < maxLen) :
    Calls Try.prog 9 #[.pointer (some ⟨p, 0, none⟩), .int .i64 a, .int .i64 b, .string (str s)] w fun e w' => e = .returned (.int .i64 ((sendW R a b s).2 : Int)) ∧ AW w0 w' X (n + 1) (upd H i (p, (sendW R a b s).1)) qb Q ∧ ∀ g, X g → w'.heap[g]? = w.heap[g]? := by
  obtain ⟨F, h1, h2, h3, h4, h5, h6⟩ := h
  refine (send_any _ p n R a b s w (h1 i p R hi) ha hb hs hn).mono ?_
  rintro e w' ⟨rfl, F', hF, hW, hK⟩
  exact ⟨rfl, AW.turn h2 h1 h3 h4 h5 h6 i p _ hF hW (Nat.le_succ _) hK⟩
theorem doubleA (h : AW w0 w X n H qb Q) {i p : Nat} {R : List Wl} (hi : H i = some (p, R)) (a b j : Int) (ha : i64ok a) (hb : i64ok b) (hn : n < maxLen) :
    Calls Try.prog 18 #[.pointer (some ⟨p, 0, none⟩), .int .i64 a, .int .i64 b, .int .i64 j] w fun e w' => e = .returned (.int .i64 ((doubleW R a b j).2 : Int)) ∧ AW w0 w' X (n + 1) (upd H i (p, (doubleW R a b j).1)) qb Q ∧ ∀ g, X g → w'.heap[g]? = w.heap[g]? := by
  obtain ⟨F, h1, h2, h3, h4, h5, h6⟩ := h
  refine (double_any _ p n R a b j w (h1 i p R hi) ha hb hn).mono ?_
  rintro e w' ⟨rfl, F', hF, hW, hK⟩
  exact ⟨rfl, AW.turn h2 h1 h3 h4 h5 h6 i p _ hF hW (Nat.le_succ _) hK⟩
theorem takeA (h : AW w0 w X n H qb Q) {i p : Nat} {R : List Wl} (hi : H i = some (p, R)) (a b j : Int) (ha : i64ok a) (hb : i64ok b) (hn : n < maxLen) :
    Calls Try.prog 10 #[.pointer (some ⟨p, 0, none⟩), .int .i64 a, .int .i64 b, .int .i64 j] w fun e w' => e = .returned (.tuple #[.string (str (takeW R a b j).2.1), .int .i64 ((takeW R a b j).2.2 : Int)]) ∧ AW w0 w' X (n + 1) (upd H i (p, (takeW R a b j).1)) qb Q ∧ ∀ g, X g → w'.heap[g]? = w.heap[g]? := by
  obtain ⟨F, h1, h2, h3, h4, h5, h6⟩ := h
  refine (take_any _ p n R a b j w (h1 i p R hi) ha hb hn).mono ?_
  rintro e w' ⟨rfl, F', hF, hW, hK⟩
  exact ⟨rfl, AW.turn h2 h1 h3 h4 h5 h6 i p _ hF hW (Nat.le_succ _) hK⟩
theorem clearA (h : AW w0 w X n H qb Q) {i p : Nat} {R : List Wl} (hi : H i = some (p, R)) (nd : Int) :
    Calls Try.prog 17 #[.pointer (some ⟨p, 0, none⟩), .int .i64 nd] w fun e w' => e = .returned (.tuple #[]) ∧ AW w0 w' X n (upd H i (p, clearW R nd)) qb Q ∧ ∀ g, X g → w'.heap[g]? = w.heap[g]? := by
  obtain ⟨F, h1, h2, h3, h4, h5, h6⟩ := h
  refine (clear_any _ p n R nd w (h1 i p R hi)).mono ?_
  rintro e w' ⟨rfl, hW, hK⟩
  exact ⟨rfl, AW.turn h2 h1 h3 h4 h5 h6 i p _ (fun g hg => .inl hg) hW (Nat.le_refl _) hK⟩
theorem countA (h : AW w0 w X n H qb Q) {i p : Nat} {R : List Wl} (hi : H i = some (p, R)) (a b : Int) (ha : i64ok a) (hb : i64ok b) :
    Calls Try.prog 13 #[.pointer (some ⟨p, 0, none⟩), .int .i64 a, .int .i64 b] w fun e w' => e = .returned (.int .i64 ((bag R a b).length : Int)) ∧ Below w.heap.size w w' := by
  obtain ⟨F, h1, h2, h3, h4, h5, h6⟩ := h
  exact count_any _ p n R a b w (h1 i p R hi) ha hb
theorem waysA (h : AW w0 w X n H qb Q) {i p : Nat} {R : List Wl} (hi : H i = some (p, R)) (hn : n ≤ 1000000) :
    Calls Try.prog 15 #[.pointer (some ⟨p, 0, none⟩)] w (WaysR w R) := by
  obtain ⟨F, h1, h2, h3, h4, h5, h6⟩ := h
  exact ways_any _ p n R w (h1 i p R hi) hn
theorem rsendA (h : AW w0 w X n H qb Q) (a b : Int) (s : List UInt8) (hs : s.length ≤ 140737488351232) (hQ : Q.length ≤ 1000000) :
    Calls Try.prog 25 #[.pointer (some ⟨qb, 0, none⟩), .int .i64 a, .int .i64 b, .string (str s)] w fun e w' => e = .returned (.int .i64 ((sendW Q a b s).2 : Int)) ∧ AW w0 w' X n H qb (sendW Q a b s).1 ∧ ∀ g, X g → w'.heap[g]? = w.heap[g]? := by
  obtain ⟨F, h1, h2, h3, h4, h5, h6⟩ := h
  refine (rsend_any _ qb Q a b s w h2 hs hQ).mono ?_
  rintro e w' ⟨rfl, F', hF, hW, hK⟩
  exact ⟨rfl, AW.turnQ h1 h3 h4 h5 h6 _ hF hW hK⟩
theorem rtakeA (h : AW w0 w X n H qb Q) (a b j : Int) (hj : i64ok j) (hQ : Q.length ≤ 1000000) :
    Calls Try.prog 22 #[.pointer (some ⟨qb, 0, none⟩), .int .i64 a, .int .i64 b, .int .i64 j] w fun e w' => e = .returned (.tuple #[.string (str (takeW Q a b j).2.1), .int .i64 ((takeW Q a b j).2.2 : Int)]) ∧ AW w0 w' X n H qb (takeW Q a b j).1 ∧ ∀ g, X g → w'.heap[g]? = w.heap[g]? := by
  obtain ⟨F, h1, h2, h3, h4, h5, h6⟩ := h
  refine (rtake_any _ qb Q a b j w h2 hj hQ).mono ?_
  rintro e w' ⟨rfl, F', hF, hW, hK⟩
  exact ⟨rfl, AW.turnQ h1 h3 h4 h5 h6 _ hF hW hK⟩
theorem rdoubleA (h : AW w0 w X n H qb Q) (a b j : Int) (hj : i64ok j) (hQ : Q.length ≤ 1000000) (hS : ∀ x ∈ Q, x.s.length ≤ 140737488351232) :
    Calls Try.prog 23 #[.pointer (some ⟨qb, 0, none⟩), .int .i64 a, .int .i64 b, .int .i64 j] w fun e w' => e = .returned (.int .i64 ((doubleW Q a b j).2 : Int)) ∧ AW w0 w' X n H qb (doubleW Q a b j).1 ∧ ∀ g, X g → w'.heap[g]? = w.heap[g]? := by
  obtain ⟨F, h1, h2, h3, h4, h5, h6⟩ := h
  refine (rdouble_any _ qb Q a b j w h2 hj hQ hS).mono ?_
  rintro e w' ⟨rfl, F', hF, hW, hK⟩
  exact ⟨rfl, AW.turnQ h1 h3 h4 h5 h6 _ hF hW hK⟩
theorem rclearA (h : AW w0 w X n H qb Q) (nd : Int) (hQ : Q.length ≤ 1000000) :
    Calls Try.prog 24 #[.pointer (some ⟨qb, 0, none⟩), .int .i64 nd] w fun e w' => e = .returned (.tuple #[]) ∧ AW w0 w' X n H qb (clearW Q nd) ∧ ∀ g, X g → w'.heap[g]? = w.heap[g]? := by
  obtain ⟨F, h1, h2, h3, h4, h5, h6⟩ := h
  refine (rclear_any _ qb Q nd w h2 hQ).mono ?_
  rintro e w' ⟨rfl, F', hF, hW, hK⟩
  exact ⟨rfl, AW.turnQ h1 h3 h4 h5 h6 _ hF hW hK⟩
theorem rcountA (h : AW w0 w X n H qb Q) (a b : Int) (hQ : Q.length ≤ 1000000) :
    Calls Try.prog 14 #[.pointer (some ⟨qb, 0, none⟩), .int .i64 a, .int .i64 b] w fun e w' => e = .returned (.int .i64 ((bag Q a b).length : Int)) ∧ w' = w := by
  obtain ⟨F, h1, h2, h3, h4, h5, h6⟩ := h
  exact rcount_any _ qb Q a b w h2 hQ
theorem rwaysA (h : AW w0 w X n H qb Q) (hQ : Q.length ≤ 1000000) :
    Calls Try.prog 16 #[.pointer (some ⟨qb, 0, none⟩)] w (WaysQ w Q) := by
  obtain ⟨F, h1, h2, h3, h4, h5, h6⟩ := h
  exact rways_any _ qb Q w h2 hQ
/-! ### what a call makes of letters -/
def turnW (R : List Wl) (x : Cl) : List Wl :=
  if x.wh % 6 = 3 then (takeW R x.fr x.to x.i).1 else if x.wh % 6 = 4 then (doubleW R x.fr x.to x.i).1 else if x.wh % 6 = 5 then clearW R x.fr else (sendW R x.fr x.to x.s).1
theorem sendW_len (R : List Wl) (a b : Int) (s : List UInt8) : (sendW R a b s).1.length ≤ R.length + 1 := by
  unfold sendW
  split
  · simp
  · split <;> simp
theorem sendW_wf {R : List Wl} (hR : ∀ x ∈ R, x.s.length ≤ 32768) (a b : Int) (s : List UInt8) : ∀ x ∈ (sendW R a b s).1, x.s.length ≤ 32768 := by
  unfold sendW
  split
  · exact hR
  · split
    · exact hR
    · intro x hx
      rcases List.mem_append.1 hx with h | h
      · exact hR x h
      · rw [List.mem_singleton.1 h]; simp only; omega
theorem turnW_len (R : List Wl) (x : Cl) : (turnW R x).length ≤ R.length + 1 := by
  unfold turnW
  split
  · unfold takeW
    split
    · simp
    · simp only [List.length_eraseIdx]; split <;> omega
  · split
    · unfold doubleW
      split
      · simp
      · exact sendW_len _ _ _ _
    · split
      · have := List.length_filter_le (fun y : Wl => decide (y.fr ≠ x.fr ∧ y.to ≠ x.fr)) R
        unfold clearW; omega
      · exact sendW_len _ _ _ _
theorem turnW_wf {R : List Wl} (hR : ∀ x ∈ R, x.s.length ≤ 32768) (x : Cl) : ∀ y ∈ turnW R x, y.s.length ≤ 32768 := by
  unfold turnW
  split
  · unfold takeW
    split
    · exact hR
    · exact fun y hy => hR y (List.mem_of_mem_eraseIdx hy)
  · split
    · unfold doubleW
      split
      · exact hR
      · exact sendW_wf hR _ _ _
    · split
      · exact fun y hy => hR y (List.mem_filter.1 hy).1
      · exact sendW_wf hR _ _ _
end Go.PH

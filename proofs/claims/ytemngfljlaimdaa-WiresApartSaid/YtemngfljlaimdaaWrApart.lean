/- Three wires and the document's, played side by side: the calls at them. -/
import Derived.Test.YtemngfljlaimdaaWrApartMath
import Derived.Test.YtemngfljlaimdaaWrDoes
set_option linter.all false
set_option linter.unusedSimpArgs false
set_option linter.unusedVariables false
namespace Go.PH
open Go.RowKit Go.Proofs

/-- three wires whose letters are so -/
def ApG (w wr : World) (X : Nat → Prop) (k b1 b2 b3 qb : Nat) (P : List Wl → List Wl → List Wl → Prop) : Prop :=
  ∃ H n Q R S T, AW w wr X n H qb Q ∧ H 0 = some (b1, R) ∧ H 1 = some (b2, S) ∧ H 2 = some (b3, T) ∧ P R S T ∧ n ≤ k ∧ Q.length ≤ k ∧ (∀ y ∈ Q, y.s.length ≤ 32768) ∧ R.length ≤ k
variable {w wr wr' : World} {X : Nat → Prop} {k b1 b2 b3 qb : Nat} {P : List Wl → List Wl → List Wl → Prop}
theorem ApG.toB (h : ApG w wr X k b1 b2 b3 qb P) : Below w.heap.size w wr := by
  obtain ⟨H, n, Q, R, S, T, h, _⟩ := h
  exact h.toB
theorem ApG.on (h : ApG w wr X k b1 b2 b3 qb P) (hB : Below wr.heap.size wr wr') : ApG w wr' X k b1 b2 b3 qb P := by
  obtain ⟨H, n, Q, R, S, T, h, g⟩ := h
  exact ⟨H, n, Q, R, S, T, h.on hB, g⟩
theorem ApG.spare (h : ApG w wr X k b1 b2 b3 qb P) (hB : Below wr.heap.size wr wr') (X' : Nat → Prop) (hX : ∀ g, X' g → X g ∨ (wr.heap.size ≤ g ∧ g < wr'.heap.size)) : ApG w wr' X' k b1 b2 b3 qb P := by
  obtain ⟨H, n, Q, R, S, T, h, g⟩ := h
  exact ⟨H, n, Q, R, S, T, h.spare hB X' hX, g⟩
theorem ApG.write (h : ApG w wr X k b1 b2 b3 qb P) {g : Nat} (hg : X g) (hgb : w.heap.size ≤ g) (hG : wr.grownBy wr' (some g)) : ApG w wr' X k b1 b2 b3 qb P := by
  obtain ⟨H, n, Q, R, S, T, h, q⟩ := h
  exact ⟨H, n, Q, R, S, T, h.write hg hgb hG, q⟩
theorem ApG.mono (h : ApG w wr X k b1 b2 b3 qb P) {k' : Nat} {P' : List Wl → List Wl → List Wl → Prop} (hk : k ≤ k') (hP : ∀ R S T, P R S T → P' R S T) : ApG w wr X k' b1 b2 b3 qb P' := by
  obtain ⟨H, n, Q, R, S, T, h, h0, h1, h2, hp, h3, h4, h5, h6⟩ := h
  exact ⟨H, n, Q, R, S, T, h, h0, h1, h2, hP _ _ _ hp, by omega, by omega, h5, by omega⟩
def ApDid (w wr : World) (X : Nat → Prop) (k b1 b2 b3 qb : Nat) (P : List Wl → List Wl → List Wl → Prop) (e : Ending) (w' : World) : Prop :=
  ∃ b, e = .returned (.bool b) ∧ ApG w w' X k b1 b2 b3 qb P ∧ ∀ g, X g → w'.heap[g]? = wr.heap[g]?
theorem apBoth (h : ApG w wr X k b1 b2 b3 qb P) (x : Cl) (hx : x.wf) (hk : k ≤ 1000) :
    Calls Try.prog 12 #[.pointer (some ⟨b1, 0, none⟩), .pointer (some ⟨qb, 0, none⟩), .agg (clV x)] wr (ApDid w wr X (k + 1) b1 b2 b3 qb (fun R S T => ∃ R0, R = turnW R0 x ∧ P R0 S T)) := by
  obtain ⟨H, n, Q, R, S, T, h, h0, h1, h2, hp, h3, h4, h5, h6⟩ := h
  refine (does_any h h0 x hx (by simp [maxLen]; omega) (by omega) h5).mono ?_
  rintro e w' ⟨b, rfl, _, h7, h8⟩
  have hq := turnW_len Q x
  have hr := turnW_len R x
  exact ⟨b, rfl, ⟨_, _, _, _, S, T, h7, upd_same _ _ _, (upd_other _ _ (by omega)).trans h1, (upd_other _ _ (by omega)).trans h2, ⟨R, rfl, hp⟩, by omega, by omega, turnW_wf h5 x, by omega⟩, h8⟩
theorem apOne (h : ApG w wr X k b1 b2 b3 qb P) (x : Cl) (hx : x.wf) (hk : k ≤ 1000) :
    Calls Try.prog 12 #[.pointer (some ⟨b2, 0, none⟩), .pointer (some ⟨qb, 0, none⟩), .agg (clV x)] wr (ApDid w wr X (k + 1) b1 b2 b3 qb (fun R S T => ∃ S0, S = turnW S0 x ∧ P R S0 T)) := by
  obtain ⟨H, n, Q, R, S, T, h, h0, h1, h2, hp, h3, h4, h5, h6⟩ := h
  refine (does_any h h1 x hx (by simp [maxLen]; omega) (by omega) h5).mono ?_
  rintro e w' ⟨b, rfl, _, h7, h8⟩
  have hq := turnW_len Q x
  exact ⟨b, rfl, ⟨_, _, _, R, _, T, h7, (upd_other _ _ (by omega)).trans h0, upd_same _ _ _, (upd_other _ _ (by omega)).trans h2, ⟨S, rfl, hp⟩, by omega, by omega, turnW_wf h5 x, by omega⟩, h8⟩
theorem apTwo (h : ApG w wr X k b1 b2 b3 qb P) (x : Cl) (hx : x.wf) (hk : k ≤ 1000) :
    Calls Try.prog 12 #[.pointer (some ⟨b3, 0, none⟩), .pointer (some ⟨qb, 0, none⟩), .agg (clV x)] wr (ApDid w wr X (k + 1) b1 b2 b3 qb (fun R S T => ∃ T0, T = turnW T0 x ∧ P R S T0)) := by
  obtain ⟨H, n, Q, R, S, T, h, h0, h1, h2, hp, h3, h4, h5, h6⟩ := h
  refine (does_any h h2 x hx (by simp [maxLen]; omega) (by omega) h5).mono ?_
  rintro e w' ⟨b, rfl, _, h7, h8⟩
  have hq := turnW_len Q x
  exact ⟨b, rfl, ⟨_, _, _, R, S, _, h7, (upd_other _ _ (by omega)).trans h0, (upd_other _ _ (by omega)).trans h1, upd_same _ _ _, ⟨T, rfl, hp⟩, by omega, by omega, turnW_wf h5 x, by omega⟩, h8⟩
/-- the three, made -/
theorem apNew1 (w : World) : Calls Try.prog 7 #[] w fun e w1 => ∃ b1, e = .returned (.pointer (some ⟨b1, 0, none⟩)) ∧ Wr w1 (fun g => g = w.heap.size ∨ g = w.heap.size + 1) b1 0 [] ∧ Below w.heap.size w w1 := by
  refine (new_any w).mono ?_
  rintro e w' ⟨rfl, hW, hB⟩
  exact ⟨_, rfl, hW, hB⟩
def frF (a b c q : Nat) : Nat → Nat → Prop := fun i g => if i = 0 then g = q else if i = 1 then g = a ∨ g = a + 1 else if i = 2 then g = b ∨ g = b + 1 else if i = 3 then g = c ∨ g = c + 1 else False
theorem apStart {w w1 w2 w3 v : World} {b1 b2 b3 qb : Nat} (h1 : Wr w1 (fun g => g = w.heap.size ∨ g = w.heap.size + 1) b1 0 []) (B1 : Below w.heap.size w w1) (h2 : Wr w2 (fun g => g = w1.heap.size ∨ g = w1.heap.size + 1) b2 0 []) (B2 : Below w1.heap.size w1 w2)
    (h3 : Wr w3 (fun g => g = w2.heap.size ∨ g = w2.heap.size + 1) b3 0 []) (B3 : Below w2.heap.size w2 w3) (hqb : qb = w3.heap.size) (hX : Box v qb 37 #[.slice none 0 0]) (B4 : Below w3.heap.size w3 v) : ApG w v (fun _ => False) 0 b1 b2 b3 qb Apart := by
  have s1 := h1.lt _ (.inr rfl)
  have s2 := h2.lt _ (.inr rfl)
  have s3 := h3.lt _ (.inr rfl)
  have z1 := B1.size
  have z2 := B2.size
  have z3 := B3.size
  have z4 := B4.size
  have hql := hX.lt
  have g1 : Wr v (fun g => g = w.heap.size ∨ g = w.heap.size + 1) b1 0 [] := ((h1.below B2).below B3).below B4
  have g2 : Wr v (fun g => g = w1.heap.size ∨ g = w1.heap.size + 1) b2 0 [] := (h2.below B3).below B4
  have g3 : Wr v (fun g => g = w2.heap.size ∨ g = w2.heap.size + 1) b3 0 [] := h3.below B4
  have hB : Below w.heap.size w v := B1.trans ((B2.mono z1).trans ((B3.mono (by omega)).trans (B4.mono (by omega))))
  refine ⟨fun i => if i = 0 then some (b1, []) else if i = 1 then some (b2, []) else if i = 2 then some (b3, []) else none, 0, [], [], [], [], ⟨frF w.heap.size w1.heap.size w2.heap.size qb, fun i p R hi => ?_, ?_, fun i j g hij e1 e2 => ?_, fun i g hg => ?_, fun g hg => hg.elim, hB⟩, rfl, rfl, rfl, Apart.nil, Nat.le_refl _, by simp, fun y hy => (by cases hy), by simp⟩
  · simp only at hi
    unfold frF
    by_cases i0 : i = 0
    · rw [if_pos i0] at hi
      injection hi with hi
      injection hi with e1 e2
      subst e1 e2 i0
      simpa using g1
    · rw [if_neg i0] at hi
      by_cases i1 : i = 1
      · rw [if_pos i1] at hi
        injection hi with hi
        injection hi with e1 e2
        subst e1 e2 i1
        simpa using g2
      · rw [if_neg i1] at hi
        by_cases i2 : i = 2
        · rw [if_pos i2] at hi
          injection hi with hi
          injection hi with e1 e2
          subst e1 e2 i2
          simpa using g3
        · rw [if_neg i2] at hi; cases hi
  · exact ⟨⟨none, 0, hX, Own.none_ _ _ _ _, rfl, fun g hg => by cases hg⟩, fun g hg => by rw [show g = qb from hg]; exact hql⟩
  · unfold frF at e1 e2
    repeat' split at e1
    all_goals (repeat' split at e2)
    all_goals first | omega | exact e1.elim | exact e2.elim
  · unfold frF at hg
    refine ⟨?_, ?_, fun h => h⟩
    all_goals (repeat' split at hg)
    all_goals first | omega | exact hg.elim
/-! ### the last rounds -/
def ApL (w wr : World) (X : Nat → Prop) (b1 b2 b3 qb m : Nat) : Prop :=
  ∃ H n Q R S T, AW w wr X n H qb Q ∧ H 0 = some (b1, R) ∧ H 1 = some (b2, S) ∧ H 2 = some (b3, T) ∧ Apart R S T ∧ n + 3 * R.length ≤ 5000 ∧ R.length = m
def ApC (w wr : World) (X : Nat → Prop) (b1 b2 b3 qb m : Nat) (a b : Int) (c : Nat) : Prop :=
  ∃ H n Q R S T, AW w wr X n H qb Q ∧ H 0 = some (b1, R) ∧ H 1 = some (b2, S) ∧ H 2 = some (b3, T) ∧ Apart R S T ∧ n + 3 * R.length ≤ 5000 ∧ R.length = m ∧ (bag R a b).length = c
def ApM (w wr : World) (X : Nat → Prop) (b1 b2 b3 qb m : Nat) (a b : Int) (s : List UInt8) (d : Nat) : Prop :=
  ∃ H n Q R S T R0, AW w wr X n H qb Q ∧ H 0 = some (b1, R) ∧ H 1 = some (b2, S) ∧ H 2 = some (b3, T) ∧ Apart R0 S T ∧ n + 3 * R0.length ≤ 5000 + d ∧ R0.length = m ∧ R = (takeW R0 a b 0).1 ∧ ∃ l, bag R0 a b = s :: l
theorem ApG.toL (h : ApG w wr X k b1 b2 b3 qb Apart) (hk : k ≤ 1000) : ∃ m, ApL w wr X b1 b2 b3 qb m := by
  obtain ⟨H, n, Q, R, S, T, h, h0, h1, h2, hp, h3, h4, h5, h6⟩ := h
  exact ⟨_, H, n, Q, R, S, T, h, h0, h1, h2, hp, by omega, rfl⟩
variable {m c : Nat} {a b : Int} {s : List UInt8}
theorem ApL.toB (h : ApL w wr X b1 b2 b3 qb m) : Below w.heap.size w wr := by
  obtain ⟨H, n, Q, R, S, T, h, _⟩ := h
  exact h.toB
theorem ApL.on (h : ApL w wr X b1 b2 b3 qb m) (hB : Below wr.heap.size wr wr') : ApL w wr' X b1 b2 b3 qb m := by
  obtain ⟨H, n, Q, R, S, T, h, g⟩ := h
  exact ⟨H, n, Q, R, S, T, h.on hB, g⟩
theorem ApC.toL (h : ApC w wr X b1 b2 b3 qb m a b c) : ApL w wr X b1 b2 b3 qb m := by
  obtain ⟨H, n, Q, R, S, T, h, h0, h1, h2, hp, h3, h4, h5⟩ := h
  exact ⟨H, n, Q, R, S, T, h, h0, h1, h2, hp, h3, h4⟩
theorem apCount (h : ApL w wr X b1 b2 b3 qb m) (a b : Int) (ha : i64ok a) (hb : i64ok b) : Calls Try.prog 13 #[.pointer (some ⟨b1, 0, none⟩), .int .i64 a, .int .i64 b] wr fun e w' => ∃ c : Nat, e = .returned (.int .i64 (c : Int)) ∧ ApC w w' X b1 b2 b3 qb m a b c ∧ Below wr.heap.size wr w' := by
  obtain ⟨H, n, Q, R, S, T, h, h0, h1, h2, hp, g1, g2⟩ := h
  refine (countA h h0 a b ha hb).mono ?_
  rintro e w' ⟨rfl, hB⟩
  exact ⟨_, rfl, ⟨H, n, Q, R, S, T, h.on hB, h0, h1, h2, hp, g1, g2, rfl⟩, hB⟩
def Kept (X : Nat → Prop) (wr w' : World) : Prop := ∀ g, X g → w'.heap[g]? = wr.heap[g]?
theorem apT0 (h : ApC w wr X b1 b2 b3 qb m a b c) (hc : 0 < c) (ha : i64ok a) (hb : i64ok b) : Calls Try.prog 10 #[.pointer (some ⟨b1, 0, none⟩), .int .i64 a, .int .i64 b, .int .i64 0] wr fun e w' => ∃ s, e = .returned (.tuple #[.string (str s), .int .i64 0]) ∧ ApM w w' X b1 b2 b3 qb m a b s 1 ∧ Kept X wr w' := by
  obtain ⟨H, n, Q, R, S, T, h, h0, h1, h2, hp, g1, g2, g3⟩ := h
  refine (takeA h h0 a b 0 ha hb (by simp [maxLen]; omega)).mono ?_
  rintro e w' ⟨rfl, h3, h4⟩
  cases hbg : bag R a b with
  | nil => rw [hbg] at g3; simp at g3; omega
  | cons s l =>
    obtain ⟨e1, e2, _, _⟩ := take_first hbg
    rw [e1, e2]
    exact ⟨s, rfl, ⟨_, _, _, _, S, T, R, h3, upd_same _ _ _, (upd_other _ _ (by omega)).trans h1, (upd_other _ _ (by omega)).trans h2, hp, by omega, g2, rfl, l, hbg⟩, h4⟩
theorem apT1z {d : Nat} (h : ApM w wr X b1 b2 b3 qb m 0 b s d) (hd : d ≤ 2) (hb : i64ok b) : Calls Try.prog 10 #[.pointer (some ⟨b2, 0, none⟩), .int .i64 0, .int .i64 b, .int .i64 0] wr fun e w' => e = .returned (.tuple #[.string (str s), .int .i64 0]) ∧ (∃ m', m' < m ∧ ApL w w' X b1 b2 b3 qb m') ∧ Kept X wr w' := by
  obtain ⟨H, n, Q, R, S, T, R0, h, h0, h1, h2, hp, g1, g2, g3, l, g4⟩ := h
  refine (takeA h h1 0 b 0 ⟨by omega, by omega⟩ hb (by simp [maxLen]; omega)).mono ?_
  rintro e w' ⟨rfl, h3, h4⟩
  have hs : bag S 0 b = s :: l := by rw [← hp.a0, g4]
  obtain ⟨e1, e2, _, _⟩ := take_first hs
  have hl := (take_first g4).2.2.1
  rw [e1, e2]
  have ha := hp.take0 g4
  rw [← g3] at ha hl
  exact ⟨rfl, ⟨R.length, by omega, _, _, _, R, _, T, h3, (upd_other _ _ (by omega)).trans h0, upd_same _ _ _, (upd_other _ _ (by omega)).trans h2, ha, by omega, rfl⟩, h4⟩
theorem apT1o {d : Nat} (h : ApM w wr X b1 b2 b3 qb m 1 b s d) (hd : d ≤ 2) (hb : i64ok b) : Calls Try.prog 10 #[.pointer (some ⟨b2, 0, none⟩), .int .i64 1, .int .i64 b, .int .i64 0] wr fun e w' => e = .returned (.tuple #[.string (str []), .int .i64 7]) ∧ ApM w w' X b1 b2 b3 qb m 1 b s (d + 1) ∧ Kept X wr w' := by
  obtain ⟨H, n, Q, R, S, T, R0, h, h0, h1, h2, hp, g1, g2, g3, l, g4⟩ := h
  refine (takeA h h1 1 b 0 ⟨by omega, by omega⟩ hb (by simp [maxLen]; omega)).mono ?_
  rintro e w' ⟨rfl, h3, h4⟩
  rw [take_none (hp.s 1 b (by omega))] at h3 ⊢
  exact ⟨rfl, ⟨_, _, _, R, S, T, R0, h3, (upd_other _ _ (by omega)).trans h0, upd_same _ _ _, (upd_other _ _ (by omega)).trans h2, hp, by omega, g2, g3, l, g4⟩, h4⟩
theorem apT2 {d : Nat} (h : ApM w wr X b1 b2 b3 qb m 1 b s d) (hd : d ≤ 2) (hb : i64ok b) : Calls Try.prog 10 #[.pointer (some ⟨b3, 0, none⟩), .int .i64 1, .int .i64 b, .int .i64 0] wr fun e w' => e = .returned (.tuple #[.string (str s), .int .i64 0]) ∧ (∃ m', m' < m ∧ ApL w w' X b1 b2 b3 qb m') ∧ Kept X wr w' := by
  obtain ⟨H, n, Q, R, S, T, R0, h, h0, h1, h2, hp, g1, g2, g3, l, g4⟩ := h
  refine (takeA h h2 1 b 0 ⟨by omega, by omega⟩ hb (by simp [maxLen]; omega)).mono ?_
  rintro e w' ⟨rfl, h3, h4⟩
  have hs : bag T 1 b = s :: l := by rw [← hp.a1, g4]
  obtain ⟨e1, e2, _, _⟩ := take_first hs
  have hl := (take_first g4).2.2.1
  rw [e1, e2]
  have ha := hp.take1 g4
  rw [← g3] at ha hl
  exact ⟨rfl, ⟨R.length, by omega, _, _, _, R, S, _, h3, (upd_other _ _ (by omega)).trans h0, (upd_other _ _ (by omega)).trans h1, upd_same _ _ _, ha, by omega, rfl⟩, h4⟩
/-! ### the ways -/
def ApE (R S T : List Wl) : List Wl → List Wl → List Wl → Prop := fun R' S' T' => R' = R ∧ S' = S ∧ T' = T
theorem apWays (h : ApG w wr X k b1 b2 b3 qb Apart) : ∃ R S T, Apart R S T ∧ (∀ p ∈ waysW R, i64ok p.1 ∧ i64ok p.2) ∧ ApG w wr X k b1 b2 b3 qb (ApE R S T) ∧ R.length ≤ k := by
  obtain ⟨H, n, Q, R, S, T, h, h0, h1, h2, hp, g⟩ := h
  exact ⟨R, S, T, hp, ways_i64 (h.wf h0), ⟨H, n, Q, R, S, T, h, h0, h1, h2, ⟨rfl, rfl, rfl⟩, g⟩, g.2.2.2⟩
variable {R S T : List Wl}
theorem ways1 (h : ApG w wr X k b1 b2 b3 qb (ApE R S T)) (hk : k ≤ 1000) : Calls Try.prog 15 #[.pointer (some ⟨b1, 0, none⟩)] wr (WaysR wr R) := by
  obtain ⟨H, n, Q, _, _, _, h, h0, h1, h2, ⟨rfl, rfl, rfl⟩, h3, g⟩ := h
  exact waysA h h0 (by omega)
theorem ways2 (h : ApG w wr X k b1 b2 b3 qb (ApE R S T)) (hk : k ≤ 1000) : Calls Try.prog 15 #[.pointer (some ⟨b2, 0, none⟩)] wr (WaysR wr S) := by
  obtain ⟨H, n, Q, _, _, _, h, h0, h1, h2, ⟨rfl, rfl, rfl⟩, h3, g⟩ := h
  exact waysA h h1 (by omega)
theorem ways3 (h : ApG w wr X k b1 b2 b3 qb (ApE R S T)) (hk : k ≤ 1000) : Calls Try.prog 15 #[.pointer (some ⟨b3, 0, none⟩)] wr (WaysR wr T) := by
  obtain ⟨H, n, Q, _, _, _, h, h0, h1, h2, ⟨rfl, rfl, rfl⟩, h3, g⟩ := h
  exact waysA h h2 (by omega)
end Go.PH

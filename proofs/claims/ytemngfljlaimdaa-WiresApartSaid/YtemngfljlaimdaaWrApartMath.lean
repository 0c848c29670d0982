/- What a turn makes of each way's bag; wires that lie apart. No program in sight. -/
import Derived.Test.YtemngfljlaimdaaWrAll
set_option linter.all false
set_option linter.unusedSimpArgs false
set_option linter.unusedVariables false
namespace Go.PH
open Go.RowKit Go.Proofs

def sendG (s : List UInt8) (l : List (List UInt8)) : List (List UInt8) := if 32768 < s.length then l else if 64 ≤ l.length then l else l ++ [s]
def outG (i : Int) (l : List (List UInt8)) : Prop := i < 0 ∨ (l.length : Int) ≤ i
instance (i : Int) (l : List (List UInt8)) : Decidable (outG i l) := by unfold outG; exact inferInstance
def turnG (x : Cl) (l : List (List UInt8)) : List (List UInt8) :=
  if x.wh % 6 = 3 then (if outG x.i l then l else l.eraseIdx x.i.toNat) else if x.wh % 6 = 4 then (if outG x.i l then l else sendG (l[x.i.toNat]?.getD []) l) else sendG x.s l
theorem send_bag (R : List Wl) (a b : Int) (s : List UInt8) (c d : Int) : bag (sendW R a b s).1 c d = if c = a ∧ d = b then sendG s (bag R a b) else bag R c d := by
  unfold sendW sendG
  by_cases h1 : 32768 < s.length
  · rw [if_pos h1, if_pos h1]
    split
    · rename_i h; rw [h.1, h.2]
    · rfl
  · rw [if_neg h1, if_neg h1]
    by_cases h2 : 64 ≤ (bag R a b).length
    · rw [if_pos h2, if_pos h2]
      split
      · rename_i h; rw [h.1, h.2]
      · rfl
    · rw [if_neg h2, if_neg h2]
      simp only
      rw [bag_app, bag_one]
      by_cases h : c = a ∧ d = b
      · rw [if_pos h, if_pos ⟨h.1.symm, h.2.symm⟩, h.1, h.2]
      · rw [if_neg h, if_neg (fun e => h ⟨e.1.symm, e.2.symm⟩), List.append_nil]
theorem turn_bag (x : Cl) (hx : x.wh % 6 ≠ 5) (R : List Wl) (c d : Int) : bag (turnW R x) c d = if c = x.fr ∧ d = x.to then turnG x (bag R x.fr x.to) else bag R c d := by
  unfold turnW turnG
  have keep : bag R c d = if c = x.fr ∧ d = x.to then bag R x.fr x.to else bag R c d := by
    split
    · rename_i h; rw [h.1, h.2]
    · rfl
  by_cases h3 : x.wh % 6 = 3
  · rw [if_pos h3, if_pos h3]
    by_cases ho : outG x.i (bag R x.fr x.to)
    · rw [if_pos ho]
      unfold takeW
      rw [place_out ho]
      exact keep
    · rw [if_neg ho]
      unfold outG at ho
      obtain ⟨j, h4, h5, h6, h7⟩ := place_in (R := R) (a := x.fr) (b := x.to) (i := x.i) (by omega) (by omega)
      unfold takeW
      rw [h4]
      exact h7 c d
  · rw [if_neg h3, if_neg h3]
    by_cases h4 : x.wh % 6 = 4
    · rw [if_pos h4, if_pos h4]
      by_cases ho : outG x.i (bag R x.fr x.to)
      · rw [if_pos ho]
        unfold doubleW
        rw [place_out ho]
        exact keep
      · rw [if_neg ho]
        unfold outG at ho
        obtain ⟨j, h5, h6, h7, _⟩ := place_in (R := R) (a := x.fr) (b := x.to) (i := x.i) (by omega) (by omega)
        unfold doubleW
        rw [h5, h7]
        simp only [List.getElem?_eq_getElem h6, Option.map_some, Option.getD_some]
        exact send_bag R _ _ _ c d
    · rw [if_neg h4, if_neg h4, if_neg hx]
      exact send_bag R _ _ _ c d
/-- letters of both, of the first, of the second -/
structure Apart (R S T : List Wl) : Prop where
  a0 : ∀ t, bag R 0 t = bag S 0 t
  a1 : ∀ t, bag R 1 t = bag T 1 t
  s : ∀ a t, a ≠ 0 → bag S a t = []
  t : ∀ a t, a ≠ 1 → bag T a t = []
  r : ∀ a t, a ≠ 0 → a ≠ 1 → bag R a t = []
theorem Apart.nil : Apart [] [] [] := ⟨fun _ => rfl, fun _ => rfl, fun _ _ _ => rfl, fun _ _ _ => rfl, fun _ _ _ _ => rfl⟩
theorem Apart.turn0 {R S T : List Wl} (h : Apart R S T) (x : Cl) (hx : x.wh % 6 ≠ 5) (h0 : x.fr = 0) : Apart (turnW R x) (turnW S x) T where
  a0 t := by rw [turn_bag x hx, turn_bag x hx, h0, h.a0, h.a0]
  a1 t := by rw [turn_bag x hx, if_neg (by rw [h0]; omega), h.a1]
  s a t ha := by rw [turn_bag x hx, if_neg (by rw [h0]; omega), h.s a t ha]
  t := h.t
  r a t h1 h2 := by rw [turn_bag x hx, if_neg (by rw [h0]; omega), h.r a t h1 h2]
theorem Apart.turn1 {R S T : List Wl} (h : Apart R S T) (x : Cl) (hx : x.wh % 6 ≠ 5) (h0 : x.fr = 1) : Apart (turnW R x) S (turnW T x) where
  a0 t := by rw [turn_bag x hx, if_neg (by rw [h0]; omega), h.a0]
  a1 t := by rw [turn_bag x hx, turn_bag x hx, h0, h.a1, h.a1]
  s := h.s
  t a t ha := by rw [turn_bag x hx, if_neg (by rw [h0]; omega), h.t a t ha]
  r a t h1 h2 := by rw [turn_bag x hx, if_neg (by rw [h0]; omega), h.r a t h1 h2]
theorem Apart.ways {R S T : List Wl} (h : Apart R S T) : waysW R = waysW S ++ waysW T := by
  have hs : ∀ p ∈ waysW S, p.1 = 0 := fun p hp => by
    by_cases h0 : p.1 = 0
    · exact h0
    · exact absurd (h.s p.1 p.2 h0) ((ways_mem S p.1 p.2).1 hp)
  have ht : ∀ p ∈ waysW T, p.1 = 1 := fun p hp => by
    by_cases h0 : p.1 = 1
    · exact h0
    · exact absurd (h.t p.1 p.2 h0) ((ways_mem T p.1 p.2).1 hp)
  refine ways_eq (ways_ok R) ?_ fun y => ?_
  · unfold WaysOk
    rw [List.pairwise_append]
    refine ⟨ways_ok S, ways_ok T, fun p hp q hq => ?_⟩
    rw [ltW_iff, hs p hp, ht q hq]
    exact .inl (by omega)
  · obtain ⟨a, b⟩ := y
    rw [List.mem_append, ways_mem, ways_mem, ways_mem]
    by_cases h0 : a = 0
    · subst h0
      rw [h.a0, h.t 0 b (by omega)]
      simp
    · by_cases h1 : a = 1
      · subst h1
        rw [h.a1, h.s 1 b (by omega)]
        simp
      · rw [h.r a b h0 h1, h.s a b h0, h.t a b h1]
        simp
theorem Apart.way01 {R S T : List Wl} (h : Apart R S T) {a b : Int} (hm : (a, b) ∈ waysW R) : a = 0 ∨ a = 1 := by
  by_cases h0 : a = 0
  · exact .inl h0
  · by_cases h1 : a = 1
    · exact .inr h1
    · exact absurd (h.r a b h0 h1) ((ways_mem R a b).1 hm)
theorem take_none {R : List Wl} {a b : Int} (h : bag R a b = []) : takeW R a b 0 = (R, [], 7) := by
  unfold takeW
  rw [place_out (.inr (by rw [h]; simp))]
theorem take_first {R : List Wl} {a b : Int} {s : List UInt8} {l : List (List UInt8)} (h : bag R a b = s :: l) : (takeW R a b 0).2.1 = s ∧ (takeW R a b 0).2.2 = 0 ∧ (takeW R a b 0).1.length < R.length ∧ ∀ c d, bag (takeW R a b 0).1 c d = if c = a ∧ d = b then l else bag R c d := by
  obtain ⟨j, h5, h6, h7, h8⟩ := place_in (R := R) (a := a) (b := b) (i := 0) (by omega) (by rw [h]; simp)
  unfold takeW
  rw [h5]
  rw [h] at h7 h8
  simp at h7
  refine ⟨by simp [List.getElem?_eq_getElem h6, h7], rfl, by simp only [List.length_eraseIdx]; rw [if_pos h6]; omega, fun c d => ?_⟩
  rw [h8 c d]; rfl
theorem Apart.take0 {R S T : List Wl} (h : Apart R S T) {b : Int} {s : List UInt8} {l : List (List UInt8)} (hb : bag R 0 b = s :: l) : Apart (takeW R 0 b 0).1 (takeW S 0 b 0).1 T := by
  have hr := (take_first hb).2.2.2
  have hs := (take_first ((h.a0 b).symm.trans hb)).2.2.2
  refine ⟨fun t => ?_, fun t => ?_, fun a t ha => ?_, h.t, fun a t h0 h1 => ?_⟩
  · rw [hr, hs, h.a0]
  · rw [hr, if_neg (by omega), h.a1]
  · rw [hs, if_neg (by omega), h.s a t ha]
  · rw [hr, if_neg (by omega), h.r a t h0 h1]
theorem Apart.take1 {R S T : List Wl} (h : Apart R S T) {b : Int} {s : List UInt8} {l : List (List UInt8)} (hb : bag R 1 b = s :: l) : Apart (takeW R 1 b 0).1 S (takeW T 1 b 0).1 := by
  have hr := (take_first hb).2.2.2
  have hs := (take_first ((h.a1 b).symm.trans hb)).2.2.2
  refine ⟨fun t => ?_, fun t => ?_, h.s, fun a t ha => ?_, fun a t h0 h1 => ?_⟩
  · rw [hr, if_neg (by omega), h.a0]
  · rw [hr, hs, h.a1]
  · rw [hs, if_neg (by omega), h.t a t ha]
  · rw [hr, if_neg (by omega), h.r a t h0 h1]
/-! ### the least number of which something is so -/
theorem least_ex (p : Nat → Prop) : ∀ k, p k → ∃ m, p m ∧ ∀ j, p j → m ≤ j := by
  intro k
  induction k using Nat.strongRecOn with
  | _ k ih =>
    intro hk
    by_cases h : ∃ j, j < k ∧ p j
    · obtain ⟨j, hj, hp⟩ := h
      exact ih j hj hp
    · exact ⟨k, hk, fun j hj => Nat.le_of_not_lt fun hlt => h ⟨j, hlt, hj⟩⟩
open Classical in
noncomputable def least (p : Nat → Prop) : Nat := if h : ∃ m, p m ∧ ∀ j, p j → m ≤ j then h.choose else 0
theorem least_is {p : Nat → Prop} {k : Nat} (h : p k) : p (least p) := by
  have h1 := least_ex p k h
  unfold least
  rw [dif_pos h1]
  exact h1.choose_spec.1
theorem least_le {p : Nat → Prop} {k : Nat} (h : p k) : least p ≤ k := by
  have h1 := least_ex p k h
  unfold least
  rw [dif_pos h1]
  exact h1.choose_spec.2 k h
end Go.PH

/- What Send leaves in memory. -/
import Derived.Test.YtemngfljlaimdaaWrFind
set_option linter.all false
set_option linter.unusedSimpArgs false
set_option linter.unusedVariables false
namespace Go.PH
open Go.RowKit Go.Proofs

theorem ownsMap_is {P : Program} {k : TypeId} {R : Value → Option (DataW Value × List MemPlace)} {w : World} {b n : Nat} {D : DataW Value} (h : w.ownsMap P k R b n D) : Maps.IsMap D := by
  obtain ⟨es, clock, _, _, _, hD⟩ := h
  exact ⟨_, hD⟩
theorem own_someW {w : World} {base e n c : Nat} {A : Option Addr} {xs : List Value} (h : Own w base e 1 A n c xs) (hne : xs ≠ []) : blk A ≠ none := by
  have hn : 0 < n := by
    have h1 : xs.length = n * 1 := h.rd.len
    have : xs.length ≠ 0 := fun e => hne (List.eq_nil_of_length_eq_zero e)
    omega
  obtain ⟨b, off, _, rfl, _⟩ := h.rd.at_k hn
  exact fun e => by cases e
theorem bag_sent (R : List Wl) (a b : Int) (s : List UInt8) (x y : Int) : bag (R ++ [⟨a, b, s⟩]) x y = if x = a ∧ y = b then bag R a b ++ [s] else bag R x y := by
  rw [bag_app, bag_one]
  by_cases h : x = a ∧ y = b
  · rw [if_pos h, if_pos ⟨h.1.symm, h.2.symm⟩, h.1, h.2]
  · rw [if_neg h, if_neg (fun e => h ⟨e.1.symm, e.2.symm⟩), List.append_nil]
theorem WrMap.sent {w w3 w4 w5 : World} {F : Nat → Prop} {mb n : Nat} {D : DataW Value} {hd : Int → Int → Hd} {R : List Wl} (h : WrMap w F mb n D hd R) {a b : Int} (ha : i64ok a) (hb : i64ok b) {s : List UInt8} {H : Hd} (h1 : bag R a b ≠ [] → H = hd a b) (h2 : bag R a b = [] → H = ⟨none, 0, 0⟩) {A2 : Option Addr} {N c2 : Nat}
    (k3 : ∀ g, g < w.heap.size → g ≠ mb → w3.heap[g]? = w.heap[g]?) (s3 : w.heap.size ≤ w3.heap.size)
    (o4 : Own w4 0 9 1 A2 N c2 ((bag R a b ++ [s]).map strV)) (g4 : w3.grownBy w4 (blk H.A)) (b4 : blk A2 = blk H.A ∨ blk A2 = some w3.heap.size)
    (o5 : w5.ownsMap Try.prog 54 rawW mb (n + 1) (D.put (wayL a b) (.held (.slice A2 N c2)))) (g5 : w4.grownBy w5 (some mb)) :
    WrMap w5 (fun g => F g ∨ (w.heap.size ≤ g ∧ g < w5.heap.size)) mb (n + 1) (D.put (wayL a b) (.held (.slice A2 N c2))) (fun x y => if x = a ∧ y = b then ⟨A2, N, c2⟩ else hd x y) (R ++ [⟨a, b, s⟩]) := by
  have hmb : mb < w.heap.size := h.lt _ h.inF
  have hs4 := g4.size
  have hs5 := g5.size
  have hke : ∀ x y, i64ok x → i64ok y → ¬ (x = a ∧ y = b) → wayL x y ≠ wayL a b := fun x y hx hy hne e => hne (wayL_inj hx hy ha hb e)
  have hH : ∀ g, blk H.A = some g → g < w.heap.size ∧ F g ∧ g ≠ mb := fun g hg => by
    by_cases e : bag R a b = []
    · rw [h2 e] at hg; cases hg
    · rw [h1 e] at hg
      obtain ⟨_, h4⟩ := h.row a b ha hb e
      exact ⟨h.lt _ (h4 g hg).1, h4 g hg⟩
  have kp : ∀ g, g < w.heap.size → g ≠ mb → blk H.A ≠ some g → w5.heap[g]? = w.heap[g]? := fun g hg h3 h4 =>
    (g5.block g (by omega) (fun e => h3 (by injection e)) ).trans ((g4.block g (by omega) (fun e => h4 e.symm)).trans (k3 g hg h3))
  refine ⟨o5, .inl h.inF, fun x y hx hy e => ?_, fun x y hx hy e => ?_, fun x y hx hy e => ?_, fun x y c d hx hy hc hd' e1 e2 hne => ?_, fun g hg => by rcases hg with hg | hg; have := h.lt g hg; omega; exact hg.2⟩
  · rw [bag_sent] at e
    by_cases hxy : x = a ∧ y = b
    · rw [if_pos hxy] at e; simp at e
    · rw [if_neg hxy] at e
      rw [Maps.has_put_other (hke x y hx hy hxy)]
      exact h.miss x y hx hy e
  · rw [bag_sent] at e
    by_cases hxy : x = a ∧ y = b
    · obtain ⟨rfl, rfl⟩ := hxy
      refine ⟨Maps.has_put_same (ownsMap_is h.owns) (way_keyed.key (way_key hx hy)) _, fun z => ?_⟩
      rw [Maps.atKey_put_same (ownsMap_is h.owns) (way_keyed.key (way_key hx hy)), if_pos ⟨rfl, rfl⟩]
      rfl
    · rw [if_neg hxy] at e
      rw [Maps.has_put_other (hke x y hx hy hxy), if_neg hxy]
      refine ⟨(h.has x y hx hy e).1, fun z => ?_⟩
      rw [Maps.atKey_put_other (hke x y hx hy hxy)]
      exact (h.has x y hx hy e).2 z
  · rw [bag_sent] at e ⊢
    by_cases hxy : x = a ∧ y = b
    · simp only [if_pos hxy]
      have hbk : ∀ g, blk A2 = some g → g < w5.heap.size ∧ (F g ∨ w.heap.size ≤ g) ∧ g ≠ mb := fun g hg => by
        have hl := (Own.blk_lt o4 hg).2
        rcases b4 with b4 | b4
        · rw [b4] at hg
          obtain ⟨q1, q2, q3⟩ := hH g hg
          exact ⟨by omega, .inl q2, q3⟩
        · rw [b4] at hg
          injection hg with hg
          exact ⟨by omega, .inr (by omega), by omega⟩
      exact ⟨own_stays o4 g5 (fun g hg e => (hbk g hg).2.2 (by injection e with e; exact e.symm)), fun g hg => ⟨by
        obtain ⟨q1, q2, _⟩ := hbk g hg
        rcases q2 with q2 | q2
        · exact .inl q2
        · exact .inr ⟨q2, q1⟩, (hbk g hg).2.2⟩⟩
    · rw [if_neg hxy] at e
      simp only [if_neg hxy]
      obtain ⟨q1, q2⟩ := h.row x y hx hy e
      refine ⟨own_keep q1 (fun g hg => kp g (h.lt _ (q2 g hg).1) (q2 g hg).2 (fun e' => ?_)) (by omega), fun g hg => ⟨.inl (q2 g hg).1, (q2 g hg).2⟩⟩
      by_cases e3 : bag R a b = []
      · rw [h2 e3] at e'; cases e'
      · rw [h1 e3] at e'
        exact h.apart x y a b hx hy ha hb e e3 hxy (hg.trans e'.symm)
  · rw [bag_sent] at e1 e2
    have hn : ∀ u v, i64ok u → i64ok v → bag R u v ≠ [] → ¬ (u = a ∧ v = b) → blk (hd u v).A ≠ blk A2 := fun u v hu hv hb' hne' e' => by
      rcases hz : blk (hd u v).A with _ | g
      · exact own_someW (h.row u v hu hv hb').1 (by simpa using hb') hz
      · obtain ⟨_, q2⟩ := h.row u v hu hv hb'
        have q3 := h.lt _ (q2 g hz).1
        rw [hz] at e'
        rcases b4 with b4 | b4
        · rw [b4] at e'
          by_cases e3 : bag R a b = []
          · rw [h2 e3] at e'; cases e'
          · rw [h1 e3] at e'
            exact h.apart u v a b hu hv ha hb hb' e3 hne' (hz.trans e')
        · rw [b4] at e'
          injection e' with e'
          omega
    by_cases p1 : x = a ∧ y = b
    · by_cases p2 : c = a ∧ d = b
      · exact absurd ⟨p1.1.trans p2.1.symm, p1.2.trans p2.2.symm⟩ hne
      · rw [if_neg p2] at e2
        simp only [if_pos p1, if_neg p2]
        exact fun e => hn c d hc hd' e2 p2 e.symm
    · rw [if_neg p1] at e1
      by_cases p2 : c = a ∧ d = b
      · simp only [if_neg p1, if_pos p2]
        exact hn x y hx hy e1 p1
      · rw [if_neg p2] at e2
        simp only [if_neg p1, if_neg p2]
        exact h.apart x y c d hx hy hc hd' e1 e2 hne
end Go.PH

/- What a delete leaves in memory. -/
import Derived.Test.YtemngfljlaimdaaWrSent
set_option linter.all false
set_option linter.unusedSimpArgs false
set_option linter.unusedVariables false
namespace Go.PH
open Go.RowKit Go.Proofs

theorem WrMap.gone {w w5 : World} {F : Nat → Prop} {mb n : Nat} {D : DataW Value} {hd : Int → Int → Hd} {R R' : List Wl} (h : WrMap w F mb n D hd R) {a b : Int} (ha : i64ok a) (hb : i64ok b) (hR : ∀ x y, bag R' x y = if x = a ∧ y = b then [] else bag R x y)
    (o5 : w5.ownsMap Try.prog 54 rawW mb n (D.del (wayL a b))) (hne : bag R a b ≠ []) (k5 : ∀ g, g < w.heap.size → g ≠ mb → blk (hd a b).A ≠ some g → w5.heap[g]? = w.heap[g]?) (s5 : w.heap.size ≤ w5.heap.size) : WrMap w5 F mb n (D.del (wayL a b)) hd R' := by
  have hke : ∀ x y, i64ok x → i64ok y → ¬ (x = a ∧ y = b) → wayL x y ≠ wayL a b := fun x y hx hy hne e => hne (wayL_inj hx hy ha hb e)
  have hnn : ∀ x y, bag R' x y ≠ [] → ¬ (x = a ∧ y = b) ∧ bag R' x y = bag R x y := fun x y hne => by
    rw [hR] at hne ⊢
    by_cases e : x = a ∧ y = b
    · rw [if_pos e] at hne; exact absurd rfl hne
    · rw [if_neg e]; exact ⟨e, rfl⟩
  refine ⟨o5, h.inF, fun x y hx hy e => ?_, fun x y hx hy e => ?_, fun x y hx hy e => ?_, fun x y c d hx hy hc hd' e1 e2 hne => ?_, fun g hg => Nat.lt_of_lt_of_le (h.lt g hg) s5⟩
  · by_cases hxy : x = a ∧ y = b
    · obtain ⟨rfl, rfl⟩ := hxy
      exact Maps.has_del_same
    · rw [Maps.has_del_other (hke x y hx hy hxy)]
      rw [hR, if_neg hxy] at e
      exact h.miss x y hx hy e
  · obtain ⟨q1, q2⟩ := hnn x y e
    rw [q2] at e
    refine ⟨by rw [Maps.has_del_other (hke x y hx hy q1)]; exact (h.has x y hx hy e).1, fun z => ?_⟩
    rw [Maps.atKey_del_other (hke x y hx hy q1)]
    exact (h.has x y hx hy e).2 z
  · obtain ⟨q1, q2⟩ := hnn x y e
    rw [q2] at e ⊢
    obtain ⟨p1, p2⟩ := h.row x y hx hy e
    exact ⟨own_keep p1 (fun g hg => k5 g (h.lt _ (p2 g hg).1) (p2 g hg).2 (fun e' => h.apart x y a b hx hy ha hb e hne q1 (hg.trans e'.symm))) s5, p2⟩
  · rw [(hnn x y e1).2] at e1
    rw [(hnn c d e2).2] at e2
    exact h.apart x y c d hx hy hc hd' e1 e2 hne
end Go.PH

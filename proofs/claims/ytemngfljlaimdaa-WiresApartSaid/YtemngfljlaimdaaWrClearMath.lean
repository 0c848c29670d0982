/- What Clear leaves, round by round. -/
import Derived.Test.YtemngfljlaimdaaWrTakeMem
import Derived.Test.YtemngfljlaimdaaWrWay
set_option linter.all false
set_option linter.unusedSimpArgs false
set_option linter.unusedVariables false
namespace Go.PH
open Go.RowKit Go.Proofs

theorem WrMap.bags {w : World} {F : Nat → Prop} {mb n : Nat} {D : DataW Value} {hd : Int → Int → Hd} {R R' : List Wl} (h : WrMap w F mb n D hd R) (hR : ∀ a b, bag R' a b = bag R a b) : WrMap w F mb n D hd R' where
  owns := h.owns
  inF := h.inF
  miss a b ha hb e := h.miss a b ha hb (by rw [← hR]; exact e)
  has a b ha hb e := h.has a b ha hb (by rw [← hR]; exact e)
  row a b ha hb e := by rw [hR] at e ⊢; exact h.row a b ha hb e
  apart a b c d ha hb hc hd' e1 e2 hne := h.apart a b c d ha hb hc hd' (by rw [← hR]; exact e1) (by rw [← hR]; exact e2) hne
  lt := h.lt
def cl (left : Lit → Bool) (nd : Int) (R : List Wl) : List Wl := R.filter fun x => left (wayL x.fr x.to) || decide (x.fr ≠ nd ∧ x.to ≠ nd)
theorem bag_cl (left : Lit → Bool) (nd : Int) (R : List Wl) (a b : Int) : bag (cl left nd R) a b = if (left (wayL a b) || decide (a ≠ nd ∧ b ≠ nd)) = true then bag R a b else [] := by
  unfold bag cl
  rw [List.filter_filter]
  have hc : ∀ x : Wl, (x.on a b && (left (wayL x.fr x.to) || decide (x.fr ≠ nd ∧ x.to ≠ nd))) = (x.on a b && (left (wayL a b) || decide (a ≠ nd ∧ b ≠ nd))) := fun x => by
    by_cases hx : x.fr = a ∧ x.to = b
    · rw [hx.1, hx.2]
    · have : x.on a b = false := by simp only [Wl.on, decide_eq_false_iff_not]; exact hx
      rw [this]; rfl
  rw [List.filter_congr (fun x _ => hc x)]
  cases h : (left (wayL a b) || decide (a ≠ nd ∧ b ≠ nd))
  · simp
  · simp
theorem cl_none {left : Lit → Bool} (h : ∀ kl, left kl = false) (nd : Int) (R : List Wl) : cl left nd R = clearW R nd := by
  unfold cl clearW
  apply List.filter_congr
  intro x _
  rw [h]; rfl
/-- one round that takes a way out -/
theorem cl_out {left : Lit → Bool} {nd a b : Int} {R : List Wl} (hwf : ∀ x ∈ R, i64ok x.fr ∧ i64ok x.to) (ha : i64ok a) (hb : i64ok b) (hab : a = nd ∨ b = nd) (x y : Int) :
    bag (cl (fun z => (left z && !z.sameKey (wayL a b)) && !z.sameKey (wayL a b)) nd R) x y = if x = a ∧ y = b then [] else bag (cl left nd R) x y := by
  rw [bag_cl, bag_cl]
  by_cases hxy : x = a ∧ y = b
  · obtain ⟨rfl, rfl⟩ := hxy
    have hs : (wayL x y).sameKey (wayL x y) = true := WideAt.sameKey_self (way_keyed.key (way_key ha hb))
    have hd : decide (x ≠ nd ∧ y ≠ nd) = false := by simp; omega
    rw [hs, hd]
    simp
  · rw [if_neg hxy]
    by_cases hbg : bag R x y = []
    · rw [hbg]; split <;> split <;> rfl
    · have hxo : i64ok x ∧ i64ok y := by
        by_cases he : ∃ z ∈ R, z.on x y = true
        · obtain ⟨z, hz, ho⟩ := he
          simp only [Wl.on, decide_eq_true_eq] at ho
          rw [← ho.1, ← ho.2]
          exact hwf z hz
        · refine absurd ?_ hbg
          unfold bag
          rw [List.map_eq_nil_iff, List.filter_eq_nil_iff]
          exact fun z hz ho => he ⟨z, hz, ho⟩
      have hs : (wayL x y).sameKey (wayL a b) = false := Maps.sameKey_ne (fun e => hxy (wayL_inj hxo.1 hxo.2 ha hb e))
      rw [hs]
      simp
/-- one that leaves it -/
theorem cl_in {left : Lit → Bool} {nd a b : Int} {R : List Wl} (hwf : ∀ x ∈ R, i64ok x.fr ∧ i64ok x.to) (ha : i64ok a) (hb : i64ok b) (hl : left (wayL a b) = true) (hab : ¬ (a = nd ∨ b = nd)) (x y : Int) :
    bag (cl (fun z => left z && !z.sameKey (wayL a b)) nd R) x y = bag (cl left nd R) x y := by
  rw [bag_cl, bag_cl]
  by_cases hxy : x = a ∧ y = b
  · obtain ⟨rfl, rfl⟩ := hxy
    have hd : decide (x ≠ nd ∧ y ≠ nd) = true := by simp; omega
    rw [hd]; simp
  · by_cases hbg : bag R x y = []
    · rw [hbg]; split <;> split <;> rfl
    · have hxo : i64ok x ∧ i64ok y := by
        by_cases he : ∃ z ∈ R, z.on x y = true
        · obtain ⟨z, hz, ho⟩ := he
          simp only [Wl.on, decide_eq_true_eq] at ho
          rw [← ho.1, ← ho.2]
          exact hwf z hz
        · refine absurd ?_ hbg
          unfold bag
          rw [List.map_eq_nil_iff, List.filter_eq_nil_iff]
          exact fun z hz ho => he ⟨z, hz, ho⟩
      have hs : (wayL x y).sameKey (wayL a b) = false := Maps.sameKey_ne (fun e => hxy (wayL_inj hxo.1 hxo.2 ha hb e))
      rw [hs]
      simp
theorem cl_start {w : World} {F : Nat → Prop} {mb n : Nat} {D : DataW Value} {hd : Int → Int → Hd} {R : List Wl} (h : WrMap w F mb n D hd R) (hwf : ∀ x ∈ R, i64ok x.fr ∧ i64ok x.to) (nd : Int) : cl (Maps.has D) nd R = R := by
  unfold cl
  rw [List.filter_eq_self]
  intro x hx
  have hb : bag R x.fr x.to ≠ [] := fun e => by
    unfold bag at e
    rw [List.map_eq_nil_iff, List.filter_eq_nil_iff] at e
    exact e x hx (by simp [Wl.on])
  rw [(h.has x.fr x.to (hwf x hx).1 (hwf x hx).2 hb).1]; rfl
/-- a way that comes up has letters -/
theorem at_bag {w : World} {F : Nat → Prop} {mb n : Nat} {D : DataW Value} {hd : Int → Int → Hd} {R : List Wl} (h : WrMap w F mb n D hd R) {a b : Int} (ha : i64ok a) (hb : i64ok b) {y : DataW Value} (hat : ∀ zd, D.atKey (wayL a b) zd = y) : bag R a b ≠ [] := fun e => by
  have hm := h.miss a b ha hb e
  have h1 := hat (.held (.bool true))
  have h2 := hat (.held (.bool false))
  rw [Maps.atKey_of_not_has hm] at h1 h2
  rw [← h2] at h1
  cases h1
end Go.PH

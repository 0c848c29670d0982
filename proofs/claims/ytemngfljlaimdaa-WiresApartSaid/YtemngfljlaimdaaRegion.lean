/- Regions that draw their order: operations that yield the same in every world that meets S may be taken first; what is left stands in one order. -/
import Derived.Test.YtemngfljlaimdaaMem
import Derived.OrdersHeld
import Derived.Deep.RegionHeld3
set_option linter.all false
set_option linter.unusedSimpArgs false
set_option linter.unusedVariables false
namespace Go.PH
open Go.RowKit

section
variable {P : Program} {ops : Array Oper} {Q : Exit → Act → World → Prop} {S S2 : World → Prop} {fuel : Nat} {listed : Array Bool} {a : Act} {w : World}

theorem rg_mono (h : ∀ w, S2 w → S w) : ∀ (fuel : Nat) (listed : Array Bool) (a : Act) (w : World), wpAnyH P .any ops Q S2 fuel listed a w → wpAnyH P .any ops Q S fuel listed a w
  | 0, _, _, _, hh => hh
  | fuel + 1, _, _, _, hh => ⟨hh.1, fun i hi => wpOp_mono (fun a' w' h' => ⟨h _ h'.1, rg_mono h fuel _ a' w' h'.2⟩) (hh.2 i hi)⟩
/-- the beginning -/
theorem rg_start (S : World → Prop) {id : Nat} (hm : P.follows .mixedOrders = true) (h : wpAnyH P .any ops (NoPanic Q) S ops.size (Array.replicate ops.size false) a w.drew) : (Code.region id ops true).wp P Q a w :=
  wp_region_noPanic (wp_region_held hm h)
/-- S made stronger -/
theorem rg_str (S2 : World → Prop) (himp : ∀ w, S2 w → S w) (h : wpAnyH P .any ops Q S2 fuel listed a w) : wpAnyH P .any ops Q S fuel listed a w := rg_mono himp _ _ _ _ h
/-- number i is taken first: it yields v in every world that meets S -/
theorem rg_take (i : Nat) {o : Oper} {v : Value} (hi : ops[i]? = some o) (hs : Region.noSelect ops = true) (hf : Region.free .any ops listed i = true) (hr : (Region.ready .any ops listed).contains i = true)
    (hS : S w) (hw : Region.wanted o (yielded ops a.tmps) = true) (hy : ∀ w, S w → (execOp a.eval o).run P w = .ok (.value v) w)
    (h : wpAnyH P .any ops (NoPanic Q) S fuel (listed.setIfInBounds i true) (a.put o.dst v) w) : wpAnyH P .any ops (NoPanic Q) S (fuel + 1) listed a w :=
  wpAnyH_take hi hs hf hr (fun _ _ _ h => h) (.inl ⟨hw, hy⟩) hS h
/-- its guard says no -/
theorem rg_pass (i : Nat) {o : Oper} (hi : ops[i]? = some o) (hs : Region.noSelect ops = true) (hf : Region.free .any ops listed i = true) (hr : (Region.ready .any ops listed).contains i = true)
    (hS : S w) (hw : Region.wanted o (yielded ops a.tmps) = false)
    (h : wpAnyH P .any ops (NoPanic Q) S fuel (listed.setIfInBounds i true) (a.put o.dst undef) w) : wpAnyH P .any ops (NoPanic Q) S (fuel + 1) listed a w :=
  wpAnyH_take hi hs hf hr (fun _ _ _ h => h) (.inr ⟨hw, rfl⟩) hS h
/-- number i is the only one that may come up -/
theorem rg_one (i : Nat) {o : Oper} (hi : ops[i]? = some o) (hr : Region.ready .any ops listed = [i]) (hw : Region.wanted o (yielded ops a.tmps) = true)
    (h : ∀ K : Act → World → Prop, (∀ a' w', S w' → wpAnyH P .any ops Q S fuel (listed.setIfInBounds i true) a' w' → K a' w') → o.wp P a w K Q) : wpAnyH P .any ops Q S (fuel + 1) listed a w :=
  wpAnyH_all (rs := [i]) hr (by simp) fun j hj => by
    obtain rfl : j = i := by simpa using hj
    unfold wpOp
    rw [hi]
    simp only [hw, if_true]
    exact .inl (h _ fun a' w' h1 h2 => ⟨h1, h2⟩)
/-- all have come up -/
theorem rg_end (hr : Region.ready .any ops listed = []) (h : Q .normal a w) : wpAnyH P .any ops (NoPanic Q) S fuel listed a w := wpAnyH_done (Q := NoPanic Q) hr h _
/-- what is left stands in one order -/
def seqOk (ops : Array Oper) : Array Bool → List Nat → Bool
  | listed, [] => (Region.ready .any ops listed).isEmpty
  | listed, i :: r => Region.ready .any ops listed == [i] && (ops[i]?).isSome && seqOk ops (listed.setIfInBounds i true) r
def pick (l : List Oper) : List Nat → List Oper
  | [] => []
  | i :: r => match l[i]? with
    | some o => o :: pick l r
    | none => pick l r
theorem any_tail : ∀ (seq : List Nat) (fuel : Nat) (listed : Array Bool) (a : Act) (w : World), seqOk ops listed seq = true → seq.length ≤ fuel → wpList P ops Q (pick ops.toList seq) a w → wpAny P .any ops Q fuel listed a w
  | [], fuel, listed, a, w, hs, _, h => by
    have hr : Region.ready .any ops listed = [] := by simpa [seqOk] using hs
    exact wpAny_done hr (by simpa [pick, wpList] using h) fuel
  | i :: r, 0, _, _, _, _, hl, _ => by simp at hl
  | i :: r, fuel + 1, listed, a, w, hs, hl, h => by
    simp only [seqOk, Bool.and_eq_true, beq_iff_eq, Option.isSome_iff_exists] at hs
    obtain ⟨⟨hr, o, ho⟩, hs⟩ := hs
    refine wpAny_all (rs := [i]) hr (by simp) fun j hj => ?_
    obtain rfl : j = i := by simpa using hj
    unfold wpOp
    have hol : ops.toList[j]? = some o := by simpa using ho
    simp only [pick, hol, wpList] at h
    rw [ho]
    simp only at hl ⊢
    have hl' : r.length ≤ fuel := by simpa using hl
    split
    · rename_i hw
      rw [if_pos hw] at h
      exact h.imp (Oper.wp_mono fun a' w' h' => any_tail r fuel _ a' w' hs hl' h') id
    · rename_i hw
      rw [if_neg hw] at h
      exact any_tail r fuel _ _ _ hs hl' h
theorem any_held_of : ∀ (fuel : Nat) (listed : Array Bool) (a : Act) (w : World), wpAny P .any ops Q fuel listed a w → wpAnyH P .any ops Q (fun _ => True) fuel listed a w
  | 0, _, _, _, h => h
  | fuel + 1, _, _, _, h => ⟨h.1, fun i hi => wpOp_mono (fun a' w' h' => ⟨trivial, any_held_of fuel _ a' w' h'⟩) (h.2 i hi)⟩
end
end Go.PH

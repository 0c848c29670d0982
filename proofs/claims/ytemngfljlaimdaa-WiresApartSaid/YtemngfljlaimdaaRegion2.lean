/- Drawn regions: two operations of which either may come up first. -/
import Derived.Test.YtemngfljlaimdaaRegion
set_option linter.all false
set_option linter.unusedSimpArgs false
set_option linter.unusedVariables false
namespace Go.PH
open Go.RowKit
section
variable {P : Program} {ops : Array Oper} {Q : Exit → Act → World → Prop} {S S2 : World → Prop} {fuel : Nat} {listed : Array Bool} {a : Act} {w : World}
theorem rg_two (i j : Nat) {o p : Oper} (hi : ops[i]? = some o) (hj : ops[j]? = some p) (hr : Region.ready .any ops listed = [i, j]) (hw : Region.wanted o (yielded ops a.tmps) = true) (hw' : Region.wanted p (yielded ops a.tmps) = true)
    (h : ∀ K : Act → World → Prop, (∀ a' w', S w' → wpAnyH P .any ops Q S fuel (listed.setIfInBounds i true) a' w' → K a' w') → o.wp P a w K Q)
    (h' : ∀ K : Act → World → Prop, (∀ a' w', S w' → wpAnyH P .any ops Q S fuel (listed.setIfInBounds j true) a' w' → K a' w') → p.wp P a w K Q) : wpAnyH P .any ops Q S (fuel + 1) listed a w :=
  wpAnyH_all (rs := [i, j]) hr (by simp) fun k hk => by
    rcases (by simpa using hk : k = i ∨ k = j) with rfl | rfl
    · unfold wpOp
      rw [hi]
      simp only [hw, if_true]
      exact .inl (h _ fun a' w' h1 h2 => ⟨h1, h2⟩)
    · unfold wpOp
      rw [hj]
      simp only [hw', if_true]
      exact .inl (h' _ fun a' w' h1 h2 => ⟨h1, h2⟩)
end
section
variable {P : Program} {ops : Array Oper} {Q : Exit → Act → World → Prop} {S : World → Prop} {fuel : Nat} {listed : Array Bool} {a : Act} {w : World} {t e size bytes n c : Nat} {z : Value} {A : Option Addr}
/-- a cut taken first -/
theorem rg_slice (i : Nat) {o : Oper} {x : Operand} {lo hi mx : Option Operand} (hT : SlT P t e size bytes z) (hi' : ops[i]? = some o) (hs : Region.noSelect ops = true) (hf : Region.free .any ops listed i = true) (hr : (Region.ready .any ops listed).contains i = true)
    (hS : S w) (hw : Region.wanted o (yielded ops a.tmps) = true) (ho : o.op = .slice t x lo hi mx) (hx : a.eval x = .slice A n c) (hmax : c ≤ maxLen) (hnc : n ≤ c) (l h m : Nat)
    (hlo : Bd (lo.map a.eval) 0 l) (hhi : Bd (hi.map a.eval) n h) (hmx : Bd (mx.map a.eval) c m) (hmh : mx.isSome = true → hi.isSome = true) (h1 : l ≤ h) (h2 : h ≤ m) (h3 : m ≤ c) (h4 : h ≤ n)
    (hk : wpAnyH P .any ops (NoPanic Q) S fuel (listed.setIfInBounds i true) (a.put o.dst (.slice (cutA A size l m) (h - l) (m - l))) w) : wpAnyH P .any ops (NoPanic Q) S (fuel + 1) listed a w :=
  rg_take i hi' hs hf hr hS hw (fun wS _ => by
    unfold execOp
    simp only [ho, hx, Sem.run_bind, Sem.run_pure, Result.andThen_ok, run_cutA (A := A) hT wS hmax hnc l h m hlo hhi hmx (by simpa using hmh) h1 h2 h3 h4]) hk
end
/-- two cells of a block stored -/
theorem set2 (w : World) (g : Nat) (x y u v : Value) (h0 : w.cell? ⟨g, 0, none⟩ = some x) (h1 : w.cell? ⟨g, 1, none⟩ = some y) :
    ((w.setCell ⟨g, 0, none⟩ u).setCell ⟨g, 1, none⟩ v).cell? ⟨g, 0, none⟩ = some u ∧ ((w.setCell ⟨g, 0, none⟩ u).setCell ⟨g, 1, none⟩ v).cell? ⟨g, 1, none⟩ = some v ∧ (∀ a, ((w.setCell ⟨g, 0, none⟩ u).setCell ⟨g, 1, none⟩ v).frozen? a = w.frozen? a) ∧
      w.grownBy ((w.setCell ⟨g, 0, none⟩ u).setCell ⟨g, 1, none⟩ v) (some g) := by
  refine ⟨?_, ?_, fun a => by rw [World.frozen?_setCell, World.frozen?_setCell], ⟨rfl, rfl, rfl, by simp, fun k hk hne => ?_⟩⟩
  · rw [World.cell?_setCell_other _ _ _ _ (by simp)]; exact World.cell?_setCell_same _ _ _ h0
  · exact World.cell?_setCell_same _ _ _ ((World.cell?_setCell_other _ _ _ _ (by simp)).trans h1)
  · have hk' : k ≠ g := fun e => hne (by rw [e])
    rw [Below.heap_setCell _ _ _ k (fun e => hk' (by simpa using e)), Below.heap_setCell _ _ _ k (fun e => hk' (by simpa using e))]
end Go.PH

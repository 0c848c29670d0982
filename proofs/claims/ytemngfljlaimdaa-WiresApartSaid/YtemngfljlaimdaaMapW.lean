/- Maps in a walk: a literal's entries laid in, and where a walk over a map stops. -/
import Derived.Test.YtemngfljlaimdaaMem
import Derived.Maps.RangeWalk
import Derived.Maps.Views
set_option linter.all false
set_option linter.unusedSimpArgs false
set_option linter.unusedVariables false
namespace Go.PH
open Go.RowKit
section
variable {P : Program} {ops : Array Oper} {Q : Exit → Act → World → Prop} {rest : List Oper} {a : Act} {w : World} {dst : Option Tmp} {ty : TypeId} {pos : String} {after : Array Edge} {guard : Option (Nat × Bool)}
theorem hold_insert {t : TypeId} {m k v : Operand} (h : Hold (wpList P ops Q (⟨dst, .insert t m k v, ty, pos, after, guard⟩ :: rest) a w)) :
    wpList P ops Q (⟨dst, .insert t m k v, ty, pos, after, guard⟩ :: rest) a w := h
theorem hold_range {t : TypeId} {m : Operand} (h : Hold (wpList P ops Q (⟨dst, .range t m, ty, pos, after, guard⟩ :: rest) a w)) :
    wpList P ops Q (⟨dst, .range t m, ty, pos, after, guard⟩ :: rest) a w := h
theorem hold_next {m : Operand} {b : Bool} (h : Hold (wpList P ops Q (⟨dst, .next m b, ty, pos, after, guard⟩ :: rest) a w)) :
    wpList P ops Q (⟨dst, .next m b, ty, pos, after, guard⟩ :: rest) a w := h
end
/-- 'm[k] = v' of a literal -/
theorem wpList_insert_own {H : Type} {P : Program} (w : World) {ops : Array Oper} {rest : List Oper} {o : Oper} {a : Act} {Q : Exit → Act → World → Prop}
    (hg : o.guard = none) (m x v : Operand) (t : TypeId) (hop : o.op = Op.insert t m x v)
    (k e : TypeId) (K : Maps.Keyed P k) (ht : P.underlying t = some (.map k e)) (R : Value → Option (DataW H × List MemPlace)) (b n : Nat) (D : DataW H)
    (hm : a.eval m = .map (some b)) (hown : w.ownsMap P k R b n D) (hn : n < maxLen) (key val : Value) (kl : Lit) (hx : a.eval x = key) (hv : a.eval v = val) (hkey : keyOf P k key = some kl)
    (d : DataW H) (ps : List MemPlace) (hval : R val = some (d, ps))
    (hK : ∀ w', w'.ownsMap P k R b (n + 1) (D.put kl d) → w.grownBy w' (some b) → wpList P ops Q rest (a.put o.dst undef) w') :
    wpList P ops Q (o :: rest) a w := by
  refine wpList_plain hg fun K' hK' => ?_
  obtain ⟨w', hrun, r1, r2⟩ := hown.update K ht hn hkey hval
  unfold Oper.wp
  simp [execOp, hop, hm, hx, hv, hrun, Result.andThen]
  exact hK' _ _ (hK w' r1 r2)
end Go.PH

/- A function's end whose first result of three lies in a box. -/
import Derived.Test.YtokfnonjmacpgaaDoorBox
set_option linter.all false
set_option linter.unusedSimpArgs false
set_option linter.unusedVariables false
namespace Go.PH
open Go.RowKit
theorem results_cell_tmp2x {fn : Func} {p u v : Tmp} {ty : TypeId} (h : fn.results = #[.cell p ty, .tmp u, .tmp v]) (tmps : Array Value) (P : Program) (w : World) :
    (results fn tmps).run P w =
      ((asAddr (tmps.getD p undef)).run P w).andThen fun a w₁ => ((loadVar ty a).run P w₁).andThen fun x w₂ => .ok (.tuple #[x, tmps.getD u undef, tmps.getD v undef]) w₂ := by
  simp only [results, h]
  simp [Sem.run_bind, Result.andThen]
theorem ret_box_tmp2x {P : Program} {fn : Func} {R : Ending → World → Prop} {a : Act} {w : World} {g : Nat} {t ty : TypeId} {cs : Array Value} {p u u2 : Tmp} {v v2 : Value} {d : TypeDesc} (hres : fn.results = #[.cell p ty, .tmp u, .tmp u2]) (hb : Box w g t cs)
    (hp : a.tmps.getD p undef = .pointer (some ⟨g, 0, none⟩)) (hv : a.tmps.getD u undef = v) (hv2 : a.tmps.getD u2 undef = v2) (hu : P.underlying ty = some d) (hd : (match d with | .struct _ | .array _ _ => true | _ => false) = true) (hi : (P.info? ty).map (·.size) = some cs.size)
    (hdf : a.defers = []) (hR : R (.returned (.tuple #[.agg cs, v, v2])) w) : bodyPost P fn R .ret a w := by
  refine bodyPost_ret (v := .tuple #[.agg cs, v, v2]) ?_ hdf hR
  rw [results_cell_tmp2x hres, hp, hv, hv2]
  simp [asAddr, run_loadVar_row w g t ty cs (0, 0) d hb hu hd hi, Result.andThen]
end Go.PH

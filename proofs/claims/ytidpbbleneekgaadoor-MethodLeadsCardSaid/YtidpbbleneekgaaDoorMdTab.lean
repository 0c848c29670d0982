/- The document's table as a row of memory; the walk of Table. -/
import Derived.Test.YtidpbbleneekgaaDoorMdMath
import Derived.Test.YtidpbbleneekgaaDoorRec
import Derived.Test.YtidpbbleneekgaaDoorBox
set_option linter.all false
set_option linter.unusedSimpArgs false
set_option linter.unusedVariables false
namespace Go.PH
open Go.RowKit Go.Proofs

def rrC (r : RRow) : List Value := [.int .u8 (r.cls : Int), .int .u8 (r.code : Int), .string (str r.name), .string (str r.kinds)]
def rrV (r : RRow) : Array Value := #[.int .u8 (r.cls : Int), .int .u8 (r.code : Int), .string (str r.name), .string (str r.kinds)]
def rr0 : RRow := ⟨0, 0, [], []⟩
theorem rrShape : RecShape rrC 4 where
  len _ := rfl
  one a u hu := by simp [rrC] at hu; rcases hu with rfl | rfl | rfl | rfl <;> rfl
  pos := by omega
def tabCells : Array Value := (rowC rrC refTab).toArray
theorem tab_cell {w : World} {g : Nat} {t : TypeId} (hb : Box w g t tabCells) {j : Nat} (hj : j < refTab.length) : ∀ i u, (rrC refTab[j])[i]? = some u → w.cell? ⟨g, j * 4 + i, none⟩ = some u := fun i u hu => by
  refine hb.cell ?_
  have hi : i < 4 := by have := (List.getElem?_eq_some_iff.1 hu).1; rwa [rrShape.len] at this
  have := rowC_get rrShape refTab j hj i hi
  rw [hu] at this
  simpa [tabCells] using this
theorem oper_of_run {P : Program} {o : Oper} {a : Act} {w w' : World} {K : Act → World → Prop} {Q : Exit → Act → World → Prop} {v : Value} (h : (execOp a.eval o).run P w = .ok (.value v) w') (hk : K (a.put o.dst v) w') : o.wp P a w K Q := by
  unfold Oper.wp
  simp only [h]
  exact hk
set_option maxRecDepth 100000 in
set_option maxHeartbeats 4000000 in
theorem table_any (w : World) : Calls Tryd.prog 29 #[] w fun e w' => e = .returned (.slice (some ⟨w.heap.size, 0, none⟩) 44 44) ∧ w' = w.alloc (.cells tabCells 36) := by
  have ht : Hid (tabCells = (rowC rrC refTab).toArray) := Lib.hid rfl
  go_enter Tryd.func29, Tryd.ntmps29
  go_wp2_with (first | (with_reducible refine hold_append ?_) | (with_reducible refine hold_make ?_) | (with_reducible refine hold_copy ?_))
  rename_i Q1 K1 h1 K0 h0
  refine oper_of_run (v := .slice (some ⟨w.heap.size, 0, none⟩) 44 44) (w' := w.alloc (.cells tabCells 36)) (by kernel_rfl) ?_
  refine h0 _ _ ?_
  clear h0 K0
  go_wp2_with (first | (with_reducible refine hold_append ?_) | (with_reducible refine hold_make ?_) | (with_reducible refine hold_copy ?_))
  go_ret
  exact ⟨rfl, rfl⟩
end Go.PH

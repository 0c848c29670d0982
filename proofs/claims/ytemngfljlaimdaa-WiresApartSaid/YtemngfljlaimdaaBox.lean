/- Boxes: blocks of known cells: what they hold behind stores, calls, new blocks. -/
import Derived.Test.YtemngfljlaimdaaMem4
import Derived.Laws.CopyRow
import Derived.Laws.CopyOwn
import Derived.Laws.Tables
import Derived.Laws.ResultCell
set_option linter.all false
set_option linter.unusedSimpArgs false
set_option linter.unusedVariables false
namespace Go.PH
open Go.RowKit
section
variable {P : Program} {w w' : World} {g : Nat} {t : TypeId} {cs : Array Value}
/-- block g holds these cells, none of them frozen -/
def Box (w : World) (g : Nat) (t : TypeId) (cs : Array Value) : Prop := w.heap[g]? = some (.cells cs t (0, 0))
theorem Box.new (w : World) (cs : Array Value) (t : TypeId) : Box (w.alloc (.cells cs t)) w.heap.size t cs := by
  show (w.heap.push _)[w.heap.size]? = _
  simp
theorem Box.lt (h : Box w g t cs) : g < w.heap.size := (Array.getElem?_eq_some_iff.1 h).1
theorem Box.grown (h : Box w g t cs) {row : Option Nat} (hg : w.grownBy w' row) (hne : some g ≠ row) : Box w' g t cs := (hg.block g h.lt hne).trans h
theorem Box.below (h : Box w g t cs) (hB : Below w.heap.size w w') : Box w' g t cs := (hB.block g h.lt).trans h
theorem Box.alloc (h : Box w g t cs) (o : Obj) : Box (w.alloc o) g t cs := (Below.heap_alloc w o g h.lt).trans h
theorem Box.cell (h : Box w g t cs) {j : Nat} {u : Value} (hj : cs[j]? = some u) : w.cell? ⟨g, j, none⟩ = some u := by
  unfold Box at h
  simp [World.cell?, h, hj]
theorem Box.thaw (h : Box w g t cs) (j : Nat) : w.frozen? ⟨g, j, none⟩ = false := by
  unfold Box at h
  simp [World.frozen?, h]
theorem grownRow (w : World) (g : Nat) (cs : Array Value) : w.grownBy (w.setRow g cs) (some g) :=
  ⟨rfl, rfl, rfl, by simp, fun k _ hk => setRow_other w g k cs (fun e => hk (by rw [e]))⟩
theorem run_boxstore {ty : TypeId} {v : Value} {j : Nat} {vs : List Value} {cs' : Array Value} (hb : Box w g t cs) (hv : v.cells.toList = vs) (hi : (P.info? ty).map (·.size) = some vs.length) (hj : j + vs.length ≤ cs.size)
    (h1 : ∀ u ∈ vs, u.oneCell' = true) (hc : cs' = (cs.toList.take j ++ vs ++ cs.toList.drop (j + vs.length)).toArray) :
    (Instr.storeAt ty (.pointer (some ⟨g, j, none⟩)) v).run P w = .ok () (w.setRow g cs') := by
  have := run_storeCells_at (P := P) g j t vs 0 cs w hb (by simpa using hj) h1
  cases hq : P.info? ty with
  | none => simp [hq] at hi
  | some i =>
    have hs : v.cells.size = i.size := by rw [hq] at hi; simp at hi; rw [hi, ← hv]; simp
    subst hc
    simp [Instr.storeAt, Instr.sureAddr, storeVar, sizeOf, typeInfo, hq, hs, hv, this]
theorem Box.row (hb : Box w g t cs) (cs' : Array Value) : Box (w.setRow g cs') g t cs' := setRow_heap w g cs cs' t _ hb
variable {ops : Array Oper} {Q : Exit → Act → World → Prop} {rest : List Oper} {a : Act} {dst : Option Tmp} {ty : TypeId} {pos : String} {after : Array Edge} {guard : Option (Nat × Bool)}
theorem hold_store {t : TypeId} {x y : Operand} (h : Hold (wpList P ops Q (⟨dst, .store t x y, ty, pos, after, guard⟩ :: rest) a w)) :
    wpList P ops Q (⟨dst, .store t x y, ty, pos, after, guard⟩ :: rest) a w := h
/-- a store into a box, as an operation -/
theorem op_box {o : Oper} {K : Act → World → Prop} {x y : Operand} {v : Value} {j : Nat} {vs : List Value} (ho : o.op = .store ty x y) (hx : a.eval x = .pointer (some ⟨g, j, none⟩)) (hy : a.eval y = v)
    (hb : Box w g t cs) (hv : v.cells.toList = vs) (hi : (P.info? ty).map (·.size) = some vs.length) (hj : j + vs.length ≤ cs.size) (h1 : ∀ u ∈ vs, u.oneCell' = true) (cs' : Array Value) (hc : cs' = (cs.toList.take j ++ vs ++ cs.toList.drop (j + vs.length)).toArray)
    (h : ∀ w', Box w' g t cs' → w.grownBy w' (some g) → w'.heap.size = w.heap.size → K (a.put o.dst undef) w') : o.wp P a w K Q := by
  unfold Oper.wp execOp
  simp only [ho, hx, hy, Sem.run_bind, Sem.run_pure, Result.andThen_ok, run_boxstore hb hv hi hj h1 hc]
  exact h _ (hb.row _) (grownRow _ _ _) (by simp)
theorem wp_box {o : Oper} {x y : Operand} {v : Value} {j : Nat} {vs : List Value} (hw : Region.wanted o (yielded ops a.tmps) = true) (ho : o.op = .store ty x y) (hx : a.eval x = .pointer (some ⟨g, j, none⟩)) (hy : a.eval y = v)
    (hb : Box w g t cs) (hv : v.cells.toList = vs) (hi : (P.info? ty).map (·.size) = some vs.length) (hj : j + vs.length ≤ cs.size) (h1 : ∀ u ∈ vs, u.oneCell' = true) (cs' : Array Value) (hc : cs' = (cs.toList.take j ++ vs ++ cs.toList.drop (j + vs.length)).toArray)
    (h : ∀ w', Box w' g t cs' → w.grownBy w' (some g) → w'.heap.size = w.heap.size → wpList P ops Q rest (a.put o.dst undef) w') : wpList P ops Q (o :: rest) a w :=
  BigFrame.wpList_want hw fun K hK => op_box ho hx hy hb hv hi hj h1 cs' hc fun w' h1 h2 h3 => hK _ _ (h w' h1 h2 h3)
/-- a function's end whose first result lies in a box -/
theorem ret_box_tmp {fn : Func} {R : Ending → World → Prop} {a : Act} {w : World} {g : Nat} {t ty : TypeId} {cs : Array Value} {p u : Tmp} {v : Value} {d : TypeDesc} (hres : fn.results = #[.cell p ty, .tmp u]) (hb : Box w g t cs)
    (hp : a.tmps.getD p undef = .pointer (some ⟨g, 0, none⟩)) (hv : a.tmps.getD u undef = v) (hu : P.underlying ty = some d) (hd : (match d with | .struct _ | .array _ _ => true | _ => false) = true) (hi : (P.info? ty).map (·.size) = some cs.size)
    (hdf : a.defers = []) (hR : R (.returned (.tuple #[.agg cs, v])) w) : bodyPost P fn R .ret a w := by
  refine bodyPost_ret (v := .tuple #[.agg cs, v]) ?_ hdf hR
  rw [results_cell_tmp hres, hp, hv]
  simp [asAddr, run_loadVar_row w g t ty cs (0, 0) d hb hu hd hi, Result.andThen]
end
end Go.PH

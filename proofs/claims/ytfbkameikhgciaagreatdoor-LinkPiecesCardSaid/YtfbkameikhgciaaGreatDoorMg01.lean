/- Texts laid together: Mem4, Box, Box2, Mem5, Box3, Mem6, Mem7, OctMath, FrMath, GaMath, OctBackMath, RawV. -/
import Derived.Laws.CopyRow
import Derived.Laws.CopyOwn
import Derived.Laws.Tables
import Derived.Laws.ResultCell
import Derived.Deep.AppendSrc
import Derived.Deep.Upon
import Derived.Test.YtfbkameikhgciaaGreatDoorProg
import Derived.Maps.OwnOps
import Derived.Test.YtfbkameikhgciaaGreatDoorMg00
set_option linter.all false
set_option linter.unusedSimpArgs false
set_option linter.unusedVariables false
set_option maxRecDepth 20000
set_option maxHeartbeats 8000000
section
namespace Go.PH
open Go.RowKit
section
variable {P : Program} {w w' : World} {base e size bytes t t2 n c m B : Nat} {A A' : Option Addr} {xs news : List Value} {z : Value}
theorem ku {e2 : TypeId} (h1 : P.underlying t = some (.slice e)) (h2 : P.underlying t2 = some (.slice e2)) (ty : TypeId) (u v : Value) (w : World) :
  (Builtin.append_ #[t, t2] ty #[u, v]).run P w = (Builtin.append_ #[t, t] ty #[u, v]).run P w := by
 cases u <;> simp [Builtin.append_, run_underlying h1, run_underlying h2]
theorem qz {ops : Array Oper} {o : Oper} {a : Act} {K : Act → World → Prop} {Q : Exit → Act → World → Prop} {s x : Operand} {e2 : TypeId} (hT : SlT P t e size bytes z) (h2 : P.underlying t2 = some (.slice e2))
  (ho : o.op = .call { callee := .builtin .append, args := #[s, x], argTypes := #[t, t2] }) (hs : a.eval s = .slice A n c) {c' : Nat} (hx : a.eval x = .slice A' m c')
  (hown : Own w base e size A n c xs) (hr : Rd w B size A' m c' news) (h1 : ∀ u ∈ news, u.oneCell' = true)
  (hsz : (n + m) * bytes ≤ 140737488355328) (h63 : n + m ≤ maxLen) (hbase : base ≤ w.heap.size)
  (h : ∀ A2 c2 w', Own w' base e size A2 (n + m) c2 (xs ++ news) → w.grownBy w' (blk A) → (blk A2 = blk A ∨ blk A2 = some w.heap.size) → K (a.put o.dst (.slice A2 (n + m) c2)) w') :
  o.wp P a w K Q := by
 obtain ⟨A2, c2, w', hrun, h2', h3, h4⟩ := Qu hT o.type hown hr h1 hsz h63 hbase
 unfold Oper.wp execOp
 simp only [ho, resolve, invoke, builtin, Sem.run_bind, Sem.run_pure, Result.andThen_ok, List.map_toArray, List.map_cons, List.map_nil, hs, hx, ku hT.u h2, hrun]
 exact h A2 c2 w' h2' h3 h4
end
end Go.PH
end
section
namespace Go.PH
open Go.RowKit
section
variable {P : Program} {w w' : World} {g : Nat} {t : TypeId} {cs : Array Value}
def Box (w : World) (g : Nat) (t : TypeId) (cs : Array Value) : Prop := w.heap[g]? = some (.cells cs t (0, 0))
theorem Box.new (w : World) (cs : Array Value) (t : TypeId) : Box (w.alloc (.cells cs t)) w.heap.size t cs := by
 show (w.heap.push _)[w.heap.size]? = _
 simp
theorem Box.lt (h : Box w g t cs) : g < w.heap.size := (Array.getElem?_eq_some_iff.1 h).1
theorem Box.grown (h : Box w g t cs) {row : Option Nat} (hg : w.grownBy w' row) (hne : some g ≠ row) : Box w' g t cs := (hg.block g h.lt hne).trans h
theorem Box.below (h : Box w g t cs) (hB : Below w.heap.size w w') : Box w' g t cs := (hB.block g h.lt).trans h
theorem Box.alloc (h : Box w g t cs) (o : Obj) : Box (w.alloc o) g t cs := (Below.heap_alloc w o g h.lt).trans h
theorem Box.cell (h : Box w g t cs) {j : Nat} {u : Value} (hj : cs[j]? = some u) : w.cell? ⟨g, j, none⟩ = some u := by
 unfold Box at h
 simp [World.cell?, h, hj]
theorem Box.thaw (h : Box w g t cs) (j : Nat) : w.frozen? ⟨g, j, none⟩ = false := by
 unfold Box at h
 simp [World.frozen?, h]
theorem JR (w : World) (g : Nat) (cs : Array Value) : w.grownBy (w.setRow g cs) (some g) :=
 ⟨rfl, rfl, rfl, by simp, fun k _ hk => setRow_other w g k cs (fun e => hk (by rw [e]))⟩
theorem ZI {ty : TypeId} {v : Value} {j : Nat} {vs : List Value} {cs' : Array Value} (hb : Box w g t cs) (hv : v.cells.toList = vs) (hi : (P.info? ty).map (·.size) = some vs.length) (hj : j + vs.length ≤ cs.size)
  (h1 : ∀ u ∈ vs, u.oneCell' = true) (hc : cs' = (cs.toList.take j ++ vs ++ cs.toList.drop (j + vs.length)).toArray) :
  (Instr.storeAt ty (.pointer (some ⟨g, j, none⟩)) v).run P w = .ok () (w.setRow g cs') := by
 have := run_storeCells_at (P := P) g j t vs 0 cs w hb (by simpa using hj) h1
 cases hq : P.info? ty with
 | none => simp [hq] at hi
 | some i =>
  have hs : v.cells.size = i.size := by rw [hq] at hi; simp at hi; rw [hi, ← hv]; simp
  subst hc
  simp [Instr.storeAt, Instr.sureAddr, storeVar, sizeOf, typeInfo, hq, hs, hv, this]
theorem Box.row (hb : Box w g t cs) (cs' : Array Value) : Box (w.setRow g cs') g t cs' := setRow_heap w g cs cs' t _ hb
variable {ops : Array Oper} {Q : Exit → Act → World → Prop} {rest : List Oper} {a : Act} {dst : Option Tmp} {ty : TypeId} {pos : String} {after : Array Edge} {guard : Option (Nat × Bool)}
theorem xd {t : TypeId} {x y : Operand} (h : Hold (wpList P ops Q (⟨dst, .store t x y, ty, pos, after, guard⟩ :: rest) a w)) :
  wpList P ops Q (⟨dst, .store t x y, ty, pos, after, guard⟩ :: rest) a w := h
theorem zM {o : Oper} {K : Act → World → Prop} {x y : Operand} {v : Value} {j : Nat} {vs : List Value} (ho : o.op = .store ty x y) (hx : a.eval x = .pointer (some ⟨g, j, none⟩)) (hy : a.eval y = v)
  (hb : Box w g t cs) (hv : v.cells.toList = vs) (hi : (P.info? ty).map (·.size) = some vs.length) (hj : j + vs.length ≤ cs.size) (h1 : ∀ u ∈ vs, u.oneCell' = true) (cs' : Array Value) (hc : cs' = (cs.toList.take j ++ vs ++ cs.toList.drop (j + vs.length)).toArray)
  (h : ∀ w', Box w' g t cs' → w.grownBy w' (some g) → w'.heap.size = w.heap.size → K (a.put o.dst undef) w') : o.wp P a w K Q := by
 unfold Oper.wp execOp
 simp only [ho, hx, hy, Sem.run_bind, Sem.run_pure, Result.andThen_ok, ZI hb hv hi hj h1 hc]
 exact h _ (hb.row _) (JR _ _ _) (by simp)
theorem zm {o : Oper} {x y : Operand} {v : Value} {j : Nat} {vs : List Value} (hw : Region.wanted o (yielded ops a.tmps) = true) (ho : o.op = .store ty x y) (hx : a.eval x = .pointer (some ⟨g, j, none⟩)) (hy : a.eval y = v)
  (hb : Box w g t cs) (hv : v.cells.toList = vs) (hi : (P.info? ty).map (·.size) = some vs.length) (hj : j + vs.length ≤ cs.size) (h1 : ∀ u ∈ vs, u.oneCell' = true) (cs' : Array Value) (hc : cs' = (cs.toList.take j ++ vs ++ cs.toList.drop (j + vs.length)).toArray)
  (h : ∀ w', Box w' g t cs' → w.grownBy w' (some g) → w'.heap.size = w.heap.size → wpList P ops Q rest (a.put o.dst undef) w') : wpList P ops Q (o :: rest) a w :=
 BigFrame.wpList_want hw fun K hK => zM ho hx hy hb hv hi hj h1 cs' hc fun w' h1 h2 h3 => hK _ _ (h w' h1 h2 h3)
theorem yU {fn : Func} {R : Ending → World → Prop} {a : Act} {w : World} {g : Nat} {t ty : TypeId} {cs : Array Value} {p u : Tmp} {v : Value} {d : TypeDesc} (hres : fn.results = #[.cell p ty, .tmp u]) (hb : Box w g t cs)
  (hp : a.tmps.getD p undef = .pointer (some ⟨g, 0, none⟩)) (hv : a.tmps.getD u undef = v) (hu : P.underlying ty = some d) (hd : (match d with | .struct _ | .array _ _ => true | _ => false) = true) (hi : (P.info? ty).map (·.size) = some cs.size)
  (hdf : a.defers = []) (hR : R (.returned (.tuple #[.agg cs, v])) w) : bodyPost P fn R .ret a w := by
 refine bodyPost_ret (v := .tuple #[.agg cs, v]) ?_ hdf hR
 rw [results_cell_tmp hres, hp, hv]
 simp [asAddr, run_loadVar_row w g t ty cs (0, 0) d hb hu hd hi, Result.andThen]
end
theorem sne {a b : Nat} (h : a ≠ b) : some a ≠ some b := fun e => h (by injection e)
theorem Box.c0 {w : World} {g : Nat} {t : TypeId} {cs : Array Value} {u : Value} (h : Box w g t cs) (hj : cs[0]? = some u := by rfl) : w.cell? ⟨g, 0, none⟩ = some u := h.cell hj
theorem Box.c1 {w : World} {g : Nat} {t : TypeId} {cs : Array Value} {u : Value} (h : Box w g t cs) (hj : cs[1]? = some u := by rfl) : w.cell? ⟨g, 1, none⟩ = some u := h.cell hj
theorem Box.c2 {w : World} {g : Nat} {t : TypeId} {cs : Array Value} {u : Value} (h : Box w g t cs) (hj : cs[2]? = some u := by rfl) : w.cell? ⟨g, 2, none⟩ = some u := h.cell hj
theorem Box.c3 {w : World} {g : Nat} {t : TypeId} {cs : Array Value} {u : Value} (h : Box w g t cs) (hj : cs[3]? = some u := by rfl) : w.cell? ⟨g, 3, none⟩ = some u := h.cell hj
theorem Box.c4 {w : World} {g : Nat} {t : TypeId} {cs : Array Value} {u : Value} (h : Box w g t cs) (hj : cs[4]? = some u := by rfl) : w.cell? ⟨g, 4, none⟩ = some u := h.cell hj
theorem Box.c5 {w : World} {g : Nat} {t : TypeId} {cs : Array Value} {u : Value} (h : Box w g t cs) (hj : cs[5]? = some u := by rfl) : w.cell? ⟨g, 5, none⟩ = some u := h.cell hj
theorem Box.c6 {w : World} {g : Nat} {t : TypeId} {cs : Array Value} {u : Value} (h : Box w g t cs) (hj : cs[6]? = some u := by rfl) : w.cell? ⟨g, 6, none⟩ = some u := h.cell hj
theorem Box.c7 {w : World} {g : Nat} {t : TypeId} {cs : Array Value} {u : Value} (h : Box w g t cs) (hj : cs[7]? = some u := by rfl) : w.cell? ⟨g, 7, none⟩ = some u := h.cell hj
theorem Box.c8 {w : World} {g : Nat} {t : TypeId} {cs : Array Value} {u : Value} (h : Box w g t cs) (hj : cs[8]? = some u := by rfl) : w.cell? ⟨g, 8, none⟩ = some u := h.cell hj
theorem Box.c9 {w : World} {g : Nat} {t : TypeId} {cs : Array Value} {u : Value} (h : Box w g t cs) (hj : cs[9]? = some u := by rfl) : w.cell? ⟨g, 9, none⟩ = some u := h.cell hj
theorem Box.c10 {w : World} {g : Nat} {t : TypeId} {cs : Array Value} {u : Value} (h : Box w g t cs) (hj : cs[10]? = some u := by rfl) : w.cell? ⟨g, 10, none⟩ = some u := h.cell hj
theorem Box.c11 {w : World} {g : Nat} {t : TypeId} {cs : Array Value} {u : Value} (h : Box w g t cs) (hj : cs[11]? = some u := by rfl) : w.cell? ⟨g, 11, none⟩ = some u := h.cell hj
end Go.PH
end
section
namespace Go.PH
open Go.RowKit
theorem jn {fn : Func} {p u v : Tmp} {ty : TypeId} (h : fn.results = #[.cell p ty, .tmp u, .tmp v]) (tmps : Array Value) (P : Program) (w : World) :
  (results fn tmps).run P w =
   ((asAddr (tmps.getD p undef)).run P w).andThen fun a w₁ => ((loadVar ty a).run P w₁).andThen fun x w₂ => .ok (.tuple #[x, tmps.getD u undef, tmps.getD v undef]) w₂ := by
 simp only [results, h]
 simp [Sem.run_bind, Result.andThen]
theorem zS {P : Program} {fn : Func} {R : Ending → World → Prop} {a : Act} {w : World} {g : Nat} {t ty : TypeId} {cs : Array Value} {p u u2 : Tmp} {v v2 : Value} {d : TypeDesc} (hres : fn.results = #[.cell p ty, .tmp u, .tmp u2]) (hb : Box w g t cs)
  (hp : a.tmps.getD p undef = .pointer (some ⟨g, 0, none⟩)) (hv : a.tmps.getD u undef = v) (hv2 : a.tmps.getD u2 undef = v2) (hu : P.underlying ty = some d) (hd : (match d with | .struct _ | .array _ _ => true | _ => false) = true) (hi : (P.info? ty).map (·.size) = some cs.size)
  (hdf : a.defers = []) (hR : R (.returned (.tuple #[.agg cs, v, v2])) w) : bodyPost P fn R .ret a w := by
 refine bodyPost_ret (v := .tuple #[.agg cs, v, v2]) ?_ hdf hR
 rw [jn hres, hp, hv, hv2]
 simp [asAddr, run_loadVar_row w g t ty cs (0, 0) d hb hu hd hi, Result.andThen]
end Go.PH
end
section
namespace Go.PH
open Go.RowKit
section
variable {P : Program} {w w' : World} {base e t n c : Nat} {A : Option Addr} {xs : List Value}
theorem Xt {o : Oper} {a : Act} {K : Act → World → Prop} {Q : Exit → Act → World → Prop} {s x : Operand} {u : TypeId} (hT : SlT P t e 1 1 (.int .u8 0)) (hu : P.underlying u = some .string)
  (ho : o.op = .call { callee := .builtin .append, args := #[s, x], argTypes := #[t, u] }) (hs : a.eval s = .slice A n c) {l : List UInt8} (hx : a.eval x = .string (str l))
  (hown : Own w base e 1 A n c xs) (hsz : n + l.length ≤ 140737488355328) (hbase : base ≤ w.heap.size)
  (h : ∀ A2 c2 w', Own w' base e 1 A2 (n + l.length) c2 (xs ++ l.map u8v) → w.grownBy w' (blk A) → K (a.put o.dst (.slice A2 (n + l.length) c2)) w') :
  o.wp P a w K Q := by
 obtain ⟨i, hi, hz, hs1, hby⟩ := hT.i
 obtain ⟨v', w', hrun, h2, h3, _⟩ := Lib.run_append_own_string (P := P) (w := w) base t u o.type e i hT.u hu hi hz hs1 hby _ n xs hown (str l) (by rw [zj]; simp only [maxLen]; omega) (by rw [zj]; omega) hbase
 rw [zj] at h2
 obtain ⟨A2, c2, rfl⟩ := qD h2
 rw [yC] at h3
 have e1 : Lib.strCells (str l) = l.map u8v := by
  unfold Lib.strCells
  simp [str, u8v]
 rw [e1] at h2
 unfold Oper.wp execOp
 simp only [ho, resolve, invoke, builtin, Sem.run_bind, Sem.run_pure, Result.andThen_ok, List.map_toArray, List.map_cons, List.map_nil, hs, hx, hrun]
 exact h A2 c2 w' h2 h3
theorem zg {w w' : World} {base e size n c : Nat} {A : Option Addr} {xs : List Value} (ho : Own w base e size A n c xs) (hB : Below w.heap.size w w') : Own w' base e size A n c xs :=
 ho.kept (row := none) ⟨hB.os, hB.tape, hB.output, hB.size, fun k hk _ => hB.block k hk⟩ (by cases hv : (Value.slice A n c).ownBlock <;> simp)
theorem zf {w w' : World} {base e size n c : Nat} {A : Option Addr} {xs : List Value} {row : Option Nat} (ho : Own w base e size A n c xs) (hg : w.grownBy w' row) (h : ∀ g, blk A = some g → row ≠ some g) : Own w' base e size A n c xs :=
 ho.kept hg (by
  rw [yC]
  cases hA : blk A with
  | none => exact .inl rfl
  | some g => exact .inr fun e => h g hA e.symm)
end
end Go.PH
end
section
namespace Go.PH
open Go.RowKit
section
variable {P : Program} {fn : Func} {p : Tmp} {ty : TypeId}
theorem vo (h : fn.results = #[.cell p ty]) (tmps : Array Value) (P : Program) (w : World) :
  (results fn tmps).run P w = ((asAddr (tmps.getD p undef)).run P w).andThen fun a w₁ => (loadVar ty a).run P w₁ := by
 simp only [results, h]
 simp [Sem.run_bind, Result.andThen]
theorem yP {R : Ending → World → Prop} {a : Act} {w : World} {g : Nat} {t : TypeId} {cs : Array Value} {d : TypeDesc} (hres : fn.results = #[.cell p ty]) (hb : Box w g t cs)
  (hp : a.tmps.getD p undef = .pointer (some ⟨g, 0, none⟩)) (hu : P.underlying ty = some d) (hd : (match d with | .struct _ | .array _ _ => true | _ => false) = true) (hi : (P.info? ty).map (·.size) = some cs.size)
  (hdf : a.defers = []) (hR : R (.returned (.agg cs)) w) : bodyPost P fn R .ret a w := by
 refine bodyPost_ret (v := .agg cs) ?_ hdf hR
 rw [vo hres, hp]
 simp [asAddr, run_loadVar_row w g t ty cs (0, 0) d hb hu hd hi, Result.andThen]
end
end Go.PH
end
section
namespace Go.PH
open Go.RowKit
section
variable {P : Program} {w w' : World} {base e t n c : Nat} {A : Option Addr} {xs : List Value}
theorem qs {ops : Array Oper} {rest : List Oper} {o : Oper} {a : Act} {Q : Exit → Act → World → Prop} {s x : Operand} {u : TypeId} (hT : SlT P t e 1 1 (.int .u8 0)) (hu : P.underlying u = some .string) (hw : Region.wanted o (yielded ops a.tmps) = true)
  (ho : o.op = .call { callee := .builtin .append, args := #[s, x], argTypes := #[t, u] }) (hs : a.eval s = .slice A n c) {l : List UInt8} (hx : a.eval x = .string (str l))
  (hown : Own w base e 1 A n c xs) (hsz : n + l.length ≤ 100000000000) (hbase : base ≤ w.heap.size)
  (h : ∀ A2 c2 w', Own w' base e 1 A2 (n + l.length) c2 (xs ++ l.map u8v) → w.grownBy w' (blk A) → (blk A2 = blk A ∨ ∀ g, blk A2 = some g → w.heap.size ≤ g) → wpList P ops Q rest (a.put o.dst (.slice A2 (n + l.length) c2)) w') :
  wpList P ops Q (o :: rest) a w := by
 have hown' := hown
 rcases hown.2 with ⟨hv, rfl⟩ | ⟨g, cap, cur, hv, hbg, hg, hnc, hcm, hcs, htake⟩
 ·have hx0 : xs = [] := List.eq_nil_of_length_eq_zero (by have := hown'.1; simpa using this)
  subst hx0
  injection hv with h1 h2 h3
  subst h1 h3
  refine qM hT hu hw ho hs hx (base := w.heap.size) (Own.none_ w w.heap.size e 1) (by omega) (Nat.le_refl _) fun A2 c2 w' h1 h2 => ?_
  exact h A2 c2 w' (h1.base_le hbase) h2 (.inr fun g hg => (h1.blk_lt hg).1)
 obtain ⟨i, hi, hz, hs1, hby⟩ := hT.i
 have hxl : xs.length = n := by simpa using hown.1
 have e1 : Lib.strCells (str l) = l.map u8v := by
  unfold Lib.strCells
  simp [str, u8v]
 injection hv with h1 h2 h3
 subst h1 h3
 rw [Nat.mul_one] at hcs htake
 refine BigFrame.wpList_want hw fun K hK => ?_
 by_cases hroom : n + l.length ≤ c
 ·have hrun := Lib.run_append_room_string (P := P) w t u o.type e i hT.u hu hi hs1 g n c cur hg (str l) (by rw [zj]; exact hroom) (by rw [zj]; omega)
  rw [e1, zj] at hrun
  unfold Oper.wp execOp
  simp only [ho, resolve, invoke, builtin, Sem.run_bind, Sem.run_pure, Result.andThen_ok, List.map_toArray, List.map_cons, List.map_nil, hs, hx, hrun]
  exact hK _ _ (h _ _ _ (kE hg hcs htake hxl l hroom hcm hbg) ⟨rfl, rfl, rfl, by simp, fun k _ hk => setRow_other w g k _ (fun e => hk (by simp [blk, e]))⟩ (.inl rfl))
 ·have holds : ∀ j u, xs[j]? = some u → w.cell? ((⟨g, 0, none⟩ : Addr).add j) = some u := World.ownsRow.cells hown' (g := g) rfl
  have hrun := Lib.run_append_grow_string (P := P) w t u o.type e i (.int .u8 0) hT.u hu hi hz ⟨g, 0, none⟩ n c xs (by rw [hs1]; simpa using hxl) holds (str l) (by rw [zj]; omega) (by rw [zj]; omega)
   (by rw [hby, zj]; exact growslice_fits_wide (by omega) (by omega))
  rw [e1, zj] at hrun
  unfold Oper.wp execOp
  simp only [ho, resolve, invoke, builtin, Sem.run_bind, Sem.run_pure, Result.andThen_ok, List.map_toArray, List.map_cons, List.map_nil, hs, hx, hrun]
  exact hK _ _ (h _ _ _ (qZ hxl l _ (grownCap_ge _ _ _ _) (grownCap_le_maxLen _ _ _ _ (by simp only [maxLen]; omega)) hbase) (World.grownBy.trans (b := w.drew) ⟨rfl, rfl, rfl, Nat.le_refl _, fun _ _ _ => rfl⟩ (World.grownBy_alloc w.drew _ _)) (.inr fun g' hg' => by injection hg' with hg'; exact Nat.le_of_eq hg'))
end
end Go.PH
end
section
namespace Go.PH
open Go.RowKit
section
variable {P : Program} {w w' : World} {B e t n : Nat} {A : Option Addr} {xs : List Value}
theorem QW {u : TypeId} (hu : P.underlying u = some .string) (l : List UInt8) : Src P 1 u (.string (str l)) l.length (l.map u8v) w := by
 have h := Src.ofString (P := P) w hu (str l)
 have e1 : byteCells (str l) = l.map u8v := by simp [byteCells, str, u8v]
 rw [e1, zj] at h
 exact h
theorem Yu {ops : Array Oper} {rest : List Oper} {o : Oper} {a : Act} {Q : Exit → Act → World → Prop} {s x : Operand} {u : TypeId} (hT : SlT P t e 1 1 (.int .u8 0)) (hu : P.underlying u = some .string) (hw : Region.wanted o (yielded ops a.tmps) = true)
  (ho : o.op = .call { callee := .builtin .append, args := #[s, x], argTypes := #[t, u] }) (hs : a.eval s = .slice A n n) {l : List UInt8} (hx : a.eval x = .string (str l))
  (hr : Rd w B 1 A n n xs) (hB : B ≤ w.heap.size) (hsz : n + l.length ≤ 100000000000)
  (h : ∀ A2 c2 w', Rd w' w'.heap.size 1 A2 (n + l.length) c2 (xs ++ l.map u8v) → Below w.heap.size w w' → (blk A2 = blk A ∨ ∀ g, blk A2 = some g → w.heap.size ≤ g ∧ g < w'.heap.size) → wpList P ops Q rest (a.put o.dst (.slice A2 (n + l.length) c2)) w') :
  wpList P ops Q (o :: rest) a w := by
 obtain ⟨i, hi, hz, hs1, hby⟩ := hT.i
 have hxl : xs.length = n := by simpa using hr.len
 refine BigFrame.wpList_want hw fun K hK => ?_
 by_cases h0 : l.length = 0
 ·obtain rfl : l = [] := List.eq_nil_of_length_eq_zero h0
  have hrun := run_append_nothing (P := P) w t u o.type e i hT.u hi A n n (Nat.le_refl _) (.string (str [])) (by rw [hs1]; exact QW hu [])
  unfold Oper.wp execOp
  simp only [ho, resolve, invoke, builtin, Sem.run_bind, Sem.run_pure, Result.andThen_ok, List.map_toArray, List.map_cons, List.map_nil, hs, hx, hrun]
  exact hK _ _ (h A n w (by simpa using hr.more hB) (Below.refl _ _) (.inl rfl))
 ·have hold : (Builtin.firstCells i.size n (.slice A n n)).run P w.drew = .ok xs.toArray w.drew := by
   by_cases hn : 0 < n
   ·obtain ⟨b, off, rfl, hb, hc⟩ := hr.at_ hn
    exact run_firstCells_some (P := P) w.drew i.size n ⟨b, off, none⟩ n n xs (by rw [hs1]; simpa using hxl) (fun j v hj => by have h5 := hc j v hj; rw [Addr.add_lit]; simpa using h5)
   ·obtain rfl : n = 0 := by omega
    have hx0 : xs = [] := List.eq_nil_of_length_eq_zero hxl
    subst hx0
    cases A with
    | none => exact run_firstCells_none w.drew i.size 0 0 0
    | some b => exact run_firstCells_some w.drew i.size 0 b 0 0 [] (by simp) (by intro j v hj; simp at hj)
  have hrun := run_append_grow_src (P := P) w t u o.type e i (.int .u8 0) hT.u hi hz A n n xs hold (.string (str l)) l.length (l.map u8v) (by rw [hs1]; exact QW hu l) (by omega) (by omega)
   (by rw [hby]; exact growslice_fits_wide (by omega) (by omega))
  unfold Oper.wp execOp
  simp only [ho, resolve, invoke, builtin, Sem.run_bind, Sem.run_pure, Result.andThen_ok, List.map_toArray, List.map_cons, List.map_nil, hs, hx, hrun]
  rw [show (xs ++ l.map u8v).toArray = xs.toArray ++ (l.map u8v).toArray by simp]
  have hO := qZ (w := w) (e := e) (base := w.heap.size) hxl l (grownCap w (n + l.length) n e) (grownCap_ge _ _ _ _) (grownCap_le_maxLen _ _ _ _ (by simp only [maxLen]; omega)) (Nat.le_refl _)
  exact hK _ _ (h _ _ _ hO.rd ((za (Below.refl w.heap.size w) 1).alloc (Nat.le_refl _) _) (.inr fun g hg => by injection hg with hg; exact ⟨Nat.le_of_eq hg, by rw [← hg]; simp [World.drewN]⟩))
theorem Yv {base c : Nat} {ops : Array Oper} {rest : List Oper} {o : Oper} {a : Act} {Q : Exit → Act → World → Prop} {s x : Operand} {u : TypeId} (hT : SlT P t e 1 1 (.int .u8 0)) (hu : P.underlying u = some .string) (hw : Region.wanted o (yielded ops a.tmps) = true)
  (ho : o.op = .call { callee := .builtin .append, args := #[s, x], argTypes := #[t, u] }) (hs : a.eval s = .slice A n c) {l : List UInt8} (hx : a.eval x = .string (str l))
  (hor : Own w base e 1 A n c xs ∨ c = n ∧ Rd w B 1 A n n xs) (hB : B ≤ w.heap.size) (hbase : base ≤ w.heap.size) (hsz : n + l.length ≤ 100000000000) (hA : ∀ g, blk A = some g → base ≤ g ∧ g < w.heap.size)
  (h : ∀ A2 c2 w', Rd w' w'.heap.size 1 A2 (n + l.length) c2 (xs ++ l.map u8v) → (Own w base e 1 A n c xs → Own w' base e 1 A2 (n + l.length) c2 (xs ++ l.map u8v)) → w.grownBy w' (blk A) → (blk A2 = blk A ∨ ∀ g, blk A2 = some g → w.heap.size ≤ g) → (∀ g, blk A2 = some g → base ≤ g ∧ g < w'.heap.size) → wpList P ops Q rest (a.put o.dst (.slice A2 (n + l.length) c2)) w') :
  wpList P ops Q (o :: rest) a w := by
 by_cases hO : Own w base e 1 A n c xs
 ·exact qs hT hu hw ho hs hx hO hsz hbase fun A2 c2 w' h1 h2 h3 => h A2 c2 w' h1.rd (fun _ => h1) h2 h3 fun g hg => h1.blk_lt hg
 ·obtain ⟨rfl, hr⟩ := hor.resolve_left hO
  refine Yu hT hu hw ho hs hx hr hB hsz fun A2 c2 w' h1 h2 h3 => h A2 c2 w' h1 (fun e => absurd e hO) ⟨h2.os, h2.tape, h2.output, h2.size, fun k hk _ => h2.block k hk⟩ (h3.imp id fun e g hg => (e g hg).1) fun g hg => ?_
  rcases h3 with e | e
  ·rw [e] at hg
   exact ⟨(hA g hg).1, Nat.lt_of_lt_of_le (hA g hg).2 h2.size⟩
  ·exact ⟨Nat.le_trans hbase (e g hg).1, (e g hg).2⟩
end
end Go.PH
end
section
namespace Go.PH
def be : Nat → Nat → List UInt8
 | 0, _ => []
 | i + 1, n => UInt8.ofNat (n / 256 ^ i) :: be i n
theorem zn (i n : Nat) : (be i n).length = i := by
 induction i with
 | zero => rfl
 | succ i ih => simp [be, ih]
def qf (w : Int) : Bool := w == 1 || w == 2 || w == 4 || w == 8
theorem kr (w : Int) : qf w = true ↔ (w = 1 ∨ w = 2 ∨ w = 4 ∨ w = 8) := by unfold qf; simp [or_assoc]
theorem xM {w : Int} (h : w = 1 ∨ w = 2 ∨ w = 4 ∨ w = 8) : qf w = true := (kr w).2 h
theorem YQ {w : Int} (h1 : w ≠ 1) (h2 : w ≠ 2) (h4 : w ≠ 4) (h8 : w ≠ 8) : qf w = false := by unfold qf; simp [h1, h2, h4, h8]
theorem vS {w : Int} (h : qf w = true) : 1 ≤ w ∧ w ≤ 8 := by rw [kr] at h; omega
def unbe (l : List UInt8) : Nat := l.foldl (fun n c => 256 * n + c.toNat) 0
theorem Qs (l : List UInt8) (c : UInt8) : unbe (l ++ [c]) = 256 * unbe l + c.toNat := by simp [unbe]
theorem kt (l : List UInt8) : unbe l < 256 ^ l.length := by
 have key : ∀ (l : List UInt8) (n k : Nat), n < 256 ^ k → l.foldl (fun n c => 256 * n + c.toNat) n < 256 ^ (k + l.length) := by
  intro l
  induction l with
  | nil => intro n k h; simpa using h
  | cons c l ih =>
   intro n k h
   simp only [List.foldl_cons, List.length_cons]
   have := ih (256 * n + c.toNat) (k + 1) (by have := c.toNat_lt; rw [Nat.pow_succ]; omega)
   rwa [Nat.add_right_comm, Nat.add_assoc] at this
 have := key l 0 0 (by simp)
 rwa [Nat.zero_add] at this
theorem Yl (i n : Nat) : ∀ acc : Nat, (be i n).foldl (fun n c => 256 * n + c.toNat) acc = acc * 256 ^ i + n % 256 ^ i := by
 induction i with
 | zero => intro acc; simp [be, Nat.mod_one]
 | succ i ih =>
  intro acc
  simp only [be, List.foldl_cons, ih, UInt8.toNat_ofNat']
  have h1 : n % 256 ^ (i + 1) = n % 256 ^ i + 256 ^ i * (n / 256 ^ i % 256) := by rw [Nat.pow_succ, Nat.mod_mul]
  have h2 : acc * 256 ^ (i + 1) = 256 * acc * 256 ^ i := by rw [Nat.pow_succ, Nat.mul_comm 256 acc, Nat.mul_assoc, Nat.mul_comm 256]
  have h3 : (256 * acc + n / 256 ^ i % 2 ^ 8) * 256 ^ i = 256 * acc * 256 ^ i + 256 ^ i * (n / 256 ^ i % 256) := by rw [Nat.add_mul, Nat.mul_comm (256 ^ i)]
  rw [h1, h2, h3]
  omega
theorem jE (i n : Nat) : unbe (be i n) = n % 256 ^ i := by unfold unbe; rw [Yl]; simp
def puts (b : List UInt8) (n : Nat) (w : Int) : List UInt8 := if qf w then b ++ be w.toNat n else b
theorem yy {b : List UInt8} {n : Nat} {w : Int} (h : qf w = true) : puts b n w = b ++ be w.toNat n := by unfold puts; rw [if_pos h]
theorem Vc {b : List UInt8} {n : Nat} {w : Int} (h : qf w = false) : puts b n w = b := by unfold puts; rw [if_neg (by simp [h])]
def zw (n : Nat) (w : Int) : Int := if w = 1 ∨ w = 2 ∨ w = 4 then (if n < 256 ^ w.toNat then 0 else 3) else 2
def zF (b s : List UInt8) (w : Int) : List UInt8 := if zw s.length w = 0 then b ++ be w.toNat s.length ++ s else []
theorem V8 (i n k : Nat) (h : k < i) : (List.replicate (i - k) 0 ++ be k n).set (i - 1 - k) (UInt8.ofNat (n / 256 ^ k)) = List.replicate (i - (k + 1)) 0 ++ be (k + 1) n := by
 have e : i - k = (i - 1 - k) + 1 := by omega
 rw [e, List.replicate_succ', List.append_assoc]
 have e2 : i - (k + 1) = i - 1 - k := by omega
 rw [e2, List.set_append_right _ _ (by simp)]
 simp [be]
def yT (l : List UInt8) (bad : Bool) (x : Int) : List UInt8 × List UInt8 × Bool := if bad = true ∨ x < 0 ∨ (l.length : Int) < x then ([], [], true) else (l.take x.toNat, l.drop x.toNat, false)
theorem jl {l : List UInt8} {bad : Bool} {x : Int} (h : bad = true ∨ x < 0 ∨ (l.length : Int) < x) : yT l bad x = ([], [], true) := by unfold yT; rw [if_pos h]
theorem xq {l : List UInt8} {n : Nat} (h : n ≤ l.length) : yT l false (n : Int) = (l.take n, l.drop n, false) := by unfold yT; rw [if_neg (by simp; omega)]; simp
def mnum (l : List UInt8) (bad : Bool) (x : Int) : Nat × List UInt8 × Bool := if qf x then (unbe (yT l bad x).1, (yT l bad x).2) else (0, [], true)
theorem Qt {l : List UInt8} {bad : Bool} {x : Int} (h : qf x = false) : mnum l bad x = (0, [], true) := by unfold mnum; rw [if_neg (by simp [h])]
theorem xV {l : List UInt8} {bad : Bool} {x : Int} (h : qf x = true) : mnum l bad x = (unbe (yT l bad x).1, (yT l bad x).2) := by unfold mnum; rw [if_pos h]
theorem j6 : unbe [] = 0 := rfl
theorem qo (l : List UInt8) (bad : Bool) (x : Int) : (mnum l bad x).1 < 18446744073709551616 := by
 unfold mnum yT
 split
 ·rename_i h
  have := vS h
  split
  ·simp [j6]
  ·simp only
   refine Nat.lt_of_lt_of_le (kt _) ?_
   refine Nat.le_trans (Nat.pow_le_pow_right (by omega) (show (l.take x.toNat).length ≤ 8 by rw [List.length_take]; omega)) (by decide)
 ·simp
def zR (l : List UInt8) (bad : Bool) (x most : Int) : List UInt8 × List UInt8 × Bool :=
 if x = 1 ∨ x = 2 ∨ x = 4 then
  let r := mnum l bad x
  if r.2.2 = true ∨ most < 0 ∨ most < (r.1 : Int) ∨ r.2.1.length < r.1 then ([], [], true) else yT r.2.1 r.2.2 (r.1 : Int)
 else ([], [], true)
theorem JP {l : List UInt8} {bad : Bool} {x most : Int} (h : ¬(x = 1 ∨ x = 2 ∨ x = 4)) : zR l bad x most = ([], [], true) := by unfold zR; rw [if_neg h]
theorem vT {l : List UInt8} {bad : Bool} {x most : Int} (h8 : x ≠ 8) : zR l bad x most = if (mnum l bad x).2.2 = true ∨ most < 0 ∨ most < ((mnum l bad x).1 : Int) ∨ (mnum l bad x).2.1.length < (mnum l bad x).1 then ([], [], true) else yT (mnum l bad x).2.1 (mnum l bad x).2.2 ((mnum l bad x).1 : Int) := by
 unfold zR
 by_cases h : x = 1 ∨ x = 2 ∨ x = 4
 ·rw [if_pos h]
 ·rw [if_neg h, Qt (YQ (by omega) (by omega) (by omega) h8), if_pos (.inl rfl)]
end Go.PH
end
section
namespace Go.PH
structure Fr where
 first : Bool
 last : Bool
 beg : Bool
 fin : Bool
 ty : Nat
 track : Nat
 chan : Nat
 load : List UInt8
deriving DecidableEq
def Fr.wf (f : Fr) : Prop := f.ty < 256 ∧ f.track < 256 ∧ f.chan < 65536
def bitv (b : Bool) (n : Nat) : Nat := if b then n else 0
def Fr.flags (f : Fr) : Nat := bitv f.first 8 + bitv f.last 4 + bitv f.beg 2 + bitv f.fin 1
def Fr.ok (f : Fr) : Bool := decide (f.ty ≤ 3) && decide (f.track ≤ 15) && decide (f.load.length ≤ 4084)
def Fr.err (f : Fr) : Nat := if f.ok then 0 else 60
def Fr.bytes (f : Fr) : List UInt8 := [UInt8.ofNat f.flags, UInt8.ofNat f.ty] ++ be 2 (12 + f.load.length) ++ [0, UInt8.ofNat f.track] ++ be 2 f.chan ++ [0, 0, 0, 0] ++ f.load
def Fr.put (f : Fr) : List UInt8 := if f.ok then f.bytes else []
theorem Fr.flags_lt (f : Fr) : f.flags < 16 := by
 unfold Fr.flags bitv
 cases f.first <;> cases f.last <;> cases f.beg <;> cases f.fin <;> decide
end Go.PH
end
section
namespace Go.PH
structure Sg where
 ty : Nat
 load : List UInt8
deriving DecidableEq
structure As where
 chan : Nat
 track : Nat
 segs : List Sg
deriving DecidableEq
def As.wf (a : As) : Prop := a.chan < 65536 ∧ a.track < 256 ∧ ∀ s ∈ a.segs, s.ty < 256
def yH : List Sg → Nat
 | [] => 0
 | s :: r => s.load.length + yH r
def yM (n : Nat) (prev : Option Nat) : List Sg → Bool
 | [] => true
 | s :: r => decide (s.ty ≤ 3) && (match prev with | none => true | some p => decide (p < s.ty)) && decide (n + s.load.length ≤ 16384) && yM (n + s.load.length) (some s.ty) r
def qY (a : As) : Bool := match a.segs with
 | [] => false
 | s :: r => decide (s.ty = a.track) && decide (a.track ≤ 1) && (decide (a.track ≠ 0) || r.isEmpty)
def asOk (a : As) : Bool := yM 0 none a.segs && qY a
def cutS (most : Nat) : Nat → Fr → List UInt8 → List Fr
 | 0, f, s => [⟨f.first, f.last, f.beg, true, f.ty, f.track, f.chan, s⟩]
 | k + 1, f, s => if s.length ≤ most then [⟨f.first, f.last, f.beg, true, f.ty, f.track, f.chan, s⟩] else
   ⟨f.first, f.last, f.beg, false, f.ty, f.track, f.chan, s.take most⟩ :: cutS most k ⟨f.first, f.last, false, false, f.ty, f.track, f.chan, []⟩ (s.drop most)
def cutL (most chan track n : Nat) : Nat → List Sg → List Fr
 | _, [] => []
 | i, s :: r => cutS most s.load.length ⟨decide (i = 0), decide (i + 1 = n), true, false, s.ty, track, chan, []⟩ s.load ++ cutL most chan track n (i + 1) r
def vn (most : Nat) (a : As) : List Fr := cutL most a.chan a.track a.segs.length 0 a.segs
def xL (most : Int) (a : As) : Nat := if most < 1 ∨ 4084 < most then 2 else if asOk a then 0 else 70
structure GS where
 dead : Bool
 op : Nat → Nat → List Fr
def GS.new : GS := ⟨false, fun _ _ => []⟩
def zE : List Fr → Nat
 | [] => 0
 | f :: r => f.load.length + zE r
def ki : List Sg → List UInt8 → List Sg
 | [], _ => []
 | [s], x => [⟨s.ty, s.load ++ x⟩]
 | s :: t :: r, x => s :: ki (t :: r) x
def qh (l : List Sg) (f : Fr) : List Sg := ki (if f.beg then l ++ [⟨f.ty, []⟩] else l) f.load
def yi (l : List Fr) : List Sg := l.foldl qh []
def fitsB (l : List Fr) (f : Fr) : Bool :=
 if 1 < f.track then false else match l.getLast? with
 | none => f.first && f.beg && decide (f.ty = f.track) && (f.last || decide (f.track = 1))
 | some x => if x.fin then f.beg && !f.first && decide (x.ty < f.ty) else !f.beg && decide (f.ty = x.ty) && (f.first == x.first) && (f.last == x.last)
def GS.err (g : GS) (f : Fr) : Nat := if g.dead then 9 else if !f.ok then 60 else if !fitsB (g.op f.chan f.track) f then 70 else if 16384 < zE (g.op f.chan f.track) + f.load.length then 3 else 0
def GS.upd (g : GS) (c t : Nat) (l : List Fr) : GS := ⟨g.dead, fun x y => if x = c ∧ y = t then l else g.op x y⟩
def GS.next (g : GS) (f : Fr) : GS := if g.err f ≠ 0 then ⟨true, fun _ _ => []⟩ else g.upd f.chan f.track (if f.fin && f.last then [] else g.op f.chan f.track ++ [f])
def GS.out (g : GS) (f : Fr) : Option As := if g.err f = 0 ∧ f.fin = true ∧ f.last = true then some ⟨f.chan, f.track, yi (g.op f.chan f.track ++ [f])⟩ else none
theorem kj (l : List Fr) (f : Fr) : yi (l ++ [f]) = qh (yi l) f := by simp [yi]
theorem jd (a b : List Fr) : zE (a ++ b) = zE a + zE b := by
 induction a with
 | nil => simp [zE]
 | cons f a ih => simp only [List.cons_append, zE, ih]; omega
theorem ZA (a b : List Sg) : yH (a ++ b) = yH a + yH b := by
 induction a with
 | nil => simp [yH]
 | cons f a ih => simp only [List.cons_append, yH, ih]; omega
theorem Xs (l : List Sg) (s : Sg) (x : List UInt8) : ki (l ++ [s]) x = l ++ [⟨s.ty, s.load ++ x⟩] := by
 induction l with
 | nil => rfl
 | cons a l ih =>
  cases l with
  | nil => rfl
  | cons b l => simp only [List.cons_append] at ih ⊢; rw [ki, ih]
theorem kk : ∀ (l : List Sg) (x : List UInt8), (ki l x).length = l.length
 | [], _ => rfl
 | [s], x => rfl
 | s :: t :: r, x => by simp only [ki, List.length_cons, kk (t :: r) x]
theorem je : ∀ (l : List Sg) (x : List UInt8), l ≠ [] → yH (ki l x) = yH l + x.length
 | [], _, h => absurd rfl h
 | [s], x, _ => by simp [ki, yH]
 | s :: t :: r, x, _ => by simp only [ki, yH]; have := je (t :: r) x (by simp); simp only [yH] at this; omega
theorem ZB (l : List Sg) (f : Fr) : yH (qh l f) ≤ yH l + f.load.length := by
 rw [qh]
 split
 ·rw [je _ _ (by simp), ZA]; simp [yH]
 ·cases l with
  | nil => simp [ki, yH]
  | cons a r => rw [je _ _ (by simp)]; omega
theorem vq (l : List Fr) : yH (yi l) ≤ zE l := by
 have : ∀ (l : List Fr) (s : List Sg), yH (l.foldl qh s) ≤ yH s + zE l := by
  intro l
  induction l with
  | nil => intro s; simp [zE]
  | cons f r ih =>
   intro s
   have := ih (qh s f)
   have h2 := ZB s f
   simp only [List.foldl_cons, zE] at this ⊢
   omega
 simpa [yi, yH] using this l []
structure Goes (l : List Fr) : Prop where
 first : ∀ f, l.head? = some f → f.beg = true
 len : zE l ≤ 16384
 few : ∀ y, l.getLast? = some y → y.ty ≤ 3 ∧ (yi l).length ≤ y.ty + 1
structure GS.Inv (g : GS) : Prop where
 goes : ∀ c t, Goes (g.op c t)
 deadE : g.dead = true → ∀ c t, g.op c t = []
 key : ∀ c t, g.op c t ≠ [] → c < 65536 ∧ t ≤ 1
theorem GS.inv_new : GS.new.Inv := ⟨fun _ _ => ⟨fun f h => (by cases h), by simp [GS.new, zE], fun f h => (by cases h)⟩, fun _ _ _ => rfl, fun _ _ h => absurd rfl h⟩
theorem ZC {l : List Fr} (h : Goes l) (hne : l ≠ []) : yi l ≠ [] := by
 cases l with
 | nil => exact absurd rfl hne
 | cons f r =>
  have hb := h.first f rfl
  have h1 : yi (f :: r) = r.foldl qh (qh [] f) := rfl
  have hl : ∀ (r : List Fr) (s : List Sg), s ≠ [] → r.foldl qh s ≠ [] := by
   intro r
   induction r with
   | nil => intro s h; exact h
   | cons g r ih =>
    intro s hs
    refine ih _ fun e => hs ?_
    have := congrArg List.length e
    rw [qh, kk] at this
    split at this
    ·simp at this
    ·simpa using this
  rw [h1]
  refine hl r _ ?_
  simp [qh, hb, ki]
theorem GS.err_cases (g : GS) (f : Fr) : g.err f = 9 ∧ g.dead = true ∨ g.dead = false ∧ (g.err f = 60 ∧ f.ok = false ∨ f.ok = true ∧ (g.err f = 70 ∧ fitsB (g.op f.chan f.track) f = false ∨ fitsB (g.op f.chan f.track) f = true ∧
  (g.err f = 3 ∧ 16384 < zE (g.op f.chan f.track) + f.load.length ∨ g.err f = 0 ∧ zE (g.op f.chan f.track) + f.load.length ≤ 16384))) := by
 unfold GS.err
 cases g.dead
 ·cases f.ok
  ·simp
  ·cases fitsB (g.op f.chan f.track) f
   ·simp
   ·by_cases h : 16384 < zE (g.op f.chan f.track) + f.load.length
    ·simp [h]
    ·simp [h]; omega
 ·simp
theorem jf {l : List Fr} {f : Fr} (h : fitsB l f = true) : f.track ≤ 1 := by
 unfold fitsB at h
 split at h
 ·cases h
 ·omega
theorem km {f : Fr} (h : fitsB [] f = true) : f.first = true ∧ f.beg = true ∧ f.ty = f.track := by
 unfold fitsB at h
 split at h
 ·cases h
 ·simp at h
  exact ⟨h.1.1.1, h.1.1.2, h.1.2⟩
theorem Goes.snoc {l : List Fr} {f : Fr} (h : Goes l) (hok : f.ok = true) (hf : fitsB l f = true) (hl : zE l + f.load.length ≤ 16384) : Goes (l ++ [f]) := by
 refine ⟨fun x hx => ?_, by rw [jd]; simpa [zE] using hl, fun y hy => ?_⟩
 ·cases l with
  | nil => simp at hx; subst hx; exact (km hf).2.1
  | cons a r => exact h.first x hx
 ·rw [List.getLast?_append] at hy
  simp at hy
  subst hy
  have hty : f.ty ≤ 3 := by simp [Fr.ok] at hok; omega
  refine ⟨hty, ?_⟩
  rw [kj, qh, kk]
  unfold fitsB at hf
  split at hf
  ·cases hf
  ·split at hf
   ·rename_i hn
    have : l = [] := by simpa using hn
    subst this
    simp at hf
    simp [yi, hf.1.1.2]
   ·rename_i x hx
    have hfew := h.few x hx
    split at hf
    ·simp at hf
     rw [if_pos hf.1.1]
     simp; omega
    ·simp at hf
     rw [if_neg (by simp [hf.1.1.1])]
     omega
theorem Goes.most {l : List Fr} (h : Goes l) : (yi l).length ≤ 4 := by
 rcases hl : l.getLast? with _ | y
 ·have : l = [] := by simpa using hl
  subst this
  simp [yi]
 ·have := h.few y hl; omega
theorem GS.Inv.next {g : GS} (h : g.Inv) {f : Fr} (hw : f.wf) : (g.next f).Inv := by
 have hnone : (⟨true, fun _ _ => []⟩ : GS).Inv := ⟨fun _ _ => ⟨fun f h => (by cases h), by simp [zE], fun f h => (by cases h)⟩, fun _ _ _ => rfl, fun _ _ h => absurd rfl h⟩
 unfold GS.next
 rcases g.err_cases f with ⟨e, hd⟩ | ⟨hd, ⟨e, _⟩ | ⟨hok, ⟨e, _⟩ | ⟨hfit, ⟨e, _⟩ | ⟨e, hl⟩⟩⟩⟩
 ·rw [if_pos (by omega)]; exact hnone
 ·rw [if_pos (by omega)]; exact hnone
 ·rw [if_pos (by omega)]; exact hnone
 ·rw [if_pos (by omega)]; exact hnone
 rw [if_neg (by omega)]
 refine ⟨fun c t => ?_, fun hdd => ?_, fun c t hne => ?_⟩
 ·unfold GS.upd
  simp only
  split
  ·split
   ·exact ⟨fun f h => (by cases h), by simp [zE], fun f h => (by cases h)⟩
   ·exact (h.goes _ _).snoc hok hfit hl
  ·exact h.goes c t
 ·have : g.dead = true := hdd
  rw [hd] at this; cases this
 ·unfold GS.upd at hne
  simp only at hne
  split at hne
  ·rename_i hk
   rw [hk.1, hk.2]
   exact ⟨hw.2.2, jf hfit⟩
  ·exact h.key c t hne
theorem Vb (most k : Nat) (f : Fr) (s : List UInt8) : cutS most k f s ≠ [] := by
 cases k with
 | zero => simp [cutS]
 | succ k => rw [cutS]; split <;> simp
theorem ZD (most : Nat) : ∀ (k : Nat) (f : Fr) (s : List UInt8), zE (cutS most k f s) = s.length
 | 0, f, s => by simp [cutS, zE]
 | k + 1, f, s => by
  rw [cutS]
  split
  ·simp [zE]
  ·rw [zE, ZD most k]
   simp; omega
theorem ZE {most : Nat} (h1 : 1 ≤ most) : ∀ (n k j : Nat) (f : Fr) (s : List UInt8), s.length ≤ n → s.length ≤ k → s.length ≤ j → cutS most k f s = cutS most j f s
 | n, 0, 0, f, s, _, _, _ => rfl
 | n, 0, j + 1, f, s, _, hk, _ => by rw [cutS, cutS, if_pos (by omega)]
 | n, k + 1, 0, f, s, _, _, hj => by rw [cutS, cutS, if_pos (by omega)]
 | n, k + 1, j + 1, f, s, hn, hk, hj => by
  rw [cutS, cutS]
  split
  ·rfl
  ·rename_i hm
   cases n with
   | zero => omega
   | succ n => rw [ZE h1 n k j _ (s.drop most) (by simp; omega) (by simp; omega) (by simp; omega)]
def cutN (most : Nat) (f : Fr) (s : List UInt8) : List Fr := cutS most s.length f s
theorem vP {most : Nat} {f : Fr} {s : List UInt8} (h : s.length ≤ most) : cutN most f s = [⟨f.first, f.last, f.beg, true, f.ty, f.track, f.chan, s⟩] := by
 unfold cutN
 cases s with
 | nil => rfl
 | cons x s => rw [List.length_cons, cutS, if_pos h]
theorem ZF {most : Nat} (h1 : 1 ≤ most) {f : Fr} {s : List UInt8} (h : most < s.length) : cutN most f s = ⟨f.first, f.last, f.beg, false, f.ty, f.track, f.chan, s.take most⟩ :: cutN most ⟨f.first, f.last, false, false, f.ty, f.track, f.chan, []⟩ (s.drop most) := by
 unfold cutN
 cases s with
 | nil => simp at h
 | cons x s =>
  rw [List.length_cons, cutS, if_neg (by simpa using h), ZE h1 s.length s.length _ _ _ (by simp; omega) (by simp; omega) (Nat.le_refl _)]
theorem YP (most : Nat) (h1 : 1 ≤ most) : ∀ (n : Nat) (f : Fr) (s : List UInt8), s.length ≤ n → (cutN most f s).length ≤ s.length + 1
 | 0, f, s, h => by rw [vP (by omega)]; simp
 | n + 1, f, s, h => by
  by_cases hm : s.length ≤ most
  ·rw [vP hm]; simp
  ·rw [ZF h1 (by omega)]
   have := YP most h1 n ⟨f.first, f.last, false, false, f.ty, f.track, f.chan, []⟩ (s.drop most) (by simp; omega)
   simp at this ⊢; omega
theorem ZG (most chan track n i : Nat) (s : Sg) (r : List Sg) : cutL most chan track n i (s :: r) = cutN most ⟨decide (i = 0), decide (i + 1 = n), true, false, s.ty, track, chan, []⟩ s.load ++ cutL most chan track n (i + 1) r := rfl
theorem vQ (most chan track n : Nat) (h1 : 1 ≤ most) : ∀ (l : List Sg) (i : Nat), (cutL most chan track n i l).length ≤ yH l + l.length
 | [], _ => by simp [cutL]
 | s :: r, i => by
  have a := YP most h1 s.load.length ⟨decide (i = 0), decide (i + 1 = n), true, false, s.ty, track, chan, []⟩ s.load (Nat.le_refl _)
  have b := vQ most chan track n h1 r (i + 1)
  rw [ZG]
  simp only [List.length_append, yH, List.length_cons]
  omega
theorem vr : ∀ (l : List Sg) (m : Nat) (prev : Option Nat), yM m prev l = true → l.length + (match prev with | none => 0 | some p => min (p + 1) 4) ≤ 4
 | [], m, prev, h => by cases prev <;> simp <;> omega
 | s :: r, m, prev, h => by
  simp only [yM, Bool.and_eq_true, decide_eq_true_eq] at h
  obtain ⟨⟨⟨h1, h2⟩, h3⟩, h4⟩ := h
  have := vr r _ _ h4
  simp only at this
  cases prev with
  | none => simp; omega
  | some p => simp at h2 ⊢; omega
theorem vt : ∀ (l : List Sg) (m : Nat) (prev : Option Nat), yM m prev l = true → l ≠ [] → m + yH l ≤ 16384
 | [], m, prev, h, hne => absurd rfl hne
 | s :: r, m, prev, h, _ => by
  simp only [yM, Bool.and_eq_true, decide_eq_true_eq] at h
  obtain ⟨⟨⟨h1, h2⟩, h3⟩, h4⟩ := h
  cases r with
  | nil => simp [yH]; omega
  | cons t r =>
   have := vt (t :: r) _ _ h4 (by simp)
   rw [yH]; omega
theorem vR {a : As} (h : asOk a = true) : a.segs.length ≤ 4 ∧ yH a.segs ≤ 16384 ∧ a.segs ≠ [] := by
 unfold asOk at h
 rw [Bool.and_eq_true] at h
 have hne : a.segs ≠ [] := fun e => by have := h.2; simp [qY, e] at this
 have h1 := vr _ _ _ h.1
 have h2 := vt _ _ _ h.1 hne
 simp at h1 h2
 exact ⟨h1, h2, hne⟩
theorem ZH {most : Nat} (h1 : 1 ≤ most) {a : As} (h : asOk a = true) : (vn most a).length ≤ 16388 := by
 have := vQ most a.chan a.track a.segs.length h1 a.segs 0
 obtain ⟨h2, h3, _⟩ := vR h
 unfold vn; omega
theorem kq {l : List Sg} {s : Sg} (h : s ∈ l) : s.load.length ≤ yH l := by
 induction l with
 | nil => cases h
 | cons a r ih =>
  rcases List.mem_cons.1 h with rfl | h
  ·simp [yH]
  ·have := ih h; simp [yH]; omega
end Go.PH
end
section
namespace Go.PH
theorem kV (a b : List UInt8) : yT (a ++ b) false (a.length : Int) = (a, b, false) := by
 rw [xq (by simp)]
 simp
theorem jB (w : Nat) (hw : qf (w : Int) = true) (n : Nat) (rest : List UInt8) : mnum (be w n ++ rest) false (w : Int) = (n % 256 ^ w, rest, false) := by
 have h := kV (be w n) rest
 rw [zn] at h
 rw [xV hw, h, jE]
end Go.PH
end
section
namespace Go.PH
open Go.RowKit Go.Proofs
def rawV : Value → Option (DataW Value × List MemPlace) := fun v => some (.held v, [])
end Go.PH
end

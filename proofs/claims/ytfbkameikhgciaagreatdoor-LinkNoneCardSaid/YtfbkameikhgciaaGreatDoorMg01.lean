/- Texts laid together: Mem4, Box, Box2, Mem5, Box3, Mem6, OctMath, FrMath, GaMath, Rec, Keep, RecOf. -/
import Derived.Laws.CopyRow
import Derived.Laws.CopyOwn
import Derived.Laws.Tables
import Derived.Laws.ResultCell
import Derived.Maps.OwnOps
import Derived.Maps.OwnSet
import Derived.Maps.Views
import Derived.Test.YtfbkameikhgciaaGreatDoorMg00
set_option linter.all false
set_option linter.unusedSimpArgs false
set_option linter.unusedVariables false
section
/- More words for memory: append of a slice of another named type; append and cuts as one operation of a drawn region. -/
namespace Go.PH
open Go.RowKit
section
variable {P : Program} {w w' : World} {base e size bytes t t2 n c m B : Nat} {A A' : Option Addr} {xs news : List Value} {z : Value}
theorem run_append_type {e2 : TypeId} (h1 : P.underlying t = some (.slice e)) (h2 : P.underlying t2 = some (.slice e2)) (ty : TypeId) (u v : Value) (w : World) :
  (Builtin.append_ #[t, t2] ty #[u, v]).run P w = (Builtin.append_ #[t, t] ty #[u, v]).run P w := by
 cases u <;> simp [Builtin.append_, run_underlying h1, run_underlying h2]
theorem op_app {ops : Array Oper} {o : Oper} {a : Act} {K : Act → World → Prop} {Q : Exit → Act → World → Prop} {s x : Operand} {e2 : TypeId} (hT : SlT P t e size bytes z) (h2 : P.underlying t2 = some (.slice e2))
  (ho : o.op = .call { callee := .builtin .append, args := #[s, x], argTypes := #[t, t2] }) (hs : a.eval s = .slice A n c) {c' : Nat} (hx : a.eval x = .slice A' m c')
  (hown : Own w base e size A n c xs) (hr : Rd w B size A' m c' news) (h1 : ∀ u ∈ news, u.oneCell' = true)
  (hsz : (n + m) * bytes ≤ 140737488355328) (h63 : n + m ≤ maxLen) (hbase : base ≤ w.heap.size)
  (h : ∀ A2 c2 w', Own w' base e size A2 (n + m) c2 (xs ++ news) → w.grownBy w' (blk A) → (blk A2 = blk A ∨ blk A2 = some w.heap.size) → K (a.put o.dst (.slice A2 (n + m) c2)) w') :
  o.wp P a w K Q := by
 obtain ⟨A2, c2, w', hrun, h2', h3, h4⟩ := run_app hT o.type hown hr h1 hsz h63 hbase
 unfold Oper.wp execOp
 simp only [ho, resolve, invoke, builtin, Sem.run_bind, Sem.run_pure, Result.andThen_ok, List.map_toArray, List.map_cons, List.map_nil, hs, hx, run_append_type hT.u h2, hrun]
 exact h A2 c2 w' h2' h3 h4
end
end Go.PH
end
section
/- Boxes: blocks of known cells: what they hold behind stores, calls, new blocks. -/
namespace Go.PH
open Go.RowKit
section
variable {P : Program} {w w' : World} {g : Nat} {t : TypeId} {cs : Array Value}
/-- block g holds these cells, none of them frozen -/
def Box (w : World) (g : Nat) (t : TypeId) (cs : Array Value) : Prop := w.heap[g]? = some (.cells cs t (0, 0))
theorem Box.new (w : World) (cs : Array Value) (t : TypeId) : Box (w.alloc (.cells cs t)) w.heap.size t cs := by
 show (w.heap.push _)[w.heap.size]? = _
 simp
theorem Box.lt (h : Box w g t cs) : g < w.heap.size := (Array.getElem?_eq_some_iff.1 h).1
theorem Box.grown (h : Box w g t cs) {row : Option Nat} (hg : w.grownBy w' row) (hne : some g ≠ row) : Box w' g t cs := (hg.block g h.lt hne).trans h
theorem Box.below (h : Box w g t cs) (hB : Below w.heap.size w w') : Box w' g t cs := (hB.block g h.lt).trans h
theorem Box.alloc (h : Box w g t cs) (o : Obj) : Box (w.alloc o) g t cs := (Below.heap_alloc w o g h.lt).trans h
theorem Box.cell (h : Box w g t cs) {j : Nat} {u : Value} (hj : cs[j]? = some u) : w.cell? ⟨g, j, none⟩ = some u := by
 unfold Box at h
 simp [World.cell?, h, hj]
theorem Box.thaw (h : Box w g t cs) (j : Nat) : w.frozen? ⟨g, j, none⟩ = false := by
 unfold Box at h
 simp [World.frozen?, h]
theorem grownRow (w : World) (g : Nat) (cs : Array Value) : w.grownBy (w.setRow g cs) (some g) :=
 ⟨rfl, rfl, rfl, by simp, fun k _ hk => setRow_other w g k cs (fun e => hk (by rw [e]))⟩
theorem run_boxstore {ty : TypeId} {v : Value} {j : Nat} {vs : List Value} {cs' : Array Value} (hb : Box w g t cs) (hv : v.cells.toList = vs) (hi : (P.info? ty).map (·.size) = some vs.length) (hj : j + vs.length ≤ cs.size)
  (h1 : ∀ u ∈ vs, u.oneCell' = true) (hc : cs' = (cs.toList.take j ++ vs ++ cs.toList.drop (j + vs.length)).toArray) :
  (Instr.storeAt ty (.pointer (some ⟨g, j, none⟩)) v).run P w = .ok () (w.setRow g cs') := by
 have := run_storeCells_at (P := P) g j t vs 0 cs w hb (by simpa using hj) h1
 cases hq : P.info? ty with
 | none => simp [hq] at hi
 | some i =>
  have hs : v.cells.size = i.size := by rw [hq] at hi; simp at hi; rw [hi, ← hv]; simp
  subst hc
  simp [Instr.storeAt, Instr.sureAddr, storeVar, sizeOf, typeInfo, hq, hs, hv, this]
theorem Box.row (hb : Box w g t cs) (cs' : Array Value) : Box (w.setRow g cs') g t cs' := setRow_heap w g cs cs' t _ hb
variable {ops : Array Oper} {Q : Exit → Act → World → Prop} {rest : List Oper} {a : Act} {dst : Option Tmp} {ty : TypeId} {pos : String} {after : Array Edge} {guard : Option (Nat × Bool)}
theorem hold_store {t : TypeId} {x y : Operand} (h : Hold (wpList P ops Q (⟨dst, .store t x y, ty, pos, after, guard⟩ :: rest) a w)) :
  wpList P ops Q (⟨dst, .store t x y, ty, pos, after, guard⟩ :: rest) a w := h
/-- a store into a box, as an operation -/
theorem op_box {o : Oper} {K : Act → World → Prop} {x y : Operand} {v : Value} {j : Nat} {vs : List Value} (ho : o.op = .store ty x y) (hx : a.eval x = .pointer (some ⟨g, j, none⟩)) (hy : a.eval y = v)
  (hb : Box w g t cs) (hv : v.cells.toList = vs) (hi : (P.info? ty).map (·.size) = some vs.length) (hj : j + vs.length ≤ cs.size) (h1 : ∀ u ∈ vs, u.oneCell' = true) (cs' : Array Value) (hc : cs' = (cs.toList.take j ++ vs ++ cs.toList.drop (j + vs.length)).toArray)
  (h : ∀ w', Box w' g t cs' → w.grownBy w' (some g) → w'.heap.size = w.heap.size → K (a.put o.dst undef) w') : o.wp P a w K Q := by
 unfold Oper.wp execOp
 simp only [ho, hx, hy, Sem.run_bind, Sem.run_pure, Result.andThen_ok, run_boxstore hb hv hi hj h1 hc]
 exact h _ (hb.row _) (grownRow _ _ _) (by simp)
theorem wp_box {o : Oper} {x y : Operand} {v : Value} {j : Nat} {vs : List Value} (hw : Region.wanted o (yielded ops a.tmps) = true) (ho : o.op = .store ty x y) (hx : a.eval x = .pointer (some ⟨g, j, none⟩)) (hy : a.eval y = v)
  (hb : Box w g t cs) (hv : v.cells.toList = vs) (hi : (P.info? ty).map (·.size) = some vs.length) (hj : j + vs.length ≤ cs.size) (h1 : ∀ u ∈ vs, u.oneCell' = true) (cs' : Array Value) (hc : cs' = (cs.toList.take j ++ vs ++ cs.toList.drop (j + vs.length)).toArray)
  (h : ∀ w', Box w' g t cs' → w.grownBy w' (some g) → w'.heap.size = w.heap.size → wpList P ops Q rest (a.put o.dst undef) w') : wpList P ops Q (o :: rest) a w :=
 BigFrame.wpList_want hw fun K hK => op_box ho hx hy hb hv hi hj h1 cs' hc fun w' h1 h2 h3 => hK _ _ (h w' h1 h2 h3)
end
theorem sne {a b : Nat} (h : a ≠ b) : some a ≠ some b := fun e => h (by injection e)
theorem Box.c0 {w : World} {g : Nat} {t : TypeId} {cs : Array Value} {u : Value} (h : Box w g t cs) (hj : cs[0]? = some u := by rfl) : w.cell? ⟨g, 0, none⟩ = some u := h.cell hj
theorem Box.c1 {w : World} {g : Nat} {t : TypeId} {cs : Array Value} {u : Value} (h : Box w g t cs) (hj : cs[1]? = some u := by rfl) : w.cell? ⟨g, 1, none⟩ = some u := h.cell hj
theorem Box.c2 {w : World} {g : Nat} {t : TypeId} {cs : Array Value} {u : Value} (h : Box w g t cs) (hj : cs[2]? = some u := by rfl) : w.cell? ⟨g, 2, none⟩ = some u := h.cell hj
theorem Box.c3 {w : World} {g : Nat} {t : TypeId} {cs : Array Value} {u : Value} (h : Box w g t cs) (hj : cs[3]? = some u := by rfl) : w.cell? ⟨g, 3, none⟩ = some u := h.cell hj
theorem Box.c4 {w : World} {g : Nat} {t : TypeId} {cs : Array Value} {u : Value} (h : Box w g t cs) (hj : cs[4]? = some u := by rfl) : w.cell? ⟨g, 4, none⟩ = some u := h.cell hj
theorem Box.c5 {w : World} {g : Nat} {t : TypeId} {cs : Array Value} {u : Value} (h : Box w g t cs) (hj : cs[5]? = some u := by rfl) : w.cell? ⟨g, 5, none⟩ = some u := h.cell hj
theorem Box.c6 {w : World} {g : Nat} {t : TypeId} {cs : Array Value} {u : Value} (h : Box w g t cs) (hj : cs[6]? = some u := by rfl) : w.cell? ⟨g, 6, none⟩ = some u := h.cell hj
theorem Box.c7 {w : World} {g : Nat} {t : TypeId} {cs : Array Value} {u : Value} (h : Box w g t cs) (hj : cs[7]? = some u := by rfl) : w.cell? ⟨g, 7, none⟩ = some u := h.cell hj
theorem Box.c8 {w : World} {g : Nat} {t : TypeId} {cs : Array Value} {u : Value} (h : Box w g t cs) (hj : cs[8]? = some u := by rfl) : w.cell? ⟨g, 8, none⟩ = some u := h.cell hj
theorem Box.c9 {w : World} {g : Nat} {t : TypeId} {cs : Array Value} {u : Value} (h : Box w g t cs) (hj : cs[9]? = some u := by rfl) : w.cell? ⟨g, 9, none⟩ = some u := h.cell hj
theorem Box.c10 {w : World} {g : Nat} {t : TypeId} {cs : Array Value} {u : Value} (h : Box w g t cs) (hj : cs[10]? = some u := by rfl) : w.cell? ⟨g, 10, none⟩ = some u := h.cell hj
theorem Box.c11 {w : World} {g : Nat} {t : TypeId} {cs : Array Value} {u : Value} (h : Box w g t cs) (hj : cs[11]? = some u := by rfl) : w.cell? ⟨g, 11, none⟩ = some u := h.cell hj
end Go.PH
end
section
/- A function's end whose first result of three lies in a box. -/
namespace Go.PH
open Go.RowKit
end Go.PH
end
section
/- More words for memory: append of a text as one operation of a drawn region. -/
namespace Go.PH
open Go.RowKit
section
variable {P : Program} {w w' : World} {base e t n c : Nat} {A : Option Addr} {xs : List Value}
theorem op_app_str {o : Oper} {a : Act} {K : Act → World → Prop} {Q : Exit → Act → World → Prop} {s x : Operand} {u : TypeId} (hT : SlT P t e 1 1 (.int .u8 0)) (hu : P.underlying u = some .string)
  (ho : o.op = .call { callee := .builtin .append, args := #[s, x], argTypes := #[t, u] }) (hs : a.eval s = .slice A n c) {l : List UInt8} (hx : a.eval x = .string (str l))
  (hown : Own w base e 1 A n c xs) (hsz : n + l.length ≤ 140737488355328) (hbase : base ≤ w.heap.size)
  (h : ∀ A2 c2 w', Own w' base e 1 A2 (n + l.length) c2 (xs ++ l.map u8v) → w.grownBy w' (blk A) → K (a.put o.dst (.slice A2 (n + l.length) c2)) w') :
  o.wp P a w K Q := by
 obtain ⟨i, hi, hz, hs1, hby⟩ := hT.i
 obtain ⟨v', w', hrun, h2, h3, _⟩ := Lib.run_append_own_string (P := P) (w := w) base t u o.type e i hT.u hu hi hz hs1 hby _ n xs hown (str l) (by rw [str_size]; simp only [maxLen]; omega) (by rw [str_size]; omega) hbase
 rw [str_size] at h2
 obtain ⟨A2, c2, rfl⟩ := slice_of_own h2
 rw [ownBlock_eq] at h3
 have e1 : Lib.strCells (str l) = l.map u8v := by
  unfold Lib.strCells
  simp [str, u8v]
 rw [e1] at h2
 unfold Oper.wp execOp
 simp only [ho, resolve, invoke, builtin, Sem.run_bind, Sem.run_pure, Result.andThen_ok, List.map_toArray, List.map_cons, List.map_nil, hs, hx, hrun]
 exact h A2 c2 w' h2 h3
/-- what a walk between two worlds leaves of own rows -/
theorem own_below {w w' : World} {base e size n c : Nat} {A : Option Addr} {xs : List Value} (ho : Own w base e size A n c xs) (hB : Below w.heap.size w w') : Own w' base e size A n c xs :=
 ho.kept (row := none) ⟨hB.os, hB.tape, hB.output, hB.size, fun k hk _ => hB.block k hk⟩ (by cases hv : (Value.slice A n c).ownBlock <;> simp)
theorem own_stays {w w' : World} {base e size n c : Nat} {A : Option Addr} {xs : List Value} {row : Option Nat} (ho : Own w base e size A n c xs) (hg : w.grownBy w' row) (h : ∀ g, blk A = some g → row ≠ some g) : Own w' base e size A n c xs :=
 ho.kept hg (by
  rw [ownBlock_eq]
  cases hA : blk A with
  | none => exact .inl rfl
  | some g => exact .inr fun e => h g hA e.symm)
end
end Go.PH
end
section
/- Boxes, once more: results that lie in one; rows that stay behind a store into one. -/
namespace Go.PH
open Go.RowKit
section
variable {P : Program} {fn : Func} {p : Tmp} {ty : TypeId}
theorem results_cell1v (h : fn.results = #[.cell p ty]) (tmps : Array Value) (P : Program) (w : World) :
  (results fn tmps).run P w = ((asAddr (tmps.getD p undef)).run P w).andThen fun a w₁ => (loadVar ty a).run P w₁ := by
 simp only [results, h]
 simp [Sem.run_bind, Result.andThen]
theorem ret_box1v {R : Ending → World → Prop} {a : Act} {w : World} {g : Nat} {t : TypeId} {cs : Array Value} {d : TypeDesc} (hres : fn.results = #[.cell p ty]) (hb : Box w g t cs)
  (hp : a.tmps.getD p undef = .pointer (some ⟨g, 0, none⟩)) (hu : P.underlying ty = some d) (hd : (match d with | .struct _ | .array _ _ => true | _ => false) = true) (hi : (P.info? ty).map (·.size) = some cs.size)
  (hdf : a.defers = []) (hR : R (.returned (.agg cs)) w) : bodyPost P fn R .ret a w := by
 refine bodyPost_ret (v := .agg cs) ?_ hdf hR
 rw [results_cell1v hres, hp]
 simp [asAddr, run_loadVar_row w g t ty cs (0, 0) d hb hu hd hi, Result.andThen]
end
end Go.PH
end
section
/- append of a text to an own row: where the row lies behind it. -/
namespace Go.PH
open Go.RowKit
section
variable {P : Program} {w w' : World} {base e t n c : Nat} {A : Option Addr} {xs : List Value}
theorem wp_app_strF {ops : Array Oper} {rest : List Oper} {o : Oper} {a : Act} {Q : Exit → Act → World → Prop} {s x : Operand} {u : TypeId} (hT : SlT P t e 1 1 (.int .u8 0)) (hu : P.underlying u = some .string) (hw : Region.wanted o (yielded ops a.tmps) = true)
  (ho : o.op = .call { callee := .builtin .append, args := #[s, x], argTypes := #[t, u] }) (hs : a.eval s = .slice A n c) {l : List UInt8} (hx : a.eval x = .string (str l))
  (hown : Own w base e 1 A n c xs) (hsz : n + l.length ≤ 100000000000) (hbase : base ≤ w.heap.size)
  (h : ∀ A2 c2 w', Own w' base e 1 A2 (n + l.length) c2 (xs ++ l.map u8v) → w.grownBy w' (blk A) → (blk A2 = blk A ∨ ∀ g, blk A2 = some g → w.heap.size ≤ g) → wpList P ops Q rest (a.put o.dst (.slice A2 (n + l.length) c2)) w') :
  wpList P ops Q (o :: rest) a w := by
 have hown' := hown
 rcases hown.2 with ⟨hv, rfl⟩ | ⟨g, cap, cur, hv, hbg, hg, hnc, hcm, hcs, htake⟩
 ·have hx0 : xs = [] := List.eq_nil_of_length_eq_zero (by have := hown'.1; simpa using this)
  subst hx0
  injection hv with h1 h2 h3
  subst h1 h3
  refine wp_app_str hT hu hw ho hs hx (base := w.heap.size) (Own.none_ w w.heap.size e 1) (by omega) (Nat.le_refl _) fun A2 c2 w' h1 h2 => ?_
  exact h A2 c2 w' (h1.base_le hbase) h2 (.inr fun g hg => (h1.blk_lt hg).1)
 obtain ⟨i, hi, hz, hs1, hby⟩ := hT.i
 have hxl : xs.length = n := by simpa using hown.1
 have e1 : Lib.strCells (str l) = l.map u8v := by
  unfold Lib.strCells
  simp [str, u8v]
 injection hv with h1 h2 h3
 subst h1 h3
 rw [Nat.mul_one] at hcs htake
 refine BigFrame.wpList_want hw fun K hK => ?_
 by_cases hroom : n + l.length ≤ c
 ·have hrun := Lib.run_append_room_string (P := P) w t u o.type e i hT.u hu hi hs1 g n c cur hg (str l) (by rw [str_size]; exact hroom) (by rw [str_size]; omega)
  rw [e1, str_size] at hrun
  unfold Oper.wp execOp
  simp only [ho, resolve, invoke, builtin, Sem.run_bind, Sem.run_pure, Result.andThen_ok, List.map_toArray, List.map_cons, List.map_nil, hs, hx, hrun]
  exact hK _ _ (h _ _ _ (own_filled_text hg hcs htake hxl l hroom hcm hbg) ⟨rfl, rfl, rfl, by simp, fun k _ hk => setRow_other w g k _ (fun e => hk (by simp [blk, e]))⟩ (.inl rfl))
 ·have holds : ∀ j u, xs[j]? = some u → w.cell? ((⟨g, 0, none⟩ : Addr).add j) = some u := World.ownsRow.cells hown' (g := g) rfl
  have hrun := Lib.run_append_grow_string (P := P) w t u o.type e i (.int .u8 0) hT.u hu hi hz ⟨g, 0, none⟩ n c xs (by rw [hs1]; simpa using hxl) holds (str l) (by rw [str_size]; omega) (by rw [str_size]; omega)
   (by rw [hby, str_size]; exact growslice_fits_wide (by omega) (by omega))
  rw [e1, str_size] at hrun
  unfold Oper.wp execOp
  simp only [ho, resolve, invoke, builtin, Sem.run_bind, Sem.run_pure, Result.andThen_ok, List.map_toArray, List.map_cons, List.map_nil, hs, hx, hrun]
  exact hK _ _ (h _ _ _ (own_grown_text hxl l _ (grownCap_ge _ _ _ _) (grownCap_le_maxLen _ _ _ _ (by simp only [maxLen]; omega)) hbase) (World.grownBy.trans (b := w.drew) ⟨rfl, rfl, rfl, Nat.le_refl _, fun _ _ _ => rfl⟩ (World.grownBy_alloc w.drew _ _)) (.inr fun g' hg' => by injection hg' with hg'; exact Nat.le_of_eq hg'))
end
end Go.PH
end
section
/- Numbers and texts as bytes, as plain mathematics. No program in sight. -/
namespace Go.PH

/-- a number's lowest i bytes, the highest first -/
def be : Nat → Nat → List UInt8
 | 0, _ => []
 | i + 1, n => UInt8.ofNat (n / 256 ^ i) :: be i n
theorem be_length (i n : Nat) : (be i n).length = i := by
 induction i with
 | zero => rfl
 | succ i ih => simp [be, ih]
/-- the widths that numbers may have -/
def wideB (w : Int) : Bool := w == 1 || w == 2 || w == 4 || w == 8
theorem wideB_iff (w : Int) : wideB w = true ↔ (w = 1 ∨ w = 2 ∨ w = 4 ∨ w = 8) := by unfold wideB; simp [or_assoc]
theorem wideB_yes {w : Int} (h : w = 1 ∨ w = 2 ∨ w = 4 ∨ w = 8) : wideB w = true := (wideB_iff w).2 h
theorem wideB_no {w : Int} (h1 : w ≠ 1) (h2 : w ≠ 2) (h4 : w ≠ 4) (h8 : w ≠ 8) : wideB w = false := by unfold wideB; simp [h1, h2, h4, h8]
theorem wideB_le {w : Int} (h : wideB w = true) : 1 ≤ w ∧ w ≤ 8 := by rw [wideB_iff] at h; omega
/-- bytes as a number, the highest first -/
def unbe (l : List UInt8) : Nat := l.foldl (fun n c => 256 * n + c.toNat) 0
theorem unbe_snoc (l : List UInt8) (c : UInt8) : unbe (l ++ [c]) = 256 * unbe l + c.toNat := by simp [unbe]
theorem unbe_lt (l : List UInt8) : unbe l < 256 ^ l.length := by
 have key : ∀ (l : List UInt8) (n k : Nat), n < 256 ^ k → l.foldl (fun n c => 256 * n + c.toNat) n < 256 ^ (k + l.length) := by
  intro l
  induction l with
  | nil => intro n k h; simpa using h
  | cons c l ih =>
   intro n k h
   simp only [List.foldl_cons, List.length_cons]
   have := ih (256 * n + c.toNat) (k + 1) (by have := c.toNat_lt; rw [Nat.pow_succ]; omega)
   rwa [Nat.add_right_comm, Nat.add_assoc] at this
 have := key l 0 0 (by simp)
 rwa [Nat.zero_add] at this
/-- what Put answers -/
def puts (b : List UInt8) (n : Nat) (w : Int) : List UInt8 := if wideB w then b ++ be w.toNat n else b
theorem puts_yes {b : List UInt8} {n : Nat} {w : Int} (h : wideB w = true) : puts b n w = b ++ be w.toNat n := by unfold puts; rw [if_pos h]
theorem puts_no {b : List UInt8} {n : Nat} {w : Int} (h : wideB w = false) : puts b n w = b := by unfold puts; rw [if_neg (by simp [h])]
/-- what PutText answers: bytes, and an error's number -/
def textErr (n : Nat) (w : Int) : Int := if w = 1 ∨ w = 2 ∨ w = 4 then (if n < 256 ^ w.toNat then 0 else 3) else 2
def putsText (b s : List UInt8) (w : Int) : List UInt8 := if textErr s.length w = 0 then b ++ be w.toNat s.length ++ s else []
theorem be_set (i n k : Nat) (h : k < i) : (List.replicate (i - k) 0 ++ be k n).set (i - 1 - k) (UInt8.ofNat (n / 256 ^ k)) = List.replicate (i - (k + 1)) 0 ++ be (k + 1) n := by
 have e : i - k = (i - 1 - k) + 1 := by omega
 rw [e, List.replicate_succ', List.append_assoc]
 have e2 : i - (k + 1) = i - 1 - k := by omega
 rw [e2, List.set_append_right _ _ (by simp)]
 simp [be]
/-- what a reader answers: what was read, what is left, is it bad -/
def mtake (l : List UInt8) (bad : Bool) (x : Int) : List UInt8 × List UInt8 × Bool := if bad = true ∨ x < 0 ∨ (l.length : Int) < x then ([], [], true) else (l.take x.toNat, l.drop x.toNat, false)
theorem mtake_no {l : List UInt8} {bad : Bool} {x : Int} (h : bad = true ∨ x < 0 ∨ (l.length : Int) < x) : mtake l bad x = ([], [], true) := by unfold mtake; rw [if_pos h]
theorem mtake_yes {l : List UInt8} {n : Nat} (h : n ≤ l.length) : mtake l false (n : Int) = (l.take n, l.drop n, false) := by unfold mtake; rw [if_neg (by simp; omega)]; simp
def mnum (l : List UInt8) (bad : Bool) (x : Int) : Nat × List UInt8 × Bool := if wideB x then (unbe (mtake l bad x).1, (mtake l bad x).2) else (0, [], true)
theorem mnum_no {l : List UInt8} {bad : Bool} {x : Int} (h : wideB x = false) : mnum l bad x = (0, [], true) := by unfold mnum; rw [if_neg (by simp [h])]
theorem mnum_yes {l : List UInt8} {bad : Bool} {x : Int} (h : wideB x = true) : mnum l bad x = (unbe (mtake l bad x).1, (mtake l bad x).2) := by unfold mnum; rw [if_pos h]
theorem unbe_nil : unbe [] = 0 := rfl
end Go.PH
end
section
/- Frames as plain mathematics. No program in sight. -/
namespace Go.PH

structure Fr where
 first : Bool
 last : Bool
 beg : Bool
 fin : Bool
 ty : Nat
 track : Nat
 chan : Nat
 load : List UInt8
deriving DecidableEq
/-- what memory can hold -/
def Fr.wf (f : Fr) : Prop := f.ty < 256 ∧ f.track < 256 ∧ f.chan < 65536
def bitv (b : Bool) (n : Nat) : Nat := if b then n else 0
def Fr.flags (f : Fr) : Nat := bitv f.first 8 + bitv f.last 4 + bitv f.beg 2 + bitv f.fin 1
def Fr.ok (f : Fr) : Bool := decide (f.ty ≤ 3) && decide (f.track ≤ 15) && decide (f.load.length ≤ 4084)
def Fr.err (f : Fr) : Nat := if f.ok then 0 else 60
def Fr.bytes (f : Fr) : List UInt8 := [UInt8.ofNat f.flags, UInt8.ofNat f.ty] ++ be 2 (12 + f.load.length) ++ [0, UInt8.ofNat f.track] ++ be 2 f.chan ++ [0, 0, 0, 0] ++ f.load
def Fr.put (f : Fr) : List UInt8 := if f.ok then f.bytes else []
theorem Fr.flags_lt (f : Fr) : f.flags < 16 := by
 unfold Fr.flags bitv
 cases f.first <;> cases f.last <;> cases f.beg <;> cases f.fin <;> decide
end Go.PH
end
section
/- Assemblies, cut into frames and gathered, as plain mathematics. No program in sight. -/
namespace Go.PH

structure Sg where
 ty : Nat
 load : List UInt8
deriving DecidableEq
structure As where
 chan : Nat
 track : Nat
 segs : List Sg
deriving DecidableEq
/-- what memory can hold -/
def As.wf (a : As) : Prop := a.chan < 65536 ∧ a.track < 256 ∧ ∀ s ∈ a.segs, s.ty < 256
def sgLen : List Sg → Nat
 | [] => 0
 | s :: r => s.load.length + sgLen r
def segsOk (n : Nat) (prev : Option Nat) : List Sg → Bool
 | [] => true
 | s :: r => decide (s.ty ≤ 3) && (match prev with | none => true | some p => decide (p < s.ty)) && decide (n + s.load.length ≤ 16384) && segsOk (n + s.load.length) (some s.ty) r
def headOk (a : As) : Bool := match a.segs with
 | [] => false
 | s :: r => decide (s.ty = a.track) && decide (a.track ≤ 1) && (decide (a.track ≠ 0) || r.isEmpty)
def asOk (a : As) : Bool := segsOk 0 none a.segs && headOk a
/-- the frames of a segment, each of so many bytes at most -/
def cutS (most : Nat) : Nat → Fr → List UInt8 → List Fr
 | 0, f, s => [⟨f.first, f.last, f.beg, true, f.ty, f.track, f.chan, s⟩]
 | k + 1, f, s => if s.length ≤ most then [⟨f.first, f.last, f.beg, true, f.ty, f.track, f.chan, s⟩] else
   ⟨f.first, f.last, f.beg, false, f.ty, f.track, f.chan, s.take most⟩ :: cutS most k ⟨f.first, f.last, false, false, f.ty, f.track, f.chan, []⟩ (s.drop most)
/-- those of segments, of which the first has so many ahead of it -/
def cutL (most chan track n : Nat) : Nat → List Sg → List Fr
 | _, [] => []
 | i, s :: r => cutS most s.load.length ⟨decide (i = 0), decide (i + 1 = n), true, false, s.ty, track, chan, []⟩ s.load ++ cutL most chan track n (i + 1) r
def cutAs (most : Nat) (a : As) : List Fr := cutL most a.chan a.track a.segs.length 0 a.segs
def cutErr (most : Int) (a : As) : Nat := if most < 1 ∨ 4084 < most then 2 else if asOk a then 0 else 70

/-! ### gathering -/
structure GS where
 dead : Bool
 op : Nat → Nat → List Fr
def GS.new : GS := ⟨false, fun _ _ => []⟩
def loadLen : List Fr → Nat
 | [] => 0
 | f :: r => f.load.length + loadLen r
/-- the segments that frames make: the last one gets a frame's bytes -/
def addTo : List Sg → List UInt8 → List Sg
 | [], _ => []
 | [s], x => [⟨s.ty, s.load ++ x⟩]
 | s :: t :: r, x => s :: addTo (t :: r) x
def addSeg (l : List Sg) (f : Fr) : List Sg := addTo (if f.beg then l ++ [⟨f.ty, []⟩] else l) f.load
def segsOf (l : List Fr) : List Sg := l.foldl addSeg []
def fitsB (l : List Fr) (f : Fr) : Bool :=
 if 1 < f.track then false else match l.getLast? with
 | none => f.first && f.beg && decide (f.ty = f.track) && (f.last || decide (f.track = 1))
 | some x => if x.fin then f.beg && !f.first && decide (x.ty < f.ty) else !f.beg && decide (f.ty = x.ty) && (f.first == x.first) && (f.last == x.last)
def GS.err (g : GS) (f : Fr) : Nat := if g.dead then 9 else if !f.ok then 60 else if !fitsB (g.op f.chan f.track) f then 70 else if 16384 < loadLen (g.op f.chan f.track) + f.load.length then 3 else 0
def GS.upd (g : GS) (c t : Nat) (l : List Fr) : GS := ⟨g.dead, fun x y => if x = c ∧ y = t then l else g.op x y⟩
def GS.next (g : GS) (f : Fr) : GS := if g.err f ≠ 0 then ⟨true, fun _ _ => []⟩ else g.upd f.chan f.track (if f.fin && f.last then [] else g.op f.chan f.track ++ [f])
def GS.out (g : GS) (f : Fr) : Option As := if g.err f = 0 ∧ f.fin = true ∧ f.last = true then some ⟨f.chan, f.track, segsOf (g.op f.chan f.track ++ [f])⟩ else none

theorem segsOf_snoc (l : List Fr) (f : Fr) : segsOf (l ++ [f]) = addSeg (segsOf l) f := by simp [segsOf]
theorem loadLen_app (a b : List Fr) : loadLen (a ++ b) = loadLen a + loadLen b := by
 induction a with
 | nil => simp [loadLen]
 | cons f a ih => simp only [List.cons_append, loadLen, ih]; omega
theorem addTo_len : ∀ (l : List Sg) (x : List UInt8), (addTo l x).length = l.length
 | [], _ => rfl
 | [s], x => rfl
 | s :: t :: r, x => by simp only [addTo, List.length_cons, addTo_len (t :: r) x]
/-- what is open on a track of a channel, as it comes to be -/
structure Goes (l : List Fr) : Prop where
 first : ∀ f, l.head? = some f → f.beg = true
 len : loadLen l ≤ 16384
 few : ∀ y, l.getLast? = some y → y.ty ≤ 3 ∧ (segsOf l).length ≤ y.ty + 1
/-- what a gatherer holds, as it comes to be -/
structure GS.Inv (g : GS) : Prop where
 goes : ∀ c t, Goes (g.op c t)
 deadE : g.dead = true → ∀ c t, g.op c t = []
 key : ∀ c t, g.op c t ≠ [] → c < 65536 ∧ t ≤ 1
theorem GS.err_cases (g : GS) (f : Fr) : g.err f = 9 ∧ g.dead = true ∨ g.dead = false ∧ (g.err f = 60 ∧ f.ok = false ∨ f.ok = true ∧ (g.err f = 70 ∧ fitsB (g.op f.chan f.track) f = false ∨ fitsB (g.op f.chan f.track) f = true ∧
  (g.err f = 3 ∧ 16384 < loadLen (g.op f.chan f.track) + f.load.length ∨ g.err f = 0 ∧ loadLen (g.op f.chan f.track) + f.load.length ≤ 16384))) := by
 unfold GS.err
 cases g.dead
 ·cases f.ok
  ·simp
  ·cases fitsB (g.op f.chan f.track) f
   ·simp
   ·by_cases h : 16384 < loadLen (g.op f.chan f.track) + f.load.length
    ·simp [h]
    ·simp [h]; omega
 ·simp
theorem fitsB_track {l : List Fr} {f : Fr} (h : fitsB l f = true) : f.track ≤ 1 := by
 unfold fitsB at h
 split at h
 ·cases h
 ·omega
theorem fitsB_nil {f : Fr} (h : fitsB [] f = true) : f.first = true ∧ f.beg = true ∧ f.ty = f.track := by
 unfold fitsB at h
 split at h
 ·cases h
 ·simp at h
  exact ⟨h.1.1.1, h.1.1.2, h.1.2⟩
theorem Goes.snoc {l : List Fr} {f : Fr} (h : Goes l) (hok : f.ok = true) (hf : fitsB l f = true) (hl : loadLen l + f.load.length ≤ 16384) : Goes (l ++ [f]) := by
 refine ⟨fun x hx => ?_, by rw [loadLen_app]; simpa [loadLen] using hl, fun y hy => ?_⟩
 ·cases l with
  | nil => simp at hx; subst hx; exact (fitsB_nil hf).2.1
  | cons a r => exact h.first x hx
 ·rw [List.getLast?_append] at hy
  simp at hy
  subst hy
  have hty : f.ty ≤ 3 := by simp [Fr.ok] at hok; omega
  refine ⟨hty, ?_⟩
  rw [segsOf_snoc, addSeg, addTo_len]
  unfold fitsB at hf
  split at hf
  ·cases hf
  ·split at hf
   ·rename_i hn
    have : l = [] := by simpa using hn
    subst this
    simp at hf
    simp [segsOf, hf.1.1.2]
   ·rename_i x hx
    have hfew := h.few x hx
    split at hf
    ·simp at hf
     rw [if_pos hf.1.1]
     simp; omega
    ·simp at hf
     rw [if_neg (by simp [hf.1.1.1])]
     omega
theorem Goes.most {l : List Fr} (h : Goes l) : (segsOf l).length ≤ 4 := by
 rcases hl : l.getLast? with _ | y
 ·have : l = [] := by simpa using hl
  subst this
  simp [segsOf]
 ·have := h.few y hl; omega
theorem GS.Inv.next {g : GS} (h : g.Inv) {f : Fr} (hw : f.wf) : (g.next f).Inv := by
 have hnone : (⟨true, fun _ _ => []⟩ : GS).Inv := ⟨fun _ _ => ⟨fun f h => (by cases h), by simp [loadLen], fun f h => (by cases h)⟩, fun _ _ _ => rfl, fun _ _ h => absurd rfl h⟩
 unfold GS.next
 rcases g.err_cases f with ⟨e, hd⟩ | ⟨hd, ⟨e, _⟩ | ⟨hok, ⟨e, _⟩ | ⟨hfit, ⟨e, _⟩ | ⟨e, hl⟩⟩⟩⟩
 ·rw [if_pos (by omega)]; exact hnone
 ·rw [if_pos (by omega)]; exact hnone
 ·rw [if_pos (by omega)]; exact hnone
 ·rw [if_pos (by omega)]; exact hnone
 rw [if_neg (by omega)]
 refine ⟨fun c t => ?_, fun hdd => ?_, fun c t hne => ?_⟩
 ·unfold GS.upd
  simp only
  split
  ·split
   ·exact ⟨fun f h => (by cases h), by simp [loadLen], fun f h => (by cases h)⟩
   ·exact (h.goes _ _).snoc hok hfit hl
  ·exact h.goes c t
 ·have : g.dead = true := hdd
  rw [hd] at this; cases this
 ·unfold GS.upd at hne
  simp only at hne
  split at hne
  ·rename_i hk
   rw [hk.1, hk.2]
   exact ⟨hw.2.2, fitsB_track hfit⟩
  ·exact h.key c t hne

/-! ### what was cut is gathered -/
theorem cutS_ne (most k : Nat) (f : Fr) (s : List UInt8) : cutS most k f s ≠ [] := by
 cases k with
 | zero => simp [cutS]
 | succ k => rw [cutS]; split <;> simp
theorem cutS_fuel {most : Nat} (h1 : 1 ≤ most) : ∀ (n k j : Nat) (f : Fr) (s : List UInt8), s.length ≤ n → s.length ≤ k → s.length ≤ j → cutS most k f s = cutS most j f s
 | n, 0, 0, f, s, _, _, _ => rfl
 | n, 0, j + 1, f, s, _, hk, _ => by rw [cutS, cutS, if_pos (by omega)]
 | n, k + 1, 0, f, s, _, _, hj => by rw [cutS, cutS, if_pos (by omega)]
 | n, k + 1, j + 1, f, s, hn, hk, hj => by
  rw [cutS, cutS]
  split
  ·rfl
  ·rename_i hm
   cases n with
   | zero => omega
   | succ n => rw [cutS_fuel h1 n k j _ (s.drop most) (by simp; omega) (by simp; omega) (by simp; omega)]
def cutN (most : Nat) (f : Fr) (s : List UInt8) : List Fr := cutS most s.length f s
theorem cutN_end {most : Nat} {f : Fr} {s : List UInt8} (h : s.length ≤ most) : cutN most f s = [⟨f.first, f.last, f.beg, true, f.ty, f.track, f.chan, s⟩] := by
 unfold cutN
 cases s with
 | nil => rfl
 | cons x s => rw [List.length_cons, cutS, if_pos h]
theorem cutN_more {most : Nat} (h1 : 1 ≤ most) {f : Fr} {s : List UInt8} (h : most < s.length) : cutN most f s = ⟨f.first, f.last, f.beg, false, f.ty, f.track, f.chan, s.take most⟩ :: cutN most ⟨f.first, f.last, false, false, f.ty, f.track, f.chan, []⟩ (s.drop most) := by
 unfold cutN
 cases s with
 | nil => simp at h
 | cons x s =>
  rw [List.length_cons, cutS, if_neg (by simpa using h), cutS_fuel h1 s.length s.length _ _ _ (by simp; omega) (by simp; omega) (Nat.le_refl _)]
theorem cutN_len (most : Nat) (h1 : 1 ≤ most) : ∀ (n : Nat) (f : Fr) (s : List UInt8), s.length ≤ n → (cutN most f s).length ≤ s.length + 1
 | 0, f, s, h => by rw [cutN_end (by omega)]; simp
 | n + 1, f, s, h => by
  by_cases hm : s.length ≤ most
  ·rw [cutN_end hm]; simp
  ·rw [cutN_more h1 (by omega)]
   have := cutN_len most h1 n ⟨f.first, f.last, false, false, f.ty, f.track, f.chan, []⟩ (s.drop most) (by simp; omega)
   simp at this ⊢; omega
theorem cutL_cons (most chan track n i : Nat) (s : Sg) (r : List Sg) : cutL most chan track n i (s :: r) = cutN most ⟨decide (i = 0), decide (i + 1 = n), true, false, s.ty, track, chan, []⟩ s.load ++ cutL most chan track n (i + 1) r := rfl
theorem cutL_len (most chan track n : Nat) (h1 : 1 ≤ most) : ∀ (l : List Sg) (i : Nat), (cutL most chan track n i l).length ≤ sgLen l + l.length
 | [], _ => by simp [cutL]
 | s :: r, i => by
  have a := cutN_len most h1 s.load.length ⟨decide (i = 0), decide (i + 1 = n), true, false, s.ty, track, chan, []⟩ s.load (Nat.le_refl _)
  have b := cutL_len most chan track n h1 r (i + 1)
  rw [cutL_cons]
  simp only [List.length_append, sgLen, List.length_cons]
  omega
theorem segsOk_len : ∀ (l : List Sg) (m : Nat) (prev : Option Nat), segsOk m prev l = true → l.length + (match prev with | none => 0 | some p => min (p + 1) 4) ≤ 4
 | [], m, prev, h => by cases prev <;> simp <;> omega
 | s :: r, m, prev, h => by
  simp only [segsOk, Bool.and_eq_true, decide_eq_true_eq] at h
  obtain ⟨⟨⟨h1, h2⟩, h3⟩, h4⟩ := h
  have := segsOk_len r _ _ h4
  simp only at this
  cases prev with
  | none => simp; omega
  | some p => simp at h2 ⊢; omega
theorem segsOk_sum : ∀ (l : List Sg) (m : Nat) (prev : Option Nat), segsOk m prev l = true → l ≠ [] → m + sgLen l ≤ 16384
 | [], m, prev, h, hne => absurd rfl hne
 | s :: r, m, prev, h, _ => by
  simp only [segsOk, Bool.and_eq_true, decide_eq_true_eq] at h
  obtain ⟨⟨⟨h1, h2⟩, h3⟩, h4⟩ := h
  cases r with
  | nil => simp [sgLen]; omega
  | cons t r =>
   have := segsOk_sum (t :: r) _ _ h4 (by simp)
   rw [sgLen]; omega
theorem asOk_few {a : As} (h : asOk a = true) : a.segs.length ≤ 4 ∧ sgLen a.segs ≤ 16384 ∧ a.segs ≠ [] := by
 unfold asOk at h
 rw [Bool.and_eq_true] at h
 have hne : a.segs ≠ [] := fun e => by have := h.2; simp [headOk, e] at this
 have h1 := segsOk_len _ _ _ h.1
 have h2 := segsOk_sum _ _ _ h.1 hne
 simp at h1 h2
 exact ⟨h1, h2, hne⟩
theorem cutAs_len {most : Nat} (h1 : 1 ≤ most) {a : As} (h : asOk a = true) : (cutAs most a).length ≤ 16388 := by
 have := cutL_len most a.chan a.track a.segs.length h1 a.segs 0
 obtain ⟨h2, h3, _⟩ := asOk_few h
 unfold cutAs; omega
theorem sgLen_mem {l : List Sg} {s : Sg} (h : s ∈ l) : s.load.length ≤ sgLen l := by
 induction l with
 | nil => cases h
 | cons a r ih =>
  rcases List.mem_cons.1 h with rfl | h
  ·simp [sgLen]
  ·have := ih h; simp [sgLen]; omega
end Go.PH
end
section
/- Rows of records, whatever a record's cells are. -/
namespace Go.PH
open Go.RowKit
section
variable {α : Type} {f : α → List Value} {sz : Nat}
/-- every record has so many cells, each of one cell -/
structure RecShape (f : α → List Value) (sz : Nat) : Prop where
 len : ∀ a, (f a).length = sz
 one : ∀ a, ∀ u ∈ f a, u.oneCell' = true
 pos : 0 < sz
def rowC (f : α → List Value) (l : List α) : List Value := l.flatMap f
theorem rowC_cons (a : α) (l : List α) : rowC f (a :: l) = f a ++ rowC f l := rfl
theorem rowC_nil : rowC f ([] : List α) = [] := rfl
theorem rowC_app (a b : List α) : rowC f (a ++ b) = rowC f a ++ rowC f b := by simp [rowC]
theorem rowC_len (h : RecShape f sz) (l : List α) : (rowC f l).length = l.length * sz := by
 induction l with
 | nil => simp [rowC]
 | cons a l ih => rw [rowC_cons, List.length_append, ih, h.len, List.length_cons, Nat.add_mul]; omega
theorem rowC_get (h : RecShape f sz) : ∀ (l : List α) (k : Nat) (hk : k < l.length) (j : Nat), j < sz → (rowC f l)[k * sz + j]? = (f l[k])[j]?
 | a :: l, 0, _, j, hj => by
  rw [rowC_cons, Nat.zero_mul, Nat.zero_add, List.getElem?_append_left (by rw [h.len]; exact hj)]; rfl
 | a :: l, k + 1, hk, j, hj => by
  have := rowC_get h l k (by simpa using hk) j hj
  rw [rowC_cons, List.getElem?_append_right (by rw [h.len, Nat.add_mul]; omega), h.len, Nat.add_mul, show k * sz + 1 * sz + j - sz = k * sz + j by omega, this]
  rfl
variable {w w' : World} {B n c base e : Nat} {A : Option Addr} {l : List α}
theorem rec_length (h : RecShape f sz) (hr : Rd w B sz A n c (rowC f l)) : l.length = n := by
 have := hr.len
 rw [rowC_len h] at this
 exact Nat.eq_of_mul_eq_mul_right h.pos this
theorem rec_at (h : RecShape f sz) (hr : Rd w B sz A n c (rowC f l)) {k : Nat} (hk : k < n) : ∃ b off, A = some ⟨b, off, none⟩ ∧ b < B ∧ ∃ hl : k < l.length, ∀ j u, (f l[k])[j]? = some u → w.cell? ⟨b, off + k * sz + j, none⟩ = some u := by
 obtain ⟨b, off, e, hb, hc⟩ := hr.at_ (by omega)
 have hl := rec_length h hr
 refine ⟨b, off, e, hb, by omega, fun j u hu => ?_⟩
 have hj : j < sz := by have := (List.getElem?_eq_some_iff.1 hu).1; rwa [h.len] at this
 have := hc (k * sz + j) u ((rowC_get h l k (by omega) j hj).trans hu)
 rwa [← Nat.add_assoc] at this
/-- a record put behind an own row, as one operation of a drawn region -/
theorem op_rec {P : Program} {W : World} {o : Oper} {a : Act} {K : Act → World → Prop} {Q : Exit → Act → World → Prop} {s x : Operand} {t t2 e2 bytes g : Nat} {z : Value} (h : RecShape f sz) (hT : SlT P t e sz bytes z) (h2 : P.underlying t2 = some (.slice e2))
  (ho : o.op = .call { callee := .builtin .append, args := #[s, x], argTypes := #[t, t2] }) (hs : a.eval s = .slice A n c) (hx : a.eval x = .slice (some ⟨g, 0, none⟩) 1 1) (hg : g = W.heap.size) {cs : Array Value}
  (r : α) (hcs : cs.toList = f r) (hown : Own W base e sz A n c (rowC f l)) (hn : (n + 1) * bytes ≤ 140737488355328) (hn2 : n ≤ 1000000000) (hbase : base ≤ W.heap.size)
  (hk : ∀ A2 c2 w', Own w' base e sz A2 (n + 1) c2 (rowC f (l ++ [r])) → W.grownBy w' (blk A) → (blk A2 = blk A ∨ ∀ g, blk A2 = some g → W.heap.size ≤ g) → Below base W w' → K (a.put o.dst (.slice A2 (n + 1) c2)) w') :
  o.wp P a (W.alloc (.cells cs e)) K Q := by
 subst hg
 have hcz : cs.size = 1 * sz := by rw [Nat.one_mul, ← h.len r, ← hcs]; simp
 have hlit := own_lit (w := W) base cs e 1 hbase (by simp [maxLen]) hcz h.pos
 have ho2 : Own (W.alloc (.cells cs e)) base e sz A n c (rowC f l) := hown.alloc _
 refine op_app (ops := #[]) hT h2 ho hs hx ho2 hlit.rd (fun u hu => h.one r u (by rw [← hcs]; exact hu)) hn (by simp [maxLen]; omega) (by simp; omega) fun A2 c2 w' a1 a2 a3 => ?_
 have e1 : rowC f l ++ cs.toList = rowC f (l ++ [r]) := by rw [rowC_app, hcs]; simp [rowC]
 rw [e1] at a1
 have hB2 : Below base W (W.alloc (.cells cs e)) := (Below.refl _ _).alloc hbase _
 have hgr : W.grownBy w' (blk A) := ⟨a2.os, a2.tape, a2.output, Nat.le_trans hB2.size a2.size, fun k hk hne => (a2.block k (by simp; omega) hne).trans (((Below.refl W.heap.size W).alloc (Nat.le_refl _) _).block k hk)⟩
 refine hk A2 c2 w' a1 hgr ?_ ((Below.refl _ _).grown hgr hbase (fun g hg => (hown.blk_lt hg).1))
 rcases a3 with h3 | h3
 ·exact .inl h3
 ·refine .inr fun g hg => ?_
  rw [h3] at hg
  simp at hg; omega
theorem wp_rec {P : Program} {W : World} {ops : Array Oper} {rest : List Oper} {o : Oper} {a : Act} {Q : Exit → Act → World → Prop} {s x : Operand} {t t2 e2 bytes g : Nat} {z : Value} (h : RecShape f sz) (hT : SlT P t e sz bytes z) (h2 : P.underlying t2 = some (.slice e2)) (hw : Region.wanted o (yielded ops a.tmps) = true)
  (ho : o.op = .call { callee := .builtin .append, args := #[s, x], argTypes := #[t, t2] }) (hs : a.eval s = .slice A n c) (hx : a.eval x = .slice (some ⟨g, 0, none⟩) 1 1) (hg : g = W.heap.size) {cs : Array Value}
  (r : α) (hcs : cs.toList = f r) (hown : Own W base e sz A n c (rowC f l)) (hn : (n + 1) * bytes ≤ 140737488355328) (hn2 : n ≤ 1000000000) (hbase : base ≤ W.heap.size)
  (hk : ∀ A2 c2 w', Own w' base e sz A2 (n + 1) c2 (rowC f (l ++ [r])) → W.grownBy w' (blk A) → (blk A2 = blk A ∨ ∀ g, blk A2 = some g → W.heap.size ≤ g) → Below base W w' → wpList P ops Q rest (a.put o.dst (.slice A2 (n + 1) c2)) w') :
  wpList P ops Q (o :: rest) a (W.alloc (.cells cs e)) := by
 refine BigFrame.wpList_want hw fun K hK => ?_
 exact op_rec h hT h2 ho hs hx hg r hcs hown hn hn2 hbase fun A2 c2 w' a1 a2 a3 a4 => hK _ _ (hk A2 c2 w' a1 a2 a3 a4)
end
end Go.PH
end
section
/- Blocks that stay: sets of blocks, rows and maps behind what turns others. -/
namespace Go.PH
open Go.RowKit

/-- a slice's header -/
structure Hd where
 A : Option Addr
 n : Nat
 c : Nat
def Hd.v (h : Hd) : Value := .slice h.A h.n h.c
def Quiet (w w' : World) : Prop := w'.os = w.os ∧ w'.tape = w.tape ∧ w'.output = w.output
theorem Quiet.refl (w : World) : Quiet w w := ⟨rfl, rfl, rfl⟩
theorem Quiet.trans {a b c : World} (h : Quiet a b) (k : Quiet b c) : Quiet a c := ⟨k.1.trans h.1, k.2.1.trans h.2.1, k.2.2.trans h.2.2⟩
theorem Quiet.below {B : Nat} {w w' : World} (h : Below B w w') : Quiet w w' := ⟨h.os, h.tape, h.output⟩
theorem Quiet.grown {w w' : World} {r : Option Nat} (h : w.grownBy w' r) : Quiet w w' := ⟨h.os, h.tape, h.output⟩
/-- all blocks but those of a set stay as they are -/
def KeepF (F : Nat → Prop) (w w' : World) : Prop := w.heap.size ≤ w'.heap.size ∧ (∀ g, g < w.heap.size → ¬ F g → w'.heap[g]? = w.heap[g]?) ∧ Quiet w w'
theorem KeepF.size {F : Nat → Prop} {w w' : World} (h : KeepF F w w') : w.heap.size ≤ w'.heap.size := h.1
theorem KeepF.refl (F : Nat → Prop) (w : World) : KeepF F w w := ⟨Nat.le_refl _, fun _ _ _ => rfl, .refl w⟩
theorem KeepF.trans {F F' : Nat → Prop} {w w' w2 : World} (h : KeepF F w w') (h' : KeepF F' w' w2) (hF : ∀ g, F' g → F g ∨ w.heap.size ≤ g) : KeepF F w w2 :=
 ⟨Nat.le_trans h.1 h'.1, fun g hg hn => (h'.2.1 g (Nat.lt_of_lt_of_le hg h.1) (fun e => by rcases hF g e with e | e; exact hn e; omega)).trans (h.2.1 g hg hn), h.2.2.trans h'.2.2⟩
theorem KeepF.below {F : Nat → Prop} {w w' : World} (h : Below w.heap.size w w') : KeepF F w w' := ⟨h.size, fun g hg _ => h.block g hg, .below h⟩
theorem KeepF.grown {F : Nat → Prop} {w w' : World} {r : Option Nat} (h : w.grownBy w' r) (hr : ∀ g, r = some g → F g ∨ w.heap.size ≤ g) : KeepF F w w' :=
 ⟨h.size, fun g hg hn => h.block g hg (fun e => by rcases hr g e.symm with e | e; exact hn e; omega), .grown h⟩
/-- where the set lies behind a base, nothing ahead of it turns -/
theorem KeepF.toBelow {F : Nat → Prop} {w w' : World} {B : Nat} (h : KeepF F w w') (hB : B ≤ w.heap.size) (hF : ∀ g, F g → B ≤ g) : Below B w w' :=
 ⟨h.2.2.1, h.2.2.2.1, h.2.2.2.2, h.1, fun k hk => h.2.1 k (by omega) (fun e => by have := hF k e; omega)⟩
theorem KeepF.weak {F G : Nat → Prop} {w w' : World} (h : KeepF F w w') (hF : ∀ g, F g → G g ∨ w.heap.size ≤ g) : KeepF G w w' :=
 ⟨h.1, fun g hg hn => h.2.1 g hg (fun e => by rcases hF g e with e | e; exact hn e; omega), h.2.2⟩
theorem ownsMap_keep {w w' : World} {H : Type} {P : Program} {k : TypeId} {R : Value → Option (DataW H × List MemPlace)} {b n : Nat} {D : DataW H} (h : w.ownsMap P k R b n D) (hb : w'.heap[b]? = w.heap[b]?) : w'.ownsMap P k R b n D := by
 obtain ⟨es, clock, h1, h2, h3, h4⟩ := h
 exact ⟨es, clock, hb.trans h1, h2, h3, h4⟩
theorem own_keep {w w' : World} {base e size n c : Nat} {A : Option Addr} {xs : List Value} (h : Own w base e size A n c xs) (hb : ∀ g, blk A = some g → w'.heap[g]? = w.heap[g]?) : Own w' base e size A n c xs := by
 unfold Own World.ownsRow at h ⊢
 obtain ⟨hl, h1⟩ := h
 refine ⟨hl, h1.imp id ?_⟩
 rintro ⟨g, cap, cur, hv, hb0, hh, hr⟩
 exact ⟨g, cap, cur, hv, hb0, (hb g (by injection hv with e; rw [e]; rfl)).trans hh, hr⟩
theorem box_keepF {w w' : World} {F : Nat → Prop} {g t : Nat} {cs : Array Value} (h : Box w g t cs) (hk : KeepF F w w') (hF : ¬ F g) : Box w' g t cs := (hk.2.1 g h.lt hF).trans h
theorem own_keepF {w w' : World} {F : Nat → Prop} {base e size n c : Nat} {A : Option Addr} {xs : List Value} (h : Own w base e size A n c xs) (hk : KeepF F w w') (hF : ∀ g, blk A = some g → ¬ F g) : Own w' base e size A n c xs :=
 own_keep h fun g hg => hk.2.1 g (h.blk_lt hg).2 (hF g hg)
end Go.PH
end
section
/- A row that is read record by record is a row of records. -/
namespace Go.PH
open Go.RowKit
variable {α : Type} {f : α → List Value} {sz : Nat}
theorem rec_row {C : α → Prop} (h : RecShape f sz) {L : List α} : ∀ {xs : List Value}, xs.length = L.length * sz → (∀ i (hi : i < L.length), (xs.drop (i * sz)).take sz = f L[i] ∧ C L[i]) → xs = rowC f L := by
 induction L with
 | nil => intro xs hx _; rw [rowC_nil]; simpa using hx
 | cons a L ih =>
  intro xs hx hr
  have h0 := (hr 0 (by simp)).1
  simp only [Nat.zero_mul, List.drop_zero, List.getElem_cons_zero] at h0
  have hx' : xs.length = L.length * sz + sz := by rw [hx, List.length_cons, Nat.add_mul, Nat.one_mul]
  rw [rowC_cons, ← h0, ← ih (xs := xs.drop sz) (by rw [List.length_drop]; omega) (fun i hi => by
   have := hr (i + 1) (by simp; omega)
   rw [List.drop_drop, show sz + i * sz = (i + 1) * sz by rw [Nat.add_mul, Nat.one_mul, Nat.add_comm]]
   simpa using this)]
  rw [List.take_append_drop]
theorem rec_of {C : α → Prop} (h : RecShape f sz) {A : Option Addr} {n c B : Nat} {xs : List Value} {L : List α} {w : World} (hb : Rd w B sz A n c xs) (hn : L.length = n) (hr : ∀ i (hi : i < L.length), (xs.drop (i * sz)).take sz = f L[i] ∧ C L[i]) :
  Rd w B sz A n c (rowC f L) ∧ ∀ a ∈ L, C a := by
 have hx := hb.len
 subst hn
 have e := rec_row h hx hr
 subst e
 refine ⟨hb, fun a ha => ?_⟩
 obtain ⟨i, hi, rfl⟩ := List.getElem_of_mem ha
 exact (hr i hi).2
end Go.PH
end

/- Texts laid together: Box, Box2, Mem5, Box3, Mem6, OctMath, FrMath. -/
import Derived.Laws.CopyRow
import Derived.Laws.CopyOwn
import Derived.Laws.Tables
import Derived.Laws.ResultCell
import Derived.Test.YtenegldhfgfokaaDoorMg00
set_option linter.all false
set_option linter.unusedSimpArgs false
set_option linter.unusedVariables false
section
/- Boxes: blocks of known cells: what they hold behind stores, calls, new blocks. -/
namespace Go.PH
open Go.RowKit
section
variable {P : Program} {w w' : World} {g : Nat} {t : TypeId} {cs : Array Value}
/-- block g holds these cells, none of them frozen -/
def Box (w : World) (g : Nat) (t : TypeId) (cs : Array Value) : Prop := w.heap[g]? = some (.cells cs t (0, 0))
theorem Box.new (w : World) (cs : Array Value) (t : TypeId) : Box (w.alloc (.cells cs t)) w.heap.size t cs := by
 show (w.heap.push _)[w.heap.size]? = _
 simp
theorem Box.lt (h : Box w g t cs) : g < w.heap.size := (Array.getElem?_eq_some_iff.1 h).1
theorem Box.grown (h : Box w g t cs) {row : Option Nat} (hg : w.grownBy w' row) (hne : some g ≠ row) : Box w' g t cs := (hg.block g h.lt hne).trans h
theorem Box.below (h : Box w g t cs) (hB : Below w.heap.size w w') : Box w' g t cs := (hB.block g h.lt).trans h
theorem Box.alloc (h : Box w g t cs) (o : Obj) : Box (w.alloc o) g t cs := (Below.heap_alloc w o g h.lt).trans h
theorem Box.cell (h : Box w g t cs) {j : Nat} {u : Value} (hj : cs[j]? = some u) : w.cell? ⟨g, j, none⟩ = some u := by
 unfold Box at h
 simp [World.cell?, h, hj]
theorem Box.thaw (h : Box w g t cs) (j : Nat) : w.frozen? ⟨g, j, none⟩ = false := by
 unfold Box at h
 simp [World.frozen?, h]
theorem grownRow (w : World) (g : Nat) (cs : Array Value) : w.grownBy (w.setRow g cs) (some g) :=
 ⟨rfl, rfl, rfl, by simp, fun k _ hk => setRow_other w g k cs (fun e => hk (by rw [e]))⟩
theorem run_boxstore {ty : TypeId} {v : Value} {j : Nat} {vs : List Value} {cs' : Array Value} (hb : Box w g t cs) (hv : v.cells.toList = vs) (hi : (P.info? ty).map (·.size) = some vs.length) (hj : j + vs.length ≤ cs.size)
  (h1 : ∀ u ∈ vs, u.oneCell' = true) (hc : cs' = (cs.toList.take j ++ vs ++ cs.toList.drop (j + vs.length)).toArray) :
  (Instr.storeAt ty (.pointer (some ⟨g, j, none⟩)) v).run P w = .ok () (w.setRow g cs') := by
 have := run_storeCells_at (P := P) g j t vs 0 cs w hb (by simpa using hj) h1
 cases hq : P.info? ty with
 | none => simp [hq] at hi
 | some i =>
  have hs : v.cells.size = i.size := by rw [hq] at hi; simp at hi; rw [hi, ← hv]; simp
  subst hc
  simp [Instr.storeAt, Instr.sureAddr, storeVar, sizeOf, typeInfo, hq, hs, hv, this]
theorem Box.row (hb : Box w g t cs) (cs' : Array Value) : Box (w.setRow g cs') g t cs' := setRow_heap w g cs cs' t _ hb
variable {ops : Array Oper} {Q : Exit → Act → World → Prop} {rest : List Oper} {a : Act} {dst : Option Tmp} {ty : TypeId} {pos : String} {after : Array Edge} {guard : Option (Nat × Bool)}
theorem hold_store {t : TypeId} {x y : Operand} (h : Hold (wpList P ops Q (⟨dst, .store t x y, ty, pos, after, guard⟩ :: rest) a w)) :
  wpList P ops Q (⟨dst, .store t x y, ty, pos, after, guard⟩ :: rest) a w := h
/-- a store into a box, as an operation -/
theorem op_box {o : Oper} {K : Act → World → Prop} {x y : Operand} {v : Value} {j : Nat} {vs : List Value} (ho : o.op = .store ty x y) (hx : a.eval x = .pointer (some ⟨g, j, none⟩)) (hy : a.eval y = v)
  (hb : Box w g t cs) (hv : v.cells.toList = vs) (hi : (P.info? ty).map (·.size) = some vs.length) (hj : j + vs.length ≤ cs.size) (h1 : ∀ u ∈ vs, u.oneCell' = true) (cs' : Array Value) (hc : cs' = (cs.toList.take j ++ vs ++ cs.toList.drop (j + vs.length)).toArray)
  (h : ∀ w', Box w' g t cs' → w.grownBy w' (some g) → w'.heap.size = w.heap.size → K (a.put o.dst undef) w') : o.wp P a w K Q := by
 unfold Oper.wp execOp
 simp only [ho, hx, hy, Sem.run_bind, Sem.run_pure, Result.andThen_ok, run_boxstore hb hv hi hj h1 hc]
 exact h _ (hb.row _) (grownRow _ _ _) (by simp)
theorem wp_box {o : Oper} {x y : Operand} {v : Value} {j : Nat} {vs : List Value} (hw : Region.wanted o (yielded ops a.tmps) = true) (ho : o.op = .store ty x y) (hx : a.eval x = .pointer (some ⟨g, j, none⟩)) (hy : a.eval y = v)
  (hb : Box w g t cs) (hv : v.cells.toList = vs) (hi : (P.info? ty).map (·.size) = some vs.length) (hj : j + vs.length ≤ cs.size) (h1 : ∀ u ∈ vs, u.oneCell' = true) (cs' : Array Value) (hc : cs' = (cs.toList.take j ++ vs ++ cs.toList.drop (j + vs.length)).toArray)
  (h : ∀ w', Box w' g t cs' → w.grownBy w' (some g) → w'.heap.size = w.heap.size → wpList P ops Q rest (a.put o.dst undef) w') : wpList P ops Q (o :: rest) a w :=
 BigFrame.wpList_want hw fun K hK => op_box ho hx hy hb hv hi hj h1 cs' hc fun w' h1 h2 h3 => hK _ _ (h w' h1 h2 h3)
/-- a function's end whose first result lies in a box -/
theorem ret_box_tmp {fn : Func} {R : Ending → World → Prop} {a : Act} {w : World} {g : Nat} {t ty : TypeId} {cs : Array Value} {p u : Tmp} {v : Value} {d : TypeDesc} (hres : fn.results = #[.cell p ty, .tmp u]) (hb : Box w g t cs)
  (hp : a.tmps.getD p undef = .pointer (some ⟨g, 0, none⟩)) (hv : a.tmps.getD u undef = v) (hu : P.underlying ty = some d) (hd : (match d with | .struct _ | .array _ _ => true | _ => false) = true) (hi : (P.info? ty).map (·.size) = some cs.size)
  (hdf : a.defers = []) (hR : R (.returned (.tuple #[.agg cs, v])) w) : bodyPost P fn R .ret a w := by
 refine bodyPost_ret (v := .tuple #[.agg cs, v]) ?_ hdf hR
 rw [results_cell_tmp hres, hp, hv]
 simp [asAddr, run_loadVar_row w g t ty cs (0, 0) d hb hu hd hi, Result.andThen]
end
theorem sne {a b : Nat} (h : a ≠ b) : some a ≠ some b := fun e => h (by injection e)
theorem Box.c0 {w : World} {g : Nat} {t : TypeId} {cs : Array Value} {u : Value} (h : Box w g t cs) (hj : cs[0]? = some u := by rfl) : w.cell? ⟨g, 0, none⟩ = some u := h.cell hj
theorem Box.c1 {w : World} {g : Nat} {t : TypeId} {cs : Array Value} {u : Value} (h : Box w g t cs) (hj : cs[1]? = some u := by rfl) : w.cell? ⟨g, 1, none⟩ = some u := h.cell hj
theorem Box.c2 {w : World} {g : Nat} {t : TypeId} {cs : Array Value} {u : Value} (h : Box w g t cs) (hj : cs[2]? = some u := by rfl) : w.cell? ⟨g, 2, none⟩ = some u := h.cell hj
theorem Box.c3 {w : World} {g : Nat} {t : TypeId} {cs : Array Value} {u : Value} (h : Box w g t cs) (hj : cs[3]? = some u := by rfl) : w.cell? ⟨g, 3, none⟩ = some u := h.cell hj
theorem Box.c4 {w : World} {g : Nat} {t : TypeId} {cs : Array Value} {u : Value} (h : Box w g t cs) (hj : cs[4]? = some u := by rfl) : w.cell? ⟨g, 4, none⟩ = some u := h.cell hj
theorem Box.c5 {w : World} {g : Nat} {t : TypeId} {cs : Array Value} {u : Value} (h : Box w g t cs) (hj : cs[5]? = some u := by rfl) : w.cell? ⟨g, 5, none⟩ = some u := h.cell hj
theorem Box.c6 {w : World} {g : Nat} {t : TypeId} {cs : Array Value} {u : Value} (h : Box w g t cs) (hj : cs[6]? = some u := by rfl) : w.cell? ⟨g, 6, none⟩ = some u := h.cell hj
theorem Box.c7 {w : World} {g : Nat} {t : TypeId} {cs : Array Value} {u : Value} (h : Box w g t cs) (hj : cs[7]? = some u := by rfl) : w.cell? ⟨g, 7, none⟩ = some u := h.cell hj
theorem Box.c8 {w : World} {g : Nat} {t : TypeId} {cs : Array Value} {u : Value} (h : Box w g t cs) (hj : cs[8]? = some u := by rfl) : w.cell? ⟨g, 8, none⟩ = some u := h.cell hj
theorem Box.c9 {w : World} {g : Nat} {t : TypeId} {cs : Array Value} {u : Value} (h : Box w g t cs) (hj : cs[9]? = some u := by rfl) : w.cell? ⟨g, 9, none⟩ = some u := h.cell hj
theorem Box.c10 {w : World} {g : Nat} {t : TypeId} {cs : Array Value} {u : Value} (h : Box w g t cs) (hj : cs[10]? = some u := by rfl) : w.cell? ⟨g, 10, none⟩ = some u := h.cell hj
end Go.PH
end
section
/- A function's end whose first result of three lies in a box. -/
namespace Go.PH
open Go.RowKit
theorem results_cell_tmp2x {fn : Func} {p u v : Tmp} {ty : TypeId} (h : fn.results = #[.cell p ty, .tmp u, .tmp v]) (tmps : Array Value) (P : Program) (w : World) :
  (results fn tmps).run P w =
   ((asAddr (tmps.getD p undef)).run P w).andThen fun a w₁ => ((loadVar ty a).run P w₁).andThen fun x w₂ => .ok (.tuple #[x, tmps.getD u undef, tmps.getD v undef]) w₂ := by
 simp only [results, h]
 simp [Sem.run_bind, Result.andThen]
theorem ret_box_tmp2x {P : Program} {fn : Func} {R : Ending → World → Prop} {a : Act} {w : World} {g : Nat} {t ty : TypeId} {cs : Array Value} {p u u2 : Tmp} {v v2 : Value} {d : TypeDesc} (hres : fn.results = #[.cell p ty, .tmp u, .tmp u2]) (hb : Box w g t cs)
  (hp : a.tmps.getD p undef = .pointer (some ⟨g, 0, none⟩)) (hv : a.tmps.getD u undef = v) (hv2 : a.tmps.getD u2 undef = v2) (hu : P.underlying ty = some d) (hd : (match d with | .struct _ | .array _ _ => true | _ => false) = true) (hi : (P.info? ty).map (·.size) = some cs.size)
  (hdf : a.defers = []) (hR : R (.returned (.tuple #[.agg cs, v, v2])) w) : bodyPost P fn R .ret a w := by
 refine bodyPost_ret (v := .tuple #[.agg cs, v, v2]) ?_ hdf hR
 rw [results_cell_tmp2x hres, hp, hv, hv2]
 simp [asAddr, run_loadVar_row w g t ty cs (0, 0) d hb hu hd hi, Result.andThen]
end Go.PH
end
section
/- More words for memory: append of a text as one operation of a drawn region. -/
namespace Go.PH
open Go.RowKit
section
variable {P : Program} {w w' : World} {base e t n c : Nat} {A : Option Addr} {xs : List Value}
theorem op_app_str {o : Oper} {a : Act} {K : Act → World → Prop} {Q : Exit → Act → World → Prop} {s x : Operand} {u : TypeId} (hT : SlT P t e 1 1 (.int .u8 0)) (hu : P.underlying u = some .string)
  (ho : o.op = .call { callee := .builtin .append, args := #[s, x], argTypes := #[t, u] }) (hs : a.eval s = .slice A n c) {l : List UInt8} (hx : a.eval x = .string (str l))
  (hown : Own w base e 1 A n c xs) (hsz : n + l.length ≤ 140737488355328) (hbase : base ≤ w.heap.size)
  (h : ∀ A2 c2 w', Own w' base e 1 A2 (n + l.length) c2 (xs ++ l.map u8v) → w.grownBy w' (blk A) → K (a.put o.dst (.slice A2 (n + l.length) c2)) w') :
  o.wp P a w K Q := by
 obtain ⟨i, hi, hz, hs1, hby⟩ := hT.i
 obtain ⟨v', w', hrun, h2, h3, _⟩ := Lib.run_append_own_string (P := P) (w := w) base t u o.type e i hT.u hu hi hz hs1 hby _ n xs hown (str l) (by rw [str_size]; simp only [maxLen]; omega) (by rw [str_size]; omega) hbase
 rw [str_size] at h2
 obtain ⟨A2, c2, rfl⟩ := slice_of_own h2
 rw [ownBlock_eq] at h3
 have e1 : Lib.strCells (str l) = l.map u8v := by
  unfold Lib.strCells
  simp [str, u8v]
 rw [e1] at h2
 unfold Oper.wp execOp
 simp only [ho, resolve, invoke, builtin, Sem.run_bind, Sem.run_pure, Result.andThen_ok, List.map_toArray, List.map_cons, List.map_nil, hs, hx, hrun]
 exact h A2 c2 w' h2 h3
/-- what a walk between two worlds leaves of own rows -/
theorem own_below {w w' : World} {base e size n c : Nat} {A : Option Addr} {xs : List Value} (ho : Own w base e size A n c xs) (hB : Below w.heap.size w w') : Own w' base e size A n c xs :=
 ho.kept (row := none) ⟨hB.os, hB.tape, hB.output, hB.size, fun k hk _ => hB.block k hk⟩ (by cases hv : (Value.slice A n c).ownBlock <;> simp)
theorem own_stays {w w' : World} {base e size n c : Nat} {A : Option Addr} {xs : List Value} {row : Option Nat} (ho : Own w base e size A n c xs) (hg : w.grownBy w' row) (h : ∀ g, blk A = some g → row ≠ some g) : Own w' base e size A n c xs :=
 ho.kept hg (by
  rw [ownBlock_eq]
  cases hA : blk A with
  | none => exact .inl rfl
  | some g => exact .inr fun e => h g hA e.symm)
end
end Go.PH
end
section
/- Boxes, once more: results that lie in one; rows that stay behind a store into one. -/
namespace Go.PH
open Go.RowKit
section
variable {P : Program} {fn : Func} {p : Tmp} {ty : TypeId}
theorem results_cell1v (h : fn.results = #[.cell p ty]) (tmps : Array Value) (P : Program) (w : World) :
  (results fn tmps).run P w = ((asAddr (tmps.getD p undef)).run P w).andThen fun a w₁ => (loadVar ty a).run P w₁ := by
 simp only [results, h]
 simp [Sem.run_bind, Result.andThen]
theorem ret_box1v {R : Ending → World → Prop} {a : Act} {w : World} {g : Nat} {t : TypeId} {cs : Array Value} {d : TypeDesc} (hres : fn.results = #[.cell p ty]) (hb : Box w g t cs)
  (hp : a.tmps.getD p undef = .pointer (some ⟨g, 0, none⟩)) (hu : P.underlying ty = some d) (hd : (match d with | .struct _ | .array _ _ => true | _ => false) = true) (hi : (P.info? ty).map (·.size) = some cs.size)
  (hdf : a.defers = []) (hR : R (.returned (.agg cs)) w) : bodyPost P fn R .ret a w := by
 refine bodyPost_ret (v := .agg cs) ?_ hdf hR
 rw [results_cell1v hres, hp]
 simp [asAddr, run_loadVar_row w g t ty cs (0, 0) d hb hu hd hi, Result.andThen]
end
end Go.PH
end
section
/- append of a text to an own row: where the row lies behind it. -/
namespace Go.PH
open Go.RowKit
section
variable {P : Program} {w w' : World} {base e t n c : Nat} {A : Option Addr} {xs : List Value}
end
end Go.PH
end
section
/- Numbers and texts as bytes, as plain mathematics. No program in sight. -/
namespace Go.PH

/-- a number's lowest i bytes, the highest first -/
def be : Nat → Nat → List UInt8
 | 0, _ => []
 | i + 1, n => UInt8.ofNat (n / 256 ^ i) :: be i n
theorem be_length (i n : Nat) : (be i n).length = i := by
 induction i with
 | zero => rfl
 | succ i ih => simp [be, ih]
/-- the widths that numbers may have -/
def wideB (w : Int) : Bool := w == 1 || w == 2 || w == 4 || w == 8
theorem wideB_iff (w : Int) : wideB w = true ↔ (w = 1 ∨ w = 2 ∨ w = 4 ∨ w = 8) := by unfold wideB; simp [or_assoc]
theorem wideB_yes {w : Int} (h : w = 1 ∨ w = 2 ∨ w = 4 ∨ w = 8) : wideB w = true := (wideB_iff w).2 h
theorem wideB_no {w : Int} (h1 : w ≠ 1) (h2 : w ≠ 2) (h4 : w ≠ 4) (h8 : w ≠ 8) : wideB w = false := by unfold wideB; simp [h1, h2, h4, h8]
theorem wideB_le {w : Int} (h : wideB w = true) : 1 ≤ w ∧ w ≤ 8 := by rw [wideB_iff] at h; omega
/-- bytes as a number, the highest first -/
def unbe (l : List UInt8) : Nat := l.foldl (fun n c => 256 * n + c.toNat) 0
theorem unbe_snoc (l : List UInt8) (c : UInt8) : unbe (l ++ [c]) = 256 * unbe l + c.toNat := by simp [unbe]
theorem unbe_lt (l : List UInt8) : unbe l < 256 ^ l.length := by
 have key : ∀ (l : List UInt8) (n k : Nat), n < 256 ^ k → l.foldl (fun n c => 256 * n + c.toNat) n < 256 ^ (k + l.length) := by
  intro l
  induction l with
  | nil => intro n k h; simpa using h
  | cons c l ih =>
   intro n k h
   simp only [List.foldl_cons, List.length_cons]
   have := ih (256 * n + c.toNat) (k + 1) (by have := c.toNat_lt; rw [Nat.pow_succ]; omega)
   rwa [Nat.add_right_comm, Nat.add_assoc] at this
 have := key l 0 0 (by simp)
 rwa [Nat.zero_add] at this
theorem unbe_be_gen (i n : Nat) : ∀ acc : Nat, (be i n).foldl (fun n c => 256 * n + c.toNat) acc = acc * 256 ^ i + n % 256 ^ i := by
 induction i with
 | zero => intro acc; simp [be, Nat.mod_one]
 | succ i ih =>
  intro acc
  simp only [be, List.foldl_cons, ih, UInt8.toNat_ofNat']
  have h1 : n % 256 ^ (i + 1) = n % 256 ^ i + 256 ^ i * (n / 256 ^ i % 256) := by rw [Nat.pow_succ, Nat.mod_mul]
  have h2 : acc * 256 ^ (i + 1) = 256 * acc * 256 ^ i := by rw [Nat.pow_succ, Nat.mul_comm 256 acc, Nat.mul_assoc, Nat.mul_comm 256]
  have h3 : (256 * acc + n / 256 ^ i % 2 ^ 8) * 256 ^ i = 256 * acc * 256 ^ i + 256 ^ i * (n / 256 ^ i % 256) := by rw [Nat.add_mul, Nat.mul_comm (256 ^ i)]
  rw [h1, h2, h3]
  omega
theorem unbe_be (i n : Nat) : unbe (be i n) = n % 256 ^ i := by unfold unbe; rw [unbe_be_gen]; simp
/-- what Put answers -/
def puts (b : List UInt8) (n : Nat) (w : Int) : List UInt8 := if wideB w then b ++ be w.toNat n else b
theorem puts_yes {b : List UInt8} {n : Nat} {w : Int} (h : wideB w = true) : puts b n w = b ++ be w.toNat n := by unfold puts; rw [if_pos h]
theorem puts_no {b : List UInt8} {n : Nat} {w : Int} (h : wideB w = false) : puts b n w = b := by unfold puts; rw [if_neg (by simp [h])]
/-- what PutText answers: bytes, and an error's number -/
def textErr (n : Nat) (w : Int) : Int := if w = 1 ∨ w = 2 ∨ w = 4 then (if n < 256 ^ w.toNat then 0 else 3) else 2
def putsText (b s : List UInt8) (w : Int) : List UInt8 := if textErr s.length w = 0 then b ++ be w.toNat s.length ++ s else []
theorem be_set (i n k : Nat) (h : k < i) : (List.replicate (i - k) 0 ++ be k n).set (i - 1 - k) (UInt8.ofNat (n / 256 ^ k)) = List.replicate (i - (k + 1)) 0 ++ be (k + 1) n := by
 have e : i - k = (i - 1 - k) + 1 := by omega
 rw [e, List.replicate_succ', List.append_assoc]
 have e2 : i - (k + 1) = i - 1 - k := by omega
 rw [e2, List.set_append_right _ _ (by simp)]
 simp [be]
/-- what a reader answers: what was read, what is left, is it bad -/
def mtake (l : List UInt8) (bad : Bool) (x : Int) : List UInt8 × List UInt8 × Bool := if bad = true ∨ x < 0 ∨ (l.length : Int) < x then ([], [], true) else (l.take x.toNat, l.drop x.toNat, false)
theorem mtake_no {l : List UInt8} {bad : Bool} {x : Int} (h : bad = true ∨ x < 0 ∨ (l.length : Int) < x) : mtake l bad x = ([], [], true) := by unfold mtake; rw [if_pos h]
theorem mtake_yes {l : List UInt8} {n : Nat} (h : n ≤ l.length) : mtake l false (n : Int) = (l.take n, l.drop n, false) := by unfold mtake; rw [if_neg (by simp; omega)]; simp
def mnum (l : List UInt8) (bad : Bool) (x : Int) : Nat × List UInt8 × Bool := if wideB x then (unbe (mtake l bad x).1, (mtake l bad x).2) else (0, [], true)
theorem mnum_no {l : List UInt8} {bad : Bool} {x : Int} (h : wideB x = false) : mnum l bad x = (0, [], true) := by unfold mnum; rw [if_neg (by simp [h])]
theorem mnum_yes {l : List UInt8} {bad : Bool} {x : Int} (h : wideB x = true) : mnum l bad x = (unbe (mtake l bad x).1, (mtake l bad x).2) := by unfold mnum; rw [if_pos h]
theorem unbe_nil : unbe [] = 0 := rfl
theorem mnum_lt (l : List UInt8) (bad : Bool) (x : Int) : (mnum l bad x).1 < 18446744073709551616 := by
 unfold mnum mtake
 split
 ·rename_i h
  have := wideB_le h
  split
  ·simp [unbe_nil]
  ·simp only
   refine Nat.lt_of_lt_of_le (unbe_lt _) ?_
   refine Nat.le_trans (Nat.pow_le_pow_right (by omega) (show (l.take x.toNat).length ≤ 8 by rw [List.length_take]; omega)) (by decide)
 ·simp
def mtext (l : List UInt8) (bad : Bool) (x most : Int) : List UInt8 × List UInt8 × Bool :=
 if x = 1 ∨ x = 2 ∨ x = 4 then
  let r := mnum l bad x
  if r.2.2 = true ∨ most < 0 ∨ most < (r.1 : Int) ∨ r.2.1.length < r.1 then ([], [], true) else mtake r.2.1 r.2.2 (r.1 : Int)
 else ([], [], true)
theorem mtext_no {l : List UInt8} {bad : Bool} {x most : Int} (h : ¬(x = 1 ∨ x = 2 ∨ x = 4)) : mtext l bad x most = ([], [], true) := by unfold mtext; rw [if_neg h]
theorem mtext_eq {l : List UInt8} {bad : Bool} {x most : Int} (h8 : x ≠ 8) : mtext l bad x most = if (mnum l bad x).2.2 = true ∨ most < 0 ∨ most < ((mnum l bad x).1 : Int) ∨ (mnum l bad x).2.1.length < (mnum l bad x).1 then ([], [], true) else mtake (mnum l bad x).2.1 (mnum l bad x).2.2 ((mnum l bad x).1 : Int) := by
 unfold mtext
 by_cases h : x = 1 ∨ x = 2 ∨ x = 4
 ·rw [if_pos h]
 ·rw [if_neg h, mnum_no (wideB_no (by omega) (by omega) (by omega) h8), if_pos (.inl rfl)]
end Go.PH
end
section
/- Frames as plain mathematics. No program in sight. -/
namespace Go.PH

structure Fr where
 first : Bool
 last : Bool
 beg : Bool
 fin : Bool
 ty : Nat
 track : Nat
 chan : Nat
 load : List UInt8
deriving DecidableEq
/-- what memory can hold -/
def Fr.wf (f : Fr) : Prop := f.ty < 256 ∧ f.track < 256 ∧ f.chan < 65536
def bitv (b : Bool) (n : Nat) : Nat := if b then n else 0
def Fr.flags (f : Fr) : Nat := bitv f.first 8 + bitv f.last 4 + bitv f.beg 2 + bitv f.fin 1
def Fr.ok (f : Fr) : Bool := decide (f.ty ≤ 3) && decide (f.track ≤ 15) && decide (f.load.length ≤ 4084)
def Fr.err (f : Fr) : Nat := if f.ok then 0 else 60
def Fr.bytes (f : Fr) : List UInt8 := [UInt8.ofNat f.flags, UInt8.ofNat f.ty] ++ be 2 (12 + f.load.length) ++ [0, UInt8.ofNat f.track] ++ be 2 f.chan ++ [0, 0, 0, 0] ++ f.load
def Fr.put (f : Fr) : List UInt8 := if f.ok then f.bytes else []
theorem Fr.flags_lt (f : Fr) : f.flags < 16 := by
 unfold Fr.flags bitv
 cases f.first <;> cases f.last <;> cases f.beg <;> cases f.fin <;> decide
end Go.PH
end

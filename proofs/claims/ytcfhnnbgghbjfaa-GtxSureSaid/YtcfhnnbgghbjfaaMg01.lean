/- Texts laid together: Box, Box2, Mem5, OctMath, Rec, RecOf, RecSet, RecSort. -/
import Derived.Laws.CopyRow
import Derived.Laws.CopyOwn
import Derived.Laws.Tables
import Derived.Laws.ResultCell
import Derived.Sort.OwnSorted
import Derived.Shelf.SlSortCmp.NoneTotal
import Derived.Test.YtcfhnnbgghbjfaaMg00
section
/- Boxes: blocks of known cells: what they hold behind stores, calls, new blocks. -/
set_option linter.all false
set_option linter.unusedSimpArgs false
set_option linter.unusedVariables false
namespace Go.PH
open Go.RowKit
section
variable {P : Program} {w w' : World} {g : Nat} {t : TypeId} {cs : Array Value}
/-- block g holds these cells, none of them frozen -/
def Box (w : World) (g : Nat) (t : TypeId) (cs : Array Value) : Prop := w.heap[g]? = some (.cells cs t (0, 0))
theorem Box.new (w : World) (cs : Array Value) (t : TypeId) : Box (w.alloc (.cells cs t)) w.heap.size t cs := by
  show (w.heap.push _)[w.heap.size]? = _
  simp
theorem Box.lt (h : Box w g t cs) : g < w.heap.size := (Array.getElem?_eq_some_iff.1 h).1
theorem Box.grown (h : Box w g t cs) {row : Option Nat} (hg : w.grownBy w' row) (hne : some g ≠ row) : Box w' g t cs := (hg.block g h.lt hne).trans h
theorem Box.below (h : Box w g t cs) (hB : Below w.heap.size w w') : Box w' g t cs := (hB.block g h.lt).trans h
theorem Box.alloc (h : Box w g t cs) (o : Obj) : Box (w.alloc o) g t cs := (Below.heap_alloc w o g h.lt).trans h
theorem Box.cell (h : Box w g t cs) {j : Nat} {u : Value} (hj : cs[j]? = some u) : w.cell? ⟨g, j, none⟩ = some u := by
  unfold Box at h
  simp [World.cell?, h, hj]
theorem Box.thaw (h : Box w g t cs) (j : Nat) : w.frozen? ⟨g, j, none⟩ = false := by
  unfold Box at h
  simp [World.frozen?, h]
theorem grownRow (w : World) (g : Nat) (cs : Array Value) : w.grownBy (w.setRow g cs) (some g) :=
  ⟨rfl, rfl, rfl, by simp, fun k _ hk => setRow_other w g k cs (fun e => hk (by rw [e]))⟩
theorem run_boxstore {ty : TypeId} {v : Value} {j : Nat} {vs : List Value} {cs' : Array Value} (hb : Box w g t cs) (hv : v.cells.toList = vs) (hi : (P.info? ty).map (·.size) = some vs.length) (hj : j + vs.length ≤ cs.size)
    (h1 : ∀ u ∈ vs, u.oneCell' = true) (hc : cs' = (cs.toList.take j ++ vs ++ cs.toList.drop (j + vs.length)).toArray) :
    (Instr.storeAt ty (.pointer (some ⟨g, j, none⟩)) v).run P w = .ok () (w.setRow g cs') := by
  have := run_storeCells_at (P := P) g j t vs 0 cs w hb (by simpa using hj) h1
  cases hq : P.info? ty with
  | none => simp [hq] at hi
  | some i =>
    have hs : v.cells.size = i.size := by rw [hq] at hi; simp at hi; rw [hi, ← hv]; simp
    subst hc
    simp [Instr.storeAt, Instr.sureAddr, storeVar, sizeOf, typeInfo, hq, hs, hv, this]
theorem Box.row (hb : Box w g t cs) (cs' : Array Value) : Box (w.setRow g cs') g t cs' := setRow_heap w g cs cs' t _ hb
variable {ops : Array Oper} {Q : Exit → Act → World → Prop} {rest : List Oper} {a : Act} {dst : Option Tmp} {ty : TypeId} {pos : String} {after : Array Edge} {guard : Option (Nat × Bool)}
theorem hold_store {t : TypeId} {x y : Operand} (h : Hold (wpList P ops Q (⟨dst, .store t x y, ty, pos, after, guard⟩ :: rest) a w)) :
    wpList P ops Q (⟨dst, .store t x y, ty, pos, after, guard⟩ :: rest) a w := h
/-- a store into a box, as an operation -/
theorem op_box {o : Oper} {K : Act → World → Prop} {x y : Operand} {v : Value} {j : Nat} {vs : List Value} (ho : o.op = .store ty x y) (hx : a.eval x = .pointer (some ⟨g, j, none⟩)) (hy : a.eval y = v)
    (hb : Box w g t cs) (hv : v.cells.toList = vs) (hi : (P.info? ty).map (·.size) = some vs.length) (hj : j + vs.length ≤ cs.size) (h1 : ∀ u ∈ vs, u.oneCell' = true) (cs' : Array Value) (hc : cs' = (cs.toList.take j ++ vs ++ cs.toList.drop (j + vs.length)).toArray)
    (h : ∀ w', Box w' g t cs' → w.grownBy w' (some g) → w'.heap.size = w.heap.size → K (a.put o.dst undef) w') : o.wp P a w K Q := by
  unfold Oper.wp execOp
  simp only [ho, hx, hy, Sem.run_bind, Sem.run_pure, Result.andThen_ok, run_boxstore hb hv hi hj h1 hc]
  exact h _ (hb.row _) (grownRow _ _ _) (by simp)
theorem wp_box {o : Oper} {x y : Operand} {v : Value} {j : Nat} {vs : List Value} (hw : Region.wanted o (yielded ops a.tmps) = true) (ho : o.op = .store ty x y) (hx : a.eval x = .pointer (some ⟨g, j, none⟩)) (hy : a.eval y = v)
    (hb : Box w g t cs) (hv : v.cells.toList = vs) (hi : (P.info? ty).map (·.size) = some vs.length) (hj : j + vs.length ≤ cs.size) (h1 : ∀ u ∈ vs, u.oneCell' = true) (cs' : Array Value) (hc : cs' = (cs.toList.take j ++ vs ++ cs.toList.drop (j + vs.length)).toArray)
    (h : ∀ w', Box w' g t cs' → w.grownBy w' (some g) → w'.heap.size = w.heap.size → wpList P ops Q rest (a.put o.dst undef) w') : wpList P ops Q (o :: rest) a w :=
  BigFrame.wpList_want hw fun K hK => op_box ho hx hy hb hv hi hj h1 cs' hc fun w' h1 h2 h3 => hK _ _ (h w' h1 h2 h3)
/-- a function's end whose first result lies in a box -/
theorem ret_box_tmp {fn : Func} {R : Ending → World → Prop} {a : Act} {w : World} {g : Nat} {t ty : TypeId} {cs : Array Value} {p u : Tmp} {v : Value} {d : TypeDesc} (hres : fn.results = #[.cell p ty, .tmp u]) (hb : Box w g t cs)
    (hp : a.tmps.getD p undef = .pointer (some ⟨g, 0, none⟩)) (hv : a.tmps.getD u undef = v) (hu : P.underlying ty = some d) (hd : (match d with | .struct _ | .array _ _ => true | _ => false) = true) (hi : (P.info? ty).map (·.size) = some cs.size)
    (hdf : a.defers = []) (hR : R (.returned (.tuple #[.agg cs, v])) w) : bodyPost P fn R .ret a w := by
  refine bodyPost_ret (v := .tuple #[.agg cs, v]) ?_ hdf hR
  rw [results_cell_tmp hres, hp, hv]
  simp [asAddr, run_loadVar_row w g t ty cs (0, 0) d hb hu hd hi, Result.andThen]
end
end Go.PH
end
section
/- A function's end whose first result of three lies in a box. -/
set_option linter.all false
set_option linter.unusedSimpArgs false
set_option linter.unusedVariables false
namespace Go.PH
open Go.RowKit
theorem results_cell_tmp2x {fn : Func} {p u v : Tmp} {ty : TypeId} (h : fn.results = #[.cell p ty, .tmp u, .tmp v]) (tmps : Array Value) (P : Program) (w : World) :
    (results fn tmps).run P w =
      ((asAddr (tmps.getD p undef)).run P w).andThen fun a w₁ => ((loadVar ty a).run P w₁).andThen fun x w₂ => .ok (.tuple #[x, tmps.getD u undef, tmps.getD v undef]) w₂ := by
  simp only [results, h]
  simp [Sem.run_bind, Result.andThen]
theorem ret_box_tmp2x {P : Program} {fn : Func} {R : Ending → World → Prop} {a : Act} {w : World} {g : Nat} {t ty : TypeId} {cs : Array Value} {p u u2 : Tmp} {v v2 : Value} {d : TypeDesc} (hres : fn.results = #[.cell p ty, .tmp u, .tmp u2]) (hb : Box w g t cs)
    (hp : a.tmps.getD p undef = .pointer (some ⟨g, 0, none⟩)) (hv : a.tmps.getD u undef = v) (hv2 : a.tmps.getD u2 undef = v2) (hu : P.underlying ty = some d) (hd : (match d with | .struct _ | .array _ _ => true | _ => false) = true) (hi : (P.info? ty).map (·.size) = some cs.size)
    (hdf : a.defers = []) (hR : R (.returned (.tuple #[.agg cs, v, v2])) w) : bodyPost P fn R .ret a w := by
  refine bodyPost_ret (v := .tuple #[.agg cs, v, v2]) ?_ hdf hR
  rw [results_cell_tmp2x hres, hp, hv, hv2]
  simp [asAddr, run_loadVar_row w g t ty cs (0, 0) d hb hu hd hi, Result.andThen]
end Go.PH
end
section
/- More words for memory: append of a text as one operation of a drawn region. -/
set_option linter.all false
set_option linter.unusedSimpArgs false
set_option linter.unusedVariables false
namespace Go.PH
open Go.RowKit
section
variable {P : Program} {w w' : World} {base e t n c : Nat} {A : Option Addr} {xs : List Value}
theorem op_app_str {o : Oper} {a : Act} {K : Act → World → Prop} {Q : Exit → Act → World → Prop} {s x : Operand} {u : TypeId} (hT : SlT P t e 1 1 (.int .u8 0)) (hu : P.underlying u = some .string)
    (ho : o.op = .call { callee := .builtin .append, args := #[s, x], argTypes := #[t, u] }) (hs : a.eval s = .slice A n c) {l : List UInt8} (hx : a.eval x = .string (str l))
    (hown : Own w base e 1 A n c xs) (hsz : n + l.length ≤ 140737488355328) (hbase : base ≤ w.heap.size)
    (h : ∀ A2 c2 w', Own w' base e 1 A2 (n + l.length) c2 (xs ++ l.map u8v) → w.grownBy w' (blk A) → K (a.put o.dst (.slice A2 (n + l.length) c2)) w') :
    o.wp P a w K Q := by
  obtain ⟨i, hi, hz, hs1, hby⟩ := hT.i
  obtain ⟨v', w', hrun, h2, h3, _⟩ := Lib.run_append_own_string (P := P) (w := w) base t u o.type e i hT.u hu hi hz hs1 hby _ n xs hown (str l) (by rw [str_size]; simp only [maxLen]; omega) (by rw [str_size]; omega) hbase
  rw [str_size] at h2
  obtain ⟨A2, c2, rfl⟩ := slice_of_own h2
  rw [ownBlock_eq] at h3
  have e1 : Lib.strCells (str l) = l.map u8v := by
    unfold Lib.strCells
    simp [str, u8v]
  rw [e1] at h2
  unfold Oper.wp execOp
  simp only [ho, resolve, invoke, builtin, Sem.run_bind, Sem.run_pure, Result.andThen_ok, List.map_toArray, List.map_cons, List.map_nil, hs, hx, hrun]
  exact h A2 c2 w' h2 h3
/-- what a walk between two worlds leaves of own rows -/
theorem own_below {w w' : World} {base e size n c : Nat} {A : Option Addr} {xs : List Value} (ho : Own w base e size A n c xs) (hB : Below w.heap.size w w') : Own w' base e size A n c xs :=
  ho.kept (row := none) ⟨hB.os, hB.tape, hB.output, hB.size, fun k hk _ => hB.block k hk⟩ (by cases hv : (Value.slice A n c).ownBlock <;> simp)
theorem own_stays {w w' : World} {base e size n c : Nat} {A : Option Addr} {xs : List Value} {row : Option Nat} (ho : Own w base e size A n c xs) (hg : w.grownBy w' row) (h : ∀ g, blk A = some g → row ≠ some g) : Own w' base e size A n c xs :=
  ho.kept hg (by
    rw [ownBlock_eq]
    cases hA : blk A with
    | none => exact .inl rfl
    | some g => exact .inr fun e => h g hA e.symm)
end
end Go.PH
end
section
/- Numbers and texts as bytes, as plain mathematics. No program in sight. -/
namespace Go.PH

/-- a number's lowest i bytes, the highest first -/
def be : Nat → Nat → List UInt8
  | 0, _ => []
  | i + 1, n => UInt8.ofNat (n / 256 ^ i) :: be i n
theorem be_length (i n : Nat) : (be i n).length = i := by
  induction i with
  | zero => rfl
  | succ i ih => simp [be, ih]
/-- the widths that numbers may have -/
def wideB (w : Int) : Bool := w == 1 || w == 2 || w == 4 || w == 8
theorem wideB_iff (w : Int) : wideB w = true ↔ (w = 1 ∨ w = 2 ∨ w = 4 ∨ w = 8) := by unfold wideB; simp [or_assoc]
theorem wideB_yes {w : Int} (h : w = 1 ∨ w = 2 ∨ w = 4 ∨ w = 8) : wideB w = true := (wideB_iff w).2 h
theorem wideB_no {w : Int} (h1 : w ≠ 1) (h2 : w ≠ 2) (h4 : w ≠ 4) (h8 : w ≠ 8) : wideB w = false := by unfold wideB; simp [h1, h2, h4, h8]
theorem wideB_le {w : Int} (h : wideB w = true) : 1 ≤ w ∧ w ≤ 8 := by rw [wideB_iff] at h; omega
/-- bytes as a number, the highest first -/
def unbe (l : List UInt8) : Nat := l.foldl (fun n c => 256 * n + c.toNat) 0
theorem unbe_snoc (l : List UInt8) (c : UInt8) : unbe (l ++ [c]) = 256 * unbe l + c.toNat := by simp [unbe]
theorem unbe_lt (l : List UInt8) : unbe l < 256 ^ l.length := by
  have key : ∀ (l : List UInt8) (n k : Nat), n < 256 ^ k → l.foldl (fun n c => 256 * n + c.toNat) n < 256 ^ (k + l.length) := by
    intro l
    induction l with
    | nil => intro n k h; simpa using h
    | cons c l ih =>
      intro n k h
      simp only [List.foldl_cons, List.length_cons]
      have := ih (256 * n + c.toNat) (k + 1) (by have := c.toNat_lt; rw [Nat.pow_succ]; omega)
      rwa [Nat.add_right_comm, Nat.add_assoc] at this
  have := key l 0 0 (by simp)
  rwa [Nat.zero_add] at this
theorem unbe_be_gen (i n : Nat) : ∀ acc : Nat, (be i n).foldl (fun n c => 256 * n + c.toNat) acc = acc * 256 ^ i + n % 256 ^ i := by
  induction i with
  | zero => intro acc; simp [be, Nat.mod_one]
  | succ i ih =>
    intro acc
    simp only [be, List.foldl_cons, ih, UInt8.toNat_ofNat']
    have h1 : n % 256 ^ (i + 1) = n % 256 ^ i + 256 ^ i * (n / 256 ^ i % 256) := by rw [Nat.pow_succ, Nat.mod_mul]
    have h2 : acc * 256 ^ (i + 1) = 256 * acc * 256 ^ i := by rw [Nat.pow_succ, Nat.mul_comm 256 acc, Nat.mul_assoc, Nat.mul_comm 256]
    have h3 : (256 * acc + n / 256 ^ i % 2 ^ 8) * 256 ^ i = 256 * acc * 256 ^ i + 256 ^ i * (n / 256 ^ i % 256) := by rw [Nat.add_mul, Nat.mul_comm (256 ^ i)]
    rw [h1, h2, h3]
    omega
theorem unbe_be (i n : Nat) : unbe (be i n) = n % 256 ^ i := by unfold unbe; rw [unbe_be_gen]; simp
/-- what Put answers -/
def puts (b : List UInt8) (n : Nat) (w : Int) : List UInt8 := if wideB w then b ++ be w.toNat n else b
theorem puts_yes {b : List UInt8} {n : Nat} {w : Int} (h : wideB w = true) : puts b n w = b ++ be w.toNat n := by unfold puts; rw [if_pos h]
theorem puts_no {b : List UInt8} {n : Nat} {w : Int} (h : wideB w = false) : puts b n w = b := by unfold puts; rw [if_neg (by simp [h])]
/-- what PutText answers: bytes, and an error's number -/
def textErr (n : Nat) (w : Int) : Int := if w = 1 ∨ w = 2 ∨ w = 4 then (if n < 256 ^ w.toNat then 0 else 3) else 2
def putsText (b s : List UInt8) (w : Int) : List UInt8 := if textErr s.length w = 0 then b ++ be w.toNat s.length ++ s else []
theorem be_set (i n k : Nat) (h : k < i) : (List.replicate (i - k) 0 ++ be k n).set (i - 1 - k) (UInt8.ofNat (n / 256 ^ k)) = List.replicate (i - (k + 1)) 0 ++ be (k + 1) n := by
  have e : i - k = (i - 1 - k) + 1 := by omega
  rw [e, List.replicate_succ', List.append_assoc]
  have e2 : i - (k + 1) = i - 1 - k := by omega
  rw [e2, List.set_append_right _ _ (by simp)]
  simp [be]
/-- from the lowest up -/
theorem be_succ' (i n : Nat) : be i (n / 256) ++ [UInt8.ofNat n] = be (i + 1) n := by
  induction i with
  | zero => simp [be]
  | succ i ih =>
    rw [be, List.cons_append, ih, be]
    congr 2
    rw [Nat.div_div_eq_div_mul, Nat.pow_succ, Nat.mul_comm]
/-- what a reader answers: what was read, what is left, is it bad -/
def mtake (l : List UInt8) (bad : Bool) (x : Int) : List UInt8 × List UInt8 × Bool := if bad = true ∨ x < 0 ∨ (l.length : Int) < x then ([], [], true) else (l.take x.toNat, l.drop x.toNat, false)
theorem mtake_no {l : List UInt8} {bad : Bool} {x : Int} (h : bad = true ∨ x < 0 ∨ (l.length : Int) < x) : mtake l bad x = ([], [], true) := by unfold mtake; rw [if_pos h]
theorem mtake_yes {l : List UInt8} {n : Nat} (h : n ≤ l.length) : mtake l false (n : Int) = (l.take n, l.drop n, false) := by unfold mtake; rw [if_neg (by simp; omega)]; simp
def mnum (l : List UInt8) (bad : Bool) (x : Int) : Nat × List UInt8 × Bool := if wideB x then (unbe (mtake l bad x).1, (mtake l bad x).2) else (0, [], true)
theorem mnum_no {l : List UInt8} {bad : Bool} {x : Int} (h : wideB x = false) : mnum l bad x = (0, [], true) := by unfold mnum; rw [if_neg (by simp [h])]
theorem mnum_yes {l : List UInt8} {bad : Bool} {x : Int} (h : wideB x = true) : mnum l bad x = (unbe (mtake l bad x).1, (mtake l bad x).2) := by unfold mnum; rw [if_pos h]
theorem unbe_nil : unbe [] = 0 := rfl
theorem mnum_lt (l : List UInt8) (bad : Bool) (x : Int) : (mnum l bad x).1 < 18446744073709551616 := by
  unfold mnum mtake
  split
  · rename_i h
    have := wideB_le h
    split
    · simp [unbe_nil]
    · simp only
      refine Nat.lt_of_lt_of_le (unbe_lt _) ?_
      refine Nat.le_trans (Nat.pow_le_pow_right (by omega) (show (l.take x.toNat).length ≤ 8 by rw [List.length_take]; omega)) (by decide)
  · simp
def mtext (l : List UInt8) (bad : Bool) (x most : Int) : List UInt8 × List UInt8 × Bool :=
  if x = 1 ∨ x = 2 ∨ x = 4 then
    let r := mnum l bad x
    if r.2.2 = true ∨ most < 0 ∨ most < (r.1 : Int) ∨ r.2.1.length < r.1 then ([], [], true) else mtake r.2.1 r.2.2 (r.1 : Int)
  else ([], [], true)
theorem mtext_no {l : List UInt8} {bad : Bool} {x most : Int} (h : ¬(x = 1 ∨ x = 2 ∨ x = 4)) : mtext l bad x most = ([], [], true) := by unfold mtext; rw [if_neg h]
theorem mtext_eq {l : List UInt8} {bad : Bool} {x most : Int} (h8 : x ≠ 8) : mtext l bad x most = if (mnum l bad x).2.2 = true ∨ most < 0 ∨ most < ((mnum l bad x).1 : Int) ∨ (mnum l bad x).2.1.length < (mnum l bad x).1 then ([], [], true) else mtake (mnum l bad x).2.1 (mnum l bad x).2.2 ((mnum l bad x).1 : Int) := by
  unfold mtext
  by_cases h : x = 1 ∨ x = 2 ∨ x = 4
  · rw [if_pos h]
  · rw [if_neg h, mnum_no (wideB_no (by omega) (by omega) (by omega) h8), if_pos (.inl rfl)]
end Go.PH
end
section
/- Rows of records, whatever a record's cells are. -/
set_option linter.all false
set_option linter.unusedSimpArgs false
set_option linter.unusedVariables false
namespace Go.PH
open Go.RowKit
section
variable {α : Type} {f : α → List Value} {sz : Nat}
/-- every record has so many cells, each of one cell -/
structure RecShape (f : α → List Value) (sz : Nat) : Prop where
  len : ∀ a, (f a).length = sz
  one : ∀ a, ∀ u ∈ f a, u.oneCell' = true
  pos : 0 < sz
def rowC (f : α → List Value) (l : List α) : List Value := l.flatMap f
theorem rowC_cons (a : α) (l : List α) : rowC f (a :: l) = f a ++ rowC f l := rfl
theorem rowC_nil : rowC f ([] : List α) = [] := rfl
theorem rowC_app (a b : List α) : rowC f (a ++ b) = rowC f a ++ rowC f b := by simp [rowC]
theorem rowC_len (h : RecShape f sz) (l : List α) : (rowC f l).length = l.length * sz := by
  induction l with
  | nil => simp [rowC]
  | cons a l ih => rw [rowC_cons, List.length_append, ih, h.len, List.length_cons, Nat.add_mul]; omega
theorem rowC_take (h : RecShape f sz) : ∀ (l : List α) (k : Nat), (rowC f l).take (k * sz) = rowC f (l.take k)
  | [], k => by simp [rowC]
  | a :: l, 0 => by simp [rowC]
  | a :: l, k + 1 => by
    rw [rowC_cons, List.take_succ_cons, rowC_cons, ← rowC_take h l k, Nat.add_mul, Nat.one_mul, Nat.add_comm, List.take_add' h a]
where
  List.take_add' (h : RecShape f sz) (a : α) {x : List Value} {m : Nat} : (f a ++ x).take (sz + m) = f a ++ x.take m := by
    rw [List.take_append, h.len, List.take_of_length_le (by rw [h.len]; omega), Nat.add_sub_cancel_left]
theorem rowC_drop (h : RecShape f sz) : ∀ (l : List α) (k : Nat), (rowC f l).drop (k * sz) = rowC f (l.drop k)
  | [], k => by simp [rowC]
  | a :: l, 0 => by simp
  | a :: l, k + 1 => by
    rw [rowC_cons, List.drop_succ_cons, ← rowC_drop h l k, Nat.add_mul, Nat.one_mul, Nat.add_comm, List.drop_append, h.len, List.drop_of_length_le (by rw [h.len]; omega), Nat.add_sub_cancel_left, List.nil_append]
theorem rowC_get (h : RecShape f sz) : ∀ (l : List α) (k : Nat) (hk : k < l.length) (j : Nat), j < sz → (rowC f l)[k * sz + j]? = (f l[k])[j]?
  | a :: l, 0, _, j, hj => by
    rw [rowC_cons, Nat.zero_mul, Nat.zero_add, List.getElem?_append_left (by rw [h.len]; exact hj)]; rfl
  | a :: l, k + 1, hk, j, hj => by
    have := rowC_get h l k (by simpa using hk) j hj
    rw [rowC_cons, List.getElem?_append_right (by rw [h.len, Nat.add_mul]; omega), h.len, Nat.add_mul, show k * sz + 1 * sz + j - sz = k * sz + j by omega, this]
    rfl
theorem rowC_one (h : RecShape f sz) (l : List α) : ∀ u ∈ rowC f l, u.oneCell' = true := by
  intro u hu
  obtain ⟨a, _, hu⟩ := List.mem_flatMap.1 hu
  exact h.one a u hu
variable {w w' : World} {B n c base e : Nat} {A : Option Addr} {l : List α}
theorem rec_length (h : RecShape f sz) (hr : Rd w B sz A n c (rowC f l)) : l.length = n := by
  have := hr.len
  rw [rowC_len h] at this
  exact Nat.eq_of_mul_eq_mul_right h.pos this
theorem rec_at (h : RecShape f sz) (hr : Rd w B sz A n c (rowC f l)) {k : Nat} (hk : k < n) : ∃ b off, A = some ⟨b, off, none⟩ ∧ b < B ∧ ∃ hl : k < l.length, ∀ j u, (f l[k])[j]? = some u → w.cell? ⟨b, off + k * sz + j, none⟩ = some u := by
  obtain ⟨b, off, e, hb, hc⟩ := hr.at_ (by omega)
  have hl := rec_length h hr
  refine ⟨b, off, e, hb, by omega, fun j u hu => ?_⟩
  have hj : j < sz := by have := (List.getElem?_eq_some_iff.1 hu).1; rwa [h.len] at this
  have := hc (k * sz + j) u ((rowC_get h l k (by omega) j hj).trans hu)
  rwa [← Nat.add_assoc] at this
theorem rec_cut (h : RecShape f sz) {lo k : Nat} (hr : Rd w B sz A n c (rowC f l)) (hk : lo + k ≤ n) : Rd w B sz (cutA A sz lo c) k (c - lo) (rowC f ((l.drop lo).take k)) := by
  have h1 := rd_cut hr lo (lo + k) c (by omega) (by have := hr.cap; omega) (Nat.le_refl _) hk
  rw [rowC_take h, rowC_drop h, List.drop_take, Nat.add_sub_cancel_left] at h1
  exact h1
theorem own_len (h : RecShape f sz) (ho : Own w base e sz A n c (rowC f l)) : l.length = n := rec_length h ho.rd
theorem below_own_grown (ho : Own w base e sz A n c (rowC f l)) (hg : w.grownBy w' (blk A)) (hb : base ≤ w.heap.size) : Below base w w' :=
  (Below.refl base w).grown hg hb (fun _ hg => (ho.blk_lt hg).1)
/-- a record put behind an own row, as one operation of a drawn region -/
theorem op_rec {P : Program} {W : World} {o : Oper} {a : Act} {K : Act → World → Prop} {Q : Exit → Act → World → Prop} {s x : Operand} {t t2 e2 bytes g : Nat} {z : Value} (h : RecShape f sz) (hT : SlT P t e sz bytes z) (h2 : P.underlying t2 = some (.slice e2))
    (ho : o.op = .call { callee := .builtin .append, args := #[s, x], argTypes := #[t, t2] }) (hs : a.eval s = .slice A n c) (hx : a.eval x = .slice (some ⟨g, 0, none⟩) 1 1) (hg : g = W.heap.size) {cs : Array Value}
    (r : α) (hcs : cs.toList = f r) (hown : Own W base e sz A n c (rowC f l)) (hn : (n + 1) * bytes ≤ 140737488355328) (hn2 : n ≤ 1000000000) (hbase : base ≤ W.heap.size)
    (hk : ∀ A2 c2 w', Own w' base e sz A2 (n + 1) c2 (rowC f (l ++ [r])) → W.grownBy w' (blk A) → (blk A2 = blk A ∨ ∀ g, blk A2 = some g → W.heap.size ≤ g) → Below base W w' → K (a.put o.dst (.slice A2 (n + 1) c2)) w') :
    o.wp P a (W.alloc (.cells cs e)) K Q := by
  subst hg
  have hcz : cs.size = 1 * sz := by rw [Nat.one_mul, ← h.len r, ← hcs]; simp
  have hlit := own_lit (w := W) base cs e 1 hbase (by simp [maxLen]) hcz h.pos
  have ho2 : Own (W.alloc (.cells cs e)) base e sz A n c (rowC f l) := hown.alloc _
  refine op_app (ops := #[]) hT h2 ho hs hx ho2 hlit.rd (fun u hu => h.one r u (by rw [← hcs]; exact hu)) hn (by simp [maxLen]; omega) (by simp; omega) fun A2 c2 w' a1 a2 a3 => ?_
  have e1 : rowC f l ++ cs.toList = rowC f (l ++ [r]) := by rw [rowC_app, hcs]; simp [rowC]
  rw [e1] at a1
  have hB2 : Below base W (W.alloc (.cells cs e)) := (Below.refl _ _).alloc hbase _
  have hgr : W.grownBy w' (blk A) := ⟨a2.os, a2.tape, a2.output, Nat.le_trans hB2.size a2.size, fun k hk hne => (a2.block k (by simp; omega) hne).trans (((Below.refl W.heap.size W).alloc (Nat.le_refl _) _).block k hk)⟩
  refine hk A2 c2 w' a1 hgr ?_ ((Below.refl _ _).grown hgr hbase (fun g hg => (hown.blk_lt hg).1))
  rcases a3 with h3 | h3
  · exact .inl h3
  · refine .inr fun g hg => ?_
    rw [h3] at hg
    simp at hg; omega
theorem wp_rec {P : Program} {W : World} {ops : Array Oper} {rest : List Oper} {o : Oper} {a : Act} {Q : Exit → Act → World → Prop} {s x : Operand} {t t2 e2 bytes g : Nat} {z : Value} (h : RecShape f sz) (hT : SlT P t e sz bytes z) (h2 : P.underlying t2 = some (.slice e2)) (hw : Region.wanted o (yielded ops a.tmps) = true)
    (ho : o.op = .call { callee := .builtin .append, args := #[s, x], argTypes := #[t, t2] }) (hs : a.eval s = .slice A n c) (hx : a.eval x = .slice (some ⟨g, 0, none⟩) 1 1) (hg : g = W.heap.size) {cs : Array Value}
    (r : α) (hcs : cs.toList = f r) (hown : Own W base e sz A n c (rowC f l)) (hn : (n + 1) * bytes ≤ 140737488355328) (hn2 : n ≤ 1000000000) (hbase : base ≤ W.heap.size)
    (hk : ∀ A2 c2 w', Own w' base e sz A2 (n + 1) c2 (rowC f (l ++ [r])) → W.grownBy w' (blk A) → (blk A2 = blk A ∨ ∀ g, blk A2 = some g → W.heap.size ≤ g) → Below base W w' → wpList P ops Q rest (a.put o.dst (.slice A2 (n + 1) c2)) w') :
    wpList P ops Q (o :: rest) a (W.alloc (.cells cs e)) := by
  refine BigFrame.wpList_want hw fun K hK => ?_
  exact op_rec h hT h2 ho hs hx hg r hcs hown hn hn2 hbase fun A2 c2 w' a1 a2 a3 a4 => hK _ _ (hk A2 c2 w' a1 a2 a3 a4)
end
end Go.PH
end
section
/- A row that is read record by record is a row of records. -/
set_option linter.all false
set_option linter.unusedSimpArgs false
set_option linter.unusedVariables false
namespace Go.PH
open Go.RowKit
variable {α : Type} {f : α → List Value} {sz : Nat}
theorem rec_row {C : α → Prop} (h : RecShape f sz) {L : List α} : ∀ {xs : List Value}, xs.length = L.length * sz → (∀ i (hi : i < L.length), (xs.drop (i * sz)).take sz = f L[i] ∧ C L[i]) → xs = rowC f L := by
  induction L with
  | nil => intro xs hx _; rw [rowC_nil]; simpa using hx
  | cons a L ih =>
    intro xs hx hr
    have h0 := (hr 0 (by simp)).1
    simp only [Nat.zero_mul, List.drop_zero, List.getElem_cons_zero] at h0
    have hx' : xs.length = L.length * sz + sz := by rw [hx, List.length_cons, Nat.add_mul, Nat.one_mul]
    rw [rowC_cons, ← h0, ← ih (xs := xs.drop sz) (by rw [List.length_drop]; omega) (fun i hi => by
      have := hr (i + 1) (by simp; omega)
      rw [List.drop_drop, show sz + i * sz = (i + 1) * sz by rw [Nat.add_mul, Nat.one_mul, Nat.add_comm]]
      simpa using this)]
    rw [List.take_append_drop]
theorem rec_of {C : α → Prop} (h : RecShape f sz) {A : Option Addr} {n c B : Nat} {xs : List Value} {L : List α} {w : World} (hb : Rd w B sz A n c xs) (hn : L.length = n) (hr : ∀ i (hi : i < L.length), (xs.drop (i * sz)).take sz = f L[i] ∧ C L[i]) :
    Rd w B sz A n c (rowC f L) ∧ ∀ a ∈ L, C a := by
  have hx := hb.len
  subst hn
  have e := rec_row h hx hr
  subst e
  refine ⟨hb, fun a ha => ?_⟩
  obtain ⟨i, hi, rfl⟩ := List.getElem_of_mem ha
  exact (hr i hi).2
end Go.PH
end
section
/- Own rows of records: an element (or a part of it) stored, the tail cleared, the front kept. -/
set_option linter.all false
set_option linter.unusedSimpArgs false
set_option linter.unusedVariables false
namespace Go.PH
open Go.RowKit
section
variable {α : Type} {f : α → List Value} {sz : Nat} {P : Program} {w w' : World} {base e n c g m t bytes : Nat} {A : Option Addr} {l : List α} {z : Value}
theorem own_heap (ho : Own w base e sz (some ⟨g, 0, none⟩) n c (rowC f l)) : ∃ cur, base ≤ g ∧ w.heap[g]? = some (.cells cur e (0, 0)) ∧ n ≤ c ∧ c ≤ maxLen ∧ cur.size = c * sz ∧ cur.toList.take (n * sz) = rowC f l := by
  rcases ho.2 with ⟨hv, _⟩ | ⟨g', cap, cur, hv, h1, h2, h3, h4, h5, h6⟩
  · injection hv with h1; cases h1
  · injection hv with e1 e2 e3
    injection e1 with e1
    injection e1 with e1
    subst e1 e3
    exact ⟨cur, h1, h2, h3, h4, h5, h6⟩
theorem own_front (h : RecShape f sz) (ho : Own w base e sz A n c (rowC f l)) {k : Nat} (hk : k ≤ n) (h0 : A = none → k = 0) : Own w base e sz A k c (rowC f (l.take k)) := by
  have hn := own_len h ho
  refine ⟨by rw [rowC_len h, List.length_take, hn, Nat.min_eq_left hk], ?_⟩
  rcases ho.2 with ⟨hv, rfl⟩ | ⟨g, cap, cur, hv, h1, h2, h3, h4, h5, h6⟩
  · obtain rfl : k = 0 := by omega
    exact .inl ⟨hv, rfl⟩
  · injection hv with e1 e2 e3
    subst e1 e3
    refine .inr ⟨g, c, cur, rfl, h1, h2, by omega, h4, h5, ?_⟩
    rw [← rowC_take h, ← h6, List.take_take, Nat.min_eq_left (Nat.mul_le_mul_right _ hk)]
theorem own_some (ho : Own w base e sz A n c (rowC f l)) (hn : 0 < n) : ∃ g, A = some ⟨g, 0, none⟩ ∧ base ≤ g ∧ g < w.heap.size := by
  rcases ho.2 with ⟨hv, rfl⟩ | ⟨g, cap, cur, hv, h1, h2, _⟩
  · omega
  · injection hv with e1 e2 e3
    exact ⟨g, e1, h1, (Array.getElem?_eq_some_iff.1 h2).1⟩
theorem rowC_set (h : RecShape f sz) (r : α) : ∀ (l : List α) (k : Nat), k < l.length → rowC f (l.set k r) = rowC f (l.take k) ++ f r ++ rowC f (l.drop (k + 1))
  | a :: l, 0, _ => by simp [rowC]
  | a :: l, k + 1, hk => by
    rw [List.set_cons_succ, rowC_cons, rowC_set h r l k (by simpa using hk), List.take_succ_cons, rowC_cons, List.drop_succ_cons]
    simp
theorem rowC_split (f : α → List Value) (l : List α) (k : Nat) (hk : k < l.length) : rowC f l = rowC f (l.take k) ++ f l[k] ++ rowC f (l.drop (k + 1)) := by
  have e : l = l.take k ++ [l[k]] ++ l.drop (k + 1) := by simp
  have e2 : rowC f l = rowC f (l.take k ++ [l[k]] ++ l.drop (k + 1)) := by rw [← e]
  rw [e2, rowC_app, rowC_app]
  simp [rowC]
theorem own_put (h : RecShape f sz) (ho : Own w base e sz (some ⟨g, 0, none⟩) n c (rowC f l)) {cur : Array Value} (hb : w.heap[g]? = some (.cells cur e (0, 0))) {k i : Nat} {vs : List Value} {r : α} (hk : k < n) (hkl : k < l.length)
    (hf : f r = (f l[k]).take i ++ vs ++ (f l[k]).drop (i + vs.length)) (hi : i + vs.length ≤ sz) (hB : w'.heap[g]? = some (.cells (cur.toList.take (k * sz + i) ++ vs ++ cur.toList.drop (k * sz + i + vs.length)).toArray e (0, 0))) :
    Own w' base e sz (some ⟨g, 0, none⟩) n c (rowC f (l.set k r)) := by
  obtain ⟨cur', hbg, hb', hnc, hcm, hcs, ht⟩ := own_heap ho
  rw [hb] at hb'
  injection hb' with hb'
  injection hb' with hb'
  subst hb'
  have hn := own_len h ho
  have hks : k * sz + sz ≤ n * sz := by have := Nat.mul_le_mul_right sz (show k + 1 ≤ n by omega); rw [Nat.add_mul, Nat.one_mul] at this; exact this
  have hnz : n * sz ≤ c * sz := Nat.mul_le_mul_right _ hnc
  refine ⟨by rw [rowC_len h, List.length_set, hn], .inr ⟨g, c, _, rfl, hbg, hB, hnc, hcm, ?_, ?_⟩⟩
  · simp only [List.size_toArray, List.length_append, List.length_take, List.length_drop, Array.length_toList, hcs]
    omega
  · have hX : (cur.toList.take (k * sz + i) ++ vs ++ cur.toList.drop (k * sz + i + vs.length)).take (n * sz) = (rowC f l).take (k * sz + i) ++ vs ++ (rowC f l).drop (k * sz + i + vs.length) := by
      rw [← ht, List.take_append, List.take_append, List.take_take, List.take_take, List.length_append, List.length_take, Array.length_toList, hcs, List.drop_take]
      have e1 : min (n * sz) (k * sz + i) = k * sz + i := by omega
      have e2 : min (k * sz + i) (n * sz) = k * sz + i := by omega
      have e3 : min (k * sz + i) (c * sz) = k * sz + i := by omega
      rw [e1, e2, e3, List.take_of_length_le (show vs.length ≤ n * sz - (k * sz + i) by omega)]
      try congr 2
    have hrl : (rowC f (l.take k)).length = k * sz := by rw [rowC_len h, List.length_take, Nat.min_eq_left (by omega)]
    have hS := rowC_split f l k hkl
    have hfl := h.len l[k]
    rw [show (cur.toList.take (k * sz + i) ++ vs ++ cur.toList.drop (k * sz + i + vs.length)).toArray.toList = _ from rfl, hX, rowC_set h r l k hkl, hf, hS, List.append_assoc (rowC f (l.take k)) (f l[k])]
    have t1 : (rowC f (l.take k) ++ (f l[k] ++ rowC f (l.drop (k + 1)))).take (k * sz + i) = rowC f (l.take k) ++ (f l[k]).take i := by
      rw [List.take_append, hrl, Nat.add_sub_cancel_left, List.take_of_length_le (by omega), List.take_append_of_le_length (by omega)]
    have t2 : (rowC f (l.take k) ++ (f l[k] ++ rowC f (l.drop (k + 1)))).drop (k * sz + i + vs.length) = (f l[k]).drop (i + vs.length) ++ rowC f (l.drop (k + 1)) := by
      rw [List.drop_append, hrl, List.drop_of_length_le (by omega), Nat.add_assoc, Nat.add_sub_cancel_left, List.nil_append, List.drop_append_of_le_length (by omega)]
    rw [t1, t2]
    simp
/-- a store into an own row: an element, or a part of it -/
theorem op_recset {o : Oper} {a : Act} {K : Act → World → Prop} {Q : Exit → Act → World → Prop} {x y : Operand} {ty : TypeId} {v : Value} {k i j : Nat} {vs : List Value} (h : RecShape f sz) (ho : o.op = .store ty x y) (hx : a.eval x = .pointer (some ⟨g, j, none⟩)) (hy : a.eval y = v)
    (hown : Own w base e sz (some ⟨g, 0, none⟩) n c (rowC f l)) (hk : k < n) (hkl : k < l.length) (r : α) (hv : v.cells.toList = vs) (hi : (P.info? ty).map (·.size) = some vs.length) (hf : f r = (f l[k]).take i ++ vs ++ (f l[k]).drop (i + vs.length)) (hil : i + vs.length ≤ sz) (hj : j = k * sz + i)
    (hc : ∀ w', Own w' base e sz (some ⟨g, 0, none⟩) n c (rowC f (l.set k r)) → w.grownBy w' (some g) → w'.heap.size = w.heap.size → K (a.put o.dst undef) w') : o.wp P a w K Q := by
  subst hj
  obtain ⟨cur, hbg, hb, hnc, hcm, hcs, ht⟩ := own_heap hown
  have hks : k * sz + sz ≤ n * sz := by have := Nat.mul_le_mul_right sz (show k + 1 ≤ n by omega); rw [Nat.add_mul, Nat.one_mul] at this; exact this
  have hnz : n * sz ≤ c * sz := Nat.mul_le_mul_right _ hnc
  have h1 : ∀ u ∈ vs, u.oneCell' = true := fun u hu => h.one r u (by rw [hf]; simp [hu])
  exact op_box ho hx hy (show Box w g e cur from hb) hv hi (by omega) h1 _ rfl fun w' b1 b2 b3 => hc w' (own_put h hown hb hk hkl hf hil b1) b2 b3
theorem wp_recset {ops : Array Oper} {rest : List Oper} {o : Oper} {a : Act} {Q : Exit → Act → World → Prop} {x y : Operand} {ty : TypeId} {v : Value} {k i j : Nat} {vs : List Value} (h : RecShape f sz) (hw : Region.wanted o (yielded ops a.tmps) = true) (ho : o.op = .store ty x y) (hx : a.eval x = .pointer (some ⟨g, j, none⟩)) (hy : a.eval y = v)
    (hown : Own w base e sz (some ⟨g, 0, none⟩) n c (rowC f l)) (hk : k < n) (hkl : k < l.length) (r : α) (hv : v.cells.toList = vs) (hi : (P.info? ty).map (·.size) = some vs.length) (hf : f r = (f l[k]).take i ++ vs ++ (f l[k]).drop (i + vs.length)) (hil : i + vs.length ≤ sz) (hj : j = k * sz + i)
    (hc : ∀ w', Own w' base e sz (some ⟨g, 0, none⟩) n c (rowC f (l.set k r)) → w.grownBy w' (some g) → w'.heap.size = w.heap.size → wpList P ops Q rest (a.put o.dst undef) w') : wpList P ops Q (o :: rest) a w :=
  BigFrame.wpList_want hw fun K hK => op_recset h ho hx hy hown hk hkl r hv hi hf hil hj fun w' h1 h2 h3 => hK _ _ (hc w' h1 h2 h3)
/-- the tail cleared: the front stays -/
theorem wp_rectail {ops : Array Oper} {rest : List Oper} {o : Oper} {a : Act} {Q : Exit → Act → World → Prop} {x : Operand} {k c' : Nat} {zs : Array Value} (h : RecShape f sz) (hw : Region.wanted o (yielded ops a.tmps) = true) (ho : o.op = .call { callee := .builtin .clear, args := #[x], argTypes := #[t] })
    (hu : P.underlying t = some (.slice e)) (hz : ∀ w, (zeroValue e).run P w = .ok z w) (hzs : z.cells = zs) (hz1 : zs.size = sz) (hz2 : ∀ u ∈ zs.toList, u.oneCell' = true)
    (hown : Own w base e sz (some ⟨g, 0, none⟩) n c (rowC f l)) (hk : k < n) (hx : a.eval x = .slice (some ⟨g, k * sz, none⟩) (n - k) c')
    (hc : ∀ w', Own w' base e sz (some ⟨g, 0, none⟩) k c (rowC f (l.take k)) → w.grownBy w' (some g) → w'.heap.size = w.heap.size → wpList P ops Q rest (a.put o.dst (.tuple #[])) w') : wpList P ops Q (o :: rest) a w := by
  refine BigFrame.wpList_want hw fun K hK => ?_
  obtain ⟨cur, hbg, hb, hnc, hcm, hcs, ht⟩ := own_heap hown
  have hn := own_len h hown
  have hfront := own_front h hown (k := k) (by omega) (by intro h; cases h)
  obtain ⟨vs, hvs⟩ : ∃ vs, vs = (Builtin.zeroCells zs (n - k)).toList := ⟨_, rfl⟩
  have hvl : vs.length = (n - k) * sz := by rw [hvs]; simp [Builtin.zeroCells, hz1]
  have hsum : k * sz + (n - k) * sz = n * sz := by rw [← Nat.add_mul]; congr 1; omega
  have hnz : n * sz ≤ c * sz := Nat.mul_le_mul_right _ hnc
  have hv1 : ∀ u ∈ vs, u.oneCell' = true := by
    intro u hu
    rw [hvs] at hu
    simp only [Builtin.zeroCells, Array.toList_map, List.mem_map] at hu
    obtain ⟨i, _, rfl⟩ := hu
    have hi : i % zs.size < zs.size := Nat.mod_lt _ (by rw [hz1]; exact h.pos)
    rw [getElem!_pos zs _ hi]
    exact hz2 _ (by simp)
  have hst := run_storeCells_at (P := P) g (k * sz) e vs 0 cur w hb (by rw [hvl]; omega) hv1
  have hrun : (Builtin.clear_ #[t] o.type #[.slice (some ⟨g, k * sz, none⟩) (n - k) c']).run P w = .ok (.tuple #[]) (w.setRow g (cur.toList.take (k * sz) ++ vs ++ cur.toList.drop (k * sz + vs.length)).toArray) := by
    obtain ⟨q, hq⟩ : ∃ q, n - k = q + 1 := ⟨n - k - 1, by omega⟩
    rw [hq] at hvs ⊢
    simp [Builtin.clear_, run_underlying hu, hz, hzs, ← hvs, hst]
  unfold Oper.wp execOp
  simp only [ho, resolve, invoke, builtin, Sem.run_bind, Sem.run_pure, Result.andThen_ok, List.map_toArray, List.map_cons, List.map_nil, hx, hrun]
  refine hK _ _ (hc _ ?_ (grownRow _ _ _) (by simp [World.setRow]))
  refine ⟨hfront.1, .inr ⟨g, c, _, rfl, hbg, setRow_heap w g cur _ e _ hb, by omega, hcm, ?_, ?_⟩⟩
  · simp only [List.size_toArray, List.length_append, List.length_take, List.length_drop, Array.length_toList, hcs]
    omega
  · show (cur.toList.take (k * sz) ++ vs ++ cur.toList.drop (k * sz + vs.length)).take (k * sz) = _
    rw [List.append_assoc, List.take_append_of_le_length (by rw [List.length_take, Array.length_toList, hcs]; omega), List.take_take, Nat.min_self, ← rowC_take h, ← ht, List.take_take, Nat.min_eq_left (by omega)]
theorem wp_cutE {ops : Array Oper} {rest : List Oper} {o : Oper} {a : Act} {Q : Exit → Act → World → Prop} {size : Nat} {x : Operand} {lo hi mx : Option Operand} (hT : SlT P t e size bytes z) (hw : Region.wanted o (yielded ops a.tmps) = true)
    (ho : o.op = .slice t x lo hi mx) (hx : a.eval x = .slice A n c) (hmax : c ≤ maxLen) (hnc : n ≤ c) (l h m : Nat) (hlo : Bd (lo.map a.eval) 0 l) (hhi : Bd (hi.map a.eval) n h) (hmx : Bd (mx.map a.eval) c m) (hmh : mx.isSome = true → hi.isSome = true)
    (h1 : l ≤ h) (h2 : h ≤ m) (h3 : m ≤ c) (h4 : h ≤ n)
    (hk : wpList P ops Q rest (a.put o.dst (.slice (cutA A size l m) (h - l) (m - l))) w) :
    wpList P ops Q (o :: rest) a w := by
  refine BigFrame.wpList_want hw fun K hK => ?_
  have hrun := run_cutA (A := A) hT w hmax hnc l h m hlo hhi hmx (by simpa using hmh) h1 h2 h3 h4
  unfold Oper.wp execOp
  simp only [ho, hx, Sem.run_bind, Sem.run_pure, Result.andThen_ok, hrun]
  exact hK _ _ hk
theorem cutA_some (g o size l m : Nat) (h : l < m) : cutA (some ⟨g, o, none⟩) size l m = some ⟨g, o + l * size, none⟩ := by
  unfold cutA
  rw [if_neg (by omega)]
  simp only [Option.map_some, Addr.add]
  split <;> simp_all
theorem cutA_zero (A : Option Addr) (g : Nat) (hA : A = some ⟨g, 0, none⟩) (size m : Nat) : cutA A size 0 m = A := by
  subst hA
  unfold cutA
  split
  · rfl
  · simp [Addr.add]
theorem hold_clear {ops : Array Oper} {Q : Exit → Act → World → Prop} {rest : List Oper} {a : Act} {dst : Option Tmp} {ty : TypeId} {pos : String} {after : Array Edge} {guard : Option (Nat × Bool)} {xs : Array Operand} {ts : Array TypeId} (h : Hold (wpList P ops Q (⟨dst, .call ⟨.builtin .clear, xs, ts⟩, ty, pos, after, guard⟩ :: rest) a w)) :
    wpList P ops Q (⟨dst, .call ⟨.builtin .clear, xs, ts⟩, ty, pos, after, guard⟩ :: rest) a w := h
end
end Go.PH
end
section
/- Rows of records that the library has sorted: between the own rows' words and the sort's. -/
set_option linter.all false
set_option linter.unusedSimpArgs false
set_option linter.unusedVariables false
namespace Go.PH
open Go.RowKit Go.Sort Go.Proofs
section
variable {α : Type} [Inhabited α] {f : α → List Value} {sz : Nat} {w w' : World} {base e n c g m : Nat} {d : List α} {os : Array Obj}
theorem flatK_row (h : RecShape f sz) (d : List α) : (flatK f sz d.toArray).toList = rowC f d := by
  apply List.ext_getElem?
  intro t
  by_cases ht : t < d.length * sz
  · have hk : t / sz < d.length := Nat.div_lt_of_lt_mul (by rwa [Nat.mul_comm])
    have hm : t % sz < sz := Nat.mod_lt _ h.pos
    have hg := get_flatK f sz d.toArray t (by simpa using ht)
    have hr := rowC_get h d (t / sz) hk (t % sz) hm
    rw [Nat.div_add_mod' t sz] at hr
    have hsz : t < (flatK f sz d.toArray).size := by simpa using ht
    rw [getElem!_pos _ t hsz] at hg
    have hkd : d.toArray[t / sz]! = d[t / sz] := by simp [hk]
    rw [hr, Array.getElem?_toList, Array.getElem?_eq_getElem hsz, hg, hkd, List.getElem?_eq_getElem (by rw [h.len]; exact hm), getElem!_pos _ _ (by rw [h.len]; exact hm)]
  · rw [List.getElem?_eq_none (by simp; omega), List.getElem?_eq_none (by rw [rowC_len h]; omega)]
theorem own_holds (h : RecShape f sz) (ho : Own w base e sz (some ⟨g, 0, none⟩) n c (rowC f d)) : HoldsK f sz w g 0 d.toArray := by
  obtain ⟨cur, _, hb, hnc, _, hcs, ht⟩ := own_heap ho
  have hn := own_len h ho
  intro j hj
  have hj' : j < d.length * sz := by simpa using hj
  refine ⟨?_, by simp [World.frozen?, hb]⟩
  have h1 : (cur.toList.take (n * sz))[j]? = (rowC f d)[j]? := by rw [ht]
  rw [List.getElem?_take_of_lt (by rw [← hn]; exact hj'), ← flatK_row h d, Array.getElem?_toList, Array.getElem?_toList, Array.getElem?_eq_getElem hj] at h1
  simp only [World.cell?, hb, Nat.zero_add, Option.isSome_none, Bool.false_eq_true, if_false]
  rw [h1, getElem!_pos _ j hj]
  rfl
theorem heap_sortedK {cur : Array Value} {t : TypeId} {fr : Nat × Nat} (d : Array α) (hb : w.heap[g]? = some (.cells cur t fr)) : (sortWorldK f sz w g 0 m d os).heap[g]? = some (.cells (putCells id 0 (flatK f sz d) cur) t fr) := by
  have hg : g < w.heap.size := (Array.getElem?_eq_some_iff.1 hb).1
  unfold sortWorldK putRowK
  rw [heap_grow_old _ _ (by simpa using hg)]
  simp [putRow, mapBlock, Sort.ahead, Array.getElem?_modify, hb, onCells]
theorem grownBy_sortedK (d : Array α) : w.grownBy (sortWorldK f sz w g 0 m d os) (some g) := by
  unfold sortWorldK putRowK
  refine ⟨rfl, rfl, rfl, by simp, fun k hk hne => ?_⟩
  rw [heap_grow_old _ _ (by simpa using hk)]
  have : g ≠ k := fun e => hne (by rw [e])
  simp [putRow, mapBlock, Sort.ahead, Array.getElem?_modify, this]
theorem take_putCellsK (cur F : Array Value) (h : F.size ≤ cur.size) : (putCells id 0 F cur).toList.take F.size = F.toList := by
  apply List.ext_getElem?
  intro j
  by_cases hj : j < F.size
  · rw [List.getElem?_take_of_lt hj, Array.getElem?_toList, Array.getElem?_toList]
    simp [putCells, hj, show j < cur.size by omega]
  · rw [List.getElem?_take_eq_none (by omega), List.getElem?_eq_none (by simp; omega)]
theorem own_sortedK (h : RecShape f sz) (ho : Own w base e sz (some ⟨g, 0, none⟩) n c (rowC f d)) {d' : List α} (hl : d'.length = d.length) : Own (sortWorldK f sz w g 0 m d'.toArray os) base e sz (some ⟨g, 0, none⟩) n c (rowC f d') := by
  obtain ⟨cur, hbg, hb, hnc, hcm, hcs, ht⟩ := own_heap ho
  have hn := own_len h ho
  have hF : (flatK f sz d'.toArray).size = n * sz := by simp [hl, hn]
  have hle : n * sz ≤ c * sz := Nat.mul_le_mul_right _ hnc
  refine ⟨by rw [rowC_len h, hl, hn], .inr ⟨g, c, _, rfl, hbg, heap_sortedK _ hb, hnc, hcm, by simp [putCells, hcs], ?_⟩⟩
  rw [← hF, take_putCellsK _ _ (by omega), flatK_row h]
/-- new blocks and draws alone: a world of the sort's -/
def Grows (w w' : World) : Prop := ∃ q os, w' = grow (w.drewN q) os
theorem Grows.refl (w : World) : Grows w w := ⟨0, #[], by simp [World.drewN]⟩
theorem grow_drewN (w : World) (os : Array Obj) (q : Nat) : (grow w os).drewN q = grow (w.drewN q) os := rfl
theorem Grows.trans {a b d : World} (h : Grows a b) (k : Grows b d) : Grows a d := by
  obtain ⟨q, os, rfl⟩ := h
  obtain ⟨q', os', rfl⟩ := k
  refine ⟨q + q', os ++ os', ?_⟩
  rw [grow_drewN, grow_grow]
  simp [World.drewN, Nat.add_assoc]
theorem Grows.alloc {a b : World} (h : Grows a b) (o : Obj) : Grows a (b.alloc o) := h.trans ⟨0, #[o], by rw [alloc_eq_grow]; rfl⟩
theorem Grows.drew {a b : World} (h : Grows a b) : Grows a b.drew := h.trans ⟨1, #[], by rw [grow_empty]; rfl⟩
end
end Go.PH
end

/- Texts laid together: RecSet, Region, Region2, Row, See, SlB, FrWell. -/
import Derived.OrdersHeld
import Derived.Deep.RegionHeld3
import Derived.ProofKit
import Derived.OpenShut
import Derived.Deep.DeepHandedRow
import Derived.Lib.LaidTab
import Derived.SizedLaws
import Derived.Deep.Slices
import Derived.Test.YtfbkameikhgciaaGreatDoorRows
import Derived.Deep.QuietTactic
import Derived.BigQuiet
import Derived.Laws.BitsAllLaws
import Derived.Laws.Bits64
import Derived.Test.YtfbkameikhgciaaGreatDoorMg00
import Derived.Test.YtfbkameikhgciaaGreatDoorMg01
set_option linter.all false
set_option linter.unusedSimpArgs false
set_option linter.unusedVariables false
section
/- Own rows of records: an element (or a part of it) stored, the tail cleared, the front kept. -/
namespace Go.PH
open Go.RowKit
section
variable {α : Type} {f : α → List Value} {sz : Nat} {P : Program} {w w' : World} {base e n c g m t bytes : Nat} {A : Option Addr} {l : List α} {z : Value}
theorem wp_cutE {ops : Array Oper} {rest : List Oper} {o : Oper} {a : Act} {Q : Exit → Act → World → Prop} {size : Nat} {x : Operand} {lo hi mx : Option Operand} (hT : SlT P t e size bytes z) (hw : Region.wanted o (yielded ops a.tmps) = true)
  (ho : o.op = .slice t x lo hi mx) (hx : a.eval x = .slice A n c) (hmax : c ≤ maxLen) (hnc : n ≤ c) (l h m : Nat) (hlo : Bd (lo.map a.eval) 0 l) (hhi : Bd (hi.map a.eval) n h) (hmx : Bd (mx.map a.eval) c m) (hmh : mx.isSome = true → hi.isSome = true)
  (h1 : l ≤ h) (h2 : h ≤ m) (h3 : m ≤ c) (h4 : h ≤ n)
  (hk : wpList P ops Q rest (a.put o.dst (.slice (cutA A size l m) (h - l) (m - l))) w) :
  wpList P ops Q (o :: rest) a w := by
 refine BigFrame.wpList_want hw fun K hK => ?_
 have hrun := run_cutA (A := A) hT w hmax hnc l h m hlo hhi hmx (by simpa using hmh) h1 h2 h3 h4
 unfold Oper.wp execOp
 simp only [ho, hx, Sem.run_bind, Sem.run_pure, Result.andThen_ok, hrun]
 exact hK _ _ hk
end
end Go.PH
end
section
/- Regions that draw their order: operations that yield the same in every world that meets S may be taken first; what is left stands in one order. -/
namespace Go.PH
open Go.RowKit

section
variable {P : Program} {ops : Array Oper} {Q : Exit → Act → World → Prop} {S S2 : World → Prop} {fuel : Nat} {listed : Array Bool} {a : Act} {w : World}

/-- the beginning -/
theorem rg_start (S : World → Prop) {id : Nat} (hm : P.follows .mixedOrders = true) (h : wpAnyH P .any ops (NoPanic Q) S ops.size (Array.replicate ops.size false) a w.drew) : (Code.region id ops true).wp P Q a w :=
 wp_region_noPanic (wp_region_held hm h)
/-- number i is taken first: it yields v in every world that meets S -/
theorem rg_take (i : Nat) {o : Oper} {v : Value} (hi : ops[i]? = some o) (hs : Region.noSelect ops = true) (hf : Region.free .any ops listed i = true) (hr : (Region.ready .any ops listed).contains i = true)
  (hS : S w) (hw : Region.wanted o (yielded ops a.tmps) = true) (hy : ∀ w, S w → (execOp a.eval o).run P w = .ok (.value v) w)
  (h : wpAnyH P .any ops (NoPanic Q) S fuel (listed.setIfInBounds i true) (a.put o.dst v) w) : wpAnyH P .any ops (NoPanic Q) S (fuel + 1) listed a w :=
 wpAnyH_take hi hs hf hr (fun _ _ _ h => h) (.inl ⟨hw, hy⟩) hS h
/-- number i is the only one that may come up -/
theorem rg_one (i : Nat) {o : Oper} (hi : ops[i]? = some o) (hr : Region.ready .any ops listed = [i]) (hw : Region.wanted o (yielded ops a.tmps) = true)
  (h : ∀ K : Act → World → Prop, (∀ a' w', S w' → wpAnyH P .any ops Q S fuel (listed.setIfInBounds i true) a' w' → K a' w') → o.wp P a w K Q) : wpAnyH P .any ops Q S (fuel + 1) listed a w :=
 wpAnyH_all (rs := [i]) hr (by simp) fun j hj => by
  obtain rfl : j = i := by simpa using hj
  unfold wpOp
  rw [hi]
  simp only [hw, if_true]
  exact .inl (h _ fun a' w' h1 h2 => ⟨h1, h2⟩)
/-- all have come up -/
theorem rg_end (hr : Region.ready .any ops listed = []) (h : Q .normal a w) : wpAnyH P .any ops (NoPanic Q) S fuel listed a w := wpAnyH_done (Q := NoPanic Q) hr h _
end
section
variable {P : Program} {ops : Array Oper} {Q : Exit → Act → World → Prop} {S : World → Prop} {fuel : Nat} {listed : Array Bool} {a : Act} {w : World}
theorem rg_t (i : Nat) {o : Oper} {v : Value} (hS : S w) (h : wpAnyH P .any ops (NoPanic Q) S fuel (listed.setIfInBounds i true) (a.put o.dst v) w) (hi : ops[i]? = some o := by rfl) (hs : Region.noSelect ops = true := by kernel_rfl) (hf : Region.free .any ops listed i = true := by kernel_rfl) (hr : (Region.ready .any ops listed).contains i = true := by kernel_rfl)
    (hw : Region.wanted o (yielded ops a.tmps) = true := by rfl) (hy : ∀ w, S w → (execOp a.eval o).run P w = .ok (.value v) w := by intro wS hSw; go_simp; (with_reducible rfl)) : wpAnyH P .any ops (NoPanic Q) S (fuel + 1) listed a w := rg_take i hi hs hf hr hS hw hy h
end
end Go.PH
end
section
/- Drawn regions: two operations of which either may come up first. -/
namespace Go.PH
open Go.RowKit
section
variable {P : Program} {ops : Array Oper} {Q : Exit → Act → World → Prop} {S S2 : World → Prop} {fuel : Nat} {listed : Array Bool} {a : Act} {w : World}
end
section
variable {P : Program} {ops : Array Oper} {Q : Exit → Act → World → Prop} {S : World → Prop} {fuel : Nat} {listed : Array Bool} {a : Act} {w : World} {t e size bytes n c : Nat} {z : Value} {A : Option Addr}
/-- a cut taken first -/
theorem rg_slice (i : Nat) {o : Oper} {x : Operand} {lo hi mx : Option Operand} (hT : SlT P t e size bytes z) (hi' : ops[i]? = some o) (hs : Region.noSelect ops = true) (hf : Region.free .any ops listed i = true) (hr : (Region.ready .any ops listed).contains i = true)
  (hS : S w) (hw : Region.wanted o (yielded ops a.tmps) = true) (ho : o.op = .slice t x lo hi mx) (hx : a.eval x = .slice A n c) (hmax : c ≤ maxLen) (hnc : n ≤ c) (l h m : Nat)
  (hlo : Bd (lo.map a.eval) 0 l) (hhi : Bd (hi.map a.eval) n h) (hmx : Bd (mx.map a.eval) c m) (hmh : mx.isSome = true → hi.isSome = true) (h1 : l ≤ h) (h2 : h ≤ m) (h3 : m ≤ c) (h4 : h ≤ n)
  (hk : wpAnyH P .any ops (NoPanic Q) S fuel (listed.setIfInBounds i true) (a.put o.dst (.slice (cutA A size l m) (h - l) (m - l))) w) : wpAnyH P .any ops (NoPanic Q) S (fuel + 1) listed a w :=
 rg_take i hi' hs hf hr hS hw (fun wS _ => by
  unfold execOp
  simp only [ho, hx, Sem.run_bind, Sem.run_pure, Result.andThen_ok, run_cutA (A := A) hT wS hmax hnc l h m hlo hhi hmx (by simpa using hmh) h1 h2 h3 h4]) hk
end
end Go.PH
end
section
/- From a law's walk to its row: reading arguments as the walks take them; what a law's post asks. -/
namespace Go.PH
open Go.RowKit Go.ChangeShapes Go.WideShapes Go.ChangeAt
open Go.ChangeMaps (open_string shut_string)

section
variable {H : Type} {enc : TypeId × Value → H} {P : Program} {W W' : World}

theorem below_trodAll (hl : laidOutB P = true) (bel : Below W.heap.size W W') : ∀ {ts : List TypeId} {vs : List Value} {ds : List (DataW H)} {ps : List MemPlace}, (ts.all fun t => P.readableRec t && decide (t < P.types.size)) = true →
  (∀ x ∈ ps, x.block < W.heap.size) → DataW.TrodAll enc P W 0 (fun _ => true) true ts vs ds ps → DataW.TrodAll enc P W' 0 (fun b => decide (b < W.heap.size)) true ts vs ds ps
 | [], [], [], _, _, _, h => h
 | [], _ :: _, _, _, _, _, h => h.elim
 | [], [], _ :: _, _, _, _, h => h.elim
 | _ :: _, [], _, _, _, _, h => h.elim
 | _ :: _, _ :: _, [], _, _, _, h => h.elim
 | t :: ts, v :: vs, d :: ds, ps, ha, hlt, h => by
  obtain ⟨p, q, hp, hq, rfl⟩ := h
  simp only [List.all_cons, Bool.and_eq_true, decide_eq_true_eq] at ha
  exact ⟨p, q, Below.trod hl ha.1.1 ha.1.2 hp bel (fun x hx => hlt x (by simp [hx])), below_trodAll hl bel (by simpa using ha.2) (fun x hx => hlt x (by simp [hx])) hq, rfl⟩

/-- what a law's post asks: it returned true, nothing that was there has turned -/
theorem law_post {fn : Func} {s : ChangeSpec} {args : Array Value} {ds gs : List (DataW H)} {before : List MemPlace} {bt : TypeId} (hvars : s.vars = [])
  (hW : DataW.Whole enc P fn.params.toList s.vars false W args.toList ds gs before) (hl : laidOutB P = true) (hts : (fn.params.toList.all fun t => P.readableRec t && decide (t < P.types.size)) = true)
  (hrt : fn.resultTypes = #[bt]) (hb : P.underlying bt = some .bool) (hfn : ∀ ds : List (DataW H), ds.length = fn.params.size → s.fn H ds = { results := [.lit (.bool true)], args := ds }) (bel : Below W.heap.size W W') :
  s.post enc P fn false true false false W args (.bool true) W' := by
 have hW' := hW
 obtain ⟨p, q, hA, hV, rfl, hfz, hnd⟩ := hW
 rw [hvars] at hV
 obtain ⟨rfl, rfl⟩ := trodVars_none hV
 have hlen : ∀ {ts : List TypeId} {vs : List Value} {ds : List (DataW H)} {ps : List MemPlace}, DataW.TrodAll enc P W 0 (fun _ => true) true ts vs ds ps → ds.length = ts.length := by
  intro ts
  induction ts with
  | nil => intro vs ds ps h; cases vs <;> cases ds <;> simp_all [DataW.TrodAll]
  | cons t ts ih =>
   intro vs ds ps h
   obtain ⟨v, vs', d, ds', p, q, rfl, rfl, rfl, _, h⟩ := trodAll_cons h
   simp [ih h]
 have e : s.fn H (ds ++ []) = { results := [.lit (.bool true)], args := ds } := by rw [List.append_nil]; exact hfn ds (by rw [hlen hA]; simp)
 refine ⟨ds, [], _, [], p, [], hW', ?_, ?_, ?_, bel.frame _, fun h => by cases h⟩
 ·rw [e, hrt]
  exact ⟨[], [], shut_bool hb true, rfl, rfl⟩
 ·rw [e]
  exact below_trodAll hl bel hts (fun x hx => hW'.lt x (by simp [hx])) hA
 ·rw [e, hvars]
  exact rfl

end
end Go.PH
end
section
/- Reading arguments of whatever depth as the walks take them: numbers, bools, texts, slices, structs. -/
namespace Go.PH
open Go.RowKit Go.ChangeShapes Go.WideShapes Go.ChangeAt Go.Deep

section
variable {H : Type} {enc : TypeId × Value → H} {P : Program} {W : World}

/-- whatever reads at type t is, with all its sizes within the form's reach, some a of which R tells the cells -/
def Reader (enc : TypeId × Value → H) (P : Program) (W : World) (t : TypeId) {α : Type} (R : α → List Value → Prop) : Prop :=
 ∀ (fuel : Nat) (cs : List Value) (d : DataW H) (p : List MemPlace), DataW.trod enc P W 0 (fun _ => true) true fuel t cs = some (d, p) → (∀ x ∈ d.weights P t, x ≤ reachBytes) → ∃ a, R a cs

def RInt (k : IntKind) (n : Int) (cs : List Value) : Prop := cs = [.int k n] ∧ (Lit.int k n).wf = true
def RStr (l : List UInt8) (cs : List Value) : Prop := cs = [.string (str l)] ∧ l.length ≤ 140737488351232
def RSlice (W : World) (size bytes : Nat) {α : Type} (R : α → List Value → Prop) (L : List α) (cs : List Value) : Prop :=
 ∃ A n c xs, cs = [.slice A n c] ∧ Rd W W.heap.size size A n c xs ∧ L.length = n ∧ c * bytes ≤ 140737488351232 ∧ ∀ i (h : i < L.length), R L[i] ((xs.drop (i * size)).take size)

theorem reader_int {t : TypeId} {k : IntKind} (ht : P.underlying t = some (.int k)) : Reader enc P W t (RInt k) := fun fuel cs d p h _ => by
 obtain ⟨n, h1, _, h2⟩ := DataW.trod_int ht h
 exact ⟨n, h1, h2⟩
theorem reader_str {t : TypeId} (ht : P.underlying t = some .string) : Reader enc P W t RStr := fun fuel cs d p h hw => by
 obtain ⟨s, h1, h2, _⟩ := DataW.trod_string ht h
 obtain ⟨rfl, rfl⟩ : d = _ ∧ p = _ := by simpa using h2
 have := hw s.data.toList.length (by simp [DataW.weights])
 exact ⟨s.data.toList, h1, by simpa [reachBytes] using this⟩
theorem weightsAll_mem {e : TypeId} : ∀ {ds : List (DataW H)} {d : DataW H}, d ∈ ds → ∀ x ∈ d.weights P e, x ∈ DataW.weightsAll P e ds
 | d0 :: ds, d, hd, x, hx => by
  simp only [DataW.weightsAll, List.mem_append]
  rcases List.mem_cons.1 hd with rfl | h
  ·exact .inl hx
  ·exact .inr (weightsAll_mem h x hx)
theorem reader_slice {t e size bytes : Nat} {α : Type} {R : α → List Value → Prop} (ht : P.underlying t = some (.slice e)) (hc : P.cellsOf e = size) (hby : P.bytesOf e = bytes) (hpos : 0 < size) (hr : Reader enc P W e R) : Reader enc P W t (RSlice W size bytes R) := fun fuel cs d p h hw => by
 have hlt := DataW.trod_lt fuel _ _ _ h
 rcases open_slice ht h with ⟨rfl, _⟩ | ⟨a, len, cap, m, n, D, Pl, rfl, hb, hl, hm, hmm, hx, hel⟩
 ·exact ⟨[], none, 0, 0, [], rfl, Rd.nil _ _ _ _ (by simp [maxLen]) _, rfl, by omega, fun i h => by simp at h⟩
 simp only [if_true] at hmm
 have hmm' := hmm.symm
 subst hmm'
 obtain ⟨rfl, rfl⟩ : d = _ ∧ p = _ := by simpa using hx
 have hcap : cap * bytes ≤ 140737488351232 := by
  have := hw (((((List.range len).map D).length) + (((List.range (cap - len)).map fun j => D (len + j)).length)) * P.bytesOf e) (by simp [DataW.weights, ht])
  simp only [List.length_map, List.length_range, hby, reachBytes] at this
  rwa [show len + (cap - len) = cap by omega] at this
 have each : ∀ i, i < len → ∃ y : α × List Value, W.cells? 0 (a.add (i * P.cellsOf e)) (P.cellsOf e) = some y.2 ∧ R y.1 y.2 := fun i hi => by
  obtain ⟨cs', h1, h2⟩ := hel i (by omega)
  obtain ⟨y, hy⟩ := hr _ _ _ _ h2 (fun x hx => hw x (by
   simp only [DataW.weights, ht, List.mem_cons, List.mem_append]
   exact .inr (.inl (weightsAll_mem (List.mem_map.2 ⟨i, List.mem_range.2 hi, rfl⟩) x hx))))
  exact ⟨(y, cs'), h1, hy⟩
 obtain ⟨Y, hY⟩ : ∃ Y : Nat → Option (α × List Value), ∀ i, i < len → ∃ y, Y i = some y ∧ W.cells? 0 (a.add (i * P.cellsOf e)) (P.cellsOf e) = some y.2 ∧ R y.1 y.2 :=
  ⟨fun i => if h : i < len then some (each i h).choose else none, fun i hi => ⟨_, dif_pos hi, (each i hi).choose_spec⟩⟩
 by_cases hl0 : len = 0
 ·subst hl0
  exact ⟨[], some a, 0, cap, [], rfl, Rd.nil _ _ _ _ hm _, rfl, hcap, fun i h => by simp at h⟩
 obtain ⟨y0, _⟩ := hY 0 (by omega)
 obtain ⟨Y', hY'⟩ : ∃ Y' : Nat → α × List Value, ∀ i, i < len → Y i = some (Y' i) := ⟨fun i => (Y i).getD y0, fun i hi => by
  obtain ⟨y, hy, _⟩ := hY i hi
  show Y i = some ((Y i).getD y0)
  rw [hy]; rfl⟩
 replace hY : ∀ i, i < len → W.cells? 0 (a.add (i * P.cellsOf e)) (P.cellsOf e) = some (Y' i).2 ∧ R (Y' i).1 (Y' i).2 := fun i hi => by
  obtain ⟨y, hy, h1⟩ := hY i hi
  rw [hY' i hi] at hy
  injection hy with hy
  rw [hy]; exact h1
 clear hY' each
 obtain ⟨Y, rfl⟩ : ∃ Y, Y = Y' := ⟨_, rfl⟩
 have hlenY : ∀ i, i < len → (Y i).2.length = size := fun i hi => by rw [← hc]; exact (World.cells?_some (hY i hi).1).2.1
 have hchunk : ∀ (k : Nat), k ≤ len → ((List.range k).flatMap fun i => (Y i).2).length = k * size ∧ ∀ i, i < k → ((((List.range k).flatMap fun i => (Y i).2).drop (i * size)).take size) = (Y i).2 := by
  intro k
  induction k with
  | zero => intro _; simp
  | succ k ih =>
   intro hk
   obtain ⟨h1, h2⟩ := ih (by omega)
   have hlk := hlenY k (by omega)
   rw [List.range_succ, List.flatMap_append]
   simp only [List.flatMap_cons, List.flatMap_nil, List.append_nil]
   refine ⟨by rw [List.length_append, h1, hlk, Nat.succ_mul], fun i hi => ?_⟩
   rcases Nat.lt_or_ge i k with hik | hik
   ·have : i * size + size ≤ k * size := by rw [← Nat.succ_mul]; exact Nat.mul_le_mul_right _ hik
    rw [List.drop_append_of_le_length (by rw [h1]; omega), List.take_append_of_le_length (by rw [List.length_drop, h1]; omega)]
    exact h2 i hik
   ·obtain rfl : i = k := by omega
    rw [List.drop_append, h1, Nat.sub_self, List.drop_of_length_le (by rw [h1]; exact Nat.le_refl _), List.drop_zero, List.nil_append, List.take_of_length_le (by omega)]
 obtain ⟨hL, hCh⟩ := hchunk len (Nat.le_refl _)
 refine ⟨(List.range len).map fun i => (Y i).1, some a, len, cap, (List.range len).flatMap fun i => (Y i).2, rfl, ⟨hL, hl, hm, fun hn => ?_⟩, by simp, hcap, fun i hi => ?_⟩
 ·obtain ⟨_, _, hcell0⟩ := World.cells?_some (hY 0 hn).1
  have h0 := hcell0 0 (by omega)
  have h0' : W.cell? a = (Y 0).2[0]? := by
   rw [← h0]; congr 1
   simp [Addr.add]
  have hs0 : (Y 0).2[0]? = some ((Y 0).2[0]'(by rw [hlenY 0 hn]; exact hpos)) := List.getElem?_eq_getElem _
  rw [hs0] at h0'
  obtain ⟨b, off, spot⟩ := a
  have hspot : spot = none := World.cell?_spot h0'
  subst hspot
  refine ⟨b, off, rfl, World.block_lt_of_cell? W _ h0', fun j u hu => ?_⟩
  have hj : j < len * size := by rw [← hL]; exact (List.getElem?_eq_some_iff.1 hu).1
  have hq : j / size < len := (Nat.div_lt_iff_lt_mul hpos).2 hj
  have hr' : j % size < size := Nat.mod_lt _ hpos
  have hjj : j / size * size + j % size = j := by rw [Nat.mul_comm]; exact Nat.div_add_mod j size
  obtain ⟨_, _, hcq⟩ := World.cells?_some (hY (j / size) hq).1
  have h3 := hcq (j % size) (by rw [hc]; exact hr')
  rw [hc] at h3
  have h4 : (Y (j / size)).2[j % size]? = some u := by
   rw [← hCh _ hq, List.getElem?_take, if_pos hr', List.getElem?_drop, hjj]; exact hu
  rw [h4] at h3
  rw [← h3]
  congr 1
  unfold Addr.add
  split <;> split <;> simp_all <;> omega
 ·simp only [List.getElem_map, List.getElem_range]
  have hi' : i < len := by simpa using hi
  rw [hCh i hi']
  exact (hY i hi').2

/-- the fields of a struct -/
theorem trod_field {t fuel : Nat} {cs : List Value} {d : DataW H} {p : List MemPlace} {fs : Array Field} (ht : P.underlying t = some (.struct fs)) (h : DataW.trod enc P W 0 (fun _ => true) true fuel t cs = some (d, p)) (hw : ∀ x ∈ d.weights P t, x ≤ reachBytes) :
  cs.length = P.cellsOf t ∧ ∀ (i : Nat) (f : Field), fs[i]? = some f → ∀ {α : Type} {R : α → List Value → Prop}, Reader enc P W f.type R → ∃ a, R a ((cs.drop f.offset).take (P.cellsOf f.type)) := by
 obtain ⟨xs, n, _, hx, hl, hlen, hf⟩ := DataW.trod_struct ht h
 obtain ⟨rfl, rfl⟩ : d = _ ∧ p = _ := by simpa using hx
 refine ⟨hl, fun i f hi α R hr => ?_⟩
 have hif : i < fs.size := (Array.getElem?_eq_some_iff.1 hi).1
 have h1 := hf i f hi
 rw [List.getElem?_eq_getElem (by omega)] at h1
 refine hr _ _ _ _ h1 fun x hxm => hw x ?_
 simp only [DataW.weights, ht]
 refine DataW.weights_mem_each (j := i) (t := f.type) (d := xs[i].1) ?_ ?_ x hxm
 ·rw [List.getElem?_map, Array.getElem?_toList, hi]; rfl
 ·rw [List.getElem?_map, List.getElem?_eq_getElem (by omega)]; rfl

/-- an argument, by its reader -/
theorem see_arg {t : TypeId} {v : Value} {d : DataW H} {ps : List MemPlace} {α : Type} {R : α → List Value → Prop} (hr : Reader enc P W t R) (hd : DataW.Trod enc P W 0 (fun _ => true) true t v d ps)
  {ts : List TypeId} {ds : List (DataW H)} {j : Nat} (hz : (DataW.weightsEach P ts ds).all (· ≤ reachBytes) = true) (ht : ts[j]? = some t) (hdj : ds[j]? = some d) : ∃ a, R a v.cells.toList := by
 obtain ⟨fuel, hf⟩ := hd
 refine hr fuel _ d ps hf fun x hx => ?_
 have := List.all_eq_true.1 hz x (DataW.weights_mem_each ht hdj x hx)
 simpa using this
end
end Go.PH
end
section
/- Slices of bytes; bytes turned into a text. -/
namespace Go.PH
open Go.RowKit Go.Proofs
theorem slB : SlT Tryz.prog 55 5 1 1 (.int .u8 0) := SlT.mk' Tryz.underlying55 (by kernel_rfl) rfl (by omega)
theorem run_strB {w : World} {B n c : Nat} {A : Option Addr} {l : List UInt8} (hr : RdB w B A n c l) : (convert 55 9 (.slice A n c)).run Tryz.prog w = .ok (.string (str l)) w :=
 run_str Tryz.underlying55 Tryz.underlying9 Tryz.underlying5 hr
end Go.PH
end
section
/- The walk of frame's well. -/
namespace Go.PH
open Go.RowKit Go.Proofs

def frMost : Nat → Nat
 | 0 => 15 | 1 => 3 | 2 => 16 | 3 => 255 | 4 => 0 | 5 => 15 | 6 => 255 | 7 => 255 | _ => 0
def frN (b : List UInt8) : Nat := 256 * (b.getD 2 0).toNat + (b.getD 3 0).toNat
def placeOk (b : List UInt8) (k : Nat) : Bool := if k = 3 then decide (12 ≤ frN b) && decide (frN b ≤ 4096) else decide ((b.getD k 0).toNat ≤ frMost k)
def frWell (b : List UInt8) : Bool := (List.range (min b.length 12)).all (placeOk b)
theorem up_any (p : Option Addr) (n : Nat) (w : World) :
  Calls Tryz.prog 72 #[.int .u8 n, .pointer p] w fun e w' => e = .returned (.func (.func 73) #[] #[.pointer p, .pointer (some ⟨w.heap.size, 0, none⟩)]) ∧ w' = w.alloc (.cells #[.int .u8 n] 5) := by
 go_enter Tryz.func72, Tryz.ntmps72
 go_wp2_with (with_reducible refine h_A ?_)
 go_ret
 exact ⟨rfl, rfl⟩
theorem upto_any (A : Option Addr) (n c : Nat) (b : List UInt8) (B bb nb m : Nat) (w : World) (hr : RdB w B A n c b) (hb : w.cell? ⟨bb, 0, none⟩ = some (.slice A n c)) (hn : w.cell? ⟨nb, 0, none⟩ = some (.int .u8 m)) (i : Nat) (hi : i < n) (hnn : n ≤ 140737488355328) :
  Calls Tryz.prog 73 #[.int .i64 i, .pointer (some ⟨bb, 0, none⟩), .pointer (some ⟨nb, 0, none⟩)] w fun e w' => e = .returned (.bool (decide ((b.getD i 0).toNat ≤ m))) ∧ ∃ q, w' = w.drewN q := by
 obtain ⟨bk, off, rfl, _, hl, hc⟩ := RdB.at_k hr hi
 have e : b.getD i 0 = b[i] := by simp [List.getD, List.getElem?_eq_getElem hl]
 have hx := b[i].toNat_lt
 rw [e]
 generalize b[i].toNat = x at *
 have hd : decide ((x : Int) ≤ (m : Int)) = decide (x ≤ m) := by rw [Bool.eq_iff_iff]; simp
 go_enter Tryz.func73, Tryz.ntmps73
 go_wp2_with (with_reducible refine h_A ?_)
 go_quiet (fail)
 go_wp2_with (with_reducible refine h_A ?_)
 go_ret
 exact ⟨by first | rfl | simp [hd], _, rfl⟩
theorem any_any (i : Nat) (w : World) : Calls Tryz.prog 74 #[.int .i64 i] w fun e w' => e = .returned (.bool true) ∧ w' = w := by
 go_enter Tryz.func74, Tryz.ntmps74
 go_wp2_with (with_reducible refine h_A ?_)
 go_ret
 exact ⟨rfl, rfl⟩
theorem or_i64 (x y : Nat) (hx : x < 256) (hy : y < 256) : bits .or .i64 ((x : Int) * 256) (y : Int) = ((256 * x + y : Nat) : Int) := by
 have e : (x : Int) * 256 = ((256 * x : Nat) : Int) := by omega
 rw [e]
 show IntKind.i64.wrap ((BitVec.ofInt 64 ((256 * x : Nat) : Int) ||| BitVec.ofInt 64 (y : Int)).toNat : Int) = _
 have h2 := Nat.two_pow_add_eq_or_of_lt (i := 8) (b := y) (by omega) x
 rw [BitVec.toNat_or, ofInt_u64 _ (by omega), ofInt_u64 _ (by omega), show 256 * x = 2 ^ 8 * x by omega, ← h2]
 exact IntWalk.i64_in _ ⟨by omega, by omega⟩
theorem size_any (A : Option Addr) (n c : Nat) (b : List UInt8) (B bb : Nat) (w : World) (hr : RdB w B A n c b) (hb : w.cell? ⟨bb, 0, none⟩ = some (.slice A n c)) (h3 : 3 < n) (hnn : n ≤ 140737488355328) :
  Calls Tryz.prog 75 #[.int .i64 3, .pointer (some ⟨bb, 0, none⟩)] w fun e w' => e = .returned (.bool (decide (12 ≤ frN b) && decide (frN b ≤ 4096))) ∧ ∃ q, w' = w.drewN q := by
 obtain ⟨bk, off, rfl, _, hl3, hc3⟩ := RdB.at_k hr h3
 obtain ⟨bk', off', e', _, hl2, hc2⟩ := RdB.at_k hr (k := 2) (by omega)
 obtain ⟨rfl, rfl⟩ : bk = bk' ∧ off = off' := by simpa using e'
 have e2 : b.getD 2 0 = b[2] := by simp [List.getD, List.getElem?_eq_getElem hl2]
 have e3 : b.getD 3 0 = b[3] := by simp [List.getD, List.getElem?_eq_getElem hl3]
 have hx := b[2].toNat_lt
 have hy := b[3].toNat_lt
 unfold frN
 rw [e2, e3]
 generalize b[2].toNat = x at *
 generalize b[3].toNat = y at *
 have hor := or_i64 x y hx hy
 have h3' : (3 : Int) < (n : Int) := by omega
 have hW := fun (v : Bool) (hv : (decide (12 ≤ 256 * x + y) && decide (256 * x + y ≤ 4096)) = v) => Lib.hid hv
 by_cases h1 : 12 ≤ 256 * x + y
 ·have d1 : (12 : Int) ≤ 256 * (x : Int) + (y : Int) := by omega
  by_cases h2 : 256 * x + y ≤ 4096
  ·have d2 : 256 * (x : Int) + (y : Int) ≤ 4096 := by omega
   have HV := hW true (by simp [h1, h2])
   clear h1 h2 hW
   go_enter Tryz.func75, Tryz.ntmps75
   go_wp2_with (with_reducible refine h_A ?_)
   go_quiet (fail)
   go_wp2_with (with_reducible refine h_A ?_)
   go_ret
   rw [HV.out]
   exact ⟨rfl, _, rfl⟩
  ·have d2 : decide (256 * (x : Int) + (y : Int) ≤ 4096) = false := by simp; omega
   have HV := hW false (by simp [h1, h2])
   clear h1 h2 hW
   go_enter Tryz.func75, Tryz.ntmps75
   go_wp2_with (with_reducible refine h_A ?_)
   go_quiet (fail)
   go_wp2_with (with_reducible refine h_A ?_)
   go_ret
   rw [HV.out]
   exact ⟨rfl, _, rfl⟩
 ·have d1 : decide ((12 : Int) ≤ 256 * (x : Int) + (y : Int)) = false := by simp; omega
  have HV := hW false (by simp [h1])
  clear h1 hW
  go_enter Tryz.func75, Tryz.ntmps75
  go_wp2_with (with_reducible refine h_A ?_)
  go_quiet (fail)
  go_wp2_with (with_reducible refine h_A ?_)
  go_ret
  rw [HV.out]
  exact ⟨rfl, _, rfl⟩
theorem frWell_no {b : List UInt8} {k : Nat} (hk : k < b.length) (hk2 : k < 12) (h : placeOk b k = false) : frWell b = false := by
 unfold frWell
 rw [List.all_eq_false]
 exact ⟨k, List.mem_range.2 (by omega), by simp [h]⟩
theorem all_next {p : Nat → Bool} {k : Nat} (h : (List.range k).all p = true) (hp : p k = true) : (List.range (k + 1)).all p = true := by
 rw [List.range_succ, List.all_append, h]; simp [hp]
theorem up_some (p : Option Addr) (n : Nat) (w : World) :
  Calls Tryz.prog 72 #[.int .u8 n, .pointer p] w fun e w' => ∃ nb, e = .returned (.func (.func 73) #[] #[.pointer p, .pointer (some ⟨nb, 0, none⟩)]) ∧ w'.cell? ⟨nb, 0, none⟩ = some (.int .u8 n) ∧ Below w.heap.size w w' := by
 refine (up_any p n w).mono ?_
 rintro e w' ⟨rfl, rfl⟩
 exact ⟨_, rfl, World.cell?_alloc_new _ _ _ _, (Below.refl _ _).alloc (Nat.le_refl _) _⟩
theorem cell_stays {w w' : World} {a : Addr} {u : Value} (h : w.cell? a = some u) (hB : Below w.heap.size w w') : w'.cell? a = some u := (hB.cell (World.block_lt_of_cell? w _ h)).trans h
set_option maxRecDepth 20000 in
set_option maxHeartbeats 4000000 in
theorem well_any (A : Option Addr) (n c : Nat) (b : List UInt8) (B : Nat) (w : World) (hr : RdB w B A n c b) (hB : B ≤ w.heap.size) (hn : n ≤ 140737488355328) :
  Calls Tryz.prog 51 #[.slice A n c] w fun e w' => e = .returned (.bool (frWell b)) ∧ Below w.heap.size w w' := by
 have hl := RdB.length hr
 obtain ⟨M, hM⟩ : ∃ M, M = min n 12 := ⟨_, rfl⟩
 have hmin : (if (12 : Int) < (n : Int) then (12 : Int) else (n : Int)) = (M : Int) := by split <;> omega
 have hM1 : M ≤ n := by omega
 have hM2 : M ≤ 12 := by omega
 have HWL : Hid (frWell b = (List.range M).all (placeOk b)) := Lib.hid (by unfold frWell; rw [hl, ← hM])
 have hM3 : ∀ k, k < M → k < b.length := fun k h => by omega
 clear hM
 obtain ⟨w0, hw0⟩ : ∃ w0, w0 = w.alloc (.cells #[.slice A n c] 55) := ⟨_, rfl⟩
 have hB0 : Below w.heap.size w w0 := by rw [hw0]; exact (Below.refl _ _).alloc (Nat.le_refl _) _
 have hbb : w0.cell? ⟨w.heap.size, 0, none⟩ = some (.slice A n c) := by rw [hw0]; exact World.cell?_alloc_new _ _ _ _
 go_enter Tryz.func51, Tryz.ntmps51
 go_wp2_with (with_reducible refine h_A ?_)
 have hup0 := up_some (some ⟨w.heap.size, 0, none⟩) 15 w0
 rw [hw0] at hup0
 refine hup0.mono ?_
 rintro e w1 ⟨nb1, rfl, hc1, hu1⟩
 rw [← hw0] at hu1
 clear hup0 hw0
 have hB1 := hB0.trans (hu1.mono hB0.size)
 have hbb := cell_stays hbb hu1
 clear hu1 hB0
 go_wp2_with (with_reducible refine h_A ?_)
 refine (up_some (some ⟨w.heap.size, 0, none⟩) 3 w1).mono ?_
 rintro e w2 ⟨nb2, rfl, hc2, hu2⟩
 have hB2 := hB1.trans (hu2.mono hB1.size)
 have hbb := cell_stays hbb hu2
 have hc1 := cell_stays hc1 hu2
 clear hu2 hB1
 go_wp2_with (with_reducible refine h_A ?_)
 refine (up_some (some ⟨w.heap.size, 0, none⟩) 16 w2).mono ?_
 rintro e w3 ⟨nb3, rfl, hc3, hu3⟩
 have hB3 := hB2.trans (hu3.mono hB2.size)
 have hbb := cell_stays hbb hu3
 have hc1 := cell_stays hc1 hu3
 have hc2 := cell_stays hc2 hu3
 clear hu3 hB2
 go_wp2_with (with_reducible refine h_A ?_)
 refine (up_some (some ⟨w.heap.size, 0, none⟩) 0 w3).mono ?_
 rintro e w4 ⟨nb4, rfl, hc4, hu4⟩
 have hB4 := hB3.trans (hu4.mono hB3.size)
 have hbb := cell_stays hbb hu4
 have hc1 := cell_stays hc1 hu4
 have hc2 := cell_stays hc2 hu4
 have hc3 := cell_stays hc3 hu4
 clear hu4 hB3
 go_wp2_with (with_reducible refine h_A ?_)
 refine (up_some (some ⟨w.heap.size, 0, none⟩) 15 w4).mono ?_
 rintro e w5 ⟨nb5, rfl, hc5, hu5⟩
 have hB5 := hB4.trans (hu5.mono hB4.size)
 have hbb := cell_stays hbb hu5
 have hc1 := cell_stays hc1 hu5
 have hc2 := cell_stays hc2 hu5
 have hc3 := cell_stays hc3 hu5
 have hc4 := cell_stays hc4 hu5
 clear hu5 hB4
 go_wp2_with (with_reducible refine h_A ?_)
 refine (up_some (some ⟨w.heap.size, 0, none⟩) 0 w5).mono ?_
 rintro e w6 ⟨nb6, rfl, hc6, hu6⟩
 have hB6 := hB5.trans (hu6.mono hB5.size)
 have hbb := cell_stays hbb hu6
 have hc1 := cell_stays hc1 hu6
 have hc2 := cell_stays hc2 hu6
 have hc3 := cell_stays hc3 hu6
 have hc4 := cell_stays hc4 hu6
 have hc5 := cell_stays hc5 hu6
 clear hu6 hB5
 go_wp2_with (with_reducible refine h_A ?_)
 refine (up_some (some ⟨w.heap.size, 0, none⟩) 0 w6).mono ?_
 rintro e w7 ⟨nb7, rfl, hc7, hu7⟩
 have hB7 := hB6.trans (hu7.mono hB6.size)
 have hbb := cell_stays hbb hu7
 have hc1 := cell_stays hc1 hu7
 have hc2 := cell_stays hc2 hu7
 have hc3 := cell_stays hc3 hu7
 have hc4 := cell_stays hc4 hu7
 have hc5 := cell_stays hc5 hu7
 have hc6 := cell_stays hc6 hu7
 clear hu7 hB6
 go_wp2_with (with_reducible refine h_A ?_)
 refine (up_some (some ⟨w.heap.size, 0, none⟩) 0 w7).mono ?_
 rintro e w8 ⟨nb8, rfl, hc8, hu8⟩
 have hB8 := hB7.trans (hu8.mono hB7.size)
 have hbb := cell_stays hbb hu8
 have hc1 := cell_stays hc1 hu8
 have hc2 := cell_stays hc2 hu8
 have hc3 := cell_stays hc3 hu8
 have hc4 := cell_stays hc4 hu8
 have hc5 := cell_stays hc5 hu8
 have hc6 := cell_stays hc6 hu8
 have hc7 := cell_stays hc7 hu8
 clear hu8 hB7
 go_wp2_with (with_reducible refine h_A ?_)
 refine (up_some (some ⟨w.heap.size, 0, none⟩) 0 w8).mono ?_
 rintro e w9 ⟨nb9, rfl, hc9, hu9⟩
 have hB9 := hB8.trans (hu9.mono hB8.size)
 have hbb := cell_stays hbb hu9
 have hc1 := cell_stays hc1 hu9
 have hc2 := cell_stays hc2 hu9
 have hc3 := cell_stays hc3 hu9
 have hc4 := cell_stays hc4 hu9
 have hc5 := cell_stays hc5 hu9
 have hc6 := cell_stays hc6 hu9
 have hc7 := cell_stays hc7 hu9
 have hc8 := cell_stays hc8 hu9
 clear hu9 hB8
 have hlt9 : w.heap.size < w9.heap.size := World.block_lt_of_cell? w9 _ hbb
 go_wp2_with (with_reducible refine h_A ?_)
 generalize hW : w9.alloc (.cells #[.func (.func 73) #[] #[.pointer (some ⟨w.heap.size, 0, none⟩), .pointer (some ⟨nb1, 0, none⟩)], .func (.func 73) #[] #[.pointer (some ⟨w.heap.size, 0, none⟩), .pointer (some ⟨nb2, 0, none⟩)], .func (.func 73) #[] #[.pointer (some ⟨w.heap.size, 0, none⟩), .pointer (some ⟨nb3, 0, none⟩)], .func (.func 75) #[] #[.pointer (some ⟨w.heap.size, 0, none⟩)], .func (.func 73) #[] #[.pointer (some ⟨w.heap.size, 0, none⟩), .pointer (some ⟨nb4, 0, none⟩)], .func (.func 73) #[] #[.pointer (some ⟨w.heap.size, 0, none⟩), .pointer (some ⟨nb5, 0, none⟩)], .func (.func 74) #[] #[], .func (.func 74) #[] #[], .func (.func 73) #[] #[.pointer (some ⟨w.heap.size, 0, none⟩), .pointer (some ⟨nb6, 0, none⟩)], .func (.func 73) #[] #[.pointer (some ⟨w.heap.size, 0, none⟩), .pointer (some ⟨nb7, 0, none⟩)], .func (.func 73) #[] #[.pointer (some ⟨w.heap.size, 0, none⟩), .pointer (some ⟨nb8, 0, none⟩)], .func (.func 73) #[] #[.pointer (some ⟨w.heap.size, 0, none⟩), .pointer (some ⟨nb9, 0, none⟩)]] 145) = W
 have hpb : ∀ (i : Nat) u, (#[.func (.func 73) #[] #[.pointer (some ⟨w.heap.size, 0, none⟩), .pointer (some ⟨nb1, 0, none⟩)], .func (.func 73) #[] #[.pointer (some ⟨w.heap.size, 0, none⟩), .pointer (some ⟨nb2, 0, none⟩)], .func (.func 73) #[] #[.pointer (some ⟨w.heap.size, 0, none⟩), .pointer (some ⟨nb3, 0, none⟩)], .func (.func 75) #[] #[.pointer (some ⟨w.heap.size, 0, none⟩)], .func (.func 73) #[] #[.pointer (some ⟨w.heap.size, 0, none⟩), .pointer (some ⟨nb4, 0, none⟩)], .func (.func 73) #[] #[.pointer (some ⟨w.heap.size, 0, none⟩), .pointer (some ⟨nb5, 0, none⟩)], .func (.func 74) #[] #[], .func (.func 74) #[] #[], .func (.func 73) #[] #[.pointer (some ⟨w.heap.size, 0, none⟩), .pointer (some ⟨nb6, 0, none⟩)], .func (.func 73) #[] #[.pointer (some ⟨w.heap.size, 0, none⟩), .pointer (some ⟨nb7, 0, none⟩)], .func (.func 73) #[] #[.pointer (some ⟨w.heap.size, 0, none⟩), .pointer (some ⟨nb8, 0, none⟩)], .func (.func 73) #[] #[.pointer (some ⟨w.heap.size, 0, none⟩), .pointer (some ⟨nb9, 0, none⟩)]] : Array Value)[i]? = some u → W.cell? ⟨w9.heap.size, i, none⟩ = some u := fun i u h => by rw [← hW]; exact (World.cell?_alloc_new _ _ _ _).trans h
 have hWB : Below w9.heap.size w9 W := by rw [← hW]; exact (Below.refl _ _).alloc (Nat.le_refl _) _
 have hBW := hB9.trans (hWB.mono hB9.size)
 have hbb := cell_stays hbb hWB
 have hc1 := cell_stays hc1 hWB
 have hc2 := cell_stays hc2 hWB
 have hc3 := cell_stays hc3 hWB
 have hc4 := cell_stays hc4 hWB
 have hc5 := cell_stays hc5 hWB
 have hc6 := cell_stays hc6 hWB
 have hc7 := cell_stays hc7 hWB
 have hc8 := cell_stays hc8 hWB
 have hc9 := cell_stays hc9 hWB
 have hp0 := hpb 0 _ rfl
 have hp1 := hpb 1 _ rfl
 have hp2 := hpb 2 _ rfl
 have hp3 := hpb 3 _ rfl
 have hp4 := hpb 4 _ rfl
 have hp5 := hpb 5 _ rfl
 have hp6 := hpb 6 _ rfl
 have hp7 := hpb 7 _ rfl
 have hp8 := hpb 8 _ rfl
 have hp9 := hpb 9 _ rfl
 have hp10 := hpb 10 _ rfl
 have hp11 := hpb 11 _ rfl
 clear hpb hW hWB hB9
 go_loopw [37] (fun s wr => ∃ (k q : Nat), k ≤ M ∧ s = .int .i64 k ∧ (List.range k).all (placeOk b) = true ∧ wr = W.drewN q) (fun s _ => M - (RowKit.intOf s).toNat)
 case atStart => exact ⟨0, 0, by omega, rfl, rfl, rfl⟩
 case round =>
  obtain ⟨k, q, hk, rfl, hall, rfl⟩ := hrel
  by_cases hlt : k < M
  ·have hrr : RdB (W.drewN q) B A n c b := (Rd.below hr (hBW.mono hB)).drewN q
   have hBq := below_drewN hBW q
   have hkb := hM3 k hlt
   rcases (by omega : k = 0 ∨ k = 1 ∨ k = 2 ∨ k = 3 ∨ k = 4 ∨ k = 5 ∨ k = 6 ∨ k = 7 ∨ k = 8 ∨ k = 9 ∨ k = 10 ∨ k = 11) with rfl | rfl | rfl | rfl | rfl | rfl | rfl | rfl | rfl | rfl | rfl | rfl
   ·skip
    have hcl := upto_any A n c b B w.heap.size nb1 15 (W.drewN q) hrr hbb hc1 0 (by omega) hn
    have hpk : placeOk b 0 = decide ((b.getD 0 0).toNat ≤ 15) := rfl
    generalize decide ((b.getD 0 0).toNat ≤ 15) = pv at hcl hpk
    cases pv
    ·have hno := frWell_no hkb (by omega) hpk
     clear hpk
     go_wp2_with (with_reducible refine h_A ?_)
     refine hcl.mono ?_
     rintro e w' ⟨rfl, q2, rfl⟩
     go_wp2_with (with_reducible refine h_A ?_)
     go_ret
     rw [hno]
     exact ⟨rfl, by first | exact below_drewN hBq _ | exact hBq | exact below_drewN hBW _⟩
    ·have hnx := all_next hall hpk
     clear hpk
     go_wp2_with (with_reducible refine h_A ?_)
     refine hcl.mono ?_
     rintro e w' ⟨rfl, q2, rfl⟩
     go_wp2_with (with_reducible refine h_A ?_)
     exact ⟨⟨0 + 1, _, by omega, by go_num, hnx, by first | rfl | exact World.drewN_drewN _ _ _⟩, by simp [RowKit.intOf]; try omega⟩
   ·skip
    have hcl := upto_any A n c b B w.heap.size nb2 3 (W.drewN q) hrr hbb hc2 1 (by omega) hn
    have hpk : placeOk b 1 = decide ((b.getD 1 0).toNat ≤ 3) := rfl
    generalize decide ((b.getD 1 0).toNat ≤ 3) = pv at hcl hpk
    cases pv
    ·have hno := frWell_no hkb (by omega) hpk
     clear hpk
     go_wp2_with (with_reducible refine h_A ?_)
     refine hcl.mono ?_
     rintro e w' ⟨rfl, q2, rfl⟩
     go_wp2_with (with_reducible refine h_A ?_)
     go_ret
     rw [hno]
     exact ⟨rfl, by first | exact below_drewN hBq _ | exact hBq | exact below_drewN hBW _⟩
    ·have hnx := all_next hall hpk
     clear hpk
     go_wp2_with (with_reducible refine h_A ?_)
     refine hcl.mono ?_
     rintro e w' ⟨rfl, q2, rfl⟩
     go_wp2_with (with_reducible refine h_A ?_)
     exact ⟨⟨1 + 1, _, by omega, by go_num, hnx, by first | rfl | exact World.drewN_drewN _ _ _⟩, by simp [RowKit.intOf]; try omega⟩
   ·skip
    have hcl := upto_any A n c b B w.heap.size nb3 16 (W.drewN q) hrr hbb hc3 2 (by omega) hn
    have hpk : placeOk b 2 = decide ((b.getD 2 0).toNat ≤ 16) := rfl
    generalize decide ((b.getD 2 0).toNat ≤ 16) = pv at hcl hpk
    cases pv
    ·have hno := frWell_no hkb (by omega) hpk
     clear hpk
     go_wp2_with (with_reducible refine h_A ?_)
     refine hcl.mono ?_
     rintro e w' ⟨rfl, q2, rfl⟩
     go_wp2_with (with_reducible refine h_A ?_)
     go_ret
     rw [hno]
     exact ⟨rfl, by first | exact below_drewN hBq _ | exact hBq | exact below_drewN hBW _⟩
    ·have hnx := all_next hall hpk
     clear hpk
     go_wp2_with (with_reducible refine h_A ?_)
     refine hcl.mono ?_
     rintro e w' ⟨rfl, q2, rfl⟩
     go_wp2_with (with_reducible refine h_A ?_)
     exact ⟨⟨2 + 1, _, by omega, by go_num, hnx, by first | rfl | exact World.drewN_drewN _ _ _⟩, by simp [RowKit.intOf]; try omega⟩
   ·skip
    have hcl := size_any A n c b B w.heap.size (W.drewN q) hrr hbb (by omega) hn
    have hpk : placeOk b 3 = (decide (12 ≤ frN b) && decide (frN b ≤ 4096)) := rfl
    generalize (decide (12 ≤ frN b) && decide (frN b ≤ 4096)) = pv at hcl hpk
    cases pv
    ·have hno := frWell_no hkb (by omega) hpk
     clear hpk
     go_wp2_with (with_reducible refine h_A ?_)
     refine hcl.mono ?_
     rintro e w' ⟨rfl, q2, rfl⟩
     go_wp2_with (with_reducible refine h_A ?_)
     go_ret
     rw [hno]
     exact ⟨rfl, by first | exact below_drewN hBq _ | exact hBq | exact below_drewN hBW _⟩
    ·have hnx := all_next hall hpk
     clear hpk
     go_wp2_with (with_reducible refine h_A ?_)
     refine hcl.mono ?_
     rintro e w' ⟨rfl, q2, rfl⟩
     go_wp2_with (with_reducible refine h_A ?_)
     exact ⟨⟨3 + 1, _, by omega, by go_num, hnx, by first | rfl | exact World.drewN_drewN _ _ _⟩, by simp [RowKit.intOf]; try omega⟩
   ·skip
    have hcl := upto_any A n c b B w.heap.size nb4 0 (W.drewN q) hrr hbb hc4 4 (by omega) hn
    have hpk : placeOk b 4 = decide ((b.getD 4 0).toNat ≤ 0) := rfl
    generalize decide ((b.getD 4 0).toNat ≤ 0) = pv at hcl hpk
    cases pv
    ·have hno := frWell_no hkb (by omega) hpk
     clear hpk
     go_wp2_with (with_reducible refine h_A ?_)
     refine hcl.mono ?_
     rintro e w' ⟨rfl, q2, rfl⟩
     go_wp2_with (with_reducible refine h_A ?_)
     go_ret
     rw [hno]
     exact ⟨rfl, by first | exact below_drewN hBq _ | exact hBq | exact below_drewN hBW _⟩
    ·have hnx := all_next hall hpk
     clear hpk
     go_wp2_with (with_reducible refine h_A ?_)
     refine hcl.mono ?_
     rintro e w' ⟨rfl, q2, rfl⟩
     go_wp2_with (with_reducible refine h_A ?_)
     exact ⟨⟨4 + 1, _, by omega, by go_num, hnx, by first | rfl | exact World.drewN_drewN _ _ _⟩, by simp [RowKit.intOf]; try omega⟩
   ·skip
    have hcl := upto_any A n c b B w.heap.size nb5 15 (W.drewN q) hrr hbb hc5 5 (by omega) hn
    have hpk : placeOk b 5 = decide ((b.getD 5 0).toNat ≤ 15) := rfl
    generalize decide ((b.getD 5 0).toNat ≤ 15) = pv at hcl hpk
    cases pv
    ·have hno := frWell_no hkb (by omega) hpk
     clear hpk
     go_wp2_with (with_reducible refine h_A ?_)
     refine hcl.mono ?_
     rintro e w' ⟨rfl, q2, rfl⟩
     go_wp2_with (with_reducible refine h_A ?_)
     go_ret
     rw [hno]
     exact ⟨rfl, by first | exact below_drewN hBq _ | exact hBq | exact below_drewN hBW _⟩
    ·have hnx := all_next hall hpk
     clear hpk
     go_wp2_with (with_reducible refine h_A ?_)
     refine hcl.mono ?_
     rintro e w' ⟨rfl, q2, rfl⟩
     go_wp2_with (with_reducible refine h_A ?_)
     exact ⟨⟨5 + 1, _, by omega, by go_num, hnx, by first | rfl | exact World.drewN_drewN _ _ _⟩, by simp [RowKit.intOf]; try omega⟩
   ·skip
    have hpk : placeOk b 6 = true := by
     show decide ((b.getD 6 0).toNat ≤ 255) = true
     have hx : (b.getD 6 0).toNat < 256 := (b.getD 6 0).toNat_lt
     exact decide_eq_true (Nat.le_of_lt_succ hx)
    have hnx := all_next hall hpk
    clear hpk
    go_wp2_with (with_reducible refine h_A ?_)
    refine (any_any 6 _).mono ?_
    rintro e w' ⟨rfl, rfl⟩
    go_wp2_with (with_reducible refine h_A ?_)
    exact ⟨⟨6 + 1, q, by omega, by go_num, hnx, rfl⟩, by simp [RowKit.intOf]; try omega⟩
   ·skip
    have hpk : placeOk b 7 = true := by
     show decide ((b.getD 7 0).toNat ≤ 255) = true
     have hx : (b.getD 7 0).toNat < 256 := (b.getD 7 0).toNat_lt
     exact decide_eq_true (Nat.le_of_lt_succ hx)
    have hnx := all_next hall hpk
    clear hpk
    go_wp2_with (with_reducible refine h_A ?_)
    refine (any_any 7 _).mono ?_
    rintro e w' ⟨rfl, rfl⟩
    go_wp2_with (with_reducible refine h_A ?_)
    exact ⟨⟨7 + 1, q, by omega, by go_num, hnx, rfl⟩, by simp [RowKit.intOf]; try omega⟩
   ·skip
    have hcl := upto_any A n c b B w.heap.size nb6 0 (W.drewN q) hrr hbb hc6 8 (by omega) hn
    have hpk : placeOk b 8 = decide ((b.getD 8 0).toNat ≤ 0) := rfl
    generalize decide ((b.getD 8 0).toNat ≤ 0) = pv at hcl hpk
    cases pv
    ·have hno := frWell_no hkb (by omega) hpk
     clear hpk
     go_wp2_with (with_reducible refine h_A ?_)
     refine hcl.mono ?_
     rintro e w' ⟨rfl, q2, rfl⟩
     go_wp2_with (with_reducible refine h_A ?_)
     go_ret
     rw [hno]
     exact ⟨rfl, by first | exact below_drewN hBq _ | exact hBq | exact below_drewN hBW _⟩
    ·have hnx := all_next hall hpk
     clear hpk
     go_wp2_with (with_reducible refine h_A ?_)
     refine hcl.mono ?_
     rintro e w' ⟨rfl, q2, rfl⟩
     go_wp2_with (with_reducible refine h_A ?_)
     exact ⟨⟨8 + 1, _, by omega, by go_num, hnx, by first | rfl | exact World.drewN_drewN _ _ _⟩, by simp [RowKit.intOf]; try omega⟩
   ·skip
    have hcl := upto_any A n c b B w.heap.size nb7 0 (W.drewN q) hrr hbb hc7 9 (by omega) hn
    have hpk : placeOk b 9 = decide ((b.getD 9 0).toNat ≤ 0) := rfl
    generalize decide ((b.getD 9 0).toNat ≤ 0) = pv at hcl hpk
    cases pv
    ·have hno := frWell_no hkb (by omega) hpk
     clear hpk
     go_wp2_with (with_reducible refine h_A ?_)
     refine hcl.mono ?_
     rintro e w' ⟨rfl, q2, rfl⟩
     go_wp2_with (with_reducible refine h_A ?_)
     go_ret
     rw [hno]
     exact ⟨rfl, by first | exact below_drewN hBq _ | exact hBq | exact below_drewN hBW _⟩
    ·have hnx := all_next hall hpk
     clear hpk
     go_wp2_with (with_reducible refine h_A ?_)
     refine hcl.mono ?_
     rintro e w' ⟨rfl, q2, rfl⟩
     go_wp2_with (with_reducible refine h_A ?_)
     exact ⟨⟨9 + 1, _, by omega, by go_num, hnx, by first | rfl | exact World.drewN_drewN _ _ _⟩, by simp [RowKit.intOf]; try omega⟩
   ·skip
    have hcl := upto_any A n c b B w.heap.size nb8 0 (W.drewN q) hrr hbb hc8 10 (by omega) hn
    have hpk : placeOk b 10 = decide ((b.getD 10 0).toNat ≤ 0) := rfl
    generalize decide ((b.getD 10 0).toNat ≤ 0) = pv at hcl hpk
    cases pv
    ·have hno := frWell_no hkb (by omega) hpk
     clear hpk
     go_wp2_with (with_reducible refine h_A ?_)
     refine hcl.mono ?_
     rintro e w' ⟨rfl, q2, rfl⟩
     go_wp2_with (with_reducible refine h_A ?_)
     go_ret
     rw [hno]
     exact ⟨rfl, by first | exact below_drewN hBq _ | exact hBq | exact below_drewN hBW _⟩
    ·have hnx := all_next hall hpk
     clear hpk
     go_wp2_with (with_reducible refine h_A ?_)
     refine hcl.mono ?_
     rintro e w' ⟨rfl, q2, rfl⟩
     go_wp2_with (with_reducible refine h_A ?_)
     exact ⟨⟨10 + 1, _, by omega, by go_num, hnx, by first | rfl | exact World.drewN_drewN _ _ _⟩, by simp [RowKit.intOf]; try omega⟩
   ·skip
    have hcl := upto_any A n c b B w.heap.size nb9 0 (W.drewN q) hrr hbb hc9 11 (by omega) hn
    have hpk : placeOk b 11 = decide ((b.getD 11 0).toNat ≤ 0) := rfl
    generalize decide ((b.getD 11 0).toNat ≤ 0) = pv at hcl hpk
    cases pv
    ·have hno := frWell_no hkb (by omega) hpk
     clear hpk
     go_wp2_with (with_reducible refine h_A ?_)
     refine hcl.mono ?_
     rintro e w' ⟨rfl, q2, rfl⟩
     go_wp2_with (with_reducible refine h_A ?_)
     go_ret
     rw [hno]
     exact ⟨rfl, by first | exact below_drewN hBq _ | exact hBq | exact below_drewN hBW _⟩
    ·have hnx := all_next hall hpk
     clear hpk
     go_wp2_with (with_reducible refine h_A ?_)
     refine hcl.mono ?_
     rintro e w' ⟨rfl, q2, rfl⟩
     go_wp2_with (with_reducible refine h_A ?_)
     exact ⟨⟨11 + 1, _, by omega, by go_num, hnx, by first | rfl | exact World.drewN_drewN _ _ _⟩, by simp [RowKit.intOf]; try omega⟩
  ·obtain rfl : k = M := by omega
   have HA := Lib.hid hall
   clear hall
   go_wp2_with (with_reducible refine h_A ?_)
   go_ret
   rw [HWL.out, HA.out]
   exact ⟨rfl, below_drewN hBW q⟩
end Go.PH
end

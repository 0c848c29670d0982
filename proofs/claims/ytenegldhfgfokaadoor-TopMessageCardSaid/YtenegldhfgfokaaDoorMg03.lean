/- Texts laid together: Region, Region2, Region3, RegionP, Row, See, SlB, CrcWalk, CrcBelow, CrcWalk2, CrcWalk3. -/
import Derived.OrdersHeld
import Derived.Deep.RegionHeld3
import Derived.ProofKit
import Derived.OpenShut
import Derived.Deep.DeepHandedRow
import Derived.Lib.LaidTab
import Derived.SizedLaws
import Derived.Deep.Slices
import Derived.Test.YtenegldhfgfokaaDoorRows
import Derived.BigQuiet
import Derived.Deep.QuietTactic
import Derived.Deep.RegionWith
import Derived.Test.YtenegldhfgfokaaDoorMg00
import Derived.Test.YtenegldhfgfokaaDoorMg01
import Derived.Test.YtenegldhfgfokaaDoorMg02
set_option linter.all false
set_option linter.unusedSimpArgs false
set_option linter.unusedVariables false
section
/- Regions that draw their order: operations that yield the same in every world that meets S may be taken first; what is left stands in one order. -/
namespace Go.PH
open Go.RowKit

section
variable {P : Program} {ops : Array Oper} {Q : Exit → Act → World → Prop} {S S2 : World → Prop} {fuel : Nat} {listed : Array Bool} {a : Act} {w : World}

/-- the beginning -/
theorem rg_start (S : World → Prop) {id : Nat} (hm : P.follows .mixedOrders = true) (h : wpAnyH P .any ops (NoPanic Q) S ops.size (Array.replicate ops.size false) a w.drew) : (Code.region id ops true).wp P Q a w :=
 wp_region_noPanic (wp_region_held hm h)
/-- number i is taken first: it yields v in every world that meets S -/
theorem rg_take (i : Nat) {o : Oper} {v : Value} (hi : ops[i]? = some o) (hs : Region.noSelect ops = true) (hf : Region.free .any ops listed i = true) (hr : (Region.ready .any ops listed).contains i = true)
  (hS : S w) (hw : Region.wanted o (yielded ops a.tmps) = true) (hy : ∀ w, S w → (execOp a.eval o).run P w = .ok (.value v) w)
  (h : wpAnyH P .any ops (NoPanic Q) S fuel (listed.setIfInBounds i true) (a.put o.dst v) w) : wpAnyH P .any ops (NoPanic Q) S (fuel + 1) listed a w :=
 wpAnyH_take hi hs hf hr (fun _ _ _ h => h) (.inl ⟨hw, hy⟩) hS h
/-- number i is the only one that may come up -/
theorem rg_one (i : Nat) {o : Oper} (hi : ops[i]? = some o) (hr : Region.ready .any ops listed = [i]) (hw : Region.wanted o (yielded ops a.tmps) = true)
  (h : ∀ K : Act → World → Prop, (∀ a' w', S w' → wpAnyH P .any ops Q S fuel (listed.setIfInBounds i true) a' w' → K a' w') → o.wp P a w K Q) : wpAnyH P .any ops Q S (fuel + 1) listed a w :=
 wpAnyH_all (rs := [i]) hr (by simp) fun j hj => by
  obtain rfl : j = i := by simpa using hj
  unfold wpOp
  rw [hi]
  simp only [hw, if_true]
  exact .inl (h _ fun a' w' h1 h2 => ⟨h1, h2⟩)
/-- all have come up -/
theorem rg_end (hr : Region.ready .any ops listed = []) (h : Q .normal a w) : wpAnyH P .any ops (NoPanic Q) S fuel listed a w := wpAnyH_done (Q := NoPanic Q) hr h _
end
section
variable {P : Program} {ops : Array Oper} {Q : Exit → Act → World → Prop} {S : World → Prop} {fuel : Nat} {listed : Array Bool} {a : Act} {w : World}
theorem rg_t (i : Nat) {o : Oper} {v : Value} (hS : S w) (h : wpAnyH P .any ops (NoPanic Q) S fuel (listed.setIfInBounds i true) (a.put o.dst v) w) (hi : ops[i]? = some o := by rfl) (hs : Region.noSelect ops = true := by kernel_rfl) (hf : Region.free .any ops listed i = true := by kernel_rfl) (hr : (Region.ready .any ops listed).contains i = true := by kernel_rfl)
    (hw : Region.wanted o (yielded ops a.tmps) = true := by rfl) (hy : ∀ w, S w → (execOp a.eval o).run P w = .ok (.value v) w := by intro wS hSw; go_simp; (with_reducible rfl)) : wpAnyH P .any ops (NoPanic Q) S (fuel + 1) listed a w := rg_take i hi hs hf hr hS hw hy h
end
end Go.PH
end
section
/- Drawn regions: two operations of which either may come up first. -/
namespace Go.PH
open Go.RowKit
section
variable {P : Program} {ops : Array Oper} {Q : Exit → Act → World → Prop} {S S2 : World → Prop} {fuel : Nat} {listed : Array Bool} {a : Act} {w : World}
theorem rg_two (i j : Nat) {o p : Oper} (hi : ops[i]? = some o) (hj : ops[j]? = some p) (hr : Region.ready .any ops listed = [i, j]) (hw : Region.wanted o (yielded ops a.tmps) = true) (hw' : Region.wanted p (yielded ops a.tmps) = true)
  (h : ∀ K : Act → World → Prop, (∀ a' w', S w' → wpAnyH P .any ops Q S fuel (listed.setIfInBounds i true) a' w' → K a' w') → o.wp P a w K Q)
  (h' : ∀ K : Act → World → Prop, (∀ a' w', S w' → wpAnyH P .any ops Q S fuel (listed.setIfInBounds j true) a' w' → K a' w') → p.wp P a w K Q) : wpAnyH P .any ops Q S (fuel + 1) listed a w :=
 wpAnyH_all (rs := [i, j]) hr (by simp) fun k hk => by
  rcases (by simpa using hk : k = i ∨ k = j) with rfl | rfl
  ·unfold wpOp
   rw [hi]
   simp only [hw, if_true]
   exact .inl (h _ fun a' w' h1 h2 => ⟨h1, h2⟩)
  ·unfold wpOp
   rw [hj]
   simp only [hw', if_true]
   exact .inl (h' _ fun a' w' h1 h2 => ⟨h1, h2⟩)
end
section
variable {P : Program} {ops : Array Oper} {Q : Exit → Act → World → Prop} {S : World → Prop} {fuel : Nat} {listed : Array Bool} {a : Act} {w : World} {t e size bytes n c : Nat} {z : Value} {A : Option Addr}
/-- a cut taken first -/
theorem rg_slice (i : Nat) {o : Oper} {x : Operand} {lo hi mx : Option Operand} (hT : SlT P t e size bytes z) (hi' : ops[i]? = some o) (hs : Region.noSelect ops = true) (hf : Region.free .any ops listed i = true) (hr : (Region.ready .any ops listed).contains i = true)
  (hS : S w) (hw : Region.wanted o (yielded ops a.tmps) = true) (ho : o.op = .slice t x lo hi mx) (hx : a.eval x = .slice A n c) (hmax : c ≤ maxLen) (hnc : n ≤ c) (l h m : Nat)
  (hlo : Bd (lo.map a.eval) 0 l) (hhi : Bd (hi.map a.eval) n h) (hmx : Bd (mx.map a.eval) c m) (hmh : mx.isSome = true → hi.isSome = true) (h1 : l ≤ h) (h2 : h ≤ m) (h3 : m ≤ c) (h4 : h ≤ n)
  (hk : wpAnyH P .any ops (NoPanic Q) S fuel (listed.setIfInBounds i true) (a.put o.dst (.slice (cutA A size l m) (h - l) (m - l))) w) : wpAnyH P .any ops (NoPanic Q) S (fuel + 1) listed a w :=
 rg_take i hi' hs hf hr hS hw (fun wS _ => by
  unfold execOp
  simp only [ho, hx, Sem.run_bind, Sem.run_pure, Result.andThen_ok, run_cutA (A := A) hT wS hmax hnc l h m hlo hhi hmx (by simpa using hmh) h1 h2 h3 h4]) hk
end
end Go.PH
end
section
/- Drawn regions: three operations of which any may come up first. -/
namespace Go.PH
open Go.RowKit
variable {P : Program} {ops : Array Oper} {Q : Exit → Act → World → Prop} {S S2 : World → Prop} {fuel : Nat} {listed : Array Bool} {a : Act} {w : World}
theorem rg_three (i j k : Nat) {o p q : Oper} (hi : ops[i]? = some o) (hj : ops[j]? = some p) (hk : ops[k]? = some q) (hr : Region.ready .any ops listed = [i, j, k]) (hw : Region.wanted o (yielded ops a.tmps) = true) (hw' : Region.wanted p (yielded ops a.tmps) = true) (hw2 : Region.wanted q (yielded ops a.tmps) = true)
  (h : ∀ K : Act → World → Prop, (∀ a' w', S w' → wpAnyH P .any ops Q S fuel (listed.setIfInBounds i true) a' w' → K a' w') → o.wp P a w K Q)
  (h' : ∀ K : Act → World → Prop, (∀ a' w', S w' → wpAnyH P .any ops Q S fuel (listed.setIfInBounds j true) a' w' → K a' w') → p.wp P a w K Q)
  (h2 : ∀ K : Act → World → Prop, (∀ a' w', S w' → wpAnyH P .any ops Q S fuel (listed.setIfInBounds k true) a' w' → K a' w') → q.wp P a w K Q) : wpAnyH P .any ops Q S (fuel + 1) listed a w :=
 wpAnyH_all (rs := [i, j, k]) hr (by simp) fun m hm => by
  rcases (by simpa using hm : m = i ∨ m = j ∨ m = k) with rfl | rfl | rfl
  ·unfold wpOp
   rw [hi]
   simp only [hw, if_true]
   exact .inl (h _ fun a' w' h1 h2 => ⟨h1, h2⟩)
  ·unfold wpOp
   rw [hj]
   simp only [hw', if_true]
   exact .inl (h' _ fun a' w' h1 h2 => ⟨h1, h2⟩)
  ·unfold wpOp
   rw [hk]
   simp only [hw2, if_true]
   exact .inl (h2 _ fun a' w' h1 h2 => ⟨h1, h2⟩)
end Go.PH
end
section
/- Drawn regions in which a call may panic: what may be taken first; the last record of a row. -/
namespace Go.PH
open Go.RowKit
section
variable {P : Program} {ops : Array Oper} {Q : Exit → Act → World → Prop} {S S2 : World → Prop} {fuel : Nat} {listed : Array Bool} {a : Act} {w : World}
/-- what holds of a panic does not hang on the slots -/
structure PanW (Q : Exit → Act → World → Prop) : Prop where
 h : ∀ (d : Option Tmp) (v : Value) (c : List PanicEntry) (a : Act) (w : World), Q (.panic c) (a.put d v) w → Q (.panic c) a w
theorem panw_body (P : Program) (fn : Func) (R : Ending → World → Prop) : PanW (bodyPost P fn R) := ⟨fun d v c a w h => ⟨by cases d <;> exact h.1, h.2⟩⟩
theorem panw_then {K : Act → World → Prop} (h : PanW Q) : PanW (Exit.then K Q) := ⟨fun d v c a w hh => h.h d v c a w hh⟩
theorem panw_block {id : Nat} (h : PanW Q) : PanW (Exit.inBlock id Q) := ⟨fun d v c a w hh => h.h d v c a w hh⟩
theorem rgp_start (S : World → Prop) {id : Nat} (hm : P.follows .mixedOrders = true) (h : wpAnyH P .any ops Q S ops.size (Array.replicate ops.size false) a w.drew) : (Code.region id ops true).wp P Q a w := wp_region_held hm h
theorem rgp_take (hQ : PanW Q) (i : Nat) {o : Oper} {v : Value} (hi : ops[i]? = some o) (hs : Region.noSelect ops = true) (hf : Region.free .any ops listed i = true) (hr : (Region.ready .any ops listed).contains i = true)
  (hS : S w) (hw : Region.wanted o (yielded ops a.tmps) = true) (hy : ∀ w, S w → (execOp a.eval o).run P w = .ok (.value v) w)
  (h : wpAnyH P .any ops Q S fuel (listed.setIfInBounds i true) (a.put o.dst v) w) : wpAnyH P .any ops Q S (fuel + 1) listed a w :=
 wpAnyH_take hi hs hf hr (fun c a w h => hQ.h _ _ c a w h) (.inl ⟨hw, hy⟩) hS h
theorem rgp_end (hr : Region.ready .any ops listed = []) (h : Q .normal a w) : wpAnyH P .any ops Q S fuel listed a w := wpAnyH_done hr h _
end
section
variable {α : Type} {f : α → List Value} {sz : Nat} {w : World} {base e n c : Nat} {A : Option Addr} {l : List α}
/-- the last record of a row that is one's own -/
theorem own_last (h : RecShape f sz) {z : α} (ho : Own w base e sz A (l.length + 1) c (rowC f (l ++ [z]))) : ∃ g cur, A = some ⟨g, 0, none⟩ ∧ base ≤ g ∧ Box w g e cur ∧ l.length * sz + sz ≤ cur.size ∧
  ∀ (x : α) (w' : World) (cs' : Array Value), cs' = (cur.toList.take (l.length * sz) ++ f x ++ cur.toList.drop (l.length * sz + (f x).length)).toArray → Box w' g e cs' → Own w' base e sz A (l.length + 1) c (rowC f (l ++ [x])) := by
 unfold Own World.ownsRow at ho
 obtain ⟨hl, h1⟩ := ho
 rcases h1 with ⟨_, h0⟩ | ⟨g, cap, cur, hv, hb, hh, hnc, hcm, hsz, ht⟩
 ·omega
 injection hv with h1 h2 h3
 subst h1 h3
 have hcs : (l.length + 1) * sz ≤ cur.size := by rw [hsz]; exact Nat.mul_le_mul_right _ hnc
 have hle : l.length * sz + sz ≤ cur.size := by rw [← Nat.succ_mul]; exact hcs
 refine ⟨g, cur, rfl, hb, hh, hle, fun x w' cs' e hb' => ?_⟩
 have hfx : (f x).length = sz := h.len x
 have ht1 : cur.toList.take (l.length * sz) = rowC f l := by
  have h3 := congrArg (List.take (l.length * sz)) ht
  rw [List.take_take, Nat.min_eq_left (by rw [Nat.succ_mul]; omega), rowC_app] at h3
  rw [h3, List.take_append_of_le_length (by rw [rowC_len h]; exact Nat.le_refl _), List.take_of_length_le (by rw [rowC_len h]; exact Nat.le_refl _)]
 have hl2 : cs'.size = cur.size := by
  rw [e]
  simp only [List.size_toArray, List.length_append, List.length_take, List.length_drop, Array.length_toList, hfx]
  omega
 unfold Own World.ownsRow
 refine ⟨by rw [rowC_len h, List.length_append]; rfl, .inr ⟨g, c, cs', rfl, hb, hb', hnc, hcm, by rw [hl2, hsz], ?_⟩⟩
 rw [e, rowC_app]
 simp only [List.toList_toArray]
 rw [List.take_append_of_le_length (by simp only [List.length_append, List.length_take, Array.length_toList, hfx, Nat.succ_mul]; omega), ht1, List.take_of_length_le (by rw [List.length_append, rowC_len h, hfx, Nat.succ_mul]; exact Nat.le_refl _)]
 simp [rowC]
/-- a block that reads as a row -/
theorem rd_box {t : TypeId} {cs : Array Value} {g : Nat} (hb : Box w g t cs) (hs : cs.size = n * sz) (hm : n ≤ maxLen) : Rd w w.heap.size sz (some ⟨g, 0, none⟩) n n cs.toList :=
 ⟨by simpa using hs, Nat.le_refl _, hm, fun _ => ⟨g, 0, rfl, hb.lt, fun j u hu => by rw [Nat.zero_add]; exact hb.cell (by simpa using hu)⟩⟩
end
end Go.PH
end
section
/- From a law's walk to its row: reading arguments as the walks take them; what a law's post asks. -/
namespace Go.PH
open Go.RowKit Go.ChangeShapes Go.WideShapes Go.ChangeAt
open Go.ChangeMaps (open_string shut_string)

section
variable {H : Type} {enc : TypeId × Value → H} {P : Program} {W W' : World}

theorem below_trodAll (hl : laidOutB P = true) (bel : Below W.heap.size W W') : ∀ {ts : List TypeId} {vs : List Value} {ds : List (DataW H)} {ps : List MemPlace}, (ts.all fun t => P.readableRec t && decide (t < P.types.size)) = true →
  (∀ x ∈ ps, x.block < W.heap.size) → DataW.TrodAll enc P W 0 (fun _ => true) true ts vs ds ps → DataW.TrodAll enc P W' 0 (fun b => decide (b < W.heap.size)) true ts vs ds ps
 | [], [], [], _, _, _, h => h
 | [], _ :: _, _, _, _, _, h => h.elim
 | [], [], _ :: _, _, _, _, h => h.elim
 | _ :: _, [], _, _, _, _, h => h.elim
 | _ :: _, _ :: _, [], _, _, _, h => h.elim
 | t :: ts, v :: vs, d :: ds, ps, ha, hlt, h => by
  obtain ⟨p, q, hp, hq, rfl⟩ := h
  simp only [List.all_cons, Bool.and_eq_true, decide_eq_true_eq] at ha
  exact ⟨p, q, Below.trod hl ha.1.1 ha.1.2 hp bel (fun x hx => hlt x (by simp [hx])), below_trodAll hl bel (by simpa using ha.2) (fun x hx => hlt x (by simp [hx])) hq, rfl⟩

/-- what a law's post asks: it returned true, nothing that was there has turned -/
theorem law_post {fn : Func} {s : ChangeSpec} {args : Array Value} {ds gs : List (DataW H)} {before : List MemPlace} {bt : TypeId} (hvars : s.vars = [])
  (hW : DataW.Whole enc P fn.params.toList s.vars false W args.toList ds gs before) (hl : laidOutB P = true) (hts : (fn.params.toList.all fun t => P.readableRec t && decide (t < P.types.size)) = true)
  (hrt : fn.resultTypes = #[bt]) (hb : P.underlying bt = some .bool) (hfn : ∀ ds : List (DataW H), ds.length = fn.params.size → s.fn H ds = { results := [.lit (.bool true)], args := ds }) (bel : Below W.heap.size W W') :
  s.post enc P fn false true false false W args (.bool true) W' := by
 have hW' := hW
 obtain ⟨p, q, hA, hV, rfl, hfz, hnd⟩ := hW
 rw [hvars] at hV
 obtain ⟨rfl, rfl⟩ := trodVars_none hV
 have hlen : ∀ {ts : List TypeId} {vs : List Value} {ds : List (DataW H)} {ps : List MemPlace}, DataW.TrodAll enc P W 0 (fun _ => true) true ts vs ds ps → ds.length = ts.length := by
  intro ts
  induction ts with
  | nil => intro vs ds ps h; cases vs <;> cases ds <;> simp_all [DataW.TrodAll]
  | cons t ts ih =>
   intro vs ds ps h
   obtain ⟨v, vs', d, ds', p, q, rfl, rfl, rfl, _, h⟩ := trodAll_cons h
   simp [ih h]
 have e : s.fn H (ds ++ []) = { results := [.lit (.bool true)], args := ds } := by rw [List.append_nil]; exact hfn ds (by rw [hlen hA]; simp)
 refine ⟨ds, [], _, [], p, [], hW', ?_, ?_, ?_, bel.frame _, fun h => by cases h⟩
 ·rw [e, hrt]
  exact ⟨[], [], shut_bool hb true, rfl, rfl⟩
 ·rw [e]
  exact below_trodAll hl bel hts (fun x hx => hW'.lt x (by simp [hx])) hA
 ·rw [e, hvars]
  exact rfl

end
end Go.PH
end
section
/- Reading arguments of whatever depth as the walks take them: numbers, bools, texts, slices, structs. -/
namespace Go.PH
open Go.RowKit Go.ChangeShapes Go.WideShapes Go.ChangeAt Go.Deep

section
variable {H : Type} {enc : TypeId × Value → H} {P : Program} {W : World}

/-- whatever reads at type t is, with all its sizes within the form's reach, some a of which R tells the cells -/
def Reader (enc : TypeId × Value → H) (P : Program) (W : World) (t : TypeId) {α : Type} (R : α → List Value → Prop) : Prop :=
 ∀ (fuel : Nat) (cs : List Value) (d : DataW H) (p : List MemPlace), DataW.trod enc P W 0 (fun _ => true) true fuel t cs = some (d, p) → (∀ x ∈ d.weights P t, x ≤ reachBytes) → ∃ a, R a cs

def RInt (k : IntKind) (n : Int) (cs : List Value) : Prop := cs = [.int k n] ∧ (Lit.int k n).wf = true
def RBool (b : Bool) (cs : List Value) : Prop := cs = [.bool b]
def RStr (l : List UInt8) (cs : List Value) : Prop := cs = [.string (str l)] ∧ l.length ≤ 140737488351232
def RSlice (W : World) (size bytes : Nat) {α : Type} (R : α → List Value → Prop) (L : List α) (cs : List Value) : Prop :=
 ∃ A n c xs, cs = [.slice A n c] ∧ Rd W W.heap.size size A n c xs ∧ L.length = n ∧ c * bytes ≤ 140737488351232 ∧ ∀ i (h : i < L.length), R L[i] ((xs.drop (i * size)).take size)

theorem reader_int {t : TypeId} {k : IntKind} (ht : P.underlying t = some (.int k)) : Reader enc P W t (RInt k) := fun fuel cs d p h _ => by
 obtain ⟨n, h1, _, h2⟩ := DataW.trod_int ht h
 exact ⟨n, h1, h2⟩
theorem reader_bool {t : TypeId} (ht : P.underlying t = some .bool) : Reader enc P W t RBool := fun fuel cs d p h _ => by
 obtain ⟨b, h1, _⟩ := DataW.trod_bool ht h
 exact ⟨b, h1⟩
theorem reader_str {t : TypeId} (ht : P.underlying t = some .string) : Reader enc P W t RStr := fun fuel cs d p h hw => by
 obtain ⟨s, h1, h2, _⟩ := DataW.trod_string ht h
 obtain ⟨rfl, rfl⟩ : d = _ ∧ p = _ := by simpa using h2
 have := hw s.data.toList.length (by simp [DataW.weights])
 exact ⟨s.data.toList, h1, by simpa [reachBytes] using this⟩
theorem weightsAll_mem {e : TypeId} : ∀ {ds : List (DataW H)} {d : DataW H}, d ∈ ds → ∀ x ∈ d.weights P e, x ∈ DataW.weightsAll P e ds
 | d0 :: ds, d, hd, x, hx => by
  simp only [DataW.weightsAll, List.mem_append]
  rcases List.mem_cons.1 hd with rfl | h
  ·exact .inl hx
  ·exact .inr (weightsAll_mem h x hx)
theorem reader_slice {t e size bytes : Nat} {α : Type} {R : α → List Value → Prop} (ht : P.underlying t = some (.slice e)) (hc : P.cellsOf e = size) (hby : P.bytesOf e = bytes) (hpos : 0 < size) (hr : Reader enc P W e R) : Reader enc P W t (RSlice W size bytes R) := fun fuel cs d p h hw => by
 have hlt := DataW.trod_lt fuel _ _ _ h
 rcases open_slice ht h with ⟨rfl, _⟩ | ⟨a, len, cap, m, n, D, Pl, rfl, hb, hl, hm, hmm, hx, hel⟩
 ·exact ⟨[], none, 0, 0, [], rfl, Rd.nil _ _ _ _ (by simp [maxLen]) _, rfl, by omega, fun i h => by simp at h⟩
 simp only [if_true] at hmm
 have hmm' := hmm.symm
 subst hmm'
 obtain ⟨rfl, rfl⟩ : d = _ ∧ p = _ := by simpa using hx
 have hcap : cap * bytes ≤ 140737488351232 := by
  have := hw (((((List.range len).map D).length) + (((List.range (cap - len)).map fun j => D (len + j)).length)) * P.bytesOf e) (by simp [DataW.weights, ht])
  simp only [List.length_map, List.length_range, hby, reachBytes] at this
  rwa [show len + (cap - len) = cap by omega] at this
 have each : ∀ i, i < len → ∃ y : α × List Value, W.cells? 0 (a.add (i * P.cellsOf e)) (P.cellsOf e) = some y.2 ∧ R y.1 y.2 := fun i hi => by
  obtain ⟨cs', h1, h2⟩ := hel i (by omega)
  obtain ⟨y, hy⟩ := hr _ _ _ _ h2 (fun x hx => hw x (by
   simp only [DataW.weights, ht, List.mem_cons, List.mem_append]
   exact .inr (.inl (weightsAll_mem (List.mem_map.2 ⟨i, List.mem_range.2 hi, rfl⟩) x hx))))
  exact ⟨(y, cs'), h1, hy⟩
 obtain ⟨Y, hY⟩ : ∃ Y : Nat → Option (α × List Value), ∀ i, i < len → ∃ y, Y i = some y ∧ W.cells? 0 (a.add (i * P.cellsOf e)) (P.cellsOf e) = some y.2 ∧ R y.1 y.2 :=
  ⟨fun i => if h : i < len then some (each i h).choose else none, fun i hi => ⟨_, dif_pos hi, (each i hi).choose_spec⟩⟩
 by_cases hl0 : len = 0
 ·subst hl0
  exact ⟨[], some a, 0, cap, [], rfl, Rd.nil _ _ _ _ hm _, rfl, hcap, fun i h => by simp at h⟩
 obtain ⟨y0, _⟩ := hY 0 (by omega)
 obtain ⟨Y', hY'⟩ : ∃ Y' : Nat → α × List Value, ∀ i, i < len → Y i = some (Y' i) := ⟨fun i => (Y i).getD y0, fun i hi => by
  obtain ⟨y, hy, _⟩ := hY i hi
  show Y i = some ((Y i).getD y0)
  rw [hy]; rfl⟩
 replace hY : ∀ i, i < len → W.cells? 0 (a.add (i * P.cellsOf e)) (P.cellsOf e) = some (Y' i).2 ∧ R (Y' i).1 (Y' i).2 := fun i hi => by
  obtain ⟨y, hy, h1⟩ := hY i hi
  rw [hY' i hi] at hy
  injection hy with hy
  rw [hy]; exact h1
 clear hY' each
 obtain ⟨Y, rfl⟩ : ∃ Y, Y = Y' := ⟨_, rfl⟩
 have hlenY : ∀ i, i < len → (Y i).2.length = size := fun i hi => by rw [← hc]; exact (World.cells?_some (hY i hi).1).2.1
 have hchunk : ∀ (k : Nat), k ≤ len → ((List.range k).flatMap fun i => (Y i).2).length = k * size ∧ ∀ i, i < k → ((((List.range k).flatMap fun i => (Y i).2).drop (i * size)).take size) = (Y i).2 := by
  intro k
  induction k with
  | zero => intro _; simp
  | succ k ih =>
   intro hk
   obtain ⟨h1, h2⟩ := ih (by omega)
   have hlk := hlenY k (by omega)
   rw [List.range_succ, List.flatMap_append]
   simp only [List.flatMap_cons, List.flatMap_nil, List.append_nil]
   refine ⟨by rw [List.length_append, h1, hlk, Nat.succ_mul], fun i hi => ?_⟩
   rcases Nat.lt_or_ge i k with hik | hik
   ·have : i * size + size ≤ k * size := by rw [← Nat.succ_mul]; exact Nat.mul_le_mul_right _ hik
    rw [List.drop_append_of_le_length (by rw [h1]; omega), List.take_append_of_le_length (by rw [List.length_drop, h1]; omega)]
    exact h2 i hik
   ·obtain rfl : i = k := by omega
    rw [List.drop_append, h1, Nat.sub_self, List.drop_of_length_le (by rw [h1]; exact Nat.le_refl _), List.drop_zero, List.nil_append, List.take_of_length_le (by omega)]
 obtain ⟨hL, hCh⟩ := hchunk len (Nat.le_refl _)
 refine ⟨(List.range len).map fun i => (Y i).1, some a, len, cap, (List.range len).flatMap fun i => (Y i).2, rfl, ⟨hL, hl, hm, fun hn => ?_⟩, by simp, hcap, fun i hi => ?_⟩
 ·obtain ⟨_, _, hcell0⟩ := World.cells?_some (hY 0 hn).1
  have h0 := hcell0 0 (by omega)
  have h0' : W.cell? a = (Y 0).2[0]? := by
   rw [← h0]; congr 1
   simp [Addr.add]
  have hs0 : (Y 0).2[0]? = some ((Y 0).2[0]'(by rw [hlenY 0 hn]; exact hpos)) := List.getElem?_eq_getElem _
  rw [hs0] at h0'
  obtain ⟨b, off, spot⟩ := a
  have hspot : spot = none := World.cell?_spot h0'
  subst hspot
  refine ⟨b, off, rfl, World.block_lt_of_cell? W _ h0', fun j u hu => ?_⟩
  have hj : j < len * size := by rw [← hL]; exact (List.getElem?_eq_some_iff.1 hu).1
  have hq : j / size < len := (Nat.div_lt_iff_lt_mul hpos).2 hj
  have hr' : j % size < size := Nat.mod_lt _ hpos
  have hjj : j / size * size + j % size = j := by rw [Nat.mul_comm]; exact Nat.div_add_mod j size
  obtain ⟨_, _, hcq⟩ := World.cells?_some (hY (j / size) hq).1
  have h3 := hcq (j % size) (by rw [hc]; exact hr')
  rw [hc] at h3
  have h4 : (Y (j / size)).2[j % size]? = some u := by
   rw [← hCh _ hq, List.getElem?_take, if_pos hr', List.getElem?_drop, hjj]; exact hu
  rw [h4] at h3
  rw [← h3]
  congr 1
  unfold Addr.add
  split <;> split <;> simp_all <;> omega
 ·simp only [List.getElem_map, List.getElem_range]
  have hi' : i < len := by simpa using hi
  rw [hCh i hi']
  exact (hY i hi').2

/-- the fields of a struct -/
theorem trod_field {t fuel : Nat} {cs : List Value} {d : DataW H} {p : List MemPlace} {fs : Array Field} (ht : P.underlying t = some (.struct fs)) (h : DataW.trod enc P W 0 (fun _ => true) true fuel t cs = some (d, p)) (hw : ∀ x ∈ d.weights P t, x ≤ reachBytes) :
  cs.length = P.cellsOf t ∧ ∀ (i : Nat) (f : Field), fs[i]? = some f → ∀ {α : Type} {R : α → List Value → Prop}, Reader enc P W f.type R → ∃ a, R a ((cs.drop f.offset).take (P.cellsOf f.type)) := by
 obtain ⟨xs, n, _, hx, hl, hlen, hf⟩ := DataW.trod_struct ht h
 obtain ⟨rfl, rfl⟩ : d = _ ∧ p = _ := by simpa using hx
 refine ⟨hl, fun i f hi α R hr => ?_⟩
 have hif : i < fs.size := (Array.getElem?_eq_some_iff.1 hi).1
 have h1 := hf i f hi
 rw [List.getElem?_eq_getElem (by omega)] at h1
 refine hr _ _ _ _ h1 fun x hxm => hw x ?_
 simp only [DataW.weights, ht]
 refine DataW.weights_mem_each (j := i) (t := f.type) (d := xs[i].1) ?_ ?_ x hxm
 ·rw [List.getElem?_map, Array.getElem?_toList, hi]; rfl
 ·rw [List.getElem?_map, List.getElem?_eq_getElem (by omega)]; rfl

/-- an argument, by its reader -/
theorem see_arg {t : TypeId} {v : Value} {d : DataW H} {ps : List MemPlace} {α : Type} {R : α → List Value → Prop} (hr : Reader enc P W t R) (hd : DataW.Trod enc P W 0 (fun _ => true) true t v d ps)
  {ts : List TypeId} {ds : List (DataW H)} {j : Nat} (hz : (DataW.weightsEach P ts ds).all (· ≤ reachBytes) = true) (ht : ts[j]? = some t) (hdj : ds[j]? = some d) : ∃ a, R a v.cells.toList := by
 obtain ⟨fuel, hf⟩ := hd
 refine hr fuel _ d ps hf fun x hx => ?_
 have := List.all_eq_true.1 hz x (DataW.weights_mem_each ht hdj x hx)
 simpa using this
end
end Go.PH
end
section
/- Slices of bytes; bytes turned into a text. -/
namespace Go.PH
open Go.RowKit Go.Proofs
theorem slB : SlT Tryd.prog 47 5 1 1 (.int .u8 0) := SlT.mk' Tryd.underlying47 (by kernel_rfl) rfl (by omega)
theorem run_strB {w : World} {B n c : Nat} {A : Option Addr} {l : List UInt8} (hr : RdB w B A n c l) : (convert 47 9 (.slice A n c)).run Tryd.prog w = .ok (.string (str l)) w :=
 run_str Tryd.underlying47 Tryd.underlying9 Tryd.underlying5 hr
end Go.PH
end
section
/- The walks of crc and of its reference. -/
namespace Go.PH
open Go.RowKit Go.Proofs

def TabAt (w : World) : Prop := ∀ j : Nat, j < 16 → w.cell? ⟨0, j, none⟩ = some (.int .u32 (tab j : Int))

theorem nib_facts {w : World} (ht : TabAt w) (T : Nat) (hT : T < 4294967296) :
  ∃ M V T' : Nat, M < 16 ∧ V < 4294967296 ∧ T' < 4294967296 ∧ bits .and .u32 (T : Int) 15 = (M : Int) ∧ w.cell? ⟨0, M, none⟩ = some (.int .u32 (V : Int)) ∧
   bits .xor .u32 ((T : Int) / 16) (V : Int) = (T' : Int) ∧ T' = nib T := by
 refine ⟨T % 16, tab (T % 16), nib T, by omega, tab_lt _, nib_lt hT, ?_, ht _ (by omega), ?_, rfl⟩
 ·have := u32_and_nat T 15 hT (by omega)
  rw [show T &&& 15 = T % 16 from Nat.and_two_pow_sub_one_eq_mod T 4] at this
  exact this
 ·have := u32_xor_nat (T / 16) (tab (T % 16)) (by omega) (tab_lt _)
  simpa [nib] using this

set_option maxHeartbeats 400000 in
theorem more_any (A : Option Addr) (n c s : Nat) (l : List UInt8) (B : Nat) (w : World) (hb : RdB w B A n c l) (ht : TabAt w) (hn : n ≤ 140737488355328) (hs : s < 4294967296) :
  Calls Tryd.prog 43 #[.int .u32 s, .slice A n c] w fun e w' => e = .returned (.int .u32 (more s l)) ∧ w = w' := by
 have hl := hb.length
 have e0 : bits .xor .u32 IntKind.u32.max (s : Int) = ((4294967295 ^^^ s : Nat) : Int) := u32_xor_nat 4294967295 s (by omega) hs
 have hr0 : 4294967295 ^^^ s < 4294967296 := xor_lt32 (by omega) hs
 obtain ⟨r0, hr0e⟩ : ∃ r0, r0 = 4294967295 ^^^ s := ⟨_, rfl⟩
 rw [← hr0e] at e0 hr0
 have hfin : more s l = 4294967295 ^^^ reg r0 l := by rw [hr0e]; rfl
 have Hfin := Lib.hid hfin
 clear hr0e hfin
 go_enter Tryd.func43, Tryd.ntmps43
 go_wp2
 go_loop [5, 11] (fun r i => ∃ k : Nat, k ≤ n ∧ i = .int .i64 k ∧ ∃ R : Nat, R < 4294967296 ∧ r = .int .u32 R ∧ R = reg r0 (l.take k)) (fun _ i => n - (RowKit.intOf i).toNat)
 case atStart => exact ⟨0, by omega, rfl, r0, hr0, by simp, by simp [reg]⟩
 case round =>
  obtain ⟨k, hk, rfl, R, hR, rfl, HR⟩ := hrel
  by_cases hlt : k < n
  ·obtain ⟨b, off, rfl, hbB, hkl, hcell⟩ := hb.at_k hlt
   have hx := l[k].toNat_lt
   have hsnoc : reg r0 (l.take (k + 1)) = stepT R l[k].toNat := by
    rw [List.take_succ_eq_append_getElem hkl, reg_snoc, ← HR, stepT_eq]
   have hS : stepT R l[k].toNat = nib (nib (R ^^^ l[k].toNat)) := rfl
   have e1 : bits .xor .u32 (R : Int) (l[k].toNat : Int) = ((R ^^^ l[k].toNat : Nat) : Int) := u32_xor_nat R _ hR (by omega)
   have hT : R ^^^ l[k].toNat < 4294967296 := xor_lt32 hR (by omega)
   obtain ⟨T, hTe⟩ : ∃ T, T = R ^^^ l[k].toNat := ⟨_, rfl⟩
   rw [← hTe] at e1 hT hS
   obtain ⟨M1, V1, T1, hM1, hV1, hT1, e2, c1, e3, hT1e⟩ := nib_facts ht T hT
   obtain ⟨M2, V2, T2, hM2, hV2, hT2, e4, c2, e5, hT2e⟩ := nib_facts ht T1 hT1
   have hfin2 : T2 = reg r0 (l.take (k + 1)) := by rw [hsnoc, hS, hT2e, hT1e]
   have HF := Lib.hid hfin2
   clear hfin2 hT2e hT1e hTe hsnoc hS HR
   go_wp2
   go_round
   case rel => exact ⟨k + 1, by omega, by go_num, T2, hT2, rfl, HF.out⟩
   case measure => simp [RowKit.intOf]; omega
  ·have hkn : k = n := by omega
   have e1 : bits .xor .u32 IntKind.u32.max (R : Int) = ((4294967295 ^^^ R : Nat) : Int) := u32_xor_nat 4294967295 R (by omega) hR
   have hres : 4294967295 ^^^ R = more s l := by rw [Hfin.out, HR, hkn, ← hl, List.take_length]
   rw [hres] at e1
   clear hres HR
   go_wp2
   go_ret
   exact ⟨rfl, rfl⟩

theorem sum_any (A : Option Addr) (n c : Nat) (l : List UInt8) (B : Nat) (w : World) (hb : RdB w B A n c l) (ht : TabAt w) (hn : n ≤ 140737488355328) :
  Calls Tryd.prog 20 #[.slice A n c] w fun e w' => e = .returned (.int .u32 (sum l)) ∧ w = w' := by
 go_enter Tryd.func20, Tryd.ntmps20
 go_wp2_with (go_at_call 43; refine (more_any A n c 0 l B w hb ht hn (by omega)).mono ?_; rintro e w' ⟨rfl, rfl⟩)
 go_ret
 exact ⟨rfl, rfl⟩
end Go.PH
end
section
/- The listed table stays below a mark. -/
namespace Go.PH
open Go.RowKit Go.Proofs

theorem TabAt.below {w w' : World} (h : TabAt w) {B : Nat} (hb : Below B w w') (hg : 0 < B) : TabAt w' := fun j hj => (hb.cell (p := ⟨0, j, none⟩) hg).trans (h j hj)
end Go.PH
end
section
/- The walks of crc and of its reference: sealing and opening. -/
namespace Go.PH
open Go.RowKit Go.Proofs

end Go.PH
end
section
/- The walks of crc and of its reference: opening by the reference; the known answers; the laws. -/
namespace Go.PH
open Go.RowKit Go.Proofs


end Go.PH
end

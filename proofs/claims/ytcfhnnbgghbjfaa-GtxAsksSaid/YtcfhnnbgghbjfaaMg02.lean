/- Texts laid together: Region, Region2, Region3, Row, See, SlB, Str. -/
import Derived.OrdersHeld
import Derived.Deep.RegionHeld3
import Derived.ProofKit
import Derived.OpenShut
import Derived.Deep.DeepHandedRow
import Derived.Lib.LaidTab
import Derived.SizedLaws
import Derived.Deep.Slices
import Derived.Test.YtcfhnnbgghbjfaaRows
import Derived.Lib.ConvBytes
import Derived.Test.YtcfhnnbgghbjfaaMg00
import Derived.Test.YtcfhnnbgghbjfaaMg01
section
/- Regions that draw their order: operations that yield the same in every world that meets S may be taken first; what is left stands in one order. -/
set_option linter.all false
set_option linter.unusedSimpArgs false
set_option linter.unusedVariables false
namespace Go.PH
open Go.RowKit

section
variable {P : Program} {ops : Array Oper} {Q : Exit → Act → World → Prop} {S S2 : World → Prop} {fuel : Nat} {listed : Array Bool} {a : Act} {w : World}

theorem rg_mono (h : ∀ w, S2 w → S w) : ∀ (fuel : Nat) (listed : Array Bool) (a : Act) (w : World), wpAnyH P .any ops Q S2 fuel listed a w → wpAnyH P .any ops Q S fuel listed a w
  | 0, _, _, _, hh => hh
  | fuel + 1, _, _, _, hh => ⟨hh.1, fun i hi => wpOp_mono (fun a' w' h' => ⟨h _ h'.1, rg_mono h fuel _ a' w' h'.2⟩) (hh.2 i hi)⟩
/-- the beginning -/
theorem rg_start (S : World → Prop) {id : Nat} (hm : P.follows .mixedOrders = true) (h : wpAnyH P .any ops (NoPanic Q) S ops.size (Array.replicate ops.size false) a w.drew) : (Code.region id ops true).wp P Q a w :=
  wp_region_noPanic (wp_region_held hm h)
/-- S made stronger -/
theorem rg_str (S2 : World → Prop) (himp : ∀ w, S2 w → S w) (h : wpAnyH P .any ops Q S2 fuel listed a w) : wpAnyH P .any ops Q S fuel listed a w := rg_mono himp _ _ _ _ h
/-- number i is taken first: it yields v in every world that meets S -/
theorem rg_take (i : Nat) {o : Oper} {v : Value} (hi : ops[i]? = some o) (hs : Region.noSelect ops = true) (hf : Region.free .any ops listed i = true) (hr : (Region.ready .any ops listed).contains i = true)
    (hS : S w) (hw : Region.wanted o (yielded ops a.tmps) = true) (hy : ∀ w, S w → (execOp a.eval o).run P w = .ok (.value v) w)
    (h : wpAnyH P .any ops (NoPanic Q) S fuel (listed.setIfInBounds i true) (a.put o.dst v) w) : wpAnyH P .any ops (NoPanic Q) S (fuel + 1) listed a w :=
  wpAnyH_take hi hs hf hr (fun _ _ _ h => h) (.inl ⟨hw, hy⟩) hS h
/-- its guard says no -/
theorem rg_pass (i : Nat) {o : Oper} (hi : ops[i]? = some o) (hs : Region.noSelect ops = true) (hf : Region.free .any ops listed i = true) (hr : (Region.ready .any ops listed).contains i = true)
    (hS : S w) (hw : Region.wanted o (yielded ops a.tmps) = false)
    (h : wpAnyH P .any ops (NoPanic Q) S fuel (listed.setIfInBounds i true) (a.put o.dst undef) w) : wpAnyH P .any ops (NoPanic Q) S (fuel + 1) listed a w :=
  wpAnyH_take hi hs hf hr (fun _ _ _ h => h) (.inr ⟨hw, rfl⟩) hS h
/-- number i is the only one that may come up -/
theorem rg_one (i : Nat) {o : Oper} (hi : ops[i]? = some o) (hr : Region.ready .any ops listed = [i]) (hw : Region.wanted o (yielded ops a.tmps) = true)
    (h : ∀ K : Act → World → Prop, (∀ a' w', S w' → wpAnyH P .any ops Q S fuel (listed.setIfInBounds i true) a' w' → K a' w') → o.wp P a w K Q) : wpAnyH P .any ops Q S (fuel + 1) listed a w :=
  wpAnyH_all (rs := [i]) hr (by simp) fun j hj => by
    obtain rfl : j = i := by simpa using hj
    unfold wpOp
    rw [hi]
    simp only [hw, if_true]
    exact .inl (h _ fun a' w' h1 h2 => ⟨h1, h2⟩)
/-- all have come up -/
theorem rg_end (hr : Region.ready .any ops listed = []) (h : Q .normal a w) : wpAnyH P .any ops (NoPanic Q) S fuel listed a w := wpAnyH_done (Q := NoPanic Q) hr h _
/-- what is left stands in one order -/
def seqOk (ops : Array Oper) : Array Bool → List Nat → Bool
  | listed, [] => (Region.ready .any ops listed).isEmpty
  | listed, i :: r => Region.ready .any ops listed == [i] && (ops[i]?).isSome && seqOk ops (listed.setIfInBounds i true) r
def pick (l : List Oper) : List Nat → List Oper
  | [] => []
  | i :: r => match l[i]? with
    | some o => o :: pick l r
    | none => pick l r
theorem any_tail : ∀ (seq : List Nat) (fuel : Nat) (listed : Array Bool) (a : Act) (w : World), seqOk ops listed seq = true → seq.length ≤ fuel → wpList P ops Q (pick ops.toList seq) a w → wpAny P .any ops Q fuel listed a w
  | [], fuel, listed, a, w, hs, _, h => by
    have hr : Region.ready .any ops listed = [] := by simpa [seqOk] using hs
    exact wpAny_done hr (by simpa [pick, wpList] using h) fuel
  | i :: r, 0, _, _, _, _, hl, _ => by simp at hl
  | i :: r, fuel + 1, listed, a, w, hs, hl, h => by
    simp only [seqOk, Bool.and_eq_true, beq_iff_eq, Option.isSome_iff_exists] at hs
    obtain ⟨⟨hr, o, ho⟩, hs⟩ := hs
    refine wpAny_all (rs := [i]) hr (by simp) fun j hj => ?_
    obtain rfl : j = i := by simpa using hj
    unfold wpOp
    have hol : ops.toList[j]? = some o := by simpa using ho
    simp only [pick, hol, wpList] at h
    rw [ho]
    simp only at hl ⊢
    have hl' : r.length ≤ fuel := by simpa using hl
    split
    · rename_i hw
      rw [if_pos hw] at h
      exact h.imp (Oper.wp_mono fun a' w' h' => any_tail r fuel _ a' w' hs hl' h') id
    · rename_i hw
      rw [if_neg hw] at h
      exact any_tail r fuel _ _ _ hs hl' h
theorem any_held_of : ∀ (fuel : Nat) (listed : Array Bool) (a : Act) (w : World), wpAny P .any ops Q fuel listed a w → wpAnyH P .any ops Q (fun _ => True) fuel listed a w
  | 0, _, _, _, h => h
  | fuel + 1, _, _, _, h => ⟨h.1, fun i hi => wpOp_mono (fun a' w' h' => ⟨trivial, any_held_of fuel _ a' w' h'⟩) (h.2 i hi)⟩
end
end Go.PH
end
section
/- Drawn regions: two operations of which either may come up first. -/
set_option linter.all false
set_option linter.unusedSimpArgs false
set_option linter.unusedVariables false
namespace Go.PH
open Go.RowKit
section
variable {P : Program} {ops : Array Oper} {Q : Exit → Act → World → Prop} {S S2 : World → Prop} {fuel : Nat} {listed : Array Bool} {a : Act} {w : World}
theorem rg_two (i j : Nat) {o p : Oper} (hi : ops[i]? = some o) (hj : ops[j]? = some p) (hr : Region.ready .any ops listed = [i, j]) (hw : Region.wanted o (yielded ops a.tmps) = true) (hw' : Region.wanted p (yielded ops a.tmps) = true)
    (h : ∀ K : Act → World → Prop, (∀ a' w', S w' → wpAnyH P .any ops Q S fuel (listed.setIfInBounds i true) a' w' → K a' w') → o.wp P a w K Q)
    (h' : ∀ K : Act → World → Prop, (∀ a' w', S w' → wpAnyH P .any ops Q S fuel (listed.setIfInBounds j true) a' w' → K a' w') → p.wp P a w K Q) : wpAnyH P .any ops Q S (fuel + 1) listed a w :=
  wpAnyH_all (rs := [i, j]) hr (by simp) fun k hk => by
    rcases (by simpa using hk : k = i ∨ k = j) with rfl | rfl
    · unfold wpOp
      rw [hi]
      simp only [hw, if_true]
      exact .inl (h _ fun a' w' h1 h2 => ⟨h1, h2⟩)
    · unfold wpOp
      rw [hj]
      simp only [hw', if_true]
      exact .inl (h' _ fun a' w' h1 h2 => ⟨h1, h2⟩)
end
section
variable {P : Program} {ops : Array Oper} {Q : Exit → Act → World → Prop} {S : World → Prop} {fuel : Nat} {listed : Array Bool} {a : Act} {w : World} {t e size bytes n c : Nat} {z : Value} {A : Option Addr}
/-- a cut taken first -/
theorem rg_slice (i : Nat) {o : Oper} {x : Operand} {lo hi mx : Option Operand} (hT : SlT P t e size bytes z) (hi' : ops[i]? = some o) (hs : Region.noSelect ops = true) (hf : Region.free .any ops listed i = true) (hr : (Region.ready .any ops listed).contains i = true)
    (hS : S w) (hw : Region.wanted o (yielded ops a.tmps) = true) (ho : o.op = .slice t x lo hi mx) (hx : a.eval x = .slice A n c) (hmax : c ≤ maxLen) (hnc : n ≤ c) (l h m : Nat)
    (hlo : Bd (lo.map a.eval) 0 l) (hhi : Bd (hi.map a.eval) n h) (hmx : Bd (mx.map a.eval) c m) (hmh : mx.isSome = true → hi.isSome = true) (h1 : l ≤ h) (h2 : h ≤ m) (h3 : m ≤ c) (h4 : h ≤ n)
    (hk : wpAnyH P .any ops (NoPanic Q) S fuel (listed.setIfInBounds i true) (a.put o.dst (.slice (cutA A size l m) (h - l) (m - l))) w) : wpAnyH P .any ops (NoPanic Q) S (fuel + 1) listed a w :=
  rg_take i hi' hs hf hr hS hw (fun wS _ => by
    unfold execOp
    simp only [ho, hx, Sem.run_bind, Sem.run_pure, Result.andThen_ok, run_cutA (A := A) hT wS hmax hnc l h m hlo hhi hmx (by simpa using hmh) h1 h2 h3 h4]) hk
end
/-- two cells of a block stored -/
theorem set2 (w : World) (g : Nat) (x y u v : Value) (h0 : w.cell? ⟨g, 0, none⟩ = some x) (h1 : w.cell? ⟨g, 1, none⟩ = some y) :
    ((w.setCell ⟨g, 0, none⟩ u).setCell ⟨g, 1, none⟩ v).cell? ⟨g, 0, none⟩ = some u ∧ ((w.setCell ⟨g, 0, none⟩ u).setCell ⟨g, 1, none⟩ v).cell? ⟨g, 1, none⟩ = some v ∧ (∀ a, ((w.setCell ⟨g, 0, none⟩ u).setCell ⟨g, 1, none⟩ v).frozen? a = w.frozen? a) ∧
      w.grownBy ((w.setCell ⟨g, 0, none⟩ u).setCell ⟨g, 1, none⟩ v) (some g) := by
  refine ⟨?_, ?_, fun a => by rw [World.frozen?_setCell, World.frozen?_setCell], ⟨rfl, rfl, rfl, by simp, fun k hk hne => ?_⟩⟩
  · rw [World.cell?_setCell_other _ _ _ _ (by simp)]; exact World.cell?_setCell_same _ _ _ h0
  · exact World.cell?_setCell_same _ _ _ ((World.cell?_setCell_other _ _ _ _ (by simp)).trans h1)
  · have hk' : k ≠ g := fun e => hne (by rw [e])
    rw [Below.heap_setCell _ _ _ k (fun e => hk' (by simpa using e)), Below.heap_setCell _ _ _ k (fun e => hk' (by simpa using e))]
end Go.PH
end
section
/- Drawn regions: three operations of which any may come up first. -/
set_option linter.all false
set_option linter.unusedSimpArgs false
set_option linter.unusedVariables false
namespace Go.PH
open Go.RowKit
variable {P : Program} {ops : Array Oper} {Q : Exit → Act → World → Prop} {S S2 : World → Prop} {fuel : Nat} {listed : Array Bool} {a : Act} {w : World}
theorem rg_three (i j k : Nat) {o p q : Oper} (hi : ops[i]? = some o) (hj : ops[j]? = some p) (hk : ops[k]? = some q) (hr : Region.ready .any ops listed = [i, j, k]) (hw : Region.wanted o (yielded ops a.tmps) = true) (hw' : Region.wanted p (yielded ops a.tmps) = true) (hw2 : Region.wanted q (yielded ops a.tmps) = true)
    (h : ∀ K : Act → World → Prop, (∀ a' w', S w' → wpAnyH P .any ops Q S fuel (listed.setIfInBounds i true) a' w' → K a' w') → o.wp P a w K Q)
    (h' : ∀ K : Act → World → Prop, (∀ a' w', S w' → wpAnyH P .any ops Q S fuel (listed.setIfInBounds j true) a' w' → K a' w') → p.wp P a w K Q)
    (h2 : ∀ K : Act → World → Prop, (∀ a' w', S w' → wpAnyH P .any ops Q S fuel (listed.setIfInBounds k true) a' w' → K a' w') → q.wp P a w K Q) : wpAnyH P .any ops Q S (fuel + 1) listed a w :=
  wpAnyH_all (rs := [i, j, k]) hr (by simp) fun m hm => by
    rcases (by simpa using hm : m = i ∨ m = j ∨ m = k) with rfl | rfl | rfl
    · unfold wpOp
      rw [hi]
      simp only [hw, if_true]
      exact .inl (h _ fun a' w' h1 h2 => ⟨h1, h2⟩)
    · unfold wpOp
      rw [hj]
      simp only [hw', if_true]
      exact .inl (h' _ fun a' w' h1 h2 => ⟨h1, h2⟩)
    · unfold wpOp
      rw [hk]
      simp only [hw2, if_true]
      exact .inl (h2 _ fun a' w' h1 h2 => ⟨h1, h2⟩)
end Go.PH
end
section
/- From a law's walk to its row: reading arguments as the walks take them; what a law's post asks. -/
set_option linter.all false
set_option linter.unusedSimpArgs false
set_option linter.unusedVariables false
namespace Go.PH
open Go.RowKit Go.ChangeShapes Go.WideShapes Go.ChangeAt
open Go.ChangeMaps (open_string shut_string)

section
variable {H : Type} {enc : TypeId × Value → H} {P : Program} {W W' : World}

theorem below_trodAll (hl : laidOutB P = true) (bel : Below W.heap.size W W') : ∀ {ts : List TypeId} {vs : List Value} {ds : List (DataW H)} {ps : List MemPlace}, (ts.all fun t => P.readableRec t && decide (t < P.types.size)) = true →
    (∀ x ∈ ps, x.block < W.heap.size) → DataW.TrodAll enc P W 0 (fun _ => true) true ts vs ds ps → DataW.TrodAll enc P W' 0 (fun b => decide (b < W.heap.size)) true ts vs ds ps
  | [], [], [], _, _, _, h => h
  | [], _ :: _, _, _, _, _, h => h.elim
  | [], [], _ :: _, _, _, _, h => h.elim
  | _ :: _, [], _, _, _, _, h => h.elim
  | _ :: _, _ :: _, [], _, _, _, h => h.elim
  | t :: ts, v :: vs, d :: ds, ps, ha, hlt, h => by
    obtain ⟨p, q, hp, hq, rfl⟩ := h
    simp only [List.all_cons, Bool.and_eq_true, decide_eq_true_eq] at ha
    exact ⟨p, q, Below.trod hl ha.1.1 ha.1.2 hp bel (fun x hx => hlt x (by simp [hx])), below_trodAll hl bel (by simpa using ha.2) (fun x hx => hlt x (by simp [hx])) hq, rfl⟩

/-- what a law's post asks: it returned true, nothing that was there has turned -/
theorem law_post {fn : Func} {s : ChangeSpec} {args : Array Value} {ds gs : List (DataW H)} {before : List MemPlace} {bt : TypeId} (hvars : s.vars = [])
    (hW : DataW.Whole enc P fn.params.toList s.vars false W args.toList ds gs before) (hl : laidOutB P = true) (hts : (fn.params.toList.all fun t => P.readableRec t && decide (t < P.types.size)) = true)
    (hrt : fn.resultTypes = #[bt]) (hb : P.underlying bt = some .bool) (hfn : ∀ ds : List (DataW H), ds.length = fn.params.size → s.fn H ds = { results := [.lit (.bool true)], args := ds }) (bel : Below W.heap.size W W') :
    s.post enc P fn false true false false W args (.bool true) W' := by
  have hW' := hW
  obtain ⟨p, q, hA, hV, rfl, hfz, hnd⟩ := hW
  rw [hvars] at hV
  obtain ⟨rfl, rfl⟩ := trodVars_none hV
  have hlen : ∀ {ts : List TypeId} {vs : List Value} {ds : List (DataW H)} {ps : List MemPlace}, DataW.TrodAll enc P W 0 (fun _ => true) true ts vs ds ps → ds.length = ts.length := by
    intro ts
    induction ts with
    | nil => intro vs ds ps h; cases vs <;> cases ds <;> simp_all [DataW.TrodAll]
    | cons t ts ih =>
      intro vs ds ps h
      obtain ⟨v, vs', d, ds', p, q, rfl, rfl, rfl, _, h⟩ := trodAll_cons h
      simp [ih h]
  have e : s.fn H (ds ++ []) = { results := [.lit (.bool true)], args := ds } := by rw [List.append_nil]; exact hfn ds (by rw [hlen hA]; simp)
  refine ⟨ds, [], _, [], p, [], hW', ?_, ?_, ?_, bel.frame _, fun h => by cases h⟩
  · rw [e, hrt]
    exact ⟨[], [], shut_bool hb true, rfl, rfl⟩
  · rw [e]
    exact below_trodAll hl bel hts (fun x hx => hW'.lt x (by simp [hx])) hA
  · rw [e, hvars]
    exact rfl

/-- an integer -/
theorem see_int {t : TypeId} {k : IntKind} {v : Value} {d : DataW H} {ps : List MemPlace} {r : Reach} {b0 : Nat} (ht : P.underlying t = some (.int k)) (hval : Value.okWide P W r b0 t v) (hd : DataW.Trod enc P W 0 (fun _ => true) true t v d ps) :
    ∃ n : Int, v = .int k n ∧ (Lit.int k n).wf = true := by
  obtain ⟨n, h1, _, _, h2⟩ := open_int ht hval hd
  exact ⟨n, h1, h2⟩
/-- bytes -/
theorem bytes_core {t e : TypeId} {A : Option Addr} {n c fuel : Nat} {d : DataW H} {ps : List MemPlace} (ht : P.underlying t = some (.slice e)) (he : P.underlying e = some (.int .u8)) (hc : P.cellsOf e = 1) (hby : P.bytesOf e = 1)
    (hf : DataW.trod enc P W 0 (fun _ => true) true fuel t [.slice A n c] = some (d, ps)) (hz : ∀ elems spare, d = .slice elems spare → (elems.length + spare.length) * P.bytesOf e ≤ reachBytes) :
    ∃ l, RdB W W.heap.size A n c l ∧ c ≤ 140737488351232 := by
  rcases open_ints ht he hc hf with ⟨hcs, hx⟩ | ⟨a, len, cap, zs, hcs, _, hl, hm, hlen, hx, hcell, hwf⟩
  · simp at hcs
    obtain ⟨rfl, rfl, rfl⟩ := hcs
    exact ⟨[], Rd.nil _ _ _ _ (by simp [maxLen]) _, by omega⟩
  · simp at hcs
    obtain ⟨rfl, rfl, rfl⟩ := hcs
    simp only [if_true] at hlen
    obtain ⟨rfl, rfl⟩ : d = _ ∧ ps = _ := by simpa using hx
    have hzz := hz _ _ rfl
    have hcap : c ≤ 140737488351232 := by
      rw [hby] at hzz
      simp only [lits, List.length_map, List.length_take, List.length_drop, reachBytes] at hzz
      omega
    have hbd : ∀ z ∈ zs, 0 ≤ z ∧ z < 256 := by
      intro z hzm
      have := hwf z hzm
      simp [Lit.wf, IntKind.min, IntKind.max, IntKind.signed, IntKind.bits] at this
      omega
    refine ⟨(zs.take n).map fun z => UInt8.ofNat z.toNat, ⟨by simp; omega, hl, hm, fun hn => ?_⟩, hcap⟩
    have h0 := hcell 0 (by omega)
    obtain ⟨b, off, spot⟩ := a
    have hspot : spot = none := by simpa [Addr.add] using World.cell?_spot h0
    subst hspot
    refine ⟨b, off, rfl, ?_, fun j u hu => ?_⟩
    · have := World.block_lt_of_cell? W _ h0
      simpa [Addr.add] using this
    · have hj : j < n ∧ j < zs.length := by
        have := (List.getElem?_eq_some_iff.1 hu).1
        simp at this; omega
      have hadd : (⟨b, off, none⟩ : Addr).add j = ⟨b, off + j, none⟩ := by unfold Addr.add; split <;> simp_all
      have hcj := hcell j hj.2
      rw [hadd] at hcj
      rw [hcj]
      have hz := hbd zs[j] (List.getElem_mem hj.2)
      simp only [List.map_map, List.getElem?_map, List.getElem?_take, hj.1, if_true, List.getElem?_eq_getElem hj.2, Option.map_some, Function.comp] at hu
      rw [← hu]
      simp only [u8v, List.getD, List.getElem?_eq_getElem hj.2, Option.getD_some, UInt8.toNat_ofNat']
      congr 2
      omega
theorem see_bytes {t e : TypeId} {v : Value} {d : DataW H} {ps : List MemPlace} {r : Reach} {b0 : Nat} (ht : P.underlying t = some (.slice e)) (he : P.underlying e = some (.int .u8)) (hc : P.cellsOf e = 1) (hby : P.bytesOf e = 1)
    (hval : Value.okWide P W r b0 t v) (hd : DataW.Trod enc P W 0 (fun _ => true) true t v d ps) (hz : ∀ elems spare, d = .slice elems spare → (elems.length + spare.length) * P.bytesOf e ≤ reachBytes) :
    ∃ A n c l, v = .slice A n c ∧ RdB W W.heap.size A n c l ∧ c ≤ 140737488351232 := by
  obtain ⟨A, n, c, rfl⟩ := okWide_slice ht hval
  obtain ⟨fuel, hf⟩ := hd
  obtain ⟨l, h1, h2⟩ := bytes_core ht he hc hby (by simpa [Value.cells] using hf) hz
  exact ⟨A, n, c, l, rfl, h1, h2⟩
end
end Go.PH
end
section
/- Reading arguments of whatever depth as the walks take them: numbers, bools, texts, slices, structs. -/
set_option linter.all false
set_option linter.unusedSimpArgs false
set_option linter.unusedVariables false
namespace Go.PH
open Go.RowKit Go.ChangeShapes Go.WideShapes Go.ChangeAt Go.Deep

section
variable {H : Type} {enc : TypeId × Value → H} {P : Program} {W : World}

/-- whatever reads at type t is, with all its sizes within the form's reach, some a of which R tells the cells -/
def Reader (enc : TypeId × Value → H) (P : Program) (W : World) (t : TypeId) {α : Type} (R : α → List Value → Prop) : Prop :=
  ∀ (fuel : Nat) (cs : List Value) (d : DataW H) (p : List MemPlace), DataW.trod enc P W 0 (fun _ => true) true fuel t cs = some (d, p) → (∀ x ∈ d.weights P t, x ≤ reachBytes) → ∃ a, R a cs

def RInt (k : IntKind) (n : Int) (cs : List Value) : Prop := cs = [.int k n] ∧ (Lit.int k n).wf = true
def RBool (b : Bool) (cs : List Value) : Prop := cs = [.bool b]
def RStr (l : List UInt8) (cs : List Value) : Prop := cs = [.string (str l)] ∧ l.length ≤ 140737488351232
def RBytes (W : World) (l : List UInt8) (cs : List Value) : Prop := ∃ A n c, cs = [.slice A n c] ∧ RdB W W.heap.size A n c l ∧ c ≤ 140737488351232
def RSlice (W : World) (size bytes : Nat) {α : Type} (R : α → List Value → Prop) (L : List α) (cs : List Value) : Prop :=
  ∃ A n c xs, cs = [.slice A n c] ∧ Rd W W.heap.size size A n c xs ∧ L.length = n ∧ c * bytes ≤ 140737488351232 ∧ ∀ i (h : i < L.length), R L[i] ((xs.drop (i * size)).take size)

theorem reader_int {t : TypeId} {k : IntKind} (ht : P.underlying t = some (.int k)) : Reader enc P W t (RInt k) := fun fuel cs d p h _ => by
  obtain ⟨n, h1, _, h2⟩ := DataW.trod_int ht h
  exact ⟨n, h1, h2⟩
theorem reader_bool {t : TypeId} (ht : P.underlying t = some .bool) : Reader enc P W t RBool := fun fuel cs d p h _ => by
  obtain ⟨b, h1, _⟩ := DataW.trod_bool ht h
  exact ⟨b, h1⟩
theorem reader_str {t : TypeId} (ht : P.underlying t = some .string) : Reader enc P W t RStr := fun fuel cs d p h hw => by
  obtain ⟨s, h1, h2, _⟩ := DataW.trod_string ht h
  obtain ⟨rfl, rfl⟩ : d = _ ∧ p = _ := by simpa using h2
  have := hw s.data.toList.length (by simp [DataW.weights])
  exact ⟨s.data.toList, h1, by simpa [reachBytes] using this⟩
theorem reader_bytes {t e : TypeId} (ht : P.underlying t = some (.slice e)) (he : P.underlying e = some (.int .u8)) (hc : P.cellsOf e = 1) (hby : P.bytesOf e = 1) : Reader enc P W t (RBytes W) := fun fuel cs d p h hw => by
  have hcs : ∃ A n c, cs = [.slice A n c] := by
    rcases open_ints ht he hc h with ⟨hcs, _⟩ | ⟨a, len, cap, zs, hcs, _⟩
    · exact ⟨_, _, _, hcs⟩
    · exact ⟨_, _, _, hcs⟩
  obtain ⟨A, n, c, rfl⟩ := hcs
  obtain ⟨l, h2, h3⟩ := bytes_core ht he hc hby h (fun elems spare hd => by
    have := hw ((elems.length + spare.length) * P.bytesOf e) (by rw [hd]; simp [DataW.weights, ht])
    exact this)
  exact ⟨l, _, _, _, rfl, h2, h3⟩

theorem weightsAll_mem {e : TypeId} : ∀ {ds : List (DataW H)} {d : DataW H}, d ∈ ds → ∀ x ∈ d.weights P e, x ∈ DataW.weightsAll P e ds
  | d0 :: ds, d, hd, x, hx => by
    simp only [DataW.weightsAll, List.mem_append]
    rcases List.mem_cons.1 hd with rfl | h
    · exact .inl hx
    · exact .inr (weightsAll_mem h x hx)
theorem reader_slice {t e size bytes : Nat} {α : Type} {R : α → List Value → Prop} (ht : P.underlying t = some (.slice e)) (hc : P.cellsOf e = size) (hby : P.bytesOf e = bytes) (hpos : 0 < size) (hr : Reader enc P W e R) : Reader enc P W t (RSlice W size bytes R) := fun fuel cs d p h hw => by
  have hlt := DataW.trod_lt fuel _ _ _ h
  rcases open_slice ht h with ⟨rfl, _⟩ | ⟨a, len, cap, m, n, D, Pl, rfl, hb, hl, hm, hmm, hx, hel⟩
  · exact ⟨[], none, 0, 0, [], rfl, Rd.nil _ _ _ _ (by simp [maxLen]) _, rfl, by omega, fun i h => by simp at h⟩
  simp only [if_true] at hmm
  have hmm' := hmm.symm
  subst hmm'
  obtain ⟨rfl, rfl⟩ : d = _ ∧ p = _ := by simpa using hx
  have hcap : cap * bytes ≤ 140737488351232 := by
    have := hw (((((List.range len).map D).length) + (((List.range (cap - len)).map fun j => D (len + j)).length)) * P.bytesOf e) (by simp [DataW.weights, ht])
    simp only [List.length_map, List.length_range, hby, reachBytes] at this
    rwa [show len + (cap - len) = cap by omega] at this
  have each : ∀ i, i < len → ∃ y : α × List Value, W.cells? 0 (a.add (i * P.cellsOf e)) (P.cellsOf e) = some y.2 ∧ R y.1 y.2 := fun i hi => by
    obtain ⟨cs', h1, h2⟩ := hel i (by omega)
    obtain ⟨y, hy⟩ := hr _ _ _ _ h2 (fun x hx => hw x (by
      simp only [DataW.weights, ht, List.mem_cons, List.mem_append]
      exact .inr (.inl (weightsAll_mem (List.mem_map.2 ⟨i, List.mem_range.2 hi, rfl⟩) x hx))))
    exact ⟨(y, cs'), h1, hy⟩
  obtain ⟨Y, hY⟩ : ∃ Y : Nat → Option (α × List Value), ∀ i, i < len → ∃ y, Y i = some y ∧ W.cells? 0 (a.add (i * P.cellsOf e)) (P.cellsOf e) = some y.2 ∧ R y.1 y.2 :=
    ⟨fun i => if h : i < len then some (each i h).choose else none, fun i hi => ⟨_, dif_pos hi, (each i hi).choose_spec⟩⟩
  by_cases hl0 : len = 0
  · subst hl0
    exact ⟨[], some a, 0, cap, [], rfl, Rd.nil _ _ _ _ hm _, rfl, hcap, fun i h => by simp at h⟩
  obtain ⟨y0, _⟩ := hY 0 (by omega)
  obtain ⟨Y', hY'⟩ : ∃ Y' : Nat → α × List Value, ∀ i, i < len → Y i = some (Y' i) := ⟨fun i => (Y i).getD y0, fun i hi => by
    obtain ⟨y, hy, _⟩ := hY i hi
    show Y i = some ((Y i).getD y0)
    rw [hy]; rfl⟩
  replace hY : ∀ i, i < len → W.cells? 0 (a.add (i * P.cellsOf e)) (P.cellsOf e) = some (Y' i).2 ∧ R (Y' i).1 (Y' i).2 := fun i hi => by
    obtain ⟨y, hy, h1⟩ := hY i hi
    rw [hY' i hi] at hy
    injection hy with hy
    rw [hy]; exact h1
  clear hY' each
  obtain ⟨Y, rfl⟩ : ∃ Y, Y = Y' := ⟨_, rfl⟩
  have hlenY : ∀ i, i < len → (Y i).2.length = size := fun i hi => by rw [← hc]; exact (World.cells?_some (hY i hi).1).2.1
  have hchunk : ∀ (k : Nat), k ≤ len → ((List.range k).flatMap fun i => (Y i).2).length = k * size ∧ ∀ i, i < k → ((((List.range k).flatMap fun i => (Y i).2).drop (i * size)).take size) = (Y i).2 := by
    intro k
    induction k with
    | zero => intro _; simp
    | succ k ih =>
      intro hk
      obtain ⟨h1, h2⟩ := ih (by omega)
      have hlk := hlenY k (by omega)
      rw [List.range_succ, List.flatMap_append]
      simp only [List.flatMap_cons, List.flatMap_nil, List.append_nil]
      refine ⟨by rw [List.length_append, h1, hlk, Nat.succ_mul], fun i hi => ?_⟩
      rcases Nat.lt_or_ge i k with hik | hik
      · have : i * size + size ≤ k * size := by rw [← Nat.succ_mul]; exact Nat.mul_le_mul_right _ hik
        rw [List.drop_append_of_le_length (by rw [h1]; omega), List.take_append_of_le_length (by rw [List.length_drop, h1]; omega)]
        exact h2 i hik
      · obtain rfl : i = k := by omega
        rw [List.drop_append, h1, Nat.sub_self, List.drop_of_length_le (by rw [h1]; exact Nat.le_refl _), List.drop_zero, List.nil_append, List.take_of_length_le (by omega)]
  obtain ⟨hL, hCh⟩ := hchunk len (Nat.le_refl _)
  refine ⟨(List.range len).map fun i => (Y i).1, some a, len, cap, (List.range len).flatMap fun i => (Y i).2, rfl, ⟨hL, hl, hm, fun hn => ?_⟩, by simp, hcap, fun i hi => ?_⟩
  · obtain ⟨_, _, hcell0⟩ := World.cells?_some (hY 0 hn).1
    have h0 := hcell0 0 (by omega)
    have h0' : W.cell? a = (Y 0).2[0]? := by
      rw [← h0]; congr 1
      simp [Addr.add]
    have hs0 : (Y 0).2[0]? = some ((Y 0).2[0]'(by rw [hlenY 0 hn]; exact hpos)) := List.getElem?_eq_getElem _
    rw [hs0] at h0'
    obtain ⟨b, off, spot⟩ := a
    have hspot : spot = none := World.cell?_spot h0'
    subst hspot
    refine ⟨b, off, rfl, World.block_lt_of_cell? W _ h0', fun j u hu => ?_⟩
    have hj : j < len * size := by rw [← hL]; exact (List.getElem?_eq_some_iff.1 hu).1
    have hq : j / size < len := (Nat.div_lt_iff_lt_mul hpos).2 hj
    have hr' : j % size < size := Nat.mod_lt _ hpos
    have hjj : j / size * size + j % size = j := by rw [Nat.mul_comm]; exact Nat.div_add_mod j size
    obtain ⟨_, _, hcq⟩ := World.cells?_some (hY (j / size) hq).1
    have h3 := hcq (j % size) (by rw [hc]; exact hr')
    rw [hc] at h3
    have h4 : (Y (j / size)).2[j % size]? = some u := by
      rw [← hCh _ hq, List.getElem?_take, if_pos hr', List.getElem?_drop, hjj]; exact hu
    rw [h4] at h3
    rw [← h3]
    congr 1
    unfold Addr.add
    split <;> split <;> simp_all <;> omega
  · simp only [List.getElem_map, List.getElem_range]
    have hi' : i < len := by simpa using hi
    rw [hCh i hi']
    exact (hY i hi').2

/-- the fields of a struct -/
theorem trod_field {t fuel : Nat} {cs : List Value} {d : DataW H} {p : List MemPlace} {fs : Array Field} (ht : P.underlying t = some (.struct fs)) (h : DataW.trod enc P W 0 (fun _ => true) true fuel t cs = some (d, p)) (hw : ∀ x ∈ d.weights P t, x ≤ reachBytes) :
    cs.length = P.cellsOf t ∧ ∀ (i : Nat) (f : Field), fs[i]? = some f → ∀ {α : Type} {R : α → List Value → Prop}, Reader enc P W f.type R → ∃ a, R a ((cs.drop f.offset).take (P.cellsOf f.type)) := by
  obtain ⟨xs, n, _, hx, hl, hlen, hf⟩ := DataW.trod_struct ht h
  obtain ⟨rfl, rfl⟩ : d = _ ∧ p = _ := by simpa using hx
  refine ⟨hl, fun i f hi α R hr => ?_⟩
  have hif : i < fs.size := (Array.getElem?_eq_some_iff.1 hi).1
  have h1 := hf i f hi
  rw [List.getElem?_eq_getElem (by omega)] at h1
  refine hr _ _ _ _ h1 fun x hxm => hw x ?_
  simp only [DataW.weights, ht]
  refine DataW.weights_mem_each (j := i) (t := f.type) (d := xs[i].1) ?_ ?_ x hxm
  · rw [List.getElem?_map, Array.getElem?_toList, hi]; rfl
  · rw [List.getElem?_map, List.getElem?_eq_getElem (by omega)]; rfl

/-- an argument, by its reader -/
theorem see_arg {t : TypeId} {v : Value} {d : DataW H} {ps : List MemPlace} {α : Type} {R : α → List Value → Prop} (hr : Reader enc P W t R) (hd : DataW.Trod enc P W 0 (fun _ => true) true t v d ps)
    {ts : List TypeId} {ds : List (DataW H)} {j : Nat} (hz : (DataW.weightsEach P ts ds).all (· ≤ reachBytes) = true) (ht : ts[j]? = some t) (hdj : ds[j]? = some d) : ∃ a, R a v.cells.toList := by
  obtain ⟨fuel, hf⟩ := hd
  refine hr fuel _ d ps hf fun x hx => ?_
  have := List.all_eq_true.1 hz x (DataW.weights_mem_each ht hdj x hx)
  simpa using this
theorem see_rows {t e size bytes : Nat} {v : Value} {d : DataW H} {ps : List MemPlace} {r : Reach} {b0 : Nat} {α : Type} {R : α → List Value → Prop} (ht : P.underlying t = some (.slice e)) (hc : P.cellsOf e = size) (hby : P.bytesOf e = bytes) (hpos : 0 < size) (hr : Reader enc P W e R)
    (hval : Value.okWide P W r b0 t v) (hd : DataW.Trod enc P W 0 (fun _ => true) true t v d ps)
    {ts : List TypeId} {ds : List (DataW H)} {j : Nat} (hz : (DataW.weightsEach P ts ds).all (· ≤ reachBytes) = true) (hts : ts[j]? = some t) (hdj : ds[j]? = some d) :
    ∃ (A : Option Addr) (n c : Nat) (xs : List Value) (L : List α), v = .slice A n c ∧ Rd W W.heap.size size A n c xs ∧ L.length = n ∧ c * bytes ≤ 140737488351232 ∧ ∀ i (h : i < L.length), R L[i] ((xs.drop (i * size)).take size) := by
  obtain ⟨A, n, c, rfl⟩ := okWide_slice ht hval
  obtain ⟨L, A', n', c', xs, h1, h2, h3, h4, h5⟩ := see_arg (reader_slice ht hc hby hpos hr) hd hz hts hdj
  obtain ⟨rfl, rfl, rfl⟩ : A = A' ∧ n = n' ∧ c = c' := by simpa [Value.cells] using h1
  exact ⟨A, n, c, xs, L, rfl, h2, h3, h4, h5⟩
end
end Go.PH
end
section
/- Slices of bytes; bytes turned into a text. -/
set_option linter.all false
set_option linter.unusedSimpArgs false
set_option linter.unusedVariables false
namespace Go.PH
open Go.RowKit Go.Proofs
theorem slB : SlT Try.prog 47 5 1 1 (.int .u8 0) := SlT.mk' Try.underlying47 (by kernel_rfl) rfl (by omega)
theorem run_strB {w : World} {B n c : Nat} {A : Option Addr} {l : List UInt8} (hr : RdB w B A n c l) : (convert 47 9 (.slice A n c)).run Try.prog w = .ok (.string (str l)) w :=
  run_str Try.underlying47 Try.underlying9 Try.underlying5 hr
end Go.PH
end
section
/- Texts: cut, put together, turned into bytes. -/
set_option linter.all false
set_option linter.unusedSimpArgs false
set_option linter.unusedVariables false
namespace Go.PH
open Go.RowKit
section
variable {P : Program} {w : World} {t : TypeId}
theorem str_extract (l : List UInt8) (a b : Nat) : (str l).extract a b = str ((l.take b).drop a) := by
  rw [List.drop_take]; exact ByteArray.extract_mk l a b
theorem str_app (a b : List UInt8) : str a ++ str b = str (a ++ b) := by
  apply ByteArray.ext
  simp [str]
theorem str_nil : str [] = ⟨#[]⟩ := rfl
theorem run_cutS (hu : P.underlying t = some .string) (w : World) {l : List UInt8} {lo hi : Option Value} (i j : Nat) (hlo : Bd lo 0 i) (hhi : Bd hi l.length j) (h1 : i ≤ j) (h2 : j ≤ l.length) :
    (Instr.sliceAt t (.string (str l)) lo hi none).run P w = .ok (.string (str ((l.take j).drop i))) w := by
  rw [run_sliceAt_string w t _ _ _ _ hu]
  rcases hlo with ⟨rfl, rfl⟩ | ⟨kd, X, rfl, rfl⟩
  · rcases hhi with ⟨rfl, rfl⟩ | ⟨kd, X, rfl, rfl⟩
    · rw [run_slice_string_all (h := hu), str_size, str_extract]
    · rw [run_slice_string_h (ht := hu) (h0 := by omega) (h2 := by rw [str_size]; omega), str_extract]; simp
  · rcases hhi with ⟨rfl, rfl⟩ | ⟨kd', X, rfl, rfl⟩
    · rw [run_slice_string_l (ht := hu) (h0 := by omega) (h1 := by rw [str_size]; omega), str_size, str_extract]; simp
    · rw [run_slice_string (h := hu) (h0 := by omega) (h1 := by omega) (h2 := by rw [str_size]; omega), str_extract]; simp
variable {ops : Array Oper} {rest : List Oper} {o : Oper} {a : Act} {Q : Exit → Act → World → Prop} {x : Operand} {K : Act → World → Prop}
theorem op_cutS {lo hi : Option Operand} (hu : P.underlying t = some .string) (ho : o.op = .slice t x lo hi none) {l : List UInt8} (hx : a.eval x = .string (str l)) (i j : Nat) (hlo : Bd (lo.map a.eval) 0 i) (hhi : Bd (hi.map a.eval) l.length j) (h1 : i ≤ j) (h2 : j ≤ l.length)
    (hk : K (a.put o.dst (.string (str ((l.take j).drop i)))) w) : o.wp P a w K Q := by
  have hrun := run_cutS hu w i j hlo hhi h1 h2
  unfold Oper.wp execOp
  simp only [ho, hx, Sem.run_bind, Sem.run_pure, Result.andThen_ok, Option.map_none, hrun]
  exact hk
theorem wp_cutS {lo hi : Option Operand} (hu : P.underlying t = some .string) (hw : Region.wanted o (yielded ops a.tmps) = true) (ho : o.op = .slice t x lo hi none) {l : List UInt8} (hx : a.eval x = .string (str l)) (i j : Nat) (hlo : Bd (lo.map a.eval) 0 i) (hhi : Bd (hi.map a.eval) l.length j) (h1 : i ≤ j) (h2 : j ≤ l.length)
    (hk : wpList P ops Q rest (a.put o.dst (.string (str ((l.take j).drop i)))) w) : wpList P ops Q (o :: rest) a w :=
  BigFrame.wpList_want hw fun K hK => op_cutS hu ho hx i j hlo hhi h1 h2 (hK _ _ hk)
/-- []byte(s) -/
theorem run_s2b {src dst e : TypeId} (hs : P.underlying src = some .string) (hd : P.underlying dst = some (.slice e)) (he : P.underlying e = some (.int .u8)) (w : World) (l : List UInt8) (hl : l.length ≤ 140737488351240) :
    ∃ c w', (convert src dst (.string (str l))).run P w = .ok (.slice (some ⟨w.heap.size, 0, none⟩) l.length c) w' ∧ RdB w' w'.heap.size (some ⟨w.heap.size, 0, none⟩) l.length c l ∧ Below w.heap.size w w' := by
  refine ⟨_, _, Lib.run_convert_string_bytes w src dst e (str l) hs hd he, ?_, ?_⟩
  · refine ⟨by simp, ?_, ?_, fun hn => ⟨_, _, rfl, by rw [Lib.bytesWorld_size]; omega, fun j u hu => ?_⟩⟩
    · exact grownCap_ge _ _ _ _
    · exact grownCap_le_maxLen _ _ _ _ (by simp only [maxLen, str_size]; omega)
    · have hj : j < l.length := by have := (List.getElem?_eq_some_iff.1 hu).1; simpa using this
      have := Lib.bytesWorld_cell w e (str l) j (by rw [str_size]; exact hj)
      simp only [Nat.zero_add]
      rw [this]
      simp [u8v, str, List.getD, hj] at hu ⊢
      exact hu
  · refine ⟨?_, ?_, ?_, by rw [Lib.bytesWorld_size]; omega, fun k hk => Lib.bytesWorld_at_old w e (str l) k hk⟩
    all_goals rfl
theorem op_s2b {src dst e : TypeId} (hs : P.underlying src = some .string) (hd : P.underlying dst = some (.slice e)) (he : P.underlying e = some (.int .u8)) (ho : o.op = .convert src dst x) {l : List UInt8} (hx : a.eval x = .string (str l)) (hl : l.length ≤ 140737488351240)
    (hk : ∀ c w', RdB w' w'.heap.size (some ⟨w.heap.size, 0, none⟩) l.length c l → Below w.heap.size w w' → K (a.put o.dst (.slice (some ⟨w.heap.size, 0, none⟩) l.length c)) w') : o.wp P a w K Q := by
  obtain ⟨c, w', hrun, h1, h2⟩ := run_s2b hs hd he w l hl
  unfold Oper.wp execOp
  simp only [ho, hx, Sem.run_bind, Sem.run_pure, Result.andThen_ok, hrun]
  exact hk _ _ h1 h2
theorem wp_s2b {src dst e : TypeId} (hs : P.underlying src = some .string) (hd : P.underlying dst = some (.slice e)) (he : P.underlying e = some (.int .u8)) (hw : Region.wanted o (yielded ops a.tmps) = true) (ho : o.op = .convert src dst x) {l : List UInt8} (hx : a.eval x = .string (str l)) (hl : l.length ≤ 140737488351240)
    (hk : ∀ c w', RdB w' w'.heap.size (some ⟨w.heap.size, 0, none⟩) l.length c l → Below w.heap.size w w' → wpList P ops Q rest (a.put o.dst (.slice (some ⟨w.heap.size, 0, none⟩) l.length c)) w') : wpList P ops Q (o :: rest) a w :=
  BigFrame.wpList_want hw fun K hK => op_s2b hs hd he ho hx hl fun c w' h1 h2 => hK _ _ (hk c w' h1 h2)
end
end Go.PH
end

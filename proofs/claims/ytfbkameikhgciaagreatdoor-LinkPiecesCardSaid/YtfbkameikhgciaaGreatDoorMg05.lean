/- Texts laid together: GaFits, GaMem, GaCheck, GaKill, GaFeed0. -/
import Derived.Deep.QuietTactic
import Derived.BigQuiet
import Derived.Deep.Cut
import Derived.Test.YtfbkameikhgciaaGreatDoorMg01
import Derived.Test.YtfbkameikhgciaaGreatDoorMg02
import Derived.Test.YtfbkameikhgciaaGreatDoorMg04
set_option linter.all false
set_option linter.unusedSimpArgs false
set_option linter.unusedVariables false
set_option maxRecDepth 20000
set_option maxHeartbeats 8000000
section
namespace Go.PH
open Go.RowKit Go.Proofs
def Yk (is : Bool) (x : Fr) (goes : Bool) (f : Fr) : Bool :=
 if 1 < f.track then false else if is then (if goes then !f.beg && decide (f.ty = x.ty) && (f.first == x.first) && (f.last == x.last) else f.beg && !f.first && decide (x.ty < f.ty))
 else f.first && f.beg && decide (f.ty = f.track) && (f.last || decide (f.track = 1))
theorem JN (h : Hd) (sz : Nat) (x : Fr) (goes is : Bool) (f : Fr) (w : World) (hf : f.wf) (hx : x.ty < 256) :
  Calls Tryz.prog 82 #[.agg (qC h sz x goes), .bool is, .agg (frV f)] w fun e w' => e = .returned (.bool (Yk is x goes f)) ∧ Below w.heap.size w w' := by
 obtain ⟨b1, b2, b3, b4, ty, tr, ch, ld⟩ := f
 obtain ⟨x1, x2, x3, x4, xty, xtr, xch, xld⟩ := x
 obtain ⟨hty, htr, hch⟩ := hf
 simp only at hty htr hch hx
 unfold Yk frV qC Hd.v
 simp only
 by_cases g1 : 1 < tr
 ·rw [if_pos g1]
  have g2 : (1 : Int) < (tr : Int) := by omega
  go_enter Tryz.func82, Tryz.ntmps82
  go_wp2_with (with_reducible refine h_A ?_)
  go_ret
  exact ⟨rfl, ((Below.refl _ _).alloc (Nat.le_refl _) _).alloc (by simp) _⟩
 ·rw [if_neg g1]
  have g2 : decide ((1 : Int) < (tr : Int)) = false := by simp; omega
  cases is
  ·rw [if_neg (by simp)]
   clear g1
   have k1 : ((ty : Int) == (tr : Int)) = decide (ty = tr) := by rw [Bool.eq_iff_iff]; simp; omega
   have k2 : ((tr : Int) == 1) = decide (tr = 1) := by rw [Bool.eq_iff_iff]; simp; omega
   go_enter Tryz.func82, Tryz.ntmps82
   go_wp2_with (with_reducible refine h_A ?_)
   all_goals
    go_ret
    exact ⟨by simp_all, ((Below.refl _ _).alloc (Nat.le_refl _) _).alloc (by simp) _⟩
  ·rw [if_pos rfl]
   clear g1
   have k1 : ((ty : Int) == (xty : Int)) = decide (ty = xty) := by rw [Bool.eq_iff_iff]; simp; omega
   have k2 : decide ((xty : Int) < (ty : Int)) = decide (xty < ty) := by rw [Bool.eq_iff_iff]; simp
   cases goes
   ·rw [if_neg (by simp)]
    go_enter Tryz.func82, Tryz.ntmps82
    go_wp2_with (with_reducible refine h_A ?_)
    all_goals
     go_ret
     exact ⟨by simp_all, ((Below.refl _ _).alloc (Nat.le_refl _) _).alloc (by simp) _⟩
   ·rw [if_pos rfl]
    go_enter Tryz.func82, Tryz.ntmps82
    go_wp2_with (with_reducible refine h_A ?_)
    all_goals
     go_ret
     exact ⟨by simp_all, ((Below.refl _ _).alloc (Nat.le_refl _) _).alloc (by simp) _⟩
end Go.PH
end
section
namespace Go.PH
open Go.RowKit Go.Proofs
def jc (l : List Fr) : Bool := match l.getLast? with
 | none => false
 | some x => !x.fin
def PartOk (l : List Fr) (x : Fr) : Prop := x.ty < 256 ∧ ∃ y, l.getLast? = some y ∧ x.ty = y.ty ∧ x.first = y.first ∧ x.last = y.last
theorem PartOk.fits {l : List Fr} {x : Fr} (h : PartOk l x) (f : Fr) : Yk true x (jc l) f = fitsB l f := by
 obtain ⟨_, y, hy, h1, h2, h3⟩ := h
 unfold Yk fitsB jc
 rw [hy, h1, h2, h3]
 cases hf : y.fin <;> simp [hf]
theorem Xr (x : Fr) (f : Fr) : Yk false x (jc []) f = fitsB [] f := by simp [Yk, fitsB]
structure GaMap (w : World) (F : Nat → Prop) (mb n : Nat) (D : DataW Value) (hd : Nat → Nat → Hd) (xf : Nat → Nat → Fr) (op : Nat → Nat → List Fr) : Prop where
 owns : w.ownsMap Tryz.prog 156 rawV mb n D
 inF : F mb
 miss : ∀ a b, a < 65536 → b < 65536 → op a b = [] → Maps.has D (gkL a b) = false
 has : ∀ a b, a < 65536 → b < 65536 → op a b ≠ [] → Maps.has D (gkL a b) = true ∧ ∀ z, D.atKey (gkL a b) z = .held (.agg (qC (hd a b) (zE (op a b)) (xf a b) (jc (op a b))))
 part : ∀ a b, a < 65536 → b < 65536 → op a b ≠ [] → PartOk (op a b) (xf a b)
 row : ∀ a b, a < 65536 → b < 65536 → op a b ≠ [] → OwnG w 0 (hd a b).A (hd a b).n (hd a b).c (yi (op a b)) ∧ ∀ g, blk (hd a b).A = some g → F g ∧ g ≠ mb
 apart : ∀ a b c d, a < 65536 → b < 65536 → c < 65536 → d < 65536 → op a b ≠ [] → op c d ≠ [] → ¬ (a = c ∧ b = d) → ∀ g, blk (hd a b).A = some g → blk (hd c d).A ≠ some g
 lt : ∀ g, F g → g < w.heap.size
theorem GaMap.keep {w w' : World} {F : Nat → Prop} {mb n : Nat} {D : DataW Value} {hd : Nat → Nat → Hd} {xf : Nat → Nat → Fr} {op : Nat → Nat → List Fr} (h : GaMap w F mb n D hd xf op) (hk : ∀ g, F g → w'.heap[g]? = w.heap[g]?) (hs : w.heap.size ≤ w'.heap.size) : GaMap w' F mb n D hd xf op where
 owns := zO h.owns (hk _ h.inF)
 inF := h.inF
 miss := h.miss
 has := h.has
 part := h.part
 row a b ha hb hne := by
  obtain ⟨h1, h2⟩ := h.row a b ha hb hne
  exact ⟨j7 h1 (fun g hg => hk g (h2 g hg).1), h2⟩
 apart := h.apart
 lt g hg := Nat.lt_of_lt_of_le (h.lt g hg) hs
theorem GaMap.mono {w : World} {F : Nat → Prop} {mb n m : Nat} {D : DataW Value} {hd : Nat → Nat → Hd} {xf : Nat → Nat → Fr} {op : Nat → Nat → List Fr} (h : GaMap w F mb n D hd xf op) (hn : n ≤ m) : GaMap w F mb m D hd xf op := ⟨h.owns.mono hn, h.inF, h.miss, h.has, h.part, h.row, h.apart, h.lt⟩
structure Ga (w : World) (F : Nat → Prop) (pb n : Nat) (g : GS) : Prop where
 ex : ∃ mb D hd xf, Box w pb 88 #[.map (some mb), .bool g.dead] ∧ F pb ∧ pb ≠ mb ∧ (g.dead = false → (∀ a b, a < 65536 → b < 65536 → g.op a b ≠ [] → blk (hd a b).A ≠ some pb) ∧ GaMap w F mb n D hd xf g.op)
 lt : ∀ k, F k → k < w.heap.size
theorem Ga.keep {w w' : World} {F : Nat → Prop} {pb n : Nat} {g : GS} (h : Ga w F pb n g) (hk : ∀ k, F k → w'.heap[k]? = w.heap[k]?) (hs : w.heap.size ≤ w'.heap.size) : Ga w' F pb n g where
 ex := by
  obtain ⟨mb, D, hd, xf, h1, h2, h3, h4⟩ := h.ex
  exact ⟨mb, D, hd, xf, (hk _ h2).trans h1, h2, h3, fun e => ⟨(h4 e).1, (h4 e).2.keep hk hs⟩⟩
 lt k hk' := Nat.lt_of_lt_of_le (h.lt k hk') hs
theorem Ga.mono {w : World} {F : Nat → Prop} {pb n m : Nat} {g : GS} (h : Ga w F pb n g) (hn : n ≤ m) : Ga w F pb m g := by
 obtain ⟨⟨mb, D, hd, xf, h1, h2, h3, h4⟩, h5⟩ := h
 exact ⟨⟨mb, D, hd, xf, h1, h2, h3, fun e => ⟨(h4 e).1, (h4 e).2.mono hn⟩⟩, h5⟩
theorem Ga.below {w w' : World} {F : Nat → Prop} {pb n : Nat} {g : GS} (h : Ga w F pb n g) (hB : Below w.heap.size w w') : Ga w' F pb n g := h.keep (fun k hk => hB.block k (h.lt k hk)) hB.size
theorem Ga.keepF {w w' : World} {F G : Nat → Prop} {pb n : Nat} {g : GS} (h : Ga w F pb n g) (hk : KeepF G w w') (hd : ∀ k, F k → ¬ G k) : Ga w' F pb n g := h.keep (JQ hk hd h.lt) hk.1
theorem GaMap.look {w : World} {F : Nat → Prop} {mb n : Nat} {D : DataW Value} {hd : Nat → Nat → Hd} {xf : Nat → Nat → Fr} {op : Nat → Nat → List Fr} (h : GaMap w F mb n D hd xf op) {a b : Nat} (ha : a < 65536) (hb : b < 65536) :
  ∃ (H : Hd) (x : Fr) (is : Bool), (∀ W, Below w.heap.size w W → (Instr.lookup 86 (.map (some mb)) (gkV a b) true).run Tryz.prog W = .ok (.tuple #[.agg (qC H (zE (op a b)) x (jc (op a b))), .bool is]) W) ∧
   (op a b = [] → H = ⟨none, 0, 0⟩ ∧ is = false) ∧ (op a b ≠ [] → H = hd a b ∧ x = xf a b ∧ is = true) ∧ H.n = (yi (op a b)).length ∧ OwnG w 0 H.A H.n H.c (yi (op a b)) ∧ x.ty < 256 ∧ ∀ f, Yk is x (jc (op a b)) f = fitsB (op a b) f := by
 have hlk : ∀ W, Below w.heap.size w W → ∃ v ps, (Instr.lookup 86 (.map (some mb)) (gkV a b) true).run Tryz.prog W = .ok (.tuple #[v, .bool (Maps.has D (gkL a b))]) W ∧ rawV v = some (D.atKey (gkL a b) (.held (.agg (qC ⟨none, 0, 0⟩ 0 fr00 false))), ps) := fun W hW =>
  (h.keep (fun g hg => hW.block g (h.lt g hg)) hW.size).owns.look_ok gk_keyed Tryz.underlying86 (Qr W) (zd := .held (.agg (qC ⟨none, 0, 0⟩ 0 fr00 false))) (zp := []) rfl (jU ha hb)
 by_cases e : op a b = []
 ·refine ⟨⟨none, 0, 0⟩, fr00, false, fun W hW => ?_, fun _ => ⟨rfl, rfl⟩, fun hne => absurd e hne, by rw [e]; rfl, by rw [e]; exact Own.none_ _ _ _ _, by simp [fr00], fun f => by rw [e]; exact Xr _ f⟩
  obtain ⟨v, ps, h1, h2⟩ := hlk W hW
  rw [Maps.atKey_of_not_has (h.miss a b ha hb e)] at h2
  simp only [rawV, Option.some.injEq, Prod.mk.injEq, DataW.held.injEq] at h2
  rw [h.miss a b ha hb e, h2.1] at h1
  rw [e]
  exact h1
 ·have hr := (h.row a b ha hb e).1
  have hp := h.part a b ha hb e
  refine ⟨hd a b, xf a b, true, fun W hW => ?_, fun h' => absurd h' e, fun _ => ⟨rfl, rfl, rfl⟩, (vU xK hr).symm, hr, hp.1, fun f => hp.fits f⟩
  obtain ⟨v, ps, h1, h2⟩ := hlk W hW
  rw [(h.has a b ha hb e).2] at h2
  simp only [rawV, Option.some.injEq, Prod.mk.injEq, DataW.held.injEq] at h2
  rw [(h.has a b ha hb e).1, h2.1] at h1
  exact h1
theorem kh {w : World} {k : TypeId} {b n : Nat} {D : DataW Value} (h : w.ownsMap Tryz.prog k rawV b n D) : Maps.IsMap D := by
 obtain ⟨es, clock, _, _, _, hD⟩ := h
 exact ⟨_, hD⟩
theorem GaMap.set {w w5 : World} {F F' : Nat → Prop} {mb n m : Nat} {D D' : DataW Value} {hd : Nat → Nat → Hd} {xf : Nat → Nat → Fr} {op op' : Nat → Nat → List Fr} (h : GaMap w F mb n D hd xf op) {a b : Nat} (ha : a < 65536) (hb : b < 65536) {l : List Fr} {H : Hd} {x : Fr}
  (hop : ∀ u v, op' u v = if u = a ∧ v = b then l else op u v) (o5 : w5.ownsMap Tryz.prog 156 rawV mb m D') (k5 : ∀ g, g < w.heap.size → g ≠ mb → (op a b ≠ [] → blk (hd a b).A ≠ some g) → w5.heap[g]? = w.heap[g]?)
  (dO : ∀ u v, gkL u v ≠ gkL a b → Maps.has D' (gkL u v) = Maps.has D (gkL u v) ∧ ∀ z, D'.atKey (gkL u v) z = D.atKey (gkL u v) z) (d0 : l = [] → Maps.has D' (gkL a b) = false)
  (d1 : l ≠ [] → Maps.has D' (gkL a b) = true ∧ (∀ z, D'.atKey (gkL a b) z = .held (.agg (qC H (zE l) x (jc l)))) ∧ PartOk l x ∧ OwnG w5 0 H.A H.n H.c (yi l) ∧ ∀ g, blk H.A = some g → F' g ∧ g ≠ mb ∧ (w.heap.size ≤ g ∨ op a b ≠ [] ∧ blk (hd a b).A = some g))
  (hFF : ∀ g, F g → (op a b ≠ [] → blk (hd a b).A ≠ some g) → F' g) (hlt : ∀ g, F' g → g < w5.heap.size) :
  GaMap w5 F' mb m D' (fun u v => if u = a ∧ v = b then H else hd u v) (fun u v => if u = a ∧ v = b then x else xf u v) op' := by
 have hke : ∀ u v, u < 65536 → v < 65536 → ¬ (u = a ∧ v = b) → gkL u v ≠ gkL a b := fun u v hu hv hne e => hne (Va hu hv ha hb e)
 refine ⟨o5, hFF mb h.inF fun e e' => ((h.row a b ha hb e).2 mb e').2 rfl, fun u v hu hv e => ?_, fun u v hu hv e => ?_, fun u v hu hv e => ?_, fun u v hu hv e => ?_, fun u v c d hu hv hc hd' e1 e2 hne => ?_, hlt⟩
 ·rw [hop] at e
  by_cases q : u = a ∧ v = b
  ·rw [if_pos q] at e
   rw [q.1, q.2]
   exact d0 e
  ·rw [if_neg q] at e
   rw [(dO u v (hke u v hu hv q)).1]
   exact h.miss u v hu hv e
 ·rw [hop] at e ⊢
  by_cases q : u = a ∧ v = b
  ·simp only [if_pos q] at e ⊢
   rw [q.1, q.2]
   exact ⟨(d1 e).1, (d1 e).2.1⟩
  ·simp only [if_neg q] at e ⊢
   rw [(dO u v (hke u v hu hv q)).1]
   exact ⟨(h.has u v hu hv e).1, fun z => by rw [(dO u v (hke u v hu hv q)).2]; exact (h.has u v hu hv e).2 z⟩
 ·rw [hop] at e ⊢
  by_cases q : u = a ∧ v = b
  ·simp only [if_pos q] at e ⊢
   exact (d1 e).2.2.1
  ·simp only [if_neg q] at e ⊢
   exact h.part u v hu hv e
 ·rw [hop] at e ⊢
  by_cases q : u = a ∧ v = b
  ·simp only [if_pos q] at e ⊢
   obtain ⟨_, _, _, h4, h5⟩ := d1 e
   exact ⟨h4, fun g hg => ⟨(h5 g hg).1, (h5 g hg).2.1⟩⟩
  ·simp only [if_neg q] at e ⊢
   obtain ⟨q1, q2⟩ := h.row u v hu hv e
   have q3 : ∀ g, blk (hd u v).A = some g → (op a b ≠ [] → blk (hd a b).A ≠ some g) := fun g hg ne => h.apart u v a b hu hv ha hb e ne q g hg
   exact ⟨j7 q1 (fun g hg => k5 g (h.lt _ (q2 g hg).1) (q2 g hg).2 (q3 g hg)), fun g hg => ⟨hFF g (q2 g hg).1 (q3 g hg), (q2 g hg).2⟩⟩
 ·intro g hg hg2
  rw [hop] at e1 e2
  have key : ∀ u v, u < 65536 → v < 65536 → ¬ (u = a ∧ v = b) → op u v ≠ [] → l ≠ [] → ∀ g, blk (hd u v).A = some g → blk H.A = some g → False := by
   intro u v hu hv q e hl g hg hg2
   obtain ⟨_, _, _, _, h5⟩ := d1 hl
   obtain ⟨_, _, h6⟩ := h5 g hg2
   rcases h6 with h6 | ⟨h6, h7⟩
   ·have := h.lt _ ((h.row u v hu hv e).2 g hg).1
    omega
   ·exact h.apart u v a b hu hv ha hb e h6 q g hg h7
  by_cases q : u = a ∧ v = b
  ·by_cases q' : c = a ∧ d = b
   ·exact hne ⟨q.1.trans q'.1.symm, q.2.trans q'.2.symm⟩
   ·simp only [if_pos q] at e1 hg
    simp only [if_neg q'] at e2 hg2
    exact key c d hc hd' q' e2 e1 g hg2 hg
  ·by_cases q' : c = a ∧ d = b
   ·simp only [if_neg q] at e1 hg
    simp only [if_pos q'] at e2 hg2
    exact key u v hu hv q e1 e2 g hg hg2
   ·simp only [if_neg q] at e1 hg
    simp only [if_neg q'] at e2 hg2
    exact h.apart u v c d hu hv hc hd' e1 e2 hne g hg hg2
def asV (c t : Nat) (A : Option Addr) (n k : Nat) : Array Value := #[.int .u16 (c : Int), .int .u8 (t : Int), .slice A n k]
def asZ : Array Value := #[.int .u16 0, .int .u8 0, .slice none 0 0]
theorem zr (w : World) (cs : Array Value) (t : TypeId) : ∃ (b : Nat) (v : World), b = w.heap.size ∧ v = w.alloc (.cells cs t) ∧ Box v b t cs ∧ Below w.heap.size w v :=
 ⟨_, _, rfl, rfl, Box.new w cs t, (Below.refl _ _).alloc (Nat.le_refl _) _⟩
theorem Zz {w : World} {k e : TypeId} {t b n : Nat} {D : DataW Value} (h : w.ownsMap Tryz.prog k rawV b n D) (ht : Tryz.prog.underlying t = some (.map k e)) (ty : TypeId) : ∃ w', (Builtin.clear_ #[t] ty #[.map (some b)]).run Tryz.prog w = .ok (.tuple #[]) w' ∧ w.grownBy w' (some b) ∧ w'.heap.size = w.heap.size := by
 obtain ⟨es, clock, hb, _⟩ := h
 refine ⟨_, by simp [Builtin.clear_, run_underlying ht, Go.MapKept.run_getObj_map hb, Go.MapKept.run_setObj_map _ hb, Result.andThen]; rfl, ?_, ?_⟩
 ·exact ⟨rfl, rfl, rfl, by simp, fun i _ hi => by
   show (w.heap.setIfInBounds b _)[i]? = _
   rw [Array.getElem?_setIfInBounds_ne (fun e => hi (by rw [e]))]⟩
 ·simp
theorem Yj {ops : Array Oper} {rest : List Oper} {o : Oper} {a : Act} {w : World} {Q : Exit → Act → World → Prop} {k e : TypeId} {t b n : Nat} {D : DataW Value} {m : Operand} (hw : Region.wanted o (yielded ops a.tmps) = true) (ho : o.op = .call { callee := .builtin .clear, args := #[m], argTypes := #[t] }) (hm : a.eval m = .map (some b))
  (h : w.ownsMap Tryz.prog k rawV b n D) (ht : Tryz.prog.underlying t = some (.map k e)) (hk : ∀ w', w.grownBy w' (some b) → w'.heap.size = w.heap.size → wpList Tryz.prog ops Q rest (a.put o.dst (.tuple #[])) w') : wpList Tryz.prog ops Q (o :: rest) a w := by
 refine BigFrame.wpList_want hw fun K hK => ?_
 obtain ⟨w', hrun, h1, h2⟩ := Zz h ht o.type
 unfold Oper.wp execOp
 simp only [ho, resolve, invoke, builtin, Sem.run_bind, Sem.run_pure, Result.andThen_ok, List.map_toArray, List.map_cons, List.map_nil, hm, hrun]
 exact hK _ _ (hk w' h1 h2)
end Go.PH
end
section
namespace Go.PH
open Go.RowKit Go.Proofs
def xD (a : As) : Nat := if asOk a then 0 else 70
def jF (l : List Sg) : Nat → Option Nat
 | 0 => none
 | i + 1 => (l[i]?).map (·.ty)
theorem Yr {l : List Sg} {i n : Nat} (h : i < l.length) : yM n (jF l i) (l.drop i) = (decide (l[i].ty ≤ 3) && (match jF l i with | none => true | some p => decide (p < l[i].ty)) && decide (n + l[i].load.length ≤ 16384) && yM (n + l[i].load.length) (jF l (i + 1)) (l.drop (i + 1))) := by
 have e : jF l (i + 1) = some l[i].ty := by simp [jF, h]
 rw [List.drop_eq_getElem_cons h, e]
 rfl
theorem Xx (a : As) (A : Option Addr) (n c : Nat) (B : Nat) (w : World) (hr : RdG w B A n c a.segs) (hB : B ≤ w.heap.size) (hw : a.wf) (hs : ∀ s ∈ a.segs, s.load.length ≤ 140737488351232) (hn : n ≤ 140737488351232) :
  Calls Tryz.prog 61 #[.agg (asV a.chan a.track A n c)] w fun e w' => e = .returned (.int .i64 (xD a : Int)) ∧ Below w.heap.size w w' := by
 have hnl := yw xK hr
 obtain ⟨ch, tr, l⟩ := a
 obtain ⟨hch, htr, hty⟩ := hw
 simp only at *
 obtain ⟨xb, w0, hqb, hqv, hX, hB0⟩ := zr w (asV ch tr A n c) 42
 have HN := Lib.hid hnl
 have hel := fun {i : Nat} (hi : i < n) => xW xK hr hi
 have HTY := Lib.hid hty
 have HSL := Lib.hid hs
 have hxw : w.heap.size ≤ xb := by omega
 clear hnl hty hs
 unfold asV at *
 go_enter Tryz.func61, Tryz.ntmps61
 go_upto_region 1 with fail
 rw [← hqb, ← hqv]
 clear hqb hqv
 have x0 := hX.c0
 have x1 := hX.c1
 have x2 := hX.c2
 have HR : Hid (yM 0 none l = yM 0 (jF l 0) (l.drop 0)) := Lib.hid rfl
 go_wp2_with (with_reducible refine h_B ?_)
 go_loopw [3, 9] (fun s3 s9 wr => ∃ (i m : Nat), i ≤ n ∧ m ≤ 16384 ∧ s3 = .int .i64 (m : Int) ∧ s9 = .int .i64 (i : Int) ∧ Hid (yM 0 none l = yM m (jF l i) (l.drop i)) ∧ Box wr xb 42 #[.int .u16 (ch : Int), .int .u8 (tr : Int), .slice A n c] ∧ Below w.heap.size w wr) (fun _ s9 _ => n - (RowKit.intOf s9).toNat)
 case atStart => exact ⟨0, 0, by omega, by omega, rfl, rfl, HR, hX, hB0⟩
 case round =>
  clear HR x0 x1 x2 hX hB0 w0
  obtain ⟨i, m, hi, hm, rfl, rfl, HC, hX, hBr⟩ := hrel
  have x0 := hX.c0
  have x1 := hX.c1
  have x2 := hX.c2
  by_cases hlt : i < n
  ·have g1 : (i : Int) < (n : Int) := by omega
   obtain ⟨b, off, rfl, hbB, hkl, hcl⟩ := hel hlt
   have hst := Yr (n := m) hkl
   have hbw : b < w.heap.size := by omega
   have k0 : wr.cell? ⟨b, off + i * 2, none⟩ = some (.int .u8 (l[i].ty : Int)) := (hBr.cell (p := ⟨b, off + i * 2, none⟩) hbw).trans (hcl 0 _ rfl)
   have k1 : wr.cell? ⟨b, off + i * 2 + 1, none⟩ = some (.string (str l[i].load)) := (hBr.cell (p := ⟨b, off + i * 2 + 1, none⟩) hbw).trans (hcl 1 _ rfl)
   have hty := HTY.out _ (List.getElem_mem hkl)
   have hsl := HSL.out _ (List.getElem_mem hkl)
   rw [← HC.out] at hst
   have HST := Lib.hid hst
   clear hst hcl
   generalize l[i] = s at *
   obtain ⟨sb, w2, hqb, hqv, hS, hB2⟩ := zr wr #[.int .u8 0, .string ⟨#[]⟩] 84
   have hss := zj s.load
   go_wp2_with (with_reducible refine h_B ?_)
   rw [← hqb, ← hqv]
   refine zc (zm (v := .agg #[.int .u8 (s.ty : Int), .string (str s.load)]) (vs := [.int .u8 (s.ty : Int), .string (str s.load)]) rfl rfl rfl rfl hS rfl (by kernel_rfl) (by simp) (by simp [Value.oneCell']) #[.int .u8 (s.ty : Int), .string (str s.load)] (by simp) ?_)
   intro w3 hS3 hg3 _
   have hsw : w.heap.size ≤ sb := by rw [hqb]; exact hBr.size
   have hxs : xb ≠ sb := by have := hX.lt; omega
   have hX3 := (hX.below hB2).grown hg3 (by intro e; injection e with e; exact hxs e)
   have hB3 : Below w.heap.size w w3 := (hBr.trans (hB2.mono hBr.size)).grown hg3 (Nat.le_trans hBr.size hB2.size) (fun g hg => by injection hg with hg; omega)
   clear hS hg3 hB2 x0 x1 x2 k0 k1 hqb hqv
   have x2 := hX3.c2
   have s0 := hS3.c0
   have s1 := hS3.c1
   have hw1 : IntKind.i64.wrap ((16384 : Int) - (m : Int)) = (16384 : Int) - (m : Int) := IntWalk.i64_in _ ⟨by omega, by omega⟩
   by_cases c1 : 3 < s.ty
   ·have d1 : decide ((3 : Int) < (s.ty : Int)) = true := by simp; omega
    have HV : Hid (xD ⟨ch, tr, l⟩ = 70) := Lib.hid (by
     have : yM 0 none l = false := by
      rw [HST.out]
      try rw [HP.out]
      simp; try omega
     simp [xD, asOk, this])
    go_upto_region 5 with fail
    try simp only [Act.put]
    go_quiet (fail)
    go_wp2_with (with_reducible refine h_B ?_)
    go_ret
    exact ⟨by rw [HV.out]; rfl, za hB3 _⟩
   ·have d1 : decide ((3 : Int) < (s.ty : Int)) = false := by simp; omega
    rcases Nat.eq_zero_or_pos i with rfl | hpos
    ·by_cases c3 : 16384 < m + s.load.length
     ·have d3 : (16384 : Int) - (m : Int) < (s.load.length : Int) := by omega
      have HV : Hid (xD ⟨ch, tr, l⟩ = 70) := Lib.hid (by
       have : yM 0 none l = false := by
        rw [HST.out]
        try rw [HP.out]
        simp; try omega
       simp [xD, asOk, this])
      go_upto_region 5 with fail
      try simp only [Act.put]
      go_quiet (fail)
      go_wp2_with (with_reducible refine h_B ?_)
      go_ret
      exact ⟨by rw [HV.out]; rfl, za hB3 _⟩
     ·have d3 : decide ((16384 : Int) - (m : Int) < (s.load.length : Int)) = false := by simp; omega
      have HV : Hid (yM 0 none l = yM (m + s.load.length) (jF l 1) (l.drop 1)) := Lib.hid (by rw [HST.out]; simp [jF]; intro _; omega)
      go_upto_region 5 with fail
      try simp only [Act.put]
      go_quiet (fail)
      have s1' := hS3.c1
      go_wp2_with (with_reducible refine h_B ?_)
      exact ⟨⟨0 + 1, m + s.load.length, by omega, by omega, by go_num, by go_num, HV, hX3, za hB3 _⟩, by simp [RowKit.intOf]; omega⟩
    ·obtain ⟨j, rfl⟩ : ∃ j, i = j + 1 := ⟨i - 1, by omega⟩
     obtain ⟨b', off', hbe, _, hkj, hcj⟩ := hel (i := j) (by omega)
     obtain ⟨rfl, rfl⟩ : b = b' ∧ off = off' := by simpa using hbe
     have p0 : w3.cell? ⟨b, off + j * 2, none⟩ = some (.int .u8 (l[j].ty : Int)) := (hB3.cell (p := ⟨b, off + j * 2, none⟩) hbw).trans (hcj 0 _ rfl)
     have hpt := HTY.out _ (List.getElem_mem hkj)
     have HP : Hid (jF l (j + 1) = some l[j].ty) := Lib.hid (by simp [jF, hkj])
     have hwj : IntKind.i64.wrap (j : Int) = (j : Int) := IntWalk.i64_in _ ⟨by omega, by omega⟩
     have hj0 : (0 : Int) < (j : Int) + 1 := by omega
     have hj1 : (j : Int) < (n : Int) := by omega
     clear hcj hbe
     generalize l[j].ty = pt at *
     by_cases c2 : s.ty ≤ pt
     ·have d2 : (s.ty : Int) ≤ (pt : Int) := by omega
      have HE := Lib.hid c2
      clear c2
      have HV : Hid (xD ⟨ch, tr, l⟩ = 70) := Lib.hid (by
       have : yM 0 none l = false := by
        rw [HST.out]
        try rw [HP.out]
        simp; try omega
       simp [xD, asOk, this])
      go_upto_region 5 with fail
      try simp only [Act.put]
      go_quiet (fail)
      go_wp2_with (with_reducible refine h_B ?_)
      go_ret
      exact ⟨by rw [HV.out]; rfl, za hB3 _⟩
     ·have d2 : decide ((s.ty : Int) ≤ (pt : Int)) = false := by simp; omega
      by_cases c3 : 16384 < m + s.load.length
      ·have d3 : (16384 : Int) - (m : Int) < (s.load.length : Int) := by omega
       have HV : Hid (xD ⟨ch, tr, l⟩ = 70) := Lib.hid (by
        have : yM 0 none l = false := by
         rw [HST.out]
         try rw [HP.out]
         simp; try omega
        simp [xD, asOk, this])
       go_upto_region 5 with fail
       try simp only [Act.put]
       go_quiet (fail)
       go_wp2_with (with_reducible refine h_B ?_)
       go_ret
       exact ⟨by rw [HV.out]; rfl, za hB3 _⟩
      ·have d3 : decide ((16384 : Int) - (m : Int) < (s.load.length : Int)) = false := by simp; omega
       have HV : Hid (yM 0 none l = yM (m + s.load.length) (jF l (j + 1 + 1)) (l.drop (j + 1 + 1))) := Lib.hid (by rw [HST.out, HP.out]; simp; intro _; omega)
       go_upto_region 5 with fail
       try simp only [Act.put]
       go_quiet (fail)
       have s1' := hS3.c1
       go_wp2_with (with_reducible refine h_B ?_)
       exact ⟨⟨(j + 1) + 1, m + s.load.length, by omega, by omega, by go_num, by go_num, HV, hX3, za hB3 _⟩, by simp [RowKit.intOf]; omega⟩
  ·have g1 : ¬ (i : Int) < (n : Int) := by omega
   have hall : yM 0 none l = true := by
    rw [HC.out, List.drop_eq_nil_of_le (by have := HN.out; omega)]
    cases jF l i <;> rfl
   have HA := Lib.hid hall
   clear hall HC
   rcases Nat.eq_zero_or_pos n with hn0 | hpos
   ·have HV : Hid (xD ⟨ch, tr, l⟩ = 70) := Lib.hid (by
     have : l = [] := List.eq_nil_of_length_eq_zero (by have := HN.out; omega)
     simp [xD, asOk, qY, this])
    have d1 : ((n : Int) == 0) = true := by simp; omega
    clear hn0 hel
    go_upto_region 9 with fail
    try simp only [Act.put]
    go_quiet (fail)
    go_wp2_with (with_reducible refine h_B ?_)
    go_ret
    exact ⟨by rw [HV.out]; rfl, za hBr _⟩
   ·obtain ⟨b, off, rfl, hbB, hkl, hcl⟩ := hel hpos
    have hbw : b < w.heap.size := by omega
    have k0 : wr.cell? ⟨b, off, none⟩ = some (.int .u8 (l[0].ty : Int)) := (hBr.cell (p := ⟨b, off, none⟩) hbw).trans (by simpa using hcl 0 _ rfl)
    have hty := HTY.out _ (List.getElem_mem hkl)
    have hj1 : (0 : Int) < (n : Int) := by omega
    have d1 : ((n : Int) == 0) = false := by simp; omega
    have HH : Hid (qY ⟨ch, tr, l⟩ = (decide (l[0].ty = tr) && decide (tr ≤ 1) && (decide (tr ≠ 0) || decide (n ≤ 1)))) := Lib.hid (by
     have := HN.out
     cases l with
     | nil => simp at hkl
     | cons s r =>
      simp only [qY, List.getElem_cons_zero]
      congr 2
      cases r with
      | nil => simp at this ⊢; omega
      | cons s' r' => simp at this ⊢; omega)
    clear hcl hel
    generalize l[0].ty = t0 at *
    by_cases c1 : t0 = tr
    ·have d2 : ((t0 : Int) != (tr : Int)) = false := by simp; omega
     have HE1 := Lib.hid c1
     clear c1
     by_cases c2 : 1 < tr
     ·have d3 : (1 : Int) < (tr : Int) := by omega
      have HV : Hid (xD ⟨ch, tr, l⟩ = 70) := Lib.hid (by
       have : qY ⟨ch, tr, l⟩ = false := by rw [HH.out]; simp; omega
       simp [xD, asOk, this])
      go_upto_region 9 with fail
      try simp only [Act.put]
      go_quiet (fail)
      go_wp2_with (with_reducible refine h_B ?_)
      go_ret
      exact ⟨by rw [HV.out]; rfl, za hBr _⟩
     ·have d3 : decide ((1 : Int) < (tr : Int)) = false := by simp; omega
      by_cases c3 : tr = 0
      ·have d4 : ((tr : Int) == 0) = true := by simp; omega
       have HE2 := Lib.hid c3
       clear c3
       by_cases c4 : 1 < n
       ·have d5 : (1 : Int) < (n : Int) := by omega
        have HV : Hid (xD ⟨ch, tr, l⟩ = 70) := Lib.hid (by
         have : qY ⟨ch, tr, l⟩ = false := by rw [HH.out]; simp [HE2.out]; omega
         simp [xD, asOk, this])
        go_upto_region 9 with fail
        try simp only [Act.put]
        go_quiet (fail)
        go_wp2_with (with_reducible refine h_B ?_)
        go_ret
        exact ⟨by rw [HV.out]; rfl, za hBr _⟩
       ·have d5 : decide ((1 : Int) < (n : Int)) = false := by simp; omega
        have HV : Hid (xD ⟨ch, tr, l⟩ = 0) := Lib.hid (by
         have : qY ⟨ch, tr, l⟩ = true := by rw [HH.out]; simp [HE1.out, HE2.out]; omega
         simp [xD, asOk, this, HA.out])
        go_upto_region 9 with fail
        try simp only [Act.put]
        go_quiet (fail)
        go_wp2_with (with_reducible refine h_B ?_)
        go_ret
        exact ⟨by rw [HV.out]; rfl, za hBr _⟩
      ·have d4 : ((tr : Int) == 0) = false := by simp; omega
       have HV : Hid (xD ⟨ch, tr, l⟩ = 0) := Lib.hid (by
        have : qY ⟨ch, tr, l⟩ = true := by rw [HH.out]; simp [HE1.out, c3]; omega
        simp [xD, asOk, this, HA.out])
       go_upto_region 9 with fail
       try simp only [Act.put]
       go_quiet (fail)
       go_wp2_with (with_reducible refine h_B ?_)
       go_ret
       exact ⟨by rw [HV.out]; rfl, za hBr _⟩
    ·have d2 : ((t0 : Int) != (tr : Int)) = true := by simp; omega
     have HV : Hid (xD ⟨ch, tr, l⟩ = 70) := Lib.hid (by
      have : qY ⟨ch, tr, l⟩ = false := by rw [HH.out]; simp; omega
      simp [xD, asOk, this])
     clear c1
     go_upto_region 9 with fail
     try simp only [Act.put]
     go_quiet (fail)
     go_wp2_with (with_reducible refine h_B ?_)
     go_ret
     exact ⟨by rw [HV.out]; rfl, za hBr _⟩
end Go.PH
end
section
namespace Go.PH
open Go.RowKit Go.Proofs
theorem YO (pb mb n k : Nat) (d : Bool) (D : DataW Value) (w : World) (hb : Box w pb 88 #[.map (some mb), .bool d]) (hm : w.ownsMap Tryz.prog 156 rawV mb n D) (hne : pb ≠ mb) :
  Calls Tryz.prog 81 #[.pointer (some ⟨pb, 0, none⟩), .int .i64 (k : Int)] w fun e w' => e = .returned (.tuple #[.agg asZ, .bool false, .int .i64 (k : Int)]) ∧ Box w' pb 88 #[.map (some mb), .bool true] ∧ KeepF (fun g => g = pb ∨ g = mb) w w' := by
 obtain ⟨rb, w0, hqb, hqv, hr, hB0⟩ := zr w asZ 42
 have hb0 := hb.below hB0
 have hm0 : w0.ownsMap Tryz.prog 156 rawV mb n D := zO hm (hB0.block mb hm.lt)
 have hrp : rb ≠ pb := by have := hb.lt; omega
 have hrm : rb ≠ mb := by have := hm.lt; omega
 have hwr : w.heap.size ≤ rb := by omega
 have hK0 : KeepF (fun g => g = pb ∨ g = mb) w w0 := .below hB0
 unfold asZ at *
 go_enter Tryz.func81, Tryz.ntmps81
 go_upto_region 1 with fail
 go_wp2_with (with_reducible refine h_B ?_)
 rw [← hqb, ← hqv]
 clear hqv hqb
 refine zc (zm (v := .bool true) (vs := [.bool true]) rfl rfl rfl rfl hb0 rfl (by kernel_rfl) (by simp) (by simp [Value.oneCell']) #[.map (some mb), .bool true] (by simp) ?_)
 intro w1 hb1 hg1 hz1
 have hr1 := hr.grown hg1 (by intro e; injection e with e; exact hrp e)
 have hm1 : w1.ownsMap Tryz.prog 156 rawV mb n D := zO hm0 (hg1.block mb hm0.lt (by intro e; injection e with e; exact hne e.symm))
 have hK1 : KeepF (fun g => g = pb ∨ g = mb) w w1 := hK0.trans (.grown hg1 (fun g hg => .inl (.inl (by injection hg with hg; exact hg.symm)))) (fun g hg => .inl hg)
 have c0 := hb1.c0
 clear hb0 hr hm0 hK0 hg1 hz1 hB0
 go_wp2_with (first | (with_reducible refine Xv ?_) | (with_reducible refine xd ?_))
 refine zc (Yj rfl rfl rfl hm1 Tryz.underlying86 ?_)
 intro w2 hg2 hz2
 have hr2 := hr1.grown hg2 (by intro e; injection e with e; exact hrm e)
 have hb2 := hb1.grown hg2 (by intro e; injection e with e; exact hne e)
 have hK2 : KeepF (fun g => g = pb ∨ g = mb) w w2 := hK1.trans (.grown hg2 (fun g hg => .inl (.inr (by injection hg with hg; exact hg.symm)))) (fun g hg => .inl hg)
 clear hb1 hr1 hm1 hK1 hg2 hz2 c0
 go_wp2_with (with_reducible refine h_B ?_)
 refine zc (zm (v := .agg #[.int .u16 0, .int .u8 0, .slice none 0 0]) (vs := [.int .u16 0, .int .u8 0, .slice none 0 0]) rfl rfl rfl rfl hr2 rfl (by kernel_rfl) (by simp) (by simp [Value.oneCell']) #[.int .u16 0, .int .u8 0, .slice none 0 0] (by simp) ?_)
 intro w3 hr3 hg3 hz3
 have hb3 := hb2.grown hg3 (by intro e; injection e with e; exact hrp e.symm)
 have hK3 : KeepF (fun g => g = pb ∨ g = mb) w w3 := hK2.trans (.grown (F := fun g => g = rb) hg3 (fun g hg => .inl (by injection hg with hg; exact hg.symm))) (fun g hg => .inr (by rw [hg]; exact hwr))
 clear hb2 hr2 hK2 hg3 hz3
 go_wp2_with (with_reducible refine h_B ?_)
 exact zS rfl hr3 rfl rfl rfl Tryz.underlying42 rfl (by kernel_rfl) rfl ⟨rfl, hb3, hK3⟩
end Go.PH
end
section
namespace Go.PH
open Go.RowKit Go.Proofs
def Qp (w : World) (F : Nat → Prop) (pb n : Nat) (g : GS) (f : Fr) (e : Ending) (w' : World) : Prop :=
 ∃ F' : Nat → Prop, (∀ k, F' k → F k ∨ w.heap.size ≤ k) ∧ Ga w' F' pb (n + 1) (g.next f) ∧ KeepF F w w' ∧
  ((g.out f = none ∧ e = .returned (.tuple #[.agg asZ, .bool false, .int .i64 (g.err f : Int)])) ∨
   (∃ a A c, g.out f = some a ∧ e = .returned (.tuple #[.agg (asV a.chan a.track A a.segs.length c), .bool true, .int .i64 0]) ∧ OwnG w' 0 A a.segs.length c a.segs ∧ ∀ b, blk A = some b → ¬ F' b ∧ (F b ∨ w.heap.size ≤ b)))
theorem GS.out_err {g : GS} {f : Fr} (h : g.err f ≠ 0) : g.out f = none := by unfold GS.out; rw [if_neg (fun e => h e.1)]
theorem GS.next_err {g : GS} {f : Fr} (h : g.err f ≠ 0) : g.next f = ⟨true, fun _ _ => []⟩ := by unfold GS.next; rw [if_pos h]
theorem j5 {w w' : World} {F : Nat → Prop} {pb mb n k : Nat} {g : GS} {f : Fr} (hlt : ∀ k, F k → k < w.heap.size) (hb : Box w' pb 88 #[.map (some mb), .bool true]) (hF : F pb) (hne : pb ≠ mb) (hK : KeepF F w w') (he : g.err f = k) (hk : k ≠ 0) :
  Qp w F pb n g f (.returned (.tuple #[.agg asZ, .bool false, .int .i64 (k : Int)])) w' := by
 refine ⟨F, fun _ h => .inl h, ⟨⟨mb, .map [], fun _ _ => ⟨none, 0, 0⟩, fun _ _ => fr00, ?_, hF, hne, fun h => ?_⟩, fun k hk => Nat.lt_of_lt_of_le (hlt k hk) hK.1⟩, hK, .inl ⟨GS.out_err (by omega), by rw [he]⟩⟩
 ·rw [GS.next_err (by omega)]; exact hb
 ·rw [GS.next_err (by omega)] at h; cases h
theorem Zy {l : List Fr} {x f : Fr} (h : l ≠ [] → PartOk l x) (hf : fitsB l f = true) (hw : f.wf) : PartOk (l ++ [f]) (if f.beg then f else x) := by
 cases hb : f.beg with
 | true => exact ⟨hw.1, f, by simp, rfl, rfl, rfl⟩
 | false =>
  have hne : l ≠ [] := fun e => by rw [e] at hf; have := (km hf).2.1; rw [hb] at this; cases this
  obtain ⟨h1, y, hy, h2, h3, h4⟩ := h hne
  unfold fitsB at hf
  split at hf
  ·cases hf
  ·rw [hy] at hf
   simp only [hb] at hf
   split at hf
   ·simp at hf
   ·simp at hf
    obtain ⟨⟨e1, e2⟩, e3⟩ := hf
    exact ⟨h1, f, by simp, by simp [h2, e1], by simp [h3, e2], by simp [h4, e3]⟩
theorem Xq (l : List Fr) (f : Fr) : jc (l ++ [f]) = !f.fin := by simp [jc]
theorem jS (l : List Fr) (f : Fr) : zE (l ++ [f]) = zE l + f.load.length := by rw [jd]; simp [zE]
theorem YN {l : List Fr} {f : Fr} (hg : Goes l) (hf : fitsB l f = true) : ∃ L0 s0, (if f.beg then yi l ++ [⟨f.ty, []⟩] else yi l) = L0 ++ [s0] ∧ yi (l ++ [f]) = L0 ++ [⟨s0.ty, s0.load ++ f.load⟩] := by
 have hne : (if f.beg then yi l ++ [⟨f.ty, []⟩] else yi l) ≠ [] := by
  split
  ·simp
  ·rename_i hb
   refine ZC hg fun e => ?_
   rw [e] at hf
   exact hb (km hf).2.1
 refine ⟨_, _, (List.dropLast_concat_getLast hne).symm, ?_⟩
 rw [kj, qh]
 conv => lhs; rw [← List.dropLast_concat_getLast hne]
 rw [Xs]
structure FdS (w wx : World) (hA : Option Addr) (fb rb kb qb pb mb : Nat) (d : Bool) (f : Fr) (X : Array Value) (A : Option Addr) (n c : Nat) (L : List Sg) : Prop where
 bf : Box wx fb 97 (frV f)
 br : Box wx rb 42 asZ
 bk : Box wx kb 156 #[.int .i64 (f.chan : Int), .int .i64 (f.track : Int)]
 bq : Box wx qb 158 X
 bp : Box wx pb 88 #[.map (some mb), .bool d]
 row : OwnG wx 0 A n c L
 keep : KeepF (fun g => blk hA = some g) w wx
 lo : w.heap.size ≤ fb ∧ w.heap.size ≤ rb ∧ w.heap.size ≤ kb ∧ w.heap.size ≤ qb ∧ pb < w.heap.size
 ne : fb ≠ rb ∧ fb ≠ kb ∧ fb ≠ qb ∧ rb ≠ kb ∧ rb ≠ qb ∧ kb ≠ qb
 hp : blk hA ≠ some pb
 hl : ∀ g, blk hA = some g → g < w.heap.size
 at_ : ∀ g, blk A = some g → blk hA = some g ∨ w.heap.size ≤ g ∧ g ≠ fb ∧ g ≠ rb ∧ g ≠ kb ∧ g ≠ qb
section
variable {w wx wy : World} {hA : Option Addr} {fb rb kb qb pb mb : Nat} {d : Bool} {f : Fr} {X Y : Array Value} {A A2 : Option Addr} {n c n2 c2 : Nat} {L L2 : List Sg}
theorem FdS.off (h : FdS w wx hA fb rb kb qb pb mb d f X A n c L) {g : Nat} (hg : blk A = some g) : g ≠ fb ∧ g ≠ rb ∧ g ≠ kb ∧ g ≠ qb ∧ g ≠ pb := by
 have := h.lo
 rcases h.at_ g hg with e | e
 ·have := h.hl g e
  refine ⟨by omega, by omega, by omega, by omega, fun e' => h.hp (by rw [e, e'])⟩
 ·exact ⟨e.2.1, e.2.2.1, e.2.2.2.1, e.2.2.2.2, by omega⟩
theorem FdS.store (h : FdS w wx hA fb rb kb qb pb mb d f X A n c L) (hg : wx.grownBy wy (some qb)) (hq : Box wy qb 158 Y) : FdS w wy hA fb rb kb qb pb mb d f Y A n c L := by
 obtain ⟨n1, n2, n3, n4, n5, n6⟩ := h.ne
 have hlo := h.lo
 exact ⟨h.bf.grown hg (sne (by omega)), h.br.grown hg (sne (by omega)), h.bk.grown hg (sne (by omega)), hq, h.bp.grown hg (sne (by omega)),
  zf h.row hg (fun g hg' e => by injection e with e; exact (h.off hg').2.2.2.1 e.symm), h.keep.trans (.grown (F := fun g => g = qb) hg (fun g hg => .inl (by injection hg with hg; exact hg.symm))) (fun g e => .inr (by rw [e]; omega)), h.lo, h.ne, h.hp, h.hl, h.at_⟩
theorem FdS.turn (h : FdS w wx hA fb rb kb qb pb mb d f X A n c L) (hg : wx.grownBy wy (blk A)) (ho : OwnG wy 0 A2 n2 c2 L2) (hb : blk A2 = blk A ∨ ∀ g, blk A2 = some g → wx.heap.size ≤ g) : FdS w wy hA fb rb kb qb pb mb d f X A2 n2 c2 L2 := by
 have hlo := h.lo
 have z1 := h.bf.lt
 have z2 := h.br.lt
 have z3 := h.bk.lt
 have z4 := h.bq.lt
 have z5 := h.bp.lt
 exact ⟨h.bf.grown hg (fun e => (h.off e.symm).1 rfl), h.br.grown hg (fun e => (h.off e.symm).2.1 rfl), h.bk.grown hg (fun e => (h.off e.symm).2.2.1 rfl), h.bq.grown hg (fun e => (h.off e.symm).2.2.2.1 rfl), h.bp.grown hg (fun e => (h.off e.symm).2.2.2.2 rfl),
  ho, h.keep.trans (.grown (F := fun g => blk A = some g) hg (fun g hg => .inl hg)) (fun g e => by rcases h.at_ g e with e | e; exact .inl e; exact .inr e.1), h.lo, h.ne, h.hp, h.hl, fun g hg' => by
   rcases hb with e | e
   ·rw [e] at hg'; exact h.at_ g hg'
   ·have := e g hg'; exact .inr ⟨by have := h.keep.1; omega, by omega, by omega, by omega, by omega⟩⟩
theorem FdS.drew (h : FdS w wx hA fb rb kb qb pb mb d f X A n c L) : FdS w wx.drew hA fb rb kb qb pb mb d f X A n c L :=
 ⟨h.bf, h.br, h.bk, h.bq, h.bp, h.row, h.keep.trans (.below (za (Below.refl _ _) 1)) (F' := fun _ => False) (fun _ h => h.elim), h.lo, h.ne, h.hp, h.hl, h.at_⟩
theorem FdS.below (h : FdS w wx hA fb rb kb qb pb mb d f X A n c L) (hB : Below wx.heap.size wx wy) : FdS w wy hA fb rb kb qb pb mb d f X A n c L :=
 ⟨h.bf.below hB, h.br.below hB, h.bk.below hB, h.bq.below hB, h.bp.below hB, zg h.row hB, h.keep.trans (.below hB) (F' := fun _ => False) (fun _ h => h.elim), h.lo, h.ne, h.hp, h.hl, h.at_⟩
end
theorem Qq {P : Program} {o : Oper} {a : Act} {w w' : World} {K : Act → World → Prop} {Q : Exit → Act → World → Prop} {t k : TypeId} {m x : Operand} {mv kv : Value} (ho : o.op = Op.call { callee := Callee.builtin Builtin.delete, args := #[m, x], argTypes := #[t, k] }) (hm : a.eval m = mv) (hk : a.eval x = kv) {ty : TypeId} (hty : o.type = ty) (hrun : (Builtin.delete_ #[t, k] ty #[mv, kv]).run P w = .ok (.tuple #[]) w') (h : K (a.put o.dst (.tuple #[])) w') : o.wp P a w K Q := by
 unfold Oper.wp
 simp [execOp, ho, resolve, invoke, builtin, hm, hk, hty, hrun, Result.andThen]
 exact h
theorem jT {P : Program} {o : Oper} {a : Act} {w w' : World} {K : Act → World → Prop} {Q : Exit → Act → World → Prop} {t : TypeId} {m x v : Operand} {mv kv vv : Value} (ho : o.op = Op.mapUpdate t m x v) (hm : a.eval m = mv) (hk : a.eval x = kv) (hv : a.eval v = vv) (hrun : (Instr.mapUpdate t mv kv vv).run P w = .ok () w') (h : K (a.put o.dst undef) w') : o.wp P a w K Q := by
 unfold Oper.wp
 simp [execOp, ho, hm, hk, hv, hrun, Result.andThen]
 exact h
end Go.PH
end

/- Texts laid together: Rec, Keep, RecSet, Region, Region2, Region3, RegionP, Row, See, SlB. -/
import Derived.Maps.OwnOps
import Derived.Maps.OwnSet
import Derived.Maps.Views
import Derived.OrdersHeld
import Derived.Deep.RegionHeld3
import Derived.ProofKit
import Derived.OpenShut
import Derived.Deep.DeepHandedRow
import Derived.Lib.LaidTab
import Derived.SizedLaws
import Derived.Deep.Slices
import Derived.Test.YtfbkameikhgciaaGreatDoorRows
import Derived.Test.YtfbkameikhgciaaGreatDoorMg00
import Derived.Test.YtfbkameikhgciaaGreatDoorMg01
set_option linter.all false
set_option linter.unusedSimpArgs false
set_option linter.unusedVariables false
set_option maxRecDepth 20000
set_option maxHeartbeats 8000000
section
namespace Go.PH
open Go.RowKit
section
variable {α : Type} {f : α → List Value} {sz : Nat}
structure RecShape (f : α → List Value) (sz : Nat) : Prop where
 len : ∀ a, (f a).length = sz
 one : ∀ a, ∀ u ∈ f a, u.oneCell' = true
 pos : 0 < sz
def rowC (f : α → List Value) (l : List α) : List Value := l.flatMap f
theorem qE (a : α) (l : List α) : rowC f (a :: l) = f a ++ rowC f l := rfl
theorem yR (a b : List α) : rowC f (a ++ b) = rowC f a ++ rowC f b := by simp [rowC]
theorem qp (h : RecShape f sz) (l : List α) : (rowC f l).length = l.length * sz := by
 induction l with
 | nil => simp [rowC]
 | cons a l ih => rw [qE, List.length_append, ih, h.len, List.length_cons, Nat.add_mul]; omega
theorem YS (h : RecShape f sz) : ∀ (l : List α) (k : Nat) (hk : k < l.length) (j : Nat), j < sz → (rowC f l)[k * sz + j]? = (f l[k])[j]?
 | a :: l, 0, _, j, hj => by
  rw [qE, Nat.zero_mul, Nat.zero_add, List.getElem?_append_left (by rw [h.len]; exact hj)]; rfl
 | a :: l, k + 1, hk, j, hj => by
  have := YS h l k (by simpa using hk) j hj
  rw [qE, List.getElem?_append_right (by rw [h.len, Nat.add_mul]; omega), h.len, Nat.add_mul, show k * sz + 1 * sz + j - sz = k * sz + j by omega, this]
  rfl
variable {w w' : World} {B n c base e : Nat} {A : Option Addr} {l : List α}
theorem yw (h : RecShape f sz) (hr : Rd w B sz A n c (rowC f l)) : l.length = n := by
 have := hr.len
 rw [qp h] at this
 exact Nat.eq_of_mul_eq_mul_right h.pos this
theorem xW (h : RecShape f sz) (hr : Rd w B sz A n c (rowC f l)) {k : Nat} (hk : k < n) : ∃ b off, A = some ⟨b, off, none⟩ ∧ b < B ∧ ∃ hl : k < l.length, ∀ j u, (f l[k])[j]? = some u → w.cell? ⟨b, off + k * sz + j, none⟩ = some u := by
 obtain ⟨b, off, e, hb, hc⟩ := hr.at_ (by omega)
 have hl := yw h hr
 refine ⟨b, off, e, hb, by omega, fun j u hu => ?_⟩
 have hj : j < sz := by have := (List.getElem?_eq_some_iff.1 hu).1; rwa [h.len] at this
 have := hc (k * sz + j) u ((YS h l k (by omega) j hj).trans hu)
 rwa [← Nat.add_assoc] at this
theorem vU (h : RecShape f sz) (ho : Own w base e sz A n c (rowC f l)) : l.length = n := yw h ho.rd
theorem YT {P : Program} {W : World} {o : Oper} {a : Act} {K : Act → World → Prop} {Q : Exit → Act → World → Prop} {s x : Operand} {t t2 e2 bytes g : Nat} {z : Value} (h : RecShape f sz) (hT : SlT P t e sz bytes z) (h2 : P.underlying t2 = some (.slice e2))
  (ho : o.op = .call { callee := .builtin .append, args := #[s, x], argTypes := #[t, t2] }) (hs : a.eval s = .slice A n c) (hx : a.eval x = .slice (some ⟨g, 0, none⟩) 1 1) (hg : g = W.heap.size) {cs : Array Value}
  (r : α) (hcs : cs.toList = f r) (hown : Own W base e sz A n c (rowC f l)) (hn : (n + 1) * bytes ≤ 140737488355328) (hn2 : n ≤ 1000000000) (hbase : base ≤ W.heap.size)
  (hk : ∀ A2 c2 w', Own w' base e sz A2 (n + 1) c2 (rowC f (l ++ [r])) → W.grownBy w' (blk A) → (blk A2 = blk A ∨ ∀ g, blk A2 = some g → W.heap.size ≤ g) → Below base W w' → K (a.put o.dst (.slice A2 (n + 1) c2)) w') :
  o.wp P a (W.alloc (.cells cs e)) K Q := by
 subst hg
 have hcz : cs.size = 1 * sz := by rw [Nat.one_mul, ← h.len r, ← hcs]; simp
 have hlit := xe (w := W) base cs e 1 hbase (by simp [maxLen]) hcz h.pos
 have ho2 : Own (W.alloc (.cells cs e)) base e sz A n c (rowC f l) := hown.alloc _
 refine qz (ops := #[]) hT h2 ho hs hx ho2 hlit.rd (fun u hu => h.one r u (by rw [← hcs]; exact hu)) hn (by simp [maxLen]; omega) (by simp; omega) fun A2 c2 w' a1 a2 a3 => ?_
 have e1 : rowC f l ++ cs.toList = rowC f (l ++ [r]) := by rw [yR, hcs]; simp [rowC]
 rw [e1] at a1
 have hB2 : Below base W (W.alloc (.cells cs e)) := (Below.refl _ _).alloc hbase _
 have hgr : W.grownBy w' (blk A) := ⟨a2.os, a2.tape, a2.output, Nat.le_trans hB2.size a2.size, fun k hk hne => (a2.block k (by simp; omega) hne).trans (((Below.refl W.heap.size W).alloc (Nat.le_refl _) _).block k hk)⟩
 refine hk A2 c2 w' a1 hgr ?_ ((Below.refl _ _).grown hgr hbase (fun g hg => (hown.blk_lt hg).1))
 rcases a3 with h3 | h3
 ·exact .inl h3
 ·refine .inr fun g hg => ?_
  rw [h3] at hg
  simp at hg; omega
theorem Qw {P : Program} {W : World} {ops : Array Oper} {rest : List Oper} {o : Oper} {a : Act} {Q : Exit → Act → World → Prop} {s x : Operand} {t t2 e2 bytes g : Nat} {z : Value} (h : RecShape f sz) (hT : SlT P t e sz bytes z) (h2 : P.underlying t2 = some (.slice e2)) (hw : Region.wanted o (yielded ops a.tmps) = true)
  (ho : o.op = .call { callee := .builtin .append, args := #[s, x], argTypes := #[t, t2] }) (hs : a.eval s = .slice A n c) (hx : a.eval x = .slice (some ⟨g, 0, none⟩) 1 1) (hg : g = W.heap.size) {cs : Array Value}
  (r : α) (hcs : cs.toList = f r) (hown : Own W base e sz A n c (rowC f l)) (hn : (n + 1) * bytes ≤ 140737488355328) (hn2 : n ≤ 1000000000) (hbase : base ≤ W.heap.size)
  (hk : ∀ A2 c2 w', Own w' base e sz A2 (n + 1) c2 (rowC f (l ++ [r])) → W.grownBy w' (blk A) → (blk A2 = blk A ∨ ∀ g, blk A2 = some g → W.heap.size ≤ g) → Below base W w' → wpList P ops Q rest (a.put o.dst (.slice A2 (n + 1) c2)) w') :
  wpList P ops Q (o :: rest) a (W.alloc (.cells cs e)) := by
 refine BigFrame.wpList_want hw fun K hK => ?_
 exact YT h hT h2 ho hs hx hg r hcs hown hn hn2 hbase fun A2 c2 w' a1 a2 a3 a4 => hK _ _ (hk A2 c2 w' a1 a2 a3 a4)
end
end Go.PH
end
section
namespace Go.PH
open Go.RowKit
structure Hd where
 A : Option Addr
 n : Nat
 c : Nat
def Hd.v (h : Hd) : Value := .slice h.A h.n h.c
def Quiet (w w' : World) : Prop := w'.os = w.os ∧ w'.tape = w.tape ∧ w'.output = w.output
theorem Quiet.refl (w : World) : Quiet w w := ⟨rfl, rfl, rfl⟩
theorem Quiet.trans {a b c : World} (h : Quiet a b) (k : Quiet b c) : Quiet a c := ⟨k.1.trans h.1, k.2.1.trans h.2.1, k.2.2.trans h.2.2⟩
theorem Quiet.below {B : Nat} {w w' : World} (h : Below B w w') : Quiet w w' := ⟨h.os, h.tape, h.output⟩
theorem Quiet.grown {w w' : World} {r : Option Nat} (h : w.grownBy w' r) : Quiet w w' := ⟨h.os, h.tape, h.output⟩
def KeepF (F : Nat → Prop) (w w' : World) : Prop := w.heap.size ≤ w'.heap.size ∧ (∀ g, g < w.heap.size → ¬ F g → w'.heap[g]? = w.heap[g]?) ∧ Quiet w w'
theorem KeepF.size {F : Nat → Prop} {w w' : World} (h : KeepF F w w') : w.heap.size ≤ w'.heap.size := h.1
theorem KeepF.refl (F : Nat → Prop) (w : World) : KeepF F w w := ⟨Nat.le_refl _, fun _ _ _ => rfl, .refl w⟩
theorem KeepF.trans {F F' : Nat → Prop} {w w' w2 : World} (h : KeepF F w w') (h' : KeepF F' w' w2) (hF : ∀ g, F' g → F g ∨ w.heap.size ≤ g) : KeepF F w w2 :=
 ⟨Nat.le_trans h.1 h'.1, fun g hg hn => (h'.2.1 g (Nat.lt_of_lt_of_le hg h.1) (fun e => by rcases hF g e with e | e; exact hn e; omega)).trans (h.2.1 g hg hn), h.2.2.trans h'.2.2⟩
theorem KeepF.below {F : Nat → Prop} {w w' : World} (h : Below w.heap.size w w') : KeepF F w w' := ⟨h.size, fun g hg _ => h.block g hg, .below h⟩
theorem KeepF.grown {F : Nat → Prop} {w w' : World} {r : Option Nat} (h : w.grownBy w' r) (hr : ∀ g, r = some g → F g ∨ w.heap.size ≤ g) : KeepF F w w' :=
 ⟨h.size, fun g hg hn => h.block g hg (fun e => by rcases hr g e.symm with e | e; exact hn e; omega), .grown h⟩
theorem KeepF.toBelow {F : Nat → Prop} {w w' : World} {B : Nat} (h : KeepF F w w') (hB : B ≤ w.heap.size) (hF : ∀ g, F g → B ≤ g) : Below B w w' :=
 ⟨h.2.2.1, h.2.2.2.1, h.2.2.2.2, h.1, fun k hk => h.2.1 k (by omega) (fun e => by have := hF k e; omega)⟩
theorem KeepF.weak {F G : Nat → Prop} {w w' : World} (h : KeepF F w w') (hF : ∀ g, F g → G g ∨ w.heap.size ≤ g) : KeepF G w w' :=
 ⟨h.1, fun g hg hn => h.2.1 g hg (fun e => by rcases hF g e with e | e; exact hn e; omega), h.2.2⟩
theorem JQ {F G : Nat → Prop} {w w' : World} (h : KeepF G w w') (hd : ∀ g, F g → ¬ G g) (hl : ∀ g, F g → g < w.heap.size) : ∀ g, F g → w'.heap[g]? = w.heap[g]? := fun g hg => h.2.1 g (hl g hg) (hd g hg)
theorem zO {w w' : World} {H : Type} {P : Program} {k : TypeId} {R : Value → Option (DataW H × List MemPlace)} {b n : Nat} {D : DataW H} (h : w.ownsMap P k R b n D) (hb : w'.heap[b]? = w.heap[b]?) : w'.ownsMap P k R b n D := by
 obtain ⟨es, clock, h1, h2, h3, h4⟩ := h
 exact ⟨es, clock, hb.trans h1, h2, h3, h4⟩
theorem j7 {w w' : World} {base e size n c : Nat} {A : Option Addr} {xs : List Value} (h : Own w base e size A n c xs) (hb : ∀ g, blk A = some g → w'.heap[g]? = w.heap[g]?) : Own w' base e size A n c xs := by
 unfold Own World.ownsRow at h ⊢
 obtain ⟨hl, h1⟩ := h
 refine ⟨hl, h1.imp id ?_⟩
 rintro ⟨g, cap, cur, hv, hb0, hh, hr⟩
 exact ⟨g, cap, cur, hv, hb0, (hb g (by injection hv with e; rw [e]; rfl)).trans hh, hr⟩
theorem ym {w w' : World} {F : Nat → Prop} {g t : Nat} {cs : Array Value} (h : Box w g t cs) (hk : KeepF F w w') (hF : ¬ F g) : Box w' g t cs := (hk.2.1 g h.lt hF).trans h
theorem zq {w w' : World} {F : Nat → Prop} {base e size n c : Nat} {A : Option Addr} {xs : List Value} (h : Own w base e size A n c xs) (hk : KeepF F w w') (hF : ∀ g, blk A = some g → ¬ F g) : Own w' base e size A n c xs :=
 j7 h fun g hg => hk.2.1 g (h.blk_lt hg).2 (hF g hg)
end Go.PH
end
section
namespace Go.PH
open Go.RowKit
section
variable {α : Type} {f : α → List Value} {sz : Nat} {P : Program} {w w' : World} {base e n c g m t bytes : Nat} {A : Option Addr} {l : List α} {z : Value}
theorem YW (ho : Own w base e sz (some ⟨g, 0, none⟩) n c (rowC f l)) : ∃ cur, base ≤ g ∧ w.heap[g]? = some (.cells cur e (0, 0)) ∧ n ≤ c ∧ c ≤ maxLen ∧ cur.size = c * sz ∧ cur.toList.take (n * sz) = rowC f l := by
 rcases ho.2 with ⟨hv, _⟩ | ⟨g', cap, cur, hv, h1, h2, h3, h4, h5, h6⟩
 ·injection hv with h1; cases h1
 ·injection hv with e1 e2 e3
  injection e1 with e1
  injection e1 with e1
  subst e1 e3
  exact ⟨cur, h1, h2, h3, h4, h5, h6⟩
theorem JX (ho : Own w base e sz A n c (rowC f l)) (hn : 0 < n) : ∃ g, A = some ⟨g, 0, none⟩ ∧ base ≤ g ∧ g < w.heap.size := by
 rcases ho.2 with ⟨hv, rfl⟩ | ⟨g, cap, cur, hv, h1, h2, _⟩
 ·omega
 ·injection hv with e1 e2 e3
  exact ⟨g, e1, h1, (Array.getElem?_eq_some_iff.1 h2).1⟩
theorem YX (h : RecShape f sz) (r : α) : ∀ (l : List α) (k : Nat), k < l.length → rowC f (l.set k r) = rowC f (l.take k) ++ f r ++ rowC f (l.drop (k + 1))
 | a :: l, 0, _ => by simp [rowC]
 | a :: l, k + 1, hk => by
  rw [List.set_cons_succ, qE, YX h r l k (by simpa using hk), List.take_succ_cons, qE, List.drop_succ_cons]
  simp
theorem Xu (f : α → List Value) (l : List α) (k : Nat) (hk : k < l.length) : rowC f l = rowC f (l.take k) ++ f l[k] ++ rowC f (l.drop (k + 1)) := by
 have e : l = l.take k ++ [l[k]] ++ l.drop (k + 1) := by simp
 have e2 : rowC f l = rowC f (l.take k ++ [l[k]] ++ l.drop (k + 1)) := by rw [← e]
 rw [e2, yR, yR]
 simp [rowC]
theorem Vi (h : RecShape f sz) (ho : Own w base e sz (some ⟨g, 0, none⟩) n c (rowC f l)) {cur : Array Value} (hb : w.heap[g]? = some (.cells cur e (0, 0))) {k i : Nat} {vs : List Value} {r : α} (hk : k < n) (hkl : k < l.length)
  (hf : f r = (f l[k]).take i ++ vs ++ (f l[k]).drop (i + vs.length)) (hi : i + vs.length ≤ sz) (hB : w'.heap[g]? = some (.cells (cur.toList.take (k * sz + i) ++ vs ++ cur.toList.drop (k * sz + i + vs.length)).toArray e (0, 0))) :
  Own w' base e sz (some ⟨g, 0, none⟩) n c (rowC f (l.set k r)) := by
 obtain ⟨cur', hbg, hb', hnc, hcm, hcs, ht⟩ := YW ho
 rw [hb] at hb'
 injection hb' with hb'
 injection hb' with hb'
 subst hb'
 have hn := vU h ho
 have hks : k * sz + sz ≤ n * sz := by have := Nat.mul_le_mul_right sz (show k + 1 ≤ n by omega); rw [Nat.add_mul, Nat.one_mul] at this; exact this
 have hnz : n * sz ≤ c * sz := Nat.mul_le_mul_right _ hnc
 refine ⟨by rw [qp h, List.length_set, hn], .inr ⟨g, c, _, rfl, hbg, hB, hnc, hcm, ?_, ?_⟩⟩
 ·simp only [List.size_toArray, List.length_append, List.length_take, List.length_drop, Array.length_toList, hcs]
  omega
 ·have hX : (cur.toList.take (k * sz + i) ++ vs ++ cur.toList.drop (k * sz + i + vs.length)).take (n * sz) = (rowC f l).take (k * sz + i) ++ vs ++ (rowC f l).drop (k * sz + i + vs.length) := by
   rw [← ht, List.take_append, List.take_append, List.take_take, List.take_take, List.length_append, List.length_take, Array.length_toList, hcs, List.drop_take]
   have e1 : min (n * sz) (k * sz + i) = k * sz + i := by omega
   have e2 : min (k * sz + i) (n * sz) = k * sz + i := by omega
   have e3 : min (k * sz + i) (c * sz) = k * sz + i := by omega
   rw [e1, e2, e3, List.take_of_length_le (show vs.length ≤ n * sz - (k * sz + i) by omega)]
   try congr 2
  have hrl : (rowC f (l.take k)).length = k * sz := by rw [qp h, List.length_take, Nat.min_eq_left (by omega)]
  have hS := Xu f l k hkl
  have hfl := h.len l[k]
  rw [show (cur.toList.take (k * sz + i) ++ vs ++ cur.toList.drop (k * sz + i + vs.length)).toArray.toList = _ from rfl, hX, YX h r l k hkl, hf, hS, List.append_assoc (rowC f (l.take k)) (f l[k])]
  have t1 : (rowC f (l.take k) ++ (f l[k] ++ rowC f (l.drop (k + 1)))).take (k * sz + i) = rowC f (l.take k) ++ (f l[k]).take i := by
   rw [List.take_append, hrl, Nat.add_sub_cancel_left, List.take_of_length_le (by omega), List.take_append_of_le_length (by omega)]
  have t2 : (rowC f (l.take k) ++ (f l[k] ++ rowC f (l.drop (k + 1)))).drop (k * sz + i + vs.length) = (f l[k]).drop (i + vs.length) ++ rowC f (l.drop (k + 1)) := by
   rw [List.drop_append, hrl, List.drop_of_length_le (by omega), Nat.add_assoc, Nat.add_sub_cancel_left, List.nil_append, List.drop_append_of_le_length (by omega)]
  rw [t1, t2]
  simp
theorem Qy {o : Oper} {a : Act} {K : Act → World → Prop} {Q : Exit → Act → World → Prop} {x y : Operand} {ty : TypeId} {v : Value} {k i j : Nat} {vs : List Value} (h : RecShape f sz) (ho : o.op = .store ty x y) (hx : a.eval x = .pointer (some ⟨g, j, none⟩)) (hy : a.eval y = v)
  (hown : Own w base e sz (some ⟨g, 0, none⟩) n c (rowC f l)) (hk : k < n) (hkl : k < l.length) (r : α) (hv : v.cells.toList = vs) (hi : (P.info? ty).map (·.size) = some vs.length) (hf : f r = (f l[k]).take i ++ vs ++ (f l[k]).drop (i + vs.length)) (hil : i + vs.length ≤ sz) (hj : j = k * sz + i)
  (hc : ∀ w', Own w' base e sz (some ⟨g, 0, none⟩) n c (rowC f (l.set k r)) → w.grownBy w' (some g) → w'.heap.size = w.heap.size → K (a.put o.dst undef) w') : o.wp P a w K Q := by
 subst hj
 obtain ⟨cur, hbg, hb, hnc, hcm, hcs, ht⟩ := YW hown
 have hks : k * sz + sz ≤ n * sz := by have := Nat.mul_le_mul_right sz (show k + 1 ≤ n by omega); rw [Nat.add_mul, Nat.one_mul] at this; exact this
 have hnz : n * sz ≤ c * sz := Nat.mul_le_mul_right _ hnc
 have h1 : ∀ u ∈ vs, u.oneCell' = true := fun u hu => h.one r u (by rw [hf]; simp [hu])
 exact zM ho hx hy (show Box w g e cur from hb) hv hi (by omega) h1 _ rfl fun w' b1 b2 b3 => hc w' (Vi h hown hb hk hkl hf hil b1) b2 b3
theorem Vj {ops : Array Oper} {rest : List Oper} {o : Oper} {a : Act} {Q : Exit → Act → World → Prop} {size : Nat} {x : Operand} {lo hi mx : Option Operand} (hT : SlT P t e size bytes z) (hw : Region.wanted o (yielded ops a.tmps) = true)
  (ho : o.op = .slice t x lo hi mx) (hx : a.eval x = .slice A n c) (hmax : c ≤ maxLen) (hnc : n ≤ c) (l h m : Nat) (hlo : Bd (lo.map a.eval) 0 l) (hhi : Bd (hi.map a.eval) n h) (hmx : Bd (mx.map a.eval) c m) (hmh : mx.isSome = true → hi.isSome = true)
  (h1 : l ≤ h) (h2 : h ≤ m) (h3 : m ≤ c) (h4 : h ≤ n)
  (hk : wpList P ops Q rest (a.put o.dst (.slice (cutA A size l m) (h - l) (m - l))) w) :
  wpList P ops Q (o :: rest) a w := by
 refine BigFrame.wpList_want hw fun K hK => ?_
 have hrun := jm (A := A) hT w hmax hnc l h m hlo hhi hmx (by simpa using hmh) h1 h2 h3 h4
 unfold Oper.wp execOp
 simp only [ho, hx, Sem.run_bind, Sem.run_pure, Result.andThen_ok, hrun]
 exact hK _ _ hk
theorem Xv {ops : Array Oper} {Q : Exit → Act → World → Prop} {rest : List Oper} {a : Act} {dst : Option Tmp} {ty : TypeId} {pos : String} {after : Array Edge} {guard : Option (Nat × Bool)} {xs : Array Operand} {ts : Array TypeId} (h : Hold (wpList P ops Q (⟨dst, .call ⟨.builtin .clear, xs, ts⟩, ty, pos, after, guard⟩ :: rest) a w)) :
  wpList P ops Q (⟨dst, .call ⟨.builtin .clear, xs, ts⟩, ty, pos, after, guard⟩ :: rest) a w := h
end
end Go.PH
end
section
namespace Go.PH
open Go.RowKit
section
variable {P : Program} {ops : Array Oper} {Q : Exit → Act → World → Prop} {S S2 : World → Prop} {fuel : Nat} {listed : Array Bool} {a : Act} {w : World}
theorem zD (S : World → Prop) {id : Nat} (hm : P.follows .mixedOrders = true) (h : wpAnyH P .any ops (NoPanic Q) S ops.size (Array.replicate ops.size false) a w.drew) : (Code.region id ops true).wp P Q a w :=
 wp_region_noPanic (wp_region_held hm h)
theorem zv (i : Nat) {o : Oper} {v : Value} (hi : ops[i]? = some o) (hs : Region.noSelect ops = true) (hf : Region.free .any ops listed i = true) (hr : (Region.ready .any ops listed).contains i = true)
  (hS : S w) (hw : Region.wanted o (yielded ops a.tmps) = true) (hy : ∀ w, S w → (execOp a.eval o).run P w = .ok (.value v) w)
  (h : wpAnyH P .any ops (NoPanic Q) S fuel (listed.setIfInBounds i true) (a.put o.dst v) w) : wpAnyH P .any ops (NoPanic Q) S (fuel + 1) listed a w :=
 wpAnyH_take hi hs hf hr (fun _ _ _ h => h) (.inl ⟨hw, hy⟩) hS h
theorem zi (i : Nat) {o : Oper} (hi : ops[i]? = some o) (hr : Region.ready .any ops listed = [i]) (hw : Region.wanted o (yielded ops a.tmps) = true)
  (h : ∀ K : Act → World → Prop, (∀ a' w', S w' → wpAnyH P .any ops Q S fuel (listed.setIfInBounds i true) a' w' → K a' w') → o.wp P a w K Q) : wpAnyH P .any ops Q S (fuel + 1) listed a w :=
 wpAnyH_all (rs := [i]) hr (by simp) fun j hj => by
  obtain rfl : j = i := by simpa using hj
  unfold wpOp
  rw [hi]
  simp only [hw, if_true]
  exact .inl (h _ fun a' w' h1 h2 => ⟨h1, h2⟩)
theorem zK (hr : Region.ready .any ops listed = []) (h : Q .normal a w) : wpAnyH P .any ops (NoPanic Q) S fuel listed a w := wpAnyH_done (Q := NoPanic Q) hr h _
end
section
variable {P : Program} {ops : Array Oper} {Q : Exit → Act → World → Prop} {S : World → Prop} {fuel : Nat} {listed : Array Bool} {a : Act} {w : World}
theorem rg_t (i : Nat) {o : Oper} {v : Value} (hS : S w) (h : wpAnyH P .any ops (NoPanic Q) S fuel (listed.setIfInBounds i true) (a.put o.dst v) w) (hi : ops[i]? = some o := by rfl) (hs : Region.noSelect ops = true := by kernel_rfl) (hf : Region.free .any ops listed i = true := by kernel_rfl) (hr : (Region.ready .any ops listed).contains i = true := by kernel_rfl)
    (hw : Region.wanted o (yielded ops a.tmps) = true := by rfl) (hy : ∀ w, S w → (execOp a.eval o).run P w = .ok (.value v) w := by intro wS hSw; go_simp; (with_reducible rfl)) : wpAnyH P .any ops (NoPanic Q) S (fuel + 1) listed a w := zv i hi hs hf hr hS hw hy h
end
end Go.PH
end
section
namespace Go.PH
open Go.RowKit
section
variable {P : Program} {ops : Array Oper} {Q : Exit → Act → World → Prop} {S S2 : World → Prop} {fuel : Nat} {listed : Array Bool} {a : Act} {w : World}
theorem xc (i j : Nat) {o p : Oper} (hi : ops[i]? = some o) (hj : ops[j]? = some p) (hr : Region.ready .any ops listed = [i, j]) (hw : Region.wanted o (yielded ops a.tmps) = true) (hw' : Region.wanted p (yielded ops a.tmps) = true)
  (h : ∀ K : Act → World → Prop, (∀ a' w', S w' → wpAnyH P .any ops Q S fuel (listed.setIfInBounds i true) a' w' → K a' w') → o.wp P a w K Q)
  (h' : ∀ K : Act → World → Prop, (∀ a' w', S w' → wpAnyH P .any ops Q S fuel (listed.setIfInBounds j true) a' w' → K a' w') → p.wp P a w K Q) : wpAnyH P .any ops Q S (fuel + 1) listed a w :=
 wpAnyH_all (rs := [i, j]) hr (by simp) fun k hk => by
  rcases (by simpa using hk : k = i ∨ k = j) with rfl | rfl
  ·unfold wpOp
   rw [hi]
   simp only [hw, if_true]
   exact .inl (h _ fun a' w' h1 h2 => ⟨h1, h2⟩)
  ·unfold wpOp
   rw [hj]
   simp only [hw', if_true]
   exact .inl (h' _ fun a' w' h1 h2 => ⟨h1, h2⟩)
end
section
variable {P : Program} {ops : Array Oper} {Q : Exit → Act → World → Prop} {S : World → Prop} {fuel : Nat} {listed : Array Bool} {a : Act} {w : World} {t e size bytes n c : Nat} {z : Value} {A : Option Addr}
theorem j8 (i : Nat) {o : Oper} {x : Operand} {lo hi mx : Option Operand} (hT : SlT P t e size bytes z) (hi' : ops[i]? = some o) (hs : Region.noSelect ops = true) (hf : Region.free .any ops listed i = true) (hr : (Region.ready .any ops listed).contains i = true)
  (hS : S w) (hw : Region.wanted o (yielded ops a.tmps) = true) (ho : o.op = .slice t x lo hi mx) (hx : a.eval x = .slice A n c) (hmax : c ≤ maxLen) (hnc : n ≤ c) (l h m : Nat)
  (hlo : Bd (lo.map a.eval) 0 l) (hhi : Bd (hi.map a.eval) n h) (hmx : Bd (mx.map a.eval) c m) (hmh : mx.isSome = true → hi.isSome = true) (h1 : l ≤ h) (h2 : h ≤ m) (h3 : m ≤ c) (h4 : h ≤ n)
  (hk : wpAnyH P .any ops (NoPanic Q) S fuel (listed.setIfInBounds i true) (a.put o.dst (.slice (cutA A size l m) (h - l) (m - l))) w) : wpAnyH P .any ops (NoPanic Q) S (fuel + 1) listed a w :=
 zv i hi' hs hf hr hS hw (fun wS _ => by
  unfold execOp
  simp only [ho, hx, Sem.run_bind, Sem.run_pure, Result.andThen_ok, jm (A := A) hT wS hmax hnc l h m hlo hhi hmx (by simpa using hmh) h1 h2 h3 h4]) hk
end
end Go.PH
end
section
namespace Go.PH
open Go.RowKit
variable {P : Program} {ops : Array Oper} {Q : Exit → Act → World → Prop} {S S2 : World → Prop} {fuel : Nat} {listed : Array Bool} {a : Act} {w : World}
theorem Xg (i j k : Nat) {o p q : Oper} (hi : ops[i]? = some o) (hj : ops[j]? = some p) (hk : ops[k]? = some q) (hr : Region.ready .any ops listed = [i, j, k]) (hw : Region.wanted o (yielded ops a.tmps) = true) (hw' : Region.wanted p (yielded ops a.tmps) = true) (hw2 : Region.wanted q (yielded ops a.tmps) = true)
  (h : ∀ K : Act → World → Prop, (∀ a' w', S w' → wpAnyH P .any ops Q S fuel (listed.setIfInBounds i true) a' w' → K a' w') → o.wp P a w K Q)
  (h' : ∀ K : Act → World → Prop, (∀ a' w', S w' → wpAnyH P .any ops Q S fuel (listed.setIfInBounds j true) a' w' → K a' w') → p.wp P a w K Q)
  (h2 : ∀ K : Act → World → Prop, (∀ a' w', S w' → wpAnyH P .any ops Q S fuel (listed.setIfInBounds k true) a' w' → K a' w') → q.wp P a w K Q) : wpAnyH P .any ops Q S (fuel + 1) listed a w :=
 wpAnyH_all (rs := [i, j, k]) hr (by simp) fun m hm => by
  rcases (by simpa using hm : m = i ∨ m = j ∨ m = k) with rfl | rfl | rfl
  ·unfold wpOp
   rw [hi]
   simp only [hw, if_true]
   exact .inl (h _ fun a' w' h1 h2 => ⟨h1, h2⟩)
  ·unfold wpOp
   rw [hj]
   simp only [hw', if_true]
   exact .inl (h' _ fun a' w' h1 h2 => ⟨h1, h2⟩)
  ·unfold wpOp
   rw [hk]
   simp only [hw2, if_true]
   exact .inl (h2 _ fun a' w' h1 h2 => ⟨h1, h2⟩)
end Go.PH
end
section
namespace Go.PH
open Go.RowKit
section
variable {P : Program} {ops : Array Oper} {Q : Exit → Act → World → Prop} {S S2 : World → Prop} {fuel : Nat} {listed : Array Bool} {a : Act} {w : World}
structure PanW (Q : Exit → Act → World → Prop) : Prop where
 h : ∀ (d : Option Tmp) (v : Value) (c : List PanicEntry) (a : Act) (w : World), Q (.panic c) (a.put d v) w → Q (.panic c) a w
theorem zz (P : Program) (fn : Func) (R : Ending → World → Prop) : PanW (bodyPost P fn R) := ⟨fun d v c a w h => ⟨by cases d <;> exact h.1, h.2⟩⟩
theorem zC {K : Act → World → Prop} (h : PanW Q) : PanW (Exit.then K Q) := ⟨fun d v c a w hh => h.h d v c a w hh⟩
theorem zu {id : Nat} (h : PanW Q) : PanW (Exit.inBlock id Q) := ⟨fun d v c a w hh => h.h d v c a w hh⟩
theorem Jv (S : World → Prop) {id : Nat} (hm : P.follows .mixedOrders = true) (h : wpAnyH P .any ops Q S ops.size (Array.replicate ops.size false) a w.drew) : (Code.region id ops true).wp P Q a w := wp_region_held hm h
theorem zH (hQ : PanW Q) (i : Nat) {o : Oper} {v : Value} (hi : ops[i]? = some o) (hs : Region.noSelect ops = true) (hf : Region.free .any ops listed i = true) (hr : (Region.ready .any ops listed).contains i = true)
  (hS : S w) (hw : Region.wanted o (yielded ops a.tmps) = true) (hy : ∀ w, S w → (execOp a.eval o).run P w = .ok (.value v) w)
  (h : wpAnyH P .any ops Q S fuel (listed.setIfInBounds i true) (a.put o.dst v) w) : wpAnyH P .any ops Q S (fuel + 1) listed a w :=
 wpAnyH_take hi hs hf hr (fun c a w h => hQ.h _ _ c a w h) (.inl ⟨hw, hy⟩) hS h
theorem xF (hr : Region.ready .any ops listed = []) (h : Q .normal a w) : wpAnyH P .any ops Q S fuel listed a w := wpAnyH_done hr h _
end
section
variable {α : Type} {f : α → List Value} {sz : Nat} {w : World} {base e n c : Nat} {A : Option Addr} {l : List α}
theorem qT (h : RecShape f sz) {z : α} (ho : Own w base e sz A (l.length + 1) c (rowC f (l ++ [z]))) : ∃ g cur, A = some ⟨g, 0, none⟩ ∧ base ≤ g ∧ Box w g e cur ∧ l.length * sz + sz ≤ cur.size ∧
  ∀ (x : α) (w' : World) (cs' : Array Value), cs' = (cur.toList.take (l.length * sz) ++ f x ++ cur.toList.drop (l.length * sz + (f x).length)).toArray → Box w' g e cs' → Own w' base e sz A (l.length + 1) c (rowC f (l ++ [x])) := by
 unfold Own World.ownsRow at ho
 obtain ⟨hl, h1⟩ := ho
 rcases h1 with ⟨_, h0⟩ | ⟨g, cap, cur, hv, hb, hh, hnc, hcm, hsz, ht⟩
 ·omega
 injection hv with h1 h2 h3
 subst h1 h3
 have hcs : (l.length + 1) * sz ≤ cur.size := by rw [hsz]; exact Nat.mul_le_mul_right _ hnc
 have hle : l.length * sz + sz ≤ cur.size := by rw [← Nat.succ_mul]; exact hcs
 refine ⟨g, cur, rfl, hb, hh, hle, fun x w' cs' e hb' => ?_⟩
 have hfx : (f x).length = sz := h.len x
 have ht1 : cur.toList.take (l.length * sz) = rowC f l := by
  have h3 := congrArg (List.take (l.length * sz)) ht
  rw [List.take_take, Nat.min_eq_left (by rw [Nat.succ_mul]; omega), yR] at h3
  rw [h3, List.take_append_of_le_length (by rw [qp h]; exact Nat.le_refl _), List.take_of_length_le (by rw [qp h]; exact Nat.le_refl _)]
 have hl2 : cs'.size = cur.size := by
  rw [e]
  simp only [List.size_toArray, List.length_append, List.length_take, List.length_drop, Array.length_toList, hfx]
  omega
 unfold Own World.ownsRow
 refine ⟨by rw [qp h, List.length_append]; rfl, .inr ⟨g, c, cs', rfl, hb, hb', hnc, hcm, by rw [hl2, hsz], ?_⟩⟩
 rw [e, yR]
 simp only [List.toList_toArray]
 rw [List.take_append_of_le_length (by simp only [List.length_append, List.length_take, Array.length_toList, hfx, Nat.succ_mul]; omega), ht1, List.take_of_length_le (by rw [List.length_append, qp h, hfx, Nat.succ_mul]; exact Nat.le_refl _)]
 simp [rowC]
theorem jC {t : TypeId} {cs : Array Value} {g : Nat} (hb : Box w g t cs) (hs : cs.size = n * sz) (hm : n ≤ maxLen) : Rd w w.heap.size sz (some ⟨g, 0, none⟩) n n cs.toList :=
 ⟨by simpa using hs, Nat.le_refl _, hm, fun _ => ⟨g, 0, rfl, hb.lt, fun j u hu => by rw [Nat.zero_add]; exact hb.cell (by simpa using hu)⟩⟩
end
end Go.PH
end
section
namespace Go.PH
open Go.RowKit Go.ChangeShapes Go.WideShapes Go.ChangeAt
open Go.ChangeMaps (open_string shut_string)
section
variable {H : Type} {enc : TypeId × Value → H} {P : Program} {W W' : World}
theorem jr (hl : laidOutB P = true) (bel : Below W.heap.size W W') : ∀ {ts : List TypeId} {vs : List Value} {ds : List (DataW H)} {ps : List MemPlace}, (ts.all fun t => P.readableRec t && decide (t < P.types.size)) = true →
  (∀ x ∈ ps, x.block < W.heap.size) → DataW.TrodAll enc P W 0 (fun _ => true) true ts vs ds ps → DataW.TrodAll enc P W' 0 (fun b => decide (b < W.heap.size)) true ts vs ds ps
 | [], [], [], _, _, _, h => h
 | [], _ :: _, _, _, _, _, h => h.elim
 | [], [], _ :: _, _, _, _, h => h.elim
 | _ :: _, [], _, _, _, _, h => h.elim
 | _ :: _, _ :: _, [], _, _, _, h => h.elim
 | t :: ts, v :: vs, d :: ds, ps, ha, hlt, h => by
  obtain ⟨p, q, hp, hq, rfl⟩ := h
  simp only [List.all_cons, Bool.and_eq_true, decide_eq_true_eq] at ha
  exact ⟨p, q, Below.trod hl ha.1.1 ha.1.2 hp bel (fun x hx => hlt x (by simp [hx])), jr hl bel (by simpa using ha.2) (fun x hx => hlt x (by simp [hx])) hq, rfl⟩
theorem J8 {fn : Func} {s : ChangeSpec} {args : Array Value} {ds gs : List (DataW H)} {before : List MemPlace} {bt : TypeId} (hvars : s.vars = [])
  (hW : DataW.Whole enc P fn.params.toList s.vars false W args.toList ds gs before) (hl : laidOutB P = true) (hts : (fn.params.toList.all fun t => P.readableRec t && decide (t < P.types.size)) = true)
  (hrt : fn.resultTypes = #[bt]) (hb : P.underlying bt = some .bool) (hfn : ∀ ds : List (DataW H), ds.length = fn.params.size → s.fn H ds = { results := [.lit (.bool true)], args := ds }) (bel : Below W.heap.size W W') :
  s.post enc P fn false true false false W args (.bool true) W' := by
 have hW' := hW
 obtain ⟨p, q, hA, hV, rfl, hfz, hnd⟩ := hW
 rw [hvars] at hV
 obtain ⟨rfl, rfl⟩ := trodVars_none hV
 have hlen : ∀ {ts : List TypeId} {vs : List Value} {ds : List (DataW H)} {ps : List MemPlace}, DataW.TrodAll enc P W 0 (fun _ => true) true ts vs ds ps → ds.length = ts.length := by
  intro ts
  induction ts with
  | nil => intro vs ds ps h; cases vs <;> cases ds <;> simp_all [DataW.TrodAll]
  | cons t ts ih =>
   intro vs ds ps h
   obtain ⟨v, vs', d, ds', p, q, rfl, rfl, rfl, _, h⟩ := trodAll_cons h
   simp [ih h]
 have e : s.fn H (ds ++ []) = { results := [.lit (.bool true)], args := ds } := by rw [List.append_nil]; exact hfn ds (by rw [hlen hA]; simp)
 refine ⟨ds, [], _, [], p, [], hW', ?_, ?_, ?_, bel.frame _, fun h => by cases h⟩
 ·rw [e, hrt]
  exact ⟨[], [], shut_bool hb true, rfl, rfl⟩
 ·rw [e]
  exact jr hl bel hts (fun x hx => hW'.lt x (by simp [hx])) hA
 ·rw [e, hvars]
  exact rfl
end
end Go.PH
end
section
namespace Go.PH
open Go.RowKit Go.ChangeShapes Go.WideShapes Go.ChangeAt Go.Deep
section
variable {H : Type} {enc : TypeId × Value → H} {P : Program} {W : World}
def Reader (enc : TypeId × Value → H) (P : Program) (W : World) (t : TypeId) {α : Type} (R : α → List Value → Prop) : Prop :=
 ∀ (fuel : Nat) (cs : List Value) (d : DataW H) (p : List MemPlace), DataW.trod enc P W 0 (fun _ => true) true fuel t cs = some (d, p) → (∀ x ∈ d.weights P t, x ≤ reachBytes) → ∃ a, R a cs
def RStr (l : List UInt8) (cs : List Value) : Prop := cs = [.string (str l)] ∧ l.length ≤ 140737488351232
def zag (W : World) (size bytes : Nat) {α : Type} (R : α → List Value → Prop) (L : List α) (cs : List Value) : Prop :=
 ∃ A n c xs, cs = [.slice A n c] ∧ Rd W W.heap.size size A n c xs ∧ L.length = n ∧ c * bytes ≤ 140737488351232 ∧ ∀ i (h : i < L.length), R L[i] ((xs.drop (i * size)).take size)
theorem XJ {t : TypeId} (ht : P.underlying t = some .string) : Reader enc P W t RStr := fun fuel cs d p h hw => by
 obtain ⟨s, h1, h2, _⟩ := DataW.trod_string ht h
 obtain ⟨rfl, rfl⟩ : d = _ ∧ p = _ := by simpa using h2
 have := hw s.data.toList.length (by simp [DataW.weights])
 exact ⟨s.data.toList, h1, by simpa [reachBytes] using this⟩
theorem ja {e : TypeId} : ∀ {ds : List (DataW H)} {d : DataW H}, d ∈ ds → ∀ x ∈ d.weights P e, x ∈ DataW.weightsAll P e ds
 | d0 :: ds, d, hd, x, hx => by
  simp only [DataW.weightsAll, List.mem_append]
  rcases List.mem_cons.1 hd with rfl | h
  ·exact .inl hx
  ·exact .inr (ja h x hx)
theorem ZW {t e size bytes : Nat} {α : Type} {R : α → List Value → Prop} (ht : P.underlying t = some (.slice e)) (hc : P.cellsOf e = size) (hby : P.bytesOf e = bytes) (hpos : 0 < size) (hr : Reader enc P W e R) : Reader enc P W t (zag W size bytes R) := fun fuel cs d p h hw => by
 have hlt := DataW.trod_lt fuel _ _ _ h
 rcases open_slice ht h with ⟨rfl, _⟩ | ⟨a, len, cap, m, n, D, Pl, rfl, hb, hl, hm, hmm, hx, hel⟩
 ·exact ⟨[], none, 0, 0, [], rfl, Rd.nil _ _ _ _ (by simp [maxLen]) _, rfl, by omega, fun i h => by simp at h⟩
 simp only [if_true] at hmm
 have hmm' := hmm.symm
 subst hmm'
 obtain ⟨rfl, rfl⟩ : d = _ ∧ p = _ := by simpa using hx
 have hcap : cap * bytes ≤ 140737488351232 := by
  have := hw (((((List.range len).map D).length) + (((List.range (cap - len)).map fun j => D (len + j)).length)) * P.bytesOf e) (by simp [DataW.weights, ht])
  simp only [List.length_map, List.length_range, hby, reachBytes] at this
  rwa [show len + (cap - len) = cap by omega] at this
 have each : ∀ i, i < len → ∃ y : α × List Value, W.cells? 0 (a.add (i * P.cellsOf e)) (P.cellsOf e) = some y.2 ∧ R y.1 y.2 := fun i hi => by
  obtain ⟨cs', h1, h2⟩ := hel i (by omega)
  obtain ⟨y, hy⟩ := hr _ _ _ _ h2 (fun x hx => hw x (by
   simp only [DataW.weights, ht, List.mem_cons, List.mem_append]
   exact .inr (.inl (ja (List.mem_map.2 ⟨i, List.mem_range.2 hi, rfl⟩) x hx))))
  exact ⟨(y, cs'), h1, hy⟩
 obtain ⟨Y, hY⟩ : ∃ Y : Nat → Option (α × List Value), ∀ i, i < len → ∃ y, Y i = some y ∧ W.cells? 0 (a.add (i * P.cellsOf e)) (P.cellsOf e) = some y.2 ∧ R y.1 y.2 :=
  ⟨fun i => if h : i < len then some (each i h).choose else none, fun i hi => ⟨_, dif_pos hi, (each i hi).choose_spec⟩⟩
 by_cases hl0 : len = 0
 ·subst hl0
  exact ⟨[], some a, 0, cap, [], rfl, Rd.nil _ _ _ _ hm _, rfl, hcap, fun i h => by simp at h⟩
 obtain ⟨y0, _⟩ := hY 0 (by omega)
 obtain ⟨Y', hY'⟩ : ∃ Y' : Nat → α × List Value, ∀ i, i < len → Y i = some (Y' i) := ⟨fun i => (Y i).getD y0, fun i hi => by
  obtain ⟨y, hy, _⟩ := hY i hi
  show Y i = some ((Y i).getD y0)
  rw [hy]; rfl⟩
 replace hY : ∀ i, i < len → W.cells? 0 (a.add (i * P.cellsOf e)) (P.cellsOf e) = some (Y' i).2 ∧ R (Y' i).1 (Y' i).2 := fun i hi => by
  obtain ⟨y, hy, h1⟩ := hY i hi
  rw [hY' i hi] at hy
  injection hy with hy
  rw [hy]; exact h1
 clear hY' each
 obtain ⟨Y, rfl⟩ : ∃ Y, Y = Y' := ⟨_, rfl⟩
 have hlenY : ∀ i, i < len → (Y i).2.length = size := fun i hi => by rw [← hc]; exact (World.cells?_some (hY i hi).1).2.1
 have hchunk : ∀ (k : Nat), k ≤ len → ((List.range k).flatMap fun i => (Y i).2).length = k * size ∧ ∀ i, i < k → ((((List.range k).flatMap fun i => (Y i).2).drop (i * size)).take size) = (Y i).2 := by
  intro k
  induction k with
  | zero => intro _; simp
  | succ k ih =>
   intro hk
   obtain ⟨h1, h2⟩ := ih (by omega)
   have hlk := hlenY k (by omega)
   rw [List.range_succ, List.flatMap_append]
   simp only [List.flatMap_cons, List.flatMap_nil, List.append_nil]
   refine ⟨by rw [List.length_append, h1, hlk, Nat.succ_mul], fun i hi => ?_⟩
   rcases Nat.lt_or_ge i k with hik | hik
   ·have : i * size + size ≤ k * size := by rw [← Nat.succ_mul]; exact Nat.mul_le_mul_right _ hik
    rw [List.drop_append_of_le_length (by rw [h1]; omega), List.take_append_of_le_length (by rw [List.length_drop, h1]; omega)]
    exact h2 i hik
   ·obtain rfl : i = k := by omega
    rw [List.drop_append, h1, Nat.sub_self, List.drop_of_length_le (by rw [h1]; exact Nat.le_refl _), List.drop_zero, List.nil_append, List.take_of_length_le (by omega)]
 obtain ⟨hL, hCh⟩ := hchunk len (Nat.le_refl _)
 refine ⟨(List.range len).map fun i => (Y i).1, some a, len, cap, (List.range len).flatMap fun i => (Y i).2, rfl, ⟨hL, hl, hm, fun hn => ?_⟩, by simp, hcap, fun i hi => ?_⟩
 ·obtain ⟨_, _, hcell0⟩ := World.cells?_some (hY 0 hn).1
  have h0 := hcell0 0 (by omega)
  have h0' : W.cell? a = (Y 0).2[0]? := by
   rw [← h0]; congr 1
   simp [Addr.add]
  have hs0 : (Y 0).2[0]? = some ((Y 0).2[0]'(by rw [hlenY 0 hn]; exact hpos)) := List.getElem?_eq_getElem _
  rw [hs0] at h0'
  obtain ⟨b, off, spot⟩ := a
  have hspot : spot = none := World.cell?_spot h0'
  subst hspot
  refine ⟨b, off, rfl, World.block_lt_of_cell? W _ h0', fun j u hu => ?_⟩
  have hj : j < len * size := by rw [← hL]; exact (List.getElem?_eq_some_iff.1 hu).1
  have hq : j / size < len := (Nat.div_lt_iff_lt_mul hpos).2 hj
  have hr' : j % size < size := Nat.mod_lt _ hpos
  have hjj : j / size * size + j % size = j := by rw [Nat.mul_comm]; exact Nat.div_add_mod j size
  obtain ⟨_, _, hcq⟩ := World.cells?_some (hY (j / size) hq).1
  have h3 := hcq (j % size) (by rw [hc]; exact hr')
  rw [hc] at h3
  have h4 : (Y (j / size)).2[j % size]? = some u := by
   rw [← hCh _ hq, List.getElem?_take, if_pos hr', List.getElem?_drop, hjj]; exact hu
  rw [h4] at h3
  rw [← h3]
  congr 1
  unfold Addr.add
  split <;> split <;> simp_all <;> omega
 ·simp only [List.getElem_map, List.getElem_range]
  have hi' : i < len := by simpa using hi
  rw [hCh i hi']
  exact (hY i hi').2
theorem Vz {t : TypeId} {v : Value} {d : DataW H} {ps : List MemPlace} {α : Type} {R : α → List Value → Prop} (hr : Reader enc P W t R) (hd : DataW.Trod enc P W 0 (fun _ => true) true t v d ps)
  {ts : List TypeId} {ds : List (DataW H)} {j : Nat} (hz : (DataW.weightsEach P ts ds).all (· ≤ reachBytes) = true) (ht : ts[j]? = some t) (hdj : ds[j]? = some d) : ∃ a, R a v.cells.toList := by
 obtain ⟨fuel, hf⟩ := hd
 refine hr fuel _ d ps hf fun x hx => ?_
 have := List.all_eq_true.1 hz x (DataW.weights_mem_each ht hdj x hx)
 simpa using this
theorem Ke {t e size bytes : Nat} {v : Value} {d : DataW H} {ps : List MemPlace} {r : Reach} {b0 : Nat} {α : Type} {R : α → List Value → Prop} (ht : P.underlying t = some (.slice e)) (hc : P.cellsOf e = size) (hby : P.bytesOf e = bytes) (hpos : 0 < size) (hr : Reader enc P W e R)
  (hval : Value.okWide P W r b0 t v) (hd : DataW.Trod enc P W 0 (fun _ => true) true t v d ps)
  {ts : List TypeId} {ds : List (DataW H)} {j : Nat} (hz : (DataW.weightsEach P ts ds).all (· ≤ reachBytes) = true) (hts : ts[j]? = some t) (hdj : ds[j]? = some d) :
  ∃ (A : Option Addr) (n c : Nat) (xs : List Value) (L : List α), v = .slice A n c ∧ Rd W W.heap.size size A n c xs ∧ L.length = n ∧ c * bytes ≤ 140737488351232 ∧ ∀ i (h : i < L.length), R L[i] ((xs.drop (i * size)).take size) := by
 obtain ⟨A, n, c, rfl⟩ := okWide_slice ht hval
 obtain ⟨L, A', n', c', xs, h1, h2, h3, h4, h5⟩ := Vz (ZW ht hc hby hpos hr) hd hz hts hdj
 obtain ⟨rfl, rfl, rfl⟩ : A = A' ∧ n = n' ∧ c = c' := by simpa [Value.cells] using h1
 exact ⟨A, n, c, xs, L, rfl, h2, h3, h4, h5⟩
end
end Go.PH
end
section
namespace Go.PH
open Go.RowKit Go.Proofs
theorem slB : SlT Tryz.prog 55 5 1 1 (.int .u8 0) := SlT.mk' Tryz.underlying55 (by kernel_rfl) rfl (by omega)
theorem YV {w : World} {B n c : Nat} {A : Option Addr} {l : List UInt8} (hr : RdB w B A n c l) : (convert 55 9 (.slice A n c)).run Tryz.prog w = .ok (.string (str l)) w :=
 jg Tryz.underlying55 Tryz.underlying9 Tryz.underlying5 hr
end Go.PH
end

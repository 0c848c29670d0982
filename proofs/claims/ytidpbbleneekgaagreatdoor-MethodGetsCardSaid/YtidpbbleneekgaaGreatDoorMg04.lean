/- Texts laid together: SpPush, SpRRight, SpSame, SpSee, SpWalk, SpPut, SpPutR. -/
import Derived.Deep.QuietTactic
import Derived.BigQuiet
import Derived.Laws.StructEq
import Derived.Test.YtidpbbleneekgaaGreatDoorMg01
import Derived.Test.YtidpbbleneekgaaGreatDoorMg02
import Derived.Test.YtidpbbleneekgaaGreatDoorMg03
set_option linter.all false
set_option linter.unusedSimpArgs false
set_option linter.unusedVariables false
section
/- A span put behind an own row. -/
namespace Go.PH
open Go.RowKit Go.Proofs

theorem op_push {W : World} {ops : Array Oper} {o : Oper} {a : Act} {K : Act → World → Prop} {Q : Exit → Act → World → Prop} {s x : Operand} {t t2 e2 base n c g : Nat} {A : Option Addr} {out : List Sp} {fi ti : Int} (hT : SlT Tryz.prog t 113 2 8 (.agg #[.int .u32 0, .int .u32 0])) (h2 : Tryz.prog.underlying t2 = some (.slice e2))
  (ho : o.op = .call { callee := .builtin .append, args := #[s, x], argTypes := #[t, t2] }) (hs : a.eval s = .slice A n c) (hx : a.eval x = .slice (some ⟨g, 0, none⟩) 1 1) (hg : g = W.heap.size)
  (f u : Nat) (hf : fi = (f : Int)) (hu : ti = (u : Int)) (hown : OwnS W base A n c out) (hn : n ≤ 1000000000) (hbase : base ≤ W.heap.size)
  (h : ∀ A2 c2 w', OwnS w' base A2 (n + 1) c2 (out ++ [(f, u)]) → W.grownBy w' (blk A) → (blk A2 = blk A ∨ ∀ g, blk A2 = some g → W.heap.size ≤ g) → Below base W w' → K (a.put o.dst (.slice A2 (n + 1) c2)) w') :
  o.wp Tryz.prog a (W.alloc (.cells #[.int .u32 fi, .int .u32 ti] 113)) K Q := by
 subst hg hf hu
 have hlit := own_lit (w := W) base #[.int .u32 (f : Int), .int .u32 (u : Int)] 113 1 hbase (by simp [maxLen]) rfl (size := 2) (by omega)
 have ho2 : OwnS (W.alloc (.cells #[.int .u32 (f : Int), .int .u32 (u : Int)] 113)) base A n c out := hown.alloc _
 refine op_app (ops := ops) hT h2 ho hs hx ho2 hlit.rd (spCells_one [(f, u)]) (by omega) (by simp [maxLen]; omega) (by simp; omega) fun A2 c2 w' a1 a2 a3 => ?_
 have e : spCells out ++ (#[.int .u32 (f : Int), .int .u32 (u : Int)] : Array Value).toList = spCells (out ++ [(f, u)]) := by rw [spCells_app]; rfl
 rw [e] at a1
 have hB2 : Below base W (W.alloc (.cells #[.int .u32 (f : Int), .int .u32 (u : Int)] 113)) := (Below.refl _ _).alloc hbase _
 have hgr : W.grownBy w' (blk A) := ⟨a2.os, a2.tape, a2.output, Nat.le_trans hB2.size a2.size, fun k hk hne => (a2.block k (by simp; omega) hne).trans (((Below.refl W.heap.size W).alloc (Nat.le_refl _) _).block k hk)⟩
 refine h A2 c2 w' a1 hgr ?_ ((Below.refl _ _).grown hgr hbase (fun g hg => (hown.blk_lt hg).1))
 rcases a3 with h3 | h3
 ·exact .inl h3
 ·refine .inr fun g hg => ?_
  rw [h3] at hg
  simp at hg; omega
theorem wp_push {W : World} {ops : Array Oper} {rest : List Oper} {o : Oper} {a : Act} {Q : Exit → Act → World → Prop} {s x : Operand} {t t2 e2 base n c g : Nat} {A : Option Addr} {out : List Sp} {fi ti : Int} (hT : SlT Tryz.prog t 113 2 8 (.agg #[.int .u32 0, .int .u32 0])) (h2 : Tryz.prog.underlying t2 = some (.slice e2)) (hw : Region.wanted o (yielded ops a.tmps) = true)
  (ho : o.op = .call { callee := .builtin .append, args := #[s, x], argTypes := #[t, t2] }) (hs : a.eval s = .slice A n c) (hx : a.eval x = .slice (some ⟨g, 0, none⟩) 1 1) (hg : g = W.heap.size)
  (f u : Nat) (hf : fi = (f : Int)) (hu : ti = (u : Int)) (hown : OwnS W base A n c out) (hn : n ≤ 1000000000) (hbase : base ≤ W.heap.size)
  (h : ∀ A2 c2 w', OwnS w' base A2 (n + 1) c2 (out ++ [(f, u)]) → W.grownBy w' (blk A) → (blk A2 = blk A ∨ ∀ g, blk A2 = some g → W.heap.size ≤ g) → Below base W w' → wpList Tryz.prog ops Q rest (a.put o.dst (.slice A2 (n + 1) c2)) w') :
  wpList Tryz.prog ops Q (o :: rest) a (W.alloc (.cells #[.int .u32 fi, .int .u32 ti] 113)) := by
 refine BigFrame.wpList_want hw fun K hK => ?_
 exact op_push (ops := ops) hT h2 ho hs hx hg f u hf hu hown hn hbase fun A2 c2 w' a1 a2 a3 a4 => hK _ _ (h A2 c2 w' a1 a2 a3 a4)
end Go.PH
end
section
/- Whether spans stand right, as the document says: its walk. -/
namespace Go.PH
open Go.RowKit Go.Proofs

set_option maxRecDepth 20000 in
theorem rright_any (A : Option Addr) (n c : Nat) (l : List Sp) (B : Nat) (w : World) (hr : RdS w B A n c l) (hb : spOK 4294967296 l) (hB : B ≤ w.heap.size) (hn : n ≤ 140737488355328) :
  Calls Tryz.prog 94 #[.slice A n c] w fun e w' => e = .returned (.bool (spRight l)) ∧ Below w.heap.size w w' := by
 have hl := hr.length
 go_enter Tryz.func94, Tryz.ntmps94
 go_wp2_with (with_reducible refine h_A ?_)
 go_loopw [3] (fun s wr => ∃ (k : Nat), k ≤ n ∧ s = .int .i64 k ∧ spRight (l.take k) = true ∧ Below w.heap.size w wr) (fun s _ => n - (RowKit.intOf s).toNat)
 case atStart => exact ⟨0, by omega, rfl, by simp [spRight], Below.refl _ _⟩
 case round =>
  obtain ⟨k, hk, rfl, hrk, hBr⟩ := hrel
  by_cases hlt : k < n
  ·have hrr := hr.below (hBr.mono hB)
   obtain ⟨b, off, rfl, hbB, hkl, hc0, hc1⟩ := RdS.at_k hrr hlt
   have hbk := hb l[k] (List.getElem_mem hkl)
   have HN := Lib.hid (spNext_iff hkl)
   have hcp := RdS.at_p hrr hk
   have hbp := (spOK_getD hb (k - 1) (by omega)).2
   generalize (l.getD (k - 1) (0, 0)).2 = t0 at *
   generalize l[k].1 = f at *
   generalize l[k].2 = t at *
   by_cases h1 : t < f
   ·have hd : (t : Int) < (f : Int) := by omega
    have hno := spRight_no hkl hrk (by rw [HN.out]; omega)
    go_wp2_with (with_reducible refine h_A ?_)
    go_quiet (fail)
    go_wp2_with (with_reducible refine h_A ?_)
    go_ret
    rw [hno]
    exact ⟨rfl, below_drewN hBr _⟩
   ·have hd : decide ((t : Int) < (f : Int)) = false := by simp; omega
    rcases Nat.eq_zero_or_pos k with hk0 | h0
    ·have hd0 : decide (0 < k) = false := by simp; omega
     have hy := spRight_yes hkl hrk (by rw [HN.out]; omega)
     clear hk0
     go_wp2_with (with_reducible refine h_A ?_)
     go_quiet (fail)
     go_wp2_with (with_reducible refine h_A ?_)
     go_quiet (fail)
     go_wp2_with (with_reducible refine h_A ?_)
     exact ⟨⟨k + 1, by omega, by go_num, hy, by first | exact below_drewN hBr _ | exact below_drewN (below_drewN hBr _) _⟩, by simp [RowKit.intOf]; omega⟩
    ·have hd0 : (0 : Int) < (k : Int) := by omega
     obtain ⟨b', off', e', _, hc2⟩ := hcp h0
     obtain ⟨rfl, rfl⟩ : b = b' ∧ off = off' := by simpa using e'
     clear e' hcp
     have hw1 : IntKind.i64.wrap ((k : Int) - 1) = ((k - 1 : Nat) : Int) := by rw [IntWalk.i64_in _ ⟨by omega, by omega⟩]; omega
     have hlt1 : ((k - 1 : Nat) : Int) < (n : Int) := by omega
     by_cases h2 : f < t0 + 2
     ·have hd1 : (f : Int) < (t0 : Int) + 2 := by omega
      have hno := spRight_no hkl hrk (by rw [HN.out]; omega)
      go_wp2_with (with_reducible refine h_A ?_)
      go_quiet (fail)
      go_wp2_with (with_reducible refine h_A ?_)
      go_quiet (fail)
      go_wp2_with (with_reducible refine h_A ?_)
      go_ret
      rw [hno]
      exact ⟨rfl, by first | exact below_drewN hBr _ | exact below_drewN (below_drewN hBr _) _⟩
     ·have hd1 : decide ((f : Int) < (t0 : Int) + 2) = false := by simp; omega
      have hy := spRight_yes hkl hrk (by rw [HN.out]; omega)
      go_wp2_with (with_reducible refine h_A ?_)
      go_quiet (fail)
      go_wp2_with (with_reducible refine h_A ?_)
      go_quiet (fail)
      go_wp2_with (with_reducible refine h_A ?_)
      exact ⟨⟨k + 1, by omega, by go_num, hy, by first | exact below_drewN hBr _ | exact below_drewN (below_drewN hBr _) _⟩, by simp [RowKit.intOf]; omega⟩
  ·obtain rfl : k = n := by omega
   go_wp2_with (with_reducible refine h_A ?_)
   go_ret
   rw [← hl, List.take_length] at hrk
   rw [hrk]
   exact ⟨rfl, hBr⟩
end Go.PH
end
section
/- The walks of the reference's Copy and Same of spans. -/
namespace Go.PH
open Go.RowKit Go.Proofs

theorem span_fields : Tryz.prog.underlying 113 = some (.struct (Tryz.prog.fieldsOf 113)) := by kernel_rfl
theorem span_stood : Tryz.prog.stoodInHeld 113 = false := by kernel_rfl
theorem span_guard : Tryz.prog.eqGuardType Tryz.prog.depth 113 = false := by kernel_rfl
theorem span_neq (f t f' t' : Nat) (w : World) : (binOp .neq 113 (.agg #[.int .u32 f, .int .u32 t]) (.agg #[.int .u32 f', .int .u32 t'])).run Tryz.prog w = .ok (.bool (!decide ((f, t) = (f', t')))) w := by
 rw [run_neq_struct, run_equalIn_struct w 9999 113 _ _ span_fields span_stood]
 simp only [Program.fieldsOf, Tryz.underlying113]
 have hb : (f, t) = (f', t') ↔ f = f' ∧ t = t' := by simp
 have hd : decide ((f, t) = (f', t')) = (((f : Int) == (f' : Int)) && ((t : Int) == (t' : Int))) := by
  rw [Bool.eq_iff_iff]; simp; omega
 rw [hd]
 cases h1 : ((f : Int) == (f' : Int)) <;> cases h2 : ((t : Int) == (t' : Int)) <;> simp [Op.eqFields, part, run_equalIn_int _ 9998 42 .u32 .u32 _ _ Tryz.underlying42, h1, h2, beq_iff_eq, Result.andThen, typeInfo, sizeOf]

set_option maxRecDepth 20000 in
theorem ssame_any (A : Option Addr) (n c : Nat) (l : List Sp) (A' : Option Addr) (n' c' : Nat) (l' : List Sp) (B : Nat) (w : World) (hr : RdS w B A n c l) (hr' : RdS w B A' n' c' l') (hB : B ≤ w.heap.size) (hn : n ≤ 140737488355328) (hn' : n' ≤ 140737488355328) :
  Calls Tryz.prog 57 #[.slice A n c, .slice A' n' c'] w fun e w' => e = .returned (.bool (decide (l = l'))) ∧ Below w.heap.size w w' := by
 have hl := hr.length
 have hl' := hr'.length
 by_cases hnn : n = n'
 ·subst hnn
  have h0 : (((n : Nat) : Int) != ((n : Nat) : Int)) = false := by simp
  go_enter Tryz.func57, Tryz.ntmps57
  go_wp2_with (with_reducible refine h_A ?_)
  go_loopw [5] (fun s wr => ∃ (k : Nat), k ≤ n ∧ s = .int .i64 k ∧ l.take k = l'.take k ∧ Below w.heap.size w wr) (fun s _ => n - (RowKit.intOf s).toNat)
  case atStart => exact ⟨0, by omega, rfl, by simp, Below.refl _ _⟩
  case round =>
   obtain ⟨k, hk, rfl, hrk, hBr⟩ := hrel
   by_cases hlt : k < n
   ·obtain ⟨b, off, rfl, hbB, hkl, hc0, hc1⟩ := RdS.at_k (hr.below (hBr.mono hB)) hlt
    obtain ⟨b', off', rfl, hbB', hkl', hc0', hc1'⟩ := RdS.at_k (hr'.below (hBr.mono hB)) hlt
    have HT := Lib.hid (List.take_succ_eq_append_getElem hkl)
    have HT' := Lib.hid (List.take_succ_eq_append_getElem hkl')
    have HE : Hid (l = l' → l[k] = l'[k]) := Lib.hid (fun h => by subst h; rfl)
    have HK := Lib.hid hrk
    clear hrk
    generalize l[k] = x at *
    generalize l'[k] = x' at *
    obtain ⟨f, t⟩ := x
    obtain ⟨f', t'⟩ := x'
    have hgd := fun x y => run_eqGuard_agg (P := Tryz.prog) wr .neq 113 x y #[.int .u32 f, .int .u32 t] #[.int .u32 f', .int .u32 t'] span_guard
    by_cases hxx : (f, t) = (f', t')
    ·have hne : ∀ w, (binOp .neq 113 (.agg #[.int .u32 f, .int .u32 t]) (.agg #[.int .u32 f', .int .u32 t'])).run Tryz.prog w = .ok (.bool false) w := fun w => by rw [span_neq, decide_eq_true hxx]; rfl
     have hy : l.take (k + 1) = l'.take (k + 1) := by rw [HT.out, HT'.out, HK.out, hxx]
     clear hxx
     go_wp2_with (with_reducible refine h_A ?_)
     go_quiet (fail)
     go_wp2_with (with_reducible refine h_A ?_)
     exact ⟨⟨k + 1, by omega, by go_num, hy, below_drewN hBr _⟩, by simp [RowKit.intOf]; omega⟩
    ·have hne : ∀ w, (binOp .neq 113 (.agg #[.int .u32 f, .int .u32 t]) (.agg #[.int .u32 f', .int .u32 t'])).run Tryz.prog w = .ok (.bool true) w := fun w => by rw [span_neq, decide_eq_false hxx]; rfl
     have hno : decide (l = l') = false := by
      have := HE.out
      simp only [decide_eq_false_iff_not]
      exact fun h => hxx (this h)
     clear hxx
     go_wp2_with (with_reducible refine h_A ?_)
     go_quiet (fail)
     go_wp2_with (with_reducible refine h_A ?_)
     go_ret
     rw [hno]
     exact ⟨rfl, below_drewN hBr _⟩
   ·obtain rfl : k = n := by omega
    rw [← hl, List.take_length, hl, ← hl', List.take_length] at hrk
    subst hrk
    go_wp2_with (with_reducible refine h_A ?_)
    go_ret
    exact ⟨by simp, hBr⟩
 ·have h0 : (((n : Nat) : Int) != ((n' : Nat) : Int)) = true := by simp; omega
  have hne : decide (l = l') = false := by
   simp; rintro rfl; omega
  go_enter Tryz.func57, Tryz.ntmps57
  go_wp2_with (with_reducible refine h_A ?_)
  go_ret
  rw [hne]
  exact ⟨rfl, Below.refl _ _⟩
end Go.PH
end
section
/- Reading rows of spans. -/
namespace Go.PH
open Go.RowKit Go.Proofs Go.ChangeShapes Go.WideShapes Go.ChangeAt Go.Deep
variable {H : Type} {enc : TypeId × Value → H} {W : World}

def RSpan (a : Sp) (cs : List Value) : Prop := cs = sp2 a ∧ a.1 < 4294967296 ∧ a.2 < 4294967296
theorem spCells_of : ∀ (L : List Sp) (xs : List Value), xs.length = L.length * 2 → (∀ i (h : i < L.length), RSpan L[i] ((xs.drop (i * 2)).take 2)) → xs = spCells L ∧ spOK 4294967296 L
 | [], xs, hl, _ => by
  have := List.eq_nil_of_length_eq_zero (by simpa using hl)
  subst this
  exact ⟨rfl, fun z hz => by cases hz⟩
 | a :: L, xs, hl, h => by
  rcases xs with _ | ⟨x, _ | ⟨y, xs⟩⟩
  ·simp at hl
  ·simp at hl; omega
  ·have h0 := h 0 (by simp)
   obtain ⟨e, b1, b2⟩ := h0
   simp [sp2] at e
   obtain ⟨i1, i2⟩ := spCells_of L xs (by simp at hl; omega) (fun i hi => by
    have := h (i + 1) (by simp; omega)
    simpa [Nat.add_mul] using this)
   refine ⟨by rw [e.1, e.2, spCells_cons, i1], fun z hz => ?_⟩
   rcases List.mem_cons.1 hz with rfl | hz
   ·exact ⟨b1, b2⟩
   ·exact i2 z hz
theorem RdS.of {A : Option Addr} {n c B : Nat} {xs : List Value} {L : List Sp} (hr : Rd W B 2 A n c xs) (hL : L.length = n) (hR : ∀ i (h : i < L.length), RSpan L[i] ((xs.drop (i * 2)).take 2)) : RdS W B A n c L ∧ spOK 4294967296 L := by
 obtain ⟨h1, h2⟩ := spCells_of L xs (by rw [hr.len, hL]) hR
 subst h1
 exact ⟨hr, h2⟩
end Go.PH
end
section
/- The walks of spans: Right. -/
namespace Go.PH
open Go.RowKit Go.Proofs

set_option maxRecDepth 20000 in
theorem right_any (A : Option Addr) (n c : Nat) (l : List Sp) (B : Nat) (w : World) (hr : RdS w B A n c l) (hb : spOK 4294967296 l) (hB : B ≤ w.heap.size) (hn : n ≤ 140737488355328) :
  Calls Tryz.prog 101 #[.slice A n c] w fun e w' => e = .returned (.bool (spRight l)) ∧ Below w.heap.size w w' := by
 have hl := hr.length
 go_enter Tryz.func101, Tryz.ntmps101
 go_wp2_with (with_reducible refine h_A ?_)
 go_loopw [7] (fun s wr => ∃ (k : Nat), k ≤ n ∧ s = .int .i64 k ∧ spRight (l.take k) = true ∧ Below w.heap.size w wr) (fun s _ => n - (RowKit.intOf s).toNat)
 case atStart => exact ⟨0, by omega, rfl, by simp [spRight], Below.refl _ _⟩
 case round =>
  obtain ⟨k, hk, rfl, hrk, hBr⟩ := hrel
  by_cases hlt : k < n
  ·have hrr := hr.below (hBr.mono hB)
   obtain ⟨b, off, rfl, hbB, hkl, hc0, hc1⟩ := RdS.at_k hrr hlt
   have hbk := hb l[k] (List.getElem_mem hkl)
   have HN := Lib.hid (spNext_iff hkl)
   have hcp := RdS.at_p hrr hk
   have hbp := (spOK_getD hb (k - 1) (by omega)).2
   generalize (l.getD (k - 1) (0, 0)).2 = t0 at *
   generalize l[k].1 = f at *
   generalize l[k].2 = t at *
   have hB2 : Below w.heap.size w ((wr.alloc (.cells #[.int .u32 (f : Int), .int .u32 (t : Int)] 113))) := hBr.alloc hBr.size _
   by_cases h1 : t < f
   ·have hd : (t : Int) < (f : Int) := by omega
    go_wp2_with (with_reducible refine h_A ?_)
    skip
    go_quiet (fail)
    go_wp2_with (with_reducible refine h_A ?_)
    go_ret
    have e := spRight_no hkl hrk (by rw [HN.out]; omega)
    rw [e]
    exact ⟨rfl, below_drewN hB2 _⟩
   ·have hd : decide ((t : Int) < (f : Int)) = false := by simp; omega
    rcases Nat.eq_zero_or_pos k with hk0 | h0
    ·have hd0 : decide (0 < k) = false := by simp; omega
     have hy := spRight_yes hkl hrk (by rw [HN.out]; omega)
     clear hk0
     go_wp2_with (with_reducible refine h_A ?_)
     skip
     go_quiet (fail)
     go_wp2_with (with_reducible refine h_A ?_)
     exact ⟨⟨k + 1, by omega, by go_num, hy, below_drewN hB2 _⟩, by simp [RowKit.intOf]; omega⟩
    ·have hd0 : (0 : Int) < (k : Int) := by omega
     obtain ⟨b', off', e', _, hc2⟩ := hcp h0
     obtain ⟨rfl, rfl⟩ : b = b' ∧ off = off' := by simpa using e'
     clear e' hcp
     have hbb : b < wr.heap.size := World.block_lt_of_cell? wr _ hc0
     have hc3 := (World.cell?_alloc_past (w := wr) (.cells #[.int .u32 (f : Int), .int .u32 (t : Int)] 113) b (off + (k - 1) * 2 + 1) hbb).trans hc2
     have hw1 : IntKind.i64.wrap ((k : Int) - 1) = ((k - 1 : Nat) : Int) := by rw [IntWalk.i64_in _ ⟨by omega, by omega⟩]; omega
     have hlt1 : ((k - 1 : Nat) : Int) < (n : Int) := by omega
     by_cases h2 : f ≤ t0
     ·have hd1 : (f : Int) ≤ (t0 : Int) := by omega
      go_wp2_with (with_reducible refine h_A ?_)
      skip
      go_quiet (fail)
      go_wp2_with (with_reducible refine h_A ?_)
      go_ret
      have e := spRight_no hkl hrk (by rw [HN.out]; omega)
      rw [e]
      exact ⟨rfl, below_drewN hB2 _⟩
     ·have hd1 : decide ((f : Int) ≤ (t0 : Int)) = false := by simp; omega
      by_cases h3 : t0 + 1 = f
      ·have hd3 : (((t0 : Int) + 1) == (f : Int)) = true := by simp; omega
       have hno := spRight_no hkl hrk (by rw [HN.out]; omega)
       clear h3
       go_wp2_with (with_reducible refine h_A ?_)
       skip
       go_quiet (fail)
       go_wp2_with (with_reducible refine h_A ?_)
       go_ret
       rw [hno]
       exact ⟨rfl, below_drewN hB2 _⟩
      ·have hd3 : (((t0 : Int) + 1) == (f : Int)) = false := by simp; omega
       have hy := spRight_yes hkl hrk (by rw [HN.out]; omega)
       go_wp2_with (with_reducible refine h_A ?_)
       skip
       go_quiet (fail)
       go_wp2_with (with_reducible refine h_A ?_)
       exact ⟨⟨k + 1, by omega, by go_num, hy, below_drewN hB2 _⟩, by simp [RowKit.intOf]; omega⟩
  ·obtain rfl : k = n := by omega
   go_wp2_with (with_reducible refine h_A ?_)
   go_ret
   rw [← hl, List.take_length] at hrk
   rw [hrk]
   exact ⟨rfl, hBr⟩
end Go.PH
end
section
/- The walks of spans' Put and of its reference's. -/
namespace Go.PH
open Go.RowKit Go.Proofs

def spBytes (l : List Sp) : List UInt8 := l.flatMap fun a => be 4 a.1 ++ be 4 a.2
def spPut (l : List Sp) : List UInt8 := if spRight l = true ∧ l.length ≤ 1000 then be 2 (8 * l.length) ++ spBytes l else []
def spPutErr (l : List Sp) : Nat := if spRight l = true then (if l.length ≤ 1000 then 0 else 6) else 30
theorem spBytes_next {l : List Sp} {k : Nat} (hk : k < l.length) : spBytes (l.take (k + 1)) = spBytes (l.take k) ++ be 4 l[k].1 ++ be 4 l[k].2 := by
 unfold spBytes; rw [List.take_succ_eq_append_getElem hk, List.flatMap_append]; simp
theorem spBytes_len (l : List Sp) : (spBytes l).length = 8 * l.length := by
 induction l with
 | nil => rfl
 | cons a l ih =>
  have e : spBytes (a :: l) = be 4 a.1 ++ be 4 a.2 ++ spBytes l := rfl
  rw [e]; simp only [List.length_append, be_length, ih, List.length_cons]; omega
theorem put2 {b : List UInt8} {v : Nat} : puts b v 2 = b ++ be 2 v := puts_yes (by decide)
theorem put4 {b : List UInt8} {v : Nat} : puts b v 4 = b ++ be 4 v := puts_yes (by decide)

set_option maxRecDepth 20000 in
set_option maxHeartbeats 1000000 in
theorem spput_any (A : Option Addr) (n c : Nat) (l : List Sp) (B : Nat) (w : World) (hr : RdS w B A n c l) (hb : spOK 4294967296 l) (hB : B ≤ w.heap.size) (hn : n ≤ 140737488351232) :
  Calls Tryz.prog 66 #[.slice A n c] w fun e w' => ∃ A2 c2, e = .returned (.tuple #[.slice A2 (spPut l).length c2, .int .i64 (spPutErr l)]) ∧ Own w' w.heap.size 5 1 A2 (spPut l).length c2 ((spPut l).map u8v) ∧ Below w.heap.size w w' := by
 have hl := hr.length
 have hra := right_any A n c l B w hr hb hB (by omega)
 cases hright : spRight l
 ·rw [hright] at hra
  have e1 : spPut l = [] := by simp [spPut, hright]
  have e2 : spPutErr l = 30 := by simp [spPutErr, hright]
  rw [e1, e2]
  go_enter Tryz.func66, Tryz.ntmps66
  go_wp2_with (with_reducible refine h_A ?_)
  refine hra.mono ?_
  rintro e w1 ⟨rfl, hB1⟩
  go_wp2_with (with_reducible refine h_A ?_)
  go_ret2
  exact ⟨none, 0, rfl, Own.none_ _ _ _ _, hB1⟩
 ·rw [hright] at hra
  by_cases h1000 : 1000 < n
  ·have e1 : spPut l = [] := by simp [spPut]; omega
   have e2 : spPutErr l = 6 := by simp [spPutErr, hright]; omega
   rw [e1, e2]
   have hd : (1000 : Int) < (n : Int) := by omega
   clear hright e1 e2
   go_enter Tryz.func66, Tryz.ntmps66
   go_wp2_with (with_reducible refine h_A ?_)
   refine hra.mono ?_
   rintro e w1 ⟨rfl, hB1⟩
   go_wp2_with (with_reducible refine h_A ?_)
   go_ret2
   exact ⟨none, 0, rfl, Own.none_ _ _ _ _, hB1⟩
  ·have e1 : spPut l = be 2 (8 * n) ++ spBytes l := by rw [spPut, if_pos ⟨hright, by omega⟩, hl]
   have e2 : spPutErr l = 0 := by rw [spPutErr, if_pos hright, if_pos (by omega)]
   rw [e1, e2]
   have hd : ¬ (1000 : Int) < (n : Int) := by omega
   clear hright e1 e2
   go_enter Tryz.func66, Tryz.ntmps66
   go_wp2_with (with_reducible refine h_A ?_)
   refine hra.mono ?_
   rintro e w1 ⟨rfl, hB1⟩
   have hw8 : IntKind.i64.wrap (8 * (n : Int)) = ((8 * n : Nat) : Int) := by rw [IntWalk.i64_in _ ⟨by omega, by omega⟩]; omega
   have hw9 : IntKind.u64.wrap ((8 * n : Nat) : Int) = ((8 * n : Nat) : Int) := IntWalk.u64_in _ ⟨by omega, by omega⟩
   have hp2 := put_any none 0 0 [] (8 * n) 2 w1 (Rd.nil _ _ _ _ (by simp [maxLen]) _) (by omega) (by omega)
   rw [put2, List.nil_append] at hp2
   obtain ⟨n8, hn8⟩ : ∃ n8, n8 = 8 * n := ⟨_, rfl⟩
   rw [← hn8] at hw8 hw9 hp2
   have HN8 := Lib.hid hn8
   clear hn8
   go_wp2_with (with_reducible refine h_A ?_)
   refine hp2.mono ?_
   rintro e w2 ⟨A2, c2, rfl, ho2, hB2⟩
   have hB12 := hB1.trans (hB2.mono hB1.size)
   have ho2' := ho2.base_le hB1.size
   rw [HN8.out] at ho2'
   rw [be_length] at ho2' ⊢
   clear ho2 hB1 hB2 hp2
   go_wp2_with (with_reducible refine h_A ?_)
   go_loopw [20, 4] (fun s v wr => ∃ (k N c2 : Nat) (A2 : Option Addr) (out : List UInt8), k ≤ n ∧ s = .int .i64 k ∧ v = .slice A2 N c2 ∧ N = 2 + 8 * k ∧ out = be 2 (8 * n) ++ spBytes (l.take k) ∧ Own wr w.heap.size 5 1 A2 N c2 (out.map u8v) ∧ Below w.heap.size w wr) (fun s _ _ => n - (RowKit.intOf s).toNat)
   case atStart => exact ⟨0, 2, c2, A2, be 2 (8 * n), by omega, rfl, rfl, by omega, by simp [spBytes], ho2', hB12⟩
   case round =>
    clear ho2' hB12
    obtain ⟨k, N, c2, A2, out, hk, rfl, rfl, hN, hout, ho, hBr⟩ := hrel
    by_cases hlt : k < n
    ·obtain ⟨b, off, rfl, hbB, hkl, hc0, hc1⟩ := RdS.at_k (hr.below (hBr.mono hB)) hlt
     have hbk := hb l[k] (List.getElem_mem hkl)
     have hnx := spBytes_next hkl
     have HN : Hid (be 2 (8 * n) ++ spBytes (l.take (k + 1)) = (out ++ be 4 l[k].1) ++ be 4 l[k].2) := Lib.hid (by rw [hnx, hout]; simp)
     clear hnx hout
     have HNN := Lib.hid hN
     have hN2 : N ≤ 10000 := by omega
     clear hN
     generalize l[k].1 = f at *
     generalize l[k].2 = t at *
     have hB2 : Below w.heap.size w (wr.alloc (.cells #[.int .u32 (f : Int), .int .u32 (t : Int)] 113)) := hBr.alloc hBr.size _
     have ho2 : Own (wr.alloc (.cells #[.int .u32 (f : Int), .int .u32 (t : Int)] 113)) w.heap.size 5 1 A2 N c2 (out.map u8v) := ho.alloc _
     have hq : (wr.alloc (.cells #[.int .u32 (f : Int), .int .u32 (t : Int)] 113)).drew.cell? ⟨wr.heap.size, 0, none⟩ = some (.int .u32 (f : Int)) ∧ (wr.alloc (.cells #[.int .u32 (f : Int), .int .u32 (t : Int)] 113)).drew.cell? ⟨wr.heap.size, 1, none⟩ = some (.int .u32 (t : Int)) := ⟨World.cell?_alloc_new _ _ _ _, World.cell?_alloc_new _ _ _ _⟩
     go_wp2_with (with_reducible refine h_A ?_)
     have hwf : IntKind.u64.wrap ((f : Nat) : Int) = (f : Int) := IntWalk.u64_in _ ⟨by omega, by omega⟩
     have hwt : IntKind.u64.wrap ((t : Nat) : Int) = (t : Int) := IntWalk.u64_in _ ⟨by omega, by omega⟩
     refine rg_start (fun wx => wx.cell? ⟨wr.heap.size, 0, none⟩ = some (.int .u32 (f : Int)) ∧ wx.cell? ⟨wr.heap.size, 1, none⟩ = some (.int .u32 (t : Int))) (by kernel_rfl) ?_
     refine rg_t 0 hq ?_
     simp only [List.getElem_toArray, List.getElem_cons_zero, Act.put, List.setIfInBounds_toArray, List.set_cons_zero, List.set_cons_succ]
     refine rg_t 1 hq ?_
     simp only [g_S, Act.put]
     refine rg_t 2 hq ?_
     simp only [g_S, Act.put]
     refine rg_t 3 hq ?_
     simp only [g_S, Act.put]
     refine rg_t 5 hq ?_
     simp only [g_S, Act.put]
     refine rg_t 6 hq ?_
     simp only [g_S, Act.put]
     refine rg_t 7 hq ?_
     simp only [g_S, Act.put]
     have hB2d := below_drewN hB2 1
     have hkeep : ∀ w4 : World, Below (wr.alloc (.cells #[.int .u32 (f : Int), .int .u32 (t : Int)] 113)).drew.heap.size (wr.alloc (.cells #[.int .u32 (f : Int), .int .u32 (t : Int)] 113)).drew w4 → w4.cell? ⟨wr.heap.size, 0, none⟩ = some (.int .u32 (f : Int)) ∧ w4.cell? ⟨wr.heap.size, 1, none⟩ = some (.int .u32 (t : Int)) := fun w4 hb =>
      ⟨(hb.cell (p := ⟨wr.heap.size, 0, none⟩) (World.block_lt_of_cell? _ _ hq.1)).trans hq.1, (hb.cell (p := ⟨wr.heap.size, 1, none⟩) (World.block_lt_of_cell? _ _ hq.2)).trans hq.2⟩
     have hp4 := put_any A2 N c2 out f 4 (wr.alloc (.cells #[.int .u32 (f : Int), .int .u32 (t : Int)] 113)).drew ho2.rd.drew (by omega) (by omega)
     have hlo : out.length = N := RdB.length ho.rd
     have hlen4 : (out ++ be 4 f).length = N + 4 := by simp [be_length, hlo]
     have hlen8 : ((out ++ be 4 f) ++ be 4 t).length = N + 8 := by simp [be_length, hlo]
     rw [put4, hlen4] at hp4
     refine rg_one 4 rfl (by kernel_rfl) rfl (fun K hK => ?_)
     go_simp
     refine hp4.mono ?_
     rintro e w4 ⟨A4, c4, rfl, ho4, hB4⟩
     have hq4 := hkeep _ hB4
     have hB24 := hB2d.trans (hB4.mono hB2d.size)
     have ho4' := ho4.base_le hB2d.size
     have hp8 := put_any A4 (N + 4) c4 (out ++ be 4 f) t 4 w4 ho4.rd (by omega) (by omega)
     rw [put4, hlen8] at hp8
     refine hK _ _ hq4 ?_; clear hK K
     refine rg_one 8 rfl (by kernel_rfl) rfl (fun K hK => ?_)
     go_simp
     refine hp8.mono ?_
     rintro e w5 ⟨A5, c5, rfl, ho5, hB5⟩
     have hq5 : w5.cell? ⟨wr.heap.size, 0, none⟩ = some (.int .u32 (f : Int)) ∧ w5.cell? ⟨wr.heap.size, 1, none⟩ = some (.int .u32 (t : Int)) := ⟨(hB5.cell (p := ⟨wr.heap.size, 0, none⟩) (World.block_lt_of_cell? _ _ hq4.1)).trans hq4.1, (hB5.cell (p := ⟨wr.heap.size, 1, none⟩) (World.block_lt_of_cell? _ _ hq4.2)).trans hq4.2⟩
     have hB25 := hB24.trans (hB5.mono hB24.size)
     have ho5' := ho5.base_le hB24.size
     refine hK _ _ hq5 ?_; clear hK K
     refine rg_t 9 hq5 ?_
     simp only [g_S, Act.put]
     refine rg_end (by kernel_rfl) ?_
     go_wp2_with (with_reducible refine h_A ?_)
     have hNN := HNN.out
     exact ⟨⟨k + 1, N + 8, c5, A5, (out ++ be 4 f) ++ be 4 t, by omega, by go_num, rfl, by omega, HN.out.symm, ho5', hB25⟩, by simp [RowKit.intOf]; omega⟩
    ·obtain rfl : k = n := by omega
     have HO : Hid (out = be 2 (8 * k) ++ spBytes l) := Lib.hid (by rw [hout, List.take_of_length_le (by omega)])
     clear hout
     have hlen : (be 2 (8 * k) ++ spBytes l).length = N := by rw [← HO.out]; exact RdB.length ho.rd
     have HL := Lib.hid hlen
     clear hlen
     go_wp2_with (with_reducible refine h_A ?_)
     go_ret2
     rw [HL.out, ← HO.out]
     exact ⟨A2, c2, rfl, ho, hBr⟩
end Go.PH
end
section
/- The walk of Put of spans, the document's. -/
namespace Go.PH
open Go.RowKit Go.Proofs

set_option maxRecDepth 20000 in
set_option maxHeartbeats 1000000 in
theorem rspput_any (A : Option Addr) (n c : Nat) (l : List Sp) (B : Nat) (w : World) (hr : RdS w B A n c l) (hb : spOK 4294967296 l) (hB : B ≤ w.heap.size) (hn : n ≤ 140737488351232) :
  Calls Tryz.prog 73 #[.slice A n c] w fun e w' => ∃ A2 c2, e = .returned (.tuple #[.slice A2 (spPut l).length c2, .int .i64 (spPutErr l)]) ∧ Own w' w.heap.size 5 1 A2 (spPut l).length c2 ((spPut l).map u8v) ∧ Below w.heap.size w w' := by
 have hl := hr.length
 have hra := rright_any A n c l B w hr hb hB (by omega)
 cases hright : spRight l
 ·rw [hright] at hra
  have e1 : spPut l = [] := by simp [spPut, hright]
  have e2 : spPutErr l = 30 := by simp [spPutErr, hright]
  rw [e1, e2]
  go_enter Tryz.func73, Tryz.ntmps73
  go_wp2_with (with_reducible refine h_A ?_)
  refine hra.mono ?_
  rintro e w1 ⟨rfl, hB1⟩
  go_wp2_with (with_reducible refine h_A ?_)
  go_ret2
  exact ⟨none, 0, rfl, Own.none_ _ _ _ _, hB1⟩
 ·rw [hright] at hra
  by_cases h1000 : 1000 < n
  ·have e1 : spPut l = [] := by simp [spPut]; omega
   have e2 : spPutErr l = 6 := by simp [spPutErr, hright]; omega
   rw [e1, e2]
   have hd : (1000 : Int) < (n : Int) := by omega
   clear hright e1 e2
   go_enter Tryz.func73, Tryz.ntmps73
   go_wp2_with (with_reducible refine h_A ?_)
   refine hra.mono ?_
   rintro e w1 ⟨rfl, hB1⟩
   go_wp2_with (with_reducible refine h_A ?_)
   go_ret2
   exact ⟨none, 0, rfl, Own.none_ _ _ _ _, hB1⟩
  ·have e1 : spPut l = be 2 (8 * n) ++ spBytes l := by rw [spPut, if_pos ⟨hright, by omega⟩, hl]
   have e2 : spPutErr l = 0 := by rw [spPutErr, if_pos hright, if_pos (by omega)]
   rw [e1, e2]
   have hd : ¬ (1000 : Int) < (n : Int) := by omega
   clear hright e1 e2
   go_enter Tryz.func73, Tryz.ntmps73
   go_wp2_with (with_reducible refine h_A ?_)
   refine hra.mono ?_
   rintro e w1 ⟨rfl, hB1⟩
   have hw8 : IntKind.i64.wrap (8 * (n : Int)) = ((8 * n : Nat) : Int) := by rw [IntWalk.i64_in _ ⟨by omega, by omega⟩]; omega
   have hw9 : IntKind.u64.wrap ((8 * n : Nat) : Int) = ((8 * n : Nat) : Int) := IntWalk.u64_in _ ⟨by omega, by omega⟩
   have hp2 := rnumber_any (8 * n) 2 w1 (by omega) (by omega)
   obtain ⟨n8, hn8⟩ : ∃ n8, n8 = 8 * n := ⟨_, rfl⟩
   rw [← hn8] at hw8 hw9 hp2
   have HN8 := Lib.hid hn8
   clear hn8
   go_wp2_with (with_reducible refine h_A ?_)
   refine hp2.mono ?_
   rintro e w2 ⟨A2, c2, rfl, ho2, hB2⟩
   have hB12 := hB1.trans (hB2.mono hB1.size)
   have ho2' := ho2.base_le hB1.size
   rw [HN8.out] at ho2'
   clear ho2 hB1 hB2 hp2
   go_wp2_with (with_reducible refine h_A ?_)
   go_loopw [5, 4] (fun s v wr => ∃ (k N c2 : Nat) (A2 : Option Addr) (out : List UInt8), k ≤ n ∧ s = .int .i64 k ∧ v = .slice A2 N c2 ∧ N = 2 + 8 * k ∧ out = be 2 (8 * n) ++ spBytes (l.take k) ∧ Own wr w.heap.size 5 1 A2 N c2 (out.map u8v) ∧ Below w.heap.size w wr) (fun s _ _ => n - (RowKit.intOf s).toNat)
   case atStart => exact ⟨0, 2, c2, A2, be 2 (8 * n), by omega, rfl, rfl, by omega, by simp [spBytes], ho2', hB12⟩
   case round =>
    clear ho2' hB12
    obtain ⟨k, N, c2, A2, out, hk, rfl, rfl, hN, hout, ho, hBr⟩ := hrel
    by_cases hlt : k < n
    ·obtain ⟨b, off, rfl, hbB, hkl, hc0, hc1⟩ := RdS.at_k (hr.below (hBr.mono hB)) hlt
     have hbk := hb l[k] (List.getElem_mem hkl)
     have hnx := spBytes_next hkl
     have HN : Hid (be 2 (8 * n) ++ spBytes (l.take (k + 1)) = (out ++ be 4 l[k].1) ++ be 4 l[k].2) := Lib.hid (by rw [hnx, hout]; simp)
     clear hnx hout
     generalize l[k].1 = f at *
     generalize l[k].2 = t at *
     have hbb : b < wr.heap.size := World.block_lt_of_cell? wr _ hc0
     have HNN := Lib.hid hN
     have hN2 : N ≤ 10000 := by omega
     clear hN
     go_wp2_with (with_reducible refine h_A ?_)
     refine (rnumber_any f 4 wr (by omega) (by omega)).mono ?_
     rintro e w3 ⟨A3, c3, rfl, ho3, hB3⟩
     have hB13 := hBr.trans (hB3.mono hBr.size)
     have hok3 := own_below ho hB3
     go_wp2_with (with_reducible refine h_A ?_)
     refine unhold (wp_app slB rfl rfl rfl rfl hok3 ho3.rd (map_one _) (by omega) (by simp [maxLen]; omega) hB13.size ?_)
     intro A4 c4 w4 ho4 hg4 _
     have hB4 := hB13.grown hg4 hB13.size (fun g hg => (hok3.blk_lt hg).1)
     rw [← List.map_append] at ho4
     have hc1' : w4.cell? ⟨b, off + k * 2 + 1, none⟩ = some (.int .u32 (t : Int)) := by
      have h1 := (hB3.cell (p := ⟨b, off + k * 2 + 1, none⟩) hbb).trans hc1
      refine hg4.cell h1 (fun e => ?_)
      have h2 := (hok3.blk_lt e.symm).1
      have h3 : b < w.heap.size := by omega
      exact absurd h2 (by show ¬ w.heap.size ≤ b; omega)
     clear hg4 hok3 ho3 hc0 hc1
     go_wp2_with (with_reducible refine h_A ?_)
     refine (rnumber_any t 4 w4 (by omega) (by omega)).mono ?_
     rintro e w5 ⟨A5, c5, rfl, ho5, hB5⟩
     have hB15 := hB4.trans (hB5.mono hB4.size)
     have hok5 := own_below ho4 hB5
     go_wp2_with (with_reducible refine h_A ?_)
     refine unhold (wp_app slB rfl rfl rfl rfl hok5 ho5.rd (map_one _) (by omega) (by simp [maxLen]; omega) hB15.size ?_)
     intro A6 c6 w6 ho6 hg6 _
     have hB6 := hB15.grown hg6 hB15.size (fun g hg => (hok5.blk_lt hg).1)
     rw [← List.map_append] at ho6
     go_wp2_with (with_reducible refine h_A ?_)
     have hNN := HNN.out
     exact ⟨⟨k + 1, N + 4 + 4, c6, A6, (out ++ be 4 f) ++ be 4 t, by omega, by go_num, rfl, by omega, HN.out.symm, ho6, hB6⟩, by simp [RowKit.intOf]; omega⟩
    ·obtain rfl : k = n := by omega
     have HO : Hid (out = be 2 (8 * k) ++ spBytes l) := Lib.hid (by rw [hout, List.take_of_length_le (by omega)])
     clear hout
     have hlen : (be 2 (8 * k) ++ spBytes l).length = N := by rw [← HO.out]; exact RdB.length ho.rd
     have HL := Lib.hid hlen
     clear hlen
     go_wp2_with (with_reducible refine h_A ?_)
     go_ret2
     rw [HL.out, ← HO.out]
     exact ⟨A2, c2, rfl, ho, hBr⟩
end Go.PH
end

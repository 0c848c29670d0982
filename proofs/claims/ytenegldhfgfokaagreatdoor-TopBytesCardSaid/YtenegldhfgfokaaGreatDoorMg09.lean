/- Texts laid together: SpPush, SpRRight, SpSame, SpSee, SpWalk, SpPut, SpPutR, SpGetM, SpBackM, Str. -/
import Derived.Deep.QuietTactic
import Derived.BigQuiet
import Derived.Laws.StructEq
import Derived.Lib.ConvBytes
import Derived.Test.YtenegldhfgfokaaGreatDoorMg01
import Derived.Test.YtenegldhfgfokaaGreatDoorMg03
import Derived.Test.YtenegldhfgfokaaGreatDoorMg05
import Derived.Test.YtenegldhfgfokaaGreatDoorMg07
import Derived.Test.YtenegldhfgfokaaGreatDoorMg08
set_option linter.all false
set_option linter.unusedSimpArgs false
set_option linter.unusedVariables false
section
/- A span put behind an own row. -/
namespace Go.PH
open Go.RowKit Go.Proofs

theorem op_push {W : World} {ops : Array Oper} {o : Oper} {a : Act} {K : Act → World → Prop} {Q : Exit → Act → World → Prop} {s x : Operand} {t t2 e2 base n c g : Nat} {A : Option Addr} {out : List Sp} {fi ti : Int} (hT : SlT Tryz.prog t 132 2 8 (.agg #[.int .u32 0, .int .u32 0])) (h2 : Tryz.prog.underlying t2 = some (.slice e2))
  (ho : o.op = .call { callee := .builtin .append, args := #[s, x], argTypes := #[t, t2] }) (hs : a.eval s = .slice A n c) (hx : a.eval x = .slice (some ⟨g, 0, none⟩) 1 1) (hg : g = W.heap.size)
  (f u : Nat) (hf : fi = (f : Int)) (hu : ti = (u : Int)) (hown : OwnS W base A n c out) (hn : n ≤ 1000000000) (hbase : base ≤ W.heap.size)
  (h : ∀ A2 c2 w', OwnS w' base A2 (n + 1) c2 (out ++ [(f, u)]) → W.grownBy w' (blk A) → (blk A2 = blk A ∨ ∀ g, blk A2 = some g → W.heap.size ≤ g) → Below base W w' → K (a.put o.dst (.slice A2 (n + 1) c2)) w') :
  o.wp Tryz.prog a (W.alloc (.cells #[.int .u32 fi, .int .u32 ti] 132)) K Q := by
 subst hg hf hu
 have hlit := own_lit (w := W) base #[.int .u32 (f : Int), .int .u32 (u : Int)] 132 1 hbase (by simp [maxLen]) rfl (size := 2) (by omega)
 have ho2 : OwnS (W.alloc (.cells #[.int .u32 (f : Int), .int .u32 (u : Int)] 132)) base A n c out := hown.alloc _
 refine op_app (ops := ops) hT h2 ho hs hx ho2 hlit.rd (spCells_one [(f, u)]) (by omega) (by simp [maxLen]; omega) (by simp; omega) fun A2 c2 w' a1 a2 a3 => ?_
 have e : spCells out ++ (#[.int .u32 (f : Int), .int .u32 (u : Int)] : Array Value).toList = spCells (out ++ [(f, u)]) := by rw [spCells_app]; rfl
 rw [e] at a1
 have hB2 : Below base W (W.alloc (.cells #[.int .u32 (f : Int), .int .u32 (u : Int)] 132)) := (Below.refl _ _).alloc hbase _
 have hgr : W.grownBy w' (blk A) := ⟨a2.os, a2.tape, a2.output, Nat.le_trans hB2.size a2.size, fun k hk hne => (a2.block k (by simp; omega) hne).trans (((Below.refl W.heap.size W).alloc (Nat.le_refl _) _).block k hk)⟩
 refine h A2 c2 w' a1 hgr ?_ ((Below.refl _ _).grown hgr hbase (fun g hg => (hown.blk_lt hg).1))
 rcases a3 with h3 | h3
 ·exact .inl h3
 ·refine .inr fun g hg => ?_
  rw [h3] at hg
  simp at hg; omega
theorem wp_push {W : World} {ops : Array Oper} {rest : List Oper} {o : Oper} {a : Act} {Q : Exit → Act → World → Prop} {s x : Operand} {t t2 e2 base n c g : Nat} {A : Option Addr} {out : List Sp} {fi ti : Int} (hT : SlT Tryz.prog t 132 2 8 (.agg #[.int .u32 0, .int .u32 0])) (h2 : Tryz.prog.underlying t2 = some (.slice e2)) (hw : Region.wanted o (yielded ops a.tmps) = true)
  (ho : o.op = .call { callee := .builtin .append, args := #[s, x], argTypes := #[t, t2] }) (hs : a.eval s = .slice A n c) (hx : a.eval x = .slice (some ⟨g, 0, none⟩) 1 1) (hg : g = W.heap.size)
  (f u : Nat) (hf : fi = (f : Int)) (hu : ti = (u : Int)) (hown : OwnS W base A n c out) (hn : n ≤ 1000000000) (hbase : base ≤ W.heap.size)
  (h : ∀ A2 c2 w', OwnS w' base A2 (n + 1) c2 (out ++ [(f, u)]) → W.grownBy w' (blk A) → (blk A2 = blk A ∨ ∀ g, blk A2 = some g → W.heap.size ≤ g) → Below base W w' → wpList Tryz.prog ops Q rest (a.put o.dst (.slice A2 (n + 1) c2)) w') :
  wpList Tryz.prog ops Q (o :: rest) a (W.alloc (.cells #[.int .u32 fi, .int .u32 ti] 132)) := by
 refine BigFrame.wpList_want hw fun K hK => ?_
 exact op_push (ops := ops) hT h2 ho hs hx hg f u hf hu hown hn hbase fun A2 c2 w' a1 a2 a3 a4 => hK _ _ (h A2 c2 w' a1 a2 a3 a4)
end Go.PH
end
section
/- Whether spans stand right, as the document says: its walk. -/
namespace Go.PH
open Go.RowKit Go.Proofs

end Go.PH
end
section
/- The walks of the reference's Copy and Same of spans. -/
namespace Go.PH
open Go.RowKit Go.Proofs

theorem span_fields : Tryz.prog.underlying 132 = some (.struct (Tryz.prog.fieldsOf 132)) := by kernel_rfl
theorem span_stood : Tryz.prog.stoodInHeld 132 = false := by kernel_rfl
theorem span_guard : Tryz.prog.eqGuardType Tryz.prog.depth 132 = false := by kernel_rfl
theorem span_neq (f t f' t' : Nat) (w : World) : (binOp .neq 132 (.agg #[.int .u32 f, .int .u32 t]) (.agg #[.int .u32 f', .int .u32 t'])).run Tryz.prog w = .ok (.bool (!decide ((f, t) = (f', t')))) w := by
 rw [run_neq_struct, run_equalIn_struct w 9999 132 _ _ span_fields span_stood]
 simp only [Program.fieldsOf, Tryz.underlying132]
 have hb : (f, t) = (f', t') ↔ f = f' ∧ t = t' := by simp
 have hd : decide ((f, t) = (f', t')) = (((f : Int) == (f' : Int)) && ((t : Int) == (t' : Int))) := by
  rw [Bool.eq_iff_iff]; simp; omega
 rw [hd]
 cases h1 : ((f : Int) == (f' : Int)) <;> cases h2 : ((t : Int) == (t' : Int)) <;> simp [Op.eqFields, part, run_equalIn_int _ 9998 56 .u32 .u32 _ _ Tryz.underlying56, h1, h2, beq_iff_eq, Result.andThen, typeInfo, sizeOf]

end Go.PH
end
section
/- Reading rows of spans. -/
namespace Go.PH
open Go.RowKit Go.Proofs Go.ChangeShapes Go.WideShapes Go.ChangeAt Go.Deep
variable {H : Type} {enc : TypeId × Value → H} {W : World}

def RSpan (a : Sp) (cs : List Value) : Prop := cs = sp2 a ∧ a.1 < 4294967296 ∧ a.2 < 4294967296
theorem cells2s {cs : List Value} {a b : Value} (hl : cs.length = 2) (h0 : (cs.drop 0).take 1 = [a]) (h1 : (cs.drop 1).take 1 = [b]) : cs = [a, b] := by
 match cs, hl with
 | [x, y], _ => simp_all
set_option maxRecDepth 20000 in
theorem reader_span : Reader enc Tryz.prog W 132 RSpan := fun fuel cs d p h hw => by
 obtain ⟨hl, hf⟩ := trod_field Tryz.underlying132 h hw
 obtain ⟨n0, h0, w0⟩ := hf 0 _ rfl (reader_int (k := .u32) Tryz.underlying56)
 obtain ⟨n1, h1, w1⟩ := hf 1 _ rfl (reader_int (k := .u32) Tryz.underlying56)
 have b0 := bounds_u32 w0
 have b1 := bounds_u32 w1
 rw [(by kernel_rfl : Tryz.prog.cellsOf 132 = 2)] at hl
 refine ⟨(n0.toNat, n1.toNat), ?_, by simp; omega, by simp; omega⟩
 simp only [sp2]
 rw [show ((n0.toNat : Nat) : Int) = n0 by omega, show ((n1.toNat : Nat) : Int) = n1 by omega]
 exact cells2s hl h0 h1
theorem spCells_of : ∀ (L : List Sp) (xs : List Value), xs.length = L.length * 2 → (∀ i (h : i < L.length), RSpan L[i] ((xs.drop (i * 2)).take 2)) → xs = spCells L ∧ spOK 4294967296 L
 | [], xs, hl, _ => by
  have := List.eq_nil_of_length_eq_zero (by simpa using hl)
  subst this
  exact ⟨rfl, fun z hz => by cases hz⟩
 | a :: L, xs, hl, h => by
  rcases xs with _ | ⟨x, _ | ⟨y, xs⟩⟩
  ·simp at hl
  ·simp at hl; omega
  ·have h0 := h 0 (by simp)
   obtain ⟨e, b1, b2⟩ := h0
   simp [sp2] at e
   obtain ⟨i1, i2⟩ := spCells_of L xs (by simp at hl; omega) (fun i hi => by
    have := h (i + 1) (by simp; omega)
    simpa [Nat.add_mul] using this)
   refine ⟨by rw [e.1, e.2, spCells_cons, i1], fun z hz => ?_⟩
   rcases List.mem_cons.1 hz with rfl | hz
   ·exact ⟨b1, b2⟩
   ·exact i2 z hz
theorem RdS.of {A : Option Addr} {n c B : Nat} {xs : List Value} {L : List Sp} (hr : Rd W B 2 A n c xs) (hL : L.length = n) (hR : ∀ i (h : i < L.length), RSpan L[i] ((xs.drop (i * 2)).take 2)) : RdS W B A n c L ∧ spOK 4294967296 L := by
 obtain ⟨h1, h2⟩ := spCells_of L xs (by rw [hr.len, hL]) hR
 subst h1
 exact ⟨hr, h2⟩
end Go.PH
end
section
/- The walks of spans: Right. -/
namespace Go.PH
open Go.RowKit Go.Proofs

set_option maxRecDepth 20000 in
theorem right_any (A : Option Addr) (n c : Nat) (l : List Sp) (B : Nat) (w : World) (hr : RdS w B A n c l) (hb : spOK 4294967296 l) (hB : B ≤ w.heap.size) (hn : n ≤ 140737488355328) :
  Calls Tryz.prog 70 #[.slice A n c] w fun e w' => e = .returned (.bool (spRight l)) ∧ Below w.heap.size w w' := by
 have hl := hr.length
 go_enter Tryz.func70, Tryz.ntmps70
 go_wp2_with (with_reducible refine h_A ?_)
 go_loopw [7] (fun s wr => ∃ (k : Nat), k ≤ n ∧ s = .int .i64 k ∧ spRight (l.take k) = true ∧ Below w.heap.size w wr) (fun s _ => n - (RowKit.intOf s).toNat)
 case atStart => exact ⟨0, by omega, rfl, by simp [spRight], Below.refl _ _⟩
 case round =>
  obtain ⟨k, hk, rfl, hrk, hBr⟩ := hrel
  by_cases hlt : k < n
  ·have hrr := hr.below (hBr.mono hB)
   obtain ⟨b, off, rfl, hbB, hkl, hc0, hc1⟩ := RdS.at_k hrr hlt
   have hbk := hb l[k] (List.getElem_mem hkl)
   have HN := Lib.hid (spNext_iff hkl)
   have hcp := RdS.at_p hrr hk
   have hbp := (spOK_getD hb (k - 1) (by omega)).2
   generalize (l.getD (k - 1) (0, 0)).2 = t0 at *
   generalize l[k].1 = f at *
   generalize l[k].2 = t at *
   have hB2 : Below w.heap.size w ((wr.alloc (.cells #[.int .u32 (f : Int), .int .u32 (t : Int)] 132))) := hBr.alloc hBr.size _
   by_cases h1 : t < f
   ·have hd : (t : Int) < (f : Int) := by omega
    go_wp2_with (with_reducible refine h_A ?_)
    skip
    go_quiet (fail)
    go_wp2_with (with_reducible refine h_A ?_)
    go_ret
    have e := spRight_no hkl hrk (by rw [HN.out]; omega)
    rw [e]
    exact ⟨rfl, below_drewN hB2 _⟩
   ·have hd : decide ((t : Int) < (f : Int)) = false := by simp; omega
    rcases Nat.eq_zero_or_pos k with hk0 | h0
    ·have hd0 : decide (0 < k) = false := by simp; omega
     have hy := spRight_yes hkl hrk (by rw [HN.out]; omega)
     clear hk0
     go_wp2_with (with_reducible refine h_A ?_)
     skip
     go_quiet (fail)
     go_wp2_with (with_reducible refine h_A ?_)
     exact ⟨⟨k + 1, by omega, by go_num, hy, below_drewN hB2 _⟩, by simp [RowKit.intOf]; omega⟩
    ·have hd0 : (0 : Int) < (k : Int) := by omega
     obtain ⟨b', off', e', _, hc2⟩ := hcp h0
     obtain ⟨rfl, rfl⟩ : b = b' ∧ off = off' := by simpa using e'
     clear e' hcp
     have hbb : b < wr.heap.size := World.block_lt_of_cell? wr _ hc0
     have hc3 := (World.cell?_alloc_past (w := wr) (.cells #[.int .u32 (f : Int), .int .u32 (t : Int)] 132) b (off + (k - 1) * 2 + 1) hbb).trans hc2
     have hw1 : IntKind.i64.wrap ((k : Int) - 1) = ((k - 1 : Nat) : Int) := by rw [IntWalk.i64_in _ ⟨by omega, by omega⟩]; omega
     have hlt1 : ((k - 1 : Nat) : Int) < (n : Int) := by omega
     by_cases h2 : f ≤ t0
     ·have hd1 : (f : Int) ≤ (t0 : Int) := by omega
      go_wp2_with (with_reducible refine h_A ?_)
      skip
      go_quiet (fail)
      go_wp2_with (with_reducible refine h_A ?_)
      go_ret
      have e := spRight_no hkl hrk (by rw [HN.out]; omega)
      rw [e]
      exact ⟨rfl, below_drewN hB2 _⟩
     ·have hd1 : decide ((f : Int) ≤ (t0 : Int)) = false := by simp; omega
      by_cases h3 : t0 + 1 = f
      ·have hd3 : (((t0 : Int) + 1) == (f : Int)) = true := by simp; omega
       have hno := spRight_no hkl hrk (by rw [HN.out]; omega)
       clear h3
       go_wp2_with (with_reducible refine h_A ?_)
       skip
       go_quiet (fail)
       go_wp2_with (with_reducible refine h_A ?_)
       go_ret
       rw [hno]
       exact ⟨rfl, below_drewN hB2 _⟩
      ·have hd3 : (((t0 : Int) + 1) == (f : Int)) = false := by simp; omega
       have hy := spRight_yes hkl hrk (by rw [HN.out]; omega)
       go_wp2_with (with_reducible refine h_A ?_)
       skip
       go_quiet (fail)
       go_wp2_with (with_reducible refine h_A ?_)
       exact ⟨⟨k + 1, by omega, by go_num, hy, below_drewN hB2 _⟩, by simp [RowKit.intOf]; omega⟩
  ·obtain rfl : k = n := by omega
   go_wp2_with (with_reducible refine h_A ?_)
   go_ret
   rw [← hl, List.take_length] at hrk
   rw [hrk]
   exact ⟨rfl, hBr⟩
end Go.PH
end
section
/- The walks of spans' Put and of its reference's. -/
namespace Go.PH
open Go.RowKit Go.Proofs

def spBytes (l : List Sp) : List UInt8 := l.flatMap fun a => be 4 a.1 ++ be 4 a.2
def spPut (l : List Sp) : List UInt8 := if spRight l = true ∧ l.length ≤ 1000 then be 2 (8 * l.length) ++ spBytes l else []
def spPutErr (l : List Sp) : Nat := if spRight l = true then (if l.length ≤ 1000 then 0 else 6) else 30
theorem spBytes_next {l : List Sp} {k : Nat} (hk : k < l.length) : spBytes (l.take (k + 1)) = spBytes (l.take k) ++ be 4 l[k].1 ++ be 4 l[k].2 := by
 unfold spBytes; rw [List.take_succ_eq_append_getElem hk, List.flatMap_append]; simp
theorem spBytes_len (l : List Sp) : (spBytes l).length = 8 * l.length := by
 induction l with
 | nil => rfl
 | cons a l ih =>
  have e : spBytes (a :: l) = be 4 a.1 ++ be 4 a.2 ++ spBytes l := rfl
  rw [e]; simp only [List.length_append, be_length, ih, List.length_cons]; omega
theorem put2 {b : List UInt8} {v : Nat} : puts b v 2 = b ++ be 2 v := puts_yes (by decide)
theorem put4 {b : List UInt8} {v : Nat} : puts b v 4 = b ++ be 4 v := puts_yes (by decide)

set_option maxRecDepth 20000 in
set_option maxHeartbeats 1000000 in
theorem spput_any (A : Option Addr) (n c : Nat) (l : List Sp) (B : Nat) (w : World) (hr : RdS w B A n c l) (hb : spOK 4294967296 l) (hB : B ≤ w.heap.size) (hn : n ≤ 140737488351232) :
  Calls Tryz.prog 40 #[.slice A n c] w fun e w' => ∃ A2 c2, e = .returned (.tuple #[.slice A2 (spPut l).length c2, .int .i64 (spPutErr l)]) ∧ Own w' w.heap.size 5 1 A2 (spPut l).length c2 ((spPut l).map u8v) ∧ Below w.heap.size w w' := by
 have hl := hr.length
 have hra := right_any A n c l B w hr hb hB (by omega)
 cases hright : spRight l
 ·rw [hright] at hra
  have e1 : spPut l = [] := by simp [spPut, hright]
  have e2 : spPutErr l = 30 := by simp [spPutErr, hright]
  rw [e1, e2]
  go_enter Tryz.func40, Tryz.ntmps40
  go_wp2_with (with_reducible refine h_A ?_)
  refine hra.mono ?_
  rintro e w1 ⟨rfl, hB1⟩
  go_wp2_with (with_reducible refine h_A ?_)
  go_ret2
  exact ⟨none, 0, rfl, Own.none_ _ _ _ _, hB1⟩
 ·rw [hright] at hra
  by_cases h1000 : 1000 < n
  ·have e1 : spPut l = [] := by simp [spPut]; omega
   have e2 : spPutErr l = 6 := by simp [spPutErr, hright]; omega
   rw [e1, e2]
   have hd : (1000 : Int) < (n : Int) := by omega
   clear hright e1 e2
   go_enter Tryz.func40, Tryz.ntmps40
   go_wp2_with (with_reducible refine h_A ?_)
   refine hra.mono ?_
   rintro e w1 ⟨rfl, hB1⟩
   go_wp2_with (with_reducible refine h_A ?_)
   go_ret2
   exact ⟨none, 0, rfl, Own.none_ _ _ _ _, hB1⟩
  ·have e1 : spPut l = be 2 (8 * n) ++ spBytes l := by rw [spPut, if_pos ⟨hright, by omega⟩, hl]
   have e2 : spPutErr l = 0 := by rw [spPutErr, if_pos hright, if_pos (by omega)]
   rw [e1, e2]
   have hd : ¬ (1000 : Int) < (n : Int) := by omega
   clear hright e1 e2
   go_enter Tryz.func40, Tryz.ntmps40
   go_wp2_with (with_reducible refine h_A ?_)
   refine hra.mono ?_
   rintro e w1 ⟨rfl, hB1⟩
   have hw8 : IntKind.i64.wrap (8 * (n : Int)) = ((8 * n : Nat) : Int) := by rw [IntWalk.i64_in _ ⟨by omega, by omega⟩]; omega
   have hw9 : IntKind.u64.wrap ((8 * n : Nat) : Int) = ((8 * n : Nat) : Int) := IntWalk.u64_in _ ⟨by omega, by omega⟩
   have hp2 := put_any none 0 0 [] (8 * n) 2 w1 (Rd.nil _ _ _ _ (by simp [maxLen]) _) (by omega) (by omega)
   rw [put2, List.nil_append] at hp2
   obtain ⟨n8, hn8⟩ : ∃ n8, n8 = 8 * n := ⟨_, rfl⟩
   rw [← hn8] at hw8 hw9 hp2
   have HN8 := Lib.hid hn8
   clear hn8
   go_wp2_with (with_reducible refine h_A ?_)
   refine hp2.mono ?_
   rintro e w2 ⟨A2, c2, rfl, ho2, hB2⟩
   have hB12 := hB1.trans (hB2.mono hB1.size)
   have ho2' := ho2.base_le hB1.size
   rw [HN8.out] at ho2'
   rw [be_length] at ho2' ⊢
   clear ho2 hB1 hB2 hp2
   go_wp2_with (with_reducible refine h_A ?_)
   go_loopw [20, 4] (fun s v wr => ∃ (k N c2 : Nat) (A2 : Option Addr) (out : List UInt8), k ≤ n ∧ s = .int .i64 k ∧ v = .slice A2 N c2 ∧ N = 2 + 8 * k ∧ out = be 2 (8 * n) ++ spBytes (l.take k) ∧ Own wr w.heap.size 5 1 A2 N c2 (out.map u8v) ∧ Below w.heap.size w wr) (fun s _ _ => n - (RowKit.intOf s).toNat)
   case atStart => exact ⟨0, 2, c2, A2, be 2 (8 * n), by omega, rfl, rfl, by omega, by simp [spBytes], ho2', hB12⟩
   case round =>
    clear ho2' hB12
    obtain ⟨k, N, c2, A2, out, hk, rfl, rfl, hN, hout, ho, hBr⟩ := hrel
    by_cases hlt : k < n
    ·obtain ⟨b, off, rfl, hbB, hkl, hc0, hc1⟩ := RdS.at_k (hr.below (hBr.mono hB)) hlt
     have hbk := hb l[k] (List.getElem_mem hkl)
     have hnx := spBytes_next hkl
     have HN : Hid (be 2 (8 * n) ++ spBytes (l.take (k + 1)) = (out ++ be 4 l[k].1) ++ be 4 l[k].2) := Lib.hid (by rw [hnx, hout]; simp)
     clear hnx hout
     have HNN := Lib.hid hN
     have hN2 : N ≤ 10000 := by omega
     clear hN
     generalize l[k].1 = f at *
     generalize l[k].2 = t at *
     have hB2 : Below w.heap.size w (wr.alloc (.cells #[.int .u32 (f : Int), .int .u32 (t : Int)] 132)) := hBr.alloc hBr.size _
     have ho2 : Own (wr.alloc (.cells #[.int .u32 (f : Int), .int .u32 (t : Int)] 132)) w.heap.size 5 1 A2 N c2 (out.map u8v) := ho.alloc _
     have hq : (wr.alloc (.cells #[.int .u32 (f : Int), .int .u32 (t : Int)] 132)).drew.cell? ⟨wr.heap.size, 0, none⟩ = some (.int .u32 (f : Int)) ∧ (wr.alloc (.cells #[.int .u32 (f : Int), .int .u32 (t : Int)] 132)).drew.cell? ⟨wr.heap.size, 1, none⟩ = some (.int .u32 (t : Int)) := ⟨World.cell?_alloc_new _ _ _ _, World.cell?_alloc_new _ _ _ _⟩
     go_wp2_with (with_reducible refine h_A ?_)
     have hwf : IntKind.u64.wrap ((f : Nat) : Int) = (f : Int) := IntWalk.u64_in _ ⟨by omega, by omega⟩
     have hwt : IntKind.u64.wrap ((t : Nat) : Int) = (t : Int) := IntWalk.u64_in _ ⟨by omega, by omega⟩
     refine rg_start (fun wx => wx.cell? ⟨wr.heap.size, 0, none⟩ = some (.int .u32 (f : Int)) ∧ wx.cell? ⟨wr.heap.size, 1, none⟩ = some (.int .u32 (t : Int))) (by kernel_rfl) ?_
     refine rg_t 0 hq ?_
     simp only [List.getElem_toArray, List.getElem_cons_zero, Act.put, List.setIfInBounds_toArray, List.set_cons_zero, List.set_cons_succ]
     refine rg_t 1 hq ?_
     simp only [g_S, Act.put]
     refine rg_t 2 hq ?_
     simp only [g_S, Act.put]
     refine rg_t 3 hq ?_
     simp only [g_S, Act.put]
     refine rg_t 5 hq ?_
     simp only [g_S, Act.put]
     refine rg_t 6 hq ?_
     simp only [g_S, Act.put]
     refine rg_t 7 hq ?_
     simp only [g_S, Act.put]
     have hB2d := below_drewN hB2 1
     have hkeep : ∀ w4 : World, Below (wr.alloc (.cells #[.int .u32 (f : Int), .int .u32 (t : Int)] 132)).drew.heap.size (wr.alloc (.cells #[.int .u32 (f : Int), .int .u32 (t : Int)] 132)).drew w4 → w4.cell? ⟨wr.heap.size, 0, none⟩ = some (.int .u32 (f : Int)) ∧ w4.cell? ⟨wr.heap.size, 1, none⟩ = some (.int .u32 (t : Int)) := fun w4 hb =>
      ⟨(hb.cell (p := ⟨wr.heap.size, 0, none⟩) (World.block_lt_of_cell? _ _ hq.1)).trans hq.1, (hb.cell (p := ⟨wr.heap.size, 1, none⟩) (World.block_lt_of_cell? _ _ hq.2)).trans hq.2⟩
     have hp4 := put_any A2 N c2 out f 4 (wr.alloc (.cells #[.int .u32 (f : Int), .int .u32 (t : Int)] 132)).drew ho2.rd.drew (by omega) (by omega)
     have hlo : out.length = N := RdB.length ho.rd
     have hlen4 : (out ++ be 4 f).length = N + 4 := by simp [be_length, hlo]
     have hlen8 : ((out ++ be 4 f) ++ be 4 t).length = N + 8 := by simp [be_length, hlo]
     rw [put4, hlen4] at hp4
     refine rg_one 4 rfl (by kernel_rfl) rfl (fun K hK => ?_)
     go_simp
     refine hp4.mono ?_
     rintro e w4 ⟨A4, c4, rfl, ho4, hB4⟩
     have hq4 := hkeep _ hB4
     have hB24 := hB2d.trans (hB4.mono hB2d.size)
     have ho4' := ho4.base_le hB2d.size
     have hp8 := put_any A4 (N + 4) c4 (out ++ be 4 f) t 4 w4 ho4.rd (by omega) (by omega)
     rw [put4, hlen8] at hp8
     refine hK _ _ hq4 ?_; clear hK K
     refine rg_one 8 rfl (by kernel_rfl) rfl (fun K hK => ?_)
     go_simp
     refine hp8.mono ?_
     rintro e w5 ⟨A5, c5, rfl, ho5, hB5⟩
     have hq5 : w5.cell? ⟨wr.heap.size, 0, none⟩ = some (.int .u32 (f : Int)) ∧ w5.cell? ⟨wr.heap.size, 1, none⟩ = some (.int .u32 (t : Int)) := ⟨(hB5.cell (p := ⟨wr.heap.size, 0, none⟩) (World.block_lt_of_cell? _ _ hq4.1)).trans hq4.1, (hB5.cell (p := ⟨wr.heap.size, 1, none⟩) (World.block_lt_of_cell? _ _ hq4.2)).trans hq4.2⟩
     have hB25 := hB24.trans (hB5.mono hB24.size)
     have ho5' := ho5.base_le hB24.size
     refine hK _ _ hq5 ?_; clear hK K
     refine rg_t 9 hq5 ?_
     simp only [g_S, Act.put]
     refine rg_end (by kernel_rfl) ?_
     go_wp2_with (with_reducible refine h_A ?_)
     have hNN := HNN.out
     exact ⟨⟨k + 1, N + 8, c5, A5, (out ++ be 4 f) ++ be 4 t, by omega, by go_num, rfl, by omega, HN.out.symm, ho5', hB25⟩, by simp [RowKit.intOf]; omega⟩
    ·obtain rfl : k = n := by omega
     have HO : Hid (out = be 2 (8 * k) ++ spBytes l) := Lib.hid (by rw [hout, List.take_of_length_le (by omega)])
     clear hout
     have hlen : (be 2 (8 * k) ++ spBytes l).length = N := by rw [← HO.out]; exact RdB.length ho.rd
     have HL := Lib.hid hlen
     clear hlen
     go_wp2_with (with_reducible refine h_A ?_)
     go_ret2
     rw [HL.out, ← HO.out]
     exact ⟨A2, c2, rfl, ho, hBr⟩
end Go.PH
end
section
/- The walk of Put of spans, the document's. -/
namespace Go.PH
open Go.RowKit Go.Proofs

end Go.PH
end
section
/- The walks of spans' Get and of its reference's. -/
namespace Go.PH
open Go.RowKit Go.Proofs

theorem own_keepS {w w' : World} {base e size n c : Nat} {A : Option Addr} {xs : List Value} {row : Option Nat} (ho : Own w base e size A n c xs) (hg : w.grownBy w' row) (h : ∀ g, blk A = some g → row ≠ some g) : Own w' base e size A n c xs :=
 ho.kept hg (by
  rw [ownBlock_eq]
  cases hA : blk A with
  | none => exact .inl rfl
  | some g => exact .inr fun e => h g hA e.symm)
theorem below_ownS {w w' : World} {base e size n c : Nat} {A : Option Addr} {xs : List Value} (ho : Own w base e size A n c xs) (hB : Below w.heap.size w w') : Own w' base e size A n c xs :=
 ho.kept (grownOf hB none) (by cases hv : (Value.slice A n c).ownBlock <;> simp)
theorem mnum_ok {l : List UInt8} {x : Nat} (hx : x = 1 ∨ x = 2 ∨ x = 4 ∨ x = 8) (h : x ≤ l.length) : mnum l false (x : Int) = (unbe (l.take x), l.drop x, false) := by
 rw [mnum_yes (wideB_yes (by omega)), mtake_yes h]
theorem mnum_short {l : List UInt8} {x : Nat} (hx : x = 1 ∨ x = 2 ∨ x = 4 ∨ x = 8) (h : l.length < x) : mnum l false (x : Int) = (0, [], true) := by
 rw [mnum_yes (wideB_yes (by omega)), mtake_no (.inr (.inr (by omega)))]; rfl
theorem unbe_take {l : List UInt8} {x : Nat} : unbe (l.take x) < 256 ^ x := by
 have h1 := unbe_lt (l.take x)
 have h2 : (l.take x).length ≤ x := by simp; omega
 exact Nat.lt_of_lt_of_le h1 (Nat.pow_le_pow_right (by omega) h2)
def getSpans (k : Nat) (l : List UInt8) : List Sp := (List.range k).map fun i => (unbe ((l.drop (8 * i)).take 4), unbe ((l.drop (8 * i + 4)).take 4))
theorem getSpans_next (k : Nat) (l : List UInt8) : getSpans (k + 1) l = getSpans k l ++ [(unbe ((l.drop (8 * k)).take 4), unbe ((l.drop (8 * k + 4)).take 4))] := by
 unfold getSpans; rw [List.range_succ, List.map_append]; rfl
theorem getSpans_ok (k : Nat) (l : List UInt8) : spOK 4294967296 (getSpans k l) := by
 intro a ha
 obtain ⟨i, _, rfl⟩ := List.mem_map.1 ha
 exact ⟨unbe_take, unbe_take⟩
theorem getSpans_len (k : Nat) (l : List UInt8) : (getSpans k l).length = k := by simp [getSpans]
def getN (b : List UInt8) : Nat := unbe (b.take 2)
def spGetErr (b : List UInt8) : Nat :=
 if b.length < 2 then 4 else if getN b % 8 ≠ 0 ∨ 1000 < getN b / 8 then 5 else if b.length < 2 + getN b then 4 else if spRight (getSpans (getN b / 8) (b.drop 2)) = true then 0 else 5
def spGet (b : List UInt8) : List Sp := if spGetErr b = 0 then getSpans (getN b / 8) (b.drop 2) else []
def spGetN (b : List UInt8) : Nat := if spGetErr b = 0 then getN b + 2 else 0
theorem spGet_err {b : List UInt8} {e : Nat} (h : spGetErr b = e) (he : e ≠ 0) : spGet b = [] ∧ spGetN b = 0 := by
 unfold spGet spGetN; rw [h]; simp [he]
set_option maxRecDepth 20000 in
set_option maxHeartbeats 2000000 in
theorem spget_any (A : Option Addr) (n c : Nat) (b : List UInt8) (w : World) (hr : RdB w w.heap.size A n c b) (hn : n ≤ 140737488351232) :
  Calls Tryz.prog 83 #[.slice A n c] w fun e w' => ∃ A2 c2, e = .returned (.tuple #[.slice A2 (spGet b).length c2, .int .i64 (spGetN b), .int .i64 (spGetErr b)]) ∧ OwnS w' w.heap.size A2 (spGet b).length c2 (spGet b) ∧ Below w.heap.size w w' := by
 have hl := RdB.length hr
 by_cases h2 : b.length < 2
 ·have hx : spGetErr b = 4 := by rw [spGetErr, if_pos h2]
  have HE := Lib.hid (spGet_err hx (by omega))
  have HX := Lib.hid hx
  clear hx
  have hm : mnum b false 2 = (0, [], true) := mnum_short (x := 2) (by omega) h2
  go_enter Tryz.func83, Tryz.ntmps83
  go_wp2_with (with_reducible refine h_A ?_)
  refine (rdopen_any A n c b w hr (by omega)).mono ?_
  rintro e w1 ⟨rb, vb, rfl, hrbb, hvb, hR1, hB1⟩
  have hrn := rdnum_any hR1 2 (by omega) (by omega)
  rw [hm] at hrn
  go_wp2_with (with_reducible refine h_A ?_)
  refine hrn.mono ?_
  rintro e w2 ⟨rfl, hR2, hg2⟩
  have hB2 := hB1.grown hg2 hB1.size (fun g hg => by injection hg with hg; omega)
  go_wp2_with (with_reducible refine h_A ?_)
  refine (rdbad_any hR2).mono ?_
  rintro e w3 ⟨rfl, rfl⟩
  go_wp2_with (with_reducible refine h_A ?_)
  go_ret3
  rw [HE.out.1, HE.out.2, HX.out]
  exact ⟨none, 0, rfl, Own.none_ _ _ _ _, hB2⟩
 ·have hm : mnum b false 2 = (unbe (b.take 2), b.drop 2, false) := mnum_ok (x := 2) (by omega) (by omega)
  have hN : getN b < 65536 := unbe_take
  have hgn : unbe (b.take 2) = getN b := rfl
  rw [hgn] at hm
  have hdl : (b.drop 2).length = b.length - 2 := by simp
  have HGE : Hid (spGetErr b = if getN b % 8 ≠ 0 ∨ 1000 < getN b / 8 then 5 else if b.length < 2 + getN b then 4 else if spRight (getSpans (getN b / 8) (b.drop 2)) = true then 0 else 5) := Lib.hid (by rw [spGetErr, if_neg h2])
  have HGS : Hid (spGetErr b = 0 → spGet b = getSpans (getN b / 8) (b.drop 2) ∧ spGetN b = getN b + 2) := Lib.hid (fun h => by unfold spGet spGetN; rw [h]; simp)
  go_enter Tryz.func83, Tryz.ntmps83
  go_wp2_with (with_reducible refine h_A ?_)
  refine (rdopen_any A n c b w hr (by omega)).mono ?_
  rintro e w1 ⟨rb, vb, rfl, hrbb, hvb, hR1, hB1⟩
  have hrn := rdnum_any hR1 2 (by omega) (by omega)
  rw [hm] at hrn
  generalize getN b = N at *
  generalize hrest : b.drop 2 = rest at *
  have hrb : b.length = rest.length + 2 := by omega
  have HDL := Lib.hid hdl
  clear hdl
  clear hm hgn
  have hwN : IntKind.i64.wrap ((N : Nat) : Int) = (N : Int) := IntWalk.i64_in _ ⟨by omega, by omega⟩
  go_wp2_with (with_reducible refine h_A ?_)
  refine hrn.mono ?_
  rintro e w2 ⟨rfl, hR2, hg2⟩
  have hB2 := hB1.grown hg2 hB1.size (fun g hg => by injection hg with hg; omega)
  have hz2 : w1.heap.size ≤ w2.heap.size := hg2.size
  clear hg2 hrn hR1
  have HREST := Lib.hid hrest
  clear hrest
  have HRB := Lib.hid hrb
  clear hrb
  obtain ⟨Q, hQ⟩ : ∃ Q, Q = N / 8 := ⟨_, rfl⟩
  have hq8 : (N : Int) / 8 = (Q : Int) := by omega
  rw [← hQ] at HGE HGS
  go_wp2_with (with_reducible refine h_A ?_)
  refine (rdbad_any hR2).mono ?_
  rintro e w3 ⟨rfl, rfl⟩
  by_cases h8 : N % 8 = 0
  ·have hd8 : ((N : Int) % 8 != 0) = false := by simp; omega
   by_cases hk : 1000 < Q
   ·have hdk : (1000 : Int) < (Q : Int) := by omega
    have hx : spGetErr b = 5 := by rw [HGE.out, if_pos (.inr hk)]
    have HE := Lib.hid (spGet_err hx (by omega))
    have HX := Lib.hid hx
    clear hx hQ h8
    go_wp2_with (with_reducible refine h_A ?_)
    go_ret3
    rw [HE.out.1, HE.out.2, HX.out]
    exact ⟨none, 0, rfl, Own.none_ _ _ _ _, hB2⟩
   ·have hdk : decide ((1000 : Int) < (Q : Int)) = false := by simp; omega
    have hNQ := Lib.hid (show N = 8 * Q by omega)
    clear hQ
    go_wp2_with (with_reducible refine h_A ?_)
    refine (rdleft_any hR2).mono ?_
    rintro e w4 ⟨rfl, rfl⟩
    by_cases hlr : rest.length < N
    ·have hdl' : (rest.length : Int) < (N : Int) := by omega
     have hx : spGetErr b = 4 := by have := HRB.out; rw [HGE.out, if_neg (by omega), if_pos (by omega)]
     have HE := Lib.hid (spGet_err hx (by omega))
     have HX := Lib.hid hx
     clear hx h8
     go_wp2_with (with_reducible refine h_A ?_)
     go_ret3
     rw [HE.out.1, HE.out.2, HX.out]
     exact ⟨none, 0, rfl, Own.none_ _ _ _ _, hB2⟩
    ·have hdl' : ¬ (rest.length : Int) < (N : Int) := by omega
     have HGE2 : Hid (spGetErr b = if spRight (getSpans Q rest) = true then 0 else 5) := Lib.hid (by have := HRB.out; rw [HGE.out, if_neg (by omega), if_neg (by omega)])
     clear h8
     go_wp2_with (with_reducible refine h_A ?_)
     go_loopw [31, 7] (fun s v wr => ∃ (k c2 : Nat) (A2 : Option Addr) (out : List Sp), k ≤ Q ∧ s = .int .i64 k ∧ v = .slice A2 out.length c2 ∧ out = getSpans k rest ∧ OwnS wr w1.heap.size A2 out.length c2 out ∧ Rdr (fun g => w.heap.size ≤ g ∧ g < w1.heap.size) wr (.pointer (some ⟨rb, 0, none⟩)) (some vb) (rest.drop (8 * k)) false ∧ w1.heap.size ≤ wr.heap.size ∧ Below w.heap.size w wr) (fun s _ _ => Q - (RowKit.intOf s).toNat)
     case atStart => exact ⟨0, 0, none, [], by omega, rfl, rfl, by simp [getSpans], Own.none_ _ _ _ _, by simpa using hR2, hz2, hB2⟩
     case round =>
      clear hR2 hz2 hB2
      obtain ⟨k, c2, A2, out, hk', rfl, rfl, hout, ho, hR, hz, hBr⟩ := hrel
      have hkl : out.length = k := by rw [hout, getSpans_len]
      by_cases hlt : k < Q
      ·have hdq : (k : Int) < (Q : Int) := by omega
       have hNQ' := hNQ.out
       have hn1 := rdnum_any hR 4 (by omega) (by omega)
       have hm1 : mnum (rest.drop (8 * k)) false 4 = (unbe ((rest.drop (8 * k)).take 4), (rest.drop (8 * k)).drop 4, false) := mnum_ok (x := 4) (by omega) (by simp; omega)
       rw [hm1] at hn1
       have hm2 : mnum ((rest.drop (8 * k)).drop 4) false 4 = (unbe ((rest.drop (8 * k + 4)).take 4), rest.drop (8 * (k + 1)), false) := by
        have := mnum_ok (l := rest.drop (8 * k + 4)) (x := 4) (by omega) (by simp; omega)
        rw [List.drop_drop]
        exact this.trans (by rw [List.drop_drop, show 8 * k + 4 + 4 = 8 * (k + 1) by omega])
       have HNX : Hid (getSpans (k + 1) rest = out ++ [(unbe ((rest.drop (8 * k)).take 4), unbe ((rest.drop (8 * k + 4)).take 4))]) := Lib.hid (by rw [getSpans_next, hout])
       have hv1 : unbe ((rest.drop (8 * k)).take 4) < 4294967296 := unbe_take
       have hv2 : unbe ((rest.drop (8 * k + 4)).take 4) < 4294967296 := unbe_take
       have hAF : ∀ g, blk A2 = some g → ¬ (w.heap.size ≤ g ∧ g < w1.heap.size) := fun g hg h => by have := (ho.blk_lt hg).1; omega
       have hFv : w.heap.size ≤ vb ∧ vb < w1.heap.size := hR.inF rfl
       have hvA : ∀ g, blk A2 = some g → some vb ≠ some g := fun g hg e => by injection e with e; subst e; exact hAF _ hg hFv
       clear hout hNQ' hm1
       generalize unbe ((rest.drop (8 * k)).take 4) = v1 at *
       generalize unbe ((rest.drop (8 * k + 4)).take 4) = v2 at *
       have hw1 : IntKind.u32.wrap ((v1 : Nat) : Int) = (v1 : Int) := IntWalk.u32_in _ ⟨by omega, by omega⟩
       have hw2 : IntKind.u32.wrap ((v2 : Nat) : Int) = (v2 : Int) := IntWalk.u32_in _ ⟨by omega, by omega⟩
       have HKL := Lib.hid hkl
       have hol : out.length ≤ 1000 := by omega
       clear hkl
       go_wp2_with (with_reducible refine h_A ?_)
       refine hn1.mono ?_
       rintro e w5 ⟨rfl, hR5, hg5⟩
       have hB5 := hBr.grown hg5 hBr.size (fun g hg => by injection hg with hg; omega)
       have ho5 : OwnS w5 w1.heap.size A2 out.length c2 out := own_keepS ho hg5 hvA
       have hz5 : w1.heap.size ≤ w5.heap.size := Nat.le_trans hz hg5.size
       have hn2 := rdnum_any hR5 4 (by omega) (by omega)
       rw [hm2] at hn2
       clear hn1 hg5 hm2
       go_wp2_with (with_reducible refine h_A ?_)
       refine hn2.mono ?_
       rintro e w6 ⟨rfl, hR6, hg6⟩
       have hB6 := hB5.grown hg6 hB5.size (fun g hg => by injection hg with hg; omega)
       have ho6 : OwnS w6 w1.heap.size A2 out.length c2 out := own_keepS ho5 hg6 hvA
       have hz6 : w1.heap.size ≤ w6.heap.size := Nat.le_trans hz5 hg6.size
       clear hn2 hg6 hR5 ho5 ho hR
       go_wp2_with (with_reducible refine h_A ?_)
       refine unhold (wp_push slS Tryz.underlying64 rfl rfl rfl rfl rfl v1 v2 rfl rfl ho6 (by omega) hz6 ?_)
       intro A7 c7 w7 ho7 hg7 _ hB7
       have hR7 := hR6.kept hg7 hAF
       have hz7 : w1.heap.size ≤ w7.heap.size := Nat.le_trans hz6 hg7.size
       have hB67 := hB6.trans (hB7.mono (by have := hB1.size; omega))
       go_wp2_with (with_reducible refine h_A ?_)
       have hkl := HKL.out
       exact ⟨⟨k + 1, c7, A7, out ++ [(v1, v2)], by omega, by go_num, by simp, HNX.out.symm, by simpa using ho7, hR7, hz7, hB67⟩, by simp [RowKit.intOf]; omega⟩
      ·obtain rfl : k = Q := by omega
       have hdq : decide ((k : Int) < (k : Int)) = false := by simp
       have hok := getSpans_ok k rest
       rw [← hout] at hok
       have hrr := right_any A2 out.length c2 out _ wr ho.rd hok (Nat.le_refl _) (by omega)
       have HO := Lib.hid hout
       have hbase := hB1.size
       cases hri : spRight out
       ·rw [hri] at hrr
        have hx : spGetErr b = 5 := by rw [HGE2.out, ← HO.out, hri]; rfl
        have HE := Lib.hid (spGet_err hx (by omega))
        have HX := Lib.hid hx
        clear hx hout hri hkl
        go_wp2_with (with_reducible refine h_A ?_)
        refine hrr.mono ?_
        rintro e w8 ⟨rfl, hB8⟩
        have hB9 := hBr.trans (hB8.mono hBr.size)
        go_wp2_with (with_reducible refine h_A ?_)
        go_ret3
        rw [HE.out.1, HE.out.2, HX.out]
        exact ⟨none, 0, rfl, Own.none_ _ _ _ _, hB9⟩
       ·rw [hri] at hrr
        have hx : spGetErr b = 0 := by rw [HGE2.out, ← HO.out, hri]; rfl
        have hgs := HGS.out hx
        rw [← HO.out] at hgs
        have HG := Lib.hid hgs
        have HX := Lib.hid hx
        have hw2 : IntKind.i64.wrap ((N : Int) + 2) = ((N + 2 : Nat) : Int) := by rw [IntWalk.i64_in _ ⟨by omega, by omega⟩]; omega
        clear hx hout hri hgs hkl
        go_wp2_with (with_reducible refine h_A ?_)
        refine hrr.mono ?_
        rintro e w8 ⟨rfl, hB8⟩
        have hB9 := hBr.trans (hB8.mono hBr.size)
        have ho8 := below_ownS ho hB8
        have ho9 := ho8.base_le hbase
        go_wp2_with (with_reducible refine h_A ?_)
        go_ret3
        rw [HG.out.1, HG.out.2, HX.out]
        exact ⟨A2, c2, by first | rfl | simp, ho9, hB9⟩
  ·have hd8 : ((N : Int) % 8 != 0) = true := by simp; omega
   have hx : spGetErr b = 5 := by rw [HGE.out, if_pos (.inl h8)]
   have HE := Lib.hid (spGet_err hx (by omega))
   have HX := Lib.hid hx
   clear hx h8 hQ
   go_wp2_with (with_reducible refine h_A ?_)
   go_ret3
   rw [HE.out.1, HE.out.2, HX.out]
   exact ⟨none, 0, rfl, Own.none_ _ _ _ _, hB2⟩
end Go.PH
end
section
/- What is put is got, and what is got is put, as plain mathematics. -/
namespace Go.PH

theorem getSpans_cons (k : Nat) (l : List UInt8) : getSpans (k + 1) l = (unbe (l.take 4), unbe ((l.drop 4).take 4)) :: getSpans k (l.drop 8) := by
 unfold getSpans
 rw [List.range_succ_eq_map, List.map_cons, List.map_map]
 congr 1
 apply List.map_congr_left
 intro i _
 simp only [Function.comp, List.drop_drop]
 rw [show 8 * Nat.succ i = 8 + 8 * i by omega, show 8 + 8 * i + 4 = 8 + (8 * i + 4) by omega]
theorem getSpans_put : ∀ (l : List Sp) (r : List UInt8), spOK 4294967296 l → getSpans l.length (spBytes l ++ r) = l
 | [], r, _ => rfl
 | a :: l, r, h => by
  have ha := h a (by simp)
  have e : spBytes (a :: l) ++ r = be 4 a.1 ++ (be 4 a.2 ++ (spBytes l ++ r)) := by
   show be 4 a.1 ++ be 4 a.2 ++ spBytes l ++ r = _
   simp
  rw [List.length_cons, getSpans_cons, e]
  have l1 := be_length 4 a.1
  have l2 := be_length 4 a.2
  have d1 : (be 4 a.1 ++ (be 4 a.2 ++ (spBytes l ++ r))).drop 4 = be 4 a.2 ++ (spBytes l ++ r) := by rw [List.drop_append_of_le_length (by omega), List.drop_of_length_le (by omega)]; rfl
  have d2 : (be 4 a.1 ++ (be 4 a.2 ++ (spBytes l ++ r))).drop 8 = spBytes l ++ r := by
   rw [show (8 : Nat) = 4 + 4 from rfl, ← List.drop_drop, d1, List.drop_append_of_le_length (by omega), List.drop_of_length_le (by omega)]; rfl
  rw [d1, d2, List.take_append_of_le_length (by omega), List.take_of_length_le (by omega), List.take_append_of_le_length (by omega), List.take_of_length_le (by omega), unbe_be, unbe_be, getSpans_put l r (fun z hz => h z (by simp [hz]))]
  congr 1
  exact Prod.ext (Nat.mod_eq_of_lt ha.1) (Nat.mod_eq_of_lt ha.2)
theorem put_got {l : List Sp} (r : List UInt8) (hr : spRight l = true) (hn : l.length ≤ 1000) (h : spOK 4294967296 l) : spGetErr (spPut l ++ r) = 0 ∧ spGet (spPut l ++ r) = l ∧ spGetN (spPut l ++ r) = (spPut l).length := by
 have e : spPut l = be 2 (8 * l.length) ++ spBytes l := by rw [spPut, if_pos ⟨hr, by omega⟩]
 have lb := be_length 2 (8 * l.length)
 have ls := spBytes_len l
 have hN : getN (spPut l ++ r) = 8 * l.length := by
  unfold getN
  rw [e, List.append_assoc, List.take_append_of_le_length (by omega), List.take_of_length_le (by omega), unbe_be, Nat.mod_eq_of_lt (by omega)]
 have hd : (spPut l ++ r).drop 2 = spBytes l ++ r := by
  rw [e, List.append_assoc, List.drop_append_of_le_length (by omega), List.drop_of_length_le (by omega)]; rfl
 have hl : (spPut l ++ r).length = 2 + 8 * l.length + r.length := by rw [e]; simp only [List.length_append, lb, ls]
 have hq : 8 * l.length / 8 = l.length := by omega
 have h0 : spGetErr (spPut l ++ r) = 0 := by
  rw [spGetErr, hN, hd, hq, if_neg (by omega), if_neg (by omega), if_neg (by omega), getSpans_put l r h, hr]; rfl
 refine ⟨h0, ?_, ?_⟩
 ·rw [spGet, h0, hN, hd, hq, getSpans_put l r h]; rfl
 ·rw [spGetN, h0, hN, e]; simp only [List.length_append, lb, ls]; simp; omega
end Go.PH
end
section
/- Texts: cut, put together, turned into bytes. -/
namespace Go.PH
open Go.RowKit
section
variable {P : Program} {w : World} {t : TypeId}
theorem str_extract (l : List UInt8) (a b : Nat) : (str l).extract a b = str ((l.take b).drop a) := by
 rw [List.drop_take]; exact ByteArray.extract_mk l a b
theorem str_app (a b : List UInt8) : str a ++ str b = str (a ++ b) := by
 apply ByteArray.ext
 simp [str]
theorem run_cutS (hu : P.underlying t = some .string) (w : World) {l : List UInt8} {lo hi : Option Value} (i j : Nat) (hlo : Bd lo 0 i) (hhi : Bd hi l.length j) (h1 : i ≤ j) (h2 : j ≤ l.length) :
  (Instr.sliceAt t (.string (str l)) lo hi none).run P w = .ok (.string (str ((l.take j).drop i))) w := by
 rw [run_sliceAt_string w t _ _ _ _ hu]
 rcases hlo with ⟨rfl, rfl⟩ | ⟨kd, X, rfl, rfl⟩
 ·rcases hhi with ⟨rfl, rfl⟩ | ⟨kd, X, rfl, rfl⟩
  ·rw [run_slice_string_all (h := hu), str_size, str_extract]
  ·rw [run_slice_string_h (ht := hu) (h0 := by omega) (h2 := by rw [str_size]; omega), str_extract]; simp
 ·rcases hhi with ⟨rfl, rfl⟩ | ⟨kd', X, rfl, rfl⟩
  ·rw [run_slice_string_l (ht := hu) (h0 := by omega) (h1 := by rw [str_size]; omega), str_size, str_extract]; simp
  ·rw [run_slice_string (h := hu) (h0 := by omega) (h1 := by omega) (h2 := by rw [str_size]; omega), str_extract]; simp
variable {ops : Array Oper} {rest : List Oper} {o : Oper} {a : Act} {Q : Exit → Act → World → Prop} {x : Operand} {K : Act → World → Prop}
theorem exec_cutS {lo hi : Option Operand} (hu : P.underlying t = some .string) (ho : o.op = .slice t x lo hi none) {l : List UInt8} (hx : a.eval x = .string (str l)) (i j : Nat) (hlo : Bd (lo.map a.eval) 0 i) (hhi : Bd (hi.map a.eval) l.length j) (h1 : i ≤ j) (h2 : j ≤ l.length) :
  (execOp a.eval o).run P w = .ok (.value (.string (str ((l.take j).drop i)))) w := by
 have hrun := run_cutS hu w i j hlo hhi h1 h2
 unfold execOp
 simp only [ho, hx, Sem.run_bind, Sem.run_pure, Result.andThen_ok, Option.map_none, hrun]
theorem op_cutS {lo hi : Option Operand} (hu : P.underlying t = some .string) (ho : o.op = .slice t x lo hi none) {l : List UInt8} (hx : a.eval x = .string (str l)) (i j : Nat) (hlo : Bd (lo.map a.eval) 0 i) (hhi : Bd (hi.map a.eval) l.length j) (h1 : i ≤ j) (h2 : j ≤ l.length)
  (hk : K (a.put o.dst (.string (str ((l.take j).drop i)))) w) : o.wp P a w K Q := by
 have hrun := run_cutS hu w i j hlo hhi h1 h2
 unfold Oper.wp execOp
 simp only [ho, hx, Sem.run_bind, Sem.run_pure, Result.andThen_ok, Option.map_none, hrun]
 exact hk
theorem wp_cutS {lo hi : Option Operand} (hu : P.underlying t = some .string) (hw : Region.wanted o (yielded ops a.tmps) = true) (ho : o.op = .slice t x lo hi none) {l : List UInt8} (hx : a.eval x = .string (str l)) (i j : Nat) (hlo : Bd (lo.map a.eval) 0 i) (hhi : Bd (hi.map a.eval) l.length j) (h1 : i ≤ j) (h2 : j ≤ l.length)
  (hk : wpList P ops Q rest (a.put o.dst (.string (str ((l.take j).drop i)))) w) : wpList P ops Q (o :: rest) a w :=
 BigFrame.wpList_want hw fun K hK => op_cutS hu ho hx i j hlo hhi h1 h2 (hK _ _ hk)
/-- []byte(s) -/
theorem run_s2b {src dst e : TypeId} (hs : P.underlying src = some .string) (hd : P.underlying dst = some (.slice e)) (he : P.underlying e = some (.int .u8)) (w : World) (l : List UInt8) (hl : l.length ≤ 140737488351240) :
  ∃ c w', (convert src dst (.string (str l))).run P w = .ok (.slice (some ⟨w.heap.size, 0, none⟩) l.length c) w' ∧ RdB w' w'.heap.size (some ⟨w.heap.size, 0, none⟩) l.length c l ∧ Below w.heap.size w w' := by
 refine ⟨_, _, Lib.run_convert_string_bytes w src dst e (str l) hs hd he, ?_, ?_⟩
 ·refine ⟨by simp, ?_, ?_, fun hn => ⟨_, _, rfl, by rw [Lib.bytesWorld_size]; omega, fun j u hu => ?_⟩⟩
  ·exact grownCap_ge _ _ _ _
  ·exact grownCap_le_maxLen _ _ _ _ (by simp only [maxLen, str_size]; omega)
  ·have hj : j < l.length := by have := (List.getElem?_eq_some_iff.1 hu).1; simpa using this
   have := Lib.bytesWorld_cell w e (str l) j (by rw [str_size]; exact hj)
   simp only [Nat.zero_add]
   rw [this]
   simp [u8v, str, List.getD, hj] at hu ⊢
   exact hu
 ·refine ⟨?_, ?_, ?_, by rw [Lib.bytesWorld_size]; omega, fun k hk => Lib.bytesWorld_at_old w e (str l) k hk⟩
  all_goals rfl
theorem op_s2b {src dst e : TypeId} (hs : P.underlying src = some .string) (hd : P.underlying dst = some (.slice e)) (he : P.underlying e = some (.int .u8)) (ho : o.op = .convert src dst x) {l : List UInt8} (hx : a.eval x = .string (str l)) (hl : l.length ≤ 140737488351240)
  (hk : ∀ c w', RdB w' w'.heap.size (some ⟨w.heap.size, 0, none⟩) l.length c l → Below w.heap.size w w' → K (a.put o.dst (.slice (some ⟨w.heap.size, 0, none⟩) l.length c)) w') : o.wp P a w K Q := by
 obtain ⟨c, w', hrun, h1, h2⟩ := run_s2b hs hd he w l hl
 unfold Oper.wp execOp
 simp only [ho, hx, Sem.run_bind, Sem.run_pure, Result.andThen_ok, hrun]
 exact hk _ _ h1 h2
theorem wp_s2b {src dst e : TypeId} (hs : P.underlying src = some .string) (hd : P.underlying dst = some (.slice e)) (he : P.underlying e = some (.int .u8)) (hw : Region.wanted o (yielded ops a.tmps) = true) (ho : o.op = .convert src dst x) {l : List UInt8} (hx : a.eval x = .string (str l)) (hl : l.length ≤ 140737488351240)
  (hk : ∀ c w', RdB w' w'.heap.size (some ⟨w.heap.size, 0, none⟩) l.length c l → Below w.heap.size w w' → wpList P ops Q rest (a.put o.dst (.slice (some ⟨w.heap.size, 0, none⟩) l.length c)) w') : wpList P ops Q (o :: rest) a w :=
 BigFrame.wpList_want hw fun K hK => op_s2b hs hd he ho hx hl fun c w' h1 h2 => hK _ _ (hk c w' h1 h2)
end
end Go.PH
end

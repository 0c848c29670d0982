/- Texts laid together: SpMem, SpPush, SpRRight, SpSame, SpSee, SpWalk, SpPut, SpPutR, SpGetM, SpBackM, Str. -/
import Derived.Deep.QuietTactic
import Derived.BigQuiet
import Derived.Laws.StructEq
import Derived.Lib.ConvBytes
import Derived.Test.YtfbkameikhgciaaGreatDoorMg00
import Derived.Test.YtfbkameikhgciaaGreatDoorMg01
import Derived.Test.YtfbkameikhgciaaGreatDoorMg02
import Derived.Test.YtfbkameikhgciaaGreatDoorMg04
import Derived.Test.YtfbkameikhgciaaGreatDoorMg06
import Derived.Test.YtfbkameikhgciaaGreatDoorMg07
set_option linter.all false
set_option linter.unusedSimpArgs false
set_option linter.unusedVariables false
set_option maxRecDepth 20000
set_option maxHeartbeats 8000000
section
namespace Go.PH
open Go.RowKit Go.Proofs
def sp2 (a : Sp) : List Value := [.int .u32 (a.1 : Int), .int .u32 (a.2 : Int)]
def ya (l : List Sp) : List Value := l.flatMap sp2
theorem yG (a : Sp) (l : List Sp) : ya (a :: l) = .int .u32 (a.1 : Int) :: .int .u32 (a.2 : Int) :: ya l := rfl
theorem Yy (a b : List Sp) : ya (a ++ b) = ya a ++ ya b := by simp [ya]
theorem Yz (l : List Sp) : (ya l).length = l.length * 2 := by
 induction l with
 | nil => rfl
 | cons a l ih => rw [yG]; simp only [List.length_cons, ih]; omega
theorem jW : ∀ (l : List Sp) (k : Nat), (ya l).take (k * 2) = ya (l.take k)
 | [], k => by simp [ya]
 | a :: l, 0 => by simp [ya]
 | a :: l, k + 1 => by rw [yG, show (k + 1) * 2 = k * 2 + 1 + 1 by omega, List.take_succ_cons, List.take_succ_cons, jW l k, List.take_succ_cons, yG]
theorem jX : ∀ (l : List Sp) (k : Nat), (ya l).drop (k * 2) = ya (l.drop k)
 | [], k => by simp [ya]
 | a :: l, 0 => by simp
 | a :: l, k + 1 => by rw [yG, show (k + 1) * 2 = k * 2 + 1 + 1 by omega, List.drop_succ_cons, List.drop_succ_cons, jX l k, List.drop_succ_cons]
theorem kL : ∀ (l : List Sp) (k : Nat) (h : k < l.length), (ya l)[k * 2]? = some (.int .u32 (l[k].1 : Int)) ∧ (ya l)[k * 2 + 1]? = some (.int .u32 (l[k].2 : Int))
 | a :: l, 0, _ => by simp [yG]
 | a :: l, k + 1, h => by
  have := kL l k (by simpa using h)
  rw [yG, show (k + 1) * 2 = k * 2 + 1 + 1 by omega]
  simpa using this
theorem YA (l : List Sp) : ∀ u ∈ ya l, u.oneCell' = true := by
 intro u hu
 simp only [ya, List.mem_flatMap, sp2, List.mem_cons, List.not_mem_nil, or_false] at hu
 obtain ⟨a, _, rfl | rfl⟩ := hu <;> rfl
abbrev RdS (w : World) (B : Nat) (A : Option Addr) (n c : Nat) (l : List Sp) : Prop := Rd w B 2 A n c (ya l)
variable {w w' : World} {B n c : Nat} {A : Option Addr} {l : List Sp}
theorem RdS.length (h : RdS w B A n c l) : l.length = n := by have := h.len; rw [Yz] at this; omega
theorem RdS.at_k (h : RdS w B A n c l) {k : Nat} (hk : k < n) : ∃ b off, A = some ⟨b, off, none⟩ ∧ b < B ∧ ∃ hl : k < l.length, w.cell? ⟨b, off + k * 2, none⟩ = some (.int .u32 (l[k].1 : Int)) ∧ w.cell? ⟨b, off + k * 2 + 1, none⟩ = some (.int .u32 (l[k].2 : Int)) := by
 obtain ⟨b, off, e, hb, hc⟩ := h.at_ (by omega)
 have hl := h.length
 have hg := kL l k (by omega)
 exact ⟨b, off, e, hb, by omega, hc _ _ hg.1, by have := hc _ _ hg.2; rwa [← Nat.add_assoc] at this⟩
theorem RdS.at_p (h : RdS w B A n c l) {k : Nat} (hk : k ≤ n) (h0 : 0 < k) : ∃ b off, A = some ⟨b, off, none⟩ ∧ b < B ∧ w.cell? ⟨b, off + (k - 1) * 2 + 1, none⟩ = some (.int .u32 ((l.getD (k - 1) (0, 0)).2 : Int)) := by
 obtain ⟨b, off, e, hb, hl, _, hc⟩ := RdS.at_k h (k := k - 1) (by omega)
 refine ⟨b, off, e, hb, ?_⟩
 rw [hc]; simp [List.getD, List.getElem?_eq_getElem hl]
theorem Q2 {N : Nat} {l : List Sp} (h : spOK N l) (k : Nat) (hN : 0 < N) : (l.getD k (0, 0)).1 < N ∧ (l.getD k (0, 0)).2 < N := by
 rw [List.getD]
 cases hk : l[k]? with
 | none => exact ⟨hN, hN⟩
 | some a => exact h a (List.mem_of_getElem? hk)
theorem RdS.cut {lo k : Nat} (hr : RdS w B A n c l) (h : lo + k ≤ n) : RdS w B (cutA A 2 lo c) k (c - lo) ((l.drop lo).take k) := by
 have h1 := vw hr lo (lo + k) c (by omega) (by have := hr.cap; omega) (Nat.le_refl _) h
 rw [jW, jX, List.drop_take, Nat.add_sub_cancel_left] at h1
 exact h1
theorem slS : SlT Tryz.prog 74 208 2 8 (.agg #[.int .u32 0, .int .u32 0]) := SlT.mk' Tryz.underlying74 (by kernel_rfl) rfl (by omega)
abbrev OwnS (w : World) (base : Nat) (A : Option Addr) (n c : Nat) (l : List Sp) : Prop := Own w base 208 2 A n c (ya l)
end Go.PH
end
section
namespace Go.PH
open Go.RowKit Go.Proofs
theorem VX {W : World} {ops : Array Oper} {o : Oper} {a : Act} {K : Act → World → Prop} {Q : Exit → Act → World → Prop} {s x : Operand} {t t2 e2 base n c g : Nat} {A : Option Addr} {out : List Sp} {fi ti : Int} (hT : SlT Tryz.prog t 208 2 8 (.agg #[.int .u32 0, .int .u32 0])) (h2 : Tryz.prog.underlying t2 = some (.slice e2))
  (ho : o.op = .call { callee := .builtin .append, args := #[s, x], argTypes := #[t, t2] }) (hs : a.eval s = .slice A n c) (hx : a.eval x = .slice (some ⟨g, 0, none⟩) 1 1) (hg : g = W.heap.size)
  (f u : Nat) (hf : fi = (f : Int)) (hu : ti = (u : Int)) (hown : OwnS W base A n c out) (hn : n ≤ 1000000000) (hbase : base ≤ W.heap.size)
  (h : ∀ A2 c2 w', OwnS w' base A2 (n + 1) c2 (out ++ [(f, u)]) → W.grownBy w' (blk A) → (blk A2 = blk A ∨ ∀ g, blk A2 = some g → W.heap.size ≤ g) → Below base W w' → K (a.put o.dst (.slice A2 (n + 1) c2)) w') :
  o.wp Tryz.prog a (W.alloc (.cells #[.int .u32 fi, .int .u32 ti] 208)) K Q := by
 subst hg hf hu
 have hlit := xe (w := W) base #[.int .u32 (f : Int), .int .u32 (u : Int)] 208 1 hbase (by simp [maxLen]) rfl (size := 2) (by omega)
 have ho2 : OwnS (W.alloc (.cells #[.int .u32 (f : Int), .int .u32 (u : Int)] 208)) base A n c out := hown.alloc _
 refine qz (ops := ops) hT h2 ho hs hx ho2 hlit.rd (YA [(f, u)]) (by omega) (by simp [maxLen]; omega) (by simp; omega) fun A2 c2 w' a1 a2 a3 => ?_
 have e : ya out ++ (#[.int .u32 (f : Int), .int .u32 (u : Int)] : Array Value).toList = ya (out ++ [(f, u)]) := by rw [Yy]; rfl
 rw [e] at a1
 have hB2 : Below base W (W.alloc (.cells #[.int .u32 (f : Int), .int .u32 (u : Int)] 208)) := (Below.refl _ _).alloc hbase _
 have hgr : W.grownBy w' (blk A) := ⟨a2.os, a2.tape, a2.output, Nat.le_trans hB2.size a2.size, fun k hk hne => (a2.block k (by simp; omega) hne).trans (((Below.refl W.heap.size W).alloc (Nat.le_refl _) _).block k hk)⟩
 refine h A2 c2 w' a1 hgr ?_ ((Below.refl _ _).grown hgr hbase (fun g hg => (hown.blk_lt hg).1))
 rcases a3 with h3 | h3
 ·exact .inl h3
 ·refine .inr fun g hg => ?_
  rw [h3] at hg
  simp at hg; omega
theorem VY {W : World} {ops : Array Oper} {rest : List Oper} {o : Oper} {a : Act} {Q : Exit → Act → World → Prop} {s x : Operand} {t t2 e2 base n c g : Nat} {A : Option Addr} {out : List Sp} {fi ti : Int} (hT : SlT Tryz.prog t 208 2 8 (.agg #[.int .u32 0, .int .u32 0])) (h2 : Tryz.prog.underlying t2 = some (.slice e2)) (hw : Region.wanted o (yielded ops a.tmps) = true)
  (ho : o.op = .call { callee := .builtin .append, args := #[s, x], argTypes := #[t, t2] }) (hs : a.eval s = .slice A n c) (hx : a.eval x = .slice (some ⟨g, 0, none⟩) 1 1) (hg : g = W.heap.size)
  (f u : Nat) (hf : fi = (f : Int)) (hu : ti = (u : Int)) (hown : OwnS W base A n c out) (hn : n ≤ 1000000000) (hbase : base ≤ W.heap.size)
  (h : ∀ A2 c2 w', OwnS w' base A2 (n + 1) c2 (out ++ [(f, u)]) → W.grownBy w' (blk A) → (blk A2 = blk A ∨ ∀ g, blk A2 = some g → W.heap.size ≤ g) → Below base W w' → wpList Tryz.prog ops Q rest (a.put o.dst (.slice A2 (n + 1) c2)) w') :
  wpList Tryz.prog ops Q (o :: rest) a (W.alloc (.cells #[.int .u32 fi, .int .u32 ti] 208)) := by
 refine BigFrame.wpList_want hw fun K hK => ?_
 exact VX (ops := ops) hT h2 ho hs hx hg f u hf hu hown hn hbase fun A2 c2 w' a1 a2 a3 a4 => hK _ _ (h A2 c2 w' a1 a2 a3 a4)
end Go.PH
end
section
namespace Go.PH
open Go.RowKit Go.Proofs
end Go.PH
end
section
namespace Go.PH
open Go.RowKit Go.Proofs
theorem YC : Tryz.prog.underlying 208 = some (.struct (Tryz.prog.fieldsOf 208)) := by kernel_rfl
theorem XN : Tryz.prog.stoodInHeld 208 = false := by kernel_rfl
theorem XO : Tryz.prog.eqGuardType Tryz.prog.depth 208 = false := by kernel_rfl
theorem Xa (f t f' t' : Nat) (w : World) : (binOp .neq 208 (.agg #[.int .u32 f, .int .u32 t]) (.agg #[.int .u32 f', .int .u32 t'])).run Tryz.prog w = .ok (.bool (!decide ((f, t) = (f', t')))) w := by
 rw [run_neq_struct, run_equalIn_struct w 9999 208 _ _ YC XN]
 simp only [Program.fieldsOf, Tryz.underlying208]
 have hb : (f, t) = (f', t') ↔ f = f' ∧ t = t' := by simp
 have hd : decide ((f, t) = (f', t')) = (((f : Int) == (f' : Int)) && ((t : Int) == (t' : Int))) := by
  rw [Bool.eq_iff_iff]; simp; omega
 rw [hd]
 cases h1 : ((f : Int) == (f' : Int)) <;> cases h2 : ((t : Int) == (t' : Int)) <;> simp [Op.eqFields, part, run_equalIn_int _ 9998 71 .u32 .u32 _ _ Tryz.underlying71, h1, h2, beq_iff_eq, Result.andThen, typeInfo, sizeOf]
end Go.PH
end
section
namespace Go.PH
open Go.RowKit Go.Proofs Go.ChangeShapes Go.WideShapes Go.ChangeAt Go.Deep
variable {H : Type} {enc : TypeId × Value → H} {W : World}
def zah (a : Sp) (cs : List Value) : Prop := cs = sp2 a ∧ a.1 < 4294967296 ∧ a.2 < 4294967296
theorem vD : ∀ (L : List Sp) (xs : List Value), xs.length = L.length * 2 → (∀ i (h : i < L.length), zah L[i] ((xs.drop (i * 2)).take 2)) → xs = ya L ∧ spOK 4294967296 L
 | [], xs, hl, _ => by
  have := List.eq_nil_of_length_eq_zero (by simpa using hl)
  subst this
  exact ⟨rfl, fun z hz => by cases hz⟩
 | a :: L, xs, hl, h => by
  rcases xs with _ | ⟨x, _ | ⟨y, xs⟩⟩
  ·simp at hl
  ·simp at hl; omega
  ·have h0 := h 0 (by simp)
   obtain ⟨e, b1, b2⟩ := h0
   simp [sp2] at e
   obtain ⟨i1, i2⟩ := vD L xs (by simp at hl; omega) (fun i hi => by
    have := h (i + 1) (by simp; omega)
    simpa [Nat.add_mul] using this)
   refine ⟨by rw [e.1, e.2, yG, i1], fun z hz => ?_⟩
   rcases List.mem_cons.1 hz with rfl | hz
   ·exact ⟨b1, b2⟩
   ·exact i2 z hz
theorem RdS.of {A : Option Addr} {n c B : Nat} {xs : List Value} {L : List Sp} (hr : Rd W B 2 A n c xs) (hL : L.length = n) (hR : ∀ i (h : i < L.length), zah L[i] ((xs.drop (i * 2)).take 2)) : RdS W B A n c L ∧ spOK 4294967296 L := by
 obtain ⟨h1, h2⟩ := vD L xs (by rw [hr.len, hL]) hR
 subst h1
 exact ⟨hr, h2⟩
end Go.PH
end
section
namespace Go.PH
open Go.RowKit Go.Proofs
theorem Z9 (A : Option Addr) (n c : Nat) (l : List Sp) (B : Nat) (w : World) (hr : RdS w B A n c l) (hb : spOK 4294967296 l) (hB : B ≤ w.heap.size) (hn : n ≤ 140737488355328) :
  Calls Tryz.prog 122 #[.slice A n c] w fun e w' => e = .returned (.bool (zN l)) ∧ Below w.heap.size w w' := by
 have hl := hr.length
 go_enter Tryz.func122, Tryz.ntmps122
 go_wp2_with (with_reducible refine h_A ?_)
 go_loopw [7] (fun s wr => ∃ (k : Nat), k ≤ n ∧ s = .int .i64 k ∧ zN (l.take k) = true ∧ Below w.heap.size w wr) (fun s _ => n - (RowKit.intOf s).toNat)
 case atStart => exact ⟨0, by omega, rfl, by simp [zN], Below.refl _ _⟩
 case round =>
  obtain ⟨k, hk, rfl, hrk, hBr⟩ := hrel
  by_cases hlt : k < n
  ·have hrr := hr.below (hBr.mono hB)
   obtain ⟨b, off, rfl, hbB, hkl, hc0, hc1⟩ := RdS.at_k hrr hlt
   have hbk := hb l[k] (List.getElem_mem hkl)
   have HN := Lib.hid (XK hkl)
   have hcp := RdS.at_p hrr hk
   have hbp := (Q2 hb (k - 1) (by omega)).2
   generalize (l.getD (k - 1) (0, 0)).2 = t0 at *
   generalize l[k].1 = f at *
   generalize l[k].2 = t at *
   have hB2 : Below w.heap.size w ((wr.alloc (.cells #[.int .u32 (f : Int), .int .u32 (t : Int)] 208))) := hBr.alloc hBr.size _
   by_cases h1 : t < f
   ·have hd : (t : Int) < (f : Int) := by omega
    go_wp2_with (with_reducible refine h_A ?_)
    skip
    go_quiet (fail)
    go_wp2_with (with_reducible refine h_A ?_)
    go_ret
    have e := jN hkl hrk (by rw [HN.out]; omega)
    rw [e]
    exact ⟨rfl, za hB2 _⟩
   ·have hd : decide ((t : Int) < (f : Int)) = false := by simp; omega
    rcases Nat.eq_zero_or_pos k with hk0 | h0
    ·have hd0 : decide (0 < k) = false := by simp; omega
     have hy := kM hkl hrk (by rw [HN.out]; omega)
     clear hk0
     go_wp2_with (with_reducible refine h_A ?_)
     skip
     go_quiet (fail)
     go_wp2_with (with_reducible refine h_A ?_)
     exact ⟨⟨k + 1, by omega, by go_num, hy, za hB2 _⟩, by simp [RowKit.intOf]; omega⟩
    ·have hd0 : (0 : Int) < (k : Int) := by omega
     obtain ⟨b', off', e', _, hc2⟩ := hcp h0
     obtain ⟨rfl, rfl⟩ : b = b' ∧ off = off' := by simpa using e'
     clear e' hcp
     have hbb : b < wr.heap.size := World.block_lt_of_cell? wr _ hc0
     have hc3 := (World.cell?_alloc_past (w := wr) (.cells #[.int .u32 (f : Int), .int .u32 (t : Int)] 208) b (off + (k - 1) * 2 + 1) hbb).trans hc2
     have hw1 : IntKind.i64.wrap ((k : Int) - 1) = ((k - 1 : Nat) : Int) := by rw [IntWalk.i64_in _ ⟨by omega, by omega⟩]; omega
     have hlt1 : ((k - 1 : Nat) : Int) < (n : Int) := by omega
     by_cases h2 : f ≤ t0
     ·have hd1 : (f : Int) ≤ (t0 : Int) := by omega
      go_wp2_with (with_reducible refine h_A ?_)
      skip
      go_quiet (fail)
      go_wp2_with (with_reducible refine h_A ?_)
      go_ret
      have e := jN hkl hrk (by rw [HN.out]; omega)
      rw [e]
      exact ⟨rfl, za hB2 _⟩
     ·have hd1 : decide ((f : Int) ≤ (t0 : Int)) = false := by simp; omega
      by_cases h3 : t0 + 1 = f
      ·have hd3 : (((t0 : Int) + 1) == (f : Int)) = true := by simp; omega
       have hno := jN hkl hrk (by rw [HN.out]; omega)
       clear h3
       go_wp2_with (with_reducible refine h_A ?_)
       skip
       go_quiet (fail)
       go_wp2_with (with_reducible refine h_A ?_)
       go_ret
       rw [hno]
       exact ⟨rfl, za hB2 _⟩
      ·have hd3 : (((t0 : Int) + 1) == (f : Int)) = false := by simp; omega
       have hy := kM hkl hrk (by rw [HN.out]; omega)
       go_wp2_with (with_reducible refine h_A ?_)
       skip
       go_quiet (fail)
       go_wp2_with (with_reducible refine h_A ?_)
       exact ⟨⟨k + 1, by omega, by go_num, hy, za hB2 _⟩, by simp [RowKit.intOf]; omega⟩
  ·obtain rfl : k = n := by omega
   go_wp2_with (with_reducible refine h_A ?_)
   go_ret
   rw [← hl, List.take_length] at hrk
   rw [hrk]
   exact ⟨rfl, hBr⟩
end Go.PH
end
section
namespace Go.PH
open Go.RowKit Go.Proofs
def zQ (l : List Sp) : List UInt8 := l.flatMap fun a => be 4 a.1 ++ be 4 a.2
def yQ (l : List Sp) : List UInt8 := if zN l = true ∧ l.length ≤ 1000 then be 2 (8 * l.length) ++ zQ l else []
def yd (l : List Sp) : Nat := if zN l = true then (if l.length ≤ 1000 then 0 else 6) else 30
theorem Z8 {l : List Sp} {k : Nat} (hk : k < l.length) : zQ (l.take (k + 1)) = zQ (l.take k) ++ be 4 l[k].1 ++ be 4 l[k].2 := by
 unfold zQ; rw [List.take_succ_eq_append_getElem hk, List.flatMap_append]; simp
theorem kW (l : List Sp) : (zQ l).length = 8 * l.length := by
 induction l with
 | nil => rfl
 | cons a l ih =>
  have e : zQ (a :: l) = be 4 a.1 ++ be 4 a.2 ++ zQ l := rfl
  rw [e]; simp only [List.length_append, zn, ih, List.length_cons]; omega
theorem put2 {b : List UInt8} {v : Nat} : puts b v 2 = b ++ be 2 v := yy (by decide)
theorem put4 {b : List UInt8} {v : Nat} : puts b v 4 = b ++ be 4 v := yy (by decide)
theorem Jl (A : Option Addr) (n c : Nat) (l : List Sp) (B : Nat) (w : World) (hr : RdS w B A n c l) (hb : spOK 4294967296 l) (hB : B ≤ w.heap.size) (hn : n ≤ 140737488351232) :
  Calls Tryz.prog 104 #[.slice A n c] w fun e w' => ∃ A2 c2, e = .returned (.tuple #[.slice A2 (yQ l).length c2, .int .i64 (yd l)]) ∧ Own w' w.heap.size 5 1 A2 (yQ l).length c2 ((yQ l).map u8v) ∧ Below w.heap.size w w' := by
 have hl := hr.length
 have hra := Z9 A n c l B w hr hb hB (by omega)
 cases hright : zN l
 ·rw [hright] at hra
  have e1 : yQ l = [] := by simp [yQ, hright]
  have e2 : yd l = 30 := by simp [yd, hright]
  rw [e1, e2]
  go_enter Tryz.func104, Tryz.ntmps104
  go_wp2_with (with_reducible refine h_A ?_)
  refine hra.mono ?_
  rintro e w1 ⟨rfl, hB1⟩
  go_wp2_with (with_reducible refine h_A ?_)
  go_ret2
  exact ⟨none, 0, rfl, Own.none_ _ _ _ _, hB1⟩
 ·rw [hright] at hra
  by_cases h1000 : 1000 < n
  ·have e1 : yQ l = [] := by simp [yQ]; omega
   have e2 : yd l = 6 := by simp [yd, hright]; omega
   rw [e1, e2]
   have hd : (1000 : Int) < (n : Int) := by omega
   clear hright e1 e2
   go_enter Tryz.func104, Tryz.ntmps104
   go_wp2_with (with_reducible refine h_A ?_)
   refine hra.mono ?_
   rintro e w1 ⟨rfl, hB1⟩
   go_wp2_with (with_reducible refine h_A ?_)
   go_ret2
   exact ⟨none, 0, rfl, Own.none_ _ _ _ _, hB1⟩
  ·have e1 : yQ l = be 2 (8 * n) ++ zQ l := by rw [yQ, if_pos ⟨hright, by omega⟩, hl]
   have e2 : yd l = 0 := by rw [yd, if_pos hright, if_pos (by omega)]
   rw [e1, e2]
   have hd : ¬ (1000 : Int) < (n : Int) := by omega
   clear hright e1 e2
   go_enter Tryz.func104, Tryz.ntmps104
   go_wp2_with (with_reducible refine h_A ?_)
   refine hra.mono ?_
   rintro e w1 ⟨rfl, hB1⟩
   have hw8 : IntKind.i64.wrap (8 * (n : Int)) = ((8 * n : Nat) : Int) := by rw [IntWalk.i64_in _ ⟨by omega, by omega⟩]; omega
   have hw9 : IntKind.u64.wrap ((8 * n : Nat) : Int) = ((8 * n : Nat) : Int) := IntWalk.u64_in _ ⟨by omega, by omega⟩
   have hp2 := zX none 0 0 [] (8 * n) 2 w1 (Rd.nil _ _ _ _ (by simp [maxLen]) _) (by omega) (by omega)
   rw [put2, List.nil_append] at hp2
   obtain ⟨n8, hn8⟩ : ∃ n8, n8 = 8 * n := ⟨_, rfl⟩
   rw [← hn8] at hw8 hw9 hp2
   have HN8 := Lib.hid hn8
   clear hn8
   go_wp2_with (with_reducible refine h_A ?_)
   refine hp2.mono ?_
   rintro e w2 ⟨A2, c2, rfl, ho2, hB2⟩
   have hB12 := hB1.trans (hB2.mono hB1.size)
   have ho2' := ho2.base_le hB1.size
   rw [HN8.out] at ho2'
   rw [zn] at ho2' ⊢
   clear ho2 hB1 hB2 hp2
   go_wp2_with (with_reducible refine h_A ?_)
   go_loopw [20, 4] (fun s v wr => ∃ (k N c2 : Nat) (A2 : Option Addr) (out : List UInt8), k ≤ n ∧ s = .int .i64 k ∧ v = .slice A2 N c2 ∧ N = 2 + 8 * k ∧ out = be 2 (8 * n) ++ zQ (l.take k) ∧ Own wr w.heap.size 5 1 A2 N c2 (out.map u8v) ∧ Below w.heap.size w wr) (fun s _ _ => n - (RowKit.intOf s).toNat)
   case atStart => exact ⟨0, 2, c2, A2, be 2 (8 * n), by omega, rfl, rfl, by omega, by simp [zQ], ho2', hB12⟩
   case round =>
    clear ho2' hB12
    obtain ⟨k, N, c2, A2, out, hk, rfl, rfl, hN, hout, ho, hBr⟩ := hrel
    by_cases hlt : k < n
    ·obtain ⟨b, off, rfl, hbB, hkl, hc0, hc1⟩ := RdS.at_k (hr.below (hBr.mono hB)) hlt
     have hbk := hb l[k] (List.getElem_mem hkl)
     have hnx := Z8 hkl
     have HN : Hid (be 2 (8 * n) ++ zQ (l.take (k + 1)) = (out ++ be 4 l[k].1) ++ be 4 l[k].2) := Lib.hid (by rw [hnx, hout]; simp)
     clear hnx hout
     have HNN := Lib.hid hN
     have hN2 : N ≤ 10000 := by omega
     clear hN
     generalize l[k].1 = f at *
     generalize l[k].2 = t at *
     have hB2 : Below w.heap.size w (wr.alloc (.cells #[.int .u32 (f : Int), .int .u32 (t : Int)] 208)) := hBr.alloc hBr.size _
     have ho2 : Own (wr.alloc (.cells #[.int .u32 (f : Int), .int .u32 (t : Int)] 208)) w.heap.size 5 1 A2 N c2 (out.map u8v) := ho.alloc _
     have hq : (wr.alloc (.cells #[.int .u32 (f : Int), .int .u32 (t : Int)] 208)).drew.cell? ⟨wr.heap.size, 0, none⟩ = some (.int .u32 (f : Int)) ∧ (wr.alloc (.cells #[.int .u32 (f : Int), .int .u32 (t : Int)] 208)).drew.cell? ⟨wr.heap.size, 1, none⟩ = some (.int .u32 (t : Int)) := ⟨World.cell?_alloc_new _ _ _ _, World.cell?_alloc_new _ _ _ _⟩
     go_wp2_with (with_reducible refine h_A ?_)
     have hwf : IntKind.u64.wrap ((f : Nat) : Int) = (f : Int) := IntWalk.u64_in _ ⟨by omega, by omega⟩
     have hwt : IntKind.u64.wrap ((t : Nat) : Int) = (t : Int) := IntWalk.u64_in _ ⟨by omega, by omega⟩
     refine zD (fun wx => wx.cell? ⟨wr.heap.size, 0, none⟩ = some (.int .u32 (f : Int)) ∧ wx.cell? ⟨wr.heap.size, 1, none⟩ = some (.int .u32 (t : Int))) (by kernel_rfl) ?_
     refine rg_t 0 hq ?_
     simp only [List.getElem_toArray, List.getElem_cons_zero, Act.put, List.setIfInBounds_toArray, List.set_cons_zero, List.set_cons_succ]
     refine rg_t 1 hq ?_
     simp only [g_S, Act.put]
     refine rg_t 2 hq ?_
     simp only [g_S, Act.put]
     refine rg_t 3 hq ?_
     simp only [g_S, Act.put]
     refine rg_t 5 hq ?_
     simp only [g_S, Act.put]
     refine rg_t 6 hq ?_
     simp only [g_S, Act.put]
     refine rg_t 7 hq ?_
     simp only [g_S, Act.put]
     have hB2d := za hB2 1
     have hkeep : ∀ w4 : World, Below (wr.alloc (.cells #[.int .u32 (f : Int), .int .u32 (t : Int)] 208)).drew.heap.size (wr.alloc (.cells #[.int .u32 (f : Int), .int .u32 (t : Int)] 208)).drew w4 → w4.cell? ⟨wr.heap.size, 0, none⟩ = some (.int .u32 (f : Int)) ∧ w4.cell? ⟨wr.heap.size, 1, none⟩ = some (.int .u32 (t : Int)) := fun w4 hb =>
      ⟨(hb.cell (p := ⟨wr.heap.size, 0, none⟩) (World.block_lt_of_cell? _ _ hq.1)).trans hq.1, (hb.cell (p := ⟨wr.heap.size, 1, none⟩) (World.block_lt_of_cell? _ _ hq.2)).trans hq.2⟩
     have hp4 := zX A2 N c2 out f 4 (wr.alloc (.cells #[.int .u32 (f : Int), .int .u32 (t : Int)] 208)).drew ho2.rd.drew (by omega) (by omega)
     have hlo : out.length = N := RdB.length ho.rd
     have hlen4 : (out ++ be 4 f).length = N + 4 := by simp [zn, hlo]
     have hlen8 : ((out ++ be 4 f) ++ be 4 t).length = N + 8 := by simp [zn, hlo]
     rw [put4, hlen4] at hp4
     refine zi 4 rfl (by kernel_rfl) rfl (fun K hK => ?_)
     go_simp
     refine hp4.mono ?_
     rintro e w4 ⟨A4, c4, rfl, ho4, hB4⟩
     have hq4 := hkeep _ hB4
     have hB24 := hB2d.trans (hB4.mono hB2d.size)
     have ho4' := ho4.base_le hB2d.size
     have hp8 := zX A4 (N + 4) c4 (out ++ be 4 f) t 4 w4 ho4.rd (by omega) (by omega)
     rw [put4, hlen8] at hp8
     refine hK _ _ hq4 ?_; clear hK K
     refine zi 8 rfl (by kernel_rfl) rfl (fun K hK => ?_)
     go_simp
     refine hp8.mono ?_
     rintro e w5 ⟨A5, c5, rfl, ho5, hB5⟩
     have hq5 : w5.cell? ⟨wr.heap.size, 0, none⟩ = some (.int .u32 (f : Int)) ∧ w5.cell? ⟨wr.heap.size, 1, none⟩ = some (.int .u32 (t : Int)) := ⟨(hB5.cell (p := ⟨wr.heap.size, 0, none⟩) (World.block_lt_of_cell? _ _ hq4.1)).trans hq4.1, (hB5.cell (p := ⟨wr.heap.size, 1, none⟩) (World.block_lt_of_cell? _ _ hq4.2)).trans hq4.2⟩
     have hB25 := hB24.trans (hB5.mono hB24.size)
     have ho5' := ho5.base_le hB24.size
     refine hK _ _ hq5 ?_; clear hK K
     refine rg_t 9 hq5 ?_
     simp only [g_S, Act.put]
     refine zK (by kernel_rfl) ?_
     go_wp2_with (with_reducible refine h_A ?_)
     have hNN := HNN.out
     exact ⟨⟨k + 1, N + 8, c5, A5, (out ++ be 4 f) ++ be 4 t, by omega, by go_num, rfl, by omega, HN.out.symm, ho5', hB25⟩, by simp [RowKit.intOf]; omega⟩
    ·obtain rfl : k = n := by omega
     have HO : Hid (out = be 2 (8 * k) ++ zQ l) := Lib.hid (by rw [hout, List.take_of_length_le (by omega)])
     clear hout
     have hlen : (be 2 (8 * k) ++ zQ l).length = N := by rw [← HO.out]; exact RdB.length ho.rd
     have HL := Lib.hid hlen
     clear hlen
     go_wp2_with (with_reducible refine h_A ?_)
     go_ret2
     rw [HL.out, ← HO.out]
     exact ⟨A2, c2, rfl, ho, hBr⟩
end Go.PH
end
section
namespace Go.PH
open Go.RowKit Go.Proofs
end Go.PH
end
section
namespace Go.PH
open Go.RowKit Go.Proofs
theorem Ye {w w' : World} {base e size n c : Nat} {A : Option Addr} {xs : List Value} {row : Option Nat} (ho : Own w base e size A n c xs) (hg : w.grownBy w' row) (h : ∀ g, blk A = some g → row ≠ some g) : Own w' base e size A n c xs :=
 ho.kept hg (by
  rw [yC]
  cases hA : blk A with
  | none => exact .inl rfl
  | some g => exact .inr fun e => h g hA e.symm)
theorem X5 {w w' : World} {base e size n c : Nat} {A : Option Addr} {xs : List Value} (ho : Own w base e size A n c xs) (hB : Below w.heap.size w w') : Own w' base e size A n c xs :=
 ho.kept (Za hB none) (by cases hv : (Value.slice A n c).ownBlock <;> simp)
theorem YL {l : List UInt8} {x : Nat} (hx : x = 1 ∨ x = 2 ∨ x = 4 ∨ x = 8) (h : x ≤ l.length) : mnum l false (x : Int) = (unbe (l.take x), l.drop x, false) := by
 rw [xV (xM (by omega)), xq h]
theorem X6 {l : List UInt8} {x : Nat} (hx : x = 1 ∨ x = 2 ∨ x = 4 ∨ x = 8) (h : l.length < x) : mnum l false (x : Int) = (0, [], true) := by
 rw [xV (xM (by omega)), jl (.inr (.inr (by omega)))]; rfl
theorem qm {l : List UInt8} {x : Nat} : unbe (l.take x) < 256 ^ x := by
 have h1 := kt (l.take x)
 have h2 : (l.take x).length ≤ x := by simp; omega
 exact Nat.lt_of_lt_of_le h1 (Nat.pow_le_pow_right (by omega) h2)
def ye (k : Nat) (l : List UInt8) : List Sp := (List.range k).map fun i => (unbe ((l.drop (8 * i)).take 4), unbe ((l.drop (8 * i + 4)).take 4))
theorem Zl (k : Nat) (l : List UInt8) : ye (k + 1) l = ye k l ++ [(unbe ((l.drop (8 * k)).take 4), unbe ((l.drop (8 * k + 4)).take 4))] := by
 unfold ye; rw [List.range_succ, List.map_append]; rfl
theorem vd (k : Nat) (l : List UInt8) : spOK 4294967296 (ye k l) := by
 intro a ha
 obtain ⟨i, _, rfl⟩ := List.mem_map.1 ha
 exact ⟨qm, qm⟩
theorem j3 (k : Nat) (l : List UInt8) : (ye k l).length = k := by simp [ye]
def getN (b : List UInt8) : Nat := unbe (b.take 2)
def zL (b : List UInt8) : Nat :=
 if b.length < 2 then 4 else if getN b % 8 ≠ 0 ∨ 1000 < getN b / 8 then 5 else if b.length < 2 + getN b then 4 else if zN (ye (getN b / 8) (b.drop 2)) = true then 0 else 5
def xG (b : List UInt8) : List Sp := if zL b = 0 then ye (getN b / 8) (b.drop 2) else []
def qn (b : List UInt8) : Nat := if zL b = 0 then getN b + 2 else 0
theorem qJ {b : List UInt8} {e : Nat} (h : zL b = e) (he : e ≠ 0) : xG b = [] ∧ qn b = 0 := by
 unfold xG qn; rw [h]; simp [he]
theorem JC (A : Option Addr) (n c : Nat) (b : List UInt8) (w : World) (hr : RdB w w.heap.size A n c b) (hn : n ≤ 140737488351232) :
  Calls Tryz.prog 161 #[.slice A n c] w fun e w' => ∃ A2 c2, e = .returned (.tuple #[.slice A2 (xG b).length c2, .int .i64 (qn b), .int .i64 (zL b)]) ∧ OwnS w' w.heap.size A2 (xG b).length c2 (xG b) ∧ Below w.heap.size w w' := by
 have hl := RdB.length hr
 by_cases h2 : b.length < 2
 ·have hx : zL b = 4 := by rw [zL, if_pos h2]
  have HE := Lib.hid (qJ hx (by omega))
  have HX := Lib.hid hx
  clear hx
  have hm : mnum b false 2 = (0, [], true) := X6 (x := 2) (by omega) h2
  go_enter Tryz.func161, Tryz.ntmps161
  go_wp2_with (with_reducible refine h_A ?_)
  refine (xj A n c b w hr (by omega)).mono ?_
  rintro e w1 ⟨rb, vb, rfl, hrbb, hvb, hR1, hB1⟩
  have hrn := zP hR1 2 (by omega) (by omega)
  rw [hm] at hrn
  go_wp2_with (with_reducible refine h_A ?_)
  refine hrn.mono ?_
  rintro e w2 ⟨rfl, hR2, hg2⟩
  have hB2 := hB1.grown hg2 hB1.size (fun g hg => by injection hg with hg; omega)
  go_wp2_with (with_reducible refine h_A ?_)
  refine (zY hR2).mono ?_
  rintro e w3 ⟨rfl, rfl⟩
  go_wp2_with (with_reducible refine h_A ?_)
  go_ret3
  rw [HE.out.1, HE.out.2, HX.out]
  exact ⟨none, 0, rfl, Own.none_ _ _ _ _, hB2⟩
 ·have hm : mnum b false 2 = (unbe (b.take 2), b.drop 2, false) := YL (x := 2) (by omega) (by omega)
  have hN : getN b < 65536 := qm
  have hgn : unbe (b.take 2) = getN b := rfl
  rw [hgn] at hm
  have hdl : (b.drop 2).length = b.length - 2 := by simp
  have HGE : Hid (zL b = if getN b % 8 ≠ 0 ∨ 1000 < getN b / 8 then 5 else if b.length < 2 + getN b then 4 else if zN (ye (getN b / 8) (b.drop 2)) = true then 0 else 5) := Lib.hid (by rw [zL, if_neg h2])
  have HGS : Hid (zL b = 0 → xG b = ye (getN b / 8) (b.drop 2) ∧ qn b = getN b + 2) := Lib.hid (fun h => by unfold xG qn; rw [h]; simp)
  go_enter Tryz.func161, Tryz.ntmps161
  go_wp2_with (with_reducible refine h_A ?_)
  refine (xj A n c b w hr (by omega)).mono ?_
  rintro e w1 ⟨rb, vb, rfl, hrbb, hvb, hR1, hB1⟩
  have hrn := zP hR1 2 (by omega) (by omega)
  rw [hm] at hrn
  generalize getN b = N at *
  generalize hrest : b.drop 2 = rest at *
  have hrb : b.length = rest.length + 2 := by omega
  have HDL := Lib.hid hdl
  clear hdl
  clear hm hgn
  have hwN : IntKind.i64.wrap ((N : Nat) : Int) = (N : Int) := IntWalk.i64_in _ ⟨by omega, by omega⟩
  go_wp2_with (with_reducible refine h_A ?_)
  refine hrn.mono ?_
  rintro e w2 ⟨rfl, hR2, hg2⟩
  have hB2 := hB1.grown hg2 hB1.size (fun g hg => by injection hg with hg; omega)
  have hz2 : w1.heap.size ≤ w2.heap.size := hg2.size
  clear hg2 hrn hR1
  have HREST := Lib.hid hrest
  clear hrest
  have HRB := Lib.hid hrb
  clear hrb
  obtain ⟨Q, hQ⟩ : ∃ Q, Q = N / 8 := ⟨_, rfl⟩
  have hq8 : (N : Int) / 8 = (Q : Int) := by omega
  rw [← hQ] at HGE HGS
  go_wp2_with (with_reducible refine h_A ?_)
  refine (zY hR2).mono ?_
  rintro e w3 ⟨rfl, rfl⟩
  by_cases h8 : N % 8 = 0
  ·have hd8 : ((N : Int) % 8 != 0) = false := by simp; omega
   by_cases hk : 1000 < Q
   ·have hdk : (1000 : Int) < (Q : Int) := by omega
    have hx : zL b = 5 := by rw [HGE.out, if_pos (.inr hk)]
    have HE := Lib.hid (qJ hx (by omega))
    have HX := Lib.hid hx
    clear hx hQ h8
    go_wp2_with (with_reducible refine h_A ?_)
    go_ret3
    rw [HE.out.1, HE.out.2, HX.out]
    exact ⟨none, 0, rfl, Own.none_ _ _ _ _, hB2⟩
   ·have hdk : decide ((1000 : Int) < (Q : Int)) = false := by simp; omega
    have hNQ := Lib.hid (show N = 8 * Q by omega)
    clear hQ
    go_wp2_with (with_reducible refine h_A ?_)
    refine (yh hR2).mono ?_
    rintro e w4 ⟨rfl, rfl⟩
    by_cases hlr : rest.length < N
    ·have hdl' : (rest.length : Int) < (N : Int) := by omega
     have hx : zL b = 4 := by have := HRB.out; rw [HGE.out, if_neg (by omega), if_pos (by omega)]
     have HE := Lib.hid (qJ hx (by omega))
     have HX := Lib.hid hx
     clear hx h8
     go_wp2_with (with_reducible refine h_A ?_)
     go_ret3
     rw [HE.out.1, HE.out.2, HX.out]
     exact ⟨none, 0, rfl, Own.none_ _ _ _ _, hB2⟩
    ·have hdl' : ¬ (rest.length : Int) < (N : Int) := by omega
     have HGE2 : Hid (zL b = if zN (ye Q rest) = true then 0 else 5) := Lib.hid (by have := HRB.out; rw [HGE.out, if_neg (by omega), if_neg (by omega)])
     clear h8
     go_wp2_with (with_reducible refine h_A ?_)
     go_loopw [31, 7] (fun s v wr => ∃ (k c2 : Nat) (A2 : Option Addr) (out : List Sp), k ≤ Q ∧ s = .int .i64 k ∧ v = .slice A2 out.length c2 ∧ out = ye k rest ∧ OwnS wr w1.heap.size A2 out.length c2 out ∧ Rdr (fun g => w.heap.size ≤ g ∧ g < w1.heap.size) wr (.pointer (some ⟨rb, 0, none⟩)) (some vb) (rest.drop (8 * k)) false ∧ w1.heap.size ≤ wr.heap.size ∧ Below w.heap.size w wr) (fun s _ _ => Q - (RowKit.intOf s).toNat)
     case atStart => exact ⟨0, 0, none, [], by omega, rfl, rfl, by simp [ye], Own.none_ _ _ _ _, by simpa using hR2, hz2, hB2⟩
     case round =>
      clear hR2 hz2 hB2
      obtain ⟨k, c2, A2, out, hk', rfl, rfl, hout, ho, hR, hz, hBr⟩ := hrel
      have hkl : out.length = k := by rw [hout, j3]
      by_cases hlt : k < Q
      ·have hdq : (k : Int) < (Q : Int) := by omega
       have hNQ' := hNQ.out
       have hn1 := zP hR 4 (by omega) (by omega)
       have hm1 : mnum (rest.drop (8 * k)) false 4 = (unbe ((rest.drop (8 * k)).take 4), (rest.drop (8 * k)).drop 4, false) := YL (x := 4) (by omega) (by simp; omega)
       rw [hm1] at hn1
       have hm2 : mnum ((rest.drop (8 * k)).drop 4) false 4 = (unbe ((rest.drop (8 * k + 4)).take 4), rest.drop (8 * (k + 1)), false) := by
        have := YL (l := rest.drop (8 * k + 4)) (x := 4) (by omega) (by simp; omega)
        rw [List.drop_drop]
        exact this.trans (by rw [List.drop_drop, show 8 * k + 4 + 4 = 8 * (k + 1) by omega])
       have HNX : Hid (ye (k + 1) rest = out ++ [(unbe ((rest.drop (8 * k)).take 4), unbe ((rest.drop (8 * k + 4)).take 4))]) := Lib.hid (by rw [Zl, hout])
       have hv1 : unbe ((rest.drop (8 * k)).take 4) < 4294967296 := qm
       have hv2 : unbe ((rest.drop (8 * k + 4)).take 4) < 4294967296 := qm
       have hAF : ∀ g, blk A2 = some g → ¬ (w.heap.size ≤ g ∧ g < w1.heap.size) := fun g hg h => by have := (ho.blk_lt hg).1; omega
       have hFv : w.heap.size ≤ vb ∧ vb < w1.heap.size := hR.inF rfl
       have hvA : ∀ g, blk A2 = some g → some vb ≠ some g := fun g hg e => by injection e with e; subst e; exact hAF _ hg hFv
       clear hout hNQ' hm1
       generalize unbe ((rest.drop (8 * k)).take 4) = v1 at *
       generalize unbe ((rest.drop (8 * k + 4)).take 4) = v2 at *
       have hw1 : IntKind.u32.wrap ((v1 : Nat) : Int) = (v1 : Int) := IntWalk.u32_in _ ⟨by omega, by omega⟩
       have hw2 : IntKind.u32.wrap ((v2 : Nat) : Int) = (v2 : Int) := IntWalk.u32_in _ ⟨by omega, by omega⟩
       have HKL := Lib.hid hkl
       have hol : out.length ≤ 1000 := by omega
       clear hkl
       go_wp2_with (with_reducible refine h_A ?_)
       refine hn1.mono ?_
       rintro e w5 ⟨rfl, hR5, hg5⟩
       have hB5 := hBr.grown hg5 hBr.size (fun g hg => by injection hg with hg; omega)
       have ho5 : OwnS w5 w1.heap.size A2 out.length c2 out := Ye ho hg5 hvA
       have hz5 : w1.heap.size ≤ w5.heap.size := Nat.le_trans hz hg5.size
       have hn2 := zP hR5 4 (by omega) (by omega)
       rw [hm2] at hn2
       clear hn1 hg5 hm2
       go_wp2_with (with_reducible refine h_A ?_)
       refine hn2.mono ?_
       rintro e w6 ⟨rfl, hR6, hg6⟩
       have hB6 := hB5.grown hg6 hB5.size (fun g hg => by injection hg with hg; omega)
       have ho6 : OwnS w6 w1.heap.size A2 out.length c2 out := Ye ho5 hg6 hvA
       have hz6 : w1.heap.size ≤ w6.heap.size := Nat.le_trans hz5 hg6.size
       clear hn2 hg6 hR5 ho5 ho hR
       go_wp2_with (with_reducible refine h_A ?_)
       refine zc (VY slS Tryz.underlying74 rfl rfl rfl rfl rfl v1 v2 rfl rfl ho6 (by omega) hz6 ?_)
       intro A7 c7 w7 ho7 hg7 _ hB7
       have hR7 := hR6.kept hg7 hAF
       have hz7 : w1.heap.size ≤ w7.heap.size := Nat.le_trans hz6 hg7.size
       have hB67 := hB6.trans (hB7.mono (by have := hB1.size; omega))
       go_wp2_with (with_reducible refine h_A ?_)
       have hkl := HKL.out
       exact ⟨⟨k + 1, c7, A7, out ++ [(v1, v2)], by omega, by go_num, by simp, HNX.out.symm, by simpa using ho7, hR7, hz7, hB67⟩, by simp [RowKit.intOf]; omega⟩
      ·obtain rfl : k = Q := by omega
       have hdq : decide ((k : Int) < (k : Int)) = false := by simp
       have hok := vd k rest
       rw [← hout] at hok
       have hrr := Z9 A2 out.length c2 out _ wr ho.rd hok (Nat.le_refl _) (by omega)
       have HO := Lib.hid hout
       have hbase := hB1.size
       cases hri : zN out
       ·rw [hri] at hrr
        have hx : zL b = 5 := by rw [HGE2.out, ← HO.out, hri]; rfl
        have HE := Lib.hid (qJ hx (by omega))
        have HX := Lib.hid hx
        clear hx hout hri hkl
        go_wp2_with (with_reducible refine h_A ?_)
        refine hrr.mono ?_
        rintro e w8 ⟨rfl, hB8⟩
        have hB9 := hBr.trans (hB8.mono hBr.size)
        go_wp2_with (with_reducible refine h_A ?_)
        go_ret3
        rw [HE.out.1, HE.out.2, HX.out]
        exact ⟨none, 0, rfl, Own.none_ _ _ _ _, hB9⟩
       ·rw [hri] at hrr
        have hx : zL b = 0 := by rw [HGE2.out, ← HO.out, hri]; rfl
        have hgs := HGS.out hx
        rw [← HO.out] at hgs
        have HG := Lib.hid hgs
        have HX := Lib.hid hx
        have hw2 : IntKind.i64.wrap ((N : Int) + 2) = ((N + 2 : Nat) : Int) := by rw [IntWalk.i64_in _ ⟨by omega, by omega⟩]; omega
        clear hx hout hri hgs hkl
        go_wp2_with (with_reducible refine h_A ?_)
        refine hrr.mono ?_
        rintro e w8 ⟨rfl, hB8⟩
        have hB9 := hBr.trans (hB8.mono hBr.size)
        have ho8 := X5 ho hB8
        have ho9 := ho8.base_le hbase
        go_wp2_with (with_reducible refine h_A ?_)
        go_ret3
        rw [HG.out.1, HG.out.2, HX.out]
        exact ⟨A2, c2, by first | rfl | simp, ho9, hB9⟩
  ·have hd8 : ((N : Int) % 8 != 0) = true := by simp; omega
   have hx : zL b = 5 := by rw [HGE.out, if_pos (.inl h8)]
   have HE := Lib.hid (qJ hx (by omega))
   have HX := Lib.hid hx
   clear hx h8 hQ
   go_wp2_with (with_reducible refine h_A ?_)
   go_ret3
   rw [HE.out.1, HE.out.2, HX.out]
   exact ⟨none, 0, rfl, Own.none_ _ _ _ _, hB2⟩
end Go.PH
end
section
namespace Go.PH
theorem Zn (k : Nat) (l : List UInt8) : ye (k + 1) l = (unbe (l.take 4), unbe ((l.drop 4).take 4)) :: ye k (l.drop 8) := by
 unfold ye
 rw [List.range_succ_eq_map, List.map_cons, List.map_map]
 congr 1
 apply List.map_congr_left
 intro i _
 simp only [Function.comp, List.drop_drop]
 rw [show 8 * Nat.succ i = 8 + 8 * i by omega, show 8 + 8 * i + 4 = 8 + (8 * i + 4) by omega]
theorem qK : ∀ (l : List Sp) (r : List UInt8), spOK 4294967296 l → ye l.length (zQ l ++ r) = l
 | [], r, _ => rfl
 | a :: l, r, h => by
  have ha := h a (by simp)
  have e : zQ (a :: l) ++ r = be 4 a.1 ++ (be 4 a.2 ++ (zQ l ++ r)) := by
   show be 4 a.1 ++ be 4 a.2 ++ zQ l ++ r = _
   simp
  rw [List.length_cons, Zn, e]
  have l1 := zn 4 a.1
  have l2 := zn 4 a.2
  have d1 : (be 4 a.1 ++ (be 4 a.2 ++ (zQ l ++ r))).drop 4 = be 4 a.2 ++ (zQ l ++ r) := by rw [List.drop_append_of_le_length (by omega), List.drop_of_length_le (by omega)]; rfl
  have d2 : (be 4 a.1 ++ (be 4 a.2 ++ (zQ l ++ r))).drop 8 = zQ l ++ r := by
   rw [show (8 : Nat) = 4 + 4 from rfl, ← List.drop_drop, d1, List.drop_append_of_le_length (by omega), List.drop_of_length_le (by omega)]; rfl
  rw [d1, d2, List.take_append_of_le_length (by omega), List.take_of_length_le (by omega), List.take_append_of_le_length (by omega), List.take_of_length_le (by omega), jE, jE, qK l r (fun z hz => h z (by simp [hz]))]
  congr 1
  exact Prod.ext (Nat.mod_eq_of_lt ha.1) (Nat.mod_eq_of_lt ha.2)
theorem V1 {l : List Sp} (r : List UInt8) (hr : zN l = true) (hn : l.length ≤ 1000) (h : spOK 4294967296 l) : zL (yQ l ++ r) = 0 ∧ xG (yQ l ++ r) = l ∧ qn (yQ l ++ r) = (yQ l).length := by
 have e : yQ l = be 2 (8 * l.length) ++ zQ l := by rw [yQ, if_pos ⟨hr, by omega⟩]
 have lb := zn 2 (8 * l.length)
 have ls := kW l
 have hN : getN (yQ l ++ r) = 8 * l.length := by
  unfold getN
  rw [e, List.append_assoc, List.take_append_of_le_length (by omega), List.take_of_length_le (by omega), jE, Nat.mod_eq_of_lt (by omega)]
 have hd : (yQ l ++ r).drop 2 = zQ l ++ r := by
  rw [e, List.append_assoc, List.drop_append_of_le_length (by omega), List.drop_of_length_le (by omega)]; rfl
 have hl : (yQ l ++ r).length = 2 + 8 * l.length + r.length := by rw [e]; simp only [List.length_append, lb, ls]
 have hq : 8 * l.length / 8 = l.length := by omega
 have h0 : zL (yQ l ++ r) = 0 := by
  rw [zL, hN, hd, hq, if_neg (by omega), if_neg (by omega), if_neg (by omega), qK l r h, hr]; rfl
 refine ⟨h0, ?_, ?_⟩
 ·rw [xG, h0, hN, hd, hq, qK l r h]; rfl
 ·rw [qn, h0, hN, e]; simp only [List.length_append, lb, ls]; simp; omega
end Go.PH
end
section
namespace Go.PH
open Go.RowKit
section
variable {P : Program} {w : World} {t : TypeId}
theorem xg (l : List UInt8) (a b : Nat) : (str l).extract a b = str ((l.take b).drop a) := by
 rw [List.drop_take]; exact ByteArray.extract_mk l a b
theorem Yn (a b : List UInt8) : str a ++ str b = str (a ++ b) := by
 apply ByteArray.ext
 simp [str]
theorem vW (hu : P.underlying t = some .string) (w : World) {l : List UInt8} {lo hi : Option Value} (i j : Nat) (hlo : Bd lo 0 i) (hhi : Bd hi l.length j) (h1 : i ≤ j) (h2 : j ≤ l.length) :
  (Instr.sliceAt t (.string (str l)) lo hi none).run P w = .ok (.string (str ((l.take j).drop i))) w := by
 rw [run_sliceAt_string w t _ _ _ _ hu]
 rcases hlo with ⟨rfl, rfl⟩ | ⟨kd, X, rfl, rfl⟩
 ·rcases hhi with ⟨rfl, rfl⟩ | ⟨kd, X, rfl, rfl⟩
  ·rw [run_slice_string_all (h := hu), zj, xg]
  ·rw [run_slice_string_h (ht := hu) (h0 := by omega) (h2 := by rw [zj]; omega), xg]; simp
 ·rcases hhi with ⟨rfl, rfl⟩ | ⟨kd', X, rfl, rfl⟩
  ·rw [run_slice_string_l (ht := hu) (h0 := by omega) (h1 := by rw [zj]; omega), zj, xg]; simp
  ·rw [run_slice_string (h := hu) (h0 := by omega) (h1 := by omega) (h2 := by rw [zj]; omega), xg]; simp
variable {ops : Array Oper} {rest : List Oper} {o : Oper} {a : Act} {Q : Exit → Act → World → Prop} {x : Operand} {K : Act → World → Prop}
theorem qF {lo hi : Option Operand} (hu : P.underlying t = some .string) (ho : o.op = .slice t x lo hi none) {l : List UInt8} (hx : a.eval x = .string (str l)) (i j : Nat) (hlo : Bd (lo.map a.eval) 0 i) (hhi : Bd (hi.map a.eval) l.length j) (h1 : i ≤ j) (h2 : j ≤ l.length) :
  (execOp a.eval o).run P w = .ok (.value (.string (str ((l.take j).drop i)))) w := by
 have hrun := vW hu w i j hlo hhi h1 h2
 unfold execOp
 simp only [ho, hx, Sem.run_bind, Sem.run_pure, Result.andThen_ok, Option.map_none, hrun]
theorem Vk {lo hi : Option Operand} (hu : P.underlying t = some .string) (ho : o.op = .slice t x lo hi none) {l : List UInt8} (hx : a.eval x = .string (str l)) (i j : Nat) (hlo : Bd (lo.map a.eval) 0 i) (hhi : Bd (hi.map a.eval) l.length j) (h1 : i ≤ j) (h2 : j ≤ l.length)
  (hk : K (a.put o.dst (.string (str ((l.take j).drop i)))) w) : o.wp P a w K Q := by
 have hrun := vW hu w i j hlo hhi h1 h2
 unfold Oper.wp execOp
 simp only [ho, hx, Sem.run_bind, Sem.run_pure, Result.andThen_ok, Option.map_none, hrun]
 exact hk
theorem Qz {lo hi : Option Operand} (hu : P.underlying t = some .string) (hw : Region.wanted o (yielded ops a.tmps) = true) (ho : o.op = .slice t x lo hi none) {l : List UInt8} (hx : a.eval x = .string (str l)) (i j : Nat) (hlo : Bd (lo.map a.eval) 0 i) (hhi : Bd (hi.map a.eval) l.length j) (h1 : i ≤ j) (h2 : j ≤ l.length)
  (hk : wpList P ops Q rest (a.put o.dst (.string (str ((l.take j).drop i)))) w) : wpList P ops Q (o :: rest) a w :=
 BigFrame.wpList_want hw fun K hK => Vk hu ho hx i j hlo hhi h1 h2 (hK _ _ hk)
theorem Vm {src dst e : TypeId} (hs : P.underlying src = some .string) (hd : P.underlying dst = some (.slice e)) (he : P.underlying e = some (.int .u8)) (w : World) (l : List UInt8) (hl : l.length ≤ 140737488351240) :
  ∃ c w', (convert src dst (.string (str l))).run P w = .ok (.slice (some ⟨w.heap.size, 0, none⟩) l.length c) w' ∧ RdB w' w'.heap.size (some ⟨w.heap.size, 0, none⟩) l.length c l ∧ Below w.heap.size w w' := by
 refine ⟨_, _, Lib.run_convert_string_bytes w src dst e (str l) hs hd he, ?_, ?_⟩
 ·refine ⟨by simp, ?_, ?_, fun hn => ⟨_, _, rfl, by rw [Lib.bytesWorld_size]; omega, fun j u hu => ?_⟩⟩
  ·exact grownCap_ge _ _ _ _
  ·exact grownCap_le_maxLen _ _ _ _ (by simp only [maxLen, zj]; omega)
  ·have hj : j < l.length := by have := (List.getElem?_eq_some_iff.1 hu).1; simpa using this
   have := Lib.bytesWorld_cell w e (str l) j (by rw [zj]; exact hj)
   simp only [Nat.zero_add]
   rw [this]
   simp [u8v, str, List.getD, hj] at hu ⊢
   exact hu
 ·refine ⟨?_, ?_, ?_, by rw [Lib.bytesWorld_size]; omega, fun k hk => Lib.bytesWorld_at_old w e (str l) k hk⟩
  all_goals rfl
theorem zac {src dst e : TypeId} (hs : P.underlying src = some .string) (hd : P.underlying dst = some (.slice e)) (he : P.underlying e = some (.int .u8)) (ho : o.op = .convert src dst x) {l : List UInt8} (hx : a.eval x = .string (str l)) (hl : l.length ≤ 140737488351240)
  (hk : ∀ c w', RdB w' w'.heap.size (some ⟨w.heap.size, 0, none⟩) l.length c l → Below w.heap.size w w' → K (a.put o.dst (.slice (some ⟨w.heap.size, 0, none⟩) l.length c)) w') : o.wp P a w K Q := by
 obtain ⟨c, w', hrun, h1, h2⟩ := Vm hs hd he w l hl
 unfold Oper.wp execOp
 simp only [ho, hx, Sem.run_bind, Sem.run_pure, Result.andThen_ok, hrun]
 exact hk _ _ h1 h2
theorem zad {src dst e : TypeId} (hs : P.underlying src = some .string) (hd : P.underlying dst = some (.slice e)) (he : P.underlying e = some (.int .u8)) (hw : Region.wanted o (yielded ops a.tmps) = true) (ho : o.op = .convert src dst x) {l : List UInt8} (hx : a.eval x = .string (str l)) (hl : l.length ≤ 140737488351240)
  (hk : ∀ c w', RdB w' w'.heap.size (some ⟨w.heap.size, 0, none⟩) l.length c l → Below w.heap.size w w' → wpList P ops Q rest (a.put o.dst (.slice (some ⟨w.heap.size, 0, none⟩) l.length c)) w') : wpList P ops Q (o :: rest) a w :=
 BigFrame.wpList_want hw fun K hK => zac hs hd he ho hx hl fun c w' h1 h2 => hK _ _ (hk c w' h1 h2)
end
end Go.PH
end

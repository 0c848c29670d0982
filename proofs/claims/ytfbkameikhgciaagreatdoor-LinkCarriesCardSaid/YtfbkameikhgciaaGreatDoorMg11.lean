/- Texts laid together: OctRefPut, SpMath, SpMath2, SpMath3, SpMath4, SpMath5, SpMath6, SpMath7, SpMem, SpPush, SpRRight, SpSame, SpSee, SpWalk, SpPut, SpPutR, SpGetM, SpBackM, Str, GaCut. -/
import Derived.Deep.QuietTactic
import Derived.BigQuiet
import Derived.Laws.StructEq
import Derived.Lib.ConvBytes
import Derived.Deep.CutRange
import Derived.WalkMore
import Derived.Test.YtfbkameikhgciaaGreatDoorMg00
import Derived.Test.YtfbkameikhgciaaGreatDoorMg01
import Derived.Test.YtfbkameikhgciaaGreatDoorMg03
import Derived.Test.YtfbkameikhgciaaGreatDoorMg04
import Derived.Test.YtfbkameikhgciaaGreatDoorMg05
import Derived.Test.YtfbkameikhgciaaGreatDoorMg07
import Derived.Test.YtfbkameikhgciaaGreatDoorMg08
import Derived.Test.YtfbkameikhgciaaGreatDoorMg09
import Derived.Test.YtfbkameikhgciaaGreatDoorMg10
set_option linter.all false
set_option linter.unusedSimpArgs false
set_option linter.unusedVariables false
section
/- The walks of the reference's Put and PutText. -/
namespace Go.PH
open Go.RowKit Go.Proofs

set_option maxHeartbeats 1000000 in
theorem rput_any (A : Option Addr) (n c : Nat) (l : List UInt8) (v : Nat) (x : Int) (w : World) (hb : RdB w w.heap.size A n c l) (hv : v < 18446744073709551616) (hn : n ≤ 140737488355320) :
  Calls Tryz.prog 114 #[.slice A n c, .int .u64 v, .int .i64 x] w fun e w' => ∃ A2 c2, e = .returned (.slice A2 (puts l v x).length c2) ∧ Own w' w.heap.size 5 1 A2 (puts l v x).length c2 ((puts l v x).map u8v) ∧ Below w.heap.size w w' := by
 have hl := hb.length
 go_enter Tryz.func114, Tryz.ntmps114
 go_wp2_with (with_reducible refine h_A ?_)
 refine unhold (wp_app slB rfl rfl rfl rfl (Own.none_ w w.heap.size _ _) hb (map_one _) (by omega) (by simp [maxLen]; omega) (Nat.le_refl _) ?_)
 intro A1 c1 w1 ho1 hg1 _
 have hB1 : Below w.heap.size w w1 := (Below.refl _ _).grown hg1 (Nat.le_refl _) (by simp [blk])
 simp only [Nat.zero_add, List.nil_append] at ho1
 have hz1 := hB1.size
 go_wp2_with (with_reducible refine h_A ?_)
 refine (rwidth_any x w1).mono ?_
 rintro e w2 ⟨rfl, rfl⟩
 by_cases hw : wideB x = true
 ·have h8 := wideB_le hw
  obtain ⟨i, rfl⟩ : ∃ i : Nat, x = i := ⟨x.toNat, by omega⟩
  have HP := Lib.hid (puts_yes (b := l) (n := v) hw)
  rw [hw]
  go_wp2_with (with_reducible refine h_A ?_)
  refine (rnumber_any v i w2 hv (by omega)).mono ?_
  rintro e w3 ⟨A3, c3, rfl, ho3, hB3⟩
  have ho13 : Own w3 w.heap.size 5 1 A1 n c1 (l.map u8v) := ho1.kept (row := none) ⟨hB3.os, hB3.tape, hB3.output, hB3.size, fun k hk _ => hB3.block k hk⟩ (by cases hv : (Value.slice A1 n c1).ownBlock <;> simp)
  have hB13 := hB1.trans (hB3.mono hz1)
  go_wp2_with (with_reducible refine h_A ?_)
  refine unhold (wp_app slB rfl rfl rfl rfl ho13 ho3.rd (map_one _) (by omega) (by simp [maxLen]; omega) hB13.size ?_)
  intro A4 c4 w4 ho4 hg4 _
  have hB4 := hB13.grown hg4 hB13.size (fun g hg => (ho13.blk_lt hg).1)
  rw [← List.map_append] at ho4
  go_wp2_with (with_reducible refine h_A ?_)
  go_ret
  rw [HP.out]
  simp only [List.length_append, be_length, Int.toNat_natCast, hl]
  exact ⟨A4, c4, by first | rfl | simp, ho4, hB4⟩
 ·have hw' : wideB x = false := by simpa using hw
  have HP := Lib.hid (puts_no (b := l) (n := v) hw')
  rw [hw']
  go_wp2_with (with_reducible refine h_A ?_)
  go_ret
  rw [HP.out, hl]
  exact ⟨A1, c1, rfl, ho1, hB1⟩

theorem most_any (w : World) (x : Int) (h : x = 1 ∨ x = 2 ∨ x = 4) : Calls Tryz.prog 113 #[.int .i64 x] w fun e w' => e = .returned (.int .i64 ((256 ^ x.toNat - 1 : Nat) : Int)) ∧ w' = w := by
 rcases h with rfl | rfl | rfl
 all_goals
  go_enter Tryz.func113, Tryz.ntmps113
  go_wp2_with (with_reducible refine h_A ?_)
  go_ret
  exact ⟨rfl, rfl⟩

set_option maxHeartbeats 1000000 in
theorem rputtext_any (A : Option Addr) (n c : Nat) (l s : List UInt8) (x : Int) (w : World) (hb : RdB w w.heap.size A n c l) (hs : s.length ≤ 140737488351232) (hn : n ≤ 140737488351240) :
  Calls Tryz.prog 95 #[.slice A n c, .string (str s), .int .i64 x] w fun e w' => ∃ A2 c2, e = .returned (.tuple #[.slice A2 (putsText l s x).length c2, .int .i64 (textErr s.length x)]) ∧ Own w' w.heap.size 5 1 A2 (putsText l s x).length c2 ((putsText l s x).map u8v) ∧ Below w.heap.size w w' := by
 have hl := hb.length
 have hss := str_size s
 by_cases hw : x = 1 ∨ x = 2 ∨ x = 4
 ·have hwide := wideB_yes (w := x) (by omega)
  by_cases hlen : s.length < 256 ^ x.toNat
  ·have he : textErr s.length x = 0 := by unfold textErr; rw [if_pos hw, if_pos hlen]
   have hsl : s.length < 4294967296 := by
    rcases hw with rfl | rfl | rfl
    all_goals (simp at hlen; omega)
   have hcmp : ¬ ((256 ^ x.toNat - 1 : Nat) : Int) < (s.length : Int) := by
    have := Nat.pow_pos (n := x.toNat) (show 0 < 256 by omega)
    omega
   have hMx := most_any w x hw
   rw [he, putsText_ok he]
   have hpy := puts_yes (b := l) (n := s.length) hwide
   have hP := rput_any A n c l s.length x w hb (by omega) (by omega)
   rw [hpy] at hP
   have hbl : (l ++ be x.toNat s.length).length ≤ n + 8 := by
    rw [List.length_append, be_length, hl]
    have := wideB_le hwide
    omega
   generalize l ++ be x.toNat s.length = l2 at hP hbl ⊢
   generalize (256 ^ x.toNat - 1 : Nat) = M at hMx hcmp
   clear hpy hlen
   rcases hw with rfl | rfl | rfl
   all_goals
    go_enter Tryz.func95, Tryz.ntmps95
    go_wp2_with (with_reducible refine h_A ?_)
    refine hMx.mono ?_
    rintro e w1 ⟨rfl, rfl⟩
    go_wp2_with (with_reducible refine h_A ?_)
    refine hP.mono ?_
    rintro e w2 ⟨A2, c2, rfl, ho2, hB2⟩
    go_wp2_with (with_reducible refine h_A ?_)
    refine unhold (wp_app_strW slB Tryz.underlying9 rfl rfl rfl rfl ho2 (by omega) (by omega) hB2.size ?_)
    intro A3 c3 w3 ho3 hg3
    have hB3 := hB2.grown hg3 hB2.size (fun g hg => (ho2.blk_lt hg).1)
    rw [← List.map_append] at ho3
    go_wp2_with (with_reducible refine h_A ?_)
    go_ret2
    rw [List.length_append]
    exact ⟨A3, c3, by first | rfl | simp, ho3, hB3⟩
  ·have he : textErr s.length x = 3 := by unfold textErr; rw [if_pos hw, if_neg hlen]
   have hcmp : ((256 ^ x.toNat - 1 : Nat) : Int) < (s.length : Int) := by
    have := Nat.pow_pos (n := x.toNat) (show 0 < 256 by omega)
    omega
   have hMx := most_any w x hw
   rw [he, putsText_err (by rw [he]; omega)]
   generalize (256 ^ x.toNat - 1 : Nat) = M at hMx hcmp
   clear hlen
   rcases hw with rfl | rfl | rfl
   all_goals
    go_enter Tryz.func95, Tryz.ntmps95
    go_wp2_with (with_reducible refine h_A ?_)
    refine hMx.mono ?_
    rintro e w1 ⟨rfl, rfl⟩
    go_wp2_with (with_reducible refine h_A ?_)
    go_ret2
    exact ⟨none, 0, rfl, Own.none_ _ _ _ _, Below.refl _ _⟩
 ·have he : textErr s.length x = 2 := by unfold textErr; rw [if_neg hw]
  have b1 : (x != 1) = true := by simp; omega
  have b2 : (x != 2) = true := by simp; omega
  have b4 : (x != 4) = true := by simp; omega
  rw [he, putsText_err (by rw [he]; omega)]
  go_enter Tryz.func95, Tryz.ntmps95
  go_wp2_with (with_reducible refine h_A ?_)
  go_ret2
  exact ⟨none, 0, rfl, Own.none_ _ _ _ _, Below.refl _ _⟩
end Go.PH
end
section
/- Rows of spans as plain mathematics: a right row is told by its members. No program in sight. -/
namespace Go.PH

abbrev Sp := Nat × Nat
/-- a row is right: each span the right way round, a gap ahead of each but the first -/
def spRight : List Sp → Bool
 | [] => true
 | [a] => decide (a.1 ≤ a.2)
 | a :: b :: l => decide (a.1 ≤ a.2) && decide (a.2 + 2 ≤ b.1) && spRight (b :: l)
end Go.PH
end
section
/- Adding to, and cutting out of, a right row, as plain mathematics. -/
namespace Go.PH

end Go.PH
end
section
/- What Add tells: a right row with the numbers put in. -/
namespace Go.PH

end Go.PH
end
section
/- The reference's way: edges, and the spans between them, as plain mathematics. -/
namespace Go.PH

end Go.PH
end
section
/- The reference's row between edges, as plain mathematics: right, with the members that are asked for. -/
namespace Go.PH

end Go.PH
end
section
/- What Has, Both, Either tell, as plain mathematics. -/
namespace Go.PH

end Go.PH
end
section
/- Rows by their beginnings; how many numbers a row has; as plain mathematics. -/
namespace Go.PH

/-- bounds -/
def spOK (N : Nat) (l : List Sp) : Prop := ∀ a ∈ l, a.1 < N ∧ a.2 < N
end Go.PH
end
section
/- Slices of spans in memory. -/
namespace Go.PH
open Go.RowKit Go.Proofs

def sp2 (a : Sp) : List Value := [.int .u32 (a.1 : Int), .int .u32 (a.2 : Int)]
def spCells (l : List Sp) : List Value := l.flatMap sp2
theorem spCells_cons (a : Sp) (l : List Sp) : spCells (a :: l) = .int .u32 (a.1 : Int) :: .int .u32 (a.2 : Int) :: spCells l := rfl
theorem spCells_len (l : List Sp) : (spCells l).length = l.length * 2 := by
 induction l with
 | nil => rfl
 | cons a l ih => rw [spCells_cons]; simp only [List.length_cons, ih]; omega
theorem spCells_take : ∀ (l : List Sp) (k : Nat), (spCells l).take (k * 2) = spCells (l.take k)
 | [], k => by simp [spCells]
 | a :: l, 0 => by simp [spCells]
 | a :: l, k + 1 => by rw [spCells_cons, show (k + 1) * 2 = k * 2 + 1 + 1 by omega, List.take_succ_cons, List.take_succ_cons, spCells_take l k, List.take_succ_cons, spCells_cons]
theorem spCells_drop : ∀ (l : List Sp) (k : Nat), (spCells l).drop (k * 2) = spCells (l.drop k)
 | [], k => by simp [spCells]
 | a :: l, 0 => by simp
 | a :: l, k + 1 => by rw [spCells_cons, show (k + 1) * 2 = k * 2 + 1 + 1 by omega, List.drop_succ_cons, List.drop_succ_cons, spCells_drop l k, List.drop_succ_cons]
theorem spCells_get : ∀ (l : List Sp) (k : Nat) (h : k < l.length), (spCells l)[k * 2]? = some (.int .u32 (l[k].1 : Int)) ∧ (spCells l)[k * 2 + 1]? = some (.int .u32 (l[k].2 : Int))
 | a :: l, 0, _ => by simp [spCells_cons]
 | a :: l, k + 1, h => by
  have := spCells_get l k (by simpa using h)
  rw [spCells_cons, show (k + 1) * 2 = k * 2 + 1 + 1 by omega]
  simpa using this
/-- a slice of spans -/
abbrev RdS (w : World) (B : Nat) (A : Option Addr) (n c : Nat) (l : List Sp) : Prop := Rd w B 2 A n c (spCells l)
variable {w w' : World} {B n c : Nat} {A : Option Addr} {l : List Sp}
theorem RdS.length (h : RdS w B A n c l) : l.length = n := by have := h.len; rw [spCells_len] at this; omega
theorem RdS.at_k (h : RdS w B A n c l) {k : Nat} (hk : k < n) : ∃ b off, A = some ⟨b, off, none⟩ ∧ b < B ∧ ∃ hl : k < l.length, w.cell? ⟨b, off + k * 2, none⟩ = some (.int .u32 (l[k].1 : Int)) ∧ w.cell? ⟨b, off + k * 2 + 1, none⟩ = some (.int .u32 (l[k].2 : Int)) := by
 obtain ⟨b, off, e, hb, hc⟩ := h.at_ (by omega)
 have hl := h.length
 have hg := spCells_get l k (by omega)
 exact ⟨b, off, e, hb, by omega, hc _ _ hg.1, by have := hc _ _ hg.2; rwa [← Nat.add_assoc] at this⟩
theorem RdS.cut {lo k : Nat} (hr : RdS w B A n c l) (h : lo + k ≤ n) : RdS w B (cutA A 2 lo c) k (c - lo) ((l.drop lo).take k) := by
 have h1 := rd_cut hr lo (lo + k) c (by omega) (by have := hr.cap; omega) (Nat.le_refl _) h
 rw [spCells_take, spCells_drop, List.drop_take, Nat.add_sub_cancel_left] at h1
 exact h1
end Go.PH
end
section
/- A span put behind an own row. -/
namespace Go.PH
open Go.RowKit Go.Proofs

end Go.PH
end
section
/- Whether spans stand right, as the document says: its walk. -/
namespace Go.PH
open Go.RowKit Go.Proofs

end Go.PH
end
section
/- The walks of the reference's Copy and Same of spans. -/
namespace Go.PH
open Go.RowKit Go.Proofs

theorem span_fields : Tryz.prog.underlying 208 = some (.struct (Tryz.prog.fieldsOf 208)) := by kernel_rfl
theorem span_stood : Tryz.prog.stoodInHeld 208 = false := by kernel_rfl
theorem span_guard : Tryz.prog.eqGuardType Tryz.prog.depth 208 = false := by kernel_rfl
theorem span_neq (f t f' t' : Nat) (w : World) : (binOp .neq 208 (.agg #[.int .u32 f, .int .u32 t]) (.agg #[.int .u32 f', .int .u32 t'])).run Tryz.prog w = .ok (.bool (!decide ((f, t) = (f', t')))) w := by
 rw [run_neq_struct, run_equalIn_struct w 9999 208 _ _ span_fields span_stood]
 simp only [Program.fieldsOf, Tryz.underlying208]
 have hb : (f, t) = (f', t') ↔ f = f' ∧ t = t' := by simp
 have hd : decide ((f, t) = (f', t')) = (((f : Int) == (f' : Int)) && ((t : Int) == (t' : Int))) := by
  rw [Bool.eq_iff_iff]; simp; omega
 rw [hd]
 cases h1 : ((f : Int) == (f' : Int)) <;> cases h2 : ((t : Int) == (t' : Int)) <;> simp [Op.eqFields, part, run_equalIn_int _ 9998 71 .u32 .u32 _ _ Tryz.underlying71, h1, h2, beq_iff_eq, Result.andThen, typeInfo, sizeOf]

end Go.PH
end
section
/- Reading rows of spans. -/
namespace Go.PH
open Go.RowKit Go.Proofs Go.ChangeShapes Go.WideShapes Go.ChangeAt Go.Deep
variable {H : Type} {enc : TypeId × Value → H} {W : World}

def RSpan (a : Sp) (cs : List Value) : Prop := cs = sp2 a ∧ a.1 < 4294967296 ∧ a.2 < 4294967296
theorem spCells_of : ∀ (L : List Sp) (xs : List Value), xs.length = L.length * 2 → (∀ i (h : i < L.length), RSpan L[i] ((xs.drop (i * 2)).take 2)) → xs = spCells L ∧ spOK 4294967296 L
 | [], xs, hl, _ => by
  have := List.eq_nil_of_length_eq_zero (by simpa using hl)
  subst this
  exact ⟨rfl, fun z hz => by cases hz⟩
 | a :: L, xs, hl, h => by
  rcases xs with _ | ⟨x, _ | ⟨y, xs⟩⟩
  ·simp at hl
  ·simp at hl; omega
  ·have h0 := h 0 (by simp)
   obtain ⟨e, b1, b2⟩ := h0
   simp [sp2] at e
   obtain ⟨i1, i2⟩ := spCells_of L xs (by simp at hl; omega) (fun i hi => by
    have := h (i + 1) (by simp; omega)
    simpa [Nat.add_mul] using this)
   refine ⟨by rw [e.1, e.2, spCells_cons, i1], fun z hz => ?_⟩
   rcases List.mem_cons.1 hz with rfl | hz
   ·exact ⟨b1, b2⟩
   ·exact i2 z hz
theorem RdS.of {A : Option Addr} {n c B : Nat} {xs : List Value} {L : List Sp} (hr : Rd W B 2 A n c xs) (hL : L.length = n) (hR : ∀ i (h : i < L.length), RSpan L[i] ((xs.drop (i * 2)).take 2)) : RdS W B A n c L ∧ spOK 4294967296 L := by
 obtain ⟨h1, h2⟩ := spCells_of L xs (by rw [hr.len, hL]) hR
 subst h1
 exact ⟨hr, h2⟩
end Go.PH
end
section
/- The walks of spans: Right. -/
namespace Go.PH
open Go.RowKit Go.Proofs

end Go.PH
end
section
/- The walks of spans' Put and of its reference's. -/
namespace Go.PH
open Go.RowKit Go.Proofs

def spBytes (l : List Sp) : List UInt8 := l.flatMap fun a => be 4 a.1 ++ be 4 a.2
def spPut (l : List Sp) : List UInt8 := if spRight l = true ∧ l.length ≤ 1000 then be 2 (8 * l.length) ++ spBytes l else []
def spPutErr (l : List Sp) : Nat := if spRight l = true then (if l.length ≤ 1000 then 0 else 6) else 30
theorem spBytes_len (l : List Sp) : (spBytes l).length = 8 * l.length := by
 induction l with
 | nil => rfl
 | cons a l ih =>
  have e : spBytes (a :: l) = be 4 a.1 ++ be 4 a.2 ++ spBytes l := rfl
  rw [e]; simp only [List.length_append, be_length, ih, List.length_cons]; omega
end Go.PH
end
section
/- The walk of Put of spans, the document's. -/
namespace Go.PH
open Go.RowKit Go.Proofs

end Go.PH
end
section
/- The walks of spans' Get and of its reference's. -/
namespace Go.PH
open Go.RowKit Go.Proofs

end Go.PH
end
section
/- What is put is got, and what is got is put, as plain mathematics. -/
namespace Go.PH

end Go.PH
end
section
/- Texts: cut, put together, turned into bytes. -/
namespace Go.PH
open Go.RowKit
section
variable {P : Program} {w : World} {t : TypeId}
theorem str_extract (l : List UInt8) (a b : Nat) : (str l).extract a b = str ((l.take b).drop a) := by
 rw [List.drop_take]; exact ByteArray.extract_mk l a b
theorem str_app (a b : List UInt8) : str a ++ str b = str (a ++ b) := by
 apply ByteArray.ext
 simp [str]
theorem run_cutS (hu : P.underlying t = some .string) (w : World) {l : List UInt8} {lo hi : Option Value} (i j : Nat) (hlo : Bd lo 0 i) (hhi : Bd hi l.length j) (h1 : i ≤ j) (h2 : j ≤ l.length) :
  (Instr.sliceAt t (.string (str l)) lo hi none).run P w = .ok (.string (str ((l.take j).drop i))) w := by
 rw [run_sliceAt_string w t _ _ _ _ hu]
 rcases hlo with ⟨rfl, rfl⟩ | ⟨kd, X, rfl, rfl⟩
 ·rcases hhi with ⟨rfl, rfl⟩ | ⟨kd, X, rfl, rfl⟩
  ·rw [run_slice_string_all (h := hu), str_size, str_extract]
  ·rw [run_slice_string_h (ht := hu) (h0 := by omega) (h2 := by rw [str_size]; omega), str_extract]; simp
 ·rcases hhi with ⟨rfl, rfl⟩ | ⟨kd', X, rfl, rfl⟩
  ·rw [run_slice_string_l (ht := hu) (h0 := by omega) (h1 := by rw [str_size]; omega), str_size, str_extract]; simp
  ·rw [run_slice_string (h := hu) (h0 := by omega) (h1 := by omega) (h2 := by rw [str_size]; omega), str_extract]; simp
variable {ops : Array Oper} {rest : List Oper} {o : Oper} {a : Act} {Q : Exit → Act → World → Prop} {x : Operand} {K : Act → World → Prop}
theorem exec_cutS {lo hi : Option Operand} (hu : P.underlying t = some .string) (ho : o.op = .slice t x lo hi none) {l : List UInt8} (hx : a.eval x = .string (str l)) (i j : Nat) (hlo : Bd (lo.map a.eval) 0 i) (hhi : Bd (hi.map a.eval) l.length j) (h1 : i ≤ j) (h2 : j ≤ l.length) :
  (execOp a.eval o).run P w = .ok (.value (.string (str ((l.take j).drop i)))) w := by
 have hrun := run_cutS hu w i j hlo hhi h1 h2
 unfold execOp
 simp only [ho, hx, Sem.run_bind, Sem.run_pure, Result.andThen_ok, Option.map_none, hrun]
/-- []byte(s) -/
theorem run_s2b {src dst e : TypeId} (hs : P.underlying src = some .string) (hd : P.underlying dst = some (.slice e)) (he : P.underlying e = some (.int .u8)) (w : World) (l : List UInt8) (hl : l.length ≤ 140737488351240) :
  ∃ c w', (convert src dst (.string (str l))).run P w = .ok (.slice (some ⟨w.heap.size, 0, none⟩) l.length c) w' ∧ RdB w' w'.heap.size (some ⟨w.heap.size, 0, none⟩) l.length c l ∧ Below w.heap.size w w' := by
 refine ⟨_, _, Lib.run_convert_string_bytes w src dst e (str l) hs hd he, ?_, ?_⟩
 ·refine ⟨by simp, ?_, ?_, fun hn => ⟨_, _, rfl, by rw [Lib.bytesWorld_size]; omega, fun j u hu => ?_⟩⟩
  ·exact grownCap_ge _ _ _ _
  ·exact grownCap_le_maxLen _ _ _ _ (by simp only [maxLen, str_size]; omega)
  ·have hj : j < l.length := by have := (List.getElem?_eq_some_iff.1 hu).1; simpa using this
   have := Lib.bytesWorld_cell w e (str l) j (by rw [str_size]; exact hj)
   simp only [Nat.zero_add]
   rw [this]
   simp [u8v, str, List.getD, hj] at hu ⊢
   exact hu
 ·refine ⟨?_, ?_, ?_, by rw [Lib.bytesWorld_size]; omega, fun k hk => Lib.bytesWorld_at_old w e (str l) k hk⟩
  all_goals rfl
theorem op_s2b {src dst e : TypeId} (hs : P.underlying src = some .string) (hd : P.underlying dst = some (.slice e)) (he : P.underlying e = some (.int .u8)) (ho : o.op = .convert src dst x) {l : List UInt8} (hx : a.eval x = .string (str l)) (hl : l.length ≤ 140737488351240)
  (hk : ∀ c w', RdB w' w'.heap.size (some ⟨w.heap.size, 0, none⟩) l.length c l → Below w.heap.size w w' → K (a.put o.dst (.slice (some ⟨w.heap.size, 0, none⟩) l.length c)) w') : o.wp P a w K Q := by
 obtain ⟨c, w', hrun, h1, h2⟩ := run_s2b hs hd he w l hl
 unfold Oper.wp execOp
 simp only [ho, hx, Sem.run_bind, Sem.run_pure, Result.andThen_ok, hrun]
 exact hk _ _ h1 h2
theorem wp_s2b {src dst e : TypeId} (hs : P.underlying src = some .string) (hd : P.underlying dst = some (.slice e)) (he : P.underlying e = some (.int .u8)) (hw : Region.wanted o (yielded ops a.tmps) = true) (ho : o.op = .convert src dst x) {l : List UInt8} (hx : a.eval x = .string (str l)) (hl : l.length ≤ 140737488351240)
  (hk : ∀ c w', RdB w' w'.heap.size (some ⟨w.heap.size, 0, none⟩) l.length c l → Below w.heap.size w w' → wpList P ops Q rest (a.put o.dst (.slice (some ⟨w.heap.size, 0, none⟩) l.length c)) w') : wpList P ops Q (o :: rest) a w :=
 BigFrame.wpList_want hw fun K hK => op_s2b hs hd he ho hx hl fun c w' h1 h2 => hK _ _ (hk c w' h1 h2)
end
end Go.PH
end
section
/- The walk of gather's Cut. -/
namespace Go.PH
open Go.RowKit Go.Proofs

def strLenV : Value → Nat
 | .string z => z.size
 | _ => 0
def cutF (most : Int) (a : As) : List Fr := if cutErr most a = 0 then cutAs most.toNat a else []
set_option maxRecDepth 20000 in
set_option maxHeartbeats 4000000 in
theorem gcut_any (a : As) (most : Int) (A : Option Addr) (n c : Nat) (B : Nat) (w : World) (hr : RdG w B A n c a.segs) (hB : B ≤ w.heap.size) (hw : a.wf) (hs : ∀ s ∈ a.segs, s.load.length ≤ 140737488351232) (hn : n ≤ 140737488351232) :
  Calls Tryz.prog 44 #[.agg (asV a.chan a.track A n c), .int .i64 most] w fun e w' => ∃ A2 c2, e = .returned (.tuple #[.slice A2 (cutF most a).length c2, .int .i64 (cutErr most a : Int)]) ∧ OwnF w' w.heap.size A2 (cutF most a).length c2 (cutF most a) ∧ Below w.heap.size w w' := by
 have hck := fun (W : World) (h : Below w.heap.size w W) => gcheck_any a A n c w.heap.size W ((hr.more hB).below h) h.size hw hs hn
 obtain ⟨xb, w0, hqb, hqv, hX, hB0⟩ := alloc_stepG w (asV a.chan a.track A n c) 42
 have hxw : w.heap.size ≤ xb := by omega
 by_cases c1 : most < 1
 ·have e1 : cutErr most a = 2 := by simp [cutErr, c1]
  have e2 : cutF most a = [] := by simp [cutF, e1]
  rw [e1, e2]
  clear e1 e2 hck hX
  unfold asV at *
  go_enter Tryz.func44, Tryz.ntmps44
  go_wp2_with (with_reducible refine h_A ?_)
  go_step3
  go_wp2_with (with_reducible refine h_A ?_)
  rw [Exit.noGoto_ret]
  go_ret2
  exact ⟨none, 0, rfl, Own.none_ _ _ _ _, by rw [← hqv]; exact hB0⟩
 have d1 : decide (most < 1) = false := by simp; omega
 by_cases c2 : 4084 < most
 ·have e1 : cutErr most a = 2 := by simp [cutErr, c2]
  have e2 : cutF most a = [] := by simp [cutF, e1]
  rw [e1, e2]
  clear e1 e2 hck hX
  unfold asV at *
  go_enter Tryz.func44, Tryz.ntmps44
  go_wp2_with (with_reducible refine h_A ?_)
  go_step3
  go_wp2_with (with_reducible refine h_A ?_)
  rw [Exit.noGoto_ret]
  go_ret2
  exact ⟨none, 0, rfl, Own.none_ _ _ _ _, by rw [← hqv]; exact hB0⟩
 have d2 : decide (4084 < most) = false := by simp; omega
 obtain ⟨M, rfl⟩ : ∃ M : Nat, most = (M : Int) := ⟨most.toNat, by omega⟩
 have hM1 : 1 ≤ M := by omega
 have hM2 : M ≤ 4084 := by omega
 cases hok : asOk a
 ·have e1 : cutErr (M : Int) a = 70 := by simp [cutErr, c1, c2, hok]
  have e2 : cutF (M : Int) a = [] := by simp [cutF, e1]
  have e3 : asErr a = 70 := by simp [asErr, hok]
  rw [e1, e2]
  rw [e3] at hck
  clear e1 e2 e3 hok
  unfold asV at *
  go_enter Tryz.func44, Tryz.ntmps44
  go_wp2_with (with_reducible refine h_A ?_)
  rw [← hqb, ← hqv]
  go_step3
  clear hqb hqv
  have x0 := hX.c0
  have x1 := hX.c1
  have x2 := hX.c2
  go_wp2_with (with_reducible refine h_A ?_)
  refine (hck _ hB0).mono ?_
  rintro e w1 ⟨rfl, hB1⟩
  have hB2 := hB0.trans (hB1.mono hB0.size)
  go_wp2_with (with_reducible refine h_A ?_)
  rw [Exit.noGoto_ret]
  go_ret2
  exact ⟨none, 0, rfl, Own.none_ _ _ _ _, hB2⟩
 ·have e1 : cutErr (M : Int) a = 0 := by simp [cutErr, c1, c2, hok]
  have e2 : cutF (M : Int) a = cutAs M a := by simp [cutF, e1]
  have e3 : asErr a = 0 := by simp [asErr, hok]
  rw [e1, e2]
  rw [e3] at hck
  have hmost := cutAs_len hM1 hok
  obtain ⟨hn4, hsum, hne⟩ := asOk_few hok
  have hnl := rec_length sgShape hr
  have hel := fun {i : Nat} (hi : i < n) => rec_at sgShape hr hi
  obtain ⟨FS, hFS⟩ : ∃ l, l = cutAs M a := ⟨_, rfl⟩
  rw [← hFS] at hmost ⊢
  have HST : Hid (FS = [] ++ cutL M a.chan a.track n 0 (a.segs.drop 0)) := Lib.hid (by rw [hFS, cutAs, hnl]; rfl)
  have HM := Lib.hid hmost
  have HN := Lib.hid hnl
  have HSM := Lib.hid hsum
  have HTY := Lib.hid hw.2.2
  obtain ⟨hch, htr, _⟩ := hw
  clear e1 e2 e3 hok hFS hne hmost hsum hnl hs hr c1 c2
  obtain ⟨ch, tr, l⟩ := a
  simp only at *
  unfold asV at *
  go_enter Tryz.func44, Tryz.ntmps44
  go_wp2_with (with_reducible refine h_A ?_)
  rw [← hqb, ← hqv]
  go_step3
  clear hqb hqv
  have x0 := hX.c0
  have x1 := hX.c1
  have x2 := hX.c2
  go_wp2_with (with_reducible refine h_A ?_)
  refine (hck _ hB0).mono ?_
  rintro e w1 ⟨rfl, hB1⟩
  have hX1 := hX.below hB1
  have hB2 := hB0.trans (hB1.mono hB0.size)
  clear hck hX hB1 hB0 x0 x1 x2
  clear w0
  have x0 := hX1.c0
  have x1 := hX1.c1
  have x2 := hX1.c2
  go_wp2_with (with_reducible refine h_A ?_)
  go_step3
  go_wp2_with (with_reducible refine h_A ?_)
  go_loopw [7, 27] (fun s7 s27 wr => ∃ (i N c2 : Nat) (A2 : Option Addr) (D : List Fr), i ≤ n ∧ s7 = .slice A2 N c2 ∧ s27 = .int .i64 (i : Int) ∧ N ≤ 16388 ∧ Hid (D.length = N) ∧ Hid (FS = D ++ cutL M ch tr n i (l.drop i)) ∧ OwnF wr (xb + 1) A2 N c2 D ∧ Box wr xb 42 #[.int .u16 (ch : Int), .int .u8 (tr : Int), .slice A n c] ∧ Below w.heap.size w wr) (fun _ s27 _ => n - (RowKit.intOf s27).toNat)
  case atStart => exact ⟨0, 0, 0, none, [], by omega, rfl, rfl, by omega, Lib.hid rfl, HST, Own.none_ _ _ _ _, hX1, hB2⟩
  case round =>
   clear HST x0 x1 x2 hX1 hB2 w1
   obtain ⟨i, N, c2, A2, D, hi, rfl, rfl, hN, HD, HC, hO, hX, hBr⟩ := hrel
   have x0 := hX.c0
   have x1 := hX.c1
   have x2 := hX.c2
   by_cases hlt : i < n
   ·have g1 : (i : Int) < (n : Int) := by omega
    obtain ⟨b, off, rfl, hbB, hkl, hcl⟩ := hel hlt
    have hbw : b < w.heap.size := by omega
    have k0 : wr.cell? ⟨b, off + i * 2, none⟩ = some (.int .u8 (l[i].ty : Int)) := (hBr.cell (p := ⟨b, off + i * 2, none⟩) hbw).trans (hcl 0 _ rfl)
    have k1 : wr.cell? ⟨b, off + i * 2 + 1, none⟩ = some (.string (str l[i].load)) := (hBr.cell (p := ⟨b, off + i * 2 + 1, none⟩) hbw).trans (hcl 1 _ rfl)
    have hty := HTY.out _ (List.getElem_mem hkl)
    have hsl := Nat.le_trans (sgLen_mem (List.getElem_mem hkl)) HSM.out
    have HC2 : Hid (FS = D ++ (cutN M ⟨decide (i = 0), decide (i + 1 = n), true, false, l[i].ty, tr, ch, []⟩ l[i].load ++ cutL M ch tr n (i + 1) (l.drop (i + 1)))) := Lib.hid (by rw [HC.out, List.drop_eq_getElem_cons hkl, cutL_cons])
    clear hcl HC
    generalize l[i] = s at *
    obtain ⟨T, hT⟩ : ∃ T, T = cutL M ch tr n (i + 1) (l.drop (i + 1)) := ⟨_, rfl⟩
    rw [← hT] at HC2
    have HT := Lib.hid hT
    clear hT
    obtain ⟨b1, hb1⟩ : ∃ b, b = decide (i = 0) := ⟨_, rfl⟩
    obtain ⟨b2, hb2⟩ : ∃ b, b = decide (i + 1 = n) := ⟨_, rfl⟩
    rw [← hb1, ← hb2] at HC2
    have q1 : ((i : Int) == 0) = b1 := by rw [hb1, Bool.eq_iff_iff]; simp
    have q2 : ((i : Int) == (n : Int) - 1) = b2 := by rw [hb2, Bool.eq_iff_iff]; simp; omega
    clear hb1 hb2
    obtain ⟨sb, w2, hqb, hqv, hS, hB2⟩ := alloc_stepG wr #[.int .u8 0, .string ⟨#[]⟩] 84
    go_wp2_with (with_reducible refine h_B ?_)
    rw [← hqb, ← hqv]
    have hsw : xb < sb := by rw [hqb]; exact hX.lt
    have hsb : wr.heap.size ≤ sb := by rw [hqb]; exact Nat.le_refl _
    clear hqb hqv
    refine unhold (wp_box (v := .agg #[.int .u8 (s.ty : Int), .string (str s.load)]) (vs := [.int .u8 (s.ty : Int), .string (str s.load)]) rfl rfl rfl rfl hS rfl (by kernel_rfl) (by simp) (by simp [Value.oneCell']) #[.int .u8 (s.ty : Int), .string (str s.load)] (by simp) ?_)
    intro w3 hS3 hg3 hzz
    clear hzz
    have hX3 := (hX.below hB2).grown hg3 (sne (by omega))
    have hO3 := own_stays (own_below hO hB2) hg3 (fun g hg e => by injection e with e; have := (hO.blk_lt hg).2; omega)
    have hB3 : Below w.heap.size w w3 := (hBr.trans (hB2.mono hBr.size)).grown hg3 (Nat.le_trans hBr.size hB2.size) (fun g hg => by injection hg with hg; omega)
    clear hS hg3 hB2 hO x0 x1 x2 k0 k1 hBr hX hsb
    have x0 := hX3.c0
    have x1 := hX3.c1
    have x2 := hX3.c2
    have s0 := hS3.c0
    have s1 := hS3.c1
    obtain ⟨fb, w4, hqb, hqv, hF, hB4⟩ := alloc_stepG w3 #[.bool false, .bool false, .bool false, .bool false, .int .u8 0, .int .u8 0, .int .u16 0, .string ⟨#[]⟩] 97
    go_wp2_with (with_reducible refine h_B ?_)
    rw [← hqb, ← hqv]
    have hfx : xb < fb := by rw [hqb]; exact hX3.lt
    have hfs : sb < fb := by rw [hqb]; exact hS3.lt
    have hfw : w3.heap.size ≤ fb := by rw [hqb]; exact Nat.le_refl _
    clear hqb hqv
    refine unhold (wp_box (v := .agg #[.bool b1, .bool b2, .bool true, .bool false, .int .u8 (s.ty : Int), .int .u8 (tr : Int), .int .u16 (ch : Int), .string ⟨#[]⟩]) (vs := [.bool b1, .bool b2, .bool true, .bool false, .int .u8 (s.ty : Int), .int .u8 (tr : Int), .int .u16 (ch : Int), .string ⟨#[]⟩]) rfl rfl rfl rfl hF rfl (by kernel_rfl) (by simp) (by simp [Value.oneCell']) #[.bool b1, .bool b2, .bool true, .bool false, .int .u8 (s.ty : Int), .int .u8 (tr : Int), .int .u16 (ch : Int), .string ⟨#[]⟩] (by simp) ?_)
    intro w5 hF5 hg5 hzz
    clear hzz
    have hX5 := (hX3.below hB4).grown hg5 (sne (by omega))
    have hS5 := (hS3.below hB4).grown hg5 (sne (by omega))
    have hO5 := own_stays (own_below hO3 hB4) hg5 (fun g hg e => by injection e with e; have := (hO3.blk_lt hg).2; omega)
    have hAf : ∀ g, blk A2 = some g → g ≠ fb := fun g hg e => by have := (hO3.blk_lt hg).2; omega
    have hB5 : Below w.heap.size w w5 := (hB3.trans (hB4.mono hB3.size)).grown hg5 (Nat.le_trans hB3.size hB4.size) (fun g hg => by injection hg with hg; omega)
    clear hF hg5 hB4 hO3 x0 x1 x2 s0 s1 hB3 hX3 hS3
    clear hfw
    have s1 := hS5.c1
    go_wp2_with (with_reducible refine h_B ?_)
    have hO6 := hO5
    have hN' := hN
    go_loopw [7, 11] (fun s7 s11 wr => ∃ (N c2 : Nat) (A2 : Option Addr) (D : List Fr) (rest : List UInt8) (bg fi : Bool) (pl : List UInt8), s7 = .slice A2 N c2 ∧ s11 = .string (str rest) ∧ N ≤ 16388 ∧ rest.length ≤ 16384 ∧ Hid (D.length = N) ∧ Hid (FS = D ++ (cutN M ⟨b1, b2, bg, false, s.ty, tr, ch, []⟩ rest ++ T)) ∧ OwnF wr (xb + 1) A2 N c2 D ∧ (∀ g, blk A2 = some g → g ≠ fb) ∧
     Box wr xb 42 #[.int .u16 (ch : Int), .int .u8 (tr : Int), .slice (some ⟨b, off, none⟩) n c] ∧ Box wr fb 97 #[.bool b1, .bool b2, .bool bg, .bool fi, .int .u8 (s.ty : Int), .int .u8 (tr : Int), .int .u16 (ch : Int), .string (str pl)] ∧ Below w.heap.size w wr) (fun _ s11 _ => strLenV s11)
    case atStart => exact ⟨N, c2, A2, D, s.load, true, false, [], rfl, rfl, hN, hsl, HD, HC2, hO6, hAf, hX5, hF5, hB5⟩
    case round =>
     clear hO6 hO5 hN' hN HD HC2 hAf hX5 hF5 hB5 hS5 s1 hsl hsw hfs
     obtain ⟨N, c2, A2, D, rest, bg, fi, pl, rfl, rfl, hN, hrl, HD, HC, hO, hAf, hX, hF, hBr⟩ := hrel
     obtain ⟨R, hR⟩ : ∃ R, R = rest.length := ⟨_, rfl⟩
     have hss : (str rest).size = R := by rw [hR]; exact str_size rest
     have hRm : R ≤ 16384 := by omega
     obtain ⟨K, hK⟩ : ∃ K, K = min M R := ⟨_, rfl⟩
     have hmin : (if R < M then (R : Int) else (M : Int)) = (K : Int) := by split <;> omega
     have hmin2 : min (M : Int) (R : Int) = (K : Int) := by omega
     have hKR : K ≤ R := by omega
     have hRl : R ≤ rest.length := by omega
     have hRl2 : rest.length ≤ R := by omega
     have HK := Lib.hid hK
     have HRL := Lib.hid hR
     clear hR hK
     go_upto_region 14 with fail
     refine rg_start (fun W : World => True) (by kernel_rfl) ?_
     have hS : True := trivial
     have hX7 : Box wr.drew xb 42 #[.int .u16 (ch : Int), .int .u8 (tr : Int), .slice (some ⟨b, off, none⟩) n c] := hX
     have hF7 : Box wr.drew fb 97 #[.bool b1, .bool b2, .bool bg, .bool fi, .int .u8 (s.ty : Int), .int .u8 (tr : Int), .int .u16 (ch : Int), .string (str pl)] := hF
     have hO7 : OwnF wr.drew (xb + 1) A2 N c2 D := hO
     have hB7 : Below w.heap.size w wr.drew := below_drewN hBr 1
     clear hX hF hO hBr
     generalize wr.drew = w7 at *
     refine rg_t 0 hS ?_
     simp only [List.getElem_toArray, List.getElem_cons_zero, Act.put, List.setIfInBounds_toArray, List.set_cons_zero, List.set_cons_succ]
     refine rg_t 1 hS ?_
     simp only [g_S, Act.put]
     refine rg_take 2 (v := ?_) rfl (by kernel_rfl) (by kernel_rfl) (by kernel_rfl) hS rfl ?_ ?_
     rotate_left
     ·intro wS hSw; rw [exec_cutS (x := .tmp 54) (lo := none) (hi := some <| .tmp 55) Tryz.underlying9 (l := rest) (i := 0) (j := K)] <;> first | rfl | omega | exact .inl ⟨rfl, rfl⟩ | exact .inr ⟨_, _, rfl, rfl⟩
     simp only [g_S, Act.put]
     refine rg_t 3 hS ?_
     simp only [g_S, Act.put]
     refine rg_t 4 hS ?_
     simp only [g_S, Act.put]
     refine rg_take 5 (v := ?_) rfl (by kernel_rfl) (by kernel_rfl) (by kernel_rfl) hS rfl ?_ ?_
     rotate_left
     ·intro wS hSw; rw [exec_cutS (x := .tmp 57) (lo := some <| .tmp 58) (hi := none) Tryz.underlying9 (l := rest) (i := K) (j := rest.length)] <;> first | rfl | omega | exact .inl ⟨rfl, rfl⟩ | exact .inr ⟨_, _, rfl, rfl⟩
     simp only [g_S, Act.put]
     simp only [List.drop_zero, List.take_length]
     obtain ⟨PC, hPC⟩ : ∃ q, q = rest.take K := ⟨_, rfl⟩
     obtain ⟨RS, hRS⟩ : ∃ q, q = rest.drop K := ⟨_, rfl⟩
     rw [← hPC, ← hRS]
     have hRSl : RS.length = R - K := by rw [hRS, List.length_drop, ← HRL.out]
     have HPC := Lib.hid hPC
     have HRS := Lib.hid hRS
     clear hPC hRS
     refine rg_t 6 hS ?_
     simp only [g_S, Act.put]
     refine rg_one 7 rfl (by kernel_rfl) rfl (fun K1 hKK => ?_)
     refine op_box (g := fb) (j := 7) (v := .string (str PC)) (vs := [.string (str PC)]) rfl rfl rfl hF7 rfl (by kernel_rfl) (by simp) (by simp [Value.oneCell']) #[.bool b1, .bool b2, .bool bg, .bool fi, .int .u8 (s.ty : Int), .int .u8 (tr : Int), .int .u16 (ch : Int), .string (str PC)] (by simp) ?_
     intro w8 hF8 hg8 hzz
     clear hzz
     have hX8 := hX7.grown hg8 (sne (by omega))
     have hO8 := own_stays hO7 hg8 (fun g hg e => by injection e with e; exact hAf g hg e.symm)
     have hB8 : Below w.heap.size w w8 := hB7.grown hg8 hB7.size (fun g hg => by injection hg with hg; omega)
     refine hKK _ _ hS ?_
     clear hKK K1 hS hX7 hF7 hO7 hB7 hg8
     try simp only [g_S, Act.put]
     have hS : True := trivial
     refine rg_t 8 hS ?_
     simp only [g_S, Act.put]
     refine rg_end (by kernel_rfl) ?_
     clear w7
     obtain ⟨fin, hfin⟩ : ∃ q, q = decide (R ≤ M) := ⟨_, rfl⟩
     have hq : (str RS).toList.isEmpty = fin := by
      rw [str_toList, hfin, Bool.eq_iff_iff]
      have := HK.out
      cases RS with
      | nil => simp at hRSl ⊢; omega
      | cons x r => simp at hRSl ⊢; omega
     have HFIN := Lib.hid hfin
     clear hfin
     go_wp2_with (with_reducible refine h_B ?_)
     refine unhold (wp_box (j := 3) (v := .bool fin) (vs := [.bool fin]) rfl rfl rfl rfl hF8 rfl (by kernel_rfl) (by simp) (by simp [Value.oneCell']) #[.bool b1, .bool b2, .bool bg, .bool fin, .int .u8 (s.ty : Int), .int .u8 (tr : Int), .int .u16 (ch : Int), .string (str PC)] (by simp) ?_)
     intro w9 hF9 hg9 hzz
     clear hzz
     have hX9 := hX8.grown hg9 (sne (by omega))
     have hO9 := own_stays hO8 hg9 (fun g hg e => by injection e with e; exact hAf g hg e.symm)
     have hB9 : Below w.heap.size w w9 := hB8.grown hg9 hB8.size (fun g hg => by injection hg with hg; omega)
     clear hX8 hO8 hB8 hF8 hg9
     clear w8
     have f0 := hF9.c0
     have f1 := hF9.c1
     have f2 := hF9.c2
     have f3 := hF9.c3
     have f4 := hF9.c4
     have f5 := hF9.c5
     have f6 := hF9.c6
     have f7 := hF9.c7
     have hlt9 := hF9.lt
     go_wp2_with (with_reducible refine h_B ?_)
     refine unhold (wp_rec frShape slF Tryz.underlying65 rfl rfl rfl rfl rfl (⟨b1, b2, bg, fin, s.ty, tr, ch, PC⟩ : Fr) rfl hO9 (by omega) (by omega) (by have := hX9.lt; omega) ?_)
     intro A3 c3 wa hOa hga hA3 _
     have hAa : ∀ g, blk A3 = some g → g ≠ fb := fun g hg => by
      rcases hA3 with e | e
      ·exact hAf g (by rw [← e]; exact hg)
      ·have := e g hg; omega
     have hXa := hX9.grown hga (fun e => by have := (hO9.blk_lt e.symm).1; omega)
     have hFa := hF9.grown hga (fun e => hAf _ e.symm rfl)
     have hBa : Below w.heap.size w wa := hB9.grown hga hB9.size (fun g hg => by have := (hO9.blk_lt hg).1; omega)
     have HDa : Hid ((D ++ [(⟨b1, b2, bg, fin, s.ty, tr, ch, PC⟩ : Fr)]).length = N + 1) := Lib.hid (by have := HD.out; simp; omega)
     have hN1 : N + 1 ≤ 16388 := by
      have h1 := HD.out
      have h2 := congrArg List.length HC.out
      have h3 := HM.out
      have h4 : 1 ≤ (cutN M ⟨b1, b2, bg, false, s.ty, tr, ch, []⟩ rest).length := by
       have := cutS_ne M rest.length ⟨b1, b2, bg, false, s.ty, tr, ch, []⟩ rest
       unfold cutN
       exact List.length_pos_iff.2 this
      simp only [List.length_append] at h2
      omega
     clear hX9 hO9 hF9 hB9 hga hA3 hAf f0 f1 f2 f3 f4 f5 f6 f7
     have f3 := hFa.c3
     cases fin with
     | true =>
      have HE : Hid (FS = (D ++ [(⟨b1, b2, bg, true, s.ty, tr, ch, PC⟩ : Fr)]) ++ cutL M ch tr n (i + 1) (l.drop (i + 1))) := Lib.hid (by
       have hle : R ≤ M := by simpa using HFIN.out.symm
       have e1 : PC = rest := by rw [HPC.out, List.take_of_length_le]; have := HK.out; omega
       rw [HC.out, cutN_end (by rw [← HRL.out]; exact hle), ← HT.out, e1]
       simp)
      go_wp2_with (with_reducible refine h_B ?_)
      exact ⟨⟨i + 1, N + 1, c3, A3, _, by omega, rfl, by go_num, hN1, HDa, HE, hOa, hXa, hBa⟩, by simp [RowKit.intOf]; omega⟩
     | false =>
      have hgt : M < R := by have := HFIN.out; simpa using this
      have HE : Hid (FS = (D ++ [(⟨b1, b2, bg, false, s.ty, tr, ch, PC⟩ : Fr)]) ++ (cutN M ⟨b1, b2, false, false, s.ty, tr, ch, []⟩ RS ++ T)) := Lib.hid (by
       have hKM : K = M := by have := HK.out; omega
       rw [HC.out, cutN_more hM1 (by rw [← HRL.out]; exact hgt), HPC.out, HRS.out, hKM]
       simp)
      go_wp2_with (with_reducible refine h_B ?_)
      refine unhold (wp_box (j := 2) (v := .bool false) (vs := [.bool false]) rfl rfl rfl rfl hFa rfl (by kernel_rfl) (by simp) (by simp [Value.oneCell']) #[.bool b1, .bool b2, .bool false, .bool false, .int .u8 (s.ty : Int), .int .u8 (tr : Int), .int .u16 (ch : Int), .string (str PC)] (by simp) ?_)
      intro wb hFb hgb hzz
      clear hzz
      have hXb := hXa.grown hgb (sne (by omega))
      have hOb := own_stays hOa hgb (fun g hg e => by injection e with e; exact hAa g hg e.symm)
      have hBb : Below w.heap.size w wb := hBa.grown hgb hBa.size (fun g hg => by injection hg with hg; omega)
      go_wp2_with (with_reducible refine h_B ?_)
      have hms : strLenV (.string (str RS)) < strLenV (.string (str rest)) := by
       show (str RS).size < (str rest).size
       rw [str_size, str_size, ← HRL.out]
       have := HK.out
       omega
      first
       | exact ⟨⟨N + 1, c3, A3, _, RS, false, false, PC, rfl, rfl, hN1, by omega, HDa, HE, hOb, hAa, hXb, hFb, hBb⟩, hms⟩
       | (refine ⟨?_, hms⟩; (repeat apply Exists.intro); exact ⟨⟨N + 1, c3, A3, _, RS, false, false, PC, rfl, rfl, hN1, by omega, HDa, HE, hOb, hAa, hXb, hFb, hBb⟩, rfl⟩)
   ·have g1 : ¬ (i : Int) < (n : Int) := by omega
    have HE : Hid (FS = D) := Lib.hid (by rw [HC.out, List.drop_eq_nil_of_le (by have := HN.out; omega)]; simp [cutL])
    have hlN := HD.out
    rw [← HE.out] at hO hlN
    have HLN := Lib.hid hlN
    clear hlN HD HC hel
    go_wp2_with (with_reducible refine h_A ?_)
    go_ret2
    rw [HLN.out]
    exact ⟨A2, c2, rfl, hO.base_le (by omega), hBr⟩
end Go.PH
end

/- Texts laid together: OctRef, OctRefNum, SpMath, SpMath2, SpMath3, SpMath4, SpMath5, SpMath6, SpMath7, SpMem, SpPush, SpRRight, SpSame, SpSee, SpWalk, SpPut, SpPutR. -/
import Derived.Deep.QuietTactic
import Derived.BigQuiet
import Derived.Laws.StructEq
import Derived.Test.YtidpbbleneekgaaDoorMg00
import Derived.Test.YtidpbbleneekgaaDoorMg01
import Derived.Test.YtidpbbleneekgaaDoorMg02
import Derived.Test.YtidpbbleneekgaaDoorMg03
section
/- The walks of the reference's reader. -/
set_option linter.all false
set_option linter.unusedSimpArgs false
set_option linter.unusedVariables false
namespace Go.PH
open Go.RowKit Go.Proofs

/-- the reference's reader in block b -/
def Qrd (F : Nat → Prop) (w : World) (b : Nat) (l : List UInt8) (bad : Bool) : Prop :=
  ∃ A n c, w.cell? ⟨b, 0, none⟩ = some (.slice A n c) ∧ w.cell? ⟨b, 1, none⟩ = some (.bool bad) ∧ w.frozen? ⟨b, 0, none⟩ = false ∧ w.frozen? ⟨b, 1, none⟩ = false ∧ RdB w w.heap.size A n c l ∧ blk A ≠ some b ∧ n ≤ 140737488351240 ∧ F b ∧ ∀ g, blk A = some g → F g
theorem Qrd.len {F : Nat → Prop} {w : World} {b : Nat} {l : List UInt8} {bad : Bool} (h : Qrd F w b l bad) : l.length ≤ 140737488351240 := by
  obtain ⟨A, n, c, _, _, _, _, hr, _, hn, _⟩ := h
  rw [hr.length]; exact hn
theorem Qrd.lt {F : Nat → Prop} {w : World} {b : Nat} {l : List UInt8} {bad : Bool} (h : Qrd F w b l bad) : b < w.heap.size := by
  obtain ⟨A, n, c, h0, _⟩ := h
  exact World.block_lt_of_cell? w _ h0

theorem Qrd.kept {F : Nat → Prop} {w w' : World} {b : Nat} {l : List UInt8} {bad : Bool} {row : Option Nat} (h : Qrd F w b l bad) (hg : w.grownBy w' row) (hne : ∀ g, row = some g → ¬ F g) : Qrd F w' b l bad := by
  obtain ⟨A, n, c, h0, h1, hf0, hf1, hr, hA, hn, hF, hF2⟩ := h
  have hb : b < w.heap.size := World.block_lt_of_cell? w _ h0
  refine ⟨A, n, c, hg.cell h0 (fun e => hne _ e.symm hF), hg.cell h1 (fun e => hne _ e.symm hF), (hg.frozen_far ⟨b, 0, none⟩ hb (fun e => hne _ e.symm hF)).trans hf0, (hg.frozen_far ⟨b, 1, none⟩ hb (fun e => hne _ e.symm hF)).trans hf1, (hr.grown_ne hg (Nat.le_refl _) ?_).more hg.size, hA, hn, hF, hF2⟩
  rcases hA : blk A with _ | g
  · exact .inl rfl
  · exact .inr fun e => hne g e.symm (hF2 g hA)
theorem Qrd.below {F : Nat → Prop} {w w' : World} {b : Nat} {l : List UInt8} {bad : Bool} (h : Qrd F w b l bad) (hB : Below w.heap.size w w') : Qrd F w' b l bad := h.kept (grownOf hB none) (by simp)
theorem Qrd.drew {F : Nat → Prop} {w : World} {b : Nat} {l : List UInt8} {bad : Bool} (h : Qrd F w b l bad) : Qrd F w.drew b l bad := h.kept (grownDrew w none) (by simp)
theorem Qrd.inF {F : Nat → Prop} {w : World} {b : Nat} {l : List UInt8} {bad : Bool} (h : Qrd F w b l bad) : F b := by
  obtain ⟨A, n, c, h0, h1, hf0, hf1, hr, hA, hn, hF, hF2⟩ := h
  exact hF
end Go.PH
end
section
/- The walk of the reference's Number. -/
set_option linter.all false
set_option linter.unusedSimpArgs false
set_option linter.unusedVariables false
namespace Go.PH
open Go.RowKit Go.Proofs

end Go.PH
end
section
/- Rows of spans as plain mathematics: a right row is told by its members. No program in sight. -/
namespace Go.PH

abbrev Sp := Nat × Nat
/-- a row is right: each span the right way round, a gap ahead of each but the first -/
def spRight : List Sp → Bool
  | [] => true
  | [a] => decide (a.1 ≤ a.2)
  | a :: b :: l => decide (a.1 ≤ a.2) && decide (a.2 + 2 ≤ b.1) && spRight (b :: l)
end Go.PH
end
section
/- Adding to, and cutting out of, a right row, as plain mathematics. -/
set_option linter.all false
set_option linter.unusedSimpArgs false
set_option linter.unusedVariables false
namespace Go.PH

/-- a row is right behind a number: its first span begins at m or later -/
def spFrom (m : Nat) : List Sp → Prop
  | [] => True
  | a :: _ => m ≤ a.1
theorem spRight_cons {a : Sp} {l : List Sp} : spRight (a :: l) = true ↔ (a.1 ≤ a.2 ∧ spFrom (a.2 + 2) l ∧ spRight l = true) := by
  cases l with
  | nil => simp [spRight, spFrom]
  | cons b l => simp [spRight, spFrom, and_assoc]
end Go.PH
end
section
/- What Add tells: a right row with the numbers put in. -/
set_option linter.all false
set_option linter.unusedSimpArgs false
set_option linter.unusedVariables false
namespace Go.PH

end Go.PH
end
section
/- The reference's way: edges, and the spans between them, as plain mathematics. -/
set_option linter.all false
set_option linter.unusedSimpArgs false
set_option linter.unusedVariables false
namespace Go.PH

theorem spRight_app (a : List Sp) (z : Sp) : spRight (a ++ [z]) = true ↔ (spRight a = true ∧ z.1 ≤ z.2 ∧ ∀ b ∈ a.getLast?, b.2 + 2 ≤ z.1) := by
  induction a with
  | nil => simp [spRight]
  | cons b a ih =>
    rw [List.cons_append, spRight_cons, ih, spRight_cons]
    cases a with
    | nil =>
      simp [spFrom, spRight]
      intro _
      exact and_comm
    | cons c a =>
      simp only [List.cons_append, spFrom, List.getLast?_cons_cons]
      constructor
      · rintro ⟨h1, h2, h3, h4, h5⟩; exact ⟨⟨h1, h2, h3⟩, h4, h5⟩
      · rintro ⟨⟨h1, h2, h3⟩, h4, h5⟩; exact ⟨h1, h2, h3, h4, h5⟩
end Go.PH
end
section
/- The reference's row between edges, as plain mathematics: right, with the members that are asked for. -/
set_option linter.all false
set_option linter.unusedSimpArgs false
set_option linter.unusedVariables false
namespace Go.PH

end Go.PH
end
section
/- What Has, Both, Either tell, as plain mathematics. -/
set_option linter.all false
set_option linter.unusedSimpArgs false
set_option linter.unusedVariables false
namespace Go.PH

end Go.PH
end
section
/- Rows by their beginnings; how many numbers a row has; as plain mathematics. -/
set_option linter.all false
set_option linter.unusedSimpArgs false
set_option linter.unusedVariables false
namespace Go.PH

theorem spRight_front : ∀ {a b : List Sp}, spRight (a ++ b) = true → spRight a = true
  | [], _, _ => rfl
  | x :: a, b, h => by
    rw [List.cons_append] at h
    obtain ⟨h1, h2, h3⟩ := spRight_cons.1 h
    refine spRight_cons.2 ⟨h1, ?_, spRight_front h3⟩
    cases a with
    | nil => trivial
    | cons y a => exact h2
theorem spRight_take {l : List Sp} (h : spRight l = true) (k : Nat) : spRight (l.take k) = true := spRight_front (b := l.drop k) (by rw [List.take_append_drop]; exact h)
/-- the next span stands rightly behind those ahead of it -/
def spNext (l : List Sp) (k : Nat) (h : k < l.length) : Prop := l[k].1 ≤ l[k].2 ∧ ∀ (h0 : 0 < k), l[k - 1].2 + 2 ≤ l[k].1
theorem spRight_next {l : List Sp} {k : Nat} (hk : k < l.length) (h : spRight (l.take k) = true) : spRight (l.take (k + 1)) = true ↔ spNext l k hk := by
  rw [List.take_succ_eq_append_getElem hk, spRight_app]
  unfold spNext
  constructor
  · rintro ⟨_, h1, h2⟩
    refine ⟨h1, fun h0 => h2 _ ?_⟩
    rw [List.getLast?_eq_getElem?, List.length_take, Nat.min_eq_left (by omega), List.getElem?_take, if_pos (by omega), List.getElem?_eq_getElem (by omega)]
    rfl
  · rintro ⟨h1, h2⟩
    refine ⟨h, h1, fun b hb => ?_⟩
    rcases Nat.eq_zero_or_pos k with rfl | h0
    · simp at hb
    · rw [List.getLast?_eq_getElem?, List.length_take, Nat.min_eq_left (by omega), List.getElem?_take, if_pos (by omega), List.getElem?_eq_getElem (by omega)] at hb
      cases hb
      exact h2 h0
theorem spRight_yes {l : List Sp} {k : Nat} (hk : k < l.length) (h : spRight (l.take k) = true) (h1 : spNext l k hk) : spRight (l.take (k + 1)) = true := (spRight_next hk h).2 h1
theorem spRight_no {l : List Sp} {k : Nat} (hk : k < l.length) (h : spRight (l.take k) = true) (h1 : ¬ spNext l k hk) : spRight l = false := by
  rcases hr : spRight l with _ | _
  · rfl
  · exact absurd ((spRight_next hk h).1 (spRight_take hr _)) h1
theorem spNext_iff {l : List Sp} {k : Nat} (hk : k < l.length) : spNext l k hk ↔ (l[k].1 ≤ l[k].2 ∧ (k = 0 ∨ (l.getD (k - 1) (0, 0)).2 + 2 ≤ l[k].1)) := by
  unfold spNext
  have e : l.getD (k - 1) (0, 0) = l[k - 1] := by
    have : k - 1 < l.length := by omega
    simp [List.getD, List.getElem?_eq_getElem this]
  rw [e]
  constructor
  · rintro ⟨h1, h2⟩
    refine ⟨h1, ?_⟩
    rcases Nat.eq_zero_or_pos k with h0 | h0
    · exact .inl h0
    · exact .inr (h2 h0)
  · rintro ⟨h1, h2⟩
    refine ⟨h1, fun h0 => ?_⟩
    rcases h2 with h2 | h2
    · omega
    · exact h2
/-- bounds -/
def spOK (N : Nat) (l : List Sp) : Prop := ∀ a ∈ l, a.1 < N ∧ a.2 < N
end Go.PH
end
section
/- Slices of spans in memory. -/
set_option linter.all false
set_option linter.unusedSimpArgs false
set_option linter.unusedVariables false
namespace Go.PH
open Go.RowKit Go.Proofs

def sp2 (a : Sp) : List Value := [.int .u32 (a.1 : Int), .int .u32 (a.2 : Int)]
def spCells (l : List Sp) : List Value := l.flatMap sp2
theorem spCells_cons (a : Sp) (l : List Sp) : spCells (a :: l) = .int .u32 (a.1 : Int) :: .int .u32 (a.2 : Int) :: spCells l := rfl
theorem spCells_app (a b : List Sp) : spCells (a ++ b) = spCells a ++ spCells b := by simp [spCells]
theorem spCells_len (l : List Sp) : (spCells l).length = l.length * 2 := by
  induction l with
  | nil => rfl
  | cons a l ih => rw [spCells_cons]; simp only [List.length_cons, ih]; omega
theorem spCells_take : ∀ (l : List Sp) (k : Nat), (spCells l).take (k * 2) = spCells (l.take k)
  | [], k => by simp [spCells]
  | a :: l, 0 => by simp [spCells]
  | a :: l, k + 1 => by rw [spCells_cons, show (k + 1) * 2 = k * 2 + 1 + 1 by omega, List.take_succ_cons, List.take_succ_cons, spCells_take l k, List.take_succ_cons, spCells_cons]
theorem spCells_drop : ∀ (l : List Sp) (k : Nat), (spCells l).drop (k * 2) = spCells (l.drop k)
  | [], k => by simp [spCells]
  | a :: l, 0 => by simp
  | a :: l, k + 1 => by rw [spCells_cons, show (k + 1) * 2 = k * 2 + 1 + 1 by omega, List.drop_succ_cons, List.drop_succ_cons, spCells_drop l k, List.drop_succ_cons]
theorem spCells_get : ∀ (l : List Sp) (k : Nat) (h : k < l.length), (spCells l)[k * 2]? = some (.int .u32 (l[k].1 : Int)) ∧ (spCells l)[k * 2 + 1]? = some (.int .u32 (l[k].2 : Int))
  | a :: l, 0, _ => by simp [spCells_cons]
  | a :: l, k + 1, h => by
    have := spCells_get l k (by simpa using h)
    rw [spCells_cons, show (k + 1) * 2 = k * 2 + 1 + 1 by omega]
    simpa using this
theorem spCells_one (l : List Sp) : ∀ u ∈ spCells l, u.oneCell' = true := by
  intro u hu
  simp only [spCells, List.mem_flatMap, sp2, List.mem_cons, List.not_mem_nil, or_false] at hu
  obtain ⟨a, _, rfl | rfl⟩ := hu <;> rfl
/-- a slice of spans -/
abbrev RdS (w : World) (B : Nat) (A : Option Addr) (n c : Nat) (l : List Sp) : Prop := Rd w B 2 A n c (spCells l)
variable {w w' : World} {B n c : Nat} {A : Option Addr} {l : List Sp}
theorem RdS.length (h : RdS w B A n c l) : l.length = n := by have := h.len; rw [spCells_len] at this; omega
theorem RdS.at_k (h : RdS w B A n c l) {k : Nat} (hk : k < n) : ∃ b off, A = some ⟨b, off, none⟩ ∧ b < B ∧ ∃ hl : k < l.length, w.cell? ⟨b, off + k * 2, none⟩ = some (.int .u32 (l[k].1 : Int)) ∧ w.cell? ⟨b, off + k * 2 + 1, none⟩ = some (.int .u32 (l[k].2 : Int)) := by
  obtain ⟨b, off, e, hb, hc⟩ := h.at_ (by omega)
  have hl := h.length
  have hg := spCells_get l k (by omega)
  exact ⟨b, off, e, hb, by omega, hc _ _ hg.1, by have := hc _ _ hg.2; rwa [← Nat.add_assoc] at this⟩
theorem RdS.at_p (h : RdS w B A n c l) {k : Nat} (hk : k ≤ n) (h0 : 0 < k) : ∃ b off, A = some ⟨b, off, none⟩ ∧ b < B ∧ w.cell? ⟨b, off + (k - 1) * 2 + 1, none⟩ = some (.int .u32 ((l.getD (k - 1) (0, 0)).2 : Int)) := by
  obtain ⟨b, off, e, hb, hl, _, hc⟩ := RdS.at_k h (k := k - 1) (by omega)
  refine ⟨b, off, e, hb, ?_⟩
  rw [hc]; simp [List.getD, List.getElem?_eq_getElem hl]
theorem spOK_getD {N : Nat} {l : List Sp} (h : spOK N l) (k : Nat) (hN : 0 < N) : (l.getD k (0, 0)).1 < N ∧ (l.getD k (0, 0)).2 < N := by
  rw [List.getD]
  cases hk : l[k]? with
  | none => exact ⟨hN, hN⟩
  | some a => exact h a (List.mem_of_getElem? hk)
theorem RdS.cut {lo k : Nat} (hr : RdS w B A n c l) (h : lo + k ≤ n) : RdS w B (cutA A 2 lo c) k (c - lo) ((l.drop lo).take k) := by
  have h1 := rd_cut hr lo (lo + k) c (by omega) (by have := hr.cap; omega) (Nat.le_refl _) h
  rw [spCells_take, spCells_drop, List.drop_take, Nat.add_sub_cancel_left] at h1
  exact h1
theorem slS : SlT Tryd.prog 50 103 2 8 (.agg #[.int .u32 0, .int .u32 0]) := SlT.mk' Tryd.underlying50 (by kernel_rfl) rfl (by omega)
abbrev OwnS (w : World) (base : Nat) (A : Option Addr) (n c : Nat) (l : List Sp) : Prop := Own w base 103 2 A n c (spCells l)
end Go.PH
end
section
/- A span put behind an own row. -/
set_option linter.all false
set_option linter.unusedSimpArgs false
set_option linter.unusedVariables false
namespace Go.PH
open Go.RowKit Go.Proofs

theorem op_push {W : World} {ops : Array Oper} {o : Oper} {a : Act} {K : Act → World → Prop} {Q : Exit → Act → World → Prop} {s x : Operand} {t t2 e2 base n c g : Nat} {A : Option Addr} {out : List Sp} {fi ti : Int} (hT : SlT Tryd.prog t 103 2 8 (.agg #[.int .u32 0, .int .u32 0])) (h2 : Tryd.prog.underlying t2 = some (.slice e2))
    (ho : o.op = .call { callee := .builtin .append, args := #[s, x], argTypes := #[t, t2] }) (hs : a.eval s = .slice A n c) (hx : a.eval x = .slice (some ⟨g, 0, none⟩) 1 1) (hg : g = W.heap.size)
    (f u : Nat) (hf : fi = (f : Int)) (hu : ti = (u : Int)) (hown : OwnS W base A n c out) (hn : n ≤ 1000000000) (hbase : base ≤ W.heap.size)
    (h : ∀ A2 c2 w', OwnS w' base A2 (n + 1) c2 (out ++ [(f, u)]) → W.grownBy w' (blk A) → (blk A2 = blk A ∨ ∀ g, blk A2 = some g → W.heap.size ≤ g) → Below base W w' → K (a.put o.dst (.slice A2 (n + 1) c2)) w') :
    o.wp Tryd.prog a (W.alloc (.cells #[.int .u32 fi, .int .u32 ti] 103)) K Q := by
  subst hg hf hu
  have hlit := own_lit (w := W) base #[.int .u32 (f : Int), .int .u32 (u : Int)] 103 1 hbase (by simp [maxLen]) rfl (size := 2) (by omega)
  have ho2 : OwnS (W.alloc (.cells #[.int .u32 (f : Int), .int .u32 (u : Int)] 103)) base A n c out := hown.alloc _
  refine op_app (ops := ops) hT h2 ho hs hx ho2 hlit.rd (spCells_one [(f, u)]) (by omega) (by simp [maxLen]; omega) (by simp; omega) fun A2 c2 w' a1 a2 a3 => ?_
  have e : spCells out ++ (#[.int .u32 (f : Int), .int .u32 (u : Int)] : Array Value).toList = spCells (out ++ [(f, u)]) := by rw [spCells_app]; rfl
  rw [e] at a1
  have hB2 : Below base W (W.alloc (.cells #[.int .u32 (f : Int), .int .u32 (u : Int)] 103)) := (Below.refl _ _).alloc hbase _
  have hgr : W.grownBy w' (blk A) := ⟨a2.os, a2.tape, a2.output, Nat.le_trans hB2.size a2.size, fun k hk hne => (a2.block k (by simp; omega) hne).trans (((Below.refl W.heap.size W).alloc (Nat.le_refl _) _).block k hk)⟩
  refine h A2 c2 w' a1 hgr ?_ ((Below.refl _ _).grown hgr hbase (fun g hg => (hown.blk_lt hg).1))
  rcases a3 with h3 | h3
  · exact .inl h3
  · refine .inr fun g hg => ?_
    rw [h3] at hg
    simp at hg; omega
theorem wp_push {W : World} {ops : Array Oper} {rest : List Oper} {o : Oper} {a : Act} {Q : Exit → Act → World → Prop} {s x : Operand} {t t2 e2 base n c g : Nat} {A : Option Addr} {out : List Sp} {fi ti : Int} (hT : SlT Tryd.prog t 103 2 8 (.agg #[.int .u32 0, .int .u32 0])) (h2 : Tryd.prog.underlying t2 = some (.slice e2)) (hw : Region.wanted o (yielded ops a.tmps) = true)
    (ho : o.op = .call { callee := .builtin .append, args := #[s, x], argTypes := #[t, t2] }) (hs : a.eval s = .slice A n c) (hx : a.eval x = .slice (some ⟨g, 0, none⟩) 1 1) (hg : g = W.heap.size)
    (f u : Nat) (hf : fi = (f : Int)) (hu : ti = (u : Int)) (hown : OwnS W base A n c out) (hn : n ≤ 1000000000) (hbase : base ≤ W.heap.size)
    (h : ∀ A2 c2 w', OwnS w' base A2 (n + 1) c2 (out ++ [(f, u)]) → W.grownBy w' (blk A) → (blk A2 = blk A ∨ ∀ g, blk A2 = some g → W.heap.size ≤ g) → Below base W w' → wpList Tryd.prog ops Q rest (a.put o.dst (.slice A2 (n + 1) c2)) w') :
    wpList Tryd.prog ops Q (o :: rest) a (W.alloc (.cells #[.int .u32 fi, .int .u32 ti] 103)) := by
  refine BigFrame.wpList_want hw fun K hK => ?_
  exact op_push (ops := ops) hT h2 ho hs hx hg f u hf hu hown hn hbase fun A2 c2 w' a1 a2 a3 a4 => hK _ _ (h A2 c2 w' a1 a2 a3 a4)
end Go.PH
end
section
/- Whether spans stand right, as the document says: its walk. -/
set_option linter.all false
set_option linter.unusedSimpArgs false
set_option linter.unusedVariables false
namespace Go.PH
open Go.RowKit Go.Proofs

end Go.PH
end
section
/- The walks of the reference's Copy and Same of spans. -/
set_option linter.all false
set_option linter.unusedSimpArgs false
set_option linter.unusedVariables false
namespace Go.PH
open Go.RowKit Go.Proofs

theorem span_fields : Tryd.prog.underlying 103 = some (.struct (Tryd.prog.fieldsOf 103)) := by kernel_rfl
theorem span_stood : Tryd.prog.stoodInHeld 103 = false := by kernel_rfl
theorem span_guard : Tryd.prog.eqGuardType Tryd.prog.depth 103 = false := by kernel_rfl
theorem span_neq (f t f' t' : Nat) (w : World) : (binOp .neq 103 (.agg #[.int .u32 f, .int .u32 t]) (.agg #[.int .u32 f', .int .u32 t'])).run Tryd.prog w = .ok (.bool (!decide ((f, t) = (f', t')))) w := by
  rw [run_neq_struct, run_equalIn_struct w 9999 103 _ _ span_fields span_stood]
  simp only [Program.fieldsOf, Tryd.underlying103]
  have hb : (f, t) = (f', t') ↔ f = f' ∧ t = t' := by simp
  have hd : decide ((f, t) = (f', t')) = (((f : Int) == (f' : Int)) && ((t : Int) == (t' : Int))) := by
    rw [Bool.eq_iff_iff]; simp; omega
  rw [hd]
  cases h1 : ((f : Int) == (f' : Int)) <;> cases h2 : ((t : Int) == (t' : Int)) <;> simp [Op.eqFields, part, run_equalIn_int _ 9998 47 .u32 .u32 _ _ Tryd.underlying47, h1, h2, beq_iff_eq, Result.andThen, typeInfo, sizeOf]

end Go.PH
end
section
/- Reading rows of spans. -/
set_option linter.all false
set_option linter.unusedSimpArgs false
set_option linter.unusedVariables false
namespace Go.PH
open Go.RowKit Go.Proofs Go.ChangeShapes Go.WideShapes Go.ChangeAt Go.Deep
variable {H : Type} {enc : TypeId × Value → H} {W : World}

def RSpan (a : Sp) (cs : List Value) : Prop := cs = sp2 a ∧ a.1 < 4294967296 ∧ a.2 < 4294967296
theorem cells2s {cs : List Value} {a b : Value} (hl : cs.length = 2) (h0 : (cs.drop 0).take 1 = [a]) (h1 : (cs.drop 1).take 1 = [b]) : cs = [a, b] := by
  match cs, hl with
  | [x, y], _ => simp_all
set_option maxRecDepth 20000 in
theorem reader_span : Reader enc Tryd.prog W 103 RSpan := fun fuel cs d p h hw => by
  obtain ⟨hl, hf⟩ := trod_field Tryd.underlying103 h hw
  obtain ⟨n0, h0, w0⟩ := hf 0 _ rfl (reader_int (k := .u32) Tryd.underlying47)
  obtain ⟨n1, h1, w1⟩ := hf 1 _ rfl (reader_int (k := .u32) Tryd.underlying47)
  have b0 := bounds_u32 w0
  have b1 := bounds_u32 w1
  rw [(by kernel_rfl : Tryd.prog.cellsOf 103 = 2)] at hl
  refine ⟨(n0.toNat, n1.toNat), ?_, by simp; omega, by simp; omega⟩
  simp only [sp2]
  rw [show ((n0.toNat : Nat) : Int) = n0 by omega, show ((n1.toNat : Nat) : Int) = n1 by omega]
  exact cells2s hl h0 h1
theorem spCells_of : ∀ (L : List Sp) (xs : List Value), xs.length = L.length * 2 → (∀ i (h : i < L.length), RSpan L[i] ((xs.drop (i * 2)).take 2)) → xs = spCells L ∧ spOK 4294967296 L
  | [], xs, hl, _ => by
    have := List.eq_nil_of_length_eq_zero (by simpa using hl)
    subst this
    exact ⟨rfl, fun z hz => by cases hz⟩
  | a :: L, xs, hl, h => by
    rcases xs with _ | ⟨x, _ | ⟨y, xs⟩⟩
    · simp at hl
    · simp at hl; omega
    · have h0 := h 0 (by simp)
      obtain ⟨e, b1, b2⟩ := h0
      simp [sp2] at e
      obtain ⟨i1, i2⟩ := spCells_of L xs (by simp at hl; omega) (fun i hi => by
        have := h (i + 1) (by simp; omega)
        simpa [Nat.add_mul] using this)
      refine ⟨by rw [e.1, e.2, spCells_cons, i1], fun z hz => ?_⟩
      rcases List.mem_cons.1 hz with rfl | hz
      · exact ⟨b1, b2⟩
      · exact i2 z hz
theorem RdS.of {A : Option Addr} {n c B : Nat} {xs : List Value} {L : List Sp} (hr : Rd W B 2 A n c xs) (hL : L.length = n) (hR : ∀ i (h : i < L.length), RSpan L[i] ((xs.drop (i * 2)).take 2)) : RdS W B A n c L ∧ spOK 4294967296 L := by
  obtain ⟨h1, h2⟩ := spCells_of L xs (by rw [hr.len, hL]) hR
  subst h1
  exact ⟨hr, h2⟩
end Go.PH
end
section
/- The walks of spans: Right. -/
set_option linter.all false
set_option linter.unusedSimpArgs false
set_option linter.unusedVariables false
namespace Go.PH
open Go.RowKit Go.Proofs

set_option maxRecDepth 20000 in
theorem right_any (A : Option Addr) (n c : Nat) (l : List Sp) (B : Nat) (w : World) (hr : RdS w B A n c l) (hb : spOK 4294967296 l) (hB : B ≤ w.heap.size) (hn : n ≤ 140737488355328) :
    Calls Tryd.prog 60 #[.slice A n c] w fun e w' => e = .returned (.bool (spRight l)) ∧ Below w.heap.size w w' := by
  have hl := hr.length
  go_enter Tryd.func60, Tryd.ntmps60
  go_wp2_with (first | (with_reducible refine hold_append ?_) | (with_reducible refine hold_make ?_) | (with_reducible refine hold_copy ?_))
  go_loopw [7] (fun s wr => ∃ (k : Nat), k ≤ n ∧ s = .int .i64 k ∧ spRight (l.take k) = true ∧ Below w.heap.size w wr) (fun s _ => n - (RowKit.intOf s).toNat)
  case atStart => exact ⟨0, by omega, rfl, by simp [spRight], Below.refl _ _⟩
  case round =>
    obtain ⟨k, hk, rfl, hrk, hBr⟩ := hrel
    by_cases hlt : k < n
    · have hrr := hr.below (hBr.mono hB)
      obtain ⟨b, off, rfl, hbB, hkl, hc0, hc1⟩ := RdS.at_k hrr hlt
      have hbk := hb l[k] (List.getElem_mem hkl)
      have HN := Lib.hid (spNext_iff hkl)
      have hcp := RdS.at_p hrr hk
      have hbp := (spOK_getD hb (k - 1) (by omega)).2
      generalize (l.getD (k - 1) (0, 0)).2 = t0 at *
      generalize l[k].1 = f at *
      generalize l[k].2 = t at *
      have hB2 : Below w.heap.size w ((wr.alloc (.cells #[.int .u32 (f : Int), .int .u32 (t : Int)] 103))) := hBr.alloc hBr.size _
      by_cases h1 : t < f
      · have hd : (t : Int) < (f : Int) := by omega
        go_wp2_with (first | (with_reducible refine hold_append ?_) | (with_reducible refine hold_make ?_) | (with_reducible refine hold_copy ?_))
        skip
        go_quiet (fail)
        go_wp2_with (first | (with_reducible refine hold_append ?_) | (with_reducible refine hold_make ?_) | (with_reducible refine hold_copy ?_))
        go_ret
        have e := spRight_no hkl hrk (by rw [HN.out]; omega)
        rw [e]
        exact ⟨rfl, below_drewN hB2 _⟩
      · have hd : decide ((t : Int) < (f : Int)) = false := by simp; omega
        rcases Nat.eq_zero_or_pos k with hk0 | h0
        · have hd0 : decide (0 < k) = false := by simp; omega
          have hy := spRight_yes hkl hrk (by rw [HN.out]; omega)
          clear hk0
          go_wp2_with (first | (with_reducible refine hold_append ?_) | (with_reducible refine hold_make ?_) | (with_reducible refine hold_copy ?_))
          skip
          go_quiet (fail)
          go_wp2_with (first | (with_reducible refine hold_append ?_) | (with_reducible refine hold_make ?_) | (with_reducible refine hold_copy ?_))
          exact ⟨⟨k + 1, by omega, by go_num, hy, below_drewN hB2 _⟩, by simp [RowKit.intOf]; omega⟩
        · have hd0 : (0 : Int) < (k : Int) := by omega
          obtain ⟨b', off', e', _, hc2⟩ := hcp h0
          obtain ⟨rfl, rfl⟩ : b = b' ∧ off = off' := by simpa using e'
          clear e' hcp
          have hbb : b < wr.heap.size := World.block_lt_of_cell? wr _ hc0
          have hc3 := (World.cell?_alloc_past (w := wr) (.cells #[.int .u32 (f : Int), .int .u32 (t : Int)] 103) b (off + (k - 1) * 2 + 1) hbb).trans hc2
          have hw1 : IntKind.i64.wrap ((k : Int) - 1) = ((k - 1 : Nat) : Int) := by rw [IntWalk.i64_in _ ⟨by omega, by omega⟩]; omega
          have hlt1 : ((k - 1 : Nat) : Int) < (n : Int) := by omega
          by_cases h2 : f ≤ t0
          · have hd1 : (f : Int) ≤ (t0 : Int) := by omega
            go_wp2_with (first | (with_reducible refine hold_append ?_) | (with_reducible refine hold_make ?_) | (with_reducible refine hold_copy ?_))
            skip
            go_quiet (fail)
            go_wp2_with (first | (with_reducible refine hold_append ?_) | (with_reducible refine hold_make ?_) | (with_reducible refine hold_copy ?_))
            go_ret
            have e := spRight_no hkl hrk (by rw [HN.out]; omega)
            rw [e]
            exact ⟨rfl, below_drewN hB2 _⟩
          · have hd1 : decide ((f : Int) ≤ (t0 : Int)) = false := by simp; omega
            by_cases h3 : t0 + 1 = f
            · have hd3 : (((t0 : Int) + 1) == (f : Int)) = true := by simp; omega
              have hno := spRight_no hkl hrk (by rw [HN.out]; omega)
              clear h3
              go_wp2_with (first | (with_reducible refine hold_append ?_) | (with_reducible refine hold_make ?_) | (with_reducible refine hold_copy ?_))
              skip
              go_quiet (fail)
              go_wp2_with (first | (with_reducible refine hold_append ?_) | (with_reducible refine hold_make ?_) | (with_reducible refine hold_copy ?_))
              go_ret
              rw [hno]
              exact ⟨rfl, below_drewN hB2 _⟩
            · have hd3 : (((t0 : Int) + 1) == (f : Int)) = false := by simp; omega
              have hy := spRight_yes hkl hrk (by rw [HN.out]; omega)
              go_wp2_with (first | (with_reducible refine hold_append ?_) | (with_reducible refine hold_make ?_) | (with_reducible refine hold_copy ?_))
              skip
              go_quiet (fail)
              go_wp2_with (first | (with_reducible refine hold_append ?_) | (with_reducible refine hold_make ?_) | (with_reducible refine hold_copy ?_))
              exact ⟨⟨k + 1, by omega, by go_num, hy, below_drewN hB2 _⟩, by simp [RowKit.intOf]; omega⟩
    · obtain rfl : k = n := by omega
      go_wp2_with (first | (with_reducible refine hold_append ?_) | (with_reducible refine hold_make ?_) | (with_reducible refine hold_copy ?_))
      go_ret
      rw [← hl, List.take_length] at hrk
      rw [hrk]
      exact ⟨rfl, hBr⟩
end Go.PH
end
section
/- The walks of spans' Put and of its reference's. -/
set_option linter.all false
set_option linter.unusedSimpArgs false
set_option linter.unusedVariables false
namespace Go.PH
open Go.RowKit Go.Proofs

def spBytes (l : List Sp) : List UInt8 := l.flatMap fun a => be 4 a.1 ++ be 4 a.2
def spPut (l : List Sp) : List UInt8 := if spRight l = true ∧ l.length ≤ 1000 then be 2 (8 * l.length) ++ spBytes l else []
def spPutErr (l : List Sp) : Nat := if spRight l = true then (if l.length ≤ 1000 then 0 else 6) else 30
theorem spBytes_next {l : List Sp} {k : Nat} (hk : k < l.length) : spBytes (l.take (k + 1)) = spBytes (l.take k) ++ be 4 l[k].1 ++ be 4 l[k].2 := by
  unfold spBytes; rw [List.take_succ_eq_append_getElem hk, List.flatMap_append]; simp
theorem spBytes_len (l : List Sp) : (spBytes l).length = 8 * l.length := by
  induction l with
  | nil => rfl
  | cons a l ih =>
    have e : spBytes (a :: l) = be 4 a.1 ++ be 4 a.2 ++ spBytes l := rfl
    rw [e]; simp only [List.length_append, be_length, ih, List.length_cons]; omega
theorem put2 {b : List UInt8} {v : Nat} : puts b v 2 = b ++ be 2 v := puts_yes (by decide)
theorem put4 {b : List UInt8} {v : Nat} : puts b v 4 = b ++ be 4 v := puts_yes (by decide)

set_option maxRecDepth 20000 in
set_option maxHeartbeats 1000000 in
theorem spput_any (A : Option Addr) (n c : Nat) (l : List Sp) (B : Nat) (w : World) (hr : RdS w B A n c l) (hb : spOK 4294967296 l) (hB : B ≤ w.heap.size) (hn : n ≤ 140737488351232) :
    Calls Tryd.prog 37 #[.slice A n c] w fun e w' => ∃ A2 c2, e = .returned (.tuple #[.slice A2 (spPut l).length c2, .int .i64 (spPutErr l)]) ∧ Own w' w.heap.size 5 1 A2 (spPut l).length c2 ((spPut l).map u8v) ∧ Below w.heap.size w w' := by
  have hl := hr.length
  have hra := right_any A n c l B w hr hb hB (by omega)
  cases hright : spRight l
  · rw [hright] at hra
    have e1 : spPut l = [] := by simp [spPut, hright]
    have e2 : spPutErr l = 30 := by simp [spPutErr, hright]
    rw [e1, e2]
    go_enter Tryd.func37, Tryd.ntmps37
    go_wp2_with (first | (with_reducible refine hold_append ?_) | (with_reducible refine hold_make ?_) | (with_reducible refine hold_copy ?_))
    refine hra.mono ?_
    rintro e w1 ⟨rfl, hB1⟩
    go_wp2_with (first | (with_reducible refine hold_append ?_) | (with_reducible refine hold_make ?_) | (with_reducible refine hold_copy ?_))
    go_ret2
    exact ⟨none, 0, rfl, Own.none_ _ _ _ _, hB1⟩
  · rw [hright] at hra
    by_cases h1000 : 1000 < n
    · have e1 : spPut l = [] := by simp [spPut]; omega
      have e2 : spPutErr l = 6 := by simp [spPutErr, hright]; omega
      rw [e1, e2]
      have hd : (1000 : Int) < (n : Int) := by omega
      clear hright e1 e2
      go_enter Tryd.func37, Tryd.ntmps37
      go_wp2_with (first | (with_reducible refine hold_append ?_) | (with_reducible refine hold_make ?_) | (with_reducible refine hold_copy ?_))
      refine hra.mono ?_
      rintro e w1 ⟨rfl, hB1⟩
      go_wp2_with (first | (with_reducible refine hold_append ?_) | (with_reducible refine hold_make ?_) | (with_reducible refine hold_copy ?_))
      go_ret2
      exact ⟨none, 0, rfl, Own.none_ _ _ _ _, hB1⟩
    · have e1 : spPut l = be 2 (8 * n) ++ spBytes l := by rw [spPut, if_pos ⟨hright, by omega⟩, hl]
      have e2 : spPutErr l = 0 := by rw [spPutErr, if_pos hright, if_pos (by omega)]
      rw [e1, e2]
      have hd : ¬ (1000 : Int) < (n : Int) := by omega
      clear hright e1 e2
      go_enter Tryd.func37, Tryd.ntmps37
      go_wp2_with (first | (with_reducible refine hold_append ?_) | (with_reducible refine hold_make ?_) | (with_reducible refine hold_copy ?_))
      refine hra.mono ?_
      rintro e w1 ⟨rfl, hB1⟩
      have hw8 : IntKind.i64.wrap (8 * (n : Int)) = ((8 * n : Nat) : Int) := by rw [IntWalk.i64_in _ ⟨by omega, by omega⟩]; omega
      have hw9 : IntKind.u64.wrap ((8 * n : Nat) : Int) = ((8 * n : Nat) : Int) := IntWalk.u64_in _ ⟨by omega, by omega⟩
      have hp2 := put_any none 0 0 [] (8 * n) 2 w1 (Rd.nil _ _ _ _ (by simp [maxLen]) _) (by omega) (by omega)
      rw [put2, List.nil_append] at hp2
      obtain ⟨n8, hn8⟩ : ∃ n8, n8 = 8 * n := ⟨_, rfl⟩
      rw [← hn8] at hw8 hw9 hp2
      have HN8 := Lib.hid hn8
      clear hn8
      go_wp2_with (first | (with_reducible refine hold_append ?_) | (with_reducible refine hold_make ?_) | (with_reducible refine hold_copy ?_))
      refine hp2.mono ?_
      rintro e w2 ⟨A2, c2, rfl, ho2, hB2⟩
      have hB12 := hB1.trans (hB2.mono hB1.size)
      have ho2' := ho2.base_le hB1.size
      rw [HN8.out] at ho2'
      rw [be_length] at ho2' ⊢
      clear ho2 hB1 hB2 hp2
      go_wp2_with (first | (with_reducible refine hold_append ?_) | (with_reducible refine hold_make ?_) | (with_reducible refine hold_copy ?_))
      go_loopw [20, 4] (fun s v wr => ∃ (k N c2 : Nat) (A2 : Option Addr) (out : List UInt8), k ≤ n ∧ s = .int .i64 k ∧ v = .slice A2 N c2 ∧ N = 2 + 8 * k ∧ out = be 2 (8 * n) ++ spBytes (l.take k) ∧ Own wr w.heap.size 5 1 A2 N c2 (out.map u8v) ∧ Below w.heap.size w wr) (fun s _ _ => n - (RowKit.intOf s).toNat)
      case atStart => exact ⟨0, 2, c2, A2, be 2 (8 * n), by omega, rfl, rfl, by omega, by simp [spBytes], ho2', hB12⟩
      case round =>
        clear ho2' hB12
        obtain ⟨k, N, c2, A2, out, hk, rfl, rfl, hN, hout, ho, hBr⟩ := hrel
        by_cases hlt : k < n
        · obtain ⟨b, off, rfl, hbB, hkl, hc0, hc1⟩ := RdS.at_k (hr.below (hBr.mono hB)) hlt
          have hbk := hb l[k] (List.getElem_mem hkl)
          have hnx := spBytes_next hkl
          have HN : Hid (be 2 (8 * n) ++ spBytes (l.take (k + 1)) = (out ++ be 4 l[k].1) ++ be 4 l[k].2) := Lib.hid (by rw [hnx, hout]; simp)
          clear hnx hout
          have HNN := Lib.hid hN
          have hN2 : N ≤ 10000 := by omega
          clear hN
          generalize l[k].1 = f at *
          generalize l[k].2 = t at *
          have hB2 : Below w.heap.size w (wr.alloc (.cells #[.int .u32 (f : Int), .int .u32 (t : Int)] 103)) := hBr.alloc hBr.size _
          have ho2 : Own (wr.alloc (.cells #[.int .u32 (f : Int), .int .u32 (t : Int)] 103)) w.heap.size 5 1 A2 N c2 (out.map u8v) := ho.alloc _
          have hq : (wr.alloc (.cells #[.int .u32 (f : Int), .int .u32 (t : Int)] 103)).drew.cell? ⟨wr.heap.size, 0, none⟩ = some (.int .u32 (f : Int)) ∧ (wr.alloc (.cells #[.int .u32 (f : Int), .int .u32 (t : Int)] 103)).drew.cell? ⟨wr.heap.size, 1, none⟩ = some (.int .u32 (t : Int)) := ⟨World.cell?_alloc_new _ _ _ _, World.cell?_alloc_new _ _ _ _⟩
          go_wp2_with (first | (with_reducible refine hold_append ?_) | (with_reducible refine hold_make ?_) | (with_reducible refine hold_copy ?_))
          have hwf : IntKind.u64.wrap ((f : Nat) : Int) = (f : Int) := IntWalk.u64_in _ ⟨by omega, by omega⟩
          have hwt : IntKind.u64.wrap ((t : Nat) : Int) = (t : Int) := IntWalk.u64_in _ ⟨by omega, by omega⟩
          refine rg_start (fun wx => wx.cell? ⟨wr.heap.size, 0, none⟩ = some (.int .u32 (f : Int)) ∧ wx.cell? ⟨wr.heap.size, 1, none⟩ = some (.int .u32 (t : Int))) (by kernel_rfl) ?_
          refine rg_take 0 (v := ?_) rfl (by kernel_rfl) (by kernel_rfl) (by kernel_rfl) hq rfl ?_ ?_
          rotate_left
          · intro wS hSw; go_simp; (with_reducible rfl)
          simp only [List.getElem_toArray, List.getElem_cons_zero, Act.put, List.setIfInBounds_toArray, List.set_cons_zero, List.set_cons_succ]
          refine rg_take 1 (v := ?_) rfl (by kernel_rfl) (by kernel_rfl) (by kernel_rfl) hq rfl ?_ ?_
          rotate_left
          · intro wS hSw; go_simp; (with_reducible rfl)
          simp only [List.getElem_toArray, List.getElem_cons_succ, List.getElem_cons_zero, Act.put, List.setIfInBounds_toArray, List.set_cons_zero, List.set_cons_succ]
          refine rg_take 2 (v := ?_) rfl (by kernel_rfl) (by kernel_rfl) (by kernel_rfl) hq rfl ?_ ?_
          rotate_left
          · intro wS hSw; go_simp; (with_reducible rfl)
          simp only [List.getElem_toArray, List.getElem_cons_succ, List.getElem_cons_zero, Act.put, List.setIfInBounds_toArray, List.set_cons_zero, List.set_cons_succ]
          refine rg_take 3 (v := ?_) rfl (by kernel_rfl) (by kernel_rfl) (by kernel_rfl) hq rfl ?_ ?_
          rotate_left
          · intro wS hSw; go_simp; (with_reducible rfl)
          simp only [List.getElem_toArray, List.getElem_cons_succ, List.getElem_cons_zero, Act.put, List.setIfInBounds_toArray, List.set_cons_zero, List.set_cons_succ]
          refine rg_take 5 (v := ?_) rfl (by kernel_rfl) (by kernel_rfl) (by kernel_rfl) hq rfl ?_ ?_
          rotate_left
          · intro wS hSw; go_simp; (with_reducible rfl)
          simp only [List.getElem_toArray, List.getElem_cons_succ, List.getElem_cons_zero, Act.put, List.setIfInBounds_toArray, List.set_cons_zero, List.set_cons_succ]
          refine rg_take 6 (v := ?_) rfl (by kernel_rfl) (by kernel_rfl) (by kernel_rfl) hq rfl ?_ ?_
          rotate_left
          · intro wS hSw; go_simp; (with_reducible rfl)
          simp only [List.getElem_toArray, List.getElem_cons_succ, List.getElem_cons_zero, Act.put, List.setIfInBounds_toArray, List.set_cons_zero, List.set_cons_succ]
          refine rg_take 7 (v := ?_) rfl (by kernel_rfl) (by kernel_rfl) (by kernel_rfl) hq rfl ?_ ?_
          rotate_left
          · intro wS hSw; go_simp; (with_reducible rfl)
          simp only [List.getElem_toArray, List.getElem_cons_succ, List.getElem_cons_zero, Act.put, List.setIfInBounds_toArray, List.set_cons_zero, List.set_cons_succ]
          have hB2d := below_drewN hB2 1
          have hkeep : ∀ w4 : World, Below (wr.alloc (.cells #[.int .u32 (f : Int), .int .u32 (t : Int)] 103)).drew.heap.size (wr.alloc (.cells #[.int .u32 (f : Int), .int .u32 (t : Int)] 103)).drew w4 → w4.cell? ⟨wr.heap.size, 0, none⟩ = some (.int .u32 (f : Int)) ∧ w4.cell? ⟨wr.heap.size, 1, none⟩ = some (.int .u32 (t : Int)) := fun w4 hb =>
            ⟨(hb.cell (p := ⟨wr.heap.size, 0, none⟩) (World.block_lt_of_cell? _ _ hq.1)).trans hq.1, (hb.cell (p := ⟨wr.heap.size, 1, none⟩) (World.block_lt_of_cell? _ _ hq.2)).trans hq.2⟩
          have hp4 := put_any A2 N c2 out f 4 (wr.alloc (.cells #[.int .u32 (f : Int), .int .u32 (t : Int)] 103)).drew ho2.rd.drew (by omega) (by omega)
          have hlo : out.length = N := RdB.length ho.rd
          have hlen4 : (out ++ be 4 f).length = N + 4 := by simp [be_length, hlo]
          have hlen8 : ((out ++ be 4 f) ++ be 4 t).length = N + 8 := by simp [be_length, hlo]
          rw [put4, hlen4] at hp4
          refine rg_one 4 rfl (by kernel_rfl) rfl (fun K hK => ?_)
          go_simp
          refine hp4.mono ?_
          rintro e w4 ⟨A4, c4, rfl, ho4, hB4⟩
          have hq4 := hkeep _ hB4
          have hB24 := hB2d.trans (hB4.mono hB2d.size)
          have ho4' := ho4.base_le hB2d.size
          have hp8 := put_any A4 (N + 4) c4 (out ++ be 4 f) t 4 w4 ho4.rd (by omega) (by omega)
          rw [put4, hlen8] at hp8
          refine hK _ _ hq4 ?_; clear hK K
          refine rg_one 8 rfl (by kernel_rfl) rfl (fun K hK => ?_)
          go_simp
          refine hp8.mono ?_
          rintro e w5 ⟨A5, c5, rfl, ho5, hB5⟩
          have hq5 : w5.cell? ⟨wr.heap.size, 0, none⟩ = some (.int .u32 (f : Int)) ∧ w5.cell? ⟨wr.heap.size, 1, none⟩ = some (.int .u32 (t : Int)) := ⟨(hB5.cell (p := ⟨wr.heap.size, 0, none⟩) (World.block_lt_of_cell? _ _ hq4.1)).trans hq4.1, (hB5.cell (p := ⟨wr.heap.size, 1, none⟩) (World.block_lt_of_cell? _ _ hq4.2)).trans hq4.2⟩
          have hB25 := hB24.trans (hB5.mono hB24.size)
          have ho5' := ho5.base_le hB24.size
          refine hK _ _ hq5 ?_; clear hK K
          refine rg_take 9 (v := ?_) rfl (by kernel_rfl) (by kernel_rfl) (by kernel_rfl) hq5 rfl ?_ ?_
          rotate_left
          · intro wS hSw; go_simp; (with_reducible rfl)
          simp only [List.getElem_toArray, List.getElem_cons_succ, List.getElem_cons_zero, Act.put, List.setIfInBounds_toArray, List.set_cons_zero, List.set_cons_succ]
          refine rg_end (by kernel_rfl) ?_
          go_wp2_with (first | (with_reducible refine hold_append ?_) | (with_reducible refine hold_make ?_) | (with_reducible refine hold_copy ?_))
          have hNN := HNN.out
          exact ⟨⟨k + 1, N + 8, c5, A5, (out ++ be 4 f) ++ be 4 t, by omega, by go_num, rfl, by omega, HN.out.symm, ho5', hB25⟩, by simp [RowKit.intOf]; omega⟩
        · obtain rfl : k = n := by omega
          have HO : Hid (out = be 2 (8 * k) ++ spBytes l) := Lib.hid (by rw [hout, List.take_of_length_le (by omega)])
          clear hout
          have hlen : (be 2 (8 * k) ++ spBytes l).length = N := by rw [← HO.out]; exact RdB.length ho.rd
          have HL := Lib.hid hlen
          clear hlen
          go_wp2_with (first | (with_reducible refine hold_append ?_) | (with_reducible refine hold_make ?_) | (with_reducible refine hold_copy ?_))
          go_ret2
          rw [HL.out, ← HO.out]
          exact ⟨A2, c2, rfl, ho, hBr⟩
end Go.PH
end
section
/- The walk of Put of spans, the document's. -/
set_option linter.all false
set_option linter.unusedSimpArgs false
set_option linter.unusedVariables false
namespace Go.PH
open Go.RowKit Go.Proofs

end Go.PH
end

/- A span put behind an own row. -/
import Derived.Test.YtjlfjlafpgjhbaaSpMem
import Derived.Test.YtjlfjlafpgjhbaaMem4
namespace Go.PH
open Go.RowKit Go.Proofs

theorem below_grown {base : Nat} {w w' : World} {A : Option Addr} {n c : Nat} {l : List Sp} (ho : OwnS w base A n c l) (hg : w.grownBy w' (blk A)) (hb : base ≤ w.heap.size) : Below base w w' :=
  (Below.refl base w).grown hg hb (fun g hg => (ho.blk_lt hg).1)
theorem op_push {W : World} {ops : Array Oper} {o : Oper} {a : Act} {K : Act → World → Prop} {Q : Exit → Act → World → Prop} {s x : Operand} {t t2 e2 base n c g : Nat} {A : Option Addr} {out : List Sp} {fi ti : Int} (hT : SlT Try.prog t 33 2 8 (.agg #[.int .u32 0, .int .u32 0])) (h2 : Try.prog.underlying t2 = some (.slice e2))
    (ho : o.op = .call { callee := .builtin .append, args := #[s, x], argTypes := #[t, t2] }) (hs : a.eval s = .slice A n c) (hx : a.eval x = .slice (some ⟨g, 0, none⟩) 1 1) (hg : g = W.heap.size)
    (f u : Nat) (hf : fi = (f : Int)) (hu : ti = (u : Int)) (hown : OwnS W base A n c out) (hn : n ≤ 1000000000) (hbase : base ≤ W.heap.size)
    (h : ∀ A2 c2 w', OwnS w' base A2 (n + 1) c2 (out ++ [(f, u)]) → W.grownBy w' (blk A) → (blk A2 = blk A ∨ ∀ g, blk A2 = some g → W.heap.size ≤ g) → Below base W w' → K (a.put o.dst (.slice A2 (n + 1) c2)) w') :
    o.wp Try.prog a (W.alloc (.cells #[.int .u32 fi, .int .u32 ti] 33)) K Q := by
  subst hg hf hu
  have hlit := own_lit (w := W) base #[.int .u32 (f : Int), .int .u32 (u : Int)] 33 1 hbase (by simp [maxLen]) rfl (size := 2) (by omega)
  have ho2 : OwnS (W.alloc (.cells #[.int .u32 (f : Int), .int .u32 (u : Int)] 33)) base A n c out := hown.alloc _
  refine op_app (ops := ops) hT h2 ho hs hx ho2 hlit.rd (spCells_one [(f, u)]) (by omega) (by simp [maxLen]; omega) (by simp; omega) fun A2 c2 w' a1 a2 a3 => ?_
  have e : spCells out ++ (#[.int .u32 (f : Int), .int .u32 (u : Int)] : Array Value).toList = spCells (out ++ [(f, u)]) := by rw [spCells_app]; rfl
  rw [e] at a1
  have hB2 : Below base W (W.alloc (.cells #[.int .u32 (f : Int), .int .u32 (u : Int)] 33)) := (Below.refl _ _).alloc hbase _
  have hgr : W.grownBy w' (blk A) := ⟨a2.os, a2.tape, a2.output, Nat.le_trans hB2.size a2.size, fun k hk hne => (a2.block k (by simp; omega) hne).trans (((Below.refl W.heap.size W).alloc (Nat.le_refl _) _).block k hk)⟩
  refine h A2 c2 w' a1 hgr ?_ ((Below.refl _ _).grown hgr hbase (fun g hg => (hown.blk_lt hg).1))
  rcases a3 with h3 | h3
  · exact .inl h3
  · refine .inr fun g hg => ?_
    rw [h3] at hg
    simp at hg; omega
theorem wp_push {W : World} {ops : Array Oper} {rest : List Oper} {o : Oper} {a : Act} {Q : Exit → Act → World → Prop} {s x : Operand} {t t2 e2 base n c g : Nat} {A : Option Addr} {out : List Sp} {fi ti : Int} (hT : SlT Try.prog t 33 2 8 (.agg #[.int .u32 0, .int .u32 0])) (h2 : Try.prog.underlying t2 = some (.slice e2)) (hw : Region.wanted o (yielded ops a.tmps) = true)
    (ho : o.op = .call { callee := .builtin .append, args := #[s, x], argTypes := #[t, t2] }) (hs : a.eval s = .slice A n c) (hx : a.eval x = .slice (some ⟨g, 0, none⟩) 1 1) (hg : g = W.heap.size)
    (f u : Nat) (hf : fi = (f : Int)) (hu : ti = (u : Int)) (hown : OwnS W base A n c out) (hn : n ≤ 1000000000) (hbase : base ≤ W.heap.size)
    (h : ∀ A2 c2 w', OwnS w' base A2 (n + 1) c2 (out ++ [(f, u)]) → W.grownBy w' (blk A) → (blk A2 = blk A ∨ ∀ g, blk A2 = some g → W.heap.size ≤ g) → Below base W w' → wpList Try.prog ops Q rest (a.put o.dst (.slice A2 (n + 1) c2)) w') :
    wpList Try.prog ops Q (o :: rest) a (W.alloc (.cells #[.int .u32 fi, .int .u32 ti] 33)) := by
  refine BigFrame.wpList_want hw fun K hK => ?_
  exact op_push (ops := ops) hT h2 ho hs hx hg f u hf hu hown hn hbase fun A2 c2 w' a1 a2 a3 a4 => hK _ _ (h A2 c2 w' a1 a2 a3 a4)
end Go.PH

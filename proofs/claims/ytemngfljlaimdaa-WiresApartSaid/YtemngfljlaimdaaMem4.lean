/- More words for memory: append of a slice of another named type; append and cuts as one operation of a drawn region. -/
import Derived.Test.YtemngfljlaimdaaMem2
set_option linter.all false
set_option linter.unusedSimpArgs false
set_option linter.unusedVariables false
namespace Go.PH
open Go.RowKit
section
variable {P : Program} {w w' : World} {base e size bytes t t2 n c m B : Nat} {A A' : Option Addr} {xs news : List Value} {z : Value}
theorem run_append_type {e2 : TypeId} (h1 : P.underlying t = some (.slice e)) (h2 : P.underlying t2 = some (.slice e2)) (ty : TypeId) (u v : Value) (w : World) :
    (Builtin.append_ #[t, t2] ty #[u, v]).run P w = (Builtin.append_ #[t, t] ty #[u, v]).run P w := by
  cases u <;> simp [Builtin.append_, run_underlying h1, run_underlying h2]
theorem op_app {ops : Array Oper} {o : Oper} {a : Act} {K : Act → World → Prop} {Q : Exit → Act → World → Prop} {s x : Operand} {e2 : TypeId} (hT : SlT P t e size bytes z) (h2 : P.underlying t2 = some (.slice e2))
    (ho : o.op = .call { callee := .builtin .append, args := #[s, x], argTypes := #[t, t2] }) (hs : a.eval s = .slice A n c) {c' : Nat} (hx : a.eval x = .slice A' m c')
    (hown : Own w base e size A n c xs) (hr : Rd w B size A' m c' news) (h1 : ∀ u ∈ news, u.oneCell' = true)
    (hsz : (n + m) * bytes ≤ 140737488355328) (h63 : n + m ≤ maxLen) (hbase : base ≤ w.heap.size)
    (h : ∀ A2 c2 w', Own w' base e size A2 (n + m) c2 (xs ++ news) → w.grownBy w' (blk A) → (blk A2 = blk A ∨ blk A2 = some w.heap.size) → K (a.put o.dst (.slice A2 (n + m) c2)) w') :
    o.wp P a w K Q := by
  obtain ⟨A2, c2, w', hrun, h2', h3, h4⟩ := run_app hT o.type hown hr h1 hsz h63 hbase
  unfold Oper.wp execOp
  simp only [ho, resolve, invoke, builtin, Sem.run_bind, Sem.run_pure, Result.andThen_ok, List.map_toArray, List.map_cons, List.map_nil, hs, hx, run_append_type hT.u h2, hrun]
  exact h A2 c2 w' h2' h3 h4
theorem wp_app2 {ops : Array Oper} {rest : List Oper} {o : Oper} {a : Act} {Q : Exit → Act → World → Prop} {s x : Operand} {e2 : TypeId} (hT : SlT P t e size bytes z) (h2 : P.underlying t2 = some (.slice e2)) (hw : Region.wanted o (yielded ops a.tmps) = true)
    (ho : o.op = .call { callee := .builtin .append, args := #[s, x], argTypes := #[t, t2] }) (hs : a.eval s = .slice A n c) {c' : Nat} (hx : a.eval x = .slice A' m c')
    (hown : Own w base e size A n c xs) (hr : Rd w B size A' m c' news) (h1 : ∀ u ∈ news, u.oneCell' = true)
    (hsz : (n + m) * bytes ≤ 140737488355328) (h63 : n + m ≤ maxLen) (hbase : base ≤ w.heap.size)
    (h : ∀ A2 c2 w', Own w' base e size A2 (n + m) c2 (xs ++ news) → w.grownBy w' (blk A) → (blk A2 = blk A ∨ blk A2 = some w.heap.size) → wpList P ops Q rest (a.put o.dst (.slice A2 (n + m) c2)) w') :
    wpList P ops Q (o :: rest) a w := by
  refine BigFrame.wpList_want hw fun K hK => ?_
  exact op_app (ops := ops) hT h2 ho hs hx hown hr h1 hsz h63 hbase fun A2 c2 w' a1 a2 a3 => hK _ _ (h A2 c2 w' a1 a2 a3)
end
end Go.PH

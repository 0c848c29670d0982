/- More words for memory: append of a text as one operation of a drawn region. -/
import Derived.Test.YtemngfljlaimdaaMem4
set_option linter.all false
set_option linter.unusedSimpArgs false
set_option linter.unusedVariables false
namespace Go.PH
open Go.RowKit
section
variable {P : Program} {w w' : World} {base e t n c : Nat} {A : Option Addr} {xs : List Value}
theorem op_app_str {o : Oper} {a : Act} {K : Act → World → Prop} {Q : Exit → Act → World → Prop} {s x : Operand} {u : TypeId} (hT : SlT P t e 1 1 (.int .u8 0)) (hu : P.underlying u = some .string)
    (ho : o.op = .call { callee := .builtin .append, args := #[s, x], argTypes := #[t, u] }) (hs : a.eval s = .slice A n c) {l : List UInt8} (hx : a.eval x = .string (str l))
    (hown : Own w base e 1 A n c xs) (hsz : n + l.length ≤ 140737488355328) (hbase : base ≤ w.heap.size)
    (h : ∀ A2 c2 w', Own w' base e 1 A2 (n + l.length) c2 (xs ++ l.map u8v) → w.grownBy w' (blk A) → K (a.put o.dst (.slice A2 (n + l.length) c2)) w') :
    o.wp P a w K Q := by
  obtain ⟨i, hi, hz, hs1, hby⟩ := hT.i
  obtain ⟨v', w', hrun, h2, h3, _⟩ := Lib.run_append_own_string (P := P) (w := w) base t u o.type e i hT.u hu hi hz hs1 hby _ n xs hown (str l) (by rw [str_size]; simp only [maxLen]; omega) (by rw [str_size]; omega) hbase
  rw [str_size] at h2
  obtain ⟨A2, c2, rfl⟩ := slice_of_own h2
  rw [ownBlock_eq] at h3
  have e1 : Lib.strCells (str l) = l.map u8v := by
    unfold Lib.strCells
    simp [str, u8v]
  rw [e1] at h2
  unfold Oper.wp execOp
  simp only [ho, resolve, invoke, builtin, Sem.run_bind, Sem.run_pure, Result.andThen_ok, List.map_toArray, List.map_cons, List.map_nil, hs, hx, hrun]
  exact h A2 c2 w' h2 h3
/-- what a walk between two worlds leaves of own rows -/
theorem own_below {w w' : World} {base e size n c : Nat} {A : Option Addr} {xs : List Value} (ho : Own w base e size A n c xs) (hB : Below w.heap.size w w') : Own w' base e size A n c xs :=
  ho.kept (row := none) ⟨hB.os, hB.tape, hB.output, hB.size, fun k hk _ => hB.block k hk⟩ (by cases hv : (Value.slice A n c).ownBlock <;> simp)
theorem own_stays {w w' : World} {base e size n c : Nat} {A : Option Addr} {xs : List Value} {row : Option Nat} (ho : Own w base e size A n c xs) (hg : w.grownBy w' row) (h : ∀ g, blk A = some g → row ≠ some g) : Own w' base e size A n c xs :=
  ho.kept hg (by
    rw [ownBlock_eq]
    cases hA : blk A with
    | none => exact .inl rfl
    | some g => exact .inr fun e => h g hA e.symm)
end
end Go.PH

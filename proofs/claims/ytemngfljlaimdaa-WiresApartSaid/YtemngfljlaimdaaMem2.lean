/- More words for memory: a cut slice keeps its block. -/
import Derived.Test.YtemngfljlaimdaaMem
set_option linter.all false
set_option linter.unusedSimpArgs false
set_option linter.unusedVariables false
namespace Go.PH
open Go.RowKit
section
variable {P : Program} {w w' : World} {base e size bytes t n c m B : Nat} {A A' : Option Addr} {xs news : List Value} {z : Value}
theorem wp_cutB {ops : Array Oper} {rest : List Oper} {o : Oper} {a : Act} {Q : Exit → Act → World → Prop} {x : Operand} {lo hi mx : Option Operand} (hT : SlT P t e size bytes z) (hw : Region.wanted o (yielded ops a.tmps) = true)
    (ho : o.op = .slice t x lo hi mx) (hx : a.eval x = .slice A n c) (hr : Rd w B size A n c xs) (l h m : Nat) (hlo : Bd (lo.map a.eval) 0 l) (hhi : Bd (hi.map a.eval) n h) (hmx : Bd (mx.map a.eval) c m) (hmh : mx.isSome = true → hi.isSome = true)
    (h1 : l ≤ h) (h2 : h ≤ m) (h3 : m ≤ c) (h4 : h ≤ n)
    (hk : ∀ A', Rd w B size A' (h - l) (m - l) ((xs.take (h * size)).drop (l * size)) → blk A' = blk A → wpList P ops Q rest (a.put o.dst (.slice A' (h - l) (m - l))) w) :
    wpList P ops Q (o :: rest) a w := by
  refine BigFrame.wpList_want hw fun K hK => ?_
  have hrun := run_cutA (A := A) hT w hr.max hr.cap l h m hlo hhi hmx (by simpa using hmh) h1 h2 h3 h4
  unfold Oper.wp execOp
  simp only [ho, hx, Sem.run_bind, Sem.run_pure, Result.andThen_ok, hrun]
  exact hK _ _ (hk _ (rd_cut hr l h m h1 h2 h3 h4) (cutA_blk _ _ _ _))
theorem Own.base_le {base' c : Nat} (h : Own w base e size A n c xs) (hb : base' ≤ base) : Own w base' e size A n c xs :=
  ⟨h.1, h.2.imp id fun ⟨g, cap, cur, h1, h2, h3⟩ => ⟨g, cap, cur, h1, Nat.le_trans hb h2, h3⟩⟩
theorem RdB.cut {l : List UInt8} {c lo k : Nat} (hr : RdB w B A n c l) (h : lo + k ≤ n) : RdB w B (cutA A 1 lo c) k (c - lo) ((l.drop lo).take k) := by
  have h1 := rd_cut hr lo (lo + k) c (by omega) (by have := hr.cap; omega) (Nat.le_refl _) h
  have e : (((l.map u8v).take ((lo + k) * 1)).drop (lo * 1)) = ((l.drop lo).take k).map u8v := by
    rw [Nat.mul_one, Nat.mul_one, ← List.map_take, ← List.map_drop, List.drop_take, Nat.add_sub_cancel_left]
  rw [e, Nat.add_sub_cancel_left] at h1
  exact h1
end
end Go.PH

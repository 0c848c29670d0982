/- The laws' head: calls whose answers are fixed. -/
import Derived.Test.YtjlfjlafpgjhbaaSpCut
import Derived.Test.YtjlfjlafpgjhbaaSpAdd
namespace Go.PH
open Go.RowKit Go.Proofs

theorem below_ownS {w w' : World} {base e size n c : Nat} {A : Option Addr} {xs : List Value} (ho : Own w base e size A n c xs) (hB : Below w.heap.size w w') : Own w' base e size A n c xs :=
  ho.kept (grownOf hB none) (by cases hv : (Value.slice A n c).ownBlock <;> simp)
theorem span_eql (f t f' t' : Nat) (w : World) : (binOp .eql 33 (.agg #[.int .u32 f, .int .u32 t]) (.agg #[.int .u32 f', .int .u32 t'])).run Try.prog w = .ok (.bool (decide ((f, t) = (f', t')))) w := by
  rw [run_eql_struct, run_equalIn_struct w 9999 33 _ _ span_fields span_stood]
  simp only [Program.fieldsOf, Try.underlying33]
  have hb : (f, t) = (f', t') ↔ f = f' ∧ t = t' := by simp
  have hd : decide ((f, t) = (f', t')) = (((f : Int) == (f' : Int)) && ((t : Int) == (t' : Int))) := by
    rw [Bool.eq_iff_iff]; simp; omega
  rw [hd]
  cases h1 : ((f : Int) == (f' : Int)) <;> cases h2 : ((t : Int) == (t' : Int)) <;> simp [Op.eqFields, part, run_equalIn_int _ 9998 23 .u32 .u32 _ _ Try.underlying23, h1, h2, beq_iff_eq, Result.andThen, typeInfo, sizeOf]

set_option maxRecDepth 20000 in
set_option maxHeartbeats 1000000 in
theorem head_any (w : World) : Calls Try.prog 10 #[] w fun e w' => e = .returned (.bool true) ∧ Below w.heap.size w w' := by
  have e1 : addR [(1, 2), (5, 5)] 3 4 = [(1, 5)] := by decide
  have e2 : spErr [(1, 2), (5, 5)] 3 4 = 0 := by decide
  have e3 : cutR [(1, 5)] 2 3 = [(1, 1), (4, 5)] := by decide
  have e4 : spErr [(1, 5)] 2 3 = 0 := by decide
  have e5 : spErr [(1, 2), (3, 4)] 9 9 = 30 := by decide
  have e6 : addR [(1, 2), (3, 4)] 9 9 = [] := by decide
  have k1 : (spRight [(1, 1), (4, 5)] && spIn [(1, 1), (4, 5)] 4) = true := by decide
  have k2 : (spRight [(1, 1), (4, 5)] && spIn [(1, 1), (4, 5)] 2) = false := by decide
  have ok1 : spOK 4294967296 [(1, 2), (5, 5)] := by intro a ha; simp at ha; rcases ha with rfl | rfl <;> simp
  have ok2 : spOK 4294967296 [(1, 5)] := by intro a ha; simp at ha; subst ha; simp
  have ok3 : spOK 4294967296 [(1, 2), (3, 4)] := by intro a ha; simp at ha; rcases ha with rfl | rfl <;> simp
  have ok4 : spOK 4294967296 [(1, 1), (4, 5)] := by intro a ha; simp at ha; rcases ha with rfl | rfl <;> simp
  have hlit1 : OwnS (w.alloc (.cells #[.int .u32 1, .int .u32 2, .int .u32 5, .int .u32 5] 33)) w.heap.size (some ⟨w.heap.size, 0, none⟩) 2 2 [(1, 2), (5, 5)] := own_lit (w := w) w.heap.size #[.int .u32 1, .int .u32 2, .int .u32 5, .int .u32 5] 33 2 (Nat.le_refl _) (by simp [maxLen]) rfl (size := 2) (by omega)
  have hB1 : Below w.heap.size w (w.alloc (.cells #[.int .u32 1, .int .u32 2, .int .u32 5, .int .u32 5] 33)) := (Below.refl _ _).alloc (Nat.le_refl _) _
  have hc1 := add_any _ 2 2 [(1, 2), (5, 5)] 3 4 _ _ hlit1.rd ok1 (by omega) (by omega) (Nat.le_refl _) (by omega)
  rw [e1, e2] at hc1
  go_enter Try.func10, Try.ntmps10
  go_wp2_with (first | (with_reducible refine hold_append ?_) | (with_reducible refine hold_make ?_) | (with_reducible refine hold_copy ?_))
  refine hc1.mono ?_
  rintro e w2 ⟨A2, c2, rfl, ho2, hB2⟩
  have hB12 := hB1.trans (hB2.mono hB1.size)
  have ho2' := ho2.base_le hB1.size
  clear hc1 hlit1 hB1 hB2 ho2
  go_wp2_with (first | (with_reducible refine hold_append ?_) | (with_reducible refine hold_make ?_) | (with_reducible refine hold_copy ?_))
  have hc2 := cut_any A2 1 c2 [(1, 5)] 2 3 _ w2 ho2'.rd ok2 (by omega) (by omega) (Nat.le_refl _) (by omega)
  rw [e3, e4] at hc2
  refine hc2.mono ?_
  rintro e w3 ⟨A3, c3, rfl, ho3, hB3⟩
  have ho23 := below_ownS ho2' hB3
  have hB13 := hB12.trans (hB3.mono hB12.size)
  have ho3' := ho3.base_le hB12.size
  clear hc2 ho2' ho3 hB3 hB12
  have hlit2 : OwnS (w3.alloc (.cells #[.int .u32 1, .int .u32 2, .int .u32 3, .int .u32 4] 33)) w3.heap.size (some ⟨w3.heap.size, 0, none⟩) 2 2 [(1, 2), (3, 4)] := own_lit (w := w3) w3.heap.size #[.int .u32 1, .int .u32 2, .int .u32 3, .int .u32 4] 33 2 (Nat.le_refl _) (by simp [maxLen]) rfl (size := 2) (by omega)
  have hB4 : Below w.heap.size w (w3.alloc (.cells #[.int .u32 1, .int .u32 2, .int .u32 3, .int .u32 4] 33)) := hB13.alloc hB13.size _
  have ho24 := ho23.alloc (.cells #[.int .u32 1, .int .u32 2, .int .u32 3, .int .u32 4] 33)
  have ho34 := ho3'.alloc (.cells #[.int .u32 1, .int .u32 2, .int .u32 3, .int .u32 4] 33)
  have hc3 := add_any _ 2 2 [(1, 2), (3, 4)] 9 9 _ _ hlit2.rd ok3 (by omega) (by omega) (Nat.le_refl _) (by omega)
  rw [e5, e6] at hc3
  go_wp2_with (first | (with_reducible refine hold_append ?_) | (with_reducible refine hold_make ?_) | (with_reducible refine hold_copy ?_))
  refine hc3.mono ?_
  rintro e w5 ⟨A5, c5, rfl, _, hB5⟩
  have ho25 := below_ownS ho24 hB5
  have ho35 := below_ownS ho34 hB5
  have hB15 := hB4.trans (hB5.mono hB4.size)
  clear hc3 hlit2 hB4 hB5 ho24 ho34 ho23 ho3' hB13
  obtain ⟨b2, off2, rfl, _, _, hx0, hx1⟩ := RdS.at_k ho25.rd (k := 0) (by simp)
  obtain ⟨b3, off3, rfl, _, _, hy0, hy1⟩ := RdS.at_k ho35.rd (k := 1) (by simp)
  simp only [List.getElem_cons_zero, List.getElem_cons_succ, Nat.zero_mul, Nat.add_zero, Nat.one_mul] at hx0 hx1 hy0 hy1
  have hq := span_eql 1 5 1 5 w5
  rw [decide_eq_true rfl] at hq
  have hgd := fun x y => run_eqGuard_agg (P := Try.prog) w5 .eql 33 x y #[.int .u32 1, .int .u32 5] #[.int .u32 1, .int .u32 5] span_guard
  have hh1 := has_any _ 2 c3 [(1, 1), (4, 5)] 4 _ w5 ho35.rd (Nat.le_refl _) ok4 (by omega) (by omega)
  rw [k1] at hh1
  go_wp2_with (first | (with_reducible refine hold_append ?_) | (with_reducible refine hold_make ?_) | (with_reducible refine hold_copy ?_))
  refine hh1.mono ?_
  rintro e w6 ⟨rfl, hB6⟩
  have ho36 := below_ownS ho35 hB6
  have hB16 := hB15.trans (hB6.mono hB15.size)
  have hh2 := has_any _ 2 c3 [(1, 1), (4, 5)] 2 _ w6 ho36.rd (Nat.le_refl _) ok4 (by omega) (by omega)
  rw [k2] at hh2
  go_wp2_with (first | (with_reducible refine hold_append ?_) | (with_reducible refine hold_make ?_) | (with_reducible refine hold_copy ?_))
  refine hh2.mono ?_
  rintro e w7 ⟨rfl, hB7⟩
  have hB17 := hB16.trans (hB7.mono hB16.size)
  go_wp2_with (first | (with_reducible refine hold_append ?_) | (with_reducible refine hold_make ?_) | (with_reducible refine hold_copy ?_))
  go_ret
  exact ⟨rfl, hB17⟩
end Go.PH

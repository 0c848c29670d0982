/- Texts laid together: MdSame. -/
import Derived.Test.YtidpbbleneekgaaGreatDoorMg08
import Derived.Test.YtidpbbleneekgaaGreatDoorMg18
section
/- Arguments of methods that hold a number or a text alone, held against themselves. -/
set_option linter.all false
set_option linter.unusedSimpArgs false
set_option linter.unusedVariables false
namespace Go.PH
open Go.RowKit Go.Proofs

theorem xid_eqlM (a b : Xd) (w : World) : (binOp .eql 44 (.agg (xdV a)) (.agg (xdV b))).run Tryz.prog w = .ok (.bool (decide (a = b))) w := by
  rw [run_eql_struct, xid_equal]
  rfl
theorem eqspan_nil (w : World) : Calls Tryz.prog 62 #[.slice none 0 0, .slice none 0 0] w fun e w' => e = .returned (.bool true) ∧ w = w' := by
  go_enter Tryz.func62, Tryz.ntmps62
  go_wp2_with (first | (with_reducible refine hold_append ?_) | (with_reducible refine hold_make ?_) | (with_reducible refine hold_copy ?_))
  go_loop [13] (fun s => s = .int .i64 0) (fun _ => 0)
  case atStart => exact rfl
  case round =>
    obtain rfl := hrel
    go_wp2_with (first | (with_reducible refine hold_append ?_) | (with_reducible refine hold_make ?_) | (with_reducible refine hold_copy ?_))
    go_ret
    exact ⟨rfl, rfl⟩
theorem eqstr_nil (w : World) : Calls Tryz.prog 98 #[.slice none 0 0, .slice none 0 0] w fun e w' => e = .returned (.bool true) ∧ w = w' := by
  go_enter Tryz.func98, Tryz.ntmps98
  go_wp2_with (first | (with_reducible refine hold_append ?_) | (with_reducible refine hold_make ?_) | (with_reducible refine hold_copy ?_))
  go_loop [13] (fun s => s = .int .i64 0) (fun _ => 0)
  case atStart => exact rfl
  case round =>
    obtain rfl := hrel
    go_wp2_with (first | (with_reducible refine hold_append ?_) | (with_reducible refine hold_make ?_) | (with_reducible refine hold_copy ?_))
    go_ret
    exact ⟨rfl, rfl⟩
theorem eqval_nil (f : Value) (w : World) : Calls Tryz.prog 99 #[.slice none 0 0, .slice none 0 0, f] w fun e w' => e = .returned (.bool true) ∧ w = w' := by
  go_enter Tryz.func99, Tryz.ntmps99
  go_wp2_with (first | (with_reducible refine hold_append ?_) | (with_reducible refine hold_make ?_) | (with_reducible refine hold_copy ?_))
  go_loop [17] (fun s => s = .int .i64 0) (fun _ => 0)
  case atStart => exact rfl
  case round =>
    obtain rfl := hrel
    go_wp2_with (first | (with_reducible refine hold_append ?_) | (with_reducible refine hold_make ?_) | (with_reducible refine hold_copy ?_))
    go_ret
    exact ⟨rfl, rfl⟩
theorem vsame0_any (w : World) : Calls Tryz.prog 63 #[.agg #[.int .u8 0, .int .u64 0, .string ⟨#[]⟩, .slice none 0 0, .slice none 0 0], .agg #[.int .u8 0, .int .u64 0, .string ⟨#[]⟩, .slice none 0 0, .slice none 0 0]] w fun e w' => e = .returned (.bool true) ∧ Below w.heap.size w w' := by
  have hB0 := ((Below.refl w.heap.size w).alloc (Nat.le_refl _) (.cells #[.int .u8 0, .int .u64 0, .string ⟨#[]⟩, .slice none 0 0, .slice none 0 0] 50)).alloc (by simp) (.cells #[.int .u8 0, .int .u64 0, .string ⟨#[]⟩, .slice none 0 0, .slice none 0 0] 50)
  go_enter Tryz.func63, Tryz.ntmps63
  go_wp2_with (first | (with_reducible refine hold_append ?_) | (with_reducible refine hold_make ?_) | (with_reducible refine hold_copy ?_))
  refine (eqstr_nil _).mono ?_
  rintro e w1 ⟨rfl, rfl⟩
  go_wp2_with (first | (with_reducible refine hold_append ?_) | (with_reducible refine hold_make ?_) | (with_reducible refine hold_copy ?_))
  refine (eqval_nil _ _).mono ?_
  rintro e w1 ⟨rfl, rfl⟩
  go_wp2_with (first | (with_reducible refine hold_append ?_) | (with_reducible refine hold_make ?_) | (with_reducible refine hold_copy ?_))
  go_ret
  exact ⟨rfl, hB0⟩
def saV (is : Bool) (n : Nat) (s : List UInt8) : Array Value := #[.bool is, .int .u64 (n : Int), .string (str s), .int .u32 0, .string ⟨#[]⟩, .string ⟨#[]⟩, .slice none 0 0, .int .u8 0, .int .u64 0, .string ⟨#[]⟩, .slice none 0 0, .slice none 0 0]
set_option maxRecDepth 20000 in
set_option maxHeartbeats 1000000 in
theorem msame_any (is : Bool) (n : Nat) (s : List UInt8) (w : World) : Calls Tryz.prog 28 #[.agg (saV is n s), .agg (saV is n s)] w fun e w' => e = .returned (.bool true) ∧ Below w.heap.size w w' := by
  unfold saV
  have hB0 := ((Below.refl w.heap.size w).alloc (Nat.le_refl _) (.cells #[.bool is, .int .u64 (n : Int), .string (str s), .int .u32 0, .string ⟨#[]⟩, .string ⟨#[]⟩, .slice none 0 0, .int .u8 0, .int .u64 0, .string ⟨#[]⟩, .slice none 0 0, .slice none 0 0] 52)).alloc (by simp) (.cells #[.bool is, .int .u64 (n : Int), .string (str s), .int .u32 0, .string ⟨#[]⟩, .string ⟨#[]⟩, .slice none 0 0, .int .u8 0, .int .u64 0, .string ⟨#[]⟩, .slice none 0 0, .slice none 0 0] 52)
  have heq := fun w => xid_eqlM ⟨0, [], []⟩ ⟨0, [], []⟩ w
  simp only [decide_true, xdV] at heq
  have b1 : (is == is) = true := by simp
  have b2 : ((n : Int) == (n : Int)) = true := by simp
  go_enter Tryz.func28, Tryz.ntmps28
  go_wp2_with (first | (with_reducible refine hold_append ?_) | (with_reducible refine hold_make ?_) | (with_reducible refine hold_copy ?_))
  refine (eqspan_nil _).mono ?_
  rintro e w1 ⟨rfl, rfl⟩
  go_wp2_with (first | (with_reducible refine hold_append ?_) | (with_reducible refine hold_make ?_) | (with_reducible refine hold_copy ?_))
  refine (vsame0_any _).mono ?_
  rintro e w1 ⟨rfl, hB1⟩
  go_wp2_with (first | (with_reducible refine hold_append ?_) | (with_reducible refine hold_make ?_) | (with_reducible refine hold_copy ?_))
  go_ret
  exact ⟨rfl, hB0.trans (hB1.mono hB0.size)⟩
end Go.PH
end

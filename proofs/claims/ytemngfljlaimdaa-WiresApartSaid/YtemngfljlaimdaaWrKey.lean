/- Ways as keys of a map: how they read; the raw reader of elements. -/
import Derived.Test.YtemngfljlaimdaaProg
import Derived.Test.YtemngfljlaimdaaWrMath
import Derived.Test.YtemngfljlaimdaaMapW
import Derived.Test.YtemngfljlaimdaaMem5
import Derived.Test.YtemngfljlaimdaaBox
import Derived.DeepKeys4
import Derived.Maps.OwnOps
import Derived.Maps.OwnSet
import Derived.Maps.RangeWalk
import Derived.Maps.Views
set_option linter.all false
set_option linter.unusedSimpArgs false
set_option linter.unusedVariables false
namespace Go.PH
open Go.RowKit Go.Proofs

def i64ok (a : Int) : Prop := -9223372036854775808 ≤ a ∧ a ≤ 9223372036854775807
def wayV (a b : Int) : Value := .agg #[.int .i64 a, .int .i64 b]
def wayL (a b : Int) : Lit := .string (keyBytes [.int .i64 a, .int .i64 b])
theorem way_wide : (match Try.prog.underlying 54 with | some (.array _ _) | some (.struct _) => true | _ => false) = true := by rw [Try.underlying54]
theorem laidOutW : laidOutB Try.prog = true := by kernel_rfl
theorem way_row : (54 : TypeId) < Try.prog.types.size := of_decide_eq_true (by kernel_rfl)
theorem way_law : WideMaps.KeyLaw Try.prog 54 := deep_law_laid laidOutW (m := 3) (by omega) way_row (by kernel_rfl) way_wide
theorem way_keyed : Maps.Keyed Try.prog 54 := Maps.Keyed.of_law way_law
theorem i64_wf {a : Int} (h : i64ok a) : (Lit.int .i64 a).wf = true := by
  unfold i64ok at h
  have e1 : IntKind.i64.min = -9223372036854775808 := by decide
  have e2 : IntKind.i64.max = 9223372036854775807 := by decide
  simp only [Lit.wf, e1, e2, Bool.and_eq_true, decide_eq_true_eq]
  exact h
theorem way_key {a b : Int} (ha : i64ok a) (hb : i64ok b) : keyOf Try.prog 54 (wayV a b) = some (wayL a b) := by
  have h1 := i64_wf ha
  have h2 := i64_wf hb
  have hf : (wayV a b).formed Try.prog 54 = true := by simp [wayV, Value.formed, Try.underlying54]; kernel_rfl
  have hk : Try.prog.keyType 54 = true := by kernel_rfl
  have hc : Try.prog.cellsOf 54 = 2 := by kernel_rfl
  have hc1 : Try.prog.cellsOf 3 = 1 := by kernel_rfl
  obtain ⟨m, hm⟩ : ∃ m, Try.prog.types.size = m + 1 := ⟨Try.prog.types.size - 1, (Nat.succ_pred_eq_of_pos (Nat.lt_of_le_of_lt (Nat.zero_le _) way_row)).symm⟩
  unfold keyOf
  rw [Try.underlying54]
  simp only [hk, hf, Bool.and_self, if_true, hm]
  simp [Program.keyLits, Try.underlying54, Try.underlying3, hc, hc1, wayV, Value.cells, h1, h2, List.range, List.range.loop, wayL]
theorem wayL_inj {a b c d : Int} (ha : i64ok a) (hb : i64ok b) (hc : i64ok c) (hd : i64ok d) (h : wayL a b = wayL c d) : a = c ∧ b = d := by
  have h1 := way_key ha hb
  have h2 := way_key hc hd
  rw [h] at h1
  have e := way_keyed.inj h1 h2
  simp [wayV] at e
  exact e
def rawW : Value → Option (DataW Value × List MemPlace) := fun v => some (.held v, [])
end Go.PH

/- Ways as values: their '==', and what reads as a key is a way. -/
import Derived.Test.YtemngfljlaimdaaWrKey
import Derived.ChangeKeysEq
set_option linter.all false
set_option linter.unusedSimpArgs false
set_option linter.unusedVariables false
namespace Go.PH
open Go.RowKit Go.Proofs

theorem equal_pair {t : TypeId} (hu : Try.prog.underlying t = some (.array 2 3)) (a b c d : Int) (W : World) : (Op.equalIn 10000 t (wayV a b) (wayV c d)).run Try.prog W = .ok (decide (a = c ∧ b = d)) W := by
  obtain ⟨i, hi⟩ : ∃ i, Try.prog.info? 3 = some i := ⟨_, rfl⟩
  have hc1 : Try.prog.cellsOf 3 = 1 := by kernel_rfl
  unfold wayV
  rw [run_equalIn_array (w := W) 9999 _ _ hu hi, hc1]
  have hz : ∀ W, (isAgg 3).run Try.prog W = .ok false W := Try.isAgg3
  by_cases h : a = c
  · by_cases h' : b = d
    · simp [List.range, List.range.loop, Op.eqItems, part, hz, run_equalIn_int _ 9998 3 .i64 .i64 _ _ Try.underlying3, h, h', Result.andThen]
    · simp [List.range, List.range.loop, Op.eqItems, part, hz, run_equalIn_int _ 9998 3 .i64 .i64 _ _ Try.underlying3, h, h', Result.andThen]
  · simp [List.range, List.range.loop, Op.eqItems, part, hz, run_equalIn_int _ 9998 3 .i64 .i64 _ _ Try.underlying3, h, Result.andThen]
theorem eql_way (a b c d : Int) (W : World) : (binOp .eql 54 (.agg #[.int .i64 a, .int .i64 b]) (.agg #[.int .i64 c, .int .i64 d])).run Try.prog W = .ok (.bool (decide (a = c ∧ b = d))) W := by
  have h := equal_pair Try.underlying54 a b c d W
  unfold wayV at h
  rw [run_eql_struct, h]; rfl
theorem eql_pair (a b c d : Int) (W : World) : (binOp .eql 45 (.agg #[.int .i64 a, .int .i64 b]) (.agg #[.int .i64 c, .int .i64 d])).run Try.prog W = .ok (.bool (decide (a = c ∧ b = d))) W := by
  have h := equal_pair Try.underlying45 a b c d W
  unfold wayV at h
  rw [run_eql_struct, h]; rfl
theorem neq_pair (a b c d : Int) (W : World) : (binOp .neq 45 (.agg #[.int .i64 a, .int .i64 b]) (.agg #[.int .i64 c, .int .i64 d])).run Try.prog W = .ok (.bool (!decide (a = c ∧ b = d))) W := by
  have h := equal_pair Try.underlying45 a b c d W
  unfold wayV at h
  rw [run_neq_struct, h]; rfl
theorem way_inv (key : Value) (kl : Lit) (h : keyOf Try.prog 54 key = some kl) : ∃ a b, key = wayV a b ∧ i64ok a ∧ i64ok b ∧ kl = wayL a b := by
  have hc : Try.prog.cellsOf 54 = 2 := by kernel_rfl
  have hc1 : Try.prog.cellsOf 3 = 1 := by kernel_rfl
  have h0 := h
  unfold keyOf at h
  simp only [Try.underlying54] at h
  split at h
  · rename_i hk
    simp only [Bool.and_eq_true] at hk
    cases key
    case agg cs =>
      have hs : cs.size = 2 := by
        have := hk.2
        simp only [Value.formed, Try.underlying54, hc, beq_iff_eq] at this
        exact this
      obtain ⟨x, y, hxy⟩ : ∃ x y, cs.toList = [x, y] := by
        have hl : cs.toList.length = 2 := by simpa using hs
        match hcs : cs.toList, hl with
        | [x, y], _ => exact ⟨x, y, rfl⟩
      have hcs : cs = #[x, y] := by rw [← Array.toArray_toList (xs := cs), hxy]
      subst hcs
      obtain ⟨m, hm⟩ : ∃ m, Try.prog.types.size = m + 1 := ⟨Try.prog.types.size - 1, (Nat.succ_pred_eq_of_pos (Nat.lt_of_le_of_lt (Nat.zero_le _) way_row)).symm⟩
      rw [hm] at h
      have hx : ∀ v, Try.prog.keyLits (m + 1) 3 [v] ≠ none → ∃ a, v = .int .i64 a ∧ i64ok a := fun v hv => by
        cases v <;> simp [Program.keyLits, Try.underlying3] at hv
        obtain ⟨rfl, hwf⟩ := hv
        have e1 : IntKind.i64.min = -9223372036854775808 := by decide
        have e2 : IntKind.i64.max = 9223372036854775807 := by decide
        simp only [Lit.wf, e1, e2, Bool.and_eq_true, decide_eq_true_eq] at hwf
        exact ⟨_, rfl, hwf⟩
      have h3 : Try.prog.keyLits (m + 1) 3 [x] ≠ none ∧ Try.prog.keyLits (m + 1) 3 [y] ≠ none := by
        rw [show m + 1 + 1 = (m + 1) + 1 from rfl] at h
        unfold Program.keyLits at h
        simp only [Try.underlying54, hc, hc1, Value.cells] at h
        simp only [List.range, List.range.loop, List.mapM_cons, List.mapM_nil] at h
        constructor
        · intro e
          simp [e] at h
        · intro e
          simp [e] at h
      obtain ⟨a, rfl, ha⟩ := hx x h3.1
      obtain ⟨b, rfl, hb⟩ := hx y h3.2
      refine ⟨a, b, rfl, ha, hb, ?_⟩
      have := way_key ha hb
      unfold wayV at this
      rw [h0] at this
      exact Option.some.inj this
    all_goals (simp [Value.formed, Try.underlying54] at hk)
  · cases h
end Go.PH

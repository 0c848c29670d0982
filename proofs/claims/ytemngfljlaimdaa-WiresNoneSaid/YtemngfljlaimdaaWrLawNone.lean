/- WiresNone: the walk. -/
import Derived.Test.YtemngfljlaimdaaWrNone
set_option linter.all false
set_option linter.unusedSimpArgs false
set_option linter.unusedVariables false
namespace Go.PH
open Go.RowKit Go.Proofs

set_option maxRecDepth 20000 in
set_option maxHeartbeats 4000000 in
theorem law_WiresNone (wh f t a : Int) (s : ByteArray) (w : World) : Calls Try.prog 6 #[.agg #[.int .u8 wh, .int .i64 f, .int .i64 t, .int .i64 a, .string s]] w fun e w' => e = .returned (.bool true) ∧ Below w.heap.size w w' := by
  obtain ⟨xb, w1, q1, v1, hX, hB1⟩ := alloc_stepW w #[.int .u8 wh, .int .i64 f, .int .i64 t, .int .i64 a, .string s] 40
  obtain ⟨wb, w2, q2, v2, hb, hB2⟩ := alloc_stepW w1 #[.map none] 50
  obtain ⟨lb, w3, q3, v3, hl, hB3⟩ := alloc_stepW w2 #[.pointer none, .pointer (some ⟨wb, 0, none⟩)] 24
  have e2 : wb = w.heap.size + 1 := by rw [q2, v1]; simp
  have e3 : lb = w.heap.size + 1 + 1 := by rw [q3, v2, v1]; simp
  have hX3 := (hX.below hB2).below hB3
  have hb3 := hb.below hB3
  have hBB : Below w.heap.size w w3 := hB1.trans ((hB2.mono hB1.size).trans (hB3.mono (by have := hB1.size; have := hB2.size; omega)))
  clear hX hb hB1 hB2 hB3
  go_enter Try.func6, Try.ntmps6
  go_wp2_with (first | (with_reducible refine hold_append ?_) | (with_reducible refine hold_make ?_) | (with_reducible refine hold_copy ?_))
  try go_frame
  rw [← e3, ← e2, ← q1]
  rw [← v1, ← v2, ← v3]
  clear v1 v2 v3 q1 q2 q3 e2 e3
  go_loopw [5] (fun x wr => ∃ k : Nat, k ≤ 2 ∧ x = .int .i64 k ∧ Box wr xb 40 #[.int .u8 wh, .int .i64 f, .int .i64 t, .int .i64 a, .string s] ∧ Box wr wb 50 #[.map none] ∧ Box wr lb 24 #[.pointer none, .pointer (some ⟨wb, 0, none⟩)] ∧ Below w.heap.size w wr) (fun x _ => 2 - (Proofs.intOf x).toNat)
  case atStart => exact ⟨0, by omega, rfl, hX3, hb3, hl, hBB⟩
  case round =>
    clear hX3 hb3 hl hBB
    obtain ⟨k, hk, rfl, hX, hb, hl, hBB0⟩ := hrel
    obtain rfl | rfl | rfl : k = 0 ∨ k = 1 ∨ k = 2 := by omega
    · have hn : NoW wr (.pointer none) := .inl rfl
      have c1 := hX.cell (j := 1) rfl
      have c2 := hX.cell (j := 2) rfl
      have c3 := hX.cell (j := 3) rfl
      have c4 := hX.cell (j := 4) rfl
      have d0 := hl.cell (j := 0) rfl
      have d1 := hl.cell (j := 1) rfl
      go_wp2_with (first | (with_reducible refine hold_append ?_) | (with_reducible refine hold_make ?_) | (with_reducible refine hold_copy ?_))
      clear c1 c2 c3 c4 d0 d1
      refine (take_no _ f t a _ hn).mono ?_
      rintro e w1 ⟨rfl, hB1⟩
      have hX1 := hX.below hB1
      have hn1 := hn.on hB1
      have c1 := hX1.cell (j := 1) rfl
      have c2 := hX1.cell (j := 2) rfl
      have c3 := hX1.cell (j := 3) rfl
      have c4 := hX1.cell (j := 4) rfl
      go_wp2_with (first | (with_reducible refine hold_append ?_) | (with_reducible refine hold_make ?_) | (with_reducible refine hold_copy ?_))
      refine (clear_no _ f _ hn1).mono ?_
      rintro e w2 ⟨rfl, hB2⟩
      have hX2 := hX1.below hB2
      have hn2 := hn1.on hB2
      clear c1 c2 c3 c4
      have c1 := hX2.cell (j := 1) rfl
      have c2 := hX2.cell (j := 2) rfl
      have c3 := hX2.cell (j := 3) rfl
      have c4 := hX2.cell (j := 4) rfl
      go_wp2_with (first | (with_reducible refine hold_append ?_) | (with_reducible refine hold_make ?_) | (with_reducible refine hold_copy ?_))
      refine (send_no _ f t s _ hn2).mono ?_
      rintro e w3 ⟨rfl, hB3⟩
      have hX3 := hX2.below hB3
      have hn3 := hn2.on hB3
      clear c1 c2 c3 c4
      have c1 := hX3.cell (j := 1) rfl
      have c2 := hX3.cell (j := 2) rfl
      have c3 := hX3.cell (j := 3) rfl
      have c4 := hX3.cell (j := 4) rfl
      go_wp2_with (first | (with_reducible refine hold_append ?_) | (with_reducible refine hold_make ?_) | (with_reducible refine hold_copy ?_))
      refine (double_no _ f t a _ hn3).mono ?_
      rintro e w4 ⟨rfl, hB4⟩
      have hX4 := hX3.below hB4
      have hn4 := hn3.on hB4
      clear c1 c2 c3 c4
      have c1 := hX4.cell (j := 1) rfl
      have c2 := hX4.cell (j := 2) rfl
      have c3 := hX4.cell (j := 3) rfl
      have c4 := hX4.cell (j := 4) rfl
      go_wp2_with (first | (with_reducible refine hold_append ?_) | (with_reducible refine hold_make ?_) | (with_reducible refine hold_copy ?_))
      refine (count_no _ f t _ hn4).mono ?_
      rintro e w5 ⟨rfl, hB5⟩
      have hX5 := hX4.below hB5
      have hn5 := hn4.on hB5
      clear c1 c2 c3 c4
      go_wp2_with (first | (with_reducible refine hold_append ?_) | (with_reducible refine hold_make ?_) | (with_reducible refine hold_copy ?_))
      refine (ways_no _ _ hn5).mono ?_
      rintro e w6 ⟨rfl, hB6⟩
      have hX6 := hX5.below hB6
      have hBB : Below wr.heap.size wr w6 := ((((hB1.trans (hB2.mono hB1.size)).trans (hB3.mono (hB1.trans (hB2.mono hB1.size)).size)).trans (hB4.mono ((hB1.trans (hB2.mono hB1.size)).trans (hB3.mono (hB1.trans (hB2.mono hB1.size)).size)).size)).trans (hB5.mono (by have := hB1.size; have := hB2.size; have := hB3.size; have := hB4.size; omega))).trans (hB6.mono (by have := hB1.size; have := hB2.size; have := hB3.size; have := hB4.size; have := hB5.size; omega))
      go_wp2_with (first | (with_reducible refine hold_append ?_) | (with_reducible refine hold_make ?_) | (with_reducible refine hold_copy ?_))
      exact ⟨⟨1, by omega, by first | rfl | go_num, hX6, hb.below hBB, hl.below hBB, hBB0.trans (hBB.mono hBB0.size)⟩, by simp [Proofs.intOf]⟩
    · have hn : NoW wr (.pointer (some ⟨wb, 0, none⟩)) := .inr ⟨wb, rfl, hb⟩
      have c1 := hX.cell (j := 1) rfl
      have c2 := hX.cell (j := 2) rfl
      have c3 := hX.cell (j := 3) rfl
      have c4 := hX.cell (j := 4) rfl
      have d0 := hl.cell (j := 0) rfl
      have d1 := hl.cell (j := 1) rfl
      go_wp2_with (first | (with_reducible refine hold_append ?_) | (with_reducible refine hold_make ?_) | (with_reducible refine hold_copy ?_))
      clear c1 c2 c3 c4 d0 d1
      refine (take_no _ f t a _ hn).mono ?_
      rintro e w1 ⟨rfl, hB1⟩
      have hX1 := hX.below hB1
      have hn1 := hn.on hB1
      have c1 := hX1.cell (j := 1) rfl
      have c2 := hX1.cell (j := 2) rfl
      have c3 := hX1.cell (j := 3) rfl
      have c4 := hX1.cell (j := 4) rfl
      go_wp2_with (first | (with_reducible refine hold_append ?_) | (with_reducible refine hold_make ?_) | (with_reducible refine hold_copy ?_))
      refine (clear_no _ f _ hn1).mono ?_
      rintro e w2 ⟨rfl, hB2⟩
      have hX2 := hX1.below hB2
      have hn2 := hn1.on hB2
      clear c1 c2 c3 c4
      have c1 := hX2.cell (j := 1) rfl
      have c2 := hX2.cell (j := 2) rfl
      have c3 := hX2.cell (j := 3) rfl
      have c4 := hX2.cell (j := 4) rfl
      go_wp2_with (first | (with_reducible refine hold_append ?_) | (with_reducible refine hold_make ?_) | (with_reducible refine hold_copy ?_))
      refine (send_no _ f t s _ hn2).mono ?_
      rintro e w3 ⟨rfl, hB3⟩
      have hX3 := hX2.below hB3
      have hn3 := hn2.on hB3
      clear c1 c2 c3 c4
      have c1 := hX3.cell (j := 1) rfl
      have c2 := hX3.cell (j := 2) rfl
      have c3 := hX3.cell (j := 3) rfl
      have c4 := hX3.cell (j := 4) rfl
      go_wp2_with (first | (with_reducible refine hold_append ?_) | (with_reducible refine hold_make ?_) | (with_reducible refine hold_copy ?_))
      refine (double_no _ f t a _ hn3).mono ?_
      rintro e w4 ⟨rfl, hB4⟩
      have hX4 := hX3.below hB4
      have hn4 := hn3.on hB4
      clear c1 c2 c3 c4
      have c1 := hX4.cell (j := 1) rfl
      have c2 := hX4.cell (j := 2) rfl
      have c3 := hX4.cell (j := 3) rfl
      have c4 := hX4.cell (j := 4) rfl
      go_wp2_with (first | (with_reducible refine hold_append ?_) | (with_reducible refine hold_make ?_) | (with_reducible refine hold_copy ?_))
      refine (count_no _ f t _ hn4).mono ?_
      rintro e w5 ⟨rfl, hB5⟩
      have hX5 := hX4.below hB5
      have hn5 := hn4.on hB5
      clear c1 c2 c3 c4
      go_wp2_with (first | (with_reducible refine hold_append ?_) | (with_reducible refine hold_make ?_) | (with_reducible refine hold_copy ?_))
      refine (ways_no _ _ hn5).mono ?_
      rintro e w6 ⟨rfl, hB6⟩
      have hX6 := hX5.below hB6
      have hBB : Below wr.heap.size wr w6 := ((((hB1.trans (hB2.mono hB1.size)).trans (hB3.mono (hB1.trans (hB2.mono hB1.size)).size)).trans (hB4.mono ((hB1.trans (hB2.mono hB1.size)).trans (hB3.mono (hB1.trans (hB2.mono hB1.size)).size)).size)).trans (hB5.mono (by have := hB1.size; have := hB2.size; have := hB3.size; have := hB4.size; omega))).trans (hB6.mono (by have := hB1.size; have := hB2.size; have := hB3.size; have := hB4.size; have := hB5.size; omega))
      go_wp2_with (first | (with_reducible refine hold_append ?_) | (with_reducible refine hold_make ?_) | (with_reducible refine hold_copy ?_))
      exact ⟨⟨2, by omega, by first | rfl | go_num, hX6, hb.below hBB, hl.below hBB, hBB0.trans (hBB.mono hBB0.size)⟩, by simp [Proofs.intOf]⟩
    · go_wp2_with (first | (with_reducible refine hold_append ?_) | (with_reducible refine hold_make ?_) | (with_reducible refine hold_copy ?_))
      refine (head_any _).mono ?_
      rintro e wh ⟨rfl, hBh⟩
      go_wp2_with (first | (with_reducible refine hold_append ?_) | (with_reducible refine hold_make ?_) | (with_reducible refine hold_copy ?_))
      go_ret
      exact ⟨rfl, (hBB0).trans (hBh.mono (hBB0).size)⟩
end Go.PH

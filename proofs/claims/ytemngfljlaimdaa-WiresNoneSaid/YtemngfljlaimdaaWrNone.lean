/- Wires that are none: the walks. -/
import Derived.Test.YtemngfljlaimdaaWrHead
set_option linter.all false
set_option linter.unusedSimpArgs false
set_option linter.unusedVariables false
namespace Go.PH
open Go.RowKit Go.Proofs

/-- no wires at p -/
def NoW (w : World) (p : Value) : Prop := p = .pointer none ∨ ∃ b, p = .pointer (some ⟨b, 0, none⟩) ∧ Box w b 50 #[.map none]
theorem NoW.on {w w' : World} {p : Value} (h : NoW w p) (hB : Below w.heap.size w w') : NoW w' p := by
  rcases h with h | ⟨b, h1, h2⟩
  · exact .inl h
  · exact .inr ⟨b, h1, h2.below hB⟩
theorem there_no (p : Value) (w : World) (h : NoW w p) : Calls Try.prog 19 #[p] w fun e w' => e = .returned (.bool false) ∧ w' = w := by
  rcases h with rfl | ⟨b, rfl, hb⟩
  · go_enter Try.func19, Try.ntmps19
    go_wp2_with (first | (with_reducible refine hold_append ?_) | (with_reducible refine hold_make ?_) | (with_reducible refine hold_copy ?_))
    go_ret
    exact ⟨rfl, rfl⟩
  · have c0 := hb.cell (j := 0) rfl
    have hnm := fun W => run_neq_map_nil (P := Try.prog) W _ _ _ none Try.underlying48
    go_enter Try.func19, Try.ntmps19
    go_wp2_with (first | (with_reducible refine hold_append ?_) | (with_reducible refine hold_make ?_) | (with_reducible refine hold_copy ?_))
    go_ret
    exact ⟨rfl, rfl⟩
set_option maxRecDepth 20000 in
theorem count_no (p : Value) (a b : Int) (w : World) (h : NoW w p) : Calls Try.prog 13 #[p, .int .i64 a, .int .i64 b] w fun e w' => e = .returned (.int .i64 0) ∧ Below w.heap.size w w' := by
  have hth := there_no p w h
  go_enter Try.func13, Try.ntmps13
  go_wp2_with (first | (with_reducible refine hold_append ?_) | (with_reducible refine hold_make ?_) | (with_reducible refine hold_copy ?_))
  refine hth.mono ?_
  rintro e w1 ⟨rfl, hw⟩
  subst w1
  clear hth
  go_wp2_with (first | (with_reducible refine hold_append ?_) | (with_reducible refine hold_make ?_) | (with_reducible refine hold_copy ?_))
  go_ret
  exact ⟨rfl, Below.refl _ _⟩
set_option maxRecDepth 20000 in
theorem ways_no (p : Value) (w : World) (h : NoW w p) : Calls Try.prog 15 #[p] w fun e w' => e = .returned (.slice none 0 0) ∧ Below w.heap.size w w' := by
  have hth := there_no p w h
  go_enter Try.func15, Try.ntmps15
  go_wp2_with (first | (with_reducible refine hold_append ?_) | (with_reducible refine hold_make ?_) | (with_reducible refine hold_copy ?_))
  refine hth.mono ?_
  rintro e w1 ⟨rfl, hw⟩
  subst w1
  clear hth
  go_wp2_with (first | (with_reducible refine hold_append ?_) | (with_reducible refine hold_make ?_) | (with_reducible refine hold_copy ?_))
  go_ret
  exact ⟨rfl, Below.refl _ _⟩
set_option maxRecDepth 20000 in
theorem clear_no (p : Value) (a : Int) (w : World) (h : NoW w p) : Calls Try.prog 17 #[p, .int .i64 a] w fun e w' => e = .returned (.tuple #[]) ∧ Below w.heap.size w w' := by
  have hth := there_no p w h
  go_enter Try.func17, Try.ntmps17
  go_wp2_with (first | (with_reducible refine hold_append ?_) | (with_reducible refine hold_make ?_) | (with_reducible refine hold_copy ?_))
  refine hth.mono ?_
  rintro e w1 ⟨rfl, hw⟩
  subst w1
  clear hth
  go_wp2_with (first | (with_reducible refine hold_append ?_) | (with_reducible refine hold_make ?_) | (with_reducible refine hold_copy ?_))
  first | go_ret | go_end0 | skip
  exact ⟨rfl, Below.refl _ _⟩
set_option maxRecDepth 20000 in
theorem find_no (p : Value) (a b i : Int) (w : World) (h : NoW w p) : Calls Try.prog 20 #[p, .agg #[.int .i64 a, .int .i64 b], .int .i64 i] w fun e w' => e = .returned (.tuple #[.slice none 0 0, .int .i64 1]) ∧ Below w.heap.size w w' := by
  obtain ⟨kb, w0, hqb, hqv, hk, hB0⟩ := alloc_stepW w #[.int .i64 a, .int .i64 b] 54
  have hth := there_no p w0 (h.on hB0)
  go_enter Try.func20, Try.ntmps20
  go_upto_region 1 with fail
  rw [← hqb, ← hqv]
  clear hqb hqv
  go_wp2_with (first | (with_reducible refine hold_append ?_) | (with_reducible refine hold_make ?_) | (with_reducible refine hold_copy ?_))
  refine hth.mono ?_
  rintro e w1 ⟨rfl, hw⟩
  subst w1
  clear hth
  go_wp2_with (first | (with_reducible refine hold_append ?_) | (with_reducible refine hold_make ?_) | (with_reducible refine hold_copy ?_))
  go_ret2
  exact ⟨rfl, hB0⟩
set_option maxRecDepth 20000 in
theorem take_no (p : Value) (a b i : Int) (w : World) (h : NoW w p) : Calls Try.prog 10 #[p, .int .i64 a, .int .i64 b, .int .i64 i] w fun e w' => e = .returned (.tuple #[.string ⟨#[]⟩, .int .i64 1]) ∧ Below w.heap.size w w' := by
  obtain ⟨kb, w0, hqb, hqv, hk, hB0⟩ := alloc_stepW w #[.int .i64 0, .int .i64 0] 54
  go_enter Try.func10, Try.ntmps10
  go_upto_region 1 with fail
  go_wp2_with (first | (with_reducible refine hold_append ?_) | (with_reducible refine hold_make ?_) | (with_reducible refine hold_copy ?_) | (with_reducible refine hold_store ?_))
  rw [← hqb, ← hqv]
  refine unhold (wp_box (v := .agg #[.int .i64 a, .int .i64 b]) (vs := [.int .i64 a, .int .i64 b]) rfl rfl rfl rfl hk rfl (by kernel_rfl) (by simp) (by simp [Value.oneCell']) #[.int .i64 a, .int .i64 b] (by simp) ?_)
  intro w1 hk1 hg1 hz1
  have hB1 : Below w.heap.size w w1 := hB0.grown hg1 hB0.size (fun g hg => by injection hg with hg; omega)
  have h1 := h.on hB1
  clear hk hg1 hz1 hB0 hqb hqv h
  have hth := find_no p a b i w1 h1
  have k0 := hk1.cell (j := 0) rfl
  have k1 := hk1.cell (j := 1) rfl
  go_wp2_with (first | (with_reducible refine hold_append ?_) | (with_reducible refine hold_make ?_) | (with_reducible refine hold_copy ?_))
  refine hth.mono ?_
  rintro e w2 ⟨rfl, hB2⟩
  have hB3 := hB1.trans (hB2.mono hB1.size)
  clear hth hB1 hB2 k0 k1 hk1
  go_wp2_with (first | (with_reducible refine hold_append ?_) | (with_reducible refine hold_make ?_) | (with_reducible refine hold_copy ?_))
  go_ret2
  exact ⟨rfl, hB3⟩
set_option maxRecDepth 20000 in
theorem send_no (p : Value) (a b : Int) (s : ByteArray) (w : World) (h : NoW w p) : Calls Try.prog 9 #[p, .int .i64 a, .int .i64 b, .string s] w fun e w' => e = .returned (.int .i64 1) ∧ Below w.heap.size w w' := by
  obtain ⟨kb, w0, hqb, hqv, hk, hB0⟩ := alloc_stepW w #[.int .i64 0, .int .i64 0] 54
  go_enter Try.func9, Try.ntmps9
  go_upto_region 1 with fail
  go_wp2_with (first | (with_reducible refine hold_append ?_) | (with_reducible refine hold_make ?_) | (with_reducible refine hold_copy ?_) | (with_reducible refine hold_store ?_))
  rw [← hqb, ← hqv]
  refine unhold (wp_box (v := .agg #[.int .i64 a, .int .i64 b]) (vs := [.int .i64 a, .int .i64 b]) rfl rfl rfl rfl hk rfl (by kernel_rfl) (by simp) (by simp [Value.oneCell']) #[.int .i64 a, .int .i64 b] (by simp) ?_)
  intro w1 hk1 hg1 hz1
  have hB1 : Below w.heap.size w w1 := hB0.grown hg1 hB0.size (fun g hg => by injection hg with hg; omega)
  have h1 := h.on hB1
  clear hk hg1 hz1 hB0 hqb hqv h
  have hth := there_no p w1 h1
  go_wp2_with (first | (with_reducible refine hold_append ?_) | (with_reducible refine hold_make ?_) | (with_reducible refine hold_copy ?_))
  refine hth.mono ?_
  rintro e w2 ⟨rfl, hw⟩
  subst w2
  clear hth
  go_wp2_with (first | (with_reducible refine hold_append ?_) | (with_reducible refine hold_make ?_) | (with_reducible refine hold_copy ?_))
  go_ret
  exact ⟨rfl, hB1⟩
set_option maxRecDepth 20000 in
theorem double_no (p : Value) (a b i : Int) (w : World) (h : NoW w p) : Calls Try.prog 18 #[p, .int .i64 a, .int .i64 b, .int .i64 i] w fun e w' => e = .returned (.int .i64 1) ∧ Below w.heap.size w w' := by
  have hth := find_no p a b i w h
  go_enter Try.func18, Try.ntmps18
  go_wp2_with (first | (with_reducible refine hold_append ?_) | (with_reducible refine hold_make ?_) | (with_reducible refine hold_copy ?_))
  refine hth.mono ?_
  rintro e w2 ⟨rfl, hB2⟩
  clear hth
  go_wp2_with (first | (with_reducible refine hold_append ?_) | (with_reducible refine hold_make ?_) | (with_reducible refine hold_copy ?_))
  go_ret
  exact ⟨rfl, hB2⟩
end Go.PH

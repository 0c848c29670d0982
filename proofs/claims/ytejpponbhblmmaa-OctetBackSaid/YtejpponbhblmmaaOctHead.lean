/- octet's known answers. -/
import Derived.Test.YtejpponbhblmmaaOctRead2
import Derived.Test.YtejpponbhblmmaaOctPut
namespace Go.PH
open Go.RowKit Go.Proofs

theorem be258 : be 2 258 = [1, 2] := by decide
set_option maxHeartbeats 1000000 in
theorem head_any (w : World) : Calls Try.prog 13 #[] w fun e w' => e = .returned (.bool true) ∧ Below w.heap.size w w' := by
  go_enter Try.func13, Try.ntmps13
  go_wp2_with (first | (with_reducible refine hold_append ?_) | (with_reducible refine hold_make ?_) | (with_reducible refine hold_copy ?_))
  have hlit := own_lit (w := w) w.heap.size #[Value.int .u8 7] 5 1 (Nat.le_refl _) (by simp [maxLen]) rfl (size := 1) (by omega)
  have hB1 : Below w.heap.size w (w.alloc (.cells #[Value.int .u8 7] 5)) := (Below.refl _ _).alloc (Nat.le_refl _) _
  have hP := put_any _ 1 1 [7] 258 2 _ (hlit.rd (xs := [u8v 7])) (by omega) (by omega)
  have e1 : puts [7] 258 2 = [7, 1, 2] := by decide
  rw [e1] at hP
  simp only [List.length_cons, List.length_nil, Nat.zero_add, Nat.reduceAdd] at hP
  refine hP.mono ?_
  rintro e w1 ⟨A1, c1, rfl, ho1, hB1'⟩
  have hB1 := hB1.trans (hB1'.mono hB1.size)
  clear hP hlit hB1'
  go_wp2_with (first | (with_reducible refine hold_append ?_) | (with_reducible refine hold_make ?_) | (with_reducible refine hold_copy ?_))
  have hT := puttext_any none 0 0 [] [97, 98] 2 w1 (Rd.nil _ _ _ _ (by simp [maxLen]) _) (by simp) (by omega)
  have e2 : putsText [] [97, 98] 2 = [0, 2, 97, 98] := by decide
  have e3 : textErr ([97, 98] : List UInt8).length 2 = 0 := by decide
  rw [e2] at hT
  rw [e3] at hT
  simp only [List.length_cons, List.length_nil, Nat.zero_add, Nat.reduceAdd] at hT
  refine hT.mono ?_
  rintro e w2 ⟨A2, c2, rfl, ho2, hB2⟩
  have hr1 := ho1.rd.below hB2
  have hB2' := hB1.trans (hB2.mono hB1.size)
  clear hT e2 e3 e1
  go_wp2_with (first | (with_reducible refine hold_append ?_) | (with_reducible refine hold_make ?_) | (with_reducible refine hold_copy ?_))
  have hlit := own_lit (w := w2) w2.heap.size #[Value.int .u8 1, .int .u8 2, .int .u8 3] 5 3 (Nat.le_refl _) (by simp [maxLen]) rfl (size := 1) (by omega)
  have hB3 : Below w2.heap.size w2 (w2.alloc (.cells #[Value.int .u8 1, .int .u8 2, .int .u8 3] 5)) := (Below.refl _ _).alloc (Nat.le_refl _) _
  refine (rdopen_any _ 3 3 [1, 2, 3] _ (hlit.rd (xs := [u8v 1, u8v 2, u8v 3])) (by omega)).mono ?_
  rintro e w3 ⟨rb, b, rfl, hrb, hbb, hR, hB3'⟩
  have hr2 := ((ho2.rd.below hB3).more hB3.size).below hB3'
  have hr1' := ((hr1.below' hB3 hB2.size).more (Nat.le_trans hB2.size hB3.size)).below hB3'
  have hB3'' := hB2'.trans ((hB3.mono hB2'.size).trans (hB3'.mono (by have := hB2'.size; have := hB3.size; omega)))
  go_wp2_with (first | (with_reducible refine hold_append ?_) | (with_reducible refine hold_make ?_) | (with_reducible refine hold_copy ?_))
  have hN := rdnum_any hR 2 (by omega) (by omega)
  rw [show mnum [1, 2, 3] false 2 = (258, [3], false) by decide] at hN
  simp only at hN
  refine hN.mono ?_
  rintro e w4 ⟨rfl, hR4, hg4⟩
  go_wp2_with (first | (with_reducible refine hold_append ?_) | (with_reducible refine hold_make ?_) | (with_reducible refine hold_copy ?_))
  refine (rdleft_any hR4).mono ?_
  rintro e w5 ⟨rfl, rfl⟩
  go_wp2_with (first | (with_reducible refine hold_append ?_) | (with_reducible refine hold_make ?_) | (with_reducible refine hold_copy ?_))
  have hN := rdnum_any hR4 2 (by omega) (by omega)
  rw [show mnum [3] false 2 = (0, [], true) by decide] at hN
  simp only at hN
  refine hN.mono ?_
  rintro e w6 ⟨rfl, hR6, hg6⟩
  have hg := hg4.trans hg6
  have hz := (hB3.size : w2.heap.size ≤ _)
  have hcv1 := run_strB (hr1'.grown hg hB3'.size (by rintro g ⟨rfl⟩; exact hbb))
  have hcv2 := run_strB (hr2.grown hg hB3'.size (by rintro g ⟨rfl⟩; exact hbb))
  have hs1 : ((str [7, 1, 2]).toList == [7, 1, 2]) = true := by rw [str_toList]; rfl
  have hs2 : ((str [0, 2, 97, 98]).toList == [0, 2, 97, 98]) = true := by rw [str_toList]; rfl
  go_wp2_with (first | (with_reducible refine hold_append ?_) | (with_reducible refine hold_make ?_) | (with_reducible refine hold_copy ?_))
  refine (rdbad_any hR6).mono ?_
  rintro e w7 ⟨rfl, rfl⟩
  go_wp2_with (first | (with_reducible refine hold_append ?_) | (with_reducible refine hold_make ?_) | (with_reducible refine hold_copy ?_))
  go_ret
  exact ⟨rfl, hB3''.grown hg (by have := hB3''.size; omega) (by rintro g ⟨rfl⟩; have := hB2'.size; omega)⟩
end Go.PH

/- XidOrder: for every input of the form's own reach the law returns true and writes nothing that was there. Condition: the listed variables read as listed. -/
import Derived.Test.YtokfnonjmacpgaaDoorXdHead
set_option linter.all false
set_option linter.unusedSimpArgs false
set_option linter.unusedVariables false
namespace Go.PH
open Go.RowKit Go.Proofs

set_option maxRecDepth 20000 in
set_option maxHeartbeats 8000000 in
theorem law_XidOrder (a b c : Xd) (w : World) (ha : a.wf) (hb : b.wf) (hc : c.wf) (he : XEnv w) :
    Calls Tryd.prog 4 #[.agg (xdV a), .agg (xdV b), .agg (xdV c)] w fun e w' => e = .returned (.bool true) ∧ Below w.heap.size w w' := by
  have hab := fun w => compare_any a b w ha hb
  have hbc := fun w => compare_any b c w hb hc
  have hac := fun w => compare_any a c w ha hc
  have hba := fun w => compare_any b a w hb ha
  have haa := fun w => compare_any a a w ha ha
  have h8 := he.lt
  have o1 := xd_ord.rng a b
  have o2 := xd_ord.rng b c
  have o3 := xd_ord.rng a c
  have o4 := xd_ord.le a b c
  rw [xd_ord.anti a b] at hba
  rw [xd_ord.refl] at haa
  generalize Xd.cmp a b = x at *
  generalize Xd.cmp b c = y at *
  generalize Xd.cmp a c = z at *
  obtain ⟨f, g, h⟩ := a
  obtain ⟨f', g', h'⟩ := b
  obtain ⟨f2, g2, h2⟩ := c
  unfold xdV at *
  simp only at hab hbc hac hba haa ⊢
  obtain ⟨w0, hw0⟩ : ∃ w0, w0 = (((w.alloc (.cells #[.int .u32 (f : Int), .string (str g), .string (str h)] 24)).alloc (.cells #[.int .u32 (f' : Int), .string (str g'), .string (str h')] 24)).alloc (.cells #[.int .u32 (f2 : Int), .string (str g2), .string (str h2)] 24)) := ⟨_, rfl⟩
  have hB0 : Below w.heap.size w w0 := by rw [hw0]; exact (((Below.refl _ _).alloc (Nat.le_refl _) _).alloc (by simp) _).alloc (by simp; omega) _
  have hb0 : Box w0 w.heap.size 24 #[.int .u32 (f : Int), .string (str g), .string (str h)] := by rw [hw0]; exact ((Box.new _ _ _).alloc _).alloc _
  have hb1 : Box w0 (w.heap.size + 1) 24 #[.int .u32 (f' : Int), .string (str g'), .string (str h')] := by
    rw [hw0]
    have := (Box.new (w.alloc (.cells #[.int .u32 (f : Int), .string (str g), .string (str h)] 24)) #[.int .u32 (f' : Int), .string (str g'), .string (str h')] 24).alloc (.cells #[.int .u32 (f2 : Int), .string (str g2), .string (str h2)] 24)
    rwa [show (w.alloc (.cells #[.int .u32 (f : Int), .string (str g), .string (str h)] 24)).heap.size = w.heap.size + 1 by simp] at this
  have hb2 : Box w0 (w.heap.size + 1 + 1) 24 #[.int .u32 (f2 : Int), .string (str g2), .string (str h2)] := by
    rw [hw0]
    have := Box.new ((w.alloc (.cells #[.int .u32 (f : Int), .string (str g), .string (str h)] 24)).alloc (.cells #[.int .u32 (f' : Int), .string (str g'), .string (str h')] 24)) #[.int .u32 (f2 : Int), .string (str g2), .string (str h2)] 24
    rwa [show ((w.alloc (.cells #[.int .u32 (f : Int), .string (str g), .string (str h)] 24)).alloc (.cells #[.int .u32 (f' : Int), .string (str g'), .string (str h')] 24)).heap.size = w.heap.size + 1 + 1 by simp] at this
  have hwn : IntKind.i64.wrap (-x) = -x := IntWalk.i64_in _ ⟨by omega, by omega⟩
  have q1 : decide (x < -1) = false := by simp; omega
  have q2 : decide (1 < x) = false := by simp; omega
  have q2' : decide (x > 1) = false := by simp; omega
  go_enter Tryd.func4, Tryd.ntmps4
  go_wp2_with (first | (with_reducible refine hold_append ?_) | (with_reducible refine hold_make ?_) | (with_reducible refine hold_copy ?_))
  rw [← hw0]
  refine rg_start (fun wx : World => (Box wx w.heap.size 24 #[.int .u32 (f : Int), .string (str g), .string (str h)] ∧ Box wx (w.heap.size + 1) 24 #[.int .u32 (f' : Int), .string (str g'), .string (str h')] ∧ Box wx (w.heap.size + 1 + 1) 24 #[.int .u32 (f2 : Int), .string (str g2), .string (str h2)]) ∧ Below w.heap.size w wx) (by kernel_rfl) ?_
  have hS : (Box w0.drew w.heap.size 24 #[.int .u32 (f : Int), .string (str g), .string (str h)] ∧ Box w0.drew (w.heap.size + 1) 24 #[.int .u32 (f' : Int), .string (str g'), .string (str h')] ∧ Box w0.drew (w.heap.size + 1 + 1) 24 #[.int .u32 (f2 : Int), .string (str g2), .string (str h2)]) ∧ Below w.heap.size w w0.drew := ⟨⟨hb0, hb1, hb2⟩, below_drewN hB0 1⟩
  clear hw0 hB0 hb0 hb1 hb2
  generalize w0.drew = w1 at *
  refine rg_take 0 (v := ?_) rfl (by kernel_rfl) (by kernel_rfl) (by kernel_rfl) hS rfl ?_ ?_
  rotate_left
  · intro wS hSw; have k0 := hSw.1.1.cell (j := 0) rfl; have k1 := hSw.1.1.cell (j := 1) rfl; have k2 := hSw.1.1.cell (j := 2) rfl; go_simp; (with_reducible rfl)
  simp only [List.getElem_toArray, List.getElem_cons_zero, Act.put, List.setIfInBounds_toArray, List.set_cons_zero, List.set_cons_succ]
  refine rg_take 1 (v := ?_) rfl (by kernel_rfl) (by kernel_rfl) (by kernel_rfl) hS rfl ?_ ?_
  rotate_left
  · intro wS hSw; have k0 := hSw.1.2.1.cell (j := 0) rfl; have k1 := hSw.1.2.1.cell (j := 1) rfl; have k2 := hSw.1.2.1.cell (j := 2) rfl; go_simp; (with_reducible rfl)
  simp only [List.getElem_toArray, List.getElem_cons_succ, List.getElem_cons_zero, Act.put, List.setIfInBounds_toArray, List.set_cons_zero, List.set_cons_succ]
  refine rg_take 3 (v := ?_) rfl (by kernel_rfl) (by kernel_rfl) (by kernel_rfl) hS rfl ?_ ?_
  rotate_left
  · intro wS hSw; have k0 := hSw.1.2.1.cell (j := 0) rfl; have k1 := hSw.1.2.1.cell (j := 1) rfl; have k2 := hSw.1.2.1.cell (j := 2) rfl; go_simp; (with_reducible rfl)
  simp only [List.getElem_toArray, List.getElem_cons_succ, List.getElem_cons_zero, Act.put, List.setIfInBounds_toArray, List.set_cons_zero, List.set_cons_succ]
  refine rg_take 4 (v := ?_) rfl (by kernel_rfl) (by kernel_rfl) (by kernel_rfl) hS rfl ?_ ?_
  rotate_left
  · intro wS hSw; have k0 := hSw.1.2.2.cell (j := 0) rfl; have k1 := hSw.1.2.2.cell (j := 1) rfl; have k2 := hSw.1.2.2.cell (j := 2) rfl; go_simp; (with_reducible rfl)
  simp only [List.getElem_toArray, List.getElem_cons_succ, List.getElem_cons_zero, Act.put, List.setIfInBounds_toArray, List.set_cons_zero, List.set_cons_succ]
  refine rg_take 6 (v := ?_) rfl (by kernel_rfl) (by kernel_rfl) (by kernel_rfl) hS rfl ?_ ?_
  rotate_left
  · intro wS hSw; have k0 := hSw.1.1.cell (j := 0) rfl; have k1 := hSw.1.1.cell (j := 1) rfl; have k2 := hSw.1.1.cell (j := 2) rfl; go_simp; (with_reducible rfl)
  simp only [List.getElem_toArray, List.getElem_cons_succ, List.getElem_cons_zero, Act.put, List.setIfInBounds_toArray, List.set_cons_zero, List.set_cons_succ]
  refine rg_take 7 (v := ?_) rfl (by kernel_rfl) (by kernel_rfl) (by kernel_rfl) hS rfl ?_ ?_
  rotate_left
  · intro wS hSw; have k0 := hSw.1.2.2.cell (j := 0) rfl; have k1 := hSw.1.2.2.cell (j := 1) rfl; have k2 := hSw.1.2.2.cell (j := 2) rfl; go_simp; (with_reducible rfl)
  simp only [List.getElem_toArray, List.getElem_cons_succ, List.getElem_cons_zero, Act.put, List.setIfInBounds_toArray, List.set_cons_zero, List.set_cons_succ]
  refine rg_one 2 rfl (by kernel_rfl) rfl (fun K hK => ?_)
  go_simp
  refine (hab _).mono ?_
  rintro e w2 ⟨rfl, hBx⟩
  have hS2 := And.intro (And.intro (hS.1.1.below hBx) (And.intro (hS.1.2.1.below hBx) (hS.1.2.2.below hBx))) (hS.2.trans (hBx.mono hS.2.size))
  clear hBx
  refine hK _ _ hS2 ?_
  clear hK K
  refine rg_one 5 rfl (by kernel_rfl) rfl (fun K hK => ?_)
  go_simp
  refine (hbc _).mono ?_
  rintro e w3 ⟨rfl, hBx⟩
  have hS3 := And.intro (And.intro (hS2.1.1.below hBx) (And.intro (hS2.1.2.1.below hBx) (hS2.1.2.2.below hBx))) (hS2.2.trans (hBx.mono hS2.2.size))
  clear hBx
  refine hK _ _ hS3 ?_
  clear hK K
  refine rg_one 8 rfl (by kernel_rfl) rfl (fun K hK => ?_)
  go_simp
  refine (hac _).mono ?_
  rintro e w4 ⟨rfl, hBx⟩
  have hS4 := And.intro (And.intro (hS3.1.1.below hBx) (And.intro (hS3.1.2.1.below hBx) (hS3.1.2.2.below hBx))) (hS3.2.trans (hBx.mono hS3.2.size))
  clear hBx
  refine hK _ _ hS4 ?_
  clear hK K
  refine rg_take 9 (v := ?_) rfl (by kernel_rfl) (by kernel_rfl) (by kernel_rfl) hS4 rfl ?_ ?_
  rotate_left
  · intro wS hSw; go_simp; (with_reducible rfl)
  simp only [List.getElem_toArray, List.getElem_cons_succ, List.getElem_cons_zero, Act.put, List.setIfInBounds_toArray, List.set_cons_zero, List.set_cons_succ]
  refine rg_take 10 (v := ?_) rfl (by kernel_rfl) (by kernel_rfl) (by kernel_rfl) hS4 rfl ?_ ?_
  rotate_left
  · intro wS hSw; go_simp; (with_reducible rfl)
  simp only [List.getElem_toArray, List.getElem_cons_succ, List.getElem_cons_zero, Act.put, List.setIfInBounds_toArray, List.set_cons_zero, List.set_cons_succ]
  refine rg_take 11 (v := ?_) rfl (by kernel_rfl) (by kernel_rfl) (by kernel_rfl) hS4 rfl ?_ ?_
  rotate_left
  · intro wS hSw; go_simp; (with_reducible rfl)
  simp only [List.getElem_toArray, List.getElem_cons_succ, List.getElem_cons_zero, Act.put, List.setIfInBounds_toArray, List.set_cons_zero, List.set_cons_succ]
  refine rg_end (by kernel_rfl) ?_
  have k0 := hS4.1.2.1.cell (j := 0) rfl
  have k1 := hS4.1.2.1.cell (j := 1) rfl
  have k2 := hS4.1.2.1.cell (j := 2) rfl
  have j0 := hS4.1.1.cell (j := 0) rfl
  have j1 := hS4.1.1.cell (j := 1) rfl
  have j2 := hS4.1.1.cell (j := 2) rfl
  clear hS hS2 hS3 hab hbc hac
  go_wp2_with (first | (with_reducible refine hold_append ?_) | (with_reducible refine hold_make ?_) | (with_reducible refine hold_copy ?_))
  refine (hba _).mono ?_
  rintro e w5 ⟨rfl, hBx⟩
  have hb6 := hS4.1.1.below hBx
  have hB6 := hS4.2.trans (hBx.mono hS4.2.size)
  clear k0 k1 k2 j0 j1 j2 hBx hS4 hba
  have j0 := hb6.cell (j := 0) rfl
  have j1 := hb6.cell (j := 1) rfl
  have j2 := hb6.cell (j := 2) rfl
  go_wp2_with (first | (with_reducible refine hold_append ?_) | (with_reducible refine hold_make ?_) | (with_reducible refine hold_copy ?_))
  refine (haa _).mono ?_
  rintro e w6 ⟨rfl, hBx⟩
  have hB7 := hB6.trans (hBx.mono hB6.size)
  clear j0 j1 j2 hBx hB6 hb6 haa
  have hh := head_any w6 (he.below hB7 h8 hB7.size)
  have hfin : ∀ w7, Below w6.heap.size w6 w7 → Below w.heap.size w w7 := fun w7 h => hB7.trans (h.mono hB7.size)

  rcases o1 with rfl | rfl | rfl
  · by_cases hy : y ≤ 0
    · have hz : z < 0 := (o4.2) (by omega) hy
      have p1 : decide (z > 0) = false := by simp; omega
      have p1' : decide (0 < z) = false := by simp; omega
      have p2 : decide (z ≥ 0) = false := by simp; omega
      have p2' : decide (0 ≤ z) = false := by simp; omega
      go_wp2_with (first | (with_reducible refine hold_append ?_) | (with_reducible refine hold_make ?_) | (with_reducible refine hold_copy ?_))
      refine hh.mono ?_
      rintro e w7 ⟨rfl, hBx⟩
      go_wp2_with (first | (with_reducible refine hold_append ?_) | (with_reducible refine hold_make ?_) | (with_reducible refine hold_copy ?_))
      go_ret
      exact ⟨rfl, hfin w7 hBx⟩
    · have p1 : decide (y ≤ 0) = false := by simp; omega
      go_wp2_with (first | (with_reducible refine hold_append ?_) | (with_reducible refine hold_make ?_) | (with_reducible refine hold_copy ?_))
      refine hh.mono ?_
      rintro e w7 ⟨rfl, hBx⟩
      go_wp2_with (first | (with_reducible refine hold_append ?_) | (with_reducible refine hold_make ?_) | (with_reducible refine hold_copy ?_))
      go_ret
      exact ⟨rfl, hfin w7 hBx⟩
  · by_cases hy : y ≤ 0
    · have hz : z ≤ 0 := (o4.1) (by omega) hy
      have p1 : decide (z > 0) = false := by simp; omega
      have p1' : decide (0 < z) = false := by simp; omega
      go_wp2_with (first | (with_reducible refine hold_append ?_) | (with_reducible refine hold_make ?_) | (with_reducible refine hold_copy ?_))
      refine hh.mono ?_
      rintro e w7 ⟨rfl, hBx⟩
      go_wp2_with (first | (with_reducible refine hold_append ?_) | (with_reducible refine hold_make ?_) | (with_reducible refine hold_copy ?_))
      go_ret
      exact ⟨rfl, hfin w7 hBx⟩
    · have p1 : decide (y ≤ 0) = false := by simp; omega
      go_wp2_with (first | (with_reducible refine hold_append ?_) | (with_reducible refine hold_make ?_) | (with_reducible refine hold_copy ?_))
      refine hh.mono ?_
      rintro e w7 ⟨rfl, hBx⟩
      go_wp2_with (first | (with_reducible refine hold_append ?_) | (with_reducible refine hold_make ?_) | (with_reducible refine hold_copy ?_))
      go_ret
      exact ⟨rfl, hfin w7 hBx⟩
  · go_wp2_with (first | (with_reducible refine hold_append ?_) | (with_reducible refine hold_make ?_) | (with_reducible refine hold_copy ?_))
    refine hh.mono ?_
    rintro e w7 ⟨rfl, hBx⟩
    go_wp2_with (first | (with_reducible refine hold_append ?_) | (with_reducible refine hold_make ?_) | (with_reducible refine hold_copy ?_))
    go_ret
    exact ⟨rfl, hfin w7 hBx⟩
end Go.PH

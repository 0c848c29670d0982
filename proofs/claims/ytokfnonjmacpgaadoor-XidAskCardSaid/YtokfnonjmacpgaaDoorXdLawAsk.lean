/- XidAsk: for every input of the form's own reach the law returns true and writes nothing that was there. Condition: the listed variables read as listed. -/
import Derived.Test.YtokfnonjmacpgaaDoorXdHead
namespace Go.PH
open Go.RowKit Go.Proofs

set_option maxRecDepth 20000 in
set_option maxHeartbeats 4000000 in
theorem law_XidAsk (a b : Xd) (w : World) (ha : a.wf) (hb : b.wf) (he : XEnv w) :
    Calls Tryd.prog 5 #[.agg (xdV a), .agg (xdV b)] w fun e w' => e = .returned (.bool true) ∧ Below w.heap.size w w' := by
  have hck := fun w => check_any a w ha
  have hrk := fun w => rcheck_any a w ha
  have hcm := fun w => compare_any a b w ha hb
  have hrc := fun w => rcompare_any a b w ha hb
  have hog := fun w => oneglobal_any a b w
  have h8 := he.lt
  have h1g : oneG a b = (decide (a.fmt = b.fmt) && decide (a.glob = b.glob)) := rfl
  generalize a.err = ea at *
  generalize Xd.cmp a b = cab at *
  generalize hoo : oneG a b = oo at *
  clear hoo
  obtain ⟨f, g, h⟩ := a
  obtain ⟨f', g', h'⟩ := b
  unfold xdV at *
  simp only at hck hrk hcm hrc hog h1g ⊢
  obtain ⟨w0, hw0⟩ : ∃ w0, w0 = ((w.alloc (.cells #[.int .u32 (f : Int), .string (str g), .string (str h)] 24)).alloc (.cells #[.int .u32 (f' : Int), .string (str g'), .string (str h')] 24)) := ⟨_, rfl⟩
  have hB0 : Below w.heap.size w w0 := by rw [hw0]; exact ((Below.refl _ _).alloc (Nat.le_refl _) _).alloc (by simp) _
  have hb0 : Box w0 w.heap.size 24 #[.int .u32 (f : Int), .string (str g), .string (str h)] := by rw [hw0]; exact (Box.new _ _ _).alloc _
  have hb1 : Box w0 (w.heap.size + 1) 24 #[.int .u32 (f' : Int), .string (str g'), .string (str h')] := by
    rw [hw0]
    have := Box.new (w.alloc (.cells #[.int .u32 (f : Int), .string (str g), .string (str h)] 24)) #[.int .u32 (f' : Int), .string (str g'), .string (str h')] 24
    rwa [show (w.alloc (.cells #[.int .u32 (f : Int), .string (str g), .string (str h)] 24)).heap.size = w.heap.size + 1 by simp] at this
  have hq : ((ea : Int) == (ea : Int)) = true := by simp
  have hqc : ((cab : Int) == (cab : Int)) = true := by simp
  have hqo : (oo == oo) = true := by simp
  by_cases c1 : f = f'
  · have q1 : ((f : Int) == (f' : Int)) = true := by simp [c1]
    by_cases c2 : g = g'
    · have q2 : ((str g).toList == (str g').toList) = true := by simp [c2]
      obtain rfl : oo = true := by rw [h1g, c1, c2]; simp
      clear h1g c1 c2
      go_enter Tryd.func5, Tryd.ntmps5
      go_wp2_with (first | (with_reducible refine hold_append ?_) | (with_reducible refine hold_make ?_) | (with_reducible refine hold_copy ?_))
      rw [← hw0]
      refine rg_start (fun wx : World => (Box wx w.heap.size 24 #[.int .u32 (f : Int), .string (str g), .string (str h)] ∧ Box wx (w.heap.size + 1) 24 #[.int .u32 (f' : Int), .string (str g'), .string (str h')]) ∧ Below w.heap.size w wx) (by kernel_rfl) ?_
      have hS := And.intro (And.intro (show Box w0.drew _ _ _ from hb0) (show Box w0.drew _ _ _ from hb1)) (below_drewN hB0 1)
      have hS : (Box w0.drew w.heap.size 24 #[.int .u32 (f : Int), .string (str g), .string (str h)] ∧ Box w0.drew (w.heap.size + 1) 24 #[.int .u32 (f' : Int), .string (str g'), .string (str h')]) ∧ Below w.heap.size w w0.drew := hS
      clear hw0 hB0 hb0 hb1
      generalize w0.drew = w1 at *
      refine rg_take 0 (v := ?_) rfl (by kernel_rfl) (by kernel_rfl) (by kernel_rfl) hS rfl ?_ ?_
      rotate_left
      · intro wS hSw; have k0 := hSw.1.1.cell (j := 0) rfl; have k1 := hSw.1.1.cell (j := 1) rfl; have k2 := hSw.1.1.cell (j := 2) rfl; go_simp; (with_reducible rfl)
      simp only [List.getElem_toArray, List.getElem_cons_zero, Act.put, List.setIfInBounds_toArray, List.set_cons_zero, List.set_cons_succ]
      refine rg_take 2 (v := ?_) rfl (by kernel_rfl) (by kernel_rfl) (by kernel_rfl) hS rfl ?_ ?_
      rotate_left
      · intro wS hSw; have k0 := hSw.1.1.cell (j := 0) rfl; have k1 := hSw.1.1.cell (j := 1) rfl; have k2 := hSw.1.1.cell (j := 2) rfl; go_simp; (with_reducible rfl)
      simp only [List.getElem_toArray, List.getElem_cons_succ, List.getElem_cons_zero, Act.put, List.setIfInBounds_toArray, List.set_cons_zero, List.set_cons_succ]
      refine rg_one 1 rfl (by kernel_rfl) rfl (fun K hK => ?_)
      go_simp
      refine (hck _).mono ?_
      rintro e w2 ⟨rfl, hBx⟩
      have hS2 := And.intro (And.intro (hS.1.1.below hBx) (hS.1.2.below hBx)) (hS.2.trans (hBx.mono hS.2.size))
      clear hBx
      refine hK _ _ hS2 ?_
      clear hK K
      refine rg_one 3 rfl (by kernel_rfl) rfl (fun K hK => ?_)
      go_simp
      refine (hrk _).mono ?_
      rintro e w3 ⟨rfl, hBx⟩
      have hS3 := And.intro (And.intro (hS2.1.1.below hBx) (hS2.1.2.below hBx)) (hS2.2.trans (hBx.mono hS2.2.size))
      clear hBx
      refine hK _ _ hS3 ?_
      clear hK K
      refine rg_take 4 (v := ?_) rfl (by kernel_rfl) (by kernel_rfl) (by kernel_rfl) hS3 rfl ?_ ?_
      rotate_left
      · intro wS hSw; go_simp; (with_reducible rfl)
      simp only [List.getElem_toArray, List.getElem_cons_succ, List.getElem_cons_zero, Act.put, List.setIfInBounds_toArray, List.set_cons_zero, List.set_cons_succ]
      refine rg_take 5 (v := ?_) rfl (by kernel_rfl) (by kernel_rfl) (by kernel_rfl) hS3 rfl ?_ ?_
      rotate_left
      · intro wS hSw; go_simp; (with_reducible rfl)
      simp only [List.getElem_toArray, List.getElem_cons_succ, List.getElem_cons_zero, Act.put, List.setIfInBounds_toArray, List.set_cons_zero, List.set_cons_succ]
      refine rg_take 6 (v := ?_) rfl (by kernel_rfl) (by kernel_rfl) (by kernel_rfl) hS3 rfl ?_ ?_
      rotate_left
      · intro wS hSw; have k0 := hSw.1.1.cell (j := 0) rfl; have k1 := hSw.1.1.cell (j := 1) rfl; have k2 := hSw.1.1.cell (j := 2) rfl; go_simp; (with_reducible rfl)
      simp only [List.getElem_toArray, List.getElem_cons_succ, List.getElem_cons_zero, Act.put, List.setIfInBounds_toArray, List.set_cons_zero, List.set_cons_succ]
      refine rg_take 7 (v := ?_) rfl (by kernel_rfl) (by kernel_rfl) (by kernel_rfl) hS3 rfl ?_ ?_
      rotate_left
      · intro wS hSw; have k0 := hSw.1.2.cell (j := 0) rfl; have k1 := hSw.1.2.cell (j := 1) rfl; have k2 := hSw.1.2.cell (j := 2) rfl; go_simp; (with_reducible rfl)
      simp only [List.getElem_toArray, List.getElem_cons_succ, List.getElem_cons_zero, Act.put, List.setIfInBounds_toArray, List.set_cons_zero, List.set_cons_succ]
      refine rg_take 9 (v := ?_) rfl (by kernel_rfl) (by kernel_rfl) (by kernel_rfl) hS3 rfl ?_ ?_
      rotate_left
      · intro wS hSw; have k0 := hSw.1.1.cell (j := 0) rfl; have k1 := hSw.1.1.cell (j := 1) rfl; have k2 := hSw.1.1.cell (j := 2) rfl; go_simp; (with_reducible rfl)
      simp only [List.getElem_toArray, List.getElem_cons_succ, List.getElem_cons_zero, Act.put, List.setIfInBounds_toArray, List.set_cons_zero, List.set_cons_succ]
      refine rg_take 10 (v := ?_) rfl (by kernel_rfl) (by kernel_rfl) (by kernel_rfl) hS3 rfl ?_ ?_
      rotate_left
      · intro wS hSw; have k0 := hSw.1.2.cell (j := 0) rfl; have k1 := hSw.1.2.cell (j := 1) rfl; have k2 := hSw.1.2.cell (j := 2) rfl; go_simp; (with_reducible rfl)
      simp only [List.getElem_toArray, List.getElem_cons_succ, List.getElem_cons_zero, Act.put, List.setIfInBounds_toArray, List.set_cons_zero, List.set_cons_succ]
      refine rg_one 8 rfl (by kernel_rfl) rfl (fun K hK => ?_)
      go_simp
      refine (hcm _).mono ?_
      rintro e w4 ⟨rfl, hBx⟩
      have hS4 := And.intro (And.intro (hS3.1.1.below hBx) (hS3.1.2.below hBx)) (hS3.2.trans (hBx.mono hS3.2.size))
      clear hBx
      refine hK _ _ hS4 ?_
      clear hK K
      refine rg_one 11 rfl (by kernel_rfl) rfl (fun K hK => ?_)
      go_simp
      refine (hrc _).mono ?_
      rintro e w5 ⟨rfl, hBx⟩
      have hS5 := And.intro (And.intro (hS4.1.1.below hBx) (hS4.1.2.below hBx)) (hS4.2.trans (hBx.mono hS4.2.size))
      clear hBx
      refine hK _ _ hS5 ?_
      clear hK K
      refine rg_take 12 (v := ?_) rfl (by kernel_rfl) (by kernel_rfl) (by kernel_rfl) hS5 rfl ?_ ?_
      rotate_left
      · intro wS hSw; go_simp; (with_reducible rfl)
      simp only [List.getElem_toArray, List.getElem_cons_succ, List.getElem_cons_zero, Act.put, List.setIfInBounds_toArray, List.set_cons_zero, List.set_cons_succ]
      refine rg_take 13 (v := ?_) rfl (by kernel_rfl) (by kernel_rfl) (by kernel_rfl) hS5 rfl ?_ ?_
      rotate_left
      · intro wS hSw; go_simp; (with_reducible rfl)
      simp only [List.getElem_toArray, List.getElem_cons_succ, List.getElem_cons_zero, Act.put, List.setIfInBounds_toArray, List.set_cons_zero, List.set_cons_succ]
      refine rg_take 14 (v := ?_) rfl (by kernel_rfl) (by kernel_rfl) (by kernel_rfl) hS5 rfl ?_ ?_
      rotate_left
      · intro wS hSw; go_simp; (with_reducible rfl)
      simp only [List.getElem_toArray, List.getElem_cons_succ, List.getElem_cons_zero, Act.put, List.setIfInBounds_toArray, List.set_cons_zero, List.set_cons_succ]
      refine rg_take 15 (v := ?_) rfl (by kernel_rfl) (by kernel_rfl) (by kernel_rfl) hS5 rfl ?_ ?_
      rotate_left
      · intro wS hSw; have k0 := hSw.1.1.cell (j := 0) rfl; have k1 := hSw.1.1.cell (j := 1) rfl; have k2 := hSw.1.1.cell (j := 2) rfl; go_simp; (with_reducible rfl)
      simp only [List.getElem_toArray, List.getElem_cons_succ, List.getElem_cons_zero, Act.put, List.setIfInBounds_toArray, List.set_cons_zero, List.set_cons_succ]
      refine rg_take 16 (v := ?_) rfl (by kernel_rfl) (by kernel_rfl) (by kernel_rfl) hS5 rfl ?_ ?_
      rotate_left
      · intro wS hSw; have k0 := hSw.1.2.cell (j := 0) rfl; have k1 := hSw.1.2.cell (j := 1) rfl; have k2 := hSw.1.2.cell (j := 2) rfl; go_simp; (with_reducible rfl)
      simp only [List.getElem_toArray, List.getElem_cons_succ, List.getElem_cons_zero, Act.put, List.setIfInBounds_toArray, List.set_cons_zero, List.set_cons_succ]
      refine rg_take 18 (v := ?_) rfl (by kernel_rfl) (by kernel_rfl) (by kernel_rfl) hS5 rfl ?_ ?_
      rotate_left
      · intro wS hSw; go_simp; (with_reducible rfl)
      simp only [List.getElem_toArray, List.getElem_cons_succ, List.getElem_cons_zero, Act.put, List.setIfInBounds_toArray, List.set_cons_zero, List.set_cons_succ]
      refine rg_one 17 rfl (by kernel_rfl) rfl (fun K hK => ?_)
      go_simp
      refine (hog _).mono ?_
      rintro e w6 ⟨rfl, hBx⟩
      have hS6 := And.intro (And.intro (hS5.1.1.below hBx) (hS5.1.2.below hBx)) (hS5.2.trans (hBx.mono hS5.2.size))
      clear hBx
      refine hK _ _ hS6 ?_
      clear hK K
      refine rg_take 19 (v := ?_) rfl (by kernel_rfl) (by kernel_rfl) (by kernel_rfl) hS6 rfl ?_ ?_
      rotate_left
      · intro wS hSw; go_simp; (with_reducible rfl)
      simp only [List.getElem_toArray, List.getElem_cons_succ, List.getElem_cons_zero, Act.put, List.setIfInBounds_toArray, List.set_cons_zero, List.set_cons_succ]
      refine rg_take 20 (v := ?_) rfl (by kernel_rfl) (by kernel_rfl) (by kernel_rfl) hS6 rfl ?_ ?_
      rotate_left
      · intro wS hSw; go_simp; (with_reducible rfl)
      simp only [List.getElem_toArray, List.getElem_cons_succ, List.getElem_cons_zero, Act.put, List.setIfInBounds_toArray, List.set_cons_zero, List.set_cons_succ]
      refine rg_take 21 (v := ?_) rfl (by kernel_rfl) (by kernel_rfl) (by kernel_rfl) hS6 rfl ?_ ?_
      rotate_left
      · intro wS hSw; go_simp; (with_reducible rfl)
      simp only [List.getElem_toArray, List.getElem_cons_succ, List.getElem_cons_zero, Act.put, List.setIfInBounds_toArray, List.set_cons_zero, List.set_cons_succ]
      refine rg_one 22 rfl (by kernel_rfl) rfl (fun K hK => ?_)
      go_simp
      refine (head_any w6 (he.below hS6.2 h8 hS6.2.size)).mono ?_
      rintro e w7 ⟨rfl, hBx⟩
      have hS7 := And.intro (And.intro (hS6.1.1.below hBx) (hS6.1.2.below hBx)) (hS6.2.trans (hBx.mono hS6.2.size))
      clear hBx
      refine hK _ _ hS7 ?_
      clear hK K
      refine rg_take 23 (v := ?_) rfl (by kernel_rfl) (by kernel_rfl) (by kernel_rfl) hS7 rfl ?_ ?_
      rotate_left
      · intro wS hSw; go_simp; (with_reducible rfl)
      simp only [List.getElem_toArray, List.getElem_cons_succ, List.getElem_cons_zero, Act.put, List.setIfInBounds_toArray, List.set_cons_zero, List.set_cons_succ]
      refine rg_take 24 (v := ?_) rfl (by kernel_rfl) (by kernel_rfl) (by kernel_rfl) hS7 rfl ?_ ?_
      rotate_left
      · intro wS hSw; go_simp; (with_reducible rfl)
      simp only [List.getElem_toArray, List.getElem_cons_succ, List.getElem_cons_zero, Act.put, List.setIfInBounds_toArray, List.set_cons_zero, List.set_cons_succ]
      refine rg_end (by kernel_rfl) ?_
      go_wp2_with (first | (with_reducible refine hold_append ?_) | (with_reducible refine hold_make ?_) | (with_reducible refine hold_copy ?_))
      go_ret
      exact ⟨rfl, hS7.2⟩
    · have q2 := str_ne c2
      obtain rfl : oo = false := by rw [h1g, decide_eq_false c2]; simp
      clear h1g c1 c2
      go_enter Tryd.func5, Tryd.ntmps5
      go_wp2_with (first | (with_reducible refine hold_append ?_) | (with_reducible refine hold_make ?_) | (with_reducible refine hold_copy ?_))
      rw [← hw0]
      refine rg_start (fun wx : World => (Box wx w.heap.size 24 #[.int .u32 (f : Int), .string (str g), .string (str h)] ∧ Box wx (w.heap.size + 1) 24 #[.int .u32 (f' : Int), .string (str g'), .string (str h')]) ∧ Below w.heap.size w wx) (by kernel_rfl) ?_
      have hS := And.intro (And.intro (show Box w0.drew _ _ _ from hb0) (show Box w0.drew _ _ _ from hb1)) (below_drewN hB0 1)
      have hS : (Box w0.drew w.heap.size 24 #[.int .u32 (f : Int), .string (str g), .string (str h)] ∧ Box w0.drew (w.heap.size + 1) 24 #[.int .u32 (f' : Int), .string (str g'), .string (str h')]) ∧ Below w.heap.size w w0.drew := hS
      clear hw0 hB0 hb0 hb1
      generalize w0.drew = w1 at *
      refine rg_take 0 (v := ?_) rfl (by kernel_rfl) (by kernel_rfl) (by kernel_rfl) hS rfl ?_ ?_
      rotate_left
      · intro wS hSw; have k0 := hSw.1.1.cell (j := 0) rfl; have k1 := hSw.1.1.cell (j := 1) rfl; have k2 := hSw.1.1.cell (j := 2) rfl; go_simp; (with_reducible rfl)
      simp only [List.getElem_toArray, List.getElem_cons_zero, Act.put, List.setIfInBounds_toArray, List.set_cons_zero, List.set_cons_succ]
      refine rg_take 2 (v := ?_) rfl (by kernel_rfl) (by kernel_rfl) (by kernel_rfl) hS rfl ?_ ?_
      rotate_left
      · intro wS hSw; have k0 := hSw.1.1.cell (j := 0) rfl; have k1 := hSw.1.1.cell (j := 1) rfl; have k2 := hSw.1.1.cell (j := 2) rfl; go_simp; (with_reducible rfl)
      simp only [List.getElem_toArray, List.getElem_cons_succ, List.getElem_cons_zero, Act.put, List.setIfInBounds_toArray, List.set_cons_zero, List.set_cons_succ]
      refine rg_one 1 rfl (by kernel_rfl) rfl (fun K hK => ?_)
      go_simp
      refine (hck _).mono ?_
      rintro e w2 ⟨rfl, hBx⟩
      have hS2 := And.intro (And.intro (hS.1.1.below hBx) (hS.1.2.below hBx)) (hS.2.trans (hBx.mono hS.2.size))
      clear hBx
      refine hK _ _ hS2 ?_
      clear hK K
      refine rg_one 3 rfl (by kernel_rfl) rfl (fun K hK => ?_)
      go_simp
      refine (hrk _).mono ?_
      rintro e w3 ⟨rfl, hBx⟩
      have hS3 := And.intro (And.intro (hS2.1.1.below hBx) (hS2.1.2.below hBx)) (hS2.2.trans (hBx.mono hS2.2.size))
      clear hBx
      refine hK _ _ hS3 ?_
      clear hK K
      refine rg_take 4 (v := ?_) rfl (by kernel_rfl) (by kernel_rfl) (by kernel_rfl) hS3 rfl ?_ ?_
      rotate_left
      · intro wS hSw; go_simp; (with_reducible rfl)
      simp only [List.getElem_toArray, List.getElem_cons_succ, List.getElem_cons_zero, Act.put, List.setIfInBounds_toArray, List.set_cons_zero, List.set_cons_succ]
      refine rg_take 5 (v := ?_) rfl (by kernel_rfl) (by kernel_rfl) (by kernel_rfl) hS3 rfl ?_ ?_
      rotate_left
      · intro wS hSw; go_simp; (with_reducible rfl)
      simp only [List.getElem_toArray, List.getElem_cons_succ, List.getElem_cons_zero, Act.put, List.setIfInBounds_toArray, List.set_cons_zero, List.set_cons_succ]
      refine rg_take 6 (v := ?_) rfl (by kernel_rfl) (by kernel_rfl) (by kernel_rfl) hS3 rfl ?_ ?_
      rotate_left
      · intro wS hSw; have k0 := hSw.1.1.cell (j := 0) rfl; have k1 := hSw.1.1.cell (j := 1) rfl; have k2 := hSw.1.1.cell (j := 2) rfl; go_simp; (with_reducible rfl)
      simp only [List.getElem_toArray, List.getElem_cons_succ, List.getElem_cons_zero, Act.put, List.setIfInBounds_toArray, List.set_cons_zero, List.set_cons_succ]
      refine rg_take 7 (v := ?_) rfl (by kernel_rfl) (by kernel_rfl) (by kernel_rfl) hS3 rfl ?_ ?_
      rotate_left
      · intro wS hSw; have k0 := hSw.1.2.cell (j := 0) rfl; have k1 := hSw.1.2.cell (j := 1) rfl; have k2 := hSw.1.2.cell (j := 2) rfl; go_simp; (with_reducible rfl)
      simp only [List.getElem_toArray, List.getElem_cons_succ, List.getElem_cons_zero, Act.put, List.setIfInBounds_toArray, List.set_cons_zero, List.set_cons_succ]
      refine rg_take 9 (v := ?_) rfl (by kernel_rfl) (by kernel_rfl) (by kernel_rfl) hS3 rfl ?_ ?_
      rotate_left
      · intro wS hSw; have k0 := hSw.1.1.cell (j := 0) rfl; have k1 := hSw.1.1.cell (j := 1) rfl; have k2 := hSw.1.1.cell (j := 2) rfl; go_simp; (with_reducible rfl)
      simp only [List.getElem_toArray, List.getElem_cons_succ, List.getElem_cons_zero, Act.put, List.setIfInBounds_toArray, List.set_cons_zero, List.set_cons_succ]
      refine rg_take 10 (v := ?_) rfl (by kernel_rfl) (by kernel_rfl) (by kernel_rfl) hS3 rfl ?_ ?_
      rotate_left
      · intro wS hSw; have k0 := hSw.1.2.cell (j := 0) rfl; have k1 := hSw.1.2.cell (j := 1) rfl; have k2 := hSw.1.2.cell (j := 2) rfl; go_simp; (with_reducible rfl)
      simp only [List.getElem_toArray, List.getElem_cons_succ, List.getElem_cons_zero, Act.put, List.setIfInBounds_toArray, List.set_cons_zero, List.set_cons_succ]
      refine rg_one 8 rfl (by kernel_rfl) rfl (fun K hK => ?_)
      go_simp
      refine (hcm _).mono ?_
      rintro e w4 ⟨rfl, hBx⟩
      have hS4 := And.intro (And.intro (hS3.1.1.below hBx) (hS3.1.2.below hBx)) (hS3.2.trans (hBx.mono hS3.2.size))
      clear hBx
      refine hK _ _ hS4 ?_
      clear hK K
      refine rg_one 11 rfl (by kernel_rfl) rfl (fun K hK => ?_)
      go_simp
      refine (hrc _).mono ?_
      rintro e w5 ⟨rfl, hBx⟩
      have hS5 := And.intro (And.intro (hS4.1.1.below hBx) (hS4.1.2.below hBx)) (hS4.2.trans (hBx.mono hS4.2.size))
      clear hBx
      refine hK _ _ hS5 ?_
      clear hK K
      refine rg_take 12 (v := ?_) rfl (by kernel_rfl) (by kernel_rfl) (by kernel_rfl) hS5 rfl ?_ ?_
      rotate_left
      · intro wS hSw; go_simp; (with_reducible rfl)
      simp only [List.getElem_toArray, List.getElem_cons_succ, List.getElem_cons_zero, Act.put, List.setIfInBounds_toArray, List.set_cons_zero, List.set_cons_succ]
      refine rg_take 13 (v := ?_) rfl (by kernel_rfl) (by kernel_rfl) (by kernel_rfl) hS5 rfl ?_ ?_
      rotate_left
      · intro wS hSw; go_simp; (with_reducible rfl)
      simp only [List.getElem_toArray, List.getElem_cons_succ, List.getElem_cons_zero, Act.put, List.setIfInBounds_toArray, List.set_cons_zero, List.set_cons_succ]
      refine rg_take 14 (v := ?_) rfl (by kernel_rfl) (by kernel_rfl) (by kernel_rfl) hS5 rfl ?_ ?_
      rotate_left
      · intro wS hSw; go_simp; (with_reducible rfl)
      simp only [List.getElem_toArray, List.getElem_cons_succ, List.getElem_cons_zero, Act.put, List.setIfInBounds_toArray, List.set_cons_zero, List.set_cons_succ]
      refine rg_take 15 (v := ?_) rfl (by kernel_rfl) (by kernel_rfl) (by kernel_rfl) hS5 rfl ?_ ?_
      rotate_left
      · intro wS hSw; have k0 := hSw.1.1.cell (j := 0) rfl; have k1 := hSw.1.1.cell (j := 1) rfl; have k2 := hSw.1.1.cell (j := 2) rfl; go_simp; (with_reducible rfl)
      simp only [List.getElem_toArray, List.getElem_cons_succ, List.getElem_cons_zero, Act.put, List.setIfInBounds_toArray, List.set_cons_zero, List.set_cons_succ]
      refine rg_take 16 (v := ?_) rfl (by kernel_rfl) (by kernel_rfl) (by kernel_rfl) hS5 rfl ?_ ?_
      rotate_left
      · intro wS hSw; have k0 := hSw.1.2.cell (j := 0) rfl; have k1 := hSw.1.2.cell (j := 1) rfl; have k2 := hSw.1.2.cell (j := 2) rfl; go_simp; (with_reducible rfl)
      simp only [List.getElem_toArray, List.getElem_cons_succ, List.getElem_cons_zero, Act.put, List.setIfInBounds_toArray, List.set_cons_zero, List.set_cons_succ]
      refine rg_take 18 (v := ?_) rfl (by kernel_rfl) (by kernel_rfl) (by kernel_rfl) hS5 rfl ?_ ?_
      rotate_left
      · intro wS hSw; go_simp; (with_reducible rfl)
      simp only [List.getElem_toArray, List.getElem_cons_succ, List.getElem_cons_zero, Act.put, List.setIfInBounds_toArray, List.set_cons_zero, List.set_cons_succ]
      refine rg_one 17 rfl (by kernel_rfl) rfl (fun K hK => ?_)
      go_simp
      refine (hog _).mono ?_
      rintro e w6 ⟨rfl, hBx⟩
      have hS6 := And.intro (And.intro (hS5.1.1.below hBx) (hS5.1.2.below hBx)) (hS5.2.trans (hBx.mono hS5.2.size))
      clear hBx
      refine hK _ _ hS6 ?_
      clear hK K
      refine rg_take 19 (v := ?_) rfl (by kernel_rfl) (by kernel_rfl) (by kernel_rfl) hS6 rfl ?_ ?_
      rotate_left
      · intro wS hSw; go_simp; (with_reducible rfl)
      simp only [List.getElem_toArray, List.getElem_cons_succ, List.getElem_cons_zero, Act.put, List.setIfInBounds_toArray, List.set_cons_zero, List.set_cons_succ]
      refine rg_take 20 (v := ?_) rfl (by kernel_rfl) (by kernel_rfl) (by kernel_rfl) hS6 rfl ?_ ?_
      rotate_left
      · intro wS hSw; go_simp; (with_reducible rfl)
      simp only [List.getElem_toArray, List.getElem_cons_succ, List.getElem_cons_zero, Act.put, List.setIfInBounds_toArray, List.set_cons_zero, List.set_cons_succ]
      refine rg_take 21 (v := ?_) rfl (by kernel_rfl) (by kernel_rfl) (by kernel_rfl) hS6 rfl ?_ ?_
      rotate_left
      · intro wS hSw; go_simp; (with_reducible rfl)
      simp only [List.getElem_toArray, List.getElem_cons_succ, List.getElem_cons_zero, Act.put, List.setIfInBounds_toArray, List.set_cons_zero, List.set_cons_succ]
      refine rg_one 22 rfl (by kernel_rfl) rfl (fun K hK => ?_)
      go_simp
      refine (head_any w6 (he.below hS6.2 h8 hS6.2.size)).mono ?_
      rintro e w7 ⟨rfl, hBx⟩
      have hS7 := And.intro (And.intro (hS6.1.1.below hBx) (hS6.1.2.below hBx)) (hS6.2.trans (hBx.mono hS6.2.size))
      clear hBx
      refine hK _ _ hS7 ?_
      clear hK K
      refine rg_take 23 (v := ?_) rfl (by kernel_rfl) (by kernel_rfl) (by kernel_rfl) hS7 rfl ?_ ?_
      rotate_left
      · intro wS hSw; go_simp; (with_reducible rfl)
      simp only [List.getElem_toArray, List.getElem_cons_succ, List.getElem_cons_zero, Act.put, List.setIfInBounds_toArray, List.set_cons_zero, List.set_cons_succ]
      refine rg_take 24 (v := ?_) rfl (by kernel_rfl) (by kernel_rfl) (by kernel_rfl) hS7 rfl ?_ ?_
      rotate_left
      · intro wS hSw; go_simp; (with_reducible rfl)
      simp only [List.getElem_toArray, List.getElem_cons_succ, List.getElem_cons_zero, Act.put, List.setIfInBounds_toArray, List.set_cons_zero, List.set_cons_succ]
      refine rg_end (by kernel_rfl) ?_
      go_wp2_with (first | (with_reducible refine hold_append ?_) | (with_reducible refine hold_make ?_) | (with_reducible refine hold_copy ?_))
      go_ret
      exact ⟨rfl, hS7.2⟩
  · have q1 : ((f : Int) == (f' : Int)) = false := by rw [beq_eq_false_iff_ne]; omega
    obtain rfl : oo = false := by rw [h1g, decide_eq_false c1]; rfl
    clear h1g c1
    go_enter Tryd.func5, Tryd.ntmps5
    go_wp2_with (first | (with_reducible refine hold_append ?_) | (with_reducible refine hold_make ?_) | (with_reducible refine hold_copy ?_))
    rw [← hw0]
    refine rg_start (fun wx : World => (Box wx w.heap.size 24 #[.int .u32 (f : Int), .string (str g), .string (str h)] ∧ Box wx (w.heap.size + 1) 24 #[.int .u32 (f' : Int), .string (str g'), .string (str h')]) ∧ Below w.heap.size w wx) (by kernel_rfl) ?_
    have hS := And.intro (And.intro (show Box w0.drew _ _ _ from hb0) (show Box w0.drew _ _ _ from hb1)) (below_drewN hB0 1)
    have hS : (Box w0.drew w.heap.size 24 #[.int .u32 (f : Int), .string (str g), .string (str h)] ∧ Box w0.drew (w.heap.size + 1) 24 #[.int .u32 (f' : Int), .string (str g'), .string (str h')]) ∧ Below w.heap.size w w0.drew := hS
    clear hw0 hB0 hb0 hb1
    generalize w0.drew = w1 at *
    refine rg_take 0 (v := ?_) rfl (by kernel_rfl) (by kernel_rfl) (by kernel_rfl) hS rfl ?_ ?_
    rotate_left
    · intro wS hSw; have k0 := hSw.1.1.cell (j := 0) rfl; have k1 := hSw.1.1.cell (j := 1) rfl; have k2 := hSw.1.1.cell (j := 2) rfl; go_simp; (with_reducible rfl)
    simp only [List.getElem_toArray, List.getElem_cons_zero, Act.put, List.setIfInBounds_toArray, List.set_cons_zero, List.set_cons_succ]
    refine rg_take 2 (v := ?_) rfl (by kernel_rfl) (by kernel_rfl) (by kernel_rfl) hS rfl ?_ ?_
    rotate_left
    · intro wS hSw; have k0 := hSw.1.1.cell (j := 0) rfl; have k1 := hSw.1.1.cell (j := 1) rfl; have k2 := hSw.1.1.cell (j := 2) rfl; go_simp; (with_reducible rfl)
    simp only [List.getElem_toArray, List.getElem_cons_succ, List.getElem_cons_zero, Act.put, List.setIfInBounds_toArray, List.set_cons_zero, List.set_cons_succ]
    refine rg_one 1 rfl (by kernel_rfl) rfl (fun K hK => ?_)
    go_simp
    refine (hck _).mono ?_
    rintro e w2 ⟨rfl, hBx⟩
    have hS2 := And.intro (And.intro (hS.1.1.below hBx) (hS.1.2.below hBx)) (hS.2.trans (hBx.mono hS.2.size))
    clear hBx
    refine hK _ _ hS2 ?_
    clear hK K
    refine rg_one 3 rfl (by kernel_rfl) rfl (fun K hK => ?_)
    go_simp
    refine (hrk _).mono ?_
    rintro e w3 ⟨rfl, hBx⟩
    have hS3 := And.intro (And.intro (hS2.1.1.below hBx) (hS2.1.2.below hBx)) (hS2.2.trans (hBx.mono hS2.2.size))
    clear hBx
    refine hK _ _ hS3 ?_
    clear hK K
    refine rg_take 4 (v := ?_) rfl (by kernel_rfl) (by kernel_rfl) (by kernel_rfl) hS3 rfl ?_ ?_
    rotate_left
    · intro wS hSw; go_simp; (with_reducible rfl)
    simp only [List.getElem_toArray, List.getElem_cons_succ, List.getElem_cons_zero, Act.put, List.setIfInBounds_toArray, List.set_cons_zero, List.set_cons_succ]
    refine rg_take 5 (v := ?_) rfl (by kernel_rfl) (by kernel_rfl) (by kernel_rfl) hS3 rfl ?_ ?_
    rotate_left
    · intro wS hSw; go_simp; (with_reducible rfl)
    simp only [List.getElem_toArray, List.getElem_cons_succ, List.getElem_cons_zero, Act.put, List.setIfInBounds_toArray, List.set_cons_zero, List.set_cons_succ]
    refine rg_take 6 (v := ?_) rfl (by kernel_rfl) (by kernel_rfl) (by kernel_rfl) hS3 rfl ?_ ?_
    rotate_left
    · intro wS hSw; have k0 := hSw.1.1.cell (j := 0) rfl; have k1 := hSw.1.1.cell (j := 1) rfl; have k2 := hSw.1.1.cell (j := 2) rfl; go_simp; (with_reducible rfl)
    simp only [List.getElem_toArray, List.getElem_cons_succ, List.getElem_cons_zero, Act.put, List.setIfInBounds_toArray, List.set_cons_zero, List.set_cons_succ]
    refine rg_take 7 (v := ?_) rfl (by kernel_rfl) (by kernel_rfl) (by kernel_rfl) hS3 rfl ?_ ?_
    rotate_left
    · intro wS hSw; have k0 := hSw.1.2.cell (j := 0) rfl; have k1 := hSw.1.2.cell (j := 1) rfl; have k2 := hSw.1.2.cell (j := 2) rfl; go_simp; (with_reducible rfl)
    simp only [List.getElem_toArray, List.getElem_cons_succ, List.getElem_cons_zero, Act.put, List.setIfInBounds_toArray, List.set_cons_zero, List.set_cons_succ]
    refine rg_take 9 (v := ?_) rfl (by kernel_rfl) (by kernel_rfl) (by kernel_rfl) hS3 rfl ?_ ?_
    rotate_left
    · intro wS hSw; have k0 := hSw.1.1.cell (j := 0) rfl; have k1 := hSw.1.1.cell (j := 1) rfl; have k2 := hSw.1.1.cell (j := 2) rfl; go_simp; (with_reducible rfl)
    simp only [List.getElem_toArray, List.getElem_cons_succ, List.getElem_cons_zero, Act.put, List.setIfInBounds_toArray, List.set_cons_zero, List.set_cons_succ]
    refine rg_take 10 (v := ?_) rfl (by kernel_rfl) (by kernel_rfl) (by kernel_rfl) hS3 rfl ?_ ?_
    rotate_left
    · intro wS hSw; have k0 := hSw.1.2.cell (j := 0) rfl; have k1 := hSw.1.2.cell (j := 1) rfl; have k2 := hSw.1.2.cell (j := 2) rfl; go_simp; (with_reducible rfl)
    simp only [List.getElem_toArray, List.getElem_cons_succ, List.getElem_cons_zero, Act.put, List.setIfInBounds_toArray, List.set_cons_zero, List.set_cons_succ]
    refine rg_one 8 rfl (by kernel_rfl) rfl (fun K hK => ?_)
    go_simp
    refine (hcm _).mono ?_
    rintro e w4 ⟨rfl, hBx⟩
    have hS4 := And.intro (And.intro (hS3.1.1.below hBx) (hS3.1.2.below hBx)) (hS3.2.trans (hBx.mono hS3.2.size))
    clear hBx
    refine hK _ _ hS4 ?_
    clear hK K
    refine rg_one 11 rfl (by kernel_rfl) rfl (fun K hK => ?_)
    go_simp
    refine (hrc _).mono ?_
    rintro e w5 ⟨rfl, hBx⟩
    have hS5 := And.intro (And.intro (hS4.1.1.below hBx) (hS4.1.2.below hBx)) (hS4.2.trans (hBx.mono hS4.2.size))
    clear hBx
    refine hK _ _ hS5 ?_
    clear hK K
    refine rg_take 12 (v := ?_) rfl (by kernel_rfl) (by kernel_rfl) (by kernel_rfl) hS5 rfl ?_ ?_
    rotate_left
    · intro wS hSw; go_simp; (with_reducible rfl)
    simp only [List.getElem_toArray, List.getElem_cons_succ, List.getElem_cons_zero, Act.put, List.setIfInBounds_toArray, List.set_cons_zero, List.set_cons_succ]
    refine rg_take 13 (v := ?_) rfl (by kernel_rfl) (by kernel_rfl) (by kernel_rfl) hS5 rfl ?_ ?_
    rotate_left
    · intro wS hSw; go_simp; (with_reducible rfl)
    simp only [List.getElem_toArray, List.getElem_cons_succ, List.getElem_cons_zero, Act.put, List.setIfInBounds_toArray, List.set_cons_zero, List.set_cons_succ]
    refine rg_take 14 (v := ?_) rfl (by kernel_rfl) (by kernel_rfl) (by kernel_rfl) hS5 rfl ?_ ?_
    rotate_left
    · intro wS hSw; go_simp; (with_reducible rfl)
    simp only [List.getElem_toArray, List.getElem_cons_succ, List.getElem_cons_zero, Act.put, List.setIfInBounds_toArray, List.set_cons_zero, List.set_cons_succ]
    refine rg_take 15 (v := ?_) rfl (by kernel_rfl) (by kernel_rfl) (by kernel_rfl) hS5 rfl ?_ ?_
    rotate_left
    · intro wS hSw; have k0 := hSw.1.1.cell (j := 0) rfl; have k1 := hSw.1.1.cell (j := 1) rfl; have k2 := hSw.1.1.cell (j := 2) rfl; go_simp; (with_reducible rfl)
    simp only [List.getElem_toArray, List.getElem_cons_succ, List.getElem_cons_zero, Act.put, List.setIfInBounds_toArray, List.set_cons_zero, List.set_cons_succ]
    refine rg_take 16 (v := ?_) rfl (by kernel_rfl) (by kernel_rfl) (by kernel_rfl) hS5 rfl ?_ ?_
    rotate_left
    · intro wS hSw; have k0 := hSw.1.2.cell (j := 0) rfl; have k1 := hSw.1.2.cell (j := 1) rfl; have k2 := hSw.1.2.cell (j := 2) rfl; go_simp; (with_reducible rfl)
    simp only [List.getElem_toArray, List.getElem_cons_succ, List.getElem_cons_zero, Act.put, List.setIfInBounds_toArray, List.set_cons_zero, List.set_cons_succ]
    refine rg_take 18 (v := ?_) rfl (by kernel_rfl) (by kernel_rfl) (by kernel_rfl) hS5 rfl ?_ ?_
    rotate_left
    · intro wS hSw; go_simp; (with_reducible rfl)
    simp only [List.getElem_toArray, List.getElem_cons_succ, List.getElem_cons_zero, Act.put, List.setIfInBounds_toArray, List.set_cons_zero, List.set_cons_succ]
    refine rg_one 17 rfl (by kernel_rfl) rfl (fun K hK => ?_)
    go_simp
    refine (hog _).mono ?_
    rintro e w6 ⟨rfl, hBx⟩
    have hS6 := And.intro (And.intro (hS5.1.1.below hBx) (hS5.1.2.below hBx)) (hS5.2.trans (hBx.mono hS5.2.size))
    clear hBx
    refine hK _ _ hS6 ?_
    clear hK K
    refine rg_take 19 (v := ?_) rfl (by kernel_rfl) (by kernel_rfl) (by kernel_rfl) hS6 rfl ?_ ?_
    rotate_left
    · intro wS hSw; go_simp; (with_reducible rfl)
    simp only [List.getElem_toArray, List.getElem_cons_succ, List.getElem_cons_zero, Act.put, List.setIfInBounds_toArray, List.set_cons_zero, List.set_cons_succ]
    refine rg_take 20 (v := ?_) rfl (by kernel_rfl) (by kernel_rfl) (by kernel_rfl) hS6 rfl ?_ ?_
    rotate_left
    · intro wS hSw; go_simp; (with_reducible rfl)
    simp only [List.getElem_toArray, List.getElem_cons_succ, List.getElem_cons_zero, Act.put, List.setIfInBounds_toArray, List.set_cons_zero, List.set_cons_succ]
    refine rg_take 21 (v := ?_) rfl (by kernel_rfl) (by kernel_rfl) (by kernel_rfl) hS6 rfl ?_ ?_
    rotate_left
    · intro wS hSw; go_simp; (with_reducible rfl)
    simp only [List.getElem_toArray, List.getElem_cons_succ, List.getElem_cons_zero, Act.put, List.setIfInBounds_toArray, List.set_cons_zero, List.set_cons_succ]
    refine rg_one 22 rfl (by kernel_rfl) rfl (fun K hK => ?_)
    go_simp
    refine (head_any w6 (he.below hS6.2 h8 hS6.2.size)).mono ?_
    rintro e w7 ⟨rfl, hBx⟩
    have hS7 := And.intro (And.intro (hS6.1.1.below hBx) (hS6.1.2.below hBx)) (hS6.2.trans (hBx.mono hS6.2.size))
    clear hBx
    refine hK _ _ hS7 ?_
    clear hK K
    refine rg_take 23 (v := ?_) rfl (by kernel_rfl) (by kernel_rfl) (by kernel_rfl) hS7 rfl ?_ ?_
    rotate_left
    · intro wS hSw; go_simp; (with_reducible rfl)
    simp only [List.getElem_toArray, List.getElem_cons_succ, List.getElem_cons_zero, Act.put, List.setIfInBounds_toArray, List.set_cons_zero, List.set_cons_succ]
    refine rg_take 24 (v := ?_) rfl (by kernel_rfl) (by kernel_rfl) (by kernel_rfl) hS7 rfl ?_ ?_
    rotate_left
    · intro wS hSw; go_simp; (with_reducible rfl)
    simp only [List.getElem_toArray, List.getElem_cons_succ, List.getElem_cons_zero, Act.put, List.setIfInBounds_toArray, List.set_cons_zero, List.set_cons_succ]
    refine rg_end (by kernel_rfl) ?_
    go_wp2_with (first | (with_reducible refine hold_append ?_) | (with_reducible refine hold_make ?_) | (with_reducible refine hold_copy ?_))
    go_ret
    exact ⟨rfl, hS7.2⟩
end Go.PH

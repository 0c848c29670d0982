/- The walks of Compare, the reference's Compare, and OneGlobal. -/
import Derived.Test.YtokfnonjmacpgaaDoorXdCmp
set_option linter.all false
set_option linter.unusedSimpArgs false
set_option linter.unusedVariables false
namespace Go.PH
open Go.RowKit Go.Proofs

theorem box_eq (W : World) (a : Nat) {cs : Array Value} {t : TypeId} (h : Box W a t cs) : True := trivial
set_option maxRecDepth 20000 in
set_option maxHeartbeats 1000000 in
theorem compare_any (a b : Xd) (w : World) (ha : a.wf) (hb : b.wf) :
    Calls Tryd.prog 14 #[.agg (xdV a), .agg (xdV b)] w fun e w' => e = .returned (.int .i64 (Xd.cmp a b)) ∧ Below w.heap.size w w' := by
  have HC : Hid (Xd.cmp a b = orI (cmpN a.fmt b.fmt) (orI (Lib.compareBytes a.glob b.glob) (Lib.compareBytes a.bran b.bran))) := Lib.hid rfl
  obtain ⟨f, g, h⟩ := a
  obtain ⟨f', g', h'⟩ := b
  simp only at HC
  generalize Xd.cmp ⟨f, g, h⟩ ⟨f', g', h'⟩ = r at *
  unfold xdV
  simp only
  have hc1 := fun w => cmp_any f f' w
  have hc2 := fun w => Tryd.strings_Compare (str g) (str g') w
  have hc3 := fun w => Tryd.strings_Compare (str h) (str h') w
  have es : ∀ l, (str l).data.toList = l := fun l => rfl
  rw [es, es] at hc2 hc3
  generalize cmpN f f' = x at *
  generalize Lib.compareBytes g g' = y at *
  generalize Lib.compareBytes h h' = z at *
  obtain ⟨w0, hw0⟩ : ∃ w0, w0 = ((w.alloc (.cells #[.int .u32 (f : Int), .string (str g), .string (str h)] 24)).alloc (.cells #[.int .u32 (f' : Int), .string (str g'), .string (str h')] 24)) := ⟨_, rfl⟩
  have hB0 : Below w.heap.size w w0 := by rw [hw0]; exact ((Below.refl _ _).alloc (Nat.le_refl _) _).alloc (by simp) _
  have hb0 : Box w0 w.heap.size 24 #[.int .u32 (f : Int), .string (str g), .string (str h)] := by rw [hw0]; exact (Box.new _ _ _).alloc _
  have hb1 : Box w0 (w.heap.size + 1) 24 #[.int .u32 (f' : Int), .string (str g'), .string (str h')] := by
    rw [hw0]
    have := Box.new (w.alloc (.cells #[.int .u32 (f : Int), .string (str g), .string (str h)] 24)) #[.int .u32 (f' : Int), .string (str g'), .string (str h')] 24
    rwa [show (w.alloc (.cells #[.int .u32 (f : Int), .string (str g), .string (str h)] 24)).heap.size = w.heap.size + 1 by simp] at this
  go_enter Tryd.func14, Tryd.ntmps14
  go_wp2_with (first | (with_reducible refine hold_append ?_) | (with_reducible refine hold_make ?_) | (with_reducible refine hold_copy ?_))
  rw [← hw0]
  clear hw0
  refine rg_start (fun wx : World => Box wx w.heap.size 24 #[.int .u32 (f : Int), .string (str g), .string (str h)] ∧ Box wx (w.heap.size + 1) 24 #[.int .u32 (f' : Int), .string (str g'), .string (str h')]) (by kernel_rfl) ?_
  have hS : Box w0.drew w.heap.size 24 #[.int .u32 (f : Int), .string (str g), .string (str h)] ∧ Box w0.drew (w.heap.size + 1) 24 #[.int .u32 (f' : Int), .string (str g'), .string (str h')] := ⟨hb0, hb1⟩
  have hBd : Below w.heap.size w w0.drew := below_drewN hB0 1
  generalize w0.drew = w1 at *
  refine rg_take 0 (v := ?_) rfl (by kernel_rfl) (by kernel_rfl) (by kernel_rfl) hS rfl ?_ ?_
  rotate_left
  · intro wS hSw; go_simp; (with_reducible rfl)
  simp only [List.getElem_toArray, List.getElem_cons_zero, Act.put, List.setIfInBounds_toArray, List.set_cons_zero, List.set_cons_succ]
  refine rg_take 1 (v := ?_) rfl (by kernel_rfl) (by kernel_rfl) (by kernel_rfl) hS rfl ?_ ?_
  rotate_left
  · intro wS hSw; have k0 := hSw.1.cell (j := 0) rfl; have k1 := hSw.1.cell (j := 1) rfl; have k2 := hSw.1.cell (j := 2) rfl; go_simp; (with_reducible rfl)
  simp only [List.getElem_toArray, List.getElem_cons_succ, List.getElem_cons_zero, Act.put, List.setIfInBounds_toArray, List.set_cons_zero, List.set_cons_succ]
  refine rg_take 2 (v := ?_) rfl (by kernel_rfl) (by kernel_rfl) (by kernel_rfl) hS rfl ?_ ?_
  rotate_left
  · intro wS hSw; go_simp; (with_reducible rfl)
  simp only [List.getElem_toArray, List.getElem_cons_succ, List.getElem_cons_zero, Act.put, List.setIfInBounds_toArray, List.set_cons_zero, List.set_cons_succ]
  refine rg_take 3 (v := ?_) rfl (by kernel_rfl) (by kernel_rfl) (by kernel_rfl) hS rfl ?_ ?_
  rotate_left
  · intro wS hSw; have k0 := hSw.2.cell (j := 0) rfl; go_simp; (with_reducible rfl)
  simp only [List.getElem_toArray, List.getElem_cons_succ, List.getElem_cons_zero, Act.put, List.setIfInBounds_toArray, List.set_cons_zero, List.set_cons_succ]
  refine rg_take 5 (v := ?_) rfl (by kernel_rfl) (by kernel_rfl) (by kernel_rfl) hS rfl ?_ ?_
  rotate_left
  · intro wS hSw; go_simp; (with_reducible rfl)
  simp only [List.getElem_toArray, List.getElem_cons_succ, List.getElem_cons_zero, Act.put, List.setIfInBounds_toArray, List.set_cons_zero, List.set_cons_succ]
  refine rg_take 6 (v := ?_) rfl (by kernel_rfl) (by kernel_rfl) (by kernel_rfl) hS rfl ?_ ?_
  rotate_left
  · intro wS hSw; have k0 := hSw.1.cell (j := 1) rfl; go_simp; (with_reducible rfl)
  simp only [List.getElem_toArray, List.getElem_cons_succ, List.getElem_cons_zero, Act.put, List.setIfInBounds_toArray, List.set_cons_zero, List.set_cons_succ]
  refine rg_take 7 (v := ?_) rfl (by kernel_rfl) (by kernel_rfl) (by kernel_rfl) hS rfl ?_ ?_
  rotate_left
  · intro wS hSw; go_simp; (with_reducible rfl)
  simp only [List.getElem_toArray, List.getElem_cons_succ, List.getElem_cons_zero, Act.put, List.setIfInBounds_toArray, List.set_cons_zero, List.set_cons_succ]
  refine rg_take 8 (v := ?_) rfl (by kernel_rfl) (by kernel_rfl) (by kernel_rfl) hS rfl ?_ ?_
  rotate_left
  · intro wS hSw; have k0 := hSw.2.cell (j := 1) rfl; go_simp; (with_reducible rfl)
  simp only [List.getElem_toArray, List.getElem_cons_succ, List.getElem_cons_zero, Act.put, List.setIfInBounds_toArray, List.set_cons_zero, List.set_cons_succ]
  refine rg_take 10 (v := ?_) rfl (by kernel_rfl) (by kernel_rfl) (by kernel_rfl) hS rfl ?_ ?_
  rotate_left
  · intro wS hSw; go_simp; (with_reducible rfl)
  simp only [List.getElem_toArray, List.getElem_cons_succ, List.getElem_cons_zero, Act.put, List.setIfInBounds_toArray, List.set_cons_zero, List.set_cons_succ]
  refine rg_take 11 (v := ?_) rfl (by kernel_rfl) (by kernel_rfl) (by kernel_rfl) hS rfl ?_ ?_
  rotate_left
  · intro wS hSw; have k0 := hSw.1.cell (j := 2) rfl; go_simp; (with_reducible rfl)
  simp only [List.getElem_toArray, List.getElem_cons_succ, List.getElem_cons_zero, Act.put, List.setIfInBounds_toArray, List.set_cons_zero, List.set_cons_succ]
  refine rg_take 12 (v := ?_) rfl (by kernel_rfl) (by kernel_rfl) (by kernel_rfl) hS rfl ?_ ?_
  rotate_left
  · intro wS hSw; go_simp; (with_reducible rfl)
  simp only [List.getElem_toArray, List.getElem_cons_succ, List.getElem_cons_zero, Act.put, List.setIfInBounds_toArray, List.set_cons_zero, List.set_cons_succ]
  refine rg_take 13 (v := ?_) rfl (by kernel_rfl) (by kernel_rfl) (by kernel_rfl) hS rfl ?_ ?_
  rotate_left
  · intro wS hSw; have k0 := hSw.2.cell (j := 2) rfl; go_simp; (with_reducible rfl)
  simp only [List.getElem_toArray, List.getElem_cons_succ, List.getElem_cons_zero, Act.put, List.setIfInBounds_toArray, List.set_cons_zero, List.set_cons_succ]
  refine rg_one 4 rfl (by kernel_rfl) rfl (fun K hK => ?_)
  go_simp
  refine (hc1 w1).mono ?_
  rintro e w2 ⟨rfl, hww⟩
  subst w2
  refine hK _ _ hS ?_; clear hK K
  refine rg_one 9 rfl (by kernel_rfl) rfl (fun K hK => ?_)
  go_simp
  refine (hc2 w1).mono ?_
  rintro e w2 ⟨rfl, hww⟩
  subst w2
  refine hK _ _ hS ?_; clear hK K
  refine rg_one 14 rfl (by kernel_rfl) rfl (fun K hK => ?_)
  go_simp
  refine (hc3 w1).mono ?_
  rintro e w2 ⟨rfl, hww⟩
  subst w2
  refine hK _ _ hS ?_; clear hK K
  have hlit : Own (w1.alloc (.cells #[.int .i64 x, .int .i64 y, .int .i64 z] 3)) w1.heap.size 3 1 (some ⟨w1.heap.size, 0, none⟩) 3 3 [.int .i64 x, .int .i64 y, .int .i64 z] :=
    own_lit (w := w1) w1.heap.size #[.int .i64 x, .int .i64 y, .int .i64 z] 3 3 (Nat.le_refl _) (by simp [maxLen]) rfl (size := 1) (by omega)
  have hBl : Below w.heap.size w (w1.alloc (.cells #[.int .i64 x, .int .i64 y, .int .i64 z] 3)) := hBd.alloc hBd.size _
  have hSl := And.intro (hS.1.alloc (.cells #[.int .i64 x, .int .i64 y, .int .i64 z] 3)) (hS.2.alloc (.cells #[.int .i64 x, .int .i64 y, .int .i64 z] 3))
  refine rg_one 15 rfl (by kernel_rfl) rfl (fun K hK => ?_)
  go_simp
  refine hK _ _ hSl ?_; clear hK K
  refine rg_one 16 rfl (by kernel_rfl) rfl (fun K hK => ?_)
  go_simp
  refine (or_any _ _ _ x y z _ hlit.rd).mono ?_
  rintro e w2 ⟨rfl, hww⟩
  subst w2
  refine hK _ _ hSl ?_; clear hK K
  refine rg_take 17 (v := ?_) rfl (by kernel_rfl) (by kernel_rfl) (by kernel_rfl) hSl rfl ?_ ?_
  rotate_left
  · intro wS hSw; go_simp; (with_reducible rfl)
  simp only [List.getElem_toArray, List.getElem_cons_succ, List.getElem_cons_zero, Act.put, List.setIfInBounds_toArray, List.set_cons_zero, List.set_cons_succ]
  refine rg_end (by kernel_rfl) ?_
  go_wp2_with (first | (with_reducible refine hold_append ?_) | (with_reducible refine hold_make ?_) | (with_reducible refine hold_copy ?_))
  go_ret
  rw [HC.out]
  exact ⟨rfl, hBl⟩

theorem xid_eql (a b : Xd) (w : World) : (binOp .eql 24 (.agg (xdV a)) (.agg (xdV b))).run Tryd.prog w = .ok (.bool (decide (a = b))) w := by
  rw [run_eql_struct, xid_equal]
  rfl
set_option maxRecDepth 20000 in
set_option maxHeartbeats 1000000 in
theorem rcompare_any (a b : Xd) (w : World) (ha : a.wf) (hb : b.wf) :
    Calls Tryd.prog 17 #[.agg (xdV a), .agg (xdV b)] w fun e w' => e = .returned (.int .i64 (Xd.cmp a b)) ∧ Below w.heap.size w w' := by
  have heq := fun w => xid_eql a b w
  have HZ := xd_ord.zero a b
  have HREF := xd_ref a b
  obtain ⟨f, g, h⟩ := a
  obtain ⟨f', g', h'⟩ := b
  obtain ⟨_, hg, hh⟩ := ha
  obtain ⟨_, hg', hh'⟩ := hb
  simp only at hg hh hg' hh' HREF
  have hl1 := fun w => less_any h h' w hh hh'
  have hl2 := fun w => less_any g g' w hg hg'
  generalize Xd.cmp ⟨f, g, h⟩ ⟨f', g', h'⟩ = r at *
  unfold xdV at heq ⊢
  simp only at heq ⊢
  obtain ⟨w0, hw0⟩ : ∃ w0, w0 = ((w.alloc (.cells #[.int .u32 (f : Int), .string (str g), .string (str h)] 24)).alloc (.cells #[.int .u32 (f' : Int), .string (str g'), .string (str h')] 24)) := ⟨_, rfl⟩
  have hB0 : Below w.heap.size w w0 := by rw [hw0]; exact ((Below.refl _ _).alloc (Nat.le_refl _) _).alloc (by simp) _
  have hb0 : Box w0 w.heap.size 24 #[.int .u32 (f : Int), .string (str g), .string (str h)] := by rw [hw0]; exact (Box.new _ _ _).alloc _
  have hb1 : Box w0 (w.heap.size + 1) 24 #[.int .u32 (f' : Int), .string (str g'), .string (str h')] := by
    rw [hw0]
    have := Box.new (w.alloc (.cells #[.int .u32 (f : Int), .string (str g), .string (str h)] 24)) #[.int .u32 (f' : Int), .string (str g'), .string (str h')] 24
    rwa [show (w.alloc (.cells #[.int .u32 (f : Int), .string (str g), .string (str h)] 24)).heap.size = w.heap.size + 1 by simp] at this
  have k0 := hb0.cell (j := 0) rfl
  have k1 := hb0.cell (j := 1) rfl
  have k2 := hb0.cell (j := 2) rfl
  have j0 := hb1.cell (j := 0) rfl
  have j1 := hb1.cell (j := 1) rfl
  have j2 := hb1.cell (j := 2) rfl
  have hz0 := hB0.size
  by_cases hab : (⟨f, g, h⟩ : Xd) = ⟨f', g', h'⟩
  · have hr0 : r = 0 := HZ.2 hab
    have HR := Lib.hid hr0
    simp only [decide_eq_true hab] at heq
    clear HZ HREF hr0 hab
    go_enter Tryd.func17, Tryd.ntmps17
    go_wp2_with (first | (with_reducible refine hold_append ?_) | (with_reducible refine hold_make ?_) | (with_reducible refine hold_copy ?_))
    rw [← hw0]
    go_ret
    rw [HR.out]
    exact ⟨rfl, hB0⟩
  · have HREF := Lib.hid (HREF hab)
    simp only [decide_eq_false hab] at heq
    clear HZ hab k0 k1 k2 j0 j1 j2
    go_enter Tryd.func17, Tryd.ntmps17
    go_wp2_with (first | (with_reducible refine hold_append ?_) | (with_reducible refine hold_make ?_) | (with_reducible refine hold_copy ?_))
    refine (hl1 _).mono ?_
    rintro e w1 ⟨rfl, hB1⟩
    rw [← hw0] at hB1
    have hb2 := hb0.below hB1
    have hb3 := hb1.below hB1
    have hB2 := hB0.trans (hB1.mono hz0)
    have hz2 := hB2.size
    clear hw0 hB0 hb0 hb1 hB1 hl1 heq
    have k0 := hb2.cell (j := 0) rfl
    have k1 := hb2.cell (j := 1) rfl
    have k2 := hb2.cell (j := 2) rfl
    have j0 := hb3.cell (j := 0) rfl
    have j1 := hb3.cell (j := 1) rfl
    have j2 := hb3.cell (j := 2) rfl
    by_cases hgg : g = g'
    · have q0 : ((str g).toList != (str g').toList) = false := by simp [hgg]
      have q00 : ((str g).toList == (str g').toList) = true := by simp [hgg]
      have HG : Hid ((if g ≠ g' then lessB g g' else lessB h h') = lessB h h') := Lib.hid (if_neg (by simpa using hgg))
      clear hgg hl2
      by_cases hff : f = f'
      · have q1 : ((f : Int) != (f' : Int)) = false := by simp [hff]
        have HR := Lib.hid (HREF.out.trans (by rw [if_neg (show ¬ (f ≠ f') by simpa using hff), HG.out]))
        clear HREF hff
        cases hx : lessB h h'
        · rw [hx] at HR
          clear hx
          go_wp2_with (first | (with_reducible refine hold_append ?_) | (with_reducible refine hold_make ?_) | (with_reducible refine hold_copy ?_))
          go_ret
          rw [HR.out]
          exact ⟨rfl, hB2⟩
        · rw [hx] at HR
          clear hx
          go_wp2_with (first | (with_reducible refine hold_append ?_) | (with_reducible refine hold_make ?_) | (with_reducible refine hold_copy ?_))
          go_ret
          rw [HR.out]
          exact ⟨rfl, hB2⟩
      · have q1 : ((f : Int) != (f' : Int)) = true := by simp; omega
        have HR := Lib.hid (HREF.out.trans (by rw [if_pos (show f ≠ f' from hff)]))
        clear HREF hff
        by_cases hlt : f < f'
        · have q2 : (f : Int) < (f' : Int) := by omega
          rw [decide_eq_true hlt] at HR
          clear hlt
          go_wp2_with (first | (with_reducible refine hold_append ?_) | (with_reducible refine hold_make ?_) | (with_reducible refine hold_copy ?_))
          go_ret
          rw [HR.out]
          exact ⟨rfl, hB2⟩
        · have q2 : ¬ (f : Int) < (f' : Int) := by omega
          rw [decide_eq_false hlt] at HR
          clear hlt
          go_wp2_with (first | (with_reducible refine hold_append ?_) | (with_reducible refine hold_make ?_) | (with_reducible refine hold_copy ?_))
          go_ret
          rw [HR.out]
          exact ⟨rfl, hB2⟩
    · have q00 := str_ne hgg
      have q0 : ((str g).toList != (str g').toList) = true := by simp [bne, q00]
      have HG : Hid ((if g ≠ g' then lessB g g' else lessB h h') = lessB g g') := Lib.hid (if_pos hgg)
      clear hgg
      go_wp2_with (first | (with_reducible refine hold_append ?_) | (with_reducible refine hold_make ?_) | (with_reducible refine hold_copy ?_))
      refine (hl2 w1).mono ?_
      rintro e w2 ⟨rfl, hB3⟩
      have hb4 := hb2.below hB3
      have hb5 := hb3.below hB3
      have hB4 := hB2.trans (hB3.mono hz2)
      clear hl2 hB2 hB3 hb2 hb3 k0 k1 k2 j0 j1 j2
      have k0 := hb4.cell (j := 0) rfl
      have k1 := hb4.cell (j := 1) rfl
      have k2 := hb4.cell (j := 2) rfl
      have j0 := hb5.cell (j := 0) rfl
      have j1 := hb5.cell (j := 1) rfl
      have j2 := hb5.cell (j := 2) rfl
      by_cases hff : f = f'
      · have q1 : ((f : Int) != (f' : Int)) = false := by simp [hff]
        have HR := Lib.hid (HREF.out.trans (by rw [if_neg (show ¬ (f ≠ f') by simpa using hff), HG.out]))
        clear HREF hff
        cases hx : lessB g g'
        · rw [hx] at HR
          clear hx
          go_wp2_with (first | (with_reducible refine hold_append ?_) | (with_reducible refine hold_make ?_) | (with_reducible refine hold_copy ?_))
          go_ret
          rw [HR.out]
          exact ⟨rfl, hB4⟩
        · rw [hx] at HR
          clear hx
          go_wp2_with (first | (with_reducible refine hold_append ?_) | (with_reducible refine hold_make ?_) | (with_reducible refine hold_copy ?_))
          go_ret
          rw [HR.out]
          exact ⟨rfl, hB4⟩
      · have q1 : ((f : Int) != (f' : Int)) = true := by simp; omega
        have HR := Lib.hid (HREF.out.trans (by rw [if_pos (show f ≠ f' from hff)]))
        clear HREF hff
        by_cases hlt : f < f'
        · have q2 : (f : Int) < (f' : Int) := by omega
          rw [decide_eq_true hlt] at HR
          clear hlt
          go_wp2_with (first | (with_reducible refine hold_append ?_) | (with_reducible refine hold_make ?_) | (with_reducible refine hold_copy ?_))
          go_ret
          rw [HR.out]
          exact ⟨rfl, hB4⟩
        · have q2 : ¬ (f : Int) < (f' : Int) := by omega
          rw [decide_eq_false hlt] at HR
          clear hlt
          go_wp2_with (first | (with_reducible refine hold_append ?_) | (with_reducible refine hold_make ?_) | (with_reducible refine hold_copy ?_))
          go_ret
          rw [HR.out]
          exact ⟨rfl, hB4⟩
end Go.PH

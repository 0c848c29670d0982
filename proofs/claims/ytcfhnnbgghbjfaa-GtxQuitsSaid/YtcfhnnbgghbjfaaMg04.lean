/- Texts laid together: XdCompare, XdOneG, XdSortMath. -/
import Derived.Test.YtcfhnnbgghbjfaaMg03
section
/- The walks of Compare, the reference's Compare, and OneGlobal. -/
set_option linter.all false
set_option linter.unusedSimpArgs false
set_option linter.unusedVariables false
namespace Go.PH
open Go.RowKit Go.Proofs

theorem box_eq (W : World) (a : Nat) {cs : Array Value} {t : TypeId} (h : Box W a t cs) : True := trivial
set_option maxRecDepth 20000 in
set_option maxHeartbeats 1000000 in
theorem compare_any (a b : Xd) (w : World) (ha : a.wf) (hb : b.wf) :
    Calls Try.prog 78 #[.agg (xdV a), .agg (xdV b)] w fun e w' => e = .returned (.int .i64 (Xd.cmp a b)) ∧ Below w.heap.size w w' := by
  have HC : Hid (Xd.cmp a b = orI (cmpN a.fmt b.fmt) (orI (Lib.compareBytes a.glob b.glob) (Lib.compareBytes a.bran b.bran))) := Lib.hid rfl
  obtain ⟨f, g, h⟩ := a
  obtain ⟨f', g', h'⟩ := b
  simp only at HC
  generalize Xd.cmp ⟨f, g, h⟩ ⟨f', g', h'⟩ = r at *
  unfold xdV
  simp only
  have hc1 := fun w => cmp_any f f' w
  have hc2 := fun w => Try.strings_Compare (str g) (str g') w
  have hc3 := fun w => Try.strings_Compare (str h) (str h') w
  have es : ∀ l, (str l).data.toList = l := fun l => rfl
  rw [es, es] at hc2 hc3
  generalize cmpN f f' = x at *
  generalize Lib.compareBytes g g' = y at *
  generalize Lib.compareBytes h h' = z at *
  obtain ⟨w0, hw0⟩ : ∃ w0, w0 = ((w.alloc (.cells #[.int .u32 (f : Int), .string (str g), .string (str h)] 24)).alloc (.cells #[.int .u32 (f' : Int), .string (str g'), .string (str h')] 24)) := ⟨_, rfl⟩
  have hB0 : Below w.heap.size w w0 := by rw [hw0]; exact ((Below.refl _ _).alloc (Nat.le_refl _) _).alloc (by simp) _
  have hb0 : Box w0 w.heap.size 24 #[.int .u32 (f : Int), .string (str g), .string (str h)] := by rw [hw0]; exact (Box.new _ _ _).alloc _
  have hb1 : Box w0 (w.heap.size + 1) 24 #[.int .u32 (f' : Int), .string (str g'), .string (str h')] := by
    rw [hw0]
    have := Box.new (w.alloc (.cells #[.int .u32 (f : Int), .string (str g), .string (str h)] 24)) #[.int .u32 (f' : Int), .string (str g'), .string (str h')] 24
    rwa [show (w.alloc (.cells #[.int .u32 (f : Int), .string (str g), .string (str h)] 24)).heap.size = w.heap.size + 1 by simp] at this
  go_enter Try.func78, Try.ntmps78
  go_wp2_with (first | (with_reducible refine hold_append ?_) | (with_reducible refine hold_make ?_) | (with_reducible refine hold_copy ?_))
  rw [← hw0]
  clear hw0
  refine rg_start (fun wx : World => Box wx w.heap.size 24 #[.int .u32 (f : Int), .string (str g), .string (str h)] ∧ Box wx (w.heap.size + 1) 24 #[.int .u32 (f' : Int), .string (str g'), .string (str h')]) (by kernel_rfl) ?_
  have hS : Box w0.drew w.heap.size 24 #[.int .u32 (f : Int), .string (str g), .string (str h)] ∧ Box w0.drew (w.heap.size + 1) 24 #[.int .u32 (f' : Int), .string (str g'), .string (str h')] := ⟨hb0, hb1⟩
  have hBd : Below w.heap.size w w0.drew := below_drewN hB0 1
  generalize w0.drew = w1 at *
  refine rg_take 0 (v := ?_) rfl (by kernel_rfl) (by kernel_rfl) (by kernel_rfl) hS rfl ?_ ?_
  rotate_left
  · intro wS hSw; go_simp; (with_reducible rfl)
  simp only [List.getElem_toArray, List.getElem_cons_zero, Act.put, List.setIfInBounds_toArray, List.set_cons_zero, List.set_cons_succ]
  refine rg_take 1 (v := ?_) rfl (by kernel_rfl) (by kernel_rfl) (by kernel_rfl) hS rfl ?_ ?_
  rotate_left
  · intro wS hSw; have k0 := hSw.1.cell (j := 0) rfl; have k1 := hSw.1.cell (j := 1) rfl; have k2 := hSw.1.cell (j := 2) rfl; go_simp; (with_reducible rfl)
  simp only [List.getElem_toArray, List.getElem_cons_succ, List.getElem_cons_zero, Act.put, List.setIfInBounds_toArray, List.set_cons_zero, List.set_cons_succ]
  refine rg_take 2 (v := ?_) rfl (by kernel_rfl) (by kernel_rfl) (by kernel_rfl) hS rfl ?_ ?_
  rotate_left
  · intro wS hSw; go_simp; (with_reducible rfl)
  simp only [List.getElem_toArray, List.getElem_cons_succ, List.getElem_cons_zero, Act.put, List.setIfInBounds_toArray, List.set_cons_zero, List.set_cons_succ]
  refine rg_take 3 (v := ?_) rfl (by kernel_rfl) (by kernel_rfl) (by kernel_rfl) hS rfl ?_ ?_
  rotate_left
  · intro wS hSw; have k0 := hSw.2.cell (j := 0) rfl; go_simp; (with_reducible rfl)
  simp only [List.getElem_toArray, List.getElem_cons_succ, List.getElem_cons_zero, Act.put, List.setIfInBounds_toArray, List.set_cons_zero, List.set_cons_succ]
  refine rg_take 5 (v := ?_) rfl (by kernel_rfl) (by kernel_rfl) (by kernel_rfl) hS rfl ?_ ?_
  rotate_left
  · intro wS hSw; go_simp; (with_reducible rfl)
  simp only [List.getElem_toArray, List.getElem_cons_succ, List.getElem_cons_zero, Act.put, List.setIfInBounds_toArray, List.set_cons_zero, List.set_cons_succ]
  refine rg_take 6 (v := ?_) rfl (by kernel_rfl) (by kernel_rfl) (by kernel_rfl) hS rfl ?_ ?_
  rotate_left
  · intro wS hSw; have k0 := hSw.1.cell (j := 1) rfl; go_simp; (with_reducible rfl)
  simp only [List.getElem_toArray, List.getElem_cons_succ, List.getElem_cons_zero, Act.put, List.setIfInBounds_toArray, List.set_cons_zero, List.set_cons_succ]
  refine rg_take 7 (v := ?_) rfl (by kernel_rfl) (by kernel_rfl) (by kernel_rfl) hS rfl ?_ ?_
  rotate_left
  · intro wS hSw; go_simp; (with_reducible rfl)
  simp only [List.getElem_toArray, List.getElem_cons_succ, List.getElem_cons_zero, Act.put, List.setIfInBounds_toArray, List.set_cons_zero, List.set_cons_succ]
  refine rg_take 8 (v := ?_) rfl (by kernel_rfl) (by kernel_rfl) (by kernel_rfl) hS rfl ?_ ?_
  rotate_left
  · intro wS hSw; have k0 := hSw.2.cell (j := 1) rfl; go_simp; (with_reducible rfl)
  simp only [List.getElem_toArray, List.getElem_cons_succ, List.getElem_cons_zero, Act.put, List.setIfInBounds_toArray, List.set_cons_zero, List.set_cons_succ]
  refine rg_take 10 (v := ?_) rfl (by kernel_rfl) (by kernel_rfl) (by kernel_rfl) hS rfl ?_ ?_
  rotate_left
  · intro wS hSw; go_simp; (with_reducible rfl)
  simp only [List.getElem_toArray, List.getElem_cons_succ, List.getElem_cons_zero, Act.put, List.setIfInBounds_toArray, List.set_cons_zero, List.set_cons_succ]
  refine rg_take 11 (v := ?_) rfl (by kernel_rfl) (by kernel_rfl) (by kernel_rfl) hS rfl ?_ ?_
  rotate_left
  · intro wS hSw; have k0 := hSw.1.cell (j := 2) rfl; go_simp; (with_reducible rfl)
  simp only [List.getElem_toArray, List.getElem_cons_succ, List.getElem_cons_zero, Act.put, List.setIfInBounds_toArray, List.set_cons_zero, List.set_cons_succ]
  refine rg_take 12 (v := ?_) rfl (by kernel_rfl) (by kernel_rfl) (by kernel_rfl) hS rfl ?_ ?_
  rotate_left
  · intro wS hSw; go_simp; (with_reducible rfl)
  simp only [List.getElem_toArray, List.getElem_cons_succ, List.getElem_cons_zero, Act.put, List.setIfInBounds_toArray, List.set_cons_zero, List.set_cons_succ]
  refine rg_take 13 (v := ?_) rfl (by kernel_rfl) (by kernel_rfl) (by kernel_rfl) hS rfl ?_ ?_
  rotate_left
  · intro wS hSw; have k0 := hSw.2.cell (j := 2) rfl; go_simp; (with_reducible rfl)
  simp only [List.getElem_toArray, List.getElem_cons_succ, List.getElem_cons_zero, Act.put, List.setIfInBounds_toArray, List.set_cons_zero, List.set_cons_succ]
  refine rg_one 4 rfl (by kernel_rfl) rfl (fun K hK => ?_)
  go_simp
  refine (hc1 w1).mono ?_
  rintro e w2 ⟨rfl, hww⟩
  subst w2
  refine hK _ _ hS ?_; clear hK K
  refine rg_one 9 rfl (by kernel_rfl) rfl (fun K hK => ?_)
  go_simp
  refine (hc2 w1).mono ?_
  rintro e w2 ⟨rfl, hww⟩
  subst w2
  refine hK _ _ hS ?_; clear hK K
  refine rg_one 14 rfl (by kernel_rfl) rfl (fun K hK => ?_)
  go_simp
  refine (hc3 w1).mono ?_
  rintro e w2 ⟨rfl, hww⟩
  subst w2
  refine hK _ _ hS ?_; clear hK K
  have hlit : Own (w1.alloc (.cells #[.int .i64 x, .int .i64 y, .int .i64 z] 3)) w1.heap.size 3 1 (some ⟨w1.heap.size, 0, none⟩) 3 3 [.int .i64 x, .int .i64 y, .int .i64 z] :=
    own_lit (w := w1) w1.heap.size #[.int .i64 x, .int .i64 y, .int .i64 z] 3 3 (Nat.le_refl _) (by simp [maxLen]) rfl (size := 1) (by omega)
  have hBl : Below w.heap.size w (w1.alloc (.cells #[.int .i64 x, .int .i64 y, .int .i64 z] 3)) := hBd.alloc hBd.size _
  have hSl := And.intro (hS.1.alloc (.cells #[.int .i64 x, .int .i64 y, .int .i64 z] 3)) (hS.2.alloc (.cells #[.int .i64 x, .int .i64 y, .int .i64 z] 3))
  refine rg_one 15 rfl (by kernel_rfl) rfl (fun K hK => ?_)
  go_simp
  refine hK _ _ hSl ?_; clear hK K
  refine rg_one 16 rfl (by kernel_rfl) rfl (fun K hK => ?_)
  go_simp
  refine (or_any _ _ _ x y z _ hlit.rd).mono ?_
  rintro e w2 ⟨rfl, hww⟩
  subst w2
  refine hK _ _ hSl ?_; clear hK K
  refine rg_take 17 (v := ?_) rfl (by kernel_rfl) (by kernel_rfl) (by kernel_rfl) hSl rfl ?_ ?_
  rotate_left
  · intro wS hSw; go_simp; (with_reducible rfl)
  simp only [List.getElem_toArray, List.getElem_cons_succ, List.getElem_cons_zero, Act.put, List.setIfInBounds_toArray, List.set_cons_zero, List.set_cons_succ]
  refine rg_end (by kernel_rfl) ?_
  go_wp2_with (first | (with_reducible refine hold_append ?_) | (with_reducible refine hold_make ?_) | (with_reducible refine hold_copy ?_))
  go_ret
  rw [HC.out]
  exact ⟨rfl, hBl⟩

theorem xid_eql (a b : Xd) (w : World) : (binOp .eql 24 (.agg (xdV a)) (.agg (xdV b))).run Try.prog w = .ok (.bool (decide (a = b))) w := by
  rw [run_eql_struct, xid_equal]
  rfl
set_option maxRecDepth 20000 in
set_option maxHeartbeats 1000000 in
theorem rcompare_any (a b : Xd) (w : World) (ha : a.wf) (hb : b.wf) :
    Calls Try.prog 65 #[.agg (xdV a), .agg (xdV b)] w fun e w' => e = .returned (.int .i64 (Xd.cmp a b)) ∧ Below w.heap.size w w' := by
  have heq := fun w => xid_eql a b w
  have HZ := xd_ord.zero a b
  have HREF := xd_ref a b
  obtain ⟨f, g, h⟩ := a
  obtain ⟨f', g', h'⟩ := b
  obtain ⟨_, hg, hh⟩ := ha
  obtain ⟨_, hg', hh'⟩ := hb
  simp only at hg hh hg' hh' HREF
  have hl1 := fun w => less_any h h' w hh hh'
  have hl2 := fun w => less_any g g' w hg hg'
  generalize Xd.cmp ⟨f, g, h⟩ ⟨f', g', h'⟩ = r at *
  unfold xdV at heq ⊢
  simp only at heq ⊢
  obtain ⟨w0, hw0⟩ : ∃ w0, w0 = ((w.alloc (.cells #[.int .u32 (f : Int), .string (str g), .string (str h)] 24)).alloc (.cells #[.int .u32 (f' : Int), .string (str g'), .string (str h')] 24)) := ⟨_, rfl⟩
  have hB0 : Below w.heap.size w w0 := by rw [hw0]; exact ((Below.refl _ _).alloc (Nat.le_refl _) _).alloc (by simp) _
  have hb0 : Box w0 w.heap.size 24 #[.int .u32 (f : Int), .string (str g), .string (str h)] := by rw [hw0]; exact (Box.new _ _ _).alloc _
  have hb1 : Box w0 (w.heap.size + 1) 24 #[.int .u32 (f' : Int), .string (str g'), .string (str h')] := by
    rw [hw0]
    have := Box.new (w.alloc (.cells #[.int .u32 (f : Int), .string (str g), .string (str h)] 24)) #[.int .u32 (f' : Int), .string (str g'), .string (str h')] 24
    rwa [show (w.alloc (.cells #[.int .u32 (f : Int), .string (str g), .string (str h)] 24)).heap.size = w.heap.size + 1 by simp] at this
  have k0 := hb0.cell (j := 0) rfl
  have k1 := hb0.cell (j := 1) rfl
  have k2 := hb0.cell (j := 2) rfl
  have j0 := hb1.cell (j := 0) rfl
  have j1 := hb1.cell (j := 1) rfl
  have j2 := hb1.cell (j := 2) rfl
  have hz0 := hB0.size
  by_cases hab : (⟨f, g, h⟩ : Xd) = ⟨f', g', h'⟩
  · have hr0 : r = 0 := HZ.2 hab
    have HR := Lib.hid hr0
    simp only [decide_eq_true hab] at heq
    clear HZ HREF hr0 hab
    go_enter Try.func65, Try.ntmps65
    go_wp2_with (first | (with_reducible refine hold_append ?_) | (with_reducible refine hold_make ?_) | (with_reducible refine hold_copy ?_))
    rw [← hw0]
    go_ret
    rw [HR.out]
    exact ⟨rfl, hB0⟩
  · have HREF := Lib.hid (HREF hab)
    simp only [decide_eq_false hab] at heq
    clear HZ hab k0 k1 k2 j0 j1 j2
    go_enter Try.func65, Try.ntmps65
    go_wp2_with (first | (with_reducible refine hold_append ?_) | (with_reducible refine hold_make ?_) | (with_reducible refine hold_copy ?_))
    refine (hl1 _).mono ?_
    rintro e w1 ⟨rfl, hB1⟩
    rw [← hw0] at hB1
    have hb2 := hb0.below hB1
    have hb3 := hb1.below hB1
    have hB2 := hB0.trans (hB1.mono hz0)
    have hz2 := hB2.size
    clear hw0 hB0 hb0 hb1 hB1 hl1 heq
    have k0 := hb2.cell (j := 0) rfl
    have k1 := hb2.cell (j := 1) rfl
    have k2 := hb2.cell (j := 2) rfl
    have j0 := hb3.cell (j := 0) rfl
    have j1 := hb3.cell (j := 1) rfl
    have j2 := hb3.cell (j := 2) rfl
    by_cases hgg : g = g'
    · have q0 : ((str g).toList != (str g').toList) = false := by simp [hgg]
      have q00 : ((str g).toList == (str g').toList) = true := by simp [hgg]
      have HG : Hid ((if g ≠ g' then lessB g g' else lessB h h') = lessB h h') := Lib.hid (if_neg (by simpa using hgg))
      clear hgg hl2
      by_cases hff : f = f'
      · have q1 : ((f : Int) != (f' : Int)) = false := by simp [hff]
        have HR := Lib.hid (HREF.out.trans (by rw [if_neg (show ¬ (f ≠ f') by simpa using hff), HG.out]))
        clear HREF hff
        cases hx : lessB h h'
        · rw [hx] at HR
          clear hx
          go_wp2_with (first | (with_reducible refine hold_append ?_) | (with_reducible refine hold_make ?_) | (with_reducible refine hold_copy ?_))
          go_ret
          rw [HR.out]
          exact ⟨rfl, hB2⟩
        · rw [hx] at HR
          clear hx
          go_wp2_with (first | (with_reducible refine hold_append ?_) | (with_reducible refine hold_make ?_) | (with_reducible refine hold_copy ?_))
          go_ret
          rw [HR.out]
          exact ⟨rfl, hB2⟩
      · have q1 : ((f : Int) != (f' : Int)) = true := by simp; omega
        have HR := Lib.hid (HREF.out.trans (by rw [if_pos (show f ≠ f' from hff)]))
        clear HREF hff
        by_cases hlt : f < f'
        · have q2 : (f : Int) < (f' : Int) := by omega
          rw [decide_eq_true hlt] at HR
          clear hlt
          go_wp2_with (first | (with_reducible refine hold_append ?_) | (with_reducible refine hold_make ?_) | (with_reducible refine hold_copy ?_))
          go_ret
          rw [HR.out]
          exact ⟨rfl, hB2⟩
        · have q2 : ¬ (f : Int) < (f' : Int) := by omega
          rw [decide_eq_false hlt] at HR
          clear hlt
          go_wp2_with (first | (with_reducible refine hold_append ?_) | (with_reducible refine hold_make ?_) | (with_reducible refine hold_copy ?_))
          go_ret
          rw [HR.out]
          exact ⟨rfl, hB2⟩
    · have q00 := str_ne hgg
      have q0 : ((str g).toList != (str g').toList) = true := by simp [bne, q00]
      have HG : Hid ((if g ≠ g' then lessB g g' else lessB h h') = lessB g g') := Lib.hid (if_pos hgg)
      clear hgg
      go_wp2_with (first | (with_reducible refine hold_append ?_) | (with_reducible refine hold_make ?_) | (with_reducible refine hold_copy ?_))
      refine (hl2 w1).mono ?_
      rintro e w2 ⟨rfl, hB3⟩
      have hb4 := hb2.below hB3
      have hb5 := hb3.below hB3
      have hB4 := hB2.trans (hB3.mono hz2)
      clear hl2 hB2 hB3 hb2 hb3 k0 k1 k2 j0 j1 j2
      have k0 := hb4.cell (j := 0) rfl
      have k1 := hb4.cell (j := 1) rfl
      have k2 := hb4.cell (j := 2) rfl
      have j0 := hb5.cell (j := 0) rfl
      have j1 := hb5.cell (j := 1) rfl
      have j2 := hb5.cell (j := 2) rfl
      by_cases hff : f = f'
      · have q1 : ((f : Int) != (f' : Int)) = false := by simp [hff]
        have HR := Lib.hid (HREF.out.trans (by rw [if_neg (show ¬ (f ≠ f') by simpa using hff), HG.out]))
        clear HREF hff
        cases hx : lessB g g'
        · rw [hx] at HR
          clear hx
          go_wp2_with (first | (with_reducible refine hold_append ?_) | (with_reducible refine hold_make ?_) | (with_reducible refine hold_copy ?_))
          go_ret
          rw [HR.out]
          exact ⟨rfl, hB4⟩
        · rw [hx] at HR
          clear hx
          go_wp2_with (first | (with_reducible refine hold_append ?_) | (with_reducible refine hold_make ?_) | (with_reducible refine hold_copy ?_))
          go_ret
          rw [HR.out]
          exact ⟨rfl, hB4⟩
      · have q1 : ((f : Int) != (f' : Int)) = true := by simp; omega
        have HR := Lib.hid (HREF.out.trans (by rw [if_pos (show f ≠ f' from hff)]))
        clear HREF hff
        by_cases hlt : f < f'
        · have q2 : (f : Int) < (f' : Int) := by omega
          rw [decide_eq_true hlt] at HR
          clear hlt
          go_wp2_with (first | (with_reducible refine hold_append ?_) | (with_reducible refine hold_make ?_) | (with_reducible refine hold_copy ?_))
          go_ret
          rw [HR.out]
          exact ⟨rfl, hB4⟩
        · have q2 : ¬ (f : Int) < (f' : Int) := by omega
          rw [decide_eq_false hlt] at HR
          clear hlt
          go_wp2_with (first | (with_reducible refine hold_append ?_) | (with_reducible refine hold_make ?_) | (with_reducible refine hold_copy ?_))
          go_ret
          rw [HR.out]
          exact ⟨rfl, hB4⟩
end Go.PH
end
section
/- The walk of OneGlobal. -/
set_option linter.all false
set_option linter.unusedSimpArgs false
set_option linter.unusedVariables false
namespace Go.PH
open Go.RowKit Go.Proofs

def oneG (a b : Xd) : Bool := decide (a.fmt = b.fmt) && decide (a.glob = b.glob)
set_option maxRecDepth 20000 in
set_option maxHeartbeats 1000000 in
theorem oneglobal_any (a b : Xd) (w : World) :
    Calls Try.prog 66 #[.agg (xdV a), .agg (xdV b)] w fun e w' => e = .returned (.bool (oneG a b)) ∧ Below w.heap.size w w' := by
  have heq := fun w => xid_eql ⟨a.fmt, a.glob, []⟩ ⟨b.fmt, b.glob, []⟩ w
  have HE : Hid (oneG a b = decide ((⟨a.fmt, a.glob, []⟩ : Xd) = ⟨b.fmt, b.glob, []⟩)) := Lib.hid (by unfold oneG; rw [Bool.eq_iff_iff]; simp)
  generalize oneG a b = r at *
  obtain ⟨f, g, h⟩ := a
  obtain ⟨f', g', h'⟩ := b
  unfold xdV at heq ⊢
  simp only at heq HE ⊢
  rw [← HE.out] at heq
  simp only [str_nil] at heq
  clear HE
  obtain ⟨w0, hw0⟩ : ∃ w0, w0 = ((w.alloc (.cells #[.int .u32 (f : Int), .string (str g), .string (str h)] 24)).alloc (.cells #[.int .u32 (f' : Int), .string (str g'), .string (str h')] 24)) := ⟨_, rfl⟩
  have hB0 : Below w.heap.size w w0 := by rw [hw0]; exact ((Below.refl _ _).alloc (Nat.le_refl _) _).alloc (by simp) _
  have hb0 : Box w0 w.heap.size 24 #[.int .u32 (f : Int), .string (str g), .string (str h)] := by rw [hw0]; exact (Box.new _ _ _).alloc _
  have hb1 : Box w0 (w.heap.size + 1) 24 #[.int .u32 (f' : Int), .string (str g'), .string (str h')] := by
    rw [hw0]
    have := Box.new (w.alloc (.cells #[.int .u32 (f : Int), .string (str g), .string (str h)] 24)) #[.int .u32 (f' : Int), .string (str g'), .string (str h')] 24
    rwa [show (w.alloc (.cells #[.int .u32 (f : Int), .string (str g), .string (str h)] 24)).heap.size = w.heap.size + 1 by simp] at this
  go_enter Try.func66, Try.ntmps66
  go_wp2_with (first | (with_reducible refine hold_append ?_) | (with_reducible refine hold_make ?_) | (with_reducible refine hold_copy ?_) | (with_reducible refine hold_store ?_))
  rw [← hw0]
  clear hw0
  refine unhold (wp_box (v := .string ⟨#[]⟩) (vs := [.string ⟨#[]⟩]) rfl rfl rfl rfl hb0 rfl (by kernel_rfl) (by simp) (by simp; rfl) #[.int .u32 (f : Int), .string (str g), .string ⟨#[]⟩] (by simp) ?_)
  intro w1 hb2 hg1 _
  have hb3 := hb1.grown hg1 (by intro e; injection e with e; omega)
  have hB1 := hB0.grown hg1 hB0.size (fun k hk => by injection hk with hk; omega)
  clear hb0 hb1 hB0
  go_wp2_with (first | (with_reducible refine hold_append ?_) | (with_reducible refine hold_make ?_) | (with_reducible refine hold_copy ?_) | (with_reducible refine hold_store ?_))
  refine unhold (wp_box (v := .string ⟨#[]⟩) (vs := [.string ⟨#[]⟩]) rfl rfl rfl rfl hb3 rfl (by kernel_rfl) (by simp) (by simp; rfl) #[.int .u32 (f' : Int), .string (str g'), .string ⟨#[]⟩] (by simp) ?_)
  intro w2 hb4 hg2 _
  have hb5 := hb2.grown hg2 (by intro e; injection e with e; omega)
  have hB2 := hB1.grown hg2 hB1.size (fun k hk => by injection hk with hk; omega)
  clear hb2 hb3 hB1
  have k0 := hb5.cell (j := 0) rfl
  have k1 := hb5.cell (j := 1) rfl
  have k2 := hb5.cell (j := 2) rfl
  have j0 := hb4.cell (j := 0) rfl
  have j1 := hb4.cell (j := 1) rfl
  have j2 := hb4.cell (j := 2) rfl
  go_wp2_with (first | (with_reducible refine hold_append ?_) | (with_reducible refine hold_make ?_) | (with_reducible refine hold_copy ?_))
  go_ret
  exact ⟨rfl, hB2⟩
end Go.PH
end
section
/- Names in order, each once, as plain mathematics. No program in sight. -/
set_option linter.all false
set_option linter.unusedSimpArgs false
set_option linter.unusedVariables false
namespace Go.PH

/-- a name put into its place -/
def xdIns (x : Xd) : List Xd → List Xd
  | [] => [x]
  | y :: l => if Xd.cmp y x < 0 then y :: xdIns x l else if y = x then y :: l else x :: y :: l
/-- names that may be, in order, each once -/
def xdSort (l : List Xd) : List Xd := l.foldl (fun out x => if x.ok then xdIns x out else out) []
def Rises (l : List Xd) : Prop := l.Pairwise (fun a b => Xd.cmp a b < 0)
theorem cmp_swap (a b : Xd) : Xd.cmp b a = -Xd.cmp a b := xd_ord.anti a b
theorem cmp_trans {a b c : Xd} (h : Xd.cmp a b < 0) (h' : Xd.cmp b c < 0) : Xd.cmp a c < 0 := (xd_ord.le a b c).2 h (by omega)
theorem cmp_self (a : Xd) : Xd.cmp a a = 0 := xd_ord.refl a
theorem cmp_ne {a b : Xd} (h : a ≠ b) (h' : ¬ Xd.cmp a b < 0) : Xd.cmp b a < 0 := by
  have h0 : Xd.cmp a b ≠ 0 := fun e => h ((xd_ord.zero a b).1 e)
  rw [cmp_swap]; omega
theorem xdIns_mem (x : Xd) : ∀ (l : List Xd) (z : Xd), z ∈ xdIns x l ↔ z = x ∨ z ∈ l
  | [], z => by simp [xdIns]
  | y :: l, z => by
    unfold xdIns
    split
    · rw [List.mem_cons, xdIns_mem x l z, List.mem_cons]
      constructor
      · rintro (h | h | h)
        · exact .inr (.inl h)
        · exact .inl h
        · exact .inr (.inr h)
      · rintro (h | h | h)
        · exact .inr (.inl h)
        · exact .inl h
        · exact .inr (.inr h)
    · split
      · rename_i h; subst h; simp
      · simp
theorem xdIns_rises (x : Xd) : ∀ (l : List Xd), Rises l → Rises (xdIns x l)
  | [], _ => by simp [xdIns, Rises]
  | y :: l, h => by
    have h' := List.pairwise_cons.1 h
    unfold xdIns
    split
    · rename_i hyx
      refine List.pairwise_cons.2 ⟨fun z hz => ?_, xdIns_rises x l h'.2⟩
      rcases (xdIns_mem x l z).1 hz with rfl | hz
      · exact hyx
      · exact h'.1 z hz
    · split
      · exact h
      · rename_i h1 h2
        have hxy := cmp_ne h2 h1
        refine List.pairwise_cons.2 ⟨fun z hz => ?_, h⟩
        rcases List.mem_cons.1 hz with rfl | hz
        · exact hxy
        · exact cmp_trans hxy (h'.1 z hz)
theorem sortFold (l : List Xd) : ∀ (out : List Xd), Rises out → Rises (l.foldl (fun out x => if x.ok then xdIns x out else out) out) ∧ ∀ z, z ∈ l.foldl (fun out x => if x.ok then xdIns x out else out) out ↔ z ∈ out ∨ (z ∈ l ∧ z.ok = true) := by
  induction l with
  | nil => intro out h; exact ⟨h, fun z => by simp⟩
  | cons x l ih =>
    intro out h
    rw [List.foldl_cons]
    cases hx : x.ok
    · rw [if_neg (by simp)]
      refine ⟨(ih out h).1, fun z => ?_⟩
      rw [(ih out h).2 z, List.mem_cons]
      constructor
      · rintro (h | ⟨h, h'⟩)
        · exact .inl h
        · exact .inr ⟨.inr h, h'⟩
      · rintro (h | ⟨rfl | h, h'⟩)
        · exact .inl h
        · rw [hx] at h'; cases h'
        · exact .inr ⟨h, h'⟩
    · rw [if_pos rfl]
      have h2 := xdIns_rises x out h
      refine ⟨(ih _ h2).1, fun z => ?_⟩
      rw [(ih _ h2).2 z, xdIns_mem, List.mem_cons]
      constructor
      · rintro ((rfl | h) | ⟨h, h'⟩)
        · exact .inr ⟨.inl rfl, hx⟩
        · exact .inl h
        · exact .inr ⟨.inr h, h'⟩
      · rintro (h | ⟨rfl | h, h'⟩)
        · exact .inl (.inr h)
        · exact .inl (.inl rfl)
        · exact .inr ⟨h, h'⟩
theorem xdSort_rises (l : List Xd) : Rises (xdSort l) := (sortFold l [] List.Pairwise.nil).1
theorem xdSort_mem (l : List Xd) (z : Xd) : z ∈ xdSort l ↔ z ∈ l ∧ z.ok = true := by
  have := (sortFold l [] List.Pairwise.nil).2 z
  simpa [xdSort] using this
theorem rises_ext : ∀ (a b : List Xd), Rises a → Rises b → (∀ z, z ∈ a ↔ z ∈ b) → a = b
  | [], [], _, _, _ => rfl
  | [], y :: b, _, _, h => absurd ((h y).2 (List.mem_cons_self ..)) (by simp)
  | x :: a, [], _, _, h => absurd ((h x).1 (List.mem_cons_self ..)) (by simp)
  | x :: a, y :: b, ha, hb, h => by
    have ha' := List.pairwise_cons.1 ha
    have hb' := List.pairwise_cons.1 hb
    have e : x = y := by
      rcases List.mem_cons.1 ((h x).1 (List.mem_cons_self ..)) with e | e
      · exact e
      · rcases List.mem_cons.1 ((h y).2 (List.mem_cons_self ..)) with e' | e'
        · exact e'.symm
        · have h1 := ha'.1 y e'
          have h2 := hb'.1 x e
          have := cmp_swap x y
          omega
    subst e
    rw [rises_ext a b ha'.2 hb'.2 fun z => ?_]
    constructor
    · intro hz
      have h1 := ha'.1 z hz
      rcases List.mem_cons.1 ((h z).1 (List.mem_cons_of_mem _ hz)) with e | e
      · subst e; rw [cmp_self] at h1; omega
      · exact e
    · intro hz
      have h1 := hb'.1 z hz
      rcases List.mem_cons.1 ((h z).2 (List.mem_cons_of_mem _ hz)) with e | e
      · subst e; rw [cmp_self] at h1; omega
      · exact e
/-- of so many names those that differ from the one ahead of them -/
def compTo (l : List Xd) : Nat → List Xd
  | 0 => []
  | k + 1 => if k = 0 ∨ l[k]? ≠ l[k - 1]? then compTo l k ++ (l[k]?).toList else compTo l k
theorem compTo_step {l : List Xd} {k : Nat} (hk : k + 1 < l.length) (h : l[k + 1] ≠ l[k]) : compTo l (k + 2) = compTo l (k + 1) ++ [l[k + 1]] := by
  rw [compTo, if_pos (.inr (by rw [List.getElem?_eq_getElem hk, Nat.add_sub_cancel, List.getElem?_eq_getElem (by omega)]; simpa using h)), List.getElem?_eq_getElem hk]
  rfl
theorem compTo_skip {l : List Xd} {k : Nat} (hk : k + 1 < l.length) (h : l[k + 1] = l[k]) : compTo l (k + 2) = compTo l (k + 1) := by
  rw [compTo, if_neg]
  rintro (h' | h')
  · omega
  · apply h'
    rw [List.getElem?_eq_getElem hk, Nat.add_sub_cancel, List.getElem?_eq_getElem (by omega), h]
theorem compTo_one {l : List Xd} (h : 0 < l.length) : compTo l 1 = [l[0]] := by
  rw [compTo, if_pos (.inl rfl), List.getElem?_eq_getElem h]
  rfl
theorem compTo_nil : compTo [] 0 = [] := rfl
theorem compTo_le (l : List Xd) : ∀ k, (compTo l k).length ≤ k
  | 0 => by simp [compTo]
  | k + 1 => by
    have := compTo_le l k
    unfold compTo
    split
    · have : (l[k]?).toList.length ≤ 1 := by cases l[k]? <;> simp
      rw [List.length_append]; omega
    · omega
/-- where all so far differ, they are all there -/
theorem compTo_all {l : List Xd} : ∀ k, k ≤ l.length → (∀ j, j + 1 < k → l[j + 1]? ≠ l[j]?) → compTo l k = l.take k
  | 0, _, _ => by simp [compTo]
  | k + 1, hk, h => by
    have ih := compTo_all k (by omega) (fun j hj => h j (by omega))
    rw [compTo, if_pos, ih, List.take_add_one]
    by_cases h0 : k = 0
    · exact .inl h0
    · right
      have := h (k - 1) (by omega)
      rwa [show k - 1 + 1 = k by omega] at this
theorem compTo_spec {l : List Xd} (hl : l.Pairwise (fun a b => Xd.cmp a b ≤ 0)) : ∀ k, k ≤ l.length → Rises (compTo l k) ∧ (∀ z, z ∈ compTo l k ↔ z ∈ l.take k) ∧ ∀ z, z ∈ compTo l k → ∀ j (hj : j < l.length), j + 1 = k → Xd.cmp z l[j] ≤ 0
  | 0, _ => ⟨List.Pairwise.nil, fun z => by simp [compTo], fun z hz => by simp [compTo] at hz⟩
  | k + 1, hk => by
    obtain ⟨h1, h2, h3⟩ := compTo_spec hl k (by omega)
    have hkl : k < l.length := by omega
    have hle : ∀ z, z ∈ l.take k → Xd.cmp z l[k] ≤ 0 := fun z hz => by
      obtain ⟨i, hi, rfl⟩ := List.mem_iff_getElem.1 hz
      rw [List.length_take] at hi
      rw [List.getElem_take]
      exact (List.pairwise_iff_getElem.1 hl) i k (by omega) hkl (by omega)
    by_cases hc : k = 0 ∨ l[k]? ≠ l[k - 1]?
    · rw [compTo, if_pos hc, List.getElem?_eq_getElem hkl, Option.toList_some]
      refine ⟨?_, fun z => ?_, fun z hz j hj hjk => ?_⟩
      · refine List.pairwise_append.2 ⟨h1, by simp, fun a ha b hb => ?_⟩
        obtain rfl := List.mem_singleton.1 hb
        by_cases h0 : k = 0
        · subst h0; simp [compTo] at ha
        · have hne : l[k]? ≠ l[k - 1]? := hc.resolve_left h0
          have hk1 : k - 1 < l.length := by omega
          rw [List.getElem?_eq_getElem hkl, List.getElem?_eq_getElem hk1] at hne
          have hne' : l[k] ≠ l[k - 1] := fun e => hne (by rw [e])
          have ha1 := h3 a ha (k - 1) hk1 (by omega)
          have h01 : Xd.cmp l[k - 1] l[k] ≤ 0 := (List.pairwise_iff_getElem.1 hl) (k - 1) k hk1 hkl (by omega)
          have h02 : Xd.cmp l[k - 1] l[k] < 0 := by
            have : Xd.cmp l[k - 1] l[k] ≠ 0 := fun e => hne' ((xd_ord.zero _ _).1 e).symm
            omega
          by_cases e : a = l[k - 1]
          · rw [e]; exact h02
          · have : Xd.cmp a l[k - 1] ≠ 0 := fun e' => e ((xd_ord.zero _ _).1 e')
            exact cmp_trans (by omega) h02
      · rw [List.mem_append, h2, List.take_add_one, List.mem_append, List.getElem?_eq_getElem hkl, Option.toList_some]
      · obtain rfl : j = k := by omega
        rcases List.mem_append.1 hz with hz | hz
        · exact hle z ((h2 z).1 hz)
        · obtain rfl := List.mem_singleton.1 hz
          rw [cmp_self]; omega
    · rw [compTo, if_neg hc]
      have hk0 : k ≠ 0 := fun e => hc (.inl e)
      have heq : l[k]? = l[k - 1]? := Decidable.byContradiction fun e => hc (.inr e)
      have hk1 : k - 1 < l.length := by omega
      rw [List.getElem?_eq_getElem hkl, List.getElem?_eq_getElem hk1] at heq
      injection heq with heq
      refine ⟨h1, fun z => ?_, fun z hz j hj hjk => ?_⟩
      · rw [h2, List.take_add_one, List.mem_append, List.getElem?_eq_getElem hkl, Option.toList_some, List.mem_singleton]
        constructor
        · exact .inl
        · rintro (h | rfl)
          · exact h
          · rw [heq]
            exact List.mem_iff_getElem.2 ⟨k - 1, by rw [List.length_take]; omega, by rw [List.getElem_take]⟩
      · obtain rfl : j = k := by omega
        exact hle z ((h2 z).1 hz)
/-- sorted and made compact: the names in order, each once -/
theorem comp_sort {l s : List Xd} (hp : s.Perm (l.filter Xd.ok)) (hs : s.Pairwise (fun a b => Xd.cmp a b ≤ 0)) : compTo s s.length = xdSort l := by
  obtain ⟨h1, h2, _⟩ := compTo_spec hs s.length (Nat.le_refl _)
  refine rises_ext _ _ h1 (xdSort_rises l) fun z => ?_
  rw [h2, List.take_length, hp.mem_iff, List.mem_filter, xdSort_mem]
theorem xdSort_len (l : List Xd) : (xdSort l).length ≤ l.length := by
  have h : ∀ (x : Xd) (l : List Xd), (xdIns x l).length ≤ l.length + 1 := fun x l => by
    induction l with
    | nil => simp [xdIns]
    | cons y l ih =>
      unfold xdIns
      split
      · simp; omega
      · split <;> simp
  have h2 : ∀ (l out : List Xd), (l.foldl (fun out x => if x.ok then xdIns x out else out) out).length ≤ out.length + l.length := fun l => by
    induction l with
    | nil => intro out; simp
    | cons x l ih =>
      intro out
      rw [List.foldl_cons]
      refine Nat.le_trans (ih _) ?_
      have := h x out
      split
      · simp; omega
      · simp
  have := h2 l []
  simpa [xdSort] using this
theorem xdSort_snoc (l : List Xd) (x : Xd) : xdSort (l ++ [x]) = if x.ok then xdIns x (xdSort l) else xdSort l := by
  unfold xdSort
  rw [List.foldl_append]
  rfl
/-- the place where a name belongs -/
theorem xdIns_at (x : Xd) : ∀ (l : List Xd) (i : Nat), i ≤ l.length → (∀ j (hj : j < l.length), j < i → Xd.cmp l[j] x < 0) → (∀ h : i < l.length, ¬ Xd.cmp l[i] x < 0) → xdIns x l = if l[i]? = some x then l else l.take i ++ [x] ++ l.drop i
  | [], i, hi, _, _ => by
    obtain rfl : i = 0 := by simpa using hi
    simp [xdIns]
  | y :: l, 0, _, _, h => by
    have h0 := h (by simp)
    simp only [List.getElem_cons_zero] at h0
    rw [xdIns, if_neg h0]
    by_cases e : y = x
    · simp [e]
    · simp [e]
  | y :: l, i + 1, hi, h1, h2 => by
    have h0 := h1 0 (by simp) (by omega)
    simp only [List.getElem_cons_zero] at h0
    rw [xdIns, if_pos h0, xdIns_at x l i (by simpa using hi) (fun j hj hji => h1 (j + 1) (by simpa using hj) (by omega)) (fun h => h2 (by simpa using h))]
    simp only [List.getElem?_cons_succ, List.take_succ_cons, List.drop_succ_cons]
    split <;> simp
theorem set_take {α : Type} (x : α) : ∀ (r : List α) (k : Nat), k < r.length → (r.set k x).take (k + 1) = r.take k ++ [x]
  | a :: r, 0, _ => by simp
  | a :: r, k + 1, h => by
    rw [List.set_cons_succ, List.take_succ_cons, set_take x r k (by simpa using h), List.take_succ_cons, List.cons_append]
theorem set_drop {α : Type} (x : α) : ∀ (r : List α) (k j : Nat), k < j → (r.set k x).drop j = r.drop j
  | [], k, j, _ => by simp
  | a :: r, 0, j + 1, _ => by simp
  | a :: r, k + 1, j + 1, h => by
    rw [List.set_cons_succ, List.drop_succ_cons, List.drop_succ_cons, set_drop x r k j (by omega)]
theorem drop_get {α : Type} {r l : List α} {a : Nat} (h : r.drop a = l.drop a) {i : Nat} (hi : a ≤ i) : r[i]? = l[i]? := by
  have e : i = a + (i - a) := by omega
  rw [e, ← List.getElem?_drop, ← List.getElem?_drop, h]
theorem drop_more {α : Type} {r l : List α} {a : Nat} (h : r.drop a = l.drop a) {i : Nat} (hi : a ≤ i) : r.drop i = l.drop i := by
  have e : i = a + (i - a) := by omega
  rw [e, ← List.drop_drop, ← List.drop_drop, h]
end Go.PH
end

/- The document's wires: the walk of Ways. -/
import Derived.Test.YtemngfljlaimdaaWrRef3
import Derived.Test.YtemngfljlaimdaaWrSort
import Derived.Deep.QuietTactic
import Derived.BigQuiet
set_option linter.all false
set_option linter.unusedSimpArgs false
set_option linter.unusedVariables false
namespace Go.PH
open Go.RowKit Go.Proofs

theorem putWay_at : ∀ (l : List (Int × Int)) (x : Int × Int) (p : Nat), p ≤ l.length → (∀ q (h : q < l.length), q < p → ltW l[q] x = true) → (∀ h : p < l.length, ¬ ltW l[p] x = true) → putWay l x = if l[p]? = some x then l else l.take p ++ [x] ++ l.drop p
  | [], x, p, hp, _, _ => by
    obtain rfl : p = 0 := by simpa using hp
    rfl
  | a :: l, x, 0, _, _, h2 => by
    have := h2 (by simp)
    simp only [List.getElem_cons_zero] at this
    rw [putWay, if_neg this]
    simp
  | a :: l, x, p + 1, hp, h1, h2 => by
    have h0 := h1 0 (by simp) (by omega)
    simp only [List.getElem_cons_zero] at h0
    rw [putWay, if_pos h0, putWay_at l x p (by simpa using hp) (fun q h hq => by
      have := h1 (q + 1) (by simpa using h) (by omega)
      simpa using this) (fun h => by
      have := h2 (by simpa using h)
      simpa using this)]
    simp only [List.getElem?_cons_succ, List.take_succ_cons, List.drop_succ_cons]
    split <;> simp
theorem waysW_take (R : List Wl) (k : Nat) (hk : k < R.length) : waysW (R.take (k + 1)) = putWay (waysW (R.take k)) (R[k].fr, R[k].to) := by
  rw [List.take_succ_eq_append_getElem hk]
  unfold waysW
  rw [List.foldl_append]
  rfl
theorem putWay_len : ∀ (l : List (Int × Int)) (x : Int × Int), (putWay l x).length ≤ l.length + 1
  | [], _ => by simp [putWay]
  | a :: l, x => by
    rw [putWay]
    split
    · have := putWay_len l x
      simp; omega
    · split <;> simp
def WaysQ (w : World) (R : List Wl) (e : Ending) (w' : World) : Prop :=
  ∃ A c, e = .returned (.slice A (waysW R).length c) ∧ Own w' w.heap.size 45 2 A (waysW R).length c (rowC wayC (waysW R)) ∧ Below w.heap.size w w'
set_option maxRecDepth 20000 in
set_option maxHeartbeats 4000000 in
theorem rways_any (F : Nat → Prop) (qb : Nat) (R : List Wl) (w : World) (h : Rw w F qb R) (hR : R.length ≤ 1000000) :
    Calls Try.prog 16 #[.pointer (some ⟨qb, 0, none⟩)] w (WaysQ w R) := by
  obtain ⟨A, c, hx, ho, hqF, hAF⟩ := h.ex
  have HL := Lib.hid h.lt
  clear h
  obtain ⟨n, hn⟩ : ∃ n, n = R.length := ⟨_, rfl⟩
  rw [← hn] at hx ho hR
  have HN := Lib.hid hn
  clear hn
  have c0 := hx.cell (j := 0) rfl
  have hrd := ho.rd
  clear ho
  go_enter Try.func16, Try.ntmps16
  go_wp2_with (first | (with_reducible refine hold_append ?_) | (with_reducible refine hold_make ?_) | (with_reducible refine hold_copy ?_))
  try go_frame
  clear c0
  go_loopw [3, 4] (fun s x wr => ∃ (k : Nat) (A' : Option Addr) (c' : Nat) (l : List (Int × Int)), k ≤ n ∧ l.length ≤ k ∧ s = .slice A' l.length c' ∧ x = .int .i64 k ∧ Hid (waysW (R.take k) = l) ∧ Own wr w.heap.size 45 2 A' l.length c' (rowC wayC l) ∧ Below w.heap.size w wr) (fun _ x _ => n - (Go.RowKit.intOf x).toNat)
  case atStart => exact ⟨0, none, 0, [], by omega, by simp, rfl, rfl, Lib.hid rfl, Own.none_ _ _ _ _, Below.refl _ _⟩
  case round =>
    obtain ⟨k, A', c', l, hk, hlk, rfl, rfl, HC, ho, hB⟩ := hrel
    have c0 := (hx.below hB).cell (j := 0) rfl
    obtain ⟨m, hm⟩ : ∃ m, m = l.length := ⟨_, rfl⟩
    rw [← hm] at hlk ho ⊢
    have HM := Lib.hid hm
    clear hm
    by_cases hlt : k < n
    · have d1 : (k : Int) < (n : Int) := by omega
      have hkl : k < R.length := by rw [← HN.out]; exact hlt
      obtain ⟨bb, off, rfl, hbb, _, hc⟩ := rec_at lwShape hrd (k := k) hlt
      have k0 := hc 0 (.int .i64 R[k].fr) rfl
      have k1 := hc 1 (.int .i64 R[k].to) rfl
      simp only [Nat.add_zero] at k0
      have hct := waysW_take R k hkl
      rw [HC.out] at hct
      have HCT := Lib.hid hct
      clear hc HC hct
      generalize R[k].fr = xa at *
      generalize R[k].to = xb at *
      go_upto_region 5 with fail
      refine rg_start (fun W : World => Below w.heap.size w W) (by kernel_rfl) ?_
      have hS : Below w.heap.size w wr.drew := below_drewN hB 1
      have ho : Own wr.drew w.heap.size 45 2 A' m c' (rowC wayC l) := ho
      generalize wr.drew = w1 at *
      clear c0
      refine rg_take 0 (v := ?_) rfl (by kernel_rfl) (by kernel_rfl) (by kernel_rfl) hS rfl ?_ ?_
      rotate_left
      · intro wS hSw; go_simp; (with_reducible rfl)
      simp only [List.getElem_toArray, List.getElem_cons_zero, Act.put, List.setIfInBounds_toArray, List.set_cons_zero, List.set_cons_succ]
      refine rg_take 1 (v := ?_) rfl (by kernel_rfl) (by kernel_rfl) (by kernel_rfl) hS rfl ?_ ?_
      rotate_left
      · intro wS hSw; have c0 := (hx.below hSw).cell (j := 0) rfl; go_simp; (with_reducible rfl)
      simp only [List.getElem_toArray, List.getElem_cons_succ, List.getElem_cons_zero, Act.put, List.setIfInBounds_toArray, List.set_cons_zero, List.set_cons_succ]
      refine rg_take 2 (v := ?_) rfl (by kernel_rfl) (by kernel_rfl) (by kernel_rfl) hS rfl ?_ ?_
      rotate_left
      · intro wS hSw; go_simp; (with_reducible rfl)
      simp only [List.getElem_toArray, List.getElem_cons_succ, List.getElem_cons_zero, Act.put, List.setIfInBounds_toArray, List.set_cons_zero, List.set_cons_succ]
      refine rg_take 3 (v := ?_) rfl (by kernel_rfl) (by kernel_rfl) (by kernel_rfl) hS rfl ?_ ?_
      rotate_left
      · intro wS hSw; have c0 := (hx.below hSw).cell (j := 0) rfl; go_simp; (with_reducible rfl)
      simp only [List.getElem_toArray, List.getElem_cons_succ, List.getElem_cons_zero, Act.put, List.setIfInBounds_toArray, List.set_cons_zero, List.set_cons_succ]
      refine rg_take 4 (v := ?_) rfl (by kernel_rfl) (by kernel_rfl) (by kernel_rfl) hS rfl ?_ ?_
      rotate_left
      · intro wS hSw; go_simp; (with_reducible rfl)
      simp only [List.getElem_toArray, List.getElem_cons_succ, List.getElem_cons_zero, Act.put, List.setIfInBounds_toArray, List.set_cons_zero, List.set_cons_succ]
      refine rg_take 5 (v := ?_) rfl (by kernel_rfl) (by kernel_rfl) (by kernel_rfl) hS rfl ?_ ?_
      rotate_left
      · intro wS hSw; go_simp; (with_reducible rfl)
      simp only [List.getElem_toArray, List.getElem_cons_succ, List.getElem_cons_zero, Act.put, List.setIfInBounds_toArray, List.set_cons_zero, List.set_cons_succ]
      refine rg_take 6 (v := ?_) rfl (by kernel_rfl) (by kernel_rfl) (by kernel_rfl) hS rfl ?_ ?_
      rotate_left
      · intro wS hSw; go_simp; (with_reducible rfl)
      simp only [List.getElem_toArray, List.getElem_cons_succ, List.getElem_cons_zero, Act.put, List.setIfInBounds_toArray, List.set_cons_zero, List.set_cons_succ]
      refine rg_take 7 (v := ?_) rfl (by kernel_rfl) (by kernel_rfl) (by kernel_rfl) hS rfl ?_ ?_
      rotate_left
      · intro wS hSw; have c0 := (hSw.cell hbb).trans k0; go_simp; (with_reducible rfl)
      simp only [List.getElem_toArray, List.getElem_cons_succ, List.getElem_cons_zero, Act.put, List.setIfInBounds_toArray, List.set_cons_zero, List.set_cons_succ]
      refine rg_take 8 (v := ?_) rfl (by kernel_rfl) (by kernel_rfl) (by kernel_rfl) hS rfl ?_ ?_
      rotate_left
      · intro wS hSw; go_simp; (with_reducible rfl)
      simp only [List.getElem_toArray, List.getElem_cons_succ, List.getElem_cons_zero, Act.put, List.setIfInBounds_toArray, List.set_cons_zero, List.set_cons_succ]
      refine rg_take 9 (v := ?_) rfl (by kernel_rfl) (by kernel_rfl) (by kernel_rfl) hS rfl ?_ ?_
      rotate_left
      · intro wS hSw; have c0 := (hx.below hSw).cell (j := 0) rfl; go_simp; (with_reducible rfl)
      simp only [List.getElem_toArray, List.getElem_cons_succ, List.getElem_cons_zero, Act.put, List.setIfInBounds_toArray, List.set_cons_zero, List.set_cons_succ]
      refine rg_take 10 (v := ?_) rfl (by kernel_rfl) (by kernel_rfl) (by kernel_rfl) hS rfl ?_ ?_
      rotate_left
      · intro wS hSw; go_simp; (with_reducible rfl)
      simp only [List.getElem_toArray, List.getElem_cons_succ, List.getElem_cons_zero, Act.put, List.setIfInBounds_toArray, List.set_cons_zero, List.set_cons_succ]
      refine rg_take 11 (v := ?_) rfl (by kernel_rfl) (by kernel_rfl) (by kernel_rfl) hS rfl ?_ ?_
      rotate_left
      · intro wS hSw; have c0 := (hx.below hSw).cell (j := 0) rfl; go_simp; (with_reducible rfl)
      simp only [List.getElem_toArray, List.getElem_cons_succ, List.getElem_cons_zero, Act.put, List.setIfInBounds_toArray, List.set_cons_zero, List.set_cons_succ]
      refine rg_take 12 (v := ?_) rfl (by kernel_rfl) (by kernel_rfl) (by kernel_rfl) hS rfl ?_ ?_
      rotate_left
      · intro wS hSw; go_simp; (with_reducible rfl)
      simp only [List.getElem_toArray, List.getElem_cons_succ, List.getElem_cons_zero, Act.put, List.setIfInBounds_toArray, List.set_cons_zero, List.set_cons_succ]
      refine rg_take 13 (v := ?_) rfl (by kernel_rfl) (by kernel_rfl) (by kernel_rfl) hS rfl ?_ ?_
      rotate_left
      · intro wS hSw; go_simp; (with_reducible rfl)
      simp only [List.getElem_toArray, List.getElem_cons_succ, List.getElem_cons_zero, Act.put, List.setIfInBounds_toArray, List.set_cons_zero, List.set_cons_succ]
      refine rg_take 14 (v := ?_) rfl (by kernel_rfl) (by kernel_rfl) (by kernel_rfl) hS rfl ?_ ?_
      rotate_left
      · intro wS hSw; go_simp; (with_reducible rfl)
      simp only [List.getElem_toArray, List.getElem_cons_succ, List.getElem_cons_zero, Act.put, List.setIfInBounds_toArray, List.set_cons_zero, List.set_cons_succ]
      refine rg_take 15 (v := ?_) rfl (by kernel_rfl) (by kernel_rfl) (by kernel_rfl) hS rfl ?_ ?_
      rotate_left
      · intro wS hSw; have c0 := (hSw.cell hbb).trans k1; go_simp; (with_reducible rfl)
      simp only [List.getElem_toArray, List.getElem_cons_succ, List.getElem_cons_zero, Act.put, List.setIfInBounds_toArray, List.set_cons_zero, List.set_cons_succ]
      refine rg_take 16 (v := ?_) rfl (by kernel_rfl) (by kernel_rfl) (by kernel_rfl) hS rfl ?_ ?_
      rotate_left
      · intro wS hSw; go_simp; (with_reducible rfl)
      simp only [List.getElem_toArray, List.getElem_cons_succ, List.getElem_cons_zero, Act.put, List.setIfInBounds_toArray, List.set_cons_zero, List.set_cons_succ]
      refine rg_one 17 rfl (by kernel_rfl) rfl (fun K hK => ?_)
      obtain ⟨xbk, w2, hqb, hqv, hbx, hB2⟩ := alloc_stepW w1 #[.int .i64 0, .int .i64 0] 45
      have hxk : w.heap.size ≤ xbk := by have := hS.size; omega
      have hAl : ∀ g, blk A' = some g → w.heap.size ≤ g ∧ g ≠ xbk := fun g hg => ⟨(ho.blk_lt hg).1, by have := (ho.blk_lt hg).2; omega⟩
      have hS2 : Below w.heap.size w w2 := hS.trans (hB2.mono hS.size)
      have ho2 := own_below ho hB2
      clear ho hS
      go_simp
      rw [← hqb, ← hqv]
      clear hqb hqv hB2
      refine hK _ _ hS2 ?_; clear hK K
      try simp only [List.getElem_toArray, List.getElem_cons_succ, List.getElem_cons_zero, Act.put, List.setIfInBounds_toArray, List.set_cons_zero, List.set_cons_succ]
      refine rg_one 18 rfl (by kernel_rfl) rfl (fun K hK => ?_)
      refine op_box (v := .agg #[.int .i64 xa, .int .i64 xb]) (vs := [.int .i64 xa, .int .i64 xb]) rfl rfl rfl hbx rfl (by kernel_rfl) (by simp) (by simp [Value.oneCell']) #[.int .i64 xa, .int .i64 xb] (by simp) ?_
      intro w3 hb3 hg3 _
      have hS3 : Below w.heap.size w w3 := hS2.grown hg3 hS2.size (fun g hg => by injection hg with hg; omega)
      have ho3 := own_stays ho2 hg3 (fun g hg e => (hAl g hg).2 (by injection e with e; exact e.symm))
      refine hK _ _ hS3 ?_; clear hK K
      try simp only [List.getElem_toArray, List.getElem_cons_succ, List.getElem_cons_zero, Act.put, List.setIfInBounds_toArray, List.set_cons_zero, List.set_cons_succ]
      clear ho2 hS2 hg3 hbx
      refine rg_end (by kernel_rfl) ?_
      go_wp2_with (first | (with_reducible refine hold_append ?_) | (with_reducible refine hold_make ?_) | (with_reducible refine hold_copy ?_))
      try go_frame
      go_loopw [6] (fun s wq => ∃ p : Nat, p ≤ m ∧ s = .int .i64 p ∧ Hid (∀ q (h : q < l.length), q < p → ltW l[q] (xa, xb) = true) ∧ Box wq xbk 45 #[.int .i64 xa, .int .i64 xb] ∧ Below w.heap.size w wq ∧ Own wq w.heap.size 45 2 A' m c' (rowC wayC l)) (fun s _ => m - (Go.RowKit.intOf s).toNat)
      case atStart => exact ⟨0, by omega, rfl, Lib.hid (fun q _ h => by omega), hb3, hS3, ho3⟩
      case round =>
        clear hb3 hS3 ho3
        obtain ⟨p, hp, rfl, HLT, hb3, hS3, ho3⟩ := hrel
        have x0 := hb3.cell (j := 0) rfl
        have x1 := hb3.cell (j := 1) rfl
        by_cases hpm : p < m
        · have d2 : (p : Int) < (m : Int) := by omega
          have hpl : p < l.length := by rw [← HM.out]; exact hpm
          obtain ⟨b2, o2, rfl, hb2l, _, hcl⟩ := rec_at wayShape ho3.rd (k := p) hpm
          have y0 := hcl 0 (.int .i64 l[p].1) rfl
          have y1 := hcl 1 (.int .i64 l[p].2) rfl
          simp only [Nat.add_zero] at y0
          have HG : Hid (l[p]? = some l[p]) := Lib.hid (List.getElem?_eq_getElem hpl)
          clear hcl
          obtain ⟨z, hz⟩ : ∃ z, z = l[p] := ⟨_, rfl⟩
          rw [← hz] at y0 y1 HG
          have HZ := Lib.hid hz
          clear hz
          obtain ⟨za, zb⟩ := z
          simp only at y0 y1
          by_cases e1 : za < xa
          · have HT2 : Hid (∀ q (h : q < l.length), q < p + 1 → ltW l[q] (xa, xb) = true) := Lib.hid (fun q h hq => by
              by_cases hqp : q < p
              · exact HLT.out q h hqp
              · obtain rfl : q = p := by omega
                rw [← HZ.out, ltW_iff]; exact .inl e1)
            go_wp2_with (first | (with_reducible refine hold_append ?_) | (with_reducible refine hold_make ?_) | (with_reducible refine hold_copy ?_))
            go_quiet (fail)
            go_wp2_with (first | (with_reducible refine hold_append ?_) | (with_reducible refine hold_make ?_) | (with_reducible refine hold_copy ?_))
            exact ⟨⟨p + 1, by omega, by first | rfl | go_num, HT2, hb3, below_drewN hS3 _, ho3.drewN _⟩, by simp [Go.RowKit.intOf]; omega⟩
          · have d3 : decide (za < xa) = false := by simp; omega
            by_cases e2 : za = xa
            · have d4 : (za == xa) = true := by simp [e2]
              by_cases e3 : zb < xb
              · have HT2 : Hid (∀ q (h : q < l.length), q < p + 1 → ltW l[q] (xa, xb) = true) := Lib.hid (fun q h hq => by
                  by_cases hqp : q < p
                  · exact HLT.out q h hqp
                  · obtain rfl : q = p := by omega
                    rw [← HZ.out, ltW_iff]; exact .inr ⟨e2, e3⟩)
                clear e1 e2
                go_wp2_with (first | (with_reducible refine hold_append ?_) | (with_reducible refine hold_make ?_) | (with_reducible refine hold_copy ?_))
                go_quiet (fail)
                go_wp2_with (first | (with_reducible refine hold_append ?_) | (with_reducible refine hold_make ?_) | (with_reducible refine hold_copy ?_))
                exact ⟨⟨p + 1, by omega, by first | rfl | go_num, HT2, hb3, below_drewN hS3 _, ho3.drewN _⟩, by simp [Go.RowKit.intOf]; omega⟩
              · have d5 : decide (zb < xb) = false := by simp; omega
                have hnl : ∀ h : p < l.length, ¬ ltW l[p] (xa, xb) = true := fun h => by rw [← HZ.out, ltW_iff]; simp only; omega
                by_cases e4 : zb = xb
                · have HP : Hid (putWay l (xa, xb) = l) := Lib.hid (by rw [putWay_at l _ p (Nat.le_of_lt hpl) HLT.out hnl, HG.out, if_pos (by rw [e2, e4])])
                  have he : ∀ W, (binOp .eql 45 (.agg #[.int .i64 za, .int .i64 zb]) (.agg #[.int .i64 xa, .int .i64 xb])).run Try.prog W = .ok (.bool true) W := fun W => by rw [eql_pair]; simp [e2, e4]
                  clear hnl e1 e2 e3 e4
                  go_wp2_with (first | (with_reducible refine hold_append ?_) | (with_reducible refine hold_make ?_) | (with_reducible refine hold_copy ?_))
                  go_quiet (fail)
                  have hSa := below_drewN hS3 nq
                  have hoa := ho3.drewN nq
                  have hba : Box (wr.drewN nq) xbk 45 #[.int .i64 xa, .int .i64 xb] := hb3
                  have x0a : (wr.drewN nq).cell? _ = _ := x0
                  have x1a : (wr.drewN nq).cell? _ = _ := x1
                  clear hS3 ho3 hb3 x0 x1
                  have y0a : (wr.drewN nq).cell? _ = _ := y0
                  have y1a : (wr.drewN nq).cell? _ = _ := y1
                  clear y0 y1
                  generalize wr.drewN nq = wa at *
                  go_wp2_with (first | (with_reducible refine hold_append ?_) | (with_reducible refine hold_make ?_) | (with_reducible refine hold_copy ?_))
                  go_quiet (fail)
                  have hS3 := below_drewN hSa nq
                  have ho3 := hoa.drewN nq
                  have hb3 : Box (wa.drewN nq) xbk 45 #[.int .i64 xa, .int .i64 xb] := hba
                  clear hSa hoa hba x0a x1a
                  try clear y0a y1a
                  generalize wa.drewN nq = wb at *
                  go_wp2_with (first | (with_reducible refine hold_append ?_) | (with_reducible refine hold_make ?_) | (with_reducible refine hold_copy ?_))
                  exact ⟨⟨k + 1, _, c', l, by omega, by rw [← HM.out]; omega, by rw [← HM.out], by first | rfl | go_num, Lib.hid (HCT.out.trans HP.out), by rw [← HM.out]; exact ho3, hS3⟩, by simp [Go.RowKit.intOf]; omega⟩
                · have HP : Hid (putWay l (xa, xb) = l.take p ++ [(xa, xb)] ++ l.drop p) := Lib.hid (by rw [putWay_at l _ p (Nat.le_of_lt hpl) HLT.out hnl, HG.out, if_neg (fun e => by injection e with e; injection e with e5 e6; exact e4 e6)])
                  have he : ∀ W, (binOp .eql 45 (.agg #[.int .i64 za, .int .i64 zb]) (.agg #[.int .i64 xa, .int .i64 xb])).run Try.prog W = .ok (.bool false) W := fun W => by rw [eql_pair]; simp [e4]
                  clear hnl e1 e2 e3 e4
                  go_wp2_with (first | (with_reducible refine hold_append ?_) | (with_reducible refine hold_make ?_) | (with_reducible refine hold_copy ?_))
                  go_quiet (fail)
                  have hSa := below_drewN hS3 nq
                  have hoa := ho3.drewN nq
                  have hba : Box (wr.drewN nq) xbk 45 #[.int .i64 xa, .int .i64 xb] := hb3
                  have x0a : (wr.drewN nq).cell? _ = _ := x0
                  have x1a : (wr.drewN nq).cell? _ = _ := x1
                  clear hS3 ho3 hb3 x0 x1
                  have y0a : (wr.drewN nq).cell? _ = _ := y0
                  have y1a : (wr.drewN nq).cell? _ = _ := y1
                  clear y0 y1
                  generalize wr.drewN nq = wa at *
                  go_wp2_with (first | (with_reducible refine hold_append ?_) | (with_reducible refine hold_make ?_) | (with_reducible refine hold_copy ?_))
                  go_quiet (fail)
                  have hS3 := below_drewN hSa nq
                  have ho3 := hoa.drewN nq
                  have hb3 : Box (wa.drewN nq) xbk 45 #[.int .i64 xa, .int .i64 xb] := hba
                  clear hSa hoa hba x0a x1a
                  try clear y0a y1a
                  generalize wa.drewN nq = wb at *
                  go_wp2_with (first | (with_reducible refine hold_append ?_) | (with_reducible refine hold_make ?_) | (with_reducible refine hold_copy ?_) | (with_reducible refine hold_slice ?_))
                  refine unhold (wp_cut slPair rfl rfl rfl ho3.rd 0 p c' (.inl ⟨rfl, rfl⟩) (.inr ⟨_, _, rfl, rfl⟩) (.inl ⟨rfl, rfl⟩) (by intro h; cases h) (by omega) (by have := ho3.rd.cap; omega) (Nat.le_refl _) (by omega) ?_)
                  intro A5 hr5
                  rw [rowC_take wayShape, Nat.zero_mul, List.drop_zero] at hr5
                  simp only [Nat.sub_zero] at hr5 ⊢
                  go_wp2_with (first | (with_reducible refine hold_append ?_) | (with_reducible refine hold_make ?_) | (with_reducible refine hold_copy ?_))
                  refine unhold (wp_app slPair rfl rfl rfl rfl (Own.none_ _ w.heap.size _ _) hr5 (rowC_one wayShape _) (by omega) (by simp [maxLen]; omega) hS3.size ?_)
                  intro A6 c6 w6 ho6 hg6 hA6
                  simp only [Nat.zero_add, List.nil_append] at ho6 ⊢
                  have hB6 : Below w.heap.size w w6 := hS3.grown hg6 hS3.size (fun g hg => by cases hg)
                  have hb6 : Box w6 xbk 45 #[.int .i64 xa, .int .i64 xb] := Box.grown hb3 hg6 (by simp)
                  have ho36 : Own w6 w.heap.size 45 2 _ m c' (rowC wayC l) := own_stays ho3 hg6 (fun g hg e => by cases e)
                  have hlt3 := fun g hg => (ho3.blk_lt (g := g) hg).2
                  have hne6 : ∀ g, blk A6 = some g → wb.heap.size ≤ g := fun g hg => by
                    rcases hA6 with q | q
                    · rw [q] at hg; cases hg
                    · rw [q] at hg; injection hg with hg; exact Nat.le_of_eq hg
                  clear hr5 hg6 hA6 ho3 hb3 hS3
                  have x0 := hb6.cell (j := 0) rfl
                  have x1 := hb6.cell (j := 1) rfl
                  go_wp2_with (first | (with_reducible refine hold_append ?_) | (with_reducible refine hold_make ?_) | (with_reducible refine hold_copy ?_))
                  refine unhold (wp_rec wayShape slPair Try.underlying43 rfl rfl rfl rfl rfl ((xa, xb) : Int × Int) rfl ho6 (by omega) (by omega) hB6.size ?_)
                  intro A7 c7 w7 ho7 hg7 hA7 hB7
                  have hB67 := hB6.trans hB7
                  have ho37 := own_stays ho36 hg7 (fun g hg e => by have q1 := hlt3 g hg; have q2 := hne6 g e; omega)
                  clear ho6 ho36 hg7 hA7 hB7 hb6 x0 x1 hB6
                  go_wp2_with (first | (with_reducible refine hold_append ?_) | (with_reducible refine hold_make ?_) | (with_reducible refine hold_copy ?_) | (with_reducible refine hold_slice ?_))
                  refine unhold (wp_cut slPair rfl rfl rfl ho37.rd p m c' (.inr ⟨_, _, rfl, rfl⟩) (.inl ⟨rfl, rfl⟩) (.inl ⟨rfl, rfl⟩) (by intro h; cases h) (by omega) (by have := ho37.rd.cap; omega) (Nat.le_refl _) (by omega) ?_)
                  intro A8 hr8
                  rw [List.take_of_length_le (by rw [rowC_len wayShape, ← HM.out]; exact Nat.le_refl _), rowC_drop wayShape] at hr8
                  go_wp2_with (first | (with_reducible refine hold_append ?_) | (with_reducible refine hold_make ?_) | (with_reducible refine hold_copy ?_))
                  refine unhold (wp_app slPair rfl rfl rfl rfl ho7 hr8 (rowC_one wayShape _) (by omega) (by simp [maxLen]; omega) hB67.size ?_)
                  intro A9 c9 w9 ho9 hg9 _
                  have hB9 : Below w.heap.size w w9 := hB67.grown hg9 hB67.size (fun g hg => (ho7.blk_lt hg).1)
                  rw [← rowC_app] at ho9
                  have HLN : Hid (p + 1 + (m - p) = (l.take p ++ [(xa, xb)] ++ l.drop p).length) := Lib.hid (by
                    have := HM.out
                    simp only [List.length_append, List.length_take, List.length_drop, List.length_singleton]
                    omega)
                  have HPP : Hid (waysW (R.take (k + 1)) = l.take p ++ [(xa, xb)] ++ l.drop p) := Lib.hid (HCT.out.trans HP.out)
                  clear ho7 hg9 hr8 ho37 hB67
                  go_wp2_with (first | (with_reducible refine hold_append ?_) | (with_reducible refine hold_make ?_) | (with_reducible refine hold_copy ?_))
                  exact ⟨⟨k + 1, A9, c9, l.take p ++ [(xa, xb)] ++ l.drop p, by omega, by rw [← HLN.out]; omega, by rw [← HLN.out], by first | rfl | go_num, HPP, by rw [← HLN.out]; exact ho9, hB9⟩, by simp [Go.RowKit.intOf]; omega⟩
            · have d4 : (za == xa) = false := by simp [e2]
              have hnl : ∀ h : p < l.length, ¬ ltW l[p] (xa, xb) = true := fun h => by rw [← HZ.out, ltW_iff]; simp only; omega
              have HP : Hid (putWay l (xa, xb) = l.take p ++ [(xa, xb)] ++ l.drop p) := Lib.hid (by rw [putWay_at l _ p (Nat.le_of_lt hpl) HLT.out hnl, HG.out, if_neg (fun e => by injection e with e; injection e with e5 e6; exact e2 e5)])
              have he : ∀ W, (binOp .eql 45 (.agg #[.int .i64 za, .int .i64 zb]) (.agg #[.int .i64 xa, .int .i64 xb])).run Try.prog W = .ok (.bool false) W := fun W => by rw [eql_pair]; simp [e2]
              clear hnl e1 e2
              go_wp2_with (first | (with_reducible refine hold_append ?_) | (with_reducible refine hold_make ?_) | (with_reducible refine hold_copy ?_))
              go_quiet (fail)
              have hSa := below_drewN hS3 nq
              have hoa := ho3.drewN nq
              have hba : Box (wr.drewN nq) xbk 45 #[.int .i64 xa, .int .i64 xb] := hb3
              have x0a : (wr.drewN nq).cell? _ = _ := x0
              have x1a : (wr.drewN nq).cell? _ = _ := x1
              clear hS3 ho3 hb3 x0 x1
              have y0a : (wr.drewN nq).cell? _ = _ := y0
              have y1a : (wr.drewN nq).cell? _ = _ := y1
              clear y0 y1
              generalize wr.drewN nq = wa at *
              go_wp2_with (first | (with_reducible refine hold_append ?_) | (with_reducible refine hold_make ?_) | (with_reducible refine hold_copy ?_))
              go_quiet (fail)
              have hS3 := below_drewN hSa nq
              have ho3 := hoa.drewN nq
              have hb3 : Box (wa.drewN nq) xbk 45 #[.int .i64 xa, .int .i64 xb] := hba
              clear hSa hoa hba x0a x1a
              try clear y0a y1a
              generalize wa.drewN nq = wb at *
              go_wp2_with (first | (with_reducible refine hold_append ?_) | (with_reducible refine hold_make ?_) | (with_reducible refine hold_copy ?_) | (with_reducible refine hold_slice ?_))
              refine unhold (wp_cut slPair rfl rfl rfl ho3.rd 0 p c' (.inl ⟨rfl, rfl⟩) (.inr ⟨_, _, rfl, rfl⟩) (.inl ⟨rfl, rfl⟩) (by intro h; cases h) (by omega) (by have := ho3.rd.cap; omega) (Nat.le_refl _) (by omega) ?_)
              intro A5 hr5
              rw [rowC_take wayShape, Nat.zero_mul, List.drop_zero] at hr5
              simp only [Nat.sub_zero] at hr5 ⊢
              go_wp2_with (first | (with_reducible refine hold_append ?_) | (with_reducible refine hold_make ?_) | (with_reducible refine hold_copy ?_))
              refine unhold (wp_app slPair rfl rfl rfl rfl (Own.none_ _ w.heap.size _ _) hr5 (rowC_one wayShape _) (by omega) (by simp [maxLen]; omega) hS3.size ?_)
              intro A6 c6 w6 ho6 hg6 hA6
              simp only [Nat.zero_add, List.nil_append] at ho6 ⊢
              have hB6 : Below w.heap.size w w6 := hS3.grown hg6 hS3.size (fun g hg => by cases hg)
              have hb6 : Box w6 xbk 45 #[.int .i64 xa, .int .i64 xb] := Box.grown hb3 hg6 (by simp)
              have ho36 : Own w6 w.heap.size 45 2 _ m c' (rowC wayC l) := own_stays ho3 hg6 (fun g hg e => by cases e)
              have hlt3 := fun g hg => (ho3.blk_lt (g := g) hg).2
              have hne6 : ∀ g, blk A6 = some g → wb.heap.size ≤ g := fun g hg => by
                rcases hA6 with q | q
                · rw [q] at hg; cases hg
                · rw [q] at hg; injection hg with hg; exact Nat.le_of_eq hg
              clear hr5 hg6 hA6 ho3 hb3 hS3
              have x0 := hb6.cell (j := 0) rfl
              have x1 := hb6.cell (j := 1) rfl
              go_wp2_with (first | (with_reducible refine hold_append ?_) | (with_reducible refine hold_make ?_) | (with_reducible refine hold_copy ?_))
              refine unhold (wp_rec wayShape slPair Try.underlying43 rfl rfl rfl rfl rfl ((xa, xb) : Int × Int) rfl ho6 (by omega) (by omega) hB6.size ?_)
              intro A7 c7 w7 ho7 hg7 hA7 hB7
              have hB67 := hB6.trans hB7
              have ho37 := own_stays ho36 hg7 (fun g hg e => by have q1 := hlt3 g hg; have q2 := hne6 g e; omega)
              clear ho6 ho36 hg7 hA7 hB7 hb6 x0 x1 hB6
              go_wp2_with (first | (with_reducible refine hold_append ?_) | (with_reducible refine hold_make ?_) | (with_reducible refine hold_copy ?_) | (with_reducible refine hold_slice ?_))
              refine unhold (wp_cut slPair rfl rfl rfl ho37.rd p m c' (.inr ⟨_, _, rfl, rfl⟩) (.inl ⟨rfl, rfl⟩) (.inl ⟨rfl, rfl⟩) (by intro h; cases h) (by omega) (by have := ho37.rd.cap; omega) (Nat.le_refl _) (by omega) ?_)
              intro A8 hr8
              rw [List.take_of_length_le (by rw [rowC_len wayShape, ← HM.out]; exact Nat.le_refl _), rowC_drop wayShape] at hr8
              go_wp2_with (first | (with_reducible refine hold_append ?_) | (with_reducible refine hold_make ?_) | (with_reducible refine hold_copy ?_))
              refine unhold (wp_app slPair rfl rfl rfl rfl ho7 hr8 (rowC_one wayShape _) (by omega) (by simp [maxLen]; omega) hB67.size ?_)
              intro A9 c9 w9 ho9 hg9 _
              have hB9 : Below w.heap.size w w9 := hB67.grown hg9 hB67.size (fun g hg => (ho7.blk_lt hg).1)
              rw [← rowC_app] at ho9
              have HLN : Hid (p + 1 + (m - p) = (l.take p ++ [(xa, xb)] ++ l.drop p).length) := Lib.hid (by
                have := HM.out
                simp only [List.length_append, List.length_take, List.length_drop, List.length_singleton]
                omega)
              have HPP : Hid (waysW (R.take (k + 1)) = l.take p ++ [(xa, xb)] ++ l.drop p) := Lib.hid (HCT.out.trans HP.out)
              clear ho7 hg9 hr8 ho37 hB67
              go_wp2_with (first | (with_reducible refine hold_append ?_) | (with_reducible refine hold_make ?_) | (with_reducible refine hold_copy ?_))
              exact ⟨⟨k + 1, A9, c9, l.take p ++ [(xa, xb)] ++ l.drop p, by omega, by rw [← HLN.out]; omega, by rw [← HLN.out], by first | rfl | go_num, HPP, by rw [← HLN.out]; exact ho9, hB9⟩, by simp [Go.RowKit.intOf]; omega⟩
        · have d2 : decide ((p : Int) < (m : Int)) = false := by simp; omega
          have HP : Hid (putWay l (xa, xb) = l.take p ++ [(xa, xb)] ++ l.drop p) := Lib.hid (by rw [putWay_at l _ p (by rw [← HM.out]; exact hp) HLT.out (fun h => by rw [← HM.out] at h; omega), List.getElem?_eq_none (by rw [← HM.out]; omega), if_neg (by simp)])
          go_wp2_with (first | (with_reducible refine hold_append ?_) | (with_reducible refine hold_make ?_) | (with_reducible refine hold_copy ?_))
          go_quiet (fail)
          have hSa := below_drewN hS3 nq
          have hoa := ho3.drewN nq
          have hba : Box (wr.drewN nq) xbk 45 #[.int .i64 xa, .int .i64 xb] := hb3
          have x0a : (wr.drewN nq).cell? _ = _ := x0
          have x1a : (wr.drewN nq).cell? _ = _ := x1
          clear hS3 ho3 hb3 x0 x1
          generalize wr.drewN nq = wa at *
          go_wp2_with (first | (with_reducible refine hold_append ?_) | (with_reducible refine hold_make ?_) | (with_reducible refine hold_copy ?_))
          go_quiet (fail)
          have hS3 := below_drewN hSa nq
          have ho3 := hoa.drewN nq
          have hb3 : Box (wa.drewN nq) xbk 45 #[.int .i64 xa, .int .i64 xb] := hba
          clear hSa hoa hba x0a x1a
          try clear y0a y1a
          generalize wa.drewN nq = wb at *
          go_wp2_with (first | (with_reducible refine hold_append ?_) | (with_reducible refine hold_make ?_) | (with_reducible refine hold_copy ?_) | (with_reducible refine hold_slice ?_))
          refine unhold (wp_cut slPair rfl rfl rfl ho3.rd 0 p c' (.inl ⟨rfl, rfl⟩) (.inr ⟨_, _, rfl, rfl⟩) (.inl ⟨rfl, rfl⟩) (by intro h; cases h) (by omega) (by have := ho3.rd.cap; omega) (Nat.le_refl _) (by omega) ?_)
          intro A5 hr5
          rw [rowC_take wayShape, Nat.zero_mul, List.drop_zero] at hr5
          simp only [Nat.sub_zero] at hr5 ⊢
          go_wp2_with (first | (with_reducible refine hold_append ?_) | (with_reducible refine hold_make ?_) | (with_reducible refine hold_copy ?_))
          refine unhold (wp_app slPair rfl rfl rfl rfl (Own.none_ _ w.heap.size _ _) hr5 (rowC_one wayShape _) (by omega) (by simp [maxLen]; omega) hS3.size ?_)
          intro A6 c6 w6 ho6 hg6 hA6
          simp only [Nat.zero_add, List.nil_append] at ho6 ⊢
          have hB6 : Below w.heap.size w w6 := hS3.grown hg6 hS3.size (fun g hg => by cases hg)
          have hb6 : Box w6 xbk 45 #[.int .i64 xa, .int .i64 xb] := Box.grown hb3 hg6 (by simp)
          have ho36 : Own w6 w.heap.size 45 2 _ m c' (rowC wayC l) := own_stays ho3 hg6 (fun g hg e => by cases e)
          have hlt3 := fun g hg => (ho3.blk_lt (g := g) hg).2
          have hne6 : ∀ g, blk A6 = some g → wb.heap.size ≤ g := fun g hg => by
            rcases hA6 with q | q
            · rw [q] at hg; cases hg
            · rw [q] at hg; injection hg with hg; exact Nat.le_of_eq hg
          clear hr5 hg6 hA6 ho3 hb3 hS3
          have x0 := hb6.cell (j := 0) rfl
          have x1 := hb6.cell (j := 1) rfl
          go_wp2_with (first | (with_reducible refine hold_append ?_) | (with_reducible refine hold_make ?_) | (with_reducible refine hold_copy ?_))
          refine unhold (wp_rec wayShape slPair Try.underlying43 rfl rfl rfl rfl rfl ((xa, xb) : Int × Int) rfl ho6 (by omega) (by omega) hB6.size ?_)
          intro A7 c7 w7 ho7 hg7 hA7 hB7
          have hB67 := hB6.trans hB7
          have ho37 := own_stays ho36 hg7 (fun g hg e => by have q1 := hlt3 g hg; have q2 := hne6 g e; omega)
          clear ho6 ho36 hg7 hA7 hB7 hb6 x0 x1 hB6
          go_wp2_with (first | (with_reducible refine hold_append ?_) | (with_reducible refine hold_make ?_) | (with_reducible refine hold_copy ?_) | (with_reducible refine hold_slice ?_))
          refine unhold (wp_cut slPair rfl rfl rfl ho37.rd p m c' (.inr ⟨_, _, rfl, rfl⟩) (.inl ⟨rfl, rfl⟩) (.inl ⟨rfl, rfl⟩) (by intro h; cases h) (by omega) (by have := ho37.rd.cap; omega) (Nat.le_refl _) (by omega) ?_)
          intro A8 hr8
          rw [List.take_of_length_le (by rw [rowC_len wayShape, ← HM.out]; exact Nat.le_refl _), rowC_drop wayShape] at hr8
          go_wp2_with (first | (with_reducible refine hold_append ?_) | (with_reducible refine hold_make ?_) | (with_reducible refine hold_copy ?_))
          refine unhold (wp_app slPair rfl rfl rfl rfl ho7 hr8 (rowC_one wayShape _) (by omega) (by simp [maxLen]; omega) hB67.size ?_)
          intro A9 c9 w9 ho9 hg9 _
          have hB9 : Below w.heap.size w w9 := hB67.grown hg9 hB67.size (fun g hg => (ho7.blk_lt hg).1)
          rw [← rowC_app] at ho9
          have HLN : Hid (p + 1 + (m - p) = (l.take p ++ [(xa, xb)] ++ l.drop p).length) := Lib.hid (by
            have := HM.out
            simp only [List.length_append, List.length_take, List.length_drop, List.length_singleton]
            omega)
          have HPP : Hid (waysW (R.take (k + 1)) = l.take p ++ [(xa, xb)] ++ l.drop p) := Lib.hid (HCT.out.trans HP.out)
          clear ho7 hg9 hr8 ho37 hB67
          go_wp2_with (first | (with_reducible refine hold_append ?_) | (with_reducible refine hold_make ?_) | (with_reducible refine hold_copy ?_))
          exact ⟨⟨k + 1, A9, c9, l.take p ++ [(xa, xb)] ++ l.drop p, by omega, by rw [← HLN.out]; omega, by rw [← HLN.out], by first | rfl | go_num, HPP, by rw [← HLN.out]; exact ho9, hB9⟩, by simp [Go.RowKit.intOf]; omega⟩
    · have d1 : decide ((k : Int) < (n : Int)) = false := by simp; omega
      have HR : Hid (waysW R = l) := Lib.hid (by rw [← HC.out, List.take_of_length_le (by rw [← HN.out]; omega)])
      go_wp2_with (first | (with_reducible refine hold_append ?_) | (with_reducible refine hold_make ?_) | (with_reducible refine hold_copy ?_))
      go_ret
      exact ⟨A', c', by rw [HR.out, ← HM.out]; rfl, by rw [HR.out, ← HM.out]; exact ho, hB⟩
end Go.PH

/- XidOne: for every input of the form's own reach the law returns true and writes nothing that was there. Condition: the listed variables read as listed. -/
import Derived.Test.YtokfnonjmacpgaaDoorXdHead
import Derived.Test.YtokfnonjmacpgaaDoorXdPut
set_option linter.all false
set_option linter.unusedSimpArgs false
set_option linter.unusedVariables false
namespace Go.PH
open Go.RowKit Go.Proofs

theorem Xd.txt_inj {a b : Xd} (ha : a.fmt < 4294967296) (hb : b.fmt < 4294967296) (ka : a.ok = true) (kb : b.ok = true) (h : a.txt = b.txt) : a = b := by
  have h1 := parse_txt ha ka
  have h2 := parse_txt hb kb
  rw [h, h2] at h1
  injection h1 with h1
  exact h1.symm
theorem strEq (a b : List UInt8) : ((str a).toList == (str b).toList) = decide (a = b) := by
  rw [str_toList, str_toList, Bool.eq_iff_iff]
  simp
set_option maxRecDepth 20000 in
set_option maxHeartbeats 8000000 in
theorem law_XidOne (a b : Xd) (w : World) (ha : a.wf) (hb : b.wf) (he : XEnv w) :
    Calls Tryd.prog 8 #[.agg (xdV a), .agg (xdV b)] w fun e w' => e = .returned (.bool true) ∧ Below w.heap.size w w' := by
  have hpa := fun W => xdput_any a W ha
  have hpb := fun W => xdput_any b W hb
  have hta := fun W hE => text_any a W ha hE
  have htb := fun W hE => text_any b W hb hE
  have hcm := fun W => compare_any a b W ha hb
  have heq := fun W => xid_eql a b W
  have h8 := he.lt
  have hq1 : a.ok = true → b.ok = true → ((str a.put).toList == (str b.put).toList) = decide (a = b) := fun ka kb => by
    rw [strEq, Xd.put_ok ka, Xd.put_ok kb]
    exact decide_eq_decide.2 ⟨bytes_inj ha.1 hb.1 ka kb, fun e => by rw [e]⟩
  have hq2 : a.ok = true → b.ok = true → ((str a.text).toList == (str b.text).toList) = decide (a = b) := fun ka kb => by
    rw [strEq, Xd.text, Xd.text, if_pos ka, if_pos kb]
    exact decide_eq_decide.2 ⟨Xd.txt_inj ha.1 hb.1 ka kb, fun e => by rw [e]⟩
  have hq3 : ((Xd.cmp a b : Int) == 0) = decide (a = b) := by
    rw [Bool.eq_iff_iff]
    simp [xd_ord.zero a b]
  have hea : Hid (a.err = if a.ok then 0 else 40) := Lib.hid rfl
  have heb : Hid (b.err = if b.ok then 0 else 40) := Lib.hid rfl
  generalize decide (a = b) = o at *
  generalize a.put = pa at *
  generalize b.put = pb at *
  generalize a.text = ta at *
  generalize b.text = tb at *
  generalize Xd.cmp a b = cab at *
  generalize a.err = ea at *
  generalize b.err = eb at *
  generalize a.ok = oa at *
  generalize b.ok = ob at *
  obtain ⟨f, g, h⟩ := a
  obtain ⟨f', g', h'⟩ := b
  unfold xdV at *
  simp only at hpa hpb hta htb hcm heq ⊢
  obtain ⟨w0, hw0⟩ : ∃ w0, w0 = ((w.alloc (.cells #[.int .u32 (f : Int), .string (str g), .string (str h)] 24)).alloc (.cells #[.int .u32 (f' : Int), .string (str g'), .string (str h')] 24)) := ⟨_, rfl⟩
  have hB0 : Below w.heap.size w w0 := by rw [hw0]; exact ((Below.refl _ _).alloc (Nat.le_refl _) _).alloc (by simp) _
  have hb0 : Box w0 w.heap.size 24 #[.int .u32 (f : Int), .string (str g), .string (str h)] := by rw [hw0]; exact (Box.new _ _ _).alloc _
  have hb0' : Box w0 (w.heap.size + 1) 24 #[.int .u32 (f' : Int), .string (str g'), .string (str h')] := by
    rw [hw0]
    have := Box.new (w.alloc (.cells #[.int .u32 (f : Int), .string (str g), .string (str h)] 24)) #[.int .u32 (f' : Int), .string (str g'), .string (str h')] 24
    rwa [show (w.alloc (.cells #[.int .u32 (f : Int), .string (str g), .string (str h)] 24)).heap.size = w.heap.size + 1 by simp] at this
  go_enter Tryd.func8, Tryd.ntmps8
  have k0 := hb0.cell (j := 0) rfl
  have k1 := hb0.cell (j := 1) rfl
  have k2 := hb0.cell (j := 2) rfl
  go_wp2_with (first | (with_reducible refine hold_append ?_) | (with_reducible refine hold_make ?_) | (with_reducible refine hold_copy ?_))
  rw [← hw0]
  go_wp2_with (first | (with_reducible refine hold_append ?_) | (with_reducible refine hold_make ?_) | (with_reducible refine hold_copy ?_))
  refine (hpa _).mono ?_
  rintro e w1 ⟨A1, c1, rfl, ho1, hB1⟩
  have hb1 := hb0.below hB1
  have hb1' := hb0'.below hB1
  have ho1 := ho1.base_le hB0.size
  replace hB1 := hB0.trans (hB1.mono hB0.size)
  clear hw0 hB0 hb0 hb0' hpa k0 k1 k2
  generalize pa.length = n1 at *
  have k0 := hb1'.cell (j := 0) rfl
  have k1 := hb1'.cell (j := 1) rfl
  have k2 := hb1'.cell (j := 2) rfl
  go_wp2_with (first | (with_reducible refine hold_append ?_) | (with_reducible refine hold_make ?_) | (with_reducible refine hold_copy ?_))
  refine (hpb w1).mono ?_
  rintro e w2 ⟨A2, c2, rfl, ho2, hB2⟩
  have hb2 := hb1.below hB2
  have hb2' := hb1'.below hB2
  have ho12 := own_below ho1 hB2
  have ho2 := ho2.base_le hB1.size
  replace hB2 := hB1.trans (hB2.mono hB1.size)
  clear k0 k1 k2 hb1 hB1 ho1 hpb hb1'
  generalize pb.length = n2 at *
  have k0 := hb2.cell (j := 0) rfl
  have k1 := hb2.cell (j := 1) rfl
  have k2 := hb2.cell (j := 2) rfl
  go_wp2_with (first | (with_reducible refine hold_append ?_) | (with_reducible refine hold_make ?_) | (with_reducible refine hold_copy ?_))
  refine (hta w2 (he.below hB2 h8 hB2.size)).mono ?_
  rintro e w3 ⟨rfl, hB3⟩
  have hb3 := hb2.below hB3
  have hb3' := hb2'.below hB3
  have ho13 := own_below ho12 hB3
  have ho23 := own_below ho2 hB3
  replace hB3 := hB2.trans (hB3.mono hB2.size)
  clear k0 k1 k2 hb2 hB2 ho12 ho2 hta hb2'
  have k0 := hb3'.cell (j := 0) rfl
  have k1 := hb3'.cell (j := 1) rfl
  have k2 := hb3'.cell (j := 2) rfl
  go_wp2_with (first | (with_reducible refine hold_append ?_) | (with_reducible refine hold_make ?_) | (with_reducible refine hold_copy ?_))
  refine (htb w3 (he.below hB3 h8 hB3.size)).mono ?_
  rintro e w5 ⟨rfl, hB4⟩
  have hb5 := hb3.below hB4
  have hb5' := hb3'.below hB4
  have ho15 := own_below ho13 hB4
  have ho25 := own_below ho23 hB4
  have hB5 := hB3.trans (hB4.mono hB3.size)
  clear k0 k1 k2 hb3 hB3 hB4 ho13 ho23 htb hb3'
  cases oa
  · obtain rfl : ea = 40 := hea.out
    clear hea heb
    go_wp2_with (first | (with_reducible refine hold_append ?_) | (with_reducible refine hold_make ?_) | (with_reducible refine hold_copy ?_))
    refine (head_any w5 (he.below hB5 h8 hB5.size)).mono ?_
    rintro e w6 ⟨rfl, hB6⟩
    have hB06 := hB5.trans (hB6.mono hB5.size)
    go_wp2_with (first | (with_reducible refine hold_append ?_) | (with_reducible refine hold_make ?_) | (with_reducible refine hold_copy ?_))
    go_ret
    exact ⟨rfl, hB06⟩
  · obtain rfl : ea = 0 := hea.out
    cases ob
    · obtain rfl : eb = 40 := heb.out
      clear hea heb
      go_wp2_with (first | (with_reducible refine hold_append ?_) | (with_reducible refine hold_make ?_) | (with_reducible refine hold_copy ?_))
      refine (head_any w5 (he.below hB5 h8 hB5.size)).mono ?_
      rintro e w6 ⟨rfl, hB6⟩
      have hB06 := hB5.trans (hB6.mono hB5.size)
      go_wp2_with (first | (with_reducible refine hold_append ?_) | (with_reducible refine hold_make ?_) | (with_reducible refine hold_copy ?_))
      go_ret
      exact ⟨rfl, hB06⟩
    · obtain rfl : eb = 0 := heb.out
      clear hea heb
      replace hq1 := hq1 rfl rfl
      replace hq2 := hq2 rfl rfl
      have hqo : (o == o) = true := by simp
      go_wp2_with (first | (with_reducible refine hold_append ?_) | (with_reducible refine hold_make ?_) | (with_reducible refine hold_copy ?_))
      have hS : ((Box w5.drew w.heap.size 24 #[.int .u32 (f : Int), .string (str g), .string (str h)] ∧ Box w5.drew (w.heap.size + 1) 24 #[.int .u32 (f' : Int), .string (str g'), .string (str h')]) ∧ (Own w5.drew w.heap.size 5 1 A1 n1 c1 (pa.map u8v) ∧ Own w5.drew w.heap.size 5 1 A2 n2 c2 (pb.map u8v))) ∧ Below w.heap.size w w5.drew := ⟨⟨⟨hb5, hb5'⟩, ⟨ho15, ho25⟩⟩, below_drewN hB5 1⟩
      refine rg_start (fun wx : World => ((Box wx w.heap.size 24 #[.int .u32 (f : Int), .string (str g), .string (str h)] ∧ Box wx (w.heap.size + 1) 24 #[.int .u32 (f' : Int), .string (str g'), .string (str h')]) ∧ (Own wx w.heap.size 5 1 A1 n1 c1 (pa.map u8v) ∧ Own wx w.heap.size 5 1 A2 n2 c2 (pb.map u8v))) ∧ Below w.heap.size w wx) (by kernel_rfl) ?_
      clear hB5 hb5 hb5' ho15 ho25
      generalize w5.drew = w6 at *
      refine rg_take 0 (v := ?_) rfl (by kernel_rfl) (by kernel_rfl) (by kernel_rfl) hS rfl ?_ ?_
      rotate_left
      · intro wS hSw; go_simp; (with_reducible rfl)
      simp only [List.getElem_toArray, List.getElem_cons_zero, Act.put, List.setIfInBounds_toArray, List.set_cons_zero, List.set_cons_succ]
      refine rg_take 1 (v := ?_) rfl (by kernel_rfl) (by kernel_rfl) (by kernel_rfl) hS rfl ?_ ?_
      rotate_left
      · intro wS hSw; go_simp; (with_reducible rfl)
      simp only [List.getElem_toArray, List.getElem_cons_succ, List.getElem_cons_zero, Act.put, List.setIfInBounds_toArray, List.set_cons_zero, List.set_cons_succ]
      refine rg_take 2 (v := ?_) rfl (by kernel_rfl) (by kernel_rfl) (by kernel_rfl) hS rfl ?_ ?_
      rotate_left
      · intro wS hSw; go_simp; (with_reducible rfl)
      simp only [List.getElem_toArray, List.getElem_cons_succ, List.getElem_cons_zero, Act.put, List.setIfInBounds_toArray, List.set_cons_zero, List.set_cons_succ]
      refine rg_take 3 (v := ?_) rfl (by kernel_rfl) (by kernel_rfl) (by kernel_rfl) hS rfl ?_ ?_
      rotate_left
      · intro wS hSw; go_simp; (with_reducible rfl)
      simp only [List.getElem_toArray, List.getElem_cons_succ, List.getElem_cons_zero, Act.put, List.setIfInBounds_toArray, List.set_cons_zero, List.set_cons_succ]
      refine rg_take 4 (v := ?_) rfl (by kernel_rfl) (by kernel_rfl) (by kernel_rfl) hS rfl ?_ ?_
      rotate_left
      · intro wS hSw; go_simp; (with_reducible rfl)
      simp only [List.getElem_toArray, List.getElem_cons_succ, List.getElem_cons_zero, Act.put, List.setIfInBounds_toArray, List.set_cons_zero, List.set_cons_succ]
      refine rg_take 5 (v := ?_) rfl (by kernel_rfl) (by kernel_rfl) (by kernel_rfl) hS rfl ?_ ?_
      rotate_left
      · intro wS hSw; go_simp; (with_reducible rfl)
      simp only [List.getElem_toArray, List.getElem_cons_succ, List.getElem_cons_zero, Act.put, List.setIfInBounds_toArray, List.set_cons_zero, List.set_cons_succ]
      refine rg_take 6 (v := ?_) rfl (by kernel_rfl) (by kernel_rfl) (by kernel_rfl) hS rfl ?_ ?_
      rotate_left
      · intro wS hSw; go_simp; (with_reducible rfl)
      simp only [List.getElem_toArray, List.getElem_cons_succ, List.getElem_cons_zero, Act.put, List.setIfInBounds_toArray, List.set_cons_zero, List.set_cons_succ]
      refine rg_take 7 (v := ?_) rfl (by kernel_rfl) (by kernel_rfl) (by kernel_rfl) hS rfl ?_ ?_
      rotate_left
      · intro wS hSw; go_simp; (with_reducible rfl)
      simp only [List.getElem_toArray, List.getElem_cons_succ, List.getElem_cons_zero, Act.put, List.setIfInBounds_toArray, List.set_cons_zero, List.set_cons_succ]
      refine rg_take 8 (v := ?_) rfl (by kernel_rfl) (by kernel_rfl) (by kernel_rfl) hS rfl ?_ ?_
      rotate_left
      · intro wS hSw; have hv1 := run_strB (w := wS) hSw.1.2.1.rd; go_simp; (with_reducible rfl)
      simp only [List.getElem_toArray, List.getElem_cons_succ, List.getElem_cons_zero, Act.put, List.setIfInBounds_toArray, List.set_cons_zero, List.set_cons_succ]
      refine rg_take 9 (v := ?_) rfl (by kernel_rfl) (by kernel_rfl) (by kernel_rfl) hS rfl ?_ ?_
      rotate_left
      · intro wS hSw; go_simp; (with_reducible rfl)
      simp only [List.getElem_toArray, List.getElem_cons_succ, List.getElem_cons_zero, Act.put, List.setIfInBounds_toArray, List.set_cons_zero, List.set_cons_succ]
      refine rg_take 10 (v := ?_) rfl (by kernel_rfl) (by kernel_rfl) (by kernel_rfl) hS rfl ?_ ?_
      rotate_left
      · intro wS hSw; have hv1 := run_strB (w := wS) hSw.1.2.2.rd; go_simp; (with_reducible rfl)
      simp only [List.getElem_toArray, List.getElem_cons_succ, List.getElem_cons_zero, Act.put, List.setIfInBounds_toArray, List.set_cons_zero, List.set_cons_succ]
      refine rg_take 11 (v := ?_) rfl (by kernel_rfl) (by kernel_rfl) (by kernel_rfl) hS rfl ?_ ?_
      rotate_left
      · intro wS hSw; go_simp; (with_reducible rfl)
      simp only [List.getElem_toArray, List.getElem_cons_succ, List.getElem_cons_zero, Act.put, List.setIfInBounds_toArray, List.set_cons_zero, List.set_cons_succ]
      refine rg_take 12 (v := ?_) rfl (by kernel_rfl) (by kernel_rfl) (by kernel_rfl) hS rfl ?_ ?_
      rotate_left
      · intro wS hSw; have k0 := hSw.1.1.1.cell (j := 0) rfl; have k1 := hSw.1.1.1.cell (j := 1) rfl; have k2 := hSw.1.1.1.cell (j := 2) rfl; go_simp; (with_reducible rfl)
      simp only [List.getElem_toArray, List.getElem_cons_succ, List.getElem_cons_zero, Act.put, List.setIfInBounds_toArray, List.set_cons_zero, List.set_cons_succ]
      refine rg_take 13 (v := ?_) rfl (by kernel_rfl) (by kernel_rfl) (by kernel_rfl) hS rfl ?_ ?_
      rotate_left
      · intro wS hSw; have k0 := hSw.1.1.2.cell (j := 0) rfl; have k1 := hSw.1.1.2.cell (j := 1) rfl; have k2 := hSw.1.1.2.cell (j := 2) rfl; go_simp; (with_reducible rfl)
      simp only [List.getElem_toArray, List.getElem_cons_succ, List.getElem_cons_zero, Act.put, List.setIfInBounds_toArray, List.set_cons_zero, List.set_cons_succ]
      refine rg_take 14 (v := ?_) rfl (by kernel_rfl) (by kernel_rfl) (by kernel_rfl) hS rfl ?_ ?_
      rotate_left
      · intro wS hSw; go_simp; (with_reducible rfl)
      simp only [List.getElem_toArray, List.getElem_cons_succ, List.getElem_cons_zero, Act.put, List.setIfInBounds_toArray, List.set_cons_zero, List.set_cons_succ]
      refine rg_take 15 (v := ?_) rfl (by kernel_rfl) (by kernel_rfl) (by kernel_rfl) hS rfl ?_ ?_
      rotate_left
      · intro wS hSw; go_simp; (with_reducible rfl)
      simp only [List.getElem_toArray, List.getElem_cons_succ, List.getElem_cons_zero, Act.put, List.setIfInBounds_toArray, List.set_cons_zero, List.set_cons_succ]
      refine rg_take 16 (v := ?_) rfl (by kernel_rfl) (by kernel_rfl) (by kernel_rfl) hS rfl ?_ ?_
      rotate_left
      · intro wS hSw; go_simp; (with_reducible rfl)
      simp only [List.getElem_toArray, List.getElem_cons_succ, List.getElem_cons_zero, Act.put, List.setIfInBounds_toArray, List.set_cons_zero, List.set_cons_succ]
      refine rg_take 17 (v := ?_) rfl (by kernel_rfl) (by kernel_rfl) (by kernel_rfl) hS rfl ?_ ?_
      rotate_left
      · intro wS hSw; go_simp; (with_reducible rfl)
      simp only [List.getElem_toArray, List.getElem_cons_succ, List.getElem_cons_zero, Act.put, List.setIfInBounds_toArray, List.set_cons_zero, List.set_cons_succ]
      refine rg_take 18 (v := ?_) rfl (by kernel_rfl) (by kernel_rfl) (by kernel_rfl) hS rfl ?_ ?_
      rotate_left
      · intro wS hSw; go_simp; (with_reducible rfl)
      simp only [List.getElem_toArray, List.getElem_cons_succ, List.getElem_cons_zero, Act.put, List.setIfInBounds_toArray, List.set_cons_zero, List.set_cons_succ]
      refine rg_take 19 (v := ?_) rfl (by kernel_rfl) (by kernel_rfl) (by kernel_rfl) hS rfl ?_ ?_
      rotate_left
      · intro wS hSw; go_simp; (with_reducible rfl)
      simp only [List.getElem_toArray, List.getElem_cons_succ, List.getElem_cons_zero, Act.put, List.setIfInBounds_toArray, List.set_cons_zero, List.set_cons_succ]
      refine rg_take 20 (v := ?_) rfl (by kernel_rfl) (by kernel_rfl) (by kernel_rfl) hS rfl ?_ ?_
      rotate_left
      · intro wS hSw; go_simp; (with_reducible rfl)
      simp only [List.getElem_toArray, List.getElem_cons_succ, List.getElem_cons_zero, Act.put, List.setIfInBounds_toArray, List.set_cons_zero, List.set_cons_succ]
      refine rg_take 21 (v := ?_) rfl (by kernel_rfl) (by kernel_rfl) (by kernel_rfl) hS rfl ?_ ?_
      rotate_left
      · intro wS hSw; have k0 := hSw.1.1.1.cell (j := 0) rfl; have k1 := hSw.1.1.1.cell (j := 1) rfl; have k2 := hSw.1.1.1.cell (j := 2) rfl; go_simp; (with_reducible rfl)
      simp only [List.getElem_toArray, List.getElem_cons_succ, List.getElem_cons_zero, Act.put, List.setIfInBounds_toArray, List.set_cons_zero, List.set_cons_succ]
      refine rg_take 22 (v := ?_) rfl (by kernel_rfl) (by kernel_rfl) (by kernel_rfl) hS rfl ?_ ?_
      rotate_left
      · intro wS hSw; have k0 := hSw.1.1.2.cell (j := 0) rfl; have k1 := hSw.1.1.2.cell (j := 1) rfl; have k2 := hSw.1.1.2.cell (j := 2) rfl; go_simp; (with_reducible rfl)
      simp only [List.getElem_toArray, List.getElem_cons_succ, List.getElem_cons_zero, Act.put, List.setIfInBounds_toArray, List.set_cons_zero, List.set_cons_succ]
      refine rg_take 23 (v := ?_) rfl (by kernel_rfl) (by kernel_rfl) (by kernel_rfl) hS rfl ?_ ?_
      rotate_left
      · intro wS hSw; go_simp; (with_reducible rfl)
      simp only [List.getElem_toArray, List.getElem_cons_succ, List.getElem_cons_zero, Act.put, List.setIfInBounds_toArray, List.set_cons_zero, List.set_cons_succ]
      refine rg_take 24 (v := ?_) rfl (by kernel_rfl) (by kernel_rfl) (by kernel_rfl) hS rfl ?_ ?_
      rotate_left
      · intro wS hSw; go_simp; (with_reducible rfl)
      simp only [List.getElem_toArray, List.getElem_cons_succ, List.getElem_cons_zero, Act.put, List.setIfInBounds_toArray, List.set_cons_zero, List.set_cons_succ]
      refine rg_take 25 (v := ?_) rfl (by kernel_rfl) (by kernel_rfl) (by kernel_rfl) hS rfl ?_ ?_
      rotate_left
      · intro wS hSw; go_simp; (with_reducible rfl)
      simp only [List.getElem_toArray, List.getElem_cons_succ, List.getElem_cons_zero, Act.put, List.setIfInBounds_toArray, List.set_cons_zero, List.set_cons_succ]
      refine rg_take 26 (v := ?_) rfl (by kernel_rfl) (by kernel_rfl) (by kernel_rfl) hS rfl ?_ ?_
      rotate_left
      · intro wS hSw; go_simp; (with_reducible rfl)
      simp only [List.getElem_toArray, List.getElem_cons_succ, List.getElem_cons_zero, Act.put, List.setIfInBounds_toArray, List.set_cons_zero, List.set_cons_succ]
      refine rg_take 27 (v := ?_) rfl (by kernel_rfl) (by kernel_rfl) (by kernel_rfl) hS rfl ?_ ?_
      rotate_left
      · intro wS hSw; have k0 := hSw.1.1.1.cell (j := 0) rfl; have k1 := hSw.1.1.1.cell (j := 1) rfl; have k2 := hSw.1.1.1.cell (j := 2) rfl; go_simp; (with_reducible rfl)
      simp only [List.getElem_toArray, List.getElem_cons_succ, List.getElem_cons_zero, Act.put, List.setIfInBounds_toArray, List.set_cons_zero, List.set_cons_succ]
      refine rg_take 28 (v := ?_) rfl (by kernel_rfl) (by kernel_rfl) (by kernel_rfl) hS rfl ?_ ?_
      rotate_left
      · intro wS hSw; have k0 := hSw.1.1.2.cell (j := 0) rfl; have k1 := hSw.1.1.2.cell (j := 1) rfl; have k2 := hSw.1.1.2.cell (j := 2) rfl; go_simp; (with_reducible rfl)
      simp only [List.getElem_toArray, List.getElem_cons_succ, List.getElem_cons_zero, Act.put, List.setIfInBounds_toArray, List.set_cons_zero, List.set_cons_succ]
      refine rg_take 31 (v := ?_) rfl (by kernel_rfl) (by kernel_rfl) (by kernel_rfl) hS rfl ?_ ?_
      rotate_left
      · intro wS hSw; have k0 := hSw.1.1.1.cell (j := 0) rfl; have k1 := hSw.1.1.1.cell (j := 1) rfl; have k2 := hSw.1.1.1.cell (j := 2) rfl; go_simp; (with_reducible rfl)
      simp only [List.getElem_toArray, List.getElem_cons_succ, List.getElem_cons_zero, Act.put, List.setIfInBounds_toArray, List.set_cons_zero, List.set_cons_succ]
      refine rg_take 32 (v := ?_) rfl (by kernel_rfl) (by kernel_rfl) (by kernel_rfl) hS rfl ?_ ?_
      rotate_left
      · intro wS hSw; have k0 := hSw.1.1.2.cell (j := 0) rfl; have k1 := hSw.1.1.2.cell (j := 1) rfl; have k2 := hSw.1.1.2.cell (j := 2) rfl; go_simp; (with_reducible rfl)
      simp only [List.getElem_toArray, List.getElem_cons_succ, List.getElem_cons_zero, Act.put, List.setIfInBounds_toArray, List.set_cons_zero, List.set_cons_succ]
      refine rg_take 33 (v := ?_) rfl (by kernel_rfl) (by kernel_rfl) (by kernel_rfl) hS rfl ?_ ?_
      rotate_left
      · intro wS hSw; go_simp; (with_reducible rfl)
      simp only [List.getElem_toArray, List.getElem_cons_succ, List.getElem_cons_zero, Act.put, List.setIfInBounds_toArray, List.set_cons_zero, List.set_cons_succ]
      refine rg_one 29 rfl (by kernel_rfl) rfl (fun K hK => ?_)
      go_simp
      refine (hcm _).mono ?_
      rintro e w7 ⟨rfl, hBx⟩
      have hS7 : ((Box w7 w.heap.size 24 #[.int .u32 (f : Int), .string (str g), .string (str h)] ∧ Box w7 (w.heap.size + 1) 24 #[.int .u32 (f' : Int), .string (str g'), .string (str h')]) ∧ (Own w7 w.heap.size 5 1 A1 n1 c1 (pa.map u8v) ∧ Own w7 w.heap.size 5 1 A2 n2 c2 (pb.map u8v))) ∧ Below w.heap.size w w7 := ⟨⟨⟨hS.1.1.1.below hBx, hS.1.1.2.below hBx⟩, ⟨own_below hS.1.2.1 hBx, own_below hS.1.2.2 hBx⟩⟩, hS.2.trans (hBx.mono hS.2.size)⟩
      clear hBx
      refine hK _ _ hS7 ?_
      clear hK K
      refine rg_take 30 (v := ?_) rfl (by kernel_rfl) (by kernel_rfl) (by kernel_rfl) hS7 rfl ?_ ?_
      rotate_left
      · intro wS hSw; go_simp; (with_reducible rfl)
      simp only [List.getElem_toArray, List.getElem_cons_succ, List.getElem_cons_zero, Act.put, List.setIfInBounds_toArray, List.set_cons_zero, List.set_cons_succ]
      refine rg_take 34 (v := ?_) rfl (by kernel_rfl) (by kernel_rfl) (by kernel_rfl) hS7 rfl ?_ ?_
      rotate_left
      · intro wS hSw; go_simp; (with_reducible rfl)
      simp only [List.getElem_toArray, List.getElem_cons_succ, List.getElem_cons_zero, Act.put, List.setIfInBounds_toArray, List.set_cons_zero, List.set_cons_succ]
      refine rg_take 35 (v := ?_) rfl (by kernel_rfl) (by kernel_rfl) (by kernel_rfl) hS7 rfl ?_ ?_
      rotate_left
      · intro wS hSw; go_simp; (with_reducible rfl)
      simp only [List.getElem_toArray, List.getElem_cons_succ, List.getElem_cons_zero, Act.put, List.setIfInBounds_toArray, List.set_cons_zero, List.set_cons_succ]
      refine rg_take 36 (v := ?_) rfl (by kernel_rfl) (by kernel_rfl) (by kernel_rfl) hS7 rfl ?_ ?_
      rotate_left
      · intro wS hSw; go_simp; (with_reducible rfl)
      simp only [List.getElem_toArray, List.getElem_cons_succ, List.getElem_cons_zero, Act.put, List.setIfInBounds_toArray, List.set_cons_zero, List.set_cons_succ]
      refine rg_one 37 rfl (by kernel_rfl) rfl (fun K hK => ?_)
      go_simp
      refine (head_any w7 (he.below hS7.2 h8 hS7.2.size)).mono ?_
      rintro e w8 ⟨rfl, hBx⟩
      have hS8 : ((Box w8 w.heap.size 24 #[.int .u32 (f : Int), .string (str g), .string (str h)] ∧ Box w8 (w.heap.size + 1) 24 #[.int .u32 (f' : Int), .string (str g'), .string (str h')]) ∧ (Own w8 w.heap.size 5 1 A1 n1 c1 (pa.map u8v) ∧ Own w8 w.heap.size 5 1 A2 n2 c2 (pb.map u8v))) ∧ Below w.heap.size w w8 := ⟨⟨⟨hS7.1.1.1.below hBx, hS7.1.1.2.below hBx⟩, ⟨own_below hS7.1.2.1 hBx, own_below hS7.1.2.2 hBx⟩⟩, hS7.2.trans (hBx.mono hS7.2.size)⟩
      clear hBx
      refine hK _ _ hS8 ?_
      clear hK K
      refine rg_take 38 (v := ?_) rfl (by kernel_rfl) (by kernel_rfl) (by kernel_rfl) hS8 rfl ?_ ?_
      rotate_left
      · intro wS hSw; go_simp; (with_reducible rfl)
      simp only [List.getElem_toArray, List.getElem_cons_succ, List.getElem_cons_zero, Act.put, List.setIfInBounds_toArray, List.set_cons_zero, List.set_cons_succ]
      refine rg_take 39 (v := ?_) rfl (by kernel_rfl) (by kernel_rfl) (by kernel_rfl) hS8 rfl ?_ ?_
      rotate_left
      · intro wS hSw; go_simp; (with_reducible rfl)
      simp only [List.getElem_toArray, List.getElem_cons_succ, List.getElem_cons_zero, Act.put, List.setIfInBounds_toArray, List.set_cons_zero, List.set_cons_succ]
      refine rg_end (by kernel_rfl) ?_
      go_wp2_with (first | (with_reducible refine hold_append ?_) | (with_reducible refine hold_make ?_) | (with_reducible refine hold_copy ?_))
      go_ret
      exact ⟨rfl, hS8.2⟩
end Go.PH

/- Texts laid together: GtLawAsks. -/
import Derived.Test.YtcfhnnbgghbjfaaMg02
import Derived.Test.YtcfhnnbgghbjfaaMg13
import Derived.Test.YtcfhnnbgghbjfaaMg22
import Derived.Test.YtcfhnnbgghbjfaaMg23
import Derived.Test.YtcfhnnbgghbjfaaMg25
import Derived.Test.YtcfhnnbgghbjfaaMg26
import Derived.Test.YtcfhnnbgghbjfaaMg27
section
/- The law GtxAsks, walked. -/
set_option linter.all false
set_option linter.unusedSimpArgs false
set_option linter.unusedVariables false
namespace Go.PH
open Go.RowKit Go.Proofs

theorem alloc_step (w : World) (cs : Array Value) (t : TypeId) : ∃ (b : Nat) (v : World), b = w.heap.size ∧ v = w.alloc (.cells cs t) ∧ Box v b t cs ∧ Below w.heap.size w v :=
  ⟨_, _, rfl, rfl, Box.new w cs t, (Below.refl _ _).alloc (Nat.le_refl _) _⟩
set_option maxRecDepth 20000 in
set_option maxHeartbeats 8000000 in
theorem law_GtxAsks (G : Gl) (A : Option Addr) (n c : Nat) (G2 : Gl) (A' : Option Addr) (n' c' : Nat) (w : World) (hG : G.wf) (hG2 : G2.wf) (hr : RdP w w.heap.size A n c G.parts) (hr2 : RdP w w.heap.size A' n' c' G2.parts) (hn : n ≤ 140737488351232) (hn' : n' ≤ 140737488351232) :
    Calls Try.prog 5 #[.agg (glV G A n c), .agg (glV G2 A' n' c')] w fun e w' => e = .returned (.bool true) ∧ Below w.heap.size w w' := by
  have hgA := fun W => great_any G A n c W
  have hgB := fun W => great_any G2 A' n' c' W
  have hr0 := fun W (hW : Below w.heap.size w W) => hr.below hW
  have hdc := fun W (hW : Below w.heap.size w W) (h : n ≤ 20) => decision_any G A n c w.heap.size W hG (hr.below hW) hW.size (by omega)
  have hrd := fun W (hW : Below w.heap.size w W) (h : n ≤ 20) => rdecision_any G A n c w.heap.size W hG (hr.below hW) hW.size (by omega)
  unfold DecR at hdc hrd
  generalize G.decision = D at *
  unfold glV at hgA hgB hdc hrd ⊢
  obtain ⟨hA0, hC0, hB0⟩ := box2_of w #[.int .u32 (G.x.fmt : Int), .string (str G.x.glob), .string (str G.x.bran), .int .u8 (G.st : Int), .bool G.com, .slice A n c, .int .u32 (G.wait : Int), .int .u32 (G.tries : Int)] #[.int .u32 (G2.x.fmt : Int), .string (str G2.x.glob), .string (str G2.x.bran), .int .u8 (G2.st : Int), .bool G2.com, .slice A' n' c', .int .u32 (G2.wait : Int), .int .u32 (G2.tries : Int)] 28 28
  obtain ⟨w0, hw0⟩ : ∃ w0, w0 = ((w.alloc (.cells #[.int .u32 (G.x.fmt : Int), .string (str G.x.glob), .string (str G.x.bran), .int .u8 (G.st : Int), .bool G.com, .slice A n c, .int .u32 (G.wait : Int), .int .u32 (G.tries : Int)] 28)).alloc (.cells #[.int .u32 (G2.x.fmt : Int), .string (str G2.x.glob), .string (str G2.x.bran), .int .u8 (G2.st : Int), .bool G2.com, .slice A' n' c', .int .u32 (G2.wait : Int), .int .u32 (G2.tries : Int)] 28)) := ⟨_, rfl⟩
  rw [← hw0] at hA0 hC0 hB0
  have x0 := hA0.cell (j := 0) rfl
  have x1 := hA0.cell (j := 1) rfl
  have x2 := hA0.cell (j := 2) rfl
  have x3 := hA0.cell (j := 3) rfl
  have x4 := hA0.cell (j := 4) rfl
  have x5 := hA0.cell (j := 5) rfl
  have x6 := hA0.cell (j := 6) rfl
  have x7 := hA0.cell (j := 7) rfl
  have hgA0 := hgA w0
  clear hgA
  go_enter Try.func5, Try.ntmps5
  go_upto_region 1 with fail
  rw [← hw0]
  clear hw0
  go_wp2_with (first | (with_reducible refine hold_append ?_) | (with_reducible refine hold_make ?_) | (with_reducible refine hold_copy ?_))
  refine hgA0.mono ?_
  rintro e w1 ⟨rfl, hB1⟩
  have hA1 := hA0.below hB1
  have hC1 := hC0.below hB1
  have hB01 := hB0.trans (hB1.mono hB0.size)
  clear x0 x1 x2 x3 x4 x5 x6 x7 hgA0 hA0 hC0 hB0 hB1
  by_cases h1 : 20 < n
  · have b1 : decide (20 < n) = true := by simpa using h1
    rw [b1]
    clear b1
    go_wp2_with (first | (with_reducible refine hold_append ?_) | (with_reducible refine hold_make ?_) | (with_reducible refine hold_copy ?_))
    refine (ghead_any _).mono ?_
    rintro e w9 ⟨rfl, hB9⟩
    go_wp2_with (first | (with_reducible refine hold_append ?_) | (with_reducible refine hold_make ?_) | (with_reducible refine hold_copy ?_))
    go_ret
    exact ⟨rfl, hB01.trans (hB9.mono hB01.size)⟩
  · have b1 : decide (20 < n) = false := by simpa using h1
    rw [b1]
    clear b1
    have hgB1 := hgB w1
    clear hgB
    have x0 := hC1.cell (j := 0) rfl
    have x1 := hC1.cell (j := 1) rfl
    have x2 := hC1.cell (j := 2) rfl
    have x3 := hC1.cell (j := 3) rfl
    have x4 := hC1.cell (j := 4) rfl
    have x5 := hC1.cell (j := 5) rfl
    have x6 := hC1.cell (j := 6) rfl
    have x7 := hC1.cell (j := 7) rfl
    go_wp2_with (first | (with_reducible refine hold_append ?_) | (with_reducible refine hold_make ?_) | (with_reducible refine hold_copy ?_))
    refine hgB1.mono ?_
    rintro e w2 ⟨rfl, hB2⟩
    have hA2 := hA1.below hB2
    have hC2 := hC1.below hB2
    have hB02 := hB01.trans (hB2.mono hB01.size)
    clear x0 x1 x2 x3 x4 x5 x6 x7 hgB1 hA1 hC1 hB01 hB2
    by_cases h2 : 20 < n'
    · have b2 : decide (20 < n') = true := by simpa using h2
      rw [b2]
      clear b2
      go_wp2_with (first | (with_reducible refine hold_append ?_) | (with_reducible refine hold_make ?_) | (with_reducible refine hold_copy ?_))
      refine (ghead_any _).mono ?_
      rintro e w9 ⟨rfl, hB9⟩
      go_wp2_with (first | (with_reducible refine hold_append ?_) | (with_reducible refine hold_make ?_) | (with_reducible refine hold_copy ?_))
      go_ret
      exact ⟨rfl, hB02.trans (hB9.mono hB02.size)⟩
    · have b2 : decide (20 < n') = false := by simpa using h2
      rw [b2]
      clear b2
      go_upto_region 3 with fail
      go_cut [5, 6] from 14 to 17 (fun s5 s6 wx => ∃ (b4 b5 : Nat) (A1 : Option Addr) (n1 c1 : Nat) (A3 : Option Addr) (n3 c3 : Nat), s5 = .pointer (some ⟨b4, 0, none⟩) ∧ s6 = .pointer (some ⟨b5, 0, none⟩) ∧ Box wx b4 49 #[.int .u32 (D.1.fmt : Int), .string (str D.1.glob), .string (str D.1.bran), .slice A1 n1 c1] ∧ Box wx b5 49 #[.int .u32 (D.1.fmt : Int), .string (str D.1.glob), .string (str D.1.bran), .slice A3 n3 c3] ∧ RdP wx wx.heap.size A1 n1 c1 D.2 ∧ RdP wx wx.heap.size A3 n3 c3 D.2 ∧ n1 ≤ 1000000000 ∧ n3 ≤ 1000000000 ∧ Below w2.heap.size w2 wx)
      case first =>
        have hd1 := fun W (hW : Below w2.heap.size w2 W) => hdc W (hB02.trans (hW.mono hB02.size)) (by omega)
        have hd3 := fun W (hW : Below w2.heap.size w2 W) => hrd W (hB02.trans (hW.mono hB02.size)) (by omega)
        refine rg_start (fun W : World => Below w2.heap.size w2 W) (by kernel_rfl) ?_
        have hS : Below w2.heap.size w2 w2.drew := below_drewN (Below.refl _ _) 1
        generalize w2.drew = wd at *
        clear hdc hrd
        refine rg_take 0 (v := ?_) rfl (by kernel_rfl) (by kernel_rfl) (by kernel_rfl) hS rfl ?_ ?_
        rotate_left
        · intro wS hSw
          have hbS := hA2.below hSw
          have x0 := hbS.cell (j := 0) rfl
          have x1 := hbS.cell (j := 1) rfl
          have x2 := hbS.cell (j := 2) rfl
          have x3 := hbS.cell (j := 3) rfl
          have x4 := hbS.cell (j := 4) rfl
          have x5 := hbS.cell (j := 5) rfl
          have x6 := hbS.cell (j := 6) rfl
          have x7 := hbS.cell (j := 7) rfl
          go_simp
          (with_reducible rfl)
        simp only [List.getElem_toArray, List.getElem_cons_zero, Act.put, List.setIfInBounds_toArray, List.set_cons_zero, List.set_cons_succ]
        refine rg_take 2 (v := ?_) rfl (by kernel_rfl) (by kernel_rfl) (by kernel_rfl) hS rfl ?_ ?_
        rotate_left
        · intro wS hSw
          have hbS := hA2.below hSw
          have x0 := hbS.cell (j := 0) rfl
          have x1 := hbS.cell (j := 1) rfl
          have x2 := hbS.cell (j := 2) rfl
          have x3 := hbS.cell (j := 3) rfl
          have x4 := hbS.cell (j := 4) rfl
          have x5 := hbS.cell (j := 5) rfl
          have x6 := hbS.cell (j := 6) rfl
          have x7 := hbS.cell (j := 7) rfl
          go_simp
          (with_reducible rfl)
        simp only [List.getElem_toArray, List.getElem_cons_succ, List.getElem_cons_zero, Act.put, List.setIfInBounds_toArray, List.set_cons_zero, List.set_cons_succ]
        refine rg_three 1 4 5 rfl rfl rfl (by kernel_rfl) rfl rfl rfl (fun K hK => ?_) (fun K hK => ?_) (fun K hK => ?_)
        · go_simp
          refine (hd1 wd hS).mono ?_
          rintro e v1 ⟨A1, n1, c1, rfl, ho1, hn1, hbel⟩
          have hS := hS.trans (hbel.mono hS.size)
          clear hbel
          refine hK _ _ hS ?_
          clear hK K
          unfold dcV
          try simp only [List.getElem_toArray, List.getElem_cons_succ, List.getElem_cons_zero, Act.put, List.setIfInBounds_toArray, List.set_cons_zero, List.set_cons_succ]
          refine rg_three 3 4 5 rfl rfl rfl (by kernel_rfl) rfl rfl rfl (fun K hK => ?_) (fun K hK => ?_) (fun K hK => ?_)
          · go_simp
            refine (hd3 v1 hS).mono ?_
            rintro e v2 ⟨A3, n3, c3, rfl, ho3, hn3, hbel⟩
            have ho1 := own_below ho1 hbel
            have hS := hS.trans (hbel.mono hS.size)
            clear hbel
            refine hK _ _ hS ?_
            clear hK K
            unfold dcV
            try simp only [List.getElem_toArray, List.getElem_cons_succ, List.getElem_cons_zero, Act.put, List.setIfInBounds_toArray, List.set_cons_zero, List.set_cons_succ]
            refine rg_two 4 5 rfl rfl (by kernel_rfl) rfl rfl (fun K hK => ?_) (fun K hK => ?_)
            · obtain ⟨b4, v3, hqb, hqV, hb4, hbel⟩ := alloc_step v2 #[.int .u32 0, .string ⟨#[]⟩, .string ⟨#[]⟩, .slice none 0 0] 49
              have h14 : ∀ g, blk A1 = some g → g ≠ b4 := fun g hg => Nat.ne_of_lt (by rw [hqb]; exact (ho1.blk_lt hg).2)
              have h34 : ∀ g, blk A3 = some g → g ≠ b4 := fun g hg => Nat.ne_of_lt (by rw [hqb]; exact (ho3.blk_lt hg).2)
              have hvb4 : _ ≤ b4 := hqb ▸ hS.size
              have ho1 := own_below ho1 hbel
              have ho3 := own_below ho3 hbel
              have hS := hS.trans (hbel.mono hS.size)
              go_simp
              rw [← hqb, ← hqV]
              clear hqb hqV hbel
              refine hK _ _ hS ?_
              clear hK K
              refine rg_one 5 rfl (by kernel_rfl) rfl (fun K hK => ?_)
              obtain ⟨b5, v4, hqb, hqV, hb5, hbel⟩ := alloc_step v3 #[.int .u32 0, .string ⟨#[]⟩, .string ⟨#[]⟩, .slice none 0 0] 49
              have h15 : ∀ g, blk A1 = some g → g ≠ b5 := fun g hg => Nat.ne_of_lt (by rw [hqb]; exact (ho1.blk_lt hg).2)
              have h35 : ∀ g, blk A3 = some g → g ≠ b5 := fun g hg => Nat.ne_of_lt (by rw [hqb]; exact (ho3.blk_lt hg).2)
              have l45 : b4 ≠ b5 := Nat.ne_of_lt (by rw [hqb]; exact hb4.lt)
              have hvb5 : _ ≤ b5 := hqb ▸ hS.size
              have ho1 := own_below ho1 hbel
              have ho3 := own_below ho3 hbel
              have hb4 := hb4.below hbel
              have hS := hS.trans (hbel.mono hS.size)
              go_simp
              rw [← hqb, ← hqV]
              clear hqb hqV hbel
              refine hK _ _ hS ?_
              clear hK K
              refine rg_one 6 rfl (by kernel_rfl) rfl (fun K hK => ?_)
              refine op_box (v := .agg #[.int .u32 (D.1.fmt : Int), .string (str D.1.glob), .string (str D.1.bran), .slice A1 n1 c1]) (vs := [.int .u32 (D.1.fmt : Int), .string (str D.1.glob), .string (str D.1.bran), .slice A1 n1 c1]) rfl rfl rfl hb4 rfl (by kernel_rfl) (by simp) dec_one #[.int .u32 (D.1.fmt : Int), .string (str D.1.glob), .string (str D.1.bran), .slice A1 n1 c1] (by simp) ?_
              intro wa hb4' hg _
              have hS' := hS.grown hg hS.size (fun g' e => by injection e with e; omega)
              have hb5' := hb5.grown hg (by intro e; injection e with e; omega)
              have ho1' := own_stays ho1 hg (fun g' hg' e => by injection e with e; exact h14 g' hg' e.symm)
              have ho3' := own_stays ho3 hg (fun g' hg' e => by injection e with e; exact h34 g' hg' e.symm)
              refine hK _ _ hS' ?_
              clear hK K
              refine rg_one 7 rfl (by kernel_rfl) rfl (fun K hK => ?_)
              refine op_box (v := .agg #[.int .u32 (D.1.fmt : Int), .string (str D.1.glob), .string (str D.1.bran), .slice A3 n3 c3]) (vs := [.int .u32 (D.1.fmt : Int), .string (str D.1.glob), .string (str D.1.bran), .slice A3 n3 c3]) rfl rfl rfl hb5' rfl (by kernel_rfl) (by simp) dec_one #[.int .u32 (D.1.fmt : Int), .string (str D.1.glob), .string (str D.1.bran), .slice A3 n3 c3] (by simp) ?_
              intro wb hb5'' hg' _
              have hS'' := hS'.grown hg' hS'.size (fun g' e => by injection e with e; omega)
              have hb4'' := hb4'.grown hg' (by intro e; injection e with e; omega)
              have ho1'' := own_stays ho1' hg' (fun g' hg' e => by injection e with e; exact h15 g' hg' e.symm)
              have ho3'' := own_stays ho3' hg' (fun g' hg' e => by injection e with e; exact h35 g' hg' e.symm)
              refine hK _ _ hS'' ?_
              clear hK K
              refine rg_end (by kernel_rfl) ?_
              go_wp2_with fail
              go_meet
              exact ⟨b4, b5, A1, n1, c1, A3, n3, c3, rfl, rfl, hb4'', hb5'', Own.rd ho1'', Own.rd ho3'', hn1, hn3, hS''⟩
            · obtain ⟨b5, v5, hqb, hqV, hb5, hbel⟩ := alloc_step v2 #[.int .u32 0, .string ⟨#[]⟩, .string ⟨#[]⟩, .slice none 0 0] 49
              have h15 : ∀ g, blk A1 = some g → g ≠ b5 := fun g hg => Nat.ne_of_lt (by rw [hqb]; exact (ho1.blk_lt hg).2)
              have h35 : ∀ g, blk A3 = some g → g ≠ b5 := fun g hg => Nat.ne_of_lt (by rw [hqb]; exact (ho3.blk_lt hg).2)
              have hvb5 : _ ≤ b5 := hqb ▸ hS.size
              have ho1 := own_below ho1 hbel
              have ho3 := own_below ho3 hbel
              have hS := hS.trans (hbel.mono hS.size)
              go_simp
              rw [← hqb, ← hqV]
              clear hqb hqV hbel
              refine hK _ _ hS ?_
              clear hK K
              refine rg_one 4 rfl (by kernel_rfl) rfl (fun K hK => ?_)
              obtain ⟨b4, v6, hqb, hqV, hb4, hbel⟩ := alloc_step v5 #[.int .u32 0, .string ⟨#[]⟩, .string ⟨#[]⟩, .slice none 0 0] 49
              have h14 : ∀ g, blk A1 = some g → g ≠ b4 := fun g hg => Nat.ne_of_lt (by rw [hqb]; exact (ho1.blk_lt hg).2)
              have h34 : ∀ g, blk A3 = some g → g ≠ b4 := fun g hg => Nat.ne_of_lt (by rw [hqb]; exact (ho3.blk_lt hg).2)
              have l45 : b4 ≠ b5 := Nat.ne_of_gt (by rw [hqb]; exact hb5.lt)
              have hvb4 : _ ≤ b4 := hqb ▸ hS.size
              have ho1 := own_below ho1 hbel
              have ho3 := own_below ho3 hbel
              have hb5 := hb5.below hbel
              have hS := hS.trans (hbel.mono hS.size)
              go_simp
              rw [← hqb, ← hqV]
              clear hqb hqV hbel
              refine hK _ _ hS ?_
              clear hK K
              refine rg_one 6 rfl (by kernel_rfl) rfl (fun K hK => ?_)
              refine op_box (v := .agg #[.int .u32 (D.1.fmt : Int), .string (str D.1.glob), .string (str D.1.bran), .slice A1 n1 c1]) (vs := [.int .u32 (D.1.fmt : Int), .string (str D.1.glob), .string (str D.1.bran), .slice A1 n1 c1]) rfl rfl rfl hb4 rfl (by kernel_rfl) (by simp) dec_one #[.int .u32 (D.1.fmt : Int), .string (str D.1.glob), .string (str D.1.bran), .slice A1 n1 c1] (by simp) ?_
              intro wa hb4' hg _
              have hS' := hS.grown hg hS.size (fun g' e => by injection e with e; omega)
              have hb5' := hb5.grown hg (by intro e; injection e with e; omega)
              have ho1' := own_stays ho1 hg (fun g' hg' e => by injection e with e; exact h14 g' hg' e.symm)
              have ho3' := own_stays ho3 hg (fun g' hg' e => by injection e with e; exact h34 g' hg' e.symm)
              refine hK _ _ hS' ?_
              clear hK K
              refine rg_one 7 rfl (by kernel_rfl) rfl (fun K hK => ?_)
              refine op_box (v := .agg #[.int .u32 (D.1.fmt : Int), .string (str D.1.glob), .string (str D.1.bran), .slice A3 n3 c3]) (vs := [.int .u32 (D.1.fmt : Int), .string (str D.1.glob), .string (str D.1.bran), .slice A3 n3 c3]) rfl rfl rfl hb5' rfl (by kernel_rfl) (by simp) dec_one #[.int .u32 (D.1.fmt : Int), .string (str D.1.glob), .string (str D.1.bran), .slice A3 n3 c3] (by simp) ?_
              intro wb hb5'' hg' _
              have hS'' := hS'.grown hg' hS'.size (fun g' e => by injection e with e; omega)
              have hb4'' := hb4'.grown hg' (by intro e; injection e with e; omega)
              have ho1'' := own_stays ho1' hg' (fun g' hg' e => by injection e with e; exact h15 g' hg' e.symm)
              have ho3'' := own_stays ho3' hg' (fun g' hg' e => by injection e with e; exact h35 g' hg' e.symm)
              refine hK _ _ hS'' ?_
              clear hK K
              refine rg_end (by kernel_rfl) ?_
              go_wp2_with fail
              go_meet
              exact ⟨b4, b5, A1, n1, c1, A3, n3, c3, rfl, rfl, hb4'', hb5'', Own.rd ho1'', Own.rd ho3'', hn1, hn3, hS''⟩
          · obtain ⟨b4, v7, hqb, hqV, hb4, hbel⟩ := alloc_step v1 #[.int .u32 0, .string ⟨#[]⟩, .string ⟨#[]⟩, .slice none 0 0] 49
            have h14 : ∀ g, blk A1 = some g → g ≠ b4 := fun g hg => Nat.ne_of_lt (by rw [hqb]; exact (ho1.blk_lt hg).2)
            have hvb4 : _ ≤ b4 := hqb ▸ hS.size
            have ho1 := own_below ho1 hbel
            have hS := hS.trans (hbel.mono hS.size)
            go_simp
            rw [← hqb, ← hqV]
            clear hqb hqV hbel
            refine hK _ _ hS ?_
            clear hK K
            refine rg_two 3 5 rfl rfl (by kernel_rfl) rfl rfl (fun K hK => ?_) (fun K hK => ?_)
            · go_simp
              refine (hd3 v7 hS).mono ?_
              rintro e v8 ⟨A3, n3, c3, rfl, ho3, hn3, hbel⟩
              have h34 : ∀ g, blk A3 = some g → g ≠ b4 := fun g hg => Nat.ne_of_gt (Nat.lt_of_lt_of_le hb4.lt (ho3.blk_lt hg).1)
              have ho1 := own_below ho1 hbel
              have hb4 := hb4.below hbel
              have hS := hS.trans (hbel.mono hS.size)
              clear hbel
              refine hK _ _ hS ?_
              clear hK K
              unfold dcV
              try simp only [List.getElem_toArray, List.getElem_cons_succ, List.getElem_cons_zero, Act.put, List.setIfInBounds_toArray, List.set_cons_zero, List.set_cons_succ]
              refine rg_one 5 rfl (by kernel_rfl) rfl (fun K hK => ?_)
              obtain ⟨b5, v9, hqb, hqV, hb5, hbel⟩ := alloc_step v8 #[.int .u32 0, .string ⟨#[]⟩, .string ⟨#[]⟩, .slice none 0 0] 49
              have h15 : ∀ g, blk A1 = some g → g ≠ b5 := fun g hg => Nat.ne_of_lt (by rw [hqb]; exact (ho1.blk_lt hg).2)
              have h35 : ∀ g, blk A3 = some g → g ≠ b5 := fun g hg => Nat.ne_of_lt (by rw [hqb]; exact (ho3.blk_lt hg).2)
              have l45 : b4 ≠ b5 := Nat.ne_of_lt (by rw [hqb]; exact hb4.lt)
              have hvb5 : _ ≤ b5 := hqb ▸ hS.size
              have ho1 := own_below ho1 hbel
              have ho3 := own_below ho3 hbel
              have hb4 := hb4.below hbel
              have hS := hS.trans (hbel.mono hS.size)
              go_simp
              rw [← hqb, ← hqV]
              clear hqb hqV hbel
              refine hK _ _ hS ?_
              clear hK K
              refine rg_one 6 rfl (by kernel_rfl) rfl (fun K hK => ?_)
              refine op_box (v := .agg #[.int .u32 (D.1.fmt : Int), .string (str D.1.glob), .string (str D.1.bran), .slice A1 n1 c1]) (vs := [.int .u32 (D.1.fmt : Int), .string (str D.1.glob), .string (str D.1.bran), .slice A1 n1 c1]) rfl rfl rfl hb4 rfl (by kernel_rfl) (by simp) dec_one #[.int .u32 (D.1.fmt : Int), .string (str D.1.glob), .string (str D.1.bran), .slice A1 n1 c1] (by simp) ?_
              intro wa hb4' hg _
              have hS' := hS.grown hg hS.size (fun g' e => by injection e with e; omega)
              have hb5' := hb5.grown hg (by intro e; injection e with e; omega)
              have ho1' := own_stays ho1 hg (fun g' hg' e => by injection e with e; exact h14 g' hg' e.symm)
              have ho3' := own_stays ho3 hg (fun g' hg' e => by injection e with e; exact h34 g' hg' e.symm)
              refine hK _ _ hS' ?_
              clear hK K
              refine rg_one 7 rfl (by kernel_rfl) rfl (fun K hK => ?_)
              refine op_box (v := .agg #[.int .u32 (D.1.fmt : Int), .string (str D.1.glob), .string (str D.1.bran), .slice A3 n3 c3]) (vs := [.int .u32 (D.1.fmt : Int), .string (str D.1.glob), .string (str D.1.bran), .slice A3 n3 c3]) rfl rfl rfl hb5' rfl (by kernel_rfl) (by simp) dec_one #[.int .u32 (D.1.fmt : Int), .string (str D.1.glob), .string (str D.1.bran), .slice A3 n3 c3] (by simp) ?_
              intro wb hb5'' hg' _
              have hS'' := hS'.grown hg' hS'.size (fun g' e => by injection e with e; omega)
              have hb4'' := hb4'.grown hg' (by intro e; injection e with e; omega)
              have ho1'' := own_stays ho1' hg' (fun g' hg' e => by injection e with e; exact h15 g' hg' e.symm)
              have ho3'' := own_stays ho3' hg' (fun g' hg' e => by injection e with e; exact h35 g' hg' e.symm)
              refine hK _ _ hS'' ?_
              clear hK K
              refine rg_end (by kernel_rfl) ?_
              go_wp2_with fail
              go_meet
              exact ⟨b4, b5, A1, n1, c1, A3, n3, c3, rfl, rfl, hb4'', hb5'', Own.rd ho1'', Own.rd ho3'', hn1, hn3, hS''⟩
            · obtain ⟨b5, v10, hqb, hqV, hb5, hbel⟩ := alloc_step v7 #[.int .u32 0, .string ⟨#[]⟩, .string ⟨#[]⟩, .slice none 0 0] 49
              have h15 : ∀ g, blk A1 = some g → g ≠ b5 := fun g hg => Nat.ne_of_lt (by rw [hqb]; exact (ho1.blk_lt hg).2)
              have l45 : b4 ≠ b5 := Nat.ne_of_lt (by rw [hqb]; exact hb4.lt)
              have hvb5 : _ ≤ b5 := hqb ▸ hS.size
              have ho1 := own_below ho1 hbel
              have hb4 := hb4.below hbel
              have hS := hS.trans (hbel.mono hS.size)
              go_simp
              rw [← hqb, ← hqV]
              clear hqb hqV hbel
              refine hK _ _ hS ?_
              clear hK K
              refine rg_one 3 rfl (by kernel_rfl) rfl (fun K hK => ?_)
              go_simp
              refine (hd3 v10 hS).mono ?_
              rintro e v11 ⟨A3, n3, c3, rfl, ho3, hn3, hbel⟩
              have h34 : ∀ g, blk A3 = some g → g ≠ b4 := fun g hg => Nat.ne_of_gt (Nat.lt_of_lt_of_le hb4.lt (ho3.blk_lt hg).1)
              have h35 : ∀ g, blk A3 = some g → g ≠ b5 := fun g hg => Nat.ne_of_gt (Nat.lt_of_lt_of_le hb5.lt (ho3.blk_lt hg).1)
              have ho1 := own_below ho1 hbel
              have hb4 := hb4.below hbel
              have hb5 := hb5.below hbel
              have hS := hS.trans (hbel.mono hS.size)
              clear hbel
              refine hK _ _ hS ?_
              clear hK K
              unfold dcV
              try simp only [List.getElem_toArray, List.getElem_cons_succ, List.getElem_cons_zero, Act.put, List.setIfInBounds_toArray, List.set_cons_zero, List.set_cons_succ]
              refine rg_one 6 rfl (by kernel_rfl) rfl (fun K hK => ?_)
              refine op_box (v := .agg #[.int .u32 (D.1.fmt : Int), .string (str D.1.glob), .string (str D.1.bran), .slice A1 n1 c1]) (vs := [.int .u32 (D.1.fmt : Int), .string (str D.1.glob), .string (str D.1.bran), .slice A1 n1 c1]) rfl rfl rfl hb4 rfl (by kernel_rfl) (by simp) dec_one #[.int .u32 (D.1.fmt : Int), .string (str D.1.glob), .string (str D.1.bran), .slice A1 n1 c1] (by simp) ?_
              intro wa hb4' hg _
              have hS' := hS.grown hg hS.size (fun g' e => by injection e with e; omega)
              have hb5' := hb5.grown hg (by intro e; injection e with e; omega)
              have ho1' := own_stays ho1 hg (fun g' hg' e => by injection e with e; exact h14 g' hg' e.symm)
              have ho3' := own_stays ho3 hg (fun g' hg' e => by injection e with e; exact h34 g' hg' e.symm)
              refine hK _ _ hS' ?_
              clear hK K
              refine rg_one 7 rfl (by kernel_rfl) rfl (fun K hK => ?_)
              refine op_box (v := .agg #[.int .u32 (D.1.fmt : Int), .string (str D.1.glob), .string (str D.1.bran), .slice A3 n3 c3]) (vs := [.int .u32 (D.1.fmt : Int), .string (str D.1.glob), .string (str D.1.bran), .slice A3 n3 c3]) rfl rfl rfl hb5' rfl (by kernel_rfl) (by simp) dec_one #[.int .u32 (D.1.fmt : Int), .string (str D.1.glob), .string (str D.1.bran), .slice A3 n3 c3] (by simp) ?_
              intro wb hb5'' hg' _
              have hS'' := hS'.grown hg' hS'.size (fun g' e => by injection e with e; omega)
              have hb4'' := hb4'.grown hg' (by intro e; injection e with e; omega)
              have ho1'' := own_stays ho1' hg' (fun g' hg' e => by injection e with e; exact h15 g' hg' e.symm)
              have ho3'' := own_stays ho3' hg' (fun g' hg' e => by injection e with e; exact h35 g' hg' e.symm)
              refine hK _ _ hS'' ?_
              clear hK K
              refine rg_end (by kernel_rfl) ?_
              go_wp2_with fail
              go_meet
              exact ⟨b4, b5, A1, n1, c1, A3, n3, c3, rfl, rfl, hb4'', hb5'', Own.rd ho1'', Own.rd ho3'', hn1, hn3, hS''⟩
          · obtain ⟨b5, v12, hqb, hqV, hb5, hbel⟩ := alloc_step v1 #[.int .u32 0, .string ⟨#[]⟩, .string ⟨#[]⟩, .slice none 0 0] 49
            have h15 : ∀ g, blk A1 = some g → g ≠ b5 := fun g hg => Nat.ne_of_lt (by rw [hqb]; exact (ho1.blk_lt hg).2)
            have hvb5 : _ ≤ b5 := hqb ▸ hS.size
            have ho1 := own_below ho1 hbel
            have hS := hS.trans (hbel.mono hS.size)
            go_simp
            rw [← hqb, ← hqV]
            clear hqb hqV hbel
            refine hK _ _ hS ?_
            clear hK K
            refine rg_two 3 4 rfl rfl (by kernel_rfl) rfl rfl (fun K hK => ?_) (fun K hK => ?_)
            · go_simp
              refine (hd3 v12 hS).mono ?_
              rintro e v13 ⟨A3, n3, c3, rfl, ho3, hn3, hbel⟩
              have h35 : ∀ g, blk A3 = some g → g ≠ b5 := fun g hg => Nat.ne_of_gt (Nat.lt_of_lt_of_le hb5.lt (ho3.blk_lt hg).1)
              have ho1 := own_below ho1 hbel
              have hb5 := hb5.below hbel
              have hS := hS.trans (hbel.mono hS.size)
              clear hbel
              refine hK _ _ hS ?_
              clear hK K
              unfold dcV
              try simp only [List.getElem_toArray, List.getElem_cons_succ, List.getElem_cons_zero, Act.put, List.setIfInBounds_toArray, List.set_cons_zero, List.set_cons_succ]
              refine rg_one 4 rfl (by kernel_rfl) rfl (fun K hK => ?_)
              obtain ⟨b4, v14, hqb, hqV, hb4, hbel⟩ := alloc_step v13 #[.int .u32 0, .string ⟨#[]⟩, .string ⟨#[]⟩, .slice none 0 0] 49
              have h14 : ∀ g, blk A1 = some g → g ≠ b4 := fun g hg => Nat.ne_of_lt (by rw [hqb]; exact (ho1.blk_lt hg).2)
              have h34 : ∀ g, blk A3 = some g → g ≠ b4 := fun g hg => Nat.ne_of_lt (by rw [hqb]; exact (ho3.blk_lt hg).2)
              have l45 : b4 ≠ b5 := Nat.ne_of_gt (by rw [hqb]; exact hb5.lt)
              have hvb4 : _ ≤ b4 := hqb ▸ hS.size
              have ho1 := own_below ho1 hbel
              have ho3 := own_below ho3 hbel
              have hb5 := hb5.below hbel
              have hS := hS.trans (hbel.mono hS.size)
              go_simp
              rw [← hqb, ← hqV]
              clear hqb hqV hbel
              refine hK _ _ hS ?_
              clear hK K
              refine rg_one 6 rfl (by kernel_rfl) rfl (fun K hK => ?_)
              refine op_box (v := .agg #[.int .u32 (D.1.fmt : Int), .string (str D.1.glob), .string (str D.1.bran), .slice A1 n1 c1]) (vs := [.int .u32 (D.1.fmt : Int), .string (str D.1.glob), .string (str D.1.bran), .slice A1 n1 c1]) rfl rfl rfl hb4 rfl (by kernel_rfl) (by simp) dec_one #[.int .u32 (D.1.fmt : Int), .string (str D.1.glob), .string (str D.1.bran), .slice A1 n1 c1] (by simp) ?_
              intro wa hb4' hg _
              have hS' := hS.grown hg hS.size (fun g' e => by injection e with e; omega)
              have hb5' := hb5.grown hg (by intro e; injection e with e; omega)
              have ho1' := own_stays ho1 hg (fun g' hg' e => by injection e with e; exact h14 g' hg' e.symm)
              have ho3' := own_stays ho3 hg (fun g' hg' e => by injection e with e; exact h34 g' hg' e.symm)
              refine hK _ _ hS' ?_
              clear hK K
              refine rg_one 7 rfl (by kernel_rfl) rfl (fun K hK => ?_)
              refine op_box (v := .agg #[.int .u32 (D.1.fmt : Int), .string (str D.1.glob), .string (str D.1.bran), .slice A3 n3 c3]) (vs := [.int .u32 (D.1.fmt : Int), .string (str D.1.glob), .string (str D.1.bran), .slice A3 n3 c3]) rfl rfl rfl hb5' rfl (by kernel_rfl) (by simp) dec_one #[.int .u32 (D.1.fmt : Int), .string (str D.1.glob), .string (str D.1.bran), .slice A3 n3 c3] (by simp) ?_
              intro wb hb5'' hg' _
              have hS'' := hS'.grown hg' hS'.size (fun g' e => by injection e with e; omega)
              have hb4'' := hb4'.grown hg' (by intro e; injection e with e; omega)
              have ho1'' := own_stays ho1' hg' (fun g' hg' e => by injection e with e; exact h15 g' hg' e.symm)
              have ho3'' := own_stays ho3' hg' (fun g' hg' e => by injection e with e; exact h35 g' hg' e.symm)
              refine hK _ _ hS'' ?_
              clear hK K
              refine rg_end (by kernel_rfl) ?_
              go_wp2_with fail
              go_meet
              exact ⟨b4, b5, A1, n1, c1, A3, n3, c3, rfl, rfl, hb4'', hb5'', Own.rd ho1'', Own.rd ho3'', hn1, hn3, hS''⟩
            · obtain ⟨b4, v15, hqb, hqV, hb4, hbel⟩ := alloc_step v12 #[.int .u32 0, .string ⟨#[]⟩, .string ⟨#[]⟩, .slice none 0 0] 49
              have h14 : ∀ g, blk A1 = some g → g ≠ b4 := fun g hg => Nat.ne_of_lt (by rw [hqb]; exact (ho1.blk_lt hg).2)
              have l45 : b4 ≠ b5 := Nat.ne_of_gt (by rw [hqb]; exact hb5.lt)
              have hvb4 : _ ≤ b4 := hqb ▸ hS.size
              have ho1 := own_below ho1 hbel
              have hb5 := hb5.below hbel
              have hS := hS.trans (hbel.mono hS.size)
              go_simp
              rw [← hqb, ← hqV]
              clear hqb hqV hbel
              refine hK _ _ hS ?_
              clear hK K
              refine rg_one 3 rfl (by kernel_rfl) rfl (fun K hK => ?_)
              go_simp
              refine (hd3 v15 hS).mono ?_
              rintro e v16 ⟨A3, n3, c3, rfl, ho3, hn3, hbel⟩
              have h34 : ∀ g, blk A3 = some g → g ≠ b4 := fun g hg => Nat.ne_of_gt (Nat.lt_of_lt_of_le hb4.lt (ho3.blk_lt hg).1)
              have h35 : ∀ g, blk A3 = some g → g ≠ b5 := fun g hg => Nat.ne_of_gt (Nat.lt_of_lt_of_le hb5.lt (ho3.blk_lt hg).1)
              have ho1 := own_below ho1 hbel
              have hb4 := hb4.below hbel
              have hb5 := hb5.below hbel
              have hS := hS.trans (hbel.mono hS.size)
              clear hbel
              refine hK _ _ hS ?_
              clear hK K
              unfold dcV
              try simp only [List.getElem_toArray, List.getElem_cons_succ, List.getElem_cons_zero, Act.put, List.setIfInBounds_toArray, List.set_cons_zero, List.set_cons_succ]
              refine rg_one 6 rfl (by kernel_rfl) rfl (fun K hK => ?_)
              refine op_box (v := .agg #[.int .u32 (D.1.fmt : Int), .string (str D.1.glob), .string (str D.1.bran), .slice A1 n1 c1]) (vs := [.int .u32 (D.1.fmt : Int), .string (str D.1.glob), .string (str D.1.bran), .slice A1 n1 c1]) rfl rfl rfl hb4 rfl (by kernel_rfl) (by simp) dec_one #[.int .u32 (D.1.fmt : Int), .string (str D.1.glob), .string (str D.1.bran), .slice A1 n1 c1] (by simp) ?_
              intro wa hb4' hg _
              have hS' := hS.grown hg hS.size (fun g' e => by injection e with e; omega)
              have hb5' := hb5.grown hg (by intro e; injection e with e; omega)
              have ho1' := own_stays ho1 hg (fun g' hg' e => by injection e with e; exact h14 g' hg' e.symm)
              have ho3' := own_stays ho3 hg (fun g' hg' e => by injection e with e; exact h34 g' hg' e.symm)
              refine hK _ _ hS' ?_
              clear hK K
              refine rg_one 7 rfl (by kernel_rfl) rfl (fun K hK => ?_)
              refine op_box (v := .agg #[.int .u32 (D.1.fmt : Int), .string (str D.1.glob), .string (str D.1.bran), .slice A3 n3 c3]) (vs := [.int .u32 (D.1.fmt : Int), .string (str D.1.glob), .string (str D.1.bran), .slice A3 n3 c3]) rfl rfl rfl hb5' rfl (by kernel_rfl) (by simp) dec_one #[.int .u32 (D.1.fmt : Int), .string (str D.1.glob), .string (str D.1.bran), .slice A3 n3 c3] (by simp) ?_
              intro wb hb5'' hg' _
              have hS'' := hS'.grown hg' hS'.size (fun g' e => by injection e with e; omega)
              have hb4'' := hb4'.grown hg' (by intro e; injection e with e; omega)
              have ho1'' := own_stays ho1' hg' (fun g' hg' e => by injection e with e; exact h15 g' hg' e.symm)
              have ho3'' := own_stays ho3' hg' (fun g' hg' e => by injection e with e; exact h35 g' hg' e.symm)
              refine hK _ _ hS'' ?_
              clear hK K
              refine rg_end (by kernel_rfl) ?_
              go_wp2_with fail
              go_meet
              exact ⟨b4, b5, A1, n1, c1, A3, n3, c3, rfl, rfl, hb4'', hb5'', Own.rd ho1'', Own.rd ho3'', hn1, hn3, hS''⟩
        · obtain ⟨b4, v17, hqb, hqV, hb4, hbel⟩ := alloc_step wd #[.int .u32 0, .string ⟨#[]⟩, .string ⟨#[]⟩, .slice none 0 0] 49
          have hvb4 : _ ≤ b4 := hqb ▸ hS.size
          have hS := hS.trans (hbel.mono hS.size)
          go_simp
          rw [← hqb, ← hqV]
          clear hqb hqV hbel
          refine hK _ _ hS ?_
          clear hK K
          refine rg_two 1 5 rfl rfl (by kernel_rfl) rfl rfl (fun K hK => ?_) (fun K hK => ?_)
          · go_simp
            refine (hd1 v17 hS).mono ?_
            rintro e v18 ⟨A1, n1, c1, rfl, ho1, hn1, hbel⟩
            have h14 : ∀ g, blk A1 = some g → g ≠ b4 := fun g hg => Nat.ne_of_gt (Nat.lt_of_lt_of_le hb4.lt (ho1.blk_lt hg).1)
            have hb4 := hb4.below hbel
            have hS := hS.trans (hbel.mono hS.size)
            clear hbel
            refine hK _ _ hS ?_
            clear hK K
            unfold dcV
            try simp only [List.getElem_toArray, List.getElem_cons_succ, List.getElem_cons_zero, Act.put, List.setIfInBounds_toArray, List.set_cons_zero, List.set_cons_succ]
            refine rg_two 3 5 rfl rfl (by kernel_rfl) rfl rfl (fun K hK => ?_) (fun K hK => ?_)
            · go_simp
              refine (hd3 v18 hS).mono ?_
              rintro e v19 ⟨A3, n3, c3, rfl, ho3, hn3, hbel⟩
              have h34 : ∀ g, blk A3 = some g → g ≠ b4 := fun g hg => Nat.ne_of_gt (Nat.lt_of_lt_of_le hb4.lt (ho3.blk_lt hg).1)
              have ho1 := own_below ho1 hbel
              have hb4 := hb4.below hbel
              have hS := hS.trans (hbel.mono hS.size)
              clear hbel
              refine hK _ _ hS ?_
              clear hK K
              unfold dcV
              try simp only [List.getElem_toArray, List.getElem_cons_succ, List.getElem_cons_zero, Act.put, List.setIfInBounds_toArray, List.set_cons_zero, List.set_cons_succ]
              refine rg_one 5 rfl (by kernel_rfl) rfl (fun K hK => ?_)
              obtain ⟨b5, v20, hqb, hqV, hb5, hbel⟩ := alloc_step v19 #[.int .u32 0, .string ⟨#[]⟩, .string ⟨#[]⟩, .slice none 0 0] 49
              have h15 : ∀ g, blk A1 = some g → g ≠ b5 := fun g hg => Nat.ne_of_lt (by rw [hqb]; exact (ho1.blk_lt hg).2)
              have h35 : ∀ g, blk A3 = some g → g ≠ b5 := fun g hg => Nat.ne_of_lt (by rw [hqb]; exact (ho3.blk_lt hg).2)
              have l45 : b4 ≠ b5 := Nat.ne_of_lt (by rw [hqb]; exact hb4.lt)
              have hvb5 : _ ≤ b5 := hqb ▸ hS.size
              have ho1 := own_below ho1 hbel
              have ho3 := own_below ho3 hbel
              have hb4 := hb4.below hbel
              have hS := hS.trans (hbel.mono hS.size)
              go_simp
              rw [← hqb, ← hqV]
              clear hqb hqV hbel
              refine hK _ _ hS ?_
              clear hK K
              refine rg_one 6 rfl (by kernel_rfl) rfl (fun K hK => ?_)
              refine op_box (v := .agg #[.int .u32 (D.1.fmt : Int), .string (str D.1.glob), .string (str D.1.bran), .slice A1 n1 c1]) (vs := [.int .u32 (D.1.fmt : Int), .string (str D.1.glob), .string (str D.1.bran), .slice A1 n1 c1]) rfl rfl rfl hb4 rfl (by kernel_rfl) (by simp) dec_one #[.int .u32 (D.1.fmt : Int), .string (str D.1.glob), .string (str D.1.bran), .slice A1 n1 c1] (by simp) ?_
              intro wa hb4' hg _
              have hS' := hS.grown hg hS.size (fun g' e => by injection e with e; omega)
              have hb5' := hb5.grown hg (by intro e; injection e with e; omega)
              have ho1' := own_stays ho1 hg (fun g' hg' e => by injection e with e; exact h14 g' hg' e.symm)
              have ho3' := own_stays ho3 hg (fun g' hg' e => by injection e with e; exact h34 g' hg' e.symm)
              refine hK _ _ hS' ?_
              clear hK K
              refine rg_one 7 rfl (by kernel_rfl) rfl (fun K hK => ?_)
              refine op_box (v := .agg #[.int .u32 (D.1.fmt : Int), .string (str D.1.glob), .string (str D.1.bran), .slice A3 n3 c3]) (vs := [.int .u32 (D.1.fmt : Int), .string (str D.1.glob), .string (str D.1.bran), .slice A3 n3 c3]) rfl rfl rfl hb5' rfl (by kernel_rfl) (by simp) dec_one #[.int .u32 (D.1.fmt : Int), .string (str D.1.glob), .string (str D.1.bran), .slice A3 n3 c3] (by simp) ?_
              intro wb hb5'' hg' _
              have hS'' := hS'.grown hg' hS'.size (fun g' e => by injection e with e; omega)
              have hb4'' := hb4'.grown hg' (by intro e; injection e with e; omega)
              have ho1'' := own_stays ho1' hg' (fun g' hg' e => by injection e with e; exact h15 g' hg' e.symm)
              have ho3'' := own_stays ho3' hg' (fun g' hg' e => by injection e with e; exact h35 g' hg' e.symm)
              refine hK _ _ hS'' ?_
              clear hK K
              refine rg_end (by kernel_rfl) ?_
              go_wp2_with fail
              go_meet
              exact ⟨b4, b5, A1, n1, c1, A3, n3, c3, rfl, rfl, hb4'', hb5'', Own.rd ho1'', Own.rd ho3'', hn1, hn3, hS''⟩
            · obtain ⟨b5, v21, hqb, hqV, hb5, hbel⟩ := alloc_step v18 #[.int .u32 0, .string ⟨#[]⟩, .string ⟨#[]⟩, .slice none 0 0] 49
              have h15 : ∀ g, blk A1 = some g → g ≠ b5 := fun g hg => Nat.ne_of_lt (by rw [hqb]; exact (ho1.blk_lt hg).2)
              have l45 : b4 ≠ b5 := Nat.ne_of_lt (by rw [hqb]; exact hb4.lt)
              have hvb5 : _ ≤ b5 := hqb ▸ hS.size
              have ho1 := own_below ho1 hbel
              have hb4 := hb4.below hbel
              have hS := hS.trans (hbel.mono hS.size)
              go_simp
              rw [← hqb, ← hqV]
              clear hqb hqV hbel
              refine hK _ _ hS ?_
              clear hK K
              refine rg_one 3 rfl (by kernel_rfl) rfl (fun K hK => ?_)
              go_simp
              refine (hd3 v21 hS).mono ?_
              rintro e v22 ⟨A3, n3, c3, rfl, ho3, hn3, hbel⟩
              have h34 : ∀ g, blk A3 = some g → g ≠ b4 := fun g hg => Nat.ne_of_gt (Nat.lt_of_lt_of_le hb4.lt (ho3.blk_lt hg).1)
              have h35 : ∀ g, blk A3 = some g → g ≠ b5 := fun g hg => Nat.ne_of_gt (Nat.lt_of_lt_of_le hb5.lt (ho3.blk_lt hg).1)
              have ho1 := own_below ho1 hbel
              have hb4 := hb4.below hbel
              have hb5 := hb5.below hbel
              have hS := hS.trans (hbel.mono hS.size)
              clear hbel
              refine hK _ _ hS ?_
              clear hK K
              unfold dcV
              try simp only [List.getElem_toArray, List.getElem_cons_succ, List.getElem_cons_zero, Act.put, List.setIfInBounds_toArray, List.set_cons_zero, List.set_cons_succ]
              refine rg_one 6 rfl (by kernel_rfl) rfl (fun K hK => ?_)
              refine op_box (v := .agg #[.int .u32 (D.1.fmt : Int), .string (str D.1.glob), .string (str D.1.bran), .slice A1 n1 c1]) (vs := [.int .u32 (D.1.fmt : Int), .string (str D.1.glob), .string (str D.1.bran), .slice A1 n1 c1]) rfl rfl rfl hb4 rfl (by kernel_rfl) (by simp) dec_one #[.int .u32 (D.1.fmt : Int), .string (str D.1.glob), .string (str D.1.bran), .slice A1 n1 c1] (by simp) ?_
              intro wa hb4' hg _
              have hS' := hS.grown hg hS.size (fun g' e => by injection e with e; omega)
              have hb5' := hb5.grown hg (by intro e; injection e with e; omega)
              have ho1' := own_stays ho1 hg (fun g' hg' e => by injection e with e; exact h14 g' hg' e.symm)
              have ho3' := own_stays ho3 hg (fun g' hg' e => by injection e with e; exact h34 g' hg' e.symm)
              refine hK _ _ hS' ?_
              clear hK K
              refine rg_one 7 rfl (by kernel_rfl) rfl (fun K hK => ?_)
              refine op_box (v := .agg #[.int .u32 (D.1.fmt : Int), .string (str D.1.glob), .string (str D.1.bran), .slice A3 n3 c3]) (vs := [.int .u32 (D.1.fmt : Int), .string (str D.1.glob), .string (str D.1.bran), .slice A3 n3 c3]) rfl rfl rfl hb5' rfl (by kernel_rfl) (by simp) dec_one #[.int .u32 (D.1.fmt : Int), .string (str D.1.glob), .string (str D.1.bran), .slice A3 n3 c3] (by simp) ?_
              intro wb hb5'' hg' _
              have hS'' := hS'.grown hg' hS'.size (fun g' e => by injection e with e; omega)
              have hb4'' := hb4'.grown hg' (by intro e; injection e with e; omega)
              have ho1'' := own_stays ho1' hg' (fun g' hg' e => by injection e with e; exact h15 g' hg' e.symm)
              have ho3'' := own_stays ho3' hg' (fun g' hg' e => by injection e with e; exact h35 g' hg' e.symm)
              refine hK _ _ hS'' ?_
              clear hK K
              refine rg_end (by kernel_rfl) ?_
              go_wp2_with fail
              go_meet
              exact ⟨b4, b5, A1, n1, c1, A3, n3, c3, rfl, rfl, hb4'', hb5'', Own.rd ho1'', Own.rd ho3'', hn1, hn3, hS''⟩
          · obtain ⟨b5, v23, hqb, hqV, hb5, hbel⟩ := alloc_step v17 #[.int .u32 0, .string ⟨#[]⟩, .string ⟨#[]⟩, .slice none 0 0] 49
            have l45 : b4 ≠ b5 := Nat.ne_of_lt (by rw [hqb]; exact hb4.lt)
            have hvb5 : _ ≤ b5 := hqb ▸ hS.size
            have hb4 := hb4.below hbel
            have hS := hS.trans (hbel.mono hS.size)
            go_simp
            rw [← hqb, ← hqV]
            clear hqb hqV hbel
            refine hK _ _ hS ?_
            clear hK K
            refine rg_one 1 rfl (by kernel_rfl) rfl (fun K hK => ?_)
            go_simp
            refine (hd1 v23 hS).mono ?_
            rintro e v24 ⟨A1, n1, c1, rfl, ho1, hn1, hbel⟩
            have h14 : ∀ g, blk A1 = some g → g ≠ b4 := fun g hg => Nat.ne_of_gt (Nat.lt_of_lt_of_le hb4.lt (ho1.blk_lt hg).1)
            have h15 : ∀ g, blk A1 = some g → g ≠ b5 := fun g hg => Nat.ne_of_gt (Nat.lt_of_lt_of_le hb5.lt (ho1.blk_lt hg).1)
            have hb4 := hb4.below hbel
            have hb5 := hb5.below hbel
            have hS := hS.trans (hbel.mono hS.size)
            clear hbel
            refine hK _ _ hS ?_
            clear hK K
            unfold dcV
            try simp only [List.getElem_toArray, List.getElem_cons_succ, List.getElem_cons_zero, Act.put, List.setIfInBounds_toArray, List.set_cons_zero, List.set_cons_succ]
            refine rg_one 3 rfl (by kernel_rfl) rfl (fun K hK => ?_)
            go_simp
            refine (hd3 v24 hS).mono ?_
            rintro e v25 ⟨A3, n3, c3, rfl, ho3, hn3, hbel⟩
            have h34 : ∀ g, blk A3 = some g → g ≠ b4 := fun g hg => Nat.ne_of_gt (Nat.lt_of_lt_of_le hb4.lt (ho3.blk_lt hg).1)
            have h35 : ∀ g, blk A3 = some g → g ≠ b5 := fun g hg => Nat.ne_of_gt (Nat.lt_of_lt_of_le hb5.lt (ho3.blk_lt hg).1)
            have ho1 := own_below ho1 hbel
            have hb4 := hb4.below hbel
            have hb5 := hb5.below hbel
            have hS := hS.trans (hbel.mono hS.size)
            clear hbel
            refine hK _ _ hS ?_
            clear hK K
            unfold dcV
            try simp only [List.getElem_toArray, List.getElem_cons_succ, List.getElem_cons_zero, Act.put, List.setIfInBounds_toArray, List.set_cons_zero, List.set_cons_succ]
            refine rg_one 6 rfl (by kernel_rfl) rfl (fun K hK => ?_)
            refine op_box (v := .agg #[.int .u32 (D.1.fmt : Int), .string (str D.1.glob), .string (str D.1.bran), .slice A1 n1 c1]) (vs := [.int .u32 (D.1.fmt : Int), .string (str D.1.glob), .string (str D.1.bran), .slice A1 n1 c1]) rfl rfl rfl hb4 rfl (by kernel_rfl) (by simp) dec_one #[.int .u32 (D.1.fmt : Int), .string (str D.1.glob), .string (str D.1.bran), .slice A1 n1 c1] (by simp) ?_
            intro wa hb4' hg _
            have hS' := hS.grown hg hS.size (fun g' e => by injection e with e; omega)
            have hb5' := hb5.grown hg (by intro e; injection e with e; omega)
            have ho1' := own_stays ho1 hg (fun g' hg' e => by injection e with e; exact h14 g' hg' e.symm)
            have ho3' := own_stays ho3 hg (fun g' hg' e => by injection e with e; exact h34 g' hg' e.symm)
            refine hK _ _ hS' ?_
            clear hK K
            refine rg_one 7 rfl (by kernel_rfl) rfl (fun K hK => ?_)
            refine op_box (v := .agg #[.int .u32 (D.1.fmt : Int), .string (str D.1.glob), .string (str D.1.bran), .slice A3 n3 c3]) (vs := [.int .u32 (D.1.fmt : Int), .string (str D.1.glob), .string (str D.1.bran), .slice A3 n3 c3]) rfl rfl rfl hb5' rfl (by kernel_rfl) (by simp) dec_one #[.int .u32 (D.1.fmt : Int), .string (str D.1.glob), .string (str D.1.bran), .slice A3 n3 c3] (by simp) ?_
            intro wb hb5'' hg' _
            have hS'' := hS'.grown hg' hS'.size (fun g' e => by injection e with e; omega)
            have hb4'' := hb4'.grown hg' (by intro e; injection e with e; omega)
            have ho1'' := own_stays ho1' hg' (fun g' hg' e => by injection e with e; exact h15 g' hg' e.symm)
            have ho3'' := own_stays ho3' hg' (fun g' hg' e => by injection e with e; exact h35 g' hg' e.symm)
            refine hK _ _ hS'' ?_
            clear hK K
            refine rg_end (by kernel_rfl) ?_
            go_wp2_with fail
            go_meet
            exact ⟨b4, b5, A1, n1, c1, A3, n3, c3, rfl, rfl, hb4'', hb5'', Own.rd ho1'', Own.rd ho3'', hn1, hn3, hS''⟩
        · obtain ⟨b5, v26, hqb, hqV, hb5, hbel⟩ := alloc_step wd #[.int .u32 0, .string ⟨#[]⟩, .string ⟨#[]⟩, .slice none 0 0] 49
          have hvb5 : _ ≤ b5 := hqb ▸ hS.size
          have hS := hS.trans (hbel.mono hS.size)
          go_simp
          rw [← hqb, ← hqV]
          clear hqb hqV hbel
          refine hK _ _ hS ?_
          clear hK K
          refine rg_two 1 4 rfl rfl (by kernel_rfl) rfl rfl (fun K hK => ?_) (fun K hK => ?_)
          · go_simp
            refine (hd1 v26 hS).mono ?_
            rintro e v27 ⟨A1, n1, c1, rfl, ho1, hn1, hbel⟩
            have h15 : ∀ g, blk A1 = some g → g ≠ b5 := fun g hg => Nat.ne_of_gt (Nat.lt_of_lt_of_le hb5.lt (ho1.blk_lt hg).1)
            have hb5 := hb5.below hbel
            have hS := hS.trans (hbel.mono hS.size)
            clear hbel
            refine hK _ _ hS ?_
            clear hK K
            unfold dcV
            try simp only [List.getElem_toArray, List.getElem_cons_succ, List.getElem_cons_zero, Act.put, List.setIfInBounds_toArray, List.set_cons_zero, List.set_cons_succ]
            refine rg_two 3 4 rfl rfl (by kernel_rfl) rfl rfl (fun K hK => ?_) (fun K hK => ?_)
            · go_simp
              refine (hd3 v27 hS).mono ?_
              rintro e v28 ⟨A3, n3, c3, rfl, ho3, hn3, hbel⟩
              have h35 : ∀ g, blk A3 = some g → g ≠ b5 := fun g hg => Nat.ne_of_gt (Nat.lt_of_lt_of_le hb5.lt (ho3.blk_lt hg).1)
              have ho1 := own_below ho1 hbel
              have hb5 := hb5.below hbel
              have hS := hS.trans (hbel.mono hS.size)
              clear hbel
              refine hK _ _ hS ?_
              clear hK K
              unfold dcV
              try simp only [List.getElem_toArray, List.getElem_cons_succ, List.getElem_cons_zero, Act.put, List.setIfInBounds_toArray, List.set_cons_zero, List.set_cons_succ]
              refine rg_one 4 rfl (by kernel_rfl) rfl (fun K hK => ?_)
              obtain ⟨b4, v29, hqb, hqV, hb4, hbel⟩ := alloc_step v28 #[.int .u32 0, .string ⟨#[]⟩, .string ⟨#[]⟩, .slice none 0 0] 49
              have h14 : ∀ g, blk A1 = some g → g ≠ b4 := fun g hg => Nat.ne_of_lt (by rw [hqb]; exact (ho1.blk_lt hg).2)
              have h34 : ∀ g, blk A3 = some g → g ≠ b4 := fun g hg => Nat.ne_of_lt (by rw [hqb]; exact (ho3.blk_lt hg).2)
              have l45 : b4 ≠ b5 := Nat.ne_of_gt (by rw [hqb]; exact hb5.lt)
              have hvb4 : _ ≤ b4 := hqb ▸ hS.size
              have ho1 := own_below ho1 hbel
              have ho3 := own_below ho3 hbel
              have hb5 := hb5.below hbel
              have hS := hS.trans (hbel.mono hS.size)
              go_simp
              rw [← hqb, ← hqV]
              clear hqb hqV hbel
              refine hK _ _ hS ?_
              clear hK K
              refine rg_one 6 rfl (by kernel_rfl) rfl (fun K hK => ?_)
              refine op_box (v := .agg #[.int .u32 (D.1.fmt : Int), .string (str D.1.glob), .string (str D.1.bran), .slice A1 n1 c1]) (vs := [.int .u32 (D.1.fmt : Int), .string (str D.1.glob), .string (str D.1.bran), .slice A1 n1 c1]) rfl rfl rfl hb4 rfl (by kernel_rfl) (by simp) dec_one #[.int .u32 (D.1.fmt : Int), .string (str D.1.glob), .string (str D.1.bran), .slice A1 n1 c1] (by simp) ?_
              intro wa hb4' hg _
              have hS' := hS.grown hg hS.size (fun g' e => by injection e with e; omega)
              have hb5' := hb5.grown hg (by intro e; injection e with e; omega)
              have ho1' := own_stays ho1 hg (fun g' hg' e => by injection e with e; exact h14 g' hg' e.symm)
              have ho3' := own_stays ho3 hg (fun g' hg' e => by injection e with e; exact h34 g' hg' e.symm)
              refine hK _ _ hS' ?_
              clear hK K
              refine rg_one 7 rfl (by kernel_rfl) rfl (fun K hK => ?_)
              refine op_box (v := .agg #[.int .u32 (D.1.fmt : Int), .string (str D.1.glob), .string (str D.1.bran), .slice A3 n3 c3]) (vs := [.int .u32 (D.1.fmt : Int), .string (str D.1.glob), .string (str D.1.bran), .slice A3 n3 c3]) rfl rfl rfl hb5' rfl (by kernel_rfl) (by simp) dec_one #[.int .u32 (D.1.fmt : Int), .string (str D.1.glob), .string (str D.1.bran), .slice A3 n3 c3] (by simp) ?_
              intro wb hb5'' hg' _
              have hS'' := hS'.grown hg' hS'.size (fun g' e => by injection e with e; omega)
              have hb4'' := hb4'.grown hg' (by intro e; injection e with e; omega)
              have ho1'' := own_stays ho1' hg' (fun g' hg' e => by injection e with e; exact h15 g' hg' e.symm)
              have ho3'' := own_stays ho3' hg' (fun g' hg' e => by injection e with e; exact h35 g' hg' e.symm)
              refine hK _ _ hS'' ?_
              clear hK K
              refine rg_end (by kernel_rfl) ?_
              go_wp2_with fail
              go_meet
              exact ⟨b4, b5, A1, n1, c1, A3, n3, c3, rfl, rfl, hb4'', hb5'', Own.rd ho1'', Own.rd ho3'', hn1, hn3, hS''⟩
            · obtain ⟨b4, v30, hqb, hqV, hb4, hbel⟩ := alloc_step v27 #[.int .u32 0, .string ⟨#[]⟩, .string ⟨#[]⟩, .slice none 0 0] 49
              have h14 : ∀ g, blk A1 = some g → g ≠ b4 := fun g hg => Nat.ne_of_lt (by rw [hqb]; exact (ho1.blk_lt hg).2)
              have l45 : b4 ≠ b5 := Nat.ne_of_gt (by rw [hqb]; exact hb5.lt)
              have hvb4 : _ ≤ b4 := hqb ▸ hS.size
              have ho1 := own_below ho1 hbel
              have hb5 := hb5.below hbel
              have hS := hS.trans (hbel.mono hS.size)
              go_simp
              rw [← hqb, ← hqV]
              clear hqb hqV hbel
              refine hK _ _ hS ?_
              clear hK K
              refine rg_one 3 rfl (by kernel_rfl) rfl (fun K hK => ?_)
              go_simp
              refine (hd3 v30 hS).mono ?_
              rintro e v31 ⟨A3, n3, c3, rfl, ho3, hn3, hbel⟩
              have h34 : ∀ g, blk A3 = some g → g ≠ b4 := fun g hg => Nat.ne_of_gt (Nat.lt_of_lt_of_le hb4.lt (ho3.blk_lt hg).1)
              have h35 : ∀ g, blk A3 = some g → g ≠ b5 := fun g hg => Nat.ne_of_gt (Nat.lt_of_lt_of_le hb5.lt (ho3.blk_lt hg).1)
              have ho1 := own_below ho1 hbel
              have hb4 := hb4.below hbel
              have hb5 := hb5.below hbel
              have hS := hS.trans (hbel.mono hS.size)
              clear hbel
              refine hK _ _ hS ?_
              clear hK K
              unfold dcV
              try simp only [List.getElem_toArray, List.getElem_cons_succ, List.getElem_cons_zero, Act.put, List.setIfInBounds_toArray, List.set_cons_zero, List.set_cons_succ]
              refine rg_one 6 rfl (by kernel_rfl) rfl (fun K hK => ?_)
              refine op_box (v := .agg #[.int .u32 (D.1.fmt : Int), .string (str D.1.glob), .string (str D.1.bran), .slice A1 n1 c1]) (vs := [.int .u32 (D.1.fmt : Int), .string (str D.1.glob), .string (str D.1.bran), .slice A1 n1 c1]) rfl rfl rfl hb4 rfl (by kernel_rfl) (by simp) dec_one #[.int .u32 (D.1.fmt : Int), .string (str D.1.glob), .string (str D.1.bran), .slice A1 n1 c1] (by simp) ?_
              intro wa hb4' hg _
              have hS' := hS.grown hg hS.size (fun g' e => by injection e with e; omega)
              have hb5' := hb5.grown hg (by intro e; injection e with e; omega)
              have ho1' := own_stays ho1 hg (fun g' hg' e => by injection e with e; exact h14 g' hg' e.symm)
              have ho3' := own_stays ho3 hg (fun g' hg' e => by injection e with e; exact h34 g' hg' e.symm)
              refine hK _ _ hS' ?_
              clear hK K
              refine rg_one 7 rfl (by kernel_rfl) rfl (fun K hK => ?_)
              refine op_box (v := .agg #[.int .u32 (D.1.fmt : Int), .string (str D.1.glob), .string (str D.1.bran), .slice A3 n3 c3]) (vs := [.int .u32 (D.1.fmt : Int), .string (str D.1.glob), .string (str D.1.bran), .slice A3 n3 c3]) rfl rfl rfl hb5' rfl (by kernel_rfl) (by simp) dec_one #[.int .u32 (D.1.fmt : Int), .string (str D.1.glob), .string (str D.1.bran), .slice A3 n3 c3] (by simp) ?_
              intro wb hb5'' hg' _
              have hS'' := hS'.grown hg' hS'.size (fun g' e => by injection e with e; omega)
              have hb4'' := hb4'.grown hg' (by intro e; injection e with e; omega)
              have ho1'' := own_stays ho1' hg' (fun g' hg' e => by injection e with e; exact h15 g' hg' e.symm)
              have ho3'' := own_stays ho3' hg' (fun g' hg' e => by injection e with e; exact h35 g' hg' e.symm)
              refine hK _ _ hS'' ?_
              clear hK K
              refine rg_end (by kernel_rfl) ?_
              go_wp2_with fail
              go_meet
              exact ⟨b4, b5, A1, n1, c1, A3, n3, c3, rfl, rfl, hb4'', hb5'', Own.rd ho1'', Own.rd ho3'', hn1, hn3, hS''⟩
          · obtain ⟨b4, v32, hqb, hqV, hb4, hbel⟩ := alloc_step v26 #[.int .u32 0, .string ⟨#[]⟩, .string ⟨#[]⟩, .slice none 0 0] 49
            have l45 : b4 ≠ b5 := Nat.ne_of_gt (by rw [hqb]; exact hb5.lt)
            have hvb4 : _ ≤ b4 := hqb ▸ hS.size
            have hb5 := hb5.below hbel
            have hS := hS.trans (hbel.mono hS.size)
            go_simp
            rw [← hqb, ← hqV]
            clear hqb hqV hbel
            refine hK _ _ hS ?_
            clear hK K
            refine rg_one 1 rfl (by kernel_rfl) rfl (fun K hK => ?_)
            go_simp
            refine (hd1 v32 hS).mono ?_
            rintro e v33 ⟨A1, n1, c1, rfl, ho1, hn1, hbel⟩
            have h14 : ∀ g, blk A1 = some g → g ≠ b4 := fun g hg => Nat.ne_of_gt (Nat.lt_of_lt_of_le hb4.lt (ho1.blk_lt hg).1)
            have h15 : ∀ g, blk A1 = some g → g ≠ b5 := fun g hg => Nat.ne_of_gt (Nat.lt_of_lt_of_le hb5.lt (ho1.blk_lt hg).1)
            have hb4 := hb4.below hbel
            have hb5 := hb5.below hbel
            have hS := hS.trans (hbel.mono hS.size)
            clear hbel
            refine hK _ _ hS ?_
            clear hK K
            unfold dcV
            try simp only [List.getElem_toArray, List.getElem_cons_succ, List.getElem_cons_zero, Act.put, List.setIfInBounds_toArray, List.set_cons_zero, List.set_cons_succ]
            refine rg_one 3 rfl (by kernel_rfl) rfl (fun K hK => ?_)
            go_simp
            refine (hd3 v33 hS).mono ?_
            rintro e v34 ⟨A3, n3, c3, rfl, ho3, hn3, hbel⟩
            have h34 : ∀ g, blk A3 = some g → g ≠ b4 := fun g hg => Nat.ne_of_gt (Nat.lt_of_lt_of_le hb4.lt (ho3.blk_lt hg).1)
            have h35 : ∀ g, blk A3 = some g → g ≠ b5 := fun g hg => Nat.ne_of_gt (Nat.lt_of_lt_of_le hb5.lt (ho3.blk_lt hg).1)
            have ho1 := own_below ho1 hbel
            have hb4 := hb4.below hbel
            have hb5 := hb5.below hbel
            have hS := hS.trans (hbel.mono hS.size)
            clear hbel
            refine hK _ _ hS ?_
            clear hK K
            unfold dcV
            try simp only [List.getElem_toArray, List.getElem_cons_succ, List.getElem_cons_zero, Act.put, List.setIfInBounds_toArray, List.set_cons_zero, List.set_cons_succ]
            refine rg_one 6 rfl (by kernel_rfl) rfl (fun K hK => ?_)
            refine op_box (v := .agg #[.int .u32 (D.1.fmt : Int), .string (str D.1.glob), .string (str D.1.bran), .slice A1 n1 c1]) (vs := [.int .u32 (D.1.fmt : Int), .string (str D.1.glob), .string (str D.1.bran), .slice A1 n1 c1]) rfl rfl rfl hb4 rfl (by kernel_rfl) (by simp) dec_one #[.int .u32 (D.1.fmt : Int), .string (str D.1.glob), .string (str D.1.bran), .slice A1 n1 c1] (by simp) ?_
            intro wa hb4' hg _
            have hS' := hS.grown hg hS.size (fun g' e => by injection e with e; omega)
            have hb5' := hb5.grown hg (by intro e; injection e with e; omega)
            have ho1' := own_stays ho1 hg (fun g' hg' e => by injection e with e; exact h14 g' hg' e.symm)
            have ho3' := own_stays ho3 hg (fun g' hg' e => by injection e with e; exact h34 g' hg' e.symm)
            refine hK _ _ hS' ?_
            clear hK K
            refine rg_one 7 rfl (by kernel_rfl) rfl (fun K hK => ?_)
            refine op_box (v := .agg #[.int .u32 (D.1.fmt : Int), .string (str D.1.glob), .string (str D.1.bran), .slice A3 n3 c3]) (vs := [.int .u32 (D.1.fmt : Int), .string (str D.1.glob), .string (str D.1.bran), .slice A3 n3 c3]) rfl rfl rfl hb5' rfl (by kernel_rfl) (by simp) dec_one #[.int .u32 (D.1.fmt : Int), .string (str D.1.glob), .string (str D.1.bran), .slice A3 n3 c3] (by simp) ?_
            intro wb hb5'' hg' _
            have hS'' := hS'.grown hg' hS'.size (fun g' e => by injection e with e; omega)
            have hb4'' := hb4'.grown hg' (by intro e; injection e with e; omega)
            have ho1'' := own_stays ho1' hg' (fun g' hg' e => by injection e with e; exact h15 g' hg' e.symm)
            have ho3'' := own_stays ho3' hg' (fun g' hg' e => by injection e with e; exact h35 g' hg' e.symm)
            refine hK _ _ hS'' ?_
            clear hK K
            refine rg_end (by kernel_rfl) ?_
            go_wp2_with fail
            go_meet
            exact ⟨b4, b5, A1, n1, c1, A3, n3, c3, rfl, rfl, hb4'', hb5'', Own.rd ho1'', Own.rd ho3'', hn1, hn3, hS''⟩
      case rest =>
        obtain ⟨b4, b5, A1, n1, c1, A3, n3, c3, rfl, rfl, hb4, hb5, hp1, hp3, hn1, hn3, hBi⟩ := hcut
        have hA := hA2.below hBi
        have hC := hC2.below hBi
        have toB : ∀ W, Below wc.heap.size wc W → Below w.heap.size w W := fun W hW => (hB02.trans (hBi.mono hB02.size)).trans (hW.mono (hB02.trans (hBi.mono hB02.size)).size)
        clear hA2 hC2 hBi hB02
        have cK := fun W (hW : Below wc.heap.size wc W) => gcheck_any G A n c w.heap.size W hG (hr0 W (toB W hW)) (toB W hW).size (by omega)
        have cR := fun W (hW : Below wc.heap.size wc W) => rgcheck_any G A n c w.heap.size W hG (hr0 W (toB W hW)) (toB W hW).size (by omega)
        have cY := fun W (hW : Below wc.heap.size wc W) => ready_any G A n c w.heap.size W hG (hr0 W (toB W hW)) (toB W hW).size (by omega)
        have cZ := fun W (hW : Below wc.heap.size wc W) => rready_any G A n c w.heap.size W hG (hr0 W (toB W hW)) (toB W hW).size (by omega)
        have cL := fun W (hW : Below wc.heap.size wc W) => letters_any G A n c w.heap.size W hG (hr0 W (toB W hW)) (toB W hW).size (by omega)
        have cM := fun W (hW : Below wc.heap.size wc W) => rletters_any G A n c w.heap.size W hG (hr0 W (toB W hW)) (toB W hW).size (by omega)
        have cG := fun W (hW : Below wc.heap.size wc W) => gsame_any G G2 A n c A' n' c' w.heap.size W (hr0 W (toB W hW)) (hr2.below (toB W hW)) (toB W hW).size (by omega) (by omega)
        have cH := fun W (hW : Below wc.heap.size wc W) => rsame_any G G2 A n c A' n' c' w.heap.size W (hr0 W (toB W hW)) (hr2.below (toB W hW)) (toB W hW).size (by omega) (by omega)
        have cC := fun W (hW : Below wc.heap.size wc W) => rcopy_any G A n c w.heap.size W (hr0 W (toB W hW)) (toB W hW).size (by omega)
        have cS : ∀ (W : World) (Ao : Option Addr) (co : Nat), Below wc.heap.size wc W → RdP W W.heap.size Ao n co G.parts → Calls Try.prog 29 #[.agg (glV G A n c), .agg (glV G Ao n co)] W fun e w' => e = .returned (.bool true) ∧ Below W.heap.size W w' := by
          intro W Ao co hW ho
          have h := gsame_any G G A n c Ao n co W.heap.size W (Rd.more (hr0 W (toB W hW)) (toB W hW).size) ho (Nat.le_refl _) (by omega) (by omega)
          have hd : decide (G = G) = true := by simp
          rw [hd] at h
          exact h
        have hml : G.mails.length ≤ 20 := by
          have h1 := mails_len G.st G.parts
          have h2 := rec_length ptShape hr
          unfold Gl.mails
          split
          · omega
          · simp
        clear hdc hrd
        unfold MailR at cL cM
        generalize G.mails = ML at *
        unfold glV at cK cR cY cZ cL cM cG cH cC cS
        generalize (decide (G = G2)) = sm at *
        generalize G.err = er at *
        generalize G.ready = rd at *
        go_wp2_with (first | (with_reducible refine hold_append ?_) | (with_reducible refine hold_make ?_) | (with_reducible refine hold_copy ?_))
        refine rg_start (fun W : World => Below wc.heap.size wc W) (by kernel_rfl) ?_
        have hS : Below wc.heap.size wc wc.drew := below_drewN (Below.refl _ _) 1
        generalize wc.drew = wd at *
        refine rg_take 0 (v := ?_) rfl (by kernel_rfl) (by kernel_rfl) (by kernel_rfl) hS rfl ?_ ?_
        rotate_left
        · intro wS hSw
          have hbS := hA.below hSw
          have x0 := hbS.cell (j := 0) rfl
          have x1 := hbS.cell (j := 1) rfl
          have x2 := hbS.cell (j := 2) rfl
          have x3 := hbS.cell (j := 3) rfl
          have x4 := hbS.cell (j := 4) rfl
          have x5 := hbS.cell (j := 5) rfl
          have x6 := hbS.cell (j := 6) rfl
          have x7 := hbS.cell (j := 7) rfl
          go_simp
          (with_reducible rfl)
        simp only [List.getElem_toArray, List.getElem_cons_zero, Act.put, List.setIfInBounds_toArray, List.set_cons_zero, List.set_cons_succ]
        refine rg_take 2 (v := ?_) rfl (by kernel_rfl) (by kernel_rfl) (by kernel_rfl) hS rfl ?_ ?_
        rotate_left
        · intro wS hSw
          have hbS := hA.below hSw
          have x0 := hbS.cell (j := 0) rfl
          have x1 := hbS.cell (j := 1) rfl
          have x2 := hbS.cell (j := 2) rfl
          have x3 := hbS.cell (j := 3) rfl
          have x4 := hbS.cell (j := 4) rfl
          have x5 := hbS.cell (j := 5) rfl
          have x6 := hbS.cell (j := 6) rfl
          have x7 := hbS.cell (j := 7) rfl
          go_simp
          (with_reducible rfl)
        simp only [List.getElem_toArray, List.getElem_cons_succ, List.getElem_cons_zero, Act.put, List.setIfInBounds_toArray, List.set_cons_zero, List.set_cons_succ]
        refine rg_one 1 rfl (by kernel_rfl) rfl (fun K hK => ?_)
        go_simp
        refine (cK _ hS).mono ?_
        rintro e v1 ⟨rfl, hbel⟩
        have hS := hS.trans (hbel.mono hS.size)
        clear hbel
        refine hK _ _ hS ?_; clear hK K
        try simp only [List.getElem_toArray, List.getElem_cons_succ, List.getElem_cons_zero, Act.put, List.setIfInBounds_toArray, List.set_cons_zero, List.set_cons_succ]
        refine rg_one 3 rfl (by kernel_rfl) rfl (fun K hK => ?_)
        go_simp
        refine (cR _ hS).mono ?_
        rintro e v3 ⟨rfl, hbel⟩
        have hS := hS.trans (hbel.mono hS.size)
        clear hbel
        refine hK _ _ hS ?_; clear hK K
        try simp only [List.getElem_toArray, List.getElem_cons_succ, List.getElem_cons_zero, Act.put, List.setIfInBounds_toArray, List.set_cons_zero, List.set_cons_succ]
        refine rg_take 4 (v := ?_) rfl (by kernel_rfl) (by kernel_rfl) (by kernel_rfl) hS rfl ?_ ?_
        rotate_left
        · intro wS hSw; go_simp; (with_reducible rfl)
        simp only [List.getElem_toArray, List.getElem_cons_succ, List.getElem_cons_zero, Act.put, List.setIfInBounds_toArray, List.set_cons_zero, List.set_cons_succ]
        refine rg_take 5 (v := ?_) rfl (by kernel_rfl) (by kernel_rfl) (by kernel_rfl) hS rfl ?_ ?_
        rotate_left
        · intro wS hSw; go_simp; (with_reducible rfl)
        simp only [List.getElem_toArray, List.getElem_cons_succ, List.getElem_cons_zero, Act.put, List.setIfInBounds_toArray, List.set_cons_zero, List.set_cons_succ]
        refine rg_take 6 (v := ?_) rfl (by kernel_rfl) (by kernel_rfl) (by kernel_rfl) hS rfl ?_ ?_
        rotate_left
        · intro wS hSw
          have hbS := hA.below hSw
          have x0 := hbS.cell (j := 0) rfl
          have x1 := hbS.cell (j := 1) rfl
          have x2 := hbS.cell (j := 2) rfl
          have x3 := hbS.cell (j := 3) rfl
          have x4 := hbS.cell (j := 4) rfl
          have x5 := hbS.cell (j := 5) rfl
          have x6 := hbS.cell (j := 6) rfl
          have x7 := hbS.cell (j := 7) rfl
          go_simp
          (with_reducible rfl)
        simp only [List.getElem_toArray, List.getElem_cons_succ, List.getElem_cons_zero, Act.put, List.setIfInBounds_toArray, List.set_cons_zero, List.set_cons_succ]
        refine rg_take 8 (v := ?_) rfl (by kernel_rfl) (by kernel_rfl) (by kernel_rfl) hS rfl ?_ ?_
        rotate_left
        · intro wS hSw
          have hbS := hA.below hSw
          have x0 := hbS.cell (j := 0) rfl
          have x1 := hbS.cell (j := 1) rfl
          have x2 := hbS.cell (j := 2) rfl
          have x3 := hbS.cell (j := 3) rfl
          have x4 := hbS.cell (j := 4) rfl
          have x5 := hbS.cell (j := 5) rfl
          have x6 := hbS.cell (j := 6) rfl
          have x7 := hbS.cell (j := 7) rfl
          go_simp
          (with_reducible rfl)
        simp only [List.getElem_toArray, List.getElem_cons_succ, List.getElem_cons_zero, Act.put, List.setIfInBounds_toArray, List.set_cons_zero, List.set_cons_succ]
        refine rg_one 7 rfl (by kernel_rfl) rfl (fun K hK => ?_)
        go_simp
        refine (cY _ hS).mono ?_
        rintro e v7 ⟨rfl, hbel⟩
        have hS := hS.trans (hbel.mono hS.size)
        clear hbel
        refine hK _ _ hS ?_; clear hK K
        try simp only [List.getElem_toArray, List.getElem_cons_succ, List.getElem_cons_zero, Act.put, List.setIfInBounds_toArray, List.set_cons_zero, List.set_cons_succ]
        refine rg_one 9 rfl (by kernel_rfl) rfl (fun K hK => ?_)
        go_simp
        refine (cZ _ hS).mono ?_
        rintro e v9 ⟨rfl, hbel⟩
        have hS := hS.trans (hbel.mono hS.size)
        clear hbel
        refine hK _ _ hS ?_; clear hK K
        try simp only [List.getElem_toArray, List.getElem_cons_succ, List.getElem_cons_zero, Act.put, List.setIfInBounds_toArray, List.set_cons_zero, List.set_cons_succ]
        refine rg_take 10 (v := ?_) rfl (by kernel_rfl) (by kernel_rfl) (by kernel_rfl) hS rfl ?_ ?_
        rotate_left
        · intro wS hSw; go_simp; (with_reducible rfl)
        simp only [List.getElem_toArray, List.getElem_cons_succ, List.getElem_cons_zero, Act.put, List.setIfInBounds_toArray, List.set_cons_zero, List.set_cons_succ]
        refine rg_take 11 (v := ?_) rfl (by kernel_rfl) (by kernel_rfl) (by kernel_rfl) hS rfl ?_ ?_
        rotate_left
        · intro wS hSw; go_simp; (with_reducible rfl)
        simp only [List.getElem_toArray, List.getElem_cons_succ, List.getElem_cons_zero, Act.put, List.setIfInBounds_toArray, List.set_cons_zero, List.set_cons_succ]
        refine rg_take 12 (v := ?_) rfl (by kernel_rfl) (by kernel_rfl) (by kernel_rfl) hS rfl ?_ ?_
        rotate_left
        · intro wS hSw; go_simp; (with_reducible rfl)
        simp only [List.getElem_toArray, List.getElem_cons_succ, List.getElem_cons_zero, Act.put, List.setIfInBounds_toArray, List.set_cons_zero, List.set_cons_succ]
        refine rg_take 13 (v := ?_) rfl (by kernel_rfl) (by kernel_rfl) (by kernel_rfl) hS rfl ?_ ?_
        rotate_left
        · intro wS hSw
          have hbS := hA.below hSw
          have x0 := hbS.cell (j := 0) rfl
          have x1 := hbS.cell (j := 1) rfl
          have x2 := hbS.cell (j := 2) rfl
          have x3 := hbS.cell (j := 3) rfl
          have x4 := hbS.cell (j := 4) rfl
          have x5 := hbS.cell (j := 5) rfl
          have x6 := hbS.cell (j := 6) rfl
          have x7 := hbS.cell (j := 7) rfl
          go_simp
          (with_reducible rfl)
        simp only [List.getElem_toArray, List.getElem_cons_succ, List.getElem_cons_zero, Act.put, List.setIfInBounds_toArray, List.set_cons_zero, List.set_cons_succ]
        refine rg_take 15 (v := ?_) rfl (by kernel_rfl) (by kernel_rfl) (by kernel_rfl) hS rfl ?_ ?_
        rotate_left
        · intro wS hSw
          have hbS := hA.below hSw
          have x0 := hbS.cell (j := 0) rfl
          have x1 := hbS.cell (j := 1) rfl
          have x2 := hbS.cell (j := 2) rfl
          have x3 := hbS.cell (j := 3) rfl
          have x4 := hbS.cell (j := 4) rfl
          have x5 := hbS.cell (j := 5) rfl
          have x6 := hbS.cell (j := 6) rfl
          have x7 := hbS.cell (j := 7) rfl
          go_simp
          (with_reducible rfl)
        simp only [List.getElem_toArray, List.getElem_cons_succ, List.getElem_cons_zero, Act.put, List.setIfInBounds_toArray, List.set_cons_zero, List.set_cons_succ]
        refine rg_one 14 rfl (by kernel_rfl) rfl (fun K hK => ?_)
        go_simp
        refine (cL _ hS).mono ?_
        rintro e v14 ⟨L1, m1, k1, rfl, hoL, hbel⟩
        have hS := hS.trans (hbel.mono hS.size)
        clear hbel
        refine hK _ _ hS ?_; clear hK K
        try simp only [List.getElem_toArray, List.getElem_cons_succ, List.getElem_cons_zero, Act.put, List.setIfInBounds_toArray, List.set_cons_zero, List.set_cons_succ]
        refine rg_one 16 rfl (by kernel_rfl) rfl (fun K hK => ?_)
        go_simp
        refine (cM _ hS).mono ?_
        rintro e v16 ⟨L2, m2, k2, rfl, hoM, hbel⟩
        have hoL := own_below hoL hbel
        have hS := hS.trans (hbel.mono hS.size)
        clear hbel
        refine hK _ _ hS ?_; clear hK K
        try simp only [List.getElem_toArray, List.getElem_cons_succ, List.getElem_cons_zero, Act.put, List.setIfInBounds_toArray, List.set_cons_zero, List.set_cons_succ]
        refine rg_one 17 rfl (by kernel_rfl) rfl (fun K hK => ?_)
        go_simp
        refine (samemail_eq L1 m1 k1 L2 m2 k2 ML v16.heap.size v16 hoL.rd hoM.rd (Nat.le_refl _) (by have := own_len mlShape hoL; omega)).mono ?_
        rintro e v17 ⟨rfl, hbel⟩
        have hS := hS.trans (hbel.mono hS.size)
        clear hbel hoL hoM
        refine hK _ _ hS ?_; clear hK K
        try simp only [List.getElem_toArray, List.getElem_cons_succ, List.getElem_cons_zero, Act.put, List.setIfInBounds_toArray, List.set_cons_zero, List.set_cons_succ]
        refine rg_take 18 (v := ?_) rfl (by kernel_rfl) (by kernel_rfl) (by kernel_rfl) hS rfl ?_ ?_
        rotate_left
        · intro wS hSw; go_simp; (with_reducible rfl)
        simp only [List.getElem_toArray, List.getElem_cons_succ, List.getElem_cons_zero, Act.put, List.setIfInBounds_toArray, List.set_cons_zero, List.set_cons_succ]
        refine rg_take 19 (v := ?_) rfl (by kernel_rfl) (by kernel_rfl) (by kernel_rfl) hS rfl ?_ ?_
        rotate_left
        · intro wS hSw; go_simp; (with_reducible rfl)
        simp only [List.getElem_toArray, List.getElem_cons_succ, List.getElem_cons_zero, Act.put, List.setIfInBounds_toArray, List.set_cons_zero, List.set_cons_succ]
        refine rg_take 20 (v := ?_) rfl (by kernel_rfl) (by kernel_rfl) (by kernel_rfl) hS rfl ?_ ?_
        rotate_left
        · intro wS hSw
          have hbS := hb4.below hSw
          have k0 := hbS.cell (j := 0) rfl
          have k1 := hbS.cell (j := 1) rfl
          have k2 := hbS.cell (j := 2) rfl
          have k3 := hbS.cell (j := 3) rfl
          go_simp
          (with_reducible rfl)
        try simp only [List.getElem_toArray, List.getElem_cons_succ, List.getElem_cons_zero, Act.put, List.setIfInBounds_toArray, List.set_cons_zero, List.set_cons_succ]
        refine rg_take 22 (v := ?_) rfl (by kernel_rfl) (by kernel_rfl) (by kernel_rfl) hS rfl ?_ ?_
        rotate_left
        · intro wS hSw
          have hbS := hb5.below hSw
          have k0 := hbS.cell (j := 0) rfl
          have k1 := hbS.cell (j := 1) rfl
          have k2 := hbS.cell (j := 2) rfl
          have k3 := hbS.cell (j := 3) rfl
          go_simp
          (with_reducible rfl)
        try simp only [List.getElem_toArray, List.getElem_cons_succ, List.getElem_cons_zero, Act.put, List.setIfInBounds_toArray, List.set_cons_zero, List.set_cons_succ]
        refine rg_two 21 23 rfl rfl (by kernel_rfl) rfl rfl (fun K hK => ?_) (fun K hK => ?_)
        · obtain ⟨r1, v21, hqb, hqV, hR1, hbel⟩ := alloc_step v17 #[.int .u32 (D.1.fmt : Int), .string (str D.1.glob), .string (str D.1.bran), .slice A1 n1 c1] 49
          have hS := hS.trans (hbel.mono hS.size)
          go_simp
          rw [← hqb, ← hqV]
          clear hqb hqV hbel
          refine hK _ _ hS ?_; clear hK K
          try simp only [List.getElem_toArray, List.getElem_cons_succ, List.getElem_cons_zero, Act.put, List.setIfInBounds_toArray, List.set_cons_zero, List.set_cons_succ]
          refine rg_one 23 rfl (by kernel_rfl) rfl (fun K hK => ?_)
          obtain ⟨r3, v23, hqb, hqV, hR3, hbel⟩ := alloc_step v21 #[.int .u32 (D.1.fmt : Int), .string (str D.1.glob), .string (str D.1.bran), .slice A3 n3 c3] 49
          have hR1 := hR1.below hbel
          have hS := hS.trans (hbel.mono hS.size)
          go_simp
          rw [← hqb, ← hqV]
          clear hqb hqV hbel
          refine hK _ _ hS ?_; clear hK K
          try simp only [List.getElem_toArray, List.getElem_cons_succ, List.getElem_cons_zero, Act.put, List.setIfInBounds_toArray, List.set_cons_zero, List.set_cons_succ]
          refine rg_one 24 rfl (by kernel_rfl) rfl (fun K hK => ?_)
          go_simp
          refine (same26_one r1 r3 D.1 D.2 A1 n1 c1 A3 n3 c3 wc.heap.size _ hR1 hR3 (hp1.below hS) (hp3.below hS) hS.size hn1 hn3).mono ?_
          rintro e v24 ⟨rfl, hbel⟩
          have hS := hS.trans (hbel.mono hS.size)
          clear hbel hR1 hR3
          refine hK _ _ hS ?_; clear hK K
          try simp only [List.getElem_toArray, List.getElem_cons_succ, List.getElem_cons_zero, Act.put, List.setIfInBounds_toArray, List.set_cons_zero, List.set_cons_succ]
          refine rg_take 25 (v := ?_) rfl (by kernel_rfl) (by kernel_rfl) (by kernel_rfl) hS rfl ?_ ?_
          rotate_left
          · intro wS hSw; go_simp; (with_reducible rfl)
          simp only [List.getElem_toArray, List.getElem_cons_succ, List.getElem_cons_zero, Act.put, List.setIfInBounds_toArray, List.set_cons_zero, List.set_cons_succ]
          refine rg_take 26 (v := ?_) rfl (by kernel_rfl) (by kernel_rfl) (by kernel_rfl) hS rfl ?_ ?_
          rotate_left
          · intro wS hSw; go_simp; (with_reducible rfl)
          simp only [List.getElem_toArray, List.getElem_cons_succ, List.getElem_cons_zero, Act.put, List.setIfInBounds_toArray, List.set_cons_zero, List.set_cons_succ]
          refine rg_take 27 (v := ?_) rfl (by kernel_rfl) (by kernel_rfl) (by kernel_rfl) hS rfl ?_ ?_
          rotate_left
          · intro wS hSw
            have hbS := hA.below hSw
            have x0 := hbS.cell (j := 0) rfl
            have x1 := hbS.cell (j := 1) rfl
            have x2 := hbS.cell (j := 2) rfl
            have x3 := hbS.cell (j := 3) rfl
            have x4 := hbS.cell (j := 4) rfl
            have x5 := hbS.cell (j := 5) rfl
            have x6 := hbS.cell (j := 6) rfl
            have x7 := hbS.cell (j := 7) rfl
            go_simp
            (with_reducible rfl)
          simp only [List.getElem_toArray, List.getElem_cons_succ, List.getElem_cons_zero, Act.put, List.setIfInBounds_toArray, List.set_cons_zero, List.set_cons_succ]
          refine rg_take 28 (v := ?_) rfl (by kernel_rfl) (by kernel_rfl) (by kernel_rfl) hS rfl ?_ ?_
          rotate_left
          · intro wS hSw
            have hbS := hC.below hSw
            have x0 := hbS.cell (j := 0) rfl
            have x1 := hbS.cell (j := 1) rfl
            have x2 := hbS.cell (j := 2) rfl
            have x3 := hbS.cell (j := 3) rfl
            have x4 := hbS.cell (j := 4) rfl
            have x5 := hbS.cell (j := 5) rfl
            have x6 := hbS.cell (j := 6) rfl
            have x7 := hbS.cell (j := 7) rfl
            go_simp
            (with_reducible rfl)
          simp only [List.getElem_toArray, List.getElem_cons_succ, List.getElem_cons_zero, Act.put, List.setIfInBounds_toArray, List.set_cons_zero, List.set_cons_succ]
          refine rg_take 30 (v := ?_) rfl (by kernel_rfl) (by kernel_rfl) (by kernel_rfl) hS rfl ?_ ?_
          rotate_left
          · intro wS hSw
            have hbS := hA.below hSw
            have x0 := hbS.cell (j := 0) rfl
            have x1 := hbS.cell (j := 1) rfl
            have x2 := hbS.cell (j := 2) rfl
            have x3 := hbS.cell (j := 3) rfl
            have x4 := hbS.cell (j := 4) rfl
            have x5 := hbS.cell (j := 5) rfl
            have x6 := hbS.cell (j := 6) rfl
            have x7 := hbS.cell (j := 7) rfl
            go_simp
            (with_reducible rfl)
          simp only [List.getElem_toArray, List.getElem_cons_succ, List.getElem_cons_zero, Act.put, List.setIfInBounds_toArray, List.set_cons_zero, List.set_cons_succ]
          refine rg_take 31 (v := ?_) rfl (by kernel_rfl) (by kernel_rfl) (by kernel_rfl) hS rfl ?_ ?_
          rotate_left
          · intro wS hSw
            have hbS := hC.below hSw
            have x0 := hbS.cell (j := 0) rfl
            have x1 := hbS.cell (j := 1) rfl
            have x2 := hbS.cell (j := 2) rfl
            have x3 := hbS.cell (j := 3) rfl
            have x4 := hbS.cell (j := 4) rfl
            have x5 := hbS.cell (j := 5) rfl
            have x6 := hbS.cell (j := 6) rfl
            have x7 := hbS.cell (j := 7) rfl
            go_simp
            (with_reducible rfl)
          simp only [List.getElem_toArray, List.getElem_cons_succ, List.getElem_cons_zero, Act.put, List.setIfInBounds_toArray, List.set_cons_zero, List.set_cons_succ]
          refine rg_one 29 rfl (by kernel_rfl) rfl (fun K hK => ?_)
          go_simp
          refine (cG _ hS).mono ?_
          rintro e v29 ⟨rfl, hbel⟩
          have hS := hS.trans (hbel.mono hS.size)
          clear hbel
          refine hK _ _ hS ?_; clear hK K
          try simp only [List.getElem_toArray, List.getElem_cons_succ, List.getElem_cons_zero, Act.put, List.setIfInBounds_toArray, List.set_cons_zero, List.set_cons_succ]
          refine rg_one 32 rfl (by kernel_rfl) rfl (fun K hK => ?_)
          go_simp
          refine (cH _ hS).mono ?_
          rintro e v32 ⟨rfl, hbel⟩
          have hS := hS.trans (hbel.mono hS.size)
          clear hbel
          refine hK _ _ hS ?_; clear hK K
          try simp only [List.getElem_toArray, List.getElem_cons_succ, List.getElem_cons_zero, Act.put, List.setIfInBounds_toArray, List.set_cons_zero, List.set_cons_succ]
          refine rg_take 33 (v := ?_) rfl (by kernel_rfl) (by kernel_rfl) (by kernel_rfl) hS rfl ?_ ?_
          rotate_left
          · intro wS hSw; go_simp; (with_reducible rfl)
          simp only [List.getElem_toArray, List.getElem_cons_succ, List.getElem_cons_zero, Act.put, List.setIfInBounds_toArray, List.set_cons_zero, List.set_cons_succ]
          refine rg_take 34 (v := ?_) rfl (by kernel_rfl) (by kernel_rfl) (by kernel_rfl) hS rfl ?_ ?_
          rotate_left
          · intro wS hSw; go_simp; (with_reducible rfl)
          simp only [List.getElem_toArray, List.getElem_cons_succ, List.getElem_cons_zero, Act.put, List.setIfInBounds_toArray, List.set_cons_zero, List.set_cons_succ]
          refine rg_take 35 (v := ?_) rfl (by kernel_rfl) (by kernel_rfl) (by kernel_rfl) hS rfl ?_ ?_
          rotate_left
          · intro wS hSw; go_simp; (with_reducible rfl)
          simp only [List.getElem_toArray, List.getElem_cons_succ, List.getElem_cons_zero, Act.put, List.setIfInBounds_toArray, List.set_cons_zero, List.set_cons_succ]
          refine rg_take 36 (v := ?_) rfl (by kernel_rfl) (by kernel_rfl) (by kernel_rfl) hS rfl ?_ ?_
          rotate_left
          · intro wS hSw
            have hbS := hA.below hSw
            have x0 := hbS.cell (j := 0) rfl
            have x1 := hbS.cell (j := 1) rfl
            have x2 := hbS.cell (j := 2) rfl
            have x3 := hbS.cell (j := 3) rfl
            have x4 := hbS.cell (j := 4) rfl
            have x5 := hbS.cell (j := 5) rfl
            have x6 := hbS.cell (j := 6) rfl
            have x7 := hbS.cell (j := 7) rfl
            go_simp
            (with_reducible rfl)
          simp only [List.getElem_toArray, List.getElem_cons_succ, List.getElem_cons_zero, Act.put, List.setIfInBounds_toArray, List.set_cons_zero, List.set_cons_succ]
          refine rg_take 37 (v := ?_) rfl (by kernel_rfl) (by kernel_rfl) (by kernel_rfl) hS rfl ?_ ?_
          rotate_left
          · intro wS hSw
            have hbS := hA.below hSw
            have x0 := hbS.cell (j := 0) rfl
            have x1 := hbS.cell (j := 1) rfl
            have x2 := hbS.cell (j := 2) rfl
            have x3 := hbS.cell (j := 3) rfl
            have x4 := hbS.cell (j := 4) rfl
            have x5 := hbS.cell (j := 5) rfl
            have x6 := hbS.cell (j := 6) rfl
            have x7 := hbS.cell (j := 7) rfl
            go_simp
            (with_reducible rfl)
          simp only [List.getElem_toArray, List.getElem_cons_succ, List.getElem_cons_zero, Act.put, List.setIfInBounds_toArray, List.set_cons_zero, List.set_cons_succ]
          refine rg_one 38 rfl (by kernel_rfl) rfl (fun K hK => ?_)
          go_simp
          refine (cC _ hS).mono ?_
          rintro e v38 ⟨Ao, co, rfl, hoO, hbel⟩
          have hS := hS.trans (hbel.mono hS.size)
          clear hbel
          refine hK _ _ hS ?_; clear hK K
          try simp only [List.getElem_toArray, List.getElem_cons_succ, List.getElem_cons_zero, Act.put, List.setIfInBounds_toArray, List.set_cons_zero, List.set_cons_succ]
          refine rg_one 39 rfl (by kernel_rfl) rfl (fun K hK => ?_)
          go_simp
          refine (cS _ Ao co hS hoO.rd).mono ?_
          rintro e v39 ⟨rfl, hbel⟩
          have hS := hS.trans (hbel.mono hS.size)
          clear hbel hoO
          refine hK _ _ hS ?_; clear hK K
          try simp only [List.getElem_toArray, List.getElem_cons_succ, List.getElem_cons_zero, Act.put, List.setIfInBounds_toArray, List.set_cons_zero, List.set_cons_succ]
          refine rg_take 40 (v := ?_) rfl (by kernel_rfl) (by kernel_rfl) (by kernel_rfl) hS rfl ?_ ?_
          rotate_left
          · intro wS hSw; go_simp; (with_reducible rfl)
          simp only [List.getElem_toArray, List.getElem_cons_succ, List.getElem_cons_zero, Act.put, List.setIfInBounds_toArray, List.set_cons_zero, List.set_cons_succ]
          refine rg_take 41 (v := ?_) rfl (by kernel_rfl) (by kernel_rfl) (by kernel_rfl) hS rfl ?_ ?_
          rotate_left
          · intro wS hSw; go_simp; (with_reducible rfl)
          simp only [List.getElem_toArray, List.getElem_cons_succ, List.getElem_cons_zero, Act.put, List.setIfInBounds_toArray, List.set_cons_zero, List.set_cons_succ]
          refine rg_one 42 rfl (by kernel_rfl) rfl (fun K hK => ?_)
          go_simp
          refine (ghead_any _).mono ?_
          rintro e v42 ⟨rfl, hbel⟩
          have hS := hS.trans (hbel.mono hS.size)
          clear hbel
          refine hK _ _ hS ?_; clear hK K
          try simp only [List.getElem_toArray, List.getElem_cons_succ, List.getElem_cons_zero, Act.put, List.setIfInBounds_toArray, List.set_cons_zero, List.set_cons_succ]
          refine rg_take 43 (v := ?_) rfl (by kernel_rfl) (by kernel_rfl) (by kernel_rfl) hS rfl ?_ ?_
          rotate_left
          · intro wS hSw; go_simp; (with_reducible rfl)
          simp only [List.getElem_toArray, List.getElem_cons_succ, List.getElem_cons_zero, Act.put, List.setIfInBounds_toArray, List.set_cons_zero, List.set_cons_succ]
          refine rg_take 44 (v := ?_) rfl (by kernel_rfl) (by kernel_rfl) (by kernel_rfl) hS rfl ?_ ?_
          rotate_left
          · intro wS hSw; go_simp; (with_reducible rfl)
          simp only [List.getElem_toArray, List.getElem_cons_succ, List.getElem_cons_zero, Act.put, List.setIfInBounds_toArray, List.set_cons_zero, List.set_cons_succ]
          refine rg_end (by kernel_rfl) ?_
          go_wp2_with (first | (with_reducible refine hold_append ?_) | (with_reducible refine hold_make ?_) | (with_reducible refine hold_copy ?_))
          go_ret
          exact ⟨rfl, toB _ hS⟩
        · obtain ⟨r3, v23, hqb, hqV, hR3, hbel⟩ := alloc_step v17 #[.int .u32 (D.1.fmt : Int), .string (str D.1.glob), .string (str D.1.bran), .slice A3 n3 c3] 49
          have hS := hS.trans (hbel.mono hS.size)
          go_simp
          rw [← hqb, ← hqV]
          clear hqb hqV hbel
          refine hK _ _ hS ?_; clear hK K
          try simp only [List.getElem_toArray, List.getElem_cons_succ, List.getElem_cons_zero, Act.put, List.setIfInBounds_toArray, List.set_cons_zero, List.set_cons_succ]
          refine rg_one 21 rfl (by kernel_rfl) rfl (fun K hK => ?_)
          obtain ⟨r1, v21, hqb, hqV, hR1, hbel⟩ := alloc_step v23 #[.int .u32 (D.1.fmt : Int), .string (str D.1.glob), .string (str D.1.bran), .slice A1 n1 c1] 49
          have hR3 := hR3.below hbel
          have hS := hS.trans (hbel.mono hS.size)
          go_simp
          rw [← hqb, ← hqV]
          clear hqb hqV hbel
          refine hK _ _ hS ?_; clear hK K
          try simp only [List.getElem_toArray, List.getElem_cons_succ, List.getElem_cons_zero, Act.put, List.setIfInBounds_toArray, List.set_cons_zero, List.set_cons_succ]
          refine rg_one 24 rfl (by kernel_rfl) rfl (fun K hK => ?_)
          go_simp
          refine (same26_one r1 r3 D.1 D.2 A1 n1 c1 A3 n3 c3 wc.heap.size _ hR1 hR3 (hp1.below hS) (hp3.below hS) hS.size hn1 hn3).mono ?_
          rintro e v24 ⟨rfl, hbel⟩
          have hS := hS.trans (hbel.mono hS.size)
          clear hbel hR1 hR3
          refine hK _ _ hS ?_; clear hK K
          try simp only [List.getElem_toArray, List.getElem_cons_succ, List.getElem_cons_zero, Act.put, List.setIfInBounds_toArray, List.set_cons_zero, List.set_cons_succ]
          refine rg_take 25 (v := ?_) rfl (by kernel_rfl) (by kernel_rfl) (by kernel_rfl) hS rfl ?_ ?_
          rotate_left
          · intro wS hSw; go_simp; (with_reducible rfl)
          simp only [List.getElem_toArray, List.getElem_cons_succ, List.getElem_cons_zero, Act.put, List.setIfInBounds_toArray, List.set_cons_zero, List.set_cons_succ]
          refine rg_take 26 (v := ?_) rfl (by kernel_rfl) (by kernel_rfl) (by kernel_rfl) hS rfl ?_ ?_
          rotate_left
          · intro wS hSw; go_simp; (with_reducible rfl)
          simp only [List.getElem_toArray, List.getElem_cons_succ, List.getElem_cons_zero, Act.put, List.setIfInBounds_toArray, List.set_cons_zero, List.set_cons_succ]
          refine rg_take 27 (v := ?_) rfl (by kernel_rfl) (by kernel_rfl) (by kernel_rfl) hS rfl ?_ ?_
          rotate_left
          · intro wS hSw
            have hbS := hA.below hSw
            have x0 := hbS.cell (j := 0) rfl
            have x1 := hbS.cell (j := 1) rfl
            have x2 := hbS.cell (j := 2) rfl
            have x3 := hbS.cell (j := 3) rfl
            have x4 := hbS.cell (j := 4) rfl
            have x5 := hbS.cell (j := 5) rfl
            have x6 := hbS.cell (j := 6) rfl
            have x7 := hbS.cell (j := 7) rfl
            go_simp
            (with_reducible rfl)
          simp only [List.getElem_toArray, List.getElem_cons_succ, List.getElem_cons_zero, Act.put, List.setIfInBounds_toArray, List.set_cons_zero, List.set_cons_succ]
          refine rg_take 28 (v := ?_) rfl (by kernel_rfl) (by kernel_rfl) (by kernel_rfl) hS rfl ?_ ?_
          rotate_left
          · intro wS hSw
            have hbS := hC.below hSw
            have x0 := hbS.cell (j := 0) rfl
            have x1 := hbS.cell (j := 1) rfl
            have x2 := hbS.cell (j := 2) rfl
            have x3 := hbS.cell (j := 3) rfl
            have x4 := hbS.cell (j := 4) rfl
            have x5 := hbS.cell (j := 5) rfl
            have x6 := hbS.cell (j := 6) rfl
            have x7 := hbS.cell (j := 7) rfl
            go_simp
            (with_reducible rfl)
          simp only [List.getElem_toArray, List.getElem_cons_succ, List.getElem_cons_zero, Act.put, List.setIfInBounds_toArray, List.set_cons_zero, List.set_cons_succ]
          refine rg_take 30 (v := ?_) rfl (by kernel_rfl) (by kernel_rfl) (by kernel_rfl) hS rfl ?_ ?_
          rotate_left
          · intro wS hSw
            have hbS := hA.below hSw
            have x0 := hbS.cell (j := 0) rfl
            have x1 := hbS.cell (j := 1) rfl
            have x2 := hbS.cell (j := 2) rfl
            have x3 := hbS.cell (j := 3) rfl
            have x4 := hbS.cell (j := 4) rfl
            have x5 := hbS.cell (j := 5) rfl
            have x6 := hbS.cell (j := 6) rfl
            have x7 := hbS.cell (j := 7) rfl
            go_simp
            (with_reducible rfl)
          simp only [List.getElem_toArray, List.getElem_cons_succ, List.getElem_cons_zero, Act.put, List.setIfInBounds_toArray, List.set_cons_zero, List.set_cons_succ]
          refine rg_take 31 (v := ?_) rfl (by kernel_rfl) (by kernel_rfl) (by kernel_rfl) hS rfl ?_ ?_
          rotate_left
          · intro wS hSw
            have hbS := hC.below hSw
            have x0 := hbS.cell (j := 0) rfl
            have x1 := hbS.cell (j := 1) rfl
            have x2 := hbS.cell (j := 2) rfl
            have x3 := hbS.cell (j := 3) rfl
            have x4 := hbS.cell (j := 4) rfl
            have x5 := hbS.cell (j := 5) rfl
            have x6 := hbS.cell (j := 6) rfl
            have x7 := hbS.cell (j := 7) rfl
            go_simp
            (with_reducible rfl)
          simp only [List.getElem_toArray, List.getElem_cons_succ, List.getElem_cons_zero, Act.put, List.setIfInBounds_toArray, List.set_cons_zero, List.set_cons_succ]
          refine rg_one 29 rfl (by kernel_rfl) rfl (fun K hK => ?_)
          go_simp
          refine (cG _ hS).mono ?_
          rintro e v29 ⟨rfl, hbel⟩
          have hS := hS.trans (hbel.mono hS.size)
          clear hbel
          refine hK _ _ hS ?_; clear hK K
          try simp only [List.getElem_toArray, List.getElem_cons_succ, List.getElem_cons_zero, Act.put, List.setIfInBounds_toArray, List.set_cons_zero, List.set_cons_succ]
          refine rg_one 32 rfl (by kernel_rfl) rfl (fun K hK => ?_)
          go_simp
          refine (cH _ hS).mono ?_
          rintro e v32 ⟨rfl, hbel⟩
          have hS := hS.trans (hbel.mono hS.size)
          clear hbel
          refine hK _ _ hS ?_; clear hK K
          try simp only [List.getElem_toArray, List.getElem_cons_succ, List.getElem_cons_zero, Act.put, List.setIfInBounds_toArray, List.set_cons_zero, List.set_cons_succ]
          refine rg_take 33 (v := ?_) rfl (by kernel_rfl) (by kernel_rfl) (by kernel_rfl) hS rfl ?_ ?_
          rotate_left
          · intro wS hSw; go_simp; (with_reducible rfl)
          simp only [List.getElem_toArray, List.getElem_cons_succ, List.getElem_cons_zero, Act.put, List.setIfInBounds_toArray, List.set_cons_zero, List.set_cons_succ]
          refine rg_take 34 (v := ?_) rfl (by kernel_rfl) (by kernel_rfl) (by kernel_rfl) hS rfl ?_ ?_
          rotate_left
          · intro wS hSw; go_simp; (with_reducible rfl)
          simp only [List.getElem_toArray, List.getElem_cons_succ, List.getElem_cons_zero, Act.put, List.setIfInBounds_toArray, List.set_cons_zero, List.set_cons_succ]
          refine rg_take 35 (v := ?_) rfl (by kernel_rfl) (by kernel_rfl) (by kernel_rfl) hS rfl ?_ ?_
          rotate_left
          · intro wS hSw; go_simp; (with_reducible rfl)
          simp only [List.getElem_toArray, List.getElem_cons_succ, List.getElem_cons_zero, Act.put, List.setIfInBounds_toArray, List.set_cons_zero, List.set_cons_succ]
          refine rg_take 36 (v := ?_) rfl (by kernel_rfl) (by kernel_rfl) (by kernel_rfl) hS rfl ?_ ?_
          rotate_left
          · intro wS hSw
            have hbS := hA.below hSw
            have x0 := hbS.cell (j := 0) rfl
            have x1 := hbS.cell (j := 1) rfl
            have x2 := hbS.cell (j := 2) rfl
            have x3 := hbS.cell (j := 3) rfl
            have x4 := hbS.cell (j := 4) rfl
            have x5 := hbS.cell (j := 5) rfl
            have x6 := hbS.cell (j := 6) rfl
            have x7 := hbS.cell (j := 7) rfl
            go_simp
            (with_reducible rfl)
          simp only [List.getElem_toArray, List.getElem_cons_succ, List.getElem_cons_zero, Act.put, List.setIfInBounds_toArray, List.set_cons_zero, List.set_cons_succ]
          refine rg_take 37 (v := ?_) rfl (by kernel_rfl) (by kernel_rfl) (by kernel_rfl) hS rfl ?_ ?_
          rotate_left
          · intro wS hSw
            have hbS := hA.below hSw
            have x0 := hbS.cell (j := 0) rfl
            have x1 := hbS.cell (j := 1) rfl
            have x2 := hbS.cell (j := 2) rfl
            have x3 := hbS.cell (j := 3) rfl
            have x4 := hbS.cell (j := 4) rfl
            have x5 := hbS.cell (j := 5) rfl
            have x6 := hbS.cell (j := 6) rfl
            have x7 := hbS.cell (j := 7) rfl
            go_simp
            (with_reducible rfl)
          simp only [List.getElem_toArray, List.getElem_cons_succ, List.getElem_cons_zero, Act.put, List.setIfInBounds_toArray, List.set_cons_zero, List.set_cons_succ]
          refine rg_one 38 rfl (by kernel_rfl) rfl (fun K hK => ?_)
          go_simp
          refine (cC _ hS).mono ?_
          rintro e v38 ⟨Ao, co, rfl, hoO, hbel⟩
          have hS := hS.trans (hbel.mono hS.size)
          clear hbel
          refine hK _ _ hS ?_; clear hK K
          try simp only [List.getElem_toArray, List.getElem_cons_succ, List.getElem_cons_zero, Act.put, List.setIfInBounds_toArray, List.set_cons_zero, List.set_cons_succ]
          refine rg_one 39 rfl (by kernel_rfl) rfl (fun K hK => ?_)
          go_simp
          refine (cS _ Ao co hS hoO.rd).mono ?_
          rintro e v39 ⟨rfl, hbel⟩
          have hS := hS.trans (hbel.mono hS.size)
          clear hbel hoO
          refine hK _ _ hS ?_; clear hK K
          try simp only [List.getElem_toArray, List.getElem_cons_succ, List.getElem_cons_zero, Act.put, List.setIfInBounds_toArray, List.set_cons_zero, List.set_cons_succ]
          refine rg_take 40 (v := ?_) rfl (by kernel_rfl) (by kernel_rfl) (by kernel_rfl) hS rfl ?_ ?_
          rotate_left
          · intro wS hSw; go_simp; (with_reducible rfl)
          simp only [List.getElem_toArray, List.getElem_cons_succ, List.getElem_cons_zero, Act.put, List.setIfInBounds_toArray, List.set_cons_zero, List.set_cons_succ]
          refine rg_take 41 (v := ?_) rfl (by kernel_rfl) (by kernel_rfl) (by kernel_rfl) hS rfl ?_ ?_
          rotate_left
          · intro wS hSw; go_simp; (with_reducible rfl)
          simp only [List.getElem_toArray, List.getElem_cons_succ, List.getElem_cons_zero, Act.put, List.setIfInBounds_toArray, List.set_cons_zero, List.set_cons_succ]
          refine rg_one 42 rfl (by kernel_rfl) rfl (fun K hK => ?_)
          go_simp
          refine (ghead_any _).mono ?_
          rintro e v42 ⟨rfl, hbel⟩
          have hS := hS.trans (hbel.mono hS.size)
          clear hbel
          refine hK _ _ hS ?_; clear hK K
          try simp only [List.getElem_toArray, List.getElem_cons_succ, List.getElem_cons_zero, Act.put, List.setIfInBounds_toArray, List.set_cons_zero, List.set_cons_succ]
          refine rg_take 43 (v := ?_) rfl (by kernel_rfl) (by kernel_rfl) (by kernel_rfl) hS rfl ?_ ?_
          rotate_left
          · intro wS hSw; go_simp; (with_reducible rfl)
          simp only [List.getElem_toArray, List.getElem_cons_succ, List.getElem_cons_zero, Act.put, List.setIfInBounds_toArray, List.set_cons_zero, List.set_cons_succ]
          refine rg_take 44 (v := ?_) rfl (by kernel_rfl) (by kernel_rfl) (by kernel_rfl) hS rfl ?_ ?_
          rotate_left
          · intro wS hSw; go_simp; (with_reducible rfl)
          simp only [List.getElem_toArray, List.getElem_cons_succ, List.getElem_cons_zero, Act.put, List.setIfInBounds_toArray, List.set_cons_zero, List.set_cons_succ]
          refine rg_end (by kernel_rfl) ?_
          go_wp2_with (first | (with_reducible refine hold_append ?_) | (with_reducible refine hold_make ?_) | (with_reducible refine hold_copy ?_))
          go_ret
          exact ⟨rfl, toB _ hS⟩
end Go.PH
end

/- Texts laid together: GtTurn, GtCount, GtTo. -/
import Derived.Test.YtcfhnnbgghbjfaaMg02
import Derived.Test.YtcfhnnbgghbjfaaMg13
section
/- The walks of gtx's own, ends, to; of the reference's Copy, ends, abort. -/
set_option linter.all false
set_option linter.unusedSimpArgs false
set_option linter.unusedVariables false
namespace Go.PH
open Go.RowKit Go.Proofs

theorem gl_one {f st wt tr : Int} {g h : ByteArray} {com : Bool} {A : Option Addr} {n c : Nat} : ∀ u ∈ [Value.int .u32 f, .string g, .string h, .int .u8 st, .bool com, .slice A n c, .int .u32 wt, .int .u32 tr], u.oneCell' = true := by
  simp
  exact ⟨rfl, rfl, rfl, rfl, rfl, rfl, rfl, rfl⟩
theorem below_box {w w1 w2 : World} {g : Nat} (hB : Below w.heap.size w w1) (hg : w1.grownBy w2 (some g)) (h : w.heap.size ≤ g) : Below w.heap.size w w2 := hB.grown hg hB.size (fun k hk => by injection hk with hk; omega)
theorem own_box {w1 w2 : World} {base t sz : Nat} {A : Option Addr} {n c : Nat} {xs : List Value} {g : Nat} (ho : Own w1 base t sz A n c xs) (hg : w1.grownBy w2 (some g)) (h : g < base) : Own w2 base t sz A n c xs := own_stays ho hg (fun k hk e => by injection e with e; have := (ho.blk_lt hk).1; omega)
set_option maxRecDepth 20000 in
set_option maxHeartbeats 1000000 in
theorem own_any (G : Gl) (A : Option Addr) (n c : Nat) (B : Nat) (w : World) (hr : RdP w B A n c G.parts) (hB : B ≤ w.heap.size) (hn : n ≤ 1000000000) :
    Calls Try.prog 39 #[.agg (glV G A n c)] w fun e w' => ∃ A2 c2, e = .returned (.agg (glV G A2 n c2)) ∧ OwnP w' w.heap.size A2 n c2 G.parts ∧ Below w.heap.size w w' := by
  have hcl := fun W hW => clonep_any A n c G.parts B W (hr.below' hW hB) hn
  obtain ⟨⟨f, g, h⟩, st, com, l, wt, tr⟩ := G
  simp only [glV] at hcl ⊢
  obtain ⟨hb0, hz0, hB0⟩ := box2_of w #[.int .u32 (f : Int), .string (str g), .string (str h), .int .u8 (st : Int), .bool com, .slice A n c, .int .u32 (wt : Int), .int .u32 (tr : Int)] #[.int .u32 0, .string ⟨#[]⟩, .string ⟨#[]⟩, .int .u8 0, .bool false, .slice none 0 0, .int .u32 0, .int .u32 0] 28 28
  obtain ⟨w0, hw0⟩ : ∃ w0, w0 = ((w.alloc (.cells #[.int .u32 (f : Int), .string (str g), .string (str h), .int .u8 (st : Int), .bool com, .slice A n c, .int .u32 (wt : Int), .int .u32 (tr : Int)] 28)).alloc (.cells #[.int .u32 0, .string ⟨#[]⟩, .string ⟨#[]⟩, .int .u8 0, .bool false, .slice none 0 0, .int .u32 0, .int .u32 0] 28)) := ⟨_, rfl⟩
  rw [← hw0] at hb0 hz0 hB0
  have hc0 := hcl w0 hB0
  clear hcl hr
  have x5 := hb0.cell (j := 5) rfl
  go_enter Try.func39, Try.ntmps39
  go_upto_region 1 with fail
  rw [← hw0]
  clear hw0
  go_wp2_with (first | (with_reducible refine hold_append ?_) | (with_reducible refine hold_make ?_) | (with_reducible refine hold_copy ?_) | (with_reducible refine hold_store ?_))
  refine hc0.mono ?_
  rintro e w1 ⟨A2, c2, rfl, ho1, hB1⟩
  have hz1 := hB0.size
  have ho2 := Own.base_le ho1 hz1
  have hb1 := hb0.below hB1
  have hzz := hz0.below hB1
  have hB01 := hB0.trans (hB1.mono hz1)
  have h0lt : w.heap.size < w0.heap.size := hb0.lt
  have h1lt : w.heap.size + 1 < w0.heap.size := hz0.lt
  clear hb0 hz0 x5 hB0 hB1
  go_wp2_with (first | (with_reducible refine hold_append ?_) | (with_reducible refine hold_make ?_) | (with_reducible refine hold_copy ?_) | (with_reducible refine hold_store ?_))
  refine unhold (wp_box (v := .slice A2 n c2) (vs := [.slice A2 n c2]) rfl rfl rfl rfl hb1 rfl (by kernel_rfl) (by simp) (by simp; rfl) #[.int .u32 (f : Int), .string (str g), .string (str h), .int .u8 (st : Int), .bool com, .slice A2 n c2, .int .u32 (wt : Int), .int .u32 (tr : Int)] (by simp) ?_)
  intro w2 hb2 hg2 _
  have hz2 := hzz.grown hg2 (by intro e; injection e with e; omega)
  have hB02 := below_box hB01 hg2 (Nat.le_refl _)
  have ho3 := own_box ho1 hg2 (by omega)
  have y0 := hb2.cell (j := 0) rfl
  have y1 := hb2.cell (j := 1) rfl
  have y2 := hb2.cell (j := 2) rfl
  have y3 := hb2.cell (j := 3) rfl
  have y4 := hb2.cell (j := 4) rfl
  have y5 := hb2.cell (j := 5) rfl
  have y6 := hb2.cell (j := 6) rfl
  have y7 := hb2.cell (j := 7) rfl
  go_wp2_with (first | (with_reducible refine hold_append ?_) | (with_reducible refine hold_make ?_) | (with_reducible refine hold_copy ?_) | (with_reducible refine hold_store ?_))
  refine unhold (wp_box (v := .agg #[.int .u32 (f : Int), .string (str g), .string (str h), .int .u8 (st : Int), .bool com, .slice A2 n c2, .int .u32 (wt : Int), .int .u32 (tr : Int)]) (vs := [.int .u32 (f : Int), .string (str g), .string (str h), .int .u8 (st : Int), .bool com, .slice A2 n c2, .int .u32 (wt : Int), .int .u32 (tr : Int)]) rfl rfl rfl rfl hz2 rfl (by kernel_rfl) (by simp) gl_one #[.int .u32 (f : Int), .string (str g), .string (str h), .int .u8 (st : Int), .bool com, .slice A2 n c2, .int .u32 (wt : Int), .int .u32 (tr : Int)] (by simp) ?_)
  intro w3 hb3 hg3 _
  have hB03 := below_box hB02 hg3 (by omega)
  have ho4 := own_box ho3 hg3 (by omega)
  go_wp2_with (first | (with_reducible refine hold_append ?_) | (with_reducible refine hold_make ?_) | (with_reducible refine hold_copy ?_))
  refine ret_box1 rfl hb3 rfl Try.underlying28 rfl (by kernel_rfl) rfl ?_
  exact ⟨A2, c2, rfl, Own.base_le ho4 hz1, hB03⟩
set_option maxRecDepth 20000 in
set_option maxHeartbeats 1000000 in
theorem rcopy_any (G : Gl) (A : Option Addr) (n c : Nat) (B : Nat) (w : World) (hr : RdP w B A n c G.parts) (hB : B ≤ w.heap.size) (hn : n ≤ 1000000000) :
    Calls Try.prog 11 #[.agg (glV G A n c)] w fun e w' => ∃ A2 c2, e = .returned (.agg (glV G A2 n c2)) ∧ OwnP w' w.heap.size A2 n c2 G.parts ∧ Below w.heap.size w w' := by
  have hl := rec_length ptShape hr
  obtain ⟨⟨f, g, h⟩, st, com, l, wt, tr⟩ := G
  simp only [glV] at hr hl ⊢
  obtain ⟨hb0, hz0, hB0⟩ := box2_of w #[.int .u32 (f : Int), .string (str g), .string (str h), .int .u8 (st : Int), .bool com, .slice A n c, .int .u32 (wt : Int), .int .u32 (tr : Int)] #[.int .u32 0, .string ⟨#[]⟩, .string ⟨#[]⟩, .int .u8 0, .bool false, .slice none 0 0, .int .u32 0, .int .u32 0] 28 28
  obtain ⟨w0, hw0⟩ : ∃ w0, w0 = ((w.alloc (.cells #[.int .u32 (f : Int), .string (str g), .string (str h), .int .u8 (st : Int), .bool com, .slice A n c, .int .u32 (wt : Int), .int .u32 (tr : Int)] 28)).alloc (.cells #[.int .u32 0, .string ⟨#[]⟩, .string ⟨#[]⟩, .int .u8 0, .bool false, .slice none 0 0, .int .u32 0, .int .u32 0] 28)) := ⟨_, rfl⟩
  rw [← hw0] at hb0 hz0 hB0
  have hr0 := hr.below' hB0 hB
  have hz1 := hB0.size
  have h0lt : w.heap.size < w0.heap.size := hb0.lt
  have h1lt : w.heap.size + 1 < w0.heap.size := hz0.lt
  have x5 := hb0.cell (j := 5) rfl
  clear hr
  go_enter Try.func11, Try.ntmps11
  go_upto_region 2 with fail
  rw [← hw0]
  clear hw0
  go_wp2_with (first | (with_reducible refine hold_append ?_) | (with_reducible refine hold_make ?_) | (with_reducible refine hold_copy ?_) | (with_reducible refine hold_store ?_))
  refine unhold (wp_app (base := w0.heap.size) slP rfl rfl rfl rfl (Own.none_ w0 w0.heap.size _ _) hr0 (rowC_one ptShape _) (by omega) (by simp [maxLen]; omega) (Nat.le_refl _) ?_)
  intro A2 c2 w1 ho1 hg1 _
  simp only [Nat.zero_add, List.nil_append] at ho1 ⊢
  have hb1 := hb0.grown hg1 (by intro e; cases e)
  have hzz := hz0.grown hg1 (by intro e; cases e)
  have hB01 := hB0.grown hg1 hz1 (fun g e => by cases e)
  clear hb0 hz0 x5
  go_wp2_with (first | (with_reducible refine hold_append ?_) | (with_reducible refine hold_make ?_) | (with_reducible refine hold_copy ?_) | (with_reducible refine hold_store ?_))
  refine unhold (wp_box (v := .slice A2 n c2) (vs := [.slice A2 n c2]) rfl rfl rfl rfl hb1 rfl (by kernel_rfl) (by simp) (by simp; rfl) #[.int .u32 (f : Int), .string (str g), .string (str h), .int .u8 (st : Int), .bool com, .slice A2 n c2, .int .u32 (wt : Int), .int .u32 (tr : Int)] (by simp) ?_)
  intro w2 hb2 hg2 _
  have hz2 := hzz.grown hg2 (by intro e; injection e with e; omega)
  have hB02 := below_box hB01 hg2 (Nat.le_refl _)
  have ho3 := own_box ho1 hg2 (by omega)
  have y0 := hb2.cell (j := 0) rfl
  have y1 := hb2.cell (j := 1) rfl
  have y2 := hb2.cell (j := 2) rfl
  have y3 := hb2.cell (j := 3) rfl
  have y4 := hb2.cell (j := 4) rfl
  have y5 := hb2.cell (j := 5) rfl
  have y6 := hb2.cell (j := 6) rfl
  have y7 := hb2.cell (j := 7) rfl
  go_wp2_with (first | (with_reducible refine hold_append ?_) | (with_reducible refine hold_make ?_) | (with_reducible refine hold_copy ?_) | (with_reducible refine hold_store ?_))
  refine unhold (wp_box (v := .agg #[.int .u32 (f : Int), .string (str g), .string (str h), .int .u8 (st : Int), .bool com, .slice A2 n c2, .int .u32 (wt : Int), .int .u32 (tr : Int)]) (vs := [.int .u32 (f : Int), .string (str g), .string (str h), .int .u8 (st : Int), .bool com, .slice A2 n c2, .int .u32 (wt : Int), .int .u32 (tr : Int)]) rfl rfl rfl rfl hz2 rfl (by kernel_rfl) (by simp) gl_one #[.int .u32 (f : Int), .string (str g), .string (str h), .int .u8 (st : Int), .bool com, .slice A2 n c2, .int .u32 (wt : Int), .int .u32 (tr : Int)] (by simp) ?_)
  intro w3 hb3 hg3 _
  have hB03 := below_box hB02 hg3 (by omega)
  have ho4 := own_box ho3 hg3 (by omega)
  go_wp2_with (first | (with_reducible refine hold_append ?_) | (with_reducible refine hold_make ?_) | (with_reducible refine hold_copy ?_))
  refine ret_box1 rfl hb3 rfl Try.underlying28 rfl (by kernel_rfl) rfl ?_
  exact ⟨A2, c2, rfl, Own.base_le ho4 hz1, hB03⟩
set_option maxRecDepth 20000 in
set_option maxHeartbeats 2000000 in
theorem ends_any (G : Gl) (A : Option Addr) (n c : Nat) (B : Nat) (w : World) (hr : RdP w B A n c G.parts) (hB : B ≤ w.heap.size) (h0 : 0 < n) (hn : n ≤ 1000000000) :
    Calls Try.prog 44 #[.agg (glV G A n c)] w fun e w' => e = .returned (.agg (glV G.ends A n c)) ∧ Below w.heap.size w w' := by
  have hso := fun W hW => some_lit [0, 1] A n c G.parts B W (hr.below' hW hB) (Nat.le_trans hB hW.size) h0 hn (by simp) (by simp)
  obtain ⟨V, hV⟩ : ∃ V, V = glV G.ends A n c := ⟨_, rfl⟩
  rw [← hV]
  have HV : Hid (V = if (G.st = 3 ∨ G.st = 4) ∧ hasSt [0, 1] G.parts = false then glV { G with st := 5, wait := 0, tries := 0 } A n c else glV G A n c) := Lib.hid (by rw [hV]; unfold Gl.ends; split <;> rfl)
  clear hV hr
  generalize hasSt [0, 1] G.parts = r at *
  obtain ⟨⟨f, g, h⟩, st, com, l, wt, tr⟩ := G
  simp only [glV] at HV ⊢
  obtain ⟨hb0, hz0, hB0⟩ := box2_of w #[.int .u32 (f : Int), .string (str g), .string (str h), .int .u8 (st : Int), .bool com, .slice A n c, .int .u32 (wt : Int), .int .u32 (tr : Int)] #[.int .u32 0, .string ⟨#[]⟩, .string ⟨#[]⟩, .int .u8 0, .bool false, .slice none 0 0, .int .u32 0, .int .u32 0] 28 28
  obtain ⟨w0, hw0⟩ : ∃ w0, w0 = ((w.alloc (.cells #[.int .u32 (f : Int), .string (str g), .string (str h), .int .u8 (st : Int), .bool com, .slice A n c, .int .u32 (wt : Int), .int .u32 (tr : Int)] 28)).alloc (.cells #[.int .u32 0, .string ⟨#[]⟩, .string ⟨#[]⟩, .int .u8 0, .bool false, .slice none 0 0, .int .u32 0, .int .u32 0] 28)) := ⟨_, rfl⟩
  rw [← hw0] at hb0 hz0 hB0
  have hs0 := hso w0 hB0
  clear hso
  have x0 := hb0.cell (j := 0) rfl
  have x1 := hb0.cell (j := 1) rfl
  have x2 := hb0.cell (j := 2) rfl
  have x3 := hb0.cell (j := 3) rfl
  have x4 := hb0.cell (j := 4) rfl
  have x5 := hb0.cell (j := 5) rfl
  have x6 := hb0.cell (j := 6) rfl
  have x7 := hb0.cell (j := 7) rfl
  go_enter Try.func44, Try.ntmps44
  go_upto_region 1 with fail
  rw [← hw0]
  clear hw0
  by_cases s3 : st = 3
  · subst s3
    go_wp2_with (first | (with_reducible refine hold_append ?_) | (with_reducible refine hold_make ?_) | (with_reducible refine hold_copy ?_) | (with_reducible refine hold_store ?_))
    refine hs0.mono ?_
    rintro e w1 ⟨rfl, hB1⟩
    have hb1 := hb0.below hB1
    have hzz := hz0.below hB1
    have hB01 := hB0.trans (hB1.mono hB0.size)
    clear hb0 hz0 x0 x1 x2 x3 x4 x5 x6 x7
    cases r
    · have HE : Hid (V = #[.int .u32 (f : Int), .string (str g), .string (str h), .int .u8 5, .bool com, .slice A n c, .int .u32 0, .int .u32 0]) := Lib.hid (by rw [HV.out]; simp)
      go_wp2_with (first | (with_reducible refine hold_append ?_) | (with_reducible refine hold_make ?_) | (with_reducible refine hold_copy ?_) | (with_reducible refine hold_store ?_))
      refine unhold (wp_box (v := .int .u8 5) (vs := [.int .u8 5]) rfl rfl rfl rfl hb1 rfl (by kernel_rfl) (by simp) (by simp; rfl) #[.int .u32 (f : Int), .string (str g), .string (str h), .int .u8 5, .bool com, .slice A n c, .int .u32 (wt : Int), .int .u32 (tr : Int)] (by simp) ?_)
      intro w2 hb2 hg2 _
      have hz2 := (hzz).grown hg2 (by intro e; injection e with e; omega)
      have hB02 := below_box hB01 hg2 (Nat.le_refl _)
      go_wp2_with (first | (with_reducible refine hold_append ?_) | (with_reducible refine hold_make ?_) | (with_reducible refine hold_copy ?_) | (with_reducible refine hold_store ?_))
      refine unhold (wp_box (v := .int .u32 0) (vs := [.int .u32 0]) rfl rfl rfl rfl hb2 rfl (by kernel_rfl) (by simp) (by simp; rfl) #[.int .u32 (f : Int), .string (str g), .string (str h), .int .u8 5, .bool com, .slice A n c, .int .u32 0, .int .u32 (tr : Int)] (by simp) ?_)
      intro w3 hb3 hg3 _
      have hz3 := hz2.grown hg3 (by intro e; injection e with e; omega)
      have hB03 := below_box hB02 hg3 (Nat.le_refl _)
      go_wp2_with (first | (with_reducible refine hold_append ?_) | (with_reducible refine hold_make ?_) | (with_reducible refine hold_copy ?_) | (with_reducible refine hold_store ?_))
      refine unhold (wp_box (v := .int .u32 0) (vs := [.int .u32 0]) rfl rfl rfl rfl hb3 rfl (by kernel_rfl) (by simp) (by simp; rfl) #[.int .u32 (f : Int), .string (str g), .string (str h), .int .u8 5, .bool com, .slice A n c, .int .u32 0, .int .u32 0] (by simp) ?_)
      intro w4 hb4 hg4 _
      have hz4 := hz3.grown hg4 (by intro e; injection e with e; omega)
      have hB04 := below_box hB03 hg4 (Nat.le_refl _)
      clear hb2 hb3 hz2 hz3
      have y0 := hb4.cell (j := 0) rfl
      have y1 := hb4.cell (j := 1) rfl
      have y2 := hb4.cell (j := 2) rfl
      have y3 := hb4.cell (j := 3) rfl
      have y4 := hb4.cell (j := 4) rfl
      have y5 := hb4.cell (j := 5) rfl
      have y6 := hb4.cell (j := 6) rfl
      have y7 := hb4.cell (j := 7) rfl
      go_wp2_with (first | (with_reducible refine hold_append ?_) | (with_reducible refine hold_make ?_) | (with_reducible refine hold_copy ?_) | (with_reducible refine hold_store ?_))
      refine unhold (wp_box (v := .agg #[.int .u32 (f : Int), .string (str g), .string (str h), .int .u8 5, .bool com, .slice A n c, .int .u32 0, .int .u32 0]) (vs := [.int .u32 (f : Int), .string (str g), .string (str h), .int .u8 5, .bool com, .slice A n c, .int .u32 0, .int .u32 0]) rfl rfl rfl rfl hz4 rfl (by kernel_rfl) (by simp) gl_one #[.int .u32 (f : Int), .string (str g), .string (str h), .int .u8 5, .bool com, .slice A n c, .int .u32 0, .int .u32 0] (by simp) ?_)
      intro w5 hb5 hg5 _
      have hB05 := below_box hB04 hg5 (by omega)
      go_wp2_with (first | (with_reducible refine hold_append ?_) | (with_reducible refine hold_make ?_) | (with_reducible refine hold_copy ?_))
      refine ret_box1 rfl hb5 rfl Try.underlying28 rfl (by kernel_rfl) rfl ?_
      rw [HE.out]
      exact ⟨rfl, hB05⟩
    · have HE : Hid (V = #[.int .u32 (f : Int), .string (str g), .string (str h), .int .u8 3, .bool com, .slice A n c, .int .u32 (wt : Int), .int .u32 (tr : Int)]) := Lib.hid (by rw [HV.out]; simp)
      have y0 := hb1.cell (j := 0) rfl
      have y1 := hb1.cell (j := 1) rfl
      have y2 := hb1.cell (j := 2) rfl
      have y3 := hb1.cell (j := 3) rfl
      have y4 := hb1.cell (j := 4) rfl
      have y5 := hb1.cell (j := 5) rfl
      have y6 := hb1.cell (j := 6) rfl
      have y7 := hb1.cell (j := 7) rfl
      go_wp2_with (first | (with_reducible refine hold_append ?_) | (with_reducible refine hold_make ?_) | (with_reducible refine hold_copy ?_) | (with_reducible refine hold_store ?_))
      refine unhold (wp_box (v := .agg #[.int .u32 (f : Int), .string (str g), .string (str h), .int .u8 3, .bool com, .slice A n c, .int .u32 (wt : Int), .int .u32 (tr : Int)]) (vs := [.int .u32 (f : Int), .string (str g), .string (str h), .int .u8 3, .bool com, .slice A n c, .int .u32 (wt : Int), .int .u32 (tr : Int)]) rfl rfl rfl rfl hzz rfl (by kernel_rfl) (by simp) gl_one #[.int .u32 (f : Int), .string (str g), .string (str h), .int .u8 3, .bool com, .slice A n c, .int .u32 (wt : Int), .int .u32 (tr : Int)] (by simp) ?_)
      intro w5 hb5 hg5 _
      have hB05 := below_box hB01 hg5 (by omega)
      go_wp2_with (first | (with_reducible refine hold_append ?_) | (with_reducible refine hold_make ?_) | (with_reducible refine hold_copy ?_))
      refine ret_box1 rfl hb5 rfl Try.underlying28 rfl (by kernel_rfl) rfl ?_
      rw [HE.out]
      exact ⟨rfl, hB05⟩
  · have q3 : ((st : Int) == 3) = false := by simp; omega
    by_cases s4 : st = 4
    · subst s4
      clear q3
      go_wp2_with (first | (with_reducible refine hold_append ?_) | (with_reducible refine hold_make ?_) | (with_reducible refine hold_copy ?_) | (with_reducible refine hold_store ?_))
      refine hs0.mono ?_
      rintro e w1 ⟨rfl, hB1⟩
      have hb1 := hb0.below hB1
      have hzz := hz0.below hB1
      have hB01 := hB0.trans (hB1.mono hB0.size)
      clear hb0 hz0 x0 x1 x2 x3 x4 x5 x6 x7
      cases r
      · have HE : Hid (V = #[.int .u32 (f : Int), .string (str g), .string (str h), .int .u8 5, .bool com, .slice A n c, .int .u32 0, .int .u32 0]) := Lib.hid (by rw [HV.out]; simp)
        go_wp2_with (first | (with_reducible refine hold_append ?_) | (with_reducible refine hold_make ?_) | (with_reducible refine hold_copy ?_) | (with_reducible refine hold_store ?_))
        refine unhold (wp_box (v := .int .u8 5) (vs := [.int .u8 5]) rfl rfl rfl rfl hb1 rfl (by kernel_rfl) (by simp) (by simp; rfl) #[.int .u32 (f : Int), .string (str g), .string (str h), .int .u8 5, .bool com, .slice A n c, .int .u32 (wt : Int), .int .u32 (tr : Int)] (by simp) ?_)
        intro w2 hb2 hg2 _
        have hz2 := (hzz).grown hg2 (by intro e; injection e with e; omega)
        have hB02 := below_box hB01 hg2 (Nat.le_refl _)
        go_wp2_with (first | (with_reducible refine hold_append ?_) | (with_reducible refine hold_make ?_) | (with_reducible refine hold_copy ?_) | (with_reducible refine hold_store ?_))
        refine unhold (wp_box (v := .int .u32 0) (vs := [.int .u32 0]) rfl rfl rfl rfl hb2 rfl (by kernel_rfl) (by simp) (by simp; rfl) #[.int .u32 (f : Int), .string (str g), .string (str h), .int .u8 5, .bool com, .slice A n c, .int .u32 0, .int .u32 (tr : Int)] (by simp) ?_)
        intro w3 hb3 hg3 _
        have hz3 := hz2.grown hg3 (by intro e; injection e with e; omega)
        have hB03 := below_box hB02 hg3 (Nat.le_refl _)
        go_wp2_with (first | (with_reducible refine hold_append ?_) | (with_reducible refine hold_make ?_) | (with_reducible refine hold_copy ?_) | (with_reducible refine hold_store ?_))
        refine unhold (wp_box (v := .int .u32 0) (vs := [.int .u32 0]) rfl rfl rfl rfl hb3 rfl (by kernel_rfl) (by simp) (by simp; rfl) #[.int .u32 (f : Int), .string (str g), .string (str h), .int .u8 5, .bool com, .slice A n c, .int .u32 0, .int .u32 0] (by simp) ?_)
        intro w4 hb4 hg4 _
        have hz4 := hz3.grown hg4 (by intro e; injection e with e; omega)
        have hB04 := below_box hB03 hg4 (Nat.le_refl _)
        clear hb2 hb3 hz2 hz3
        have y0 := hb4.cell (j := 0) rfl
        have y1 := hb4.cell (j := 1) rfl
        have y2 := hb4.cell (j := 2) rfl
        have y3 := hb4.cell (j := 3) rfl
        have y4 := hb4.cell (j := 4) rfl
        have y5 := hb4.cell (j := 5) rfl
        have y6 := hb4.cell (j := 6) rfl
        have y7 := hb4.cell (j := 7) rfl
        go_wp2_with (first | (with_reducible refine hold_append ?_) | (with_reducible refine hold_make ?_) | (with_reducible refine hold_copy ?_) | (with_reducible refine hold_store ?_))
        refine unhold (wp_box (v := .agg #[.int .u32 (f : Int), .string (str g), .string (str h), .int .u8 5, .bool com, .slice A n c, .int .u32 0, .int .u32 0]) (vs := [.int .u32 (f : Int), .string (str g), .string (str h), .int .u8 5, .bool com, .slice A n c, .int .u32 0, .int .u32 0]) rfl rfl rfl rfl hz4 rfl (by kernel_rfl) (by simp) gl_one #[.int .u32 (f : Int), .string (str g), .string (str h), .int .u8 5, .bool com, .slice A n c, .int .u32 0, .int .u32 0] (by simp) ?_)
        intro w5 hb5 hg5 _
        have hB05 := below_box hB04 hg5 (by omega)
        go_wp2_with (first | (with_reducible refine hold_append ?_) | (with_reducible refine hold_make ?_) | (with_reducible refine hold_copy ?_))
        refine ret_box1 rfl hb5 rfl Try.underlying28 rfl (by kernel_rfl) rfl ?_
        rw [HE.out]
        exact ⟨rfl, hB05⟩
      · have HE : Hid (V = #[.int .u32 (f : Int), .string (str g), .string (str h), .int .u8 4, .bool com, .slice A n c, .int .u32 (wt : Int), .int .u32 (tr : Int)]) := Lib.hid (by rw [HV.out]; simp)
        have y0 := hb1.cell (j := 0) rfl
        have y1 := hb1.cell (j := 1) rfl
        have y2 := hb1.cell (j := 2) rfl
        have y3 := hb1.cell (j := 3) rfl
        have y4 := hb1.cell (j := 4) rfl
        have y5 := hb1.cell (j := 5) rfl
        have y6 := hb1.cell (j := 6) rfl
        have y7 := hb1.cell (j := 7) rfl
        go_wp2_with (first | (with_reducible refine hold_append ?_) | (with_reducible refine hold_make ?_) | (with_reducible refine hold_copy ?_) | (with_reducible refine hold_store ?_))
        refine unhold (wp_box (v := .agg #[.int .u32 (f : Int), .string (str g), .string (str h), .int .u8 4, .bool com, .slice A n c, .int .u32 (wt : Int), .int .u32 (tr : Int)]) (vs := [.int .u32 (f : Int), .string (str g), .string (str h), .int .u8 4, .bool com, .slice A n c, .int .u32 (wt : Int), .int .u32 (tr : Int)]) rfl rfl rfl rfl hzz rfl (by kernel_rfl) (by simp) gl_one #[.int .u32 (f : Int), .string (str g), .string (str h), .int .u8 4, .bool com, .slice A n c, .int .u32 (wt : Int), .int .u32 (tr : Int)] (by simp) ?_)
        intro w5 hb5 hg5 _
        have hB05 := below_box hB01 hg5 (by omega)
        go_wp2_with (first | (with_reducible refine hold_append ?_) | (with_reducible refine hold_make ?_) | (with_reducible refine hold_copy ?_))
        refine ret_box1 rfl hb5 rfl Try.underlying28 rfl (by kernel_rfl) rfl ?_
        rw [HE.out]
        exact ⟨rfl, hB05⟩
    · have q4 : ((st : Int) == 4) = false := by simp; omega
      have HE : Hid (V = #[.int .u32 (f : Int), .string (str g), .string (str h), .int .u8 (st : Int), .bool com, .slice A n c, .int .u32 (wt : Int), .int .u32 (tr : Int)]) := Lib.hid (by rw [HV.out]; simp [s3, s4])
      have y0 := hb0.cell (j := 0) rfl
      have y1 := hb0.cell (j := 1) rfl
      have y2 := hb0.cell (j := 2) rfl
      have y3 := hb0.cell (j := 3) rfl
      have y4 := hb0.cell (j := 4) rfl
      have y5 := hb0.cell (j := 5) rfl
      have y6 := hb0.cell (j := 6) rfl
      have y7 := hb0.cell (j := 7) rfl
      go_wp2_with (first | (with_reducible refine hold_append ?_) | (with_reducible refine hold_make ?_) | (with_reducible refine hold_copy ?_) | (with_reducible refine hold_store ?_))
      refine unhold (wp_box (v := .agg #[.int .u32 (f : Int), .string (str g), .string (str h), .int .u8 (st : Int), .bool com, .slice A n c, .int .u32 (wt : Int), .int .u32 (tr : Int)]) (vs := [.int .u32 (f : Int), .string (str g), .string (str h), .int .u8 (st : Int), .bool com, .slice A n c, .int .u32 (wt : Int), .int .u32 (tr : Int)]) rfl rfl rfl rfl hz0 rfl (by kernel_rfl) (by simp) gl_one #[.int .u32 (f : Int), .string (str g), .string (str h), .int .u8 (st : Int), .bool com, .slice A n c, .int .u32 (wt : Int), .int .u32 (tr : Int)] (by simp) ?_)
      intro w5 hb5 hg5 _
      have hB05 := below_box hB0 hg5 (by omega)
      go_wp2_with (first | (with_reducible refine hold_append ?_) | (with_reducible refine hold_make ?_) | (with_reducible refine hold_copy ?_))
      refine ret_box1 rfl hb5 rfl Try.underlying28 rfl (by kernel_rfl) rfl ?_
      rw [HE.out]
      exact ⟨rfl, hB05⟩
end Go.PH
end
section
/- The walks of the reference's count, ends and abort; of gtx's to. -/
set_option linter.all false
set_option linter.unusedSimpArgs false
set_option linter.unusedVariables false
namespace Go.PH
open Go.RowKit Go.Proofs

/-- how many parts are in a state -/
def cnt (s : Nat) (l : List Pt) : Nat := l.countP fun p => decide (p.st = s)
theorem cnt_le (s : Nat) (l : List Pt) : cnt s l ≤ l.length := List.countP_le_length
theorem cnt_has (s : Nat) (l : List Pt) : hasSt [s] l = decide (0 < cnt s l) := by
  unfold hasSt cnt
  rw [Bool.eq_iff_iff]
  simp [List.countP_pos_iff]
theorem has_two (a b : Nat) (l : List Pt) : hasSt [a, b] l = (hasSt [a] l || hasSt [b] l) := by
  unfold hasSt
  rw [Bool.eq_iff_iff]
  simp only [List.any_eq_true, Bool.or_eq_true, List.contains_eq_mem, List.mem_cons, List.not_mem_nil, or_false, decide_eq_true_eq]
  constructor
  · rintro ⟨p, hp, h | h⟩
    · exact .inl ⟨p, hp, h⟩
    · exact .inr ⟨p, hp, h⟩
  · rintro (⟨p, hp, h⟩ | ⟨p, hp, h⟩)
    · exact ⟨p, hp, .inl h⟩
    · exact ⟨p, hp, .inr h⟩
theorem cnt_two (l : List Pt) : hasSt [0, 1] l = decide (0 < cnt 0 l + cnt 1 l) := by
  rw [has_two, cnt_has, cnt_has, Bool.eq_iff_iff]
  simp
  omega
set_option maxRecDepth 20000 in
set_option maxHeartbeats 1000000 in
theorem count_any (G : Gl) (s : Nat) (A : Option Addr) (n c : Nat) (B : Nat) (w : World) (hr : RdP w B A n c G.parts) (hB : B ≤ w.heap.size) (hn : n ≤ 1000000000) :
    Calls Try.prog 58 #[.agg (glV G A n c), .int .u8 (s : Int)] w fun e w' => e = .returned (.int .i64 (cnt s G.parts)) ∧ Below w.heap.size w w' := by
  have hl := rec_length ptShape hr
  obtain ⟨⟨f, g, h⟩, st, com, l, wt, tr⟩ := G
  simp only [glV] at hr hl ⊢
  have hB0 := (Below.refl w.heap.size w).alloc (Nat.le_refl _) (.cells #[.int .u32 (f : Int), .string (str g), .string (str h), .int .u8 (st : Int), .bool com, .slice A n c, .int .u32 (wt : Int), .int .u32 (tr : Int)] 28)
  have hb0 := Box.new w #[.int .u32 (f : Int), .string (str g), .string (str h), .int .u8 (st : Int), .bool com, .slice A n c, .int .u32 (wt : Int), .int .u32 (tr : Int)] 28
  have HL := Lib.hid hl
  clear hl
  go_enter Try.func58, Try.ntmps58
  go_wp2_with (first | (with_reducible refine hold_append ?_) | (with_reducible refine hold_make ?_) | (with_reducible refine hold_copy ?_))
  go_loopw [5, 6] (fun v s6 wr => ∃ (k m : Nat), k ≤ n ∧ m ≤ k ∧ v = .int .i64 m ∧ s6 = .int .i64 k ∧ Hid (cnt s (l.take k) = m) ∧ Box wr w.heap.size 28 #[.int .u32 (f : Int), .string (str g), .string (str h), .int .u8 (st : Int), .bool com, .slice A n c, .int .u32 (wt : Int), .int .u32 (tr : Int)] ∧ Below w.heap.size w wr) (fun _ s6 _ => n - (RowKit.intOf s6).toNat)
  case atStart => exact ⟨0, 0, by omega, by omega, rfl, rfl, Lib.hid (by simp [cnt]), hb0, hB0⟩
  case round =>
    clear hb0 hB0
    obtain ⟨k, m, hk, hm, rfl, rfl, HC, hb, hBr⟩ := hrel
    have x5 := hb.cell (j := 5) rfl
    by_cases hlt : k < n
    · have hkn : (k : Int) < (n : Int) := by omega
      obtain ⟨b, off, rfl, hbB, hkl, hc⟩ := rec_at ptShape (Rd.below hr (hBr.mono hB)) hlt
      have HT := Lib.hid (List.take_succ_eq_append_getElem hkl)
      have k4 := hc 4 _ rfl
      clear hc
      generalize l[k] = p at *
      obtain ⟨pn, px, ps⟩ := p
      simp only at k4
      by_cases hs : ps = s
      · have hd : ((ps : Int) == (s : Int)) = true := by simp [hs]
        have HC2 : Hid (cnt s (l.take (k + 1)) = m + 1) := Lib.hid (by rw [HT.out]; unfold cnt; rw [List.countP_append]; have := HC.out; unfold cnt at this; rw [this]; simp [hs])
        clear hs
        go_wp2_with (first | (with_reducible refine hold_append ?_) | (with_reducible refine hold_make ?_) | (with_reducible refine hold_copy ?_))
        exact ⟨⟨k + 1, m + 1, by omega, by omega, by go_num, by go_num, HC2, hb, hBr⟩, by simp [RowKit.intOf]; omega⟩
      · have hd : ((ps : Int) == (s : Int)) = false := by simp; omega
        have HC2 : Hid (cnt s (l.take (k + 1)) = m) := Lib.hid (by rw [HT.out]; unfold cnt; rw [List.countP_append]; have := HC.out; unfold cnt at this; rw [this]; simp [hs])
        clear hs
        go_wp2_with (first | (with_reducible refine hold_append ?_) | (with_reducible refine hold_make ?_) | (with_reducible refine hold_copy ?_))
        exact ⟨⟨k + 1, m, by omega, by omega, rfl, by go_num, HC2, hb, hBr⟩, by simp [RowKit.intOf]; omega⟩
    · obtain rfl : k = n := by omega
      have hres : cnt s l = m := by have := HC.out; rwa [← HL.out, List.take_length] at this
      go_wp2_with (first | (with_reducible refine hold_append ?_) | (with_reducible refine hold_make ?_) | (with_reducible refine hold_copy ?_))
      go_ret
      rw [hres]
      exact ⟨rfl, hBr⟩
end Go.PH
end
section
/- The walks of gtx's to; of the reference's ends and abort. -/
set_option linter.all false
set_option linter.unusedSimpArgs false
set_option linter.unusedVariables false
namespace Go.PH
open Go.RowKit Go.Proofs

theorem ends_parts (G : Gl) : G.ends.parts = G.parts := by unfold Gl.ends; split <;> rfl
theorem to_parts (G : Gl) (s : Nat) : (G.to s).parts = G.parts := by unfold Gl.to; rw [ends_parts]
set_option maxRecDepth 20000 in
set_option maxHeartbeats 1000000 in
theorem to_any (G : Gl) (s : Nat) (A : Option Addr) (n c : Nat) (B : Nat) (w : World) (hr : RdP w B A n c G.parts) (hB : B ≤ w.heap.size) (h0 : 0 < n) (hn : n ≤ 1000000000) :
    Calls Try.prog 43 #[.agg (glV G A n c), .int .u8 (s : Int)] w fun e w' => ∃ A2 c2, e = .returned (.agg (glV (G.to s) A2 n c2)) ∧ OwnP w' w.heap.size A2 n c2 G.parts ∧ Below w.heap.size w w' := by
  have how := fun W hW => own_any G A n c B W (hr.below' hW hB) (Nat.le_trans hB hW.size) hn
  have hen := fun A2 c2 W (h1 : RdP W W.heap.size A2 n c2 G.parts) => ends_any { G with st := s, wait := 0, tries := 0, com := decide (s = 3) } A2 n c2 W.heap.size W h1 (Nat.le_refl _) h0 hn
  have hcm : ((s : Int) == 3) = decide (s = 3) := by rw [Bool.eq_iff_iff]; simp; omega
  have hTo : G.to s = Gl.ends { G with st := s, wait := 0, tries := 0, com := decide (s = 3) } := rfl
  rw [hTo]
  generalize decide (s = 3) = cm at *
  obtain ⟨E, hE⟩ : ∃ E, E = Gl.ends { G with st := s, wait := 0, tries := 0, com := cm } := ⟨_, rfl⟩
  rw [← hE] at hen ⊢
  clear hE hTo hr
  obtain ⟨⟨f, g, h⟩, st, com, l, wt, tr⟩ := G
  simp only at how hen ⊢
  unfold glV at how ⊢
  simp only at how ⊢
  obtain ⟨hb0, hz0, hB0⟩ := box2_of w #[.int .u32 (f : Int), .string (str g), .string (str h), .int .u8 (st : Int), .bool com, .slice A n c, .int .u32 (wt : Int), .int .u32 (tr : Int)] #[.int .u32 0, .string ⟨#[]⟩, .string ⟨#[]⟩, .int .u8 0, .bool false, .slice none 0 0, .int .u32 0, .int .u32 0] 28 28
  obtain ⟨w0, hw0⟩ : ∃ w0, w0 = ((w.alloc (.cells #[.int .u32 (f : Int), .string (str g), .string (str h), .int .u8 (st : Int), .bool com, .slice A n c, .int .u32 (wt : Int), .int .u32 (tr : Int)] 28)).alloc (.cells #[.int .u32 0, .string ⟨#[]⟩, .string ⟨#[]⟩, .int .u8 0, .bool false, .slice none 0 0, .int .u32 0, .int .u32 0] 28)) := ⟨_, rfl⟩
  rw [← hw0] at hb0 hz0 hB0
  have how0 := how w0 hB0
  have h0lt : w.heap.size < w0.heap.size := hb0.lt
  have h1lt : w.heap.size + 1 < w0.heap.size := hz0.lt
  clear how
  have x0 := hb0.cell (j := 0) rfl
  have x1 := hb0.cell (j := 1) rfl
  have x2 := hb0.cell (j := 2) rfl
  have x3 := hb0.cell (j := 3) rfl
  have x4 := hb0.cell (j := 4) rfl
  have x5 := hb0.cell (j := 5) rfl
  have x6 := hb0.cell (j := 6) rfl
  have x7 := hb0.cell (j := 7) rfl
  go_enter Try.func43, Try.ntmps43
  go_upto_region 1 with fail
  rw [← hw0]
  clear hw0
  go_wp2_with (first | (with_reducible refine hold_append ?_) | (with_reducible refine hold_make ?_) | (with_reducible refine hold_copy ?_) | (with_reducible refine hold_store ?_))
  refine how0.mono ?_
  rintro e w1 ⟨A2, c2, rfl, ho1, hB1⟩
  have hb1 := hb0.below hB1
  have hz1 := hz0.below hB1
  have hB01 := hB0.trans (hB1.mono hB0.size)
  have hsz := hB0.size
  clear hb0 hz0 x0 x1 x2 x3 x4 x5 x6 x7 how0
  go_wp2_with (first | (with_reducible refine hold_append ?_) | (with_reducible refine hold_make ?_) | (with_reducible refine hold_copy ?_) | (with_reducible refine hold_store ?_))
  refine unhold (wp_box (v := .agg #[.int .u32 (f : Int), .string (str g), .string (str h), .int .u8 (st : Int), .bool com, .slice A2 n c2, .int .u32 (wt : Int), .int .u32 (tr : Int)]) (vs := [.int .u32 (f : Int), .string (str g), .string (str h), .int .u8 (st : Int), .bool com, .slice A2 n c2, .int .u32 (wt : Int), .int .u32 (tr : Int)]) rfl rfl rfl rfl hb1 rfl (by kernel_rfl) (by simp) gl_one #[.int .u32 (f : Int), .string (str g), .string (str h), .int .u8 (st : Int), .bool com, .slice A2 n c2, .int .u32 (wt : Int), .int .u32 (tr : Int)] (by simp) ?_)
  intro w2 hb2 hg2 _
  have hz2 := hz1.grown hg2 (by intro e; injection e with e; omega)
  have hB02 := below_box hB01 hg2 (Nat.le_refl _)
  have ho2 := own_box ho1 hg2 (by omega)
  go_wp2_with (first | (with_reducible refine hold_append ?_) | (with_reducible refine hold_make ?_) | (with_reducible refine hold_copy ?_) | (with_reducible refine hold_store ?_))
  refine unhold (wp_box (v := .int .u8 (s : Int)) (vs := [.int .u8 (s : Int)]) rfl rfl rfl rfl hb2 rfl (by kernel_rfl) (by simp) (by simp; rfl) #[.int .u32 (f : Int), .string (str g), .string (str h), .int .u8 (s : Int), .bool com, .slice A2 n c2, .int .u32 (wt : Int), .int .u32 (tr : Int)] (by simp) ?_)
  intro w3 hb3 hg3 _
  have hz3 := hz2.grown hg3 (by intro e; injection e with e; omega)
  have hB03 := below_box hB02 hg3 (Nat.le_refl _)
  have ho3 := own_box ho2 hg3 (by omega)
  go_wp2_with (first | (with_reducible refine hold_append ?_) | (with_reducible refine hold_make ?_) | (with_reducible refine hold_copy ?_) | (with_reducible refine hold_store ?_))
  refine unhold (wp_box (v := .int .u32 0) (vs := [.int .u32 0]) rfl rfl rfl rfl hb3 rfl (by kernel_rfl) (by simp) (by simp; rfl) #[.int .u32 (f : Int), .string (str g), .string (str h), .int .u8 (s : Int), .bool com, .slice A2 n c2, .int .u32 0, .int .u32 (tr : Int)] (by simp) ?_)
  intro w4 hb4 hg4 _
  have hz4 := hz3.grown hg4 (by intro e; injection e with e; omega)
  have hB04 := below_box hB03 hg4 (Nat.le_refl _)
  have ho4 := own_box ho3 hg4 (by omega)
  go_wp2_with (first | (with_reducible refine hold_append ?_) | (with_reducible refine hold_make ?_) | (with_reducible refine hold_copy ?_) | (with_reducible refine hold_store ?_))
  refine unhold (wp_box (v := .int .u32 0) (vs := [.int .u32 0]) rfl rfl rfl rfl hb4 rfl (by kernel_rfl) (by simp) (by simp; rfl) #[.int .u32 (f : Int), .string (str g), .string (str h), .int .u8 (s : Int), .bool com, .slice A2 n c2, .int .u32 0, .int .u32 0] (by simp) ?_)
  intro w5 hb5 hg5 _
  have hz5 := hz4.grown hg5 (by intro e; injection e with e; omega)
  have hB05 := below_box hB04 hg5 (Nat.le_refl _)
  have ho5 := own_box ho4 hg5 (by omega)
  go_wp2_with (first | (with_reducible refine hold_append ?_) | (with_reducible refine hold_make ?_) | (with_reducible refine hold_copy ?_) | (with_reducible refine hold_store ?_))
  refine unhold (wp_box (v := .bool cm) (vs := [.bool cm]) rfl rfl rfl rfl hb5 rfl (by kernel_rfl) (by simp) (by simp; rfl) #[.int .u32 (f : Int), .string (str g), .string (str h), .int .u8 (s : Int), .bool cm, .slice A2 n c2, .int .u32 0, .int .u32 0] (by simp) ?_)
  intro w6 hb6 hg6 _
  have hz6 := hz5.grown hg6 (by intro e; injection e with e; omega)
  have hB06 := below_box hB05 hg6 (Nat.le_refl _)
  have ho6 := own_box ho5 hg6 (by omega)
  have hen6 := hen A2 c2 w6 ho6.rd
  unfold glV at hen6
  simp only at hen6
  clear hb1 hb2 hb3 hb4 hb5 hz1 hz2 hz3 hz4 hz5 hen
  have y0 := hb6.cell (j := 0) rfl
  have y1 := hb6.cell (j := 1) rfl
  have y2 := hb6.cell (j := 2) rfl
  have y3 := hb6.cell (j := 3) rfl
  have y4 := hb6.cell (j := 4) rfl
  have y5 := hb6.cell (j := 5) rfl
  have y6 := hb6.cell (j := 6) rfl
  have y7 := hb6.cell (j := 7) rfl
  go_wp2_with (first | (with_reducible refine hold_append ?_) | (with_reducible refine hold_make ?_) | (with_reducible refine hold_copy ?_) | (with_reducible refine hold_store ?_))
  refine hen6.mono ?_
  rintro e w7 ⟨rfl, hB7⟩
  have hz7 := hz6.below hB7
  have ho7 := own_below ho6 hB7
  have hB07 := hB06.trans (hB7.mono hB06.size)
  clear hen6
  obtain ⟨⟨ef, eg, eh⟩, est, ecom, el, ewt, etr⟩ := E
  simp only at *
  go_wp2_with (first | (with_reducible refine hold_append ?_) | (with_reducible refine hold_make ?_) | (with_reducible refine hold_copy ?_) | (with_reducible refine hold_store ?_))
  refine unhold (wp_box (v := .agg #[.int .u32 (ef : Int), .string (str eg), .string (str eh), .int .u8 (est : Int), .bool ecom, .slice A2 n c2, .int .u32 (ewt : Int), .int .u32 (etr : Int)]) (vs := [.int .u32 (ef : Int), .string (str eg), .string (str eh), .int .u8 (est : Int), .bool ecom, .slice A2 n c2, .int .u32 (ewt : Int), .int .u32 (etr : Int)]) rfl rfl rfl rfl hz7 rfl (by kernel_rfl) (by simp) gl_one #[.int .u32 (ef : Int), .string (str eg), .string (str eh), .int .u8 (est : Int), .bool ecom, .slice A2 n c2, .int .u32 (ewt : Int), .int .u32 (etr : Int)] (by simp) ?_)
  intro w8 hb8 hg8 _
  have hB08 := below_box hB07 hg8 (by omega)
  have ho8 := own_box ho7 hg8 (by omega)
  go_wp2_with (first | (with_reducible refine hold_append ?_) | (with_reducible refine hold_make ?_) | (with_reducible refine hold_copy ?_))
  refine ret_box1 rfl hb8 rfl Try.underlying28 rfl (by kernel_rfl) rfl ?_
  exact ⟨A2, c2, rfl, Own.base_le ho8 hsz, hB08⟩
end Go.PH
end

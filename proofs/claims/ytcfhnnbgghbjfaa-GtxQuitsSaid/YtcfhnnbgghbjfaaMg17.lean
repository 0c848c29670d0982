/- Texts laid together: GtTick. -/
import Derived.Test.YtcfhnnbgghbjfaaMg01
import Derived.Test.YtcfhnnbgghbjfaaMg15
section
/- The walk of gtx's Tick. -/
set_option linter.all false
set_option linter.unusedSimpArgs false
set_option linter.unusedVariables false
namespace Go.PH
open Go.RowKit Go.Proofs

/-- what Tick answers -/
def TickR (w : World) (res : Gl × Bool × Nat) (e : Ending) (w' : World) : Prop := ∃ A2 n2 c2, e = .returned (.tuple #[.agg (glV res.1 A2 n2 c2), .bool res.2.1, .int .i64 (res.2.2 : Int)]) ∧ OwnP w' w.heap.size A2 n2 c2 res.1.parts ∧ n2 ≤ 1000000000 ∧ Below w.heap.size w w'
theorem to4_facts (G : Gl) : (G.to 4).tries = 0 ∧ (G.to 4).wait = 0 ∧ ((G.to 4).st = 4 ∨ (G.to 4).st = 5) := by
  unfold Gl.to Gl.ends
  split <;> simp
theorem tick_cases (G : Gl) : G.tick = if G.ok = false then (gl0, false, 270) else if (G.st : Int) = 1 ∨ (G.st : Int) = 5 then (G, false, 0) else if 0 < G.wait then ({ G with wait := G.wait - 1 }, false, 0) else if (G.st : Int) = 2 ∧ G.tries = 5 then (if (G.to 4).st = 5 then (G.to 4, true, 0) else ({ G.to 4 with wait := 2, tries := 1 }, true, 0)) else ({ G with wait := 2, tries := min (G.tries + 1) 5 }, true, 0) := by
  unfold Gl.tick
  simp only [show ((G.st : Int) = 1) = (G.st = 1) from by simp; omega, show ((G.st : Int) = 5) = (G.st = 5) from by simp; omega, show ((G.st : Int) = 2) = (G.st = 2) from by simp; omega]
  by_cases h1 : G.ok = false
  · rw [if_pos h1, if_pos h1]
  · rw [if_neg h1, if_neg h1]
    by_cases h2 : G.st = 1 ∨ G.st = 5
    · rw [if_pos h2, if_pos h2]
    · rw [if_neg h2, if_neg h2]
      by_cases h3 : 0 < G.wait
      · rw [if_pos h3, if_pos h3]
      · rw [if_neg h3, if_neg h3]
        by_cases h4 : G.st = 2 ∧ G.tries = 5
        · simp only [if_pos h4]
          have h0 := (to4_facts G).1
          by_cases h5 : (G.to 4).st = 5
          · rw [if_pos ⟨h4.1, h4.2, h5⟩, if_pos h5]
          · rw [if_neg (fun h => h5 h.2.2), if_neg h5, h0]; rfl
        · simp only [if_neg h4]
          rw [if_neg (fun h => h4 ⟨h.1, h.2.1⟩)]
theorem ok_tries {G : Gl} (h : G.ok = true) : G.tries ≤ 5 := by
  simp only [Gl.ok, Bool.and_eq_true, decide_eq_true_eq] at h
  exact h.1.2
set_option maxRecDepth 20000 in
set_option maxHeartbeats 4000000 in
theorem tick_any (G : Gl) (A : Option Addr) (n c : Nat) (B : Nat) (w : World) (hG : G.wf) (hr : RdP w B A n c G.parts) (hB : B ≤ w.heap.size) (hn : n ≤ 1000000000) :
    Calls Try.prog 31 #[.agg (glV G A n c)] w fun e w' => TickR w G.tick e w' := by
  obtain ⟨RS, hRS⟩ : ∃ RS, RS = G.tick := ⟨_, rfl⟩
  rw [← hRS]
  have HRS : Hid (RS = if G.ok = false then (gl0, false, 270) else if (G.st : Int) = 1 ∨ (G.st : Int) = 5 then (G, false, 0) else if 0 < G.wait then ({ G with wait := G.wait - 1 }, false, 0) else if (G.st : Int) = 2 ∧ G.tries = 5 then (if (G.to 4).st = 5 then (G.to 4, true, 0) else ({ G.to 4 with wait := 2, tries := 1 }, true, 0)) else ({ G with wait := 2, tries := min (G.tries + 1) 5 }, true, 0)) := Lib.hid (by rw [hRS]; exact tick_cases G)
  clear hRS
  have hl := rec_length ptShape hr
  have HN : Hid (G.ok = true → 0 < n) := Lib.hid (fun h => ok_pos h hl)
  have HE : Hid (G.err = if G.ok then 0 else 270) := Lib.hid rfl
  have HTR : Hid (G.ok = true → G.tries ≤ 5) := Lib.hid ok_tries
  have H4 : Hid ((G.to 4).tries = 0 ∧ (G.to 4).wait = 0 ∧ ((G.to 4).st = 4 ∨ (G.to 4).st = 5)) := Lib.hid (to4_facts G)
  have HP4 : Hid ((G.to 4).parts = G.parts) := Lib.hid (to_parts G 4)
  have hwt := hG.2.2.2.1
  have htr := hG.2.2.2.2
  have hck := fun W hW => gcheck_any G A n c B W hG (hr.below' hW hB) (Nat.le_trans hB hW.size) hn
  have how := fun W hW => own_any G A n c B W (hr.below' hW hB) (Nat.le_trans hB hW.size) hn
  have hto := fun A2 c2 W h0 (h1 : RdP W W.heap.size A2 n c2 G.parts) => to_any G 4 A2 n c2 W.heap.size W h1 (Nat.le_refl _) h0 hn
  generalize G.err = er at *
  generalize G.ok = ok at *
  generalize Gl.to G 4 = E at *
  clear hr hG hl
  obtain ⟨⟨f, g, h⟩, st, com, l, wt, tr⟩ := G
  simp only at HRS HTR HP4 hwt htr
  obtain ⟨si, hsi⟩ : ∃ si : Int, si = (st : Int) := ⟨_, rfl⟩
  rw [← hsi] at HRS
  unfold glV at hck how hto ⊢
  simp only at hck how hto ⊢
  rw [← hsi] at hck how hto ⊢
  have HSI := Lib.hid hsi
  clear hsi
  obtain ⟨hb0, hz0, hB0⟩ := box2_of w #[.int .u32 (f : Int), .string (str g), .string (str h), .int .u8 si, .bool com, .slice A n c, .int .u32 (wt : Int), .int .u32 (tr : Int)] #[.int .u32 0, .string ⟨#[]⟩, .string ⟨#[]⟩, .int .u8 0, .bool false, .slice none 0 0, .int .u32 0, .int .u32 0] 28 28
  obtain ⟨w0, hw0⟩ : ∃ w0, w0 = ((w.alloc (.cells #[.int .u32 (f : Int), .string (str g), .string (str h), .int .u8 si, .bool com, .slice A n c, .int .u32 (wt : Int), .int .u32 (tr : Int)] 28)).alloc (.cells #[.int .u32 0, .string ⟨#[]⟩, .string ⟨#[]⟩, .int .u8 0, .bool false, .slice none 0 0, .int .u32 0, .int .u32 0] 28)) := ⟨_, rfl⟩
  rw [← hw0] at hb0 hz0 hB0
  have hck0 := hck w0 hB0
  clear hck
  have x0 := hb0.cell (j := 0) rfl
  have x1 := hb0.cell (j := 1) rfl
  have x2 := hb0.cell (j := 2) rfl
  have x3 := hb0.cell (j := 3) rfl
  have x4 := hb0.cell (j := 4) rfl
  have x5 := hb0.cell (j := 5) rfl
  have x6 := hb0.cell (j := 6) rfl
  have x7 := hb0.cell (j := 7) rfl
  go_enter Try.func31, Try.ntmps31
  go_upto_region 1 with fail
  rw [← hw0]
  clear hw0
  go_wp2_with (first | (with_reducible refine hold_append ?_) | (with_reducible refine hold_make ?_) | (with_reducible refine hold_copy ?_) | (with_reducible refine hold_store ?_))
  refine hck0.mono ?_
  rintro e w1 ⟨rfl, hB1⟩
  have hb1 := hb0.below hB1
  have hz1 := hz0.below hB1
  have hB01 := hB0.trans (hB1.mono hB0.size)
  clear hck0 hb0 hz0 hB0 hB1 x0 x1 x2 x3 x4 x5 x6 x7
  have x0 := hb1.cell (j := 0) rfl
  have x1 := hb1.cell (j := 1) rfl
  have x2 := hb1.cell (j := 2) rfl
  have x3 := hb1.cell (j := 3) rfl
  have x4 := hb1.cell (j := 4) rfl
  have x5 := hb1.cell (j := 5) rfl
  have x6 := hb1.cell (j := 6) rfl
  have x7 := hb1.cell (j := 7) rfl
  cases ok
  · obtain rfl : er = 270 := by have := HE.out; simpa using this
    have HRES : Hid (RS = (gl0, false, 270)) := Lib.hid (by rw [HRS.out]; simp)
    go_wp2_with (first | (with_reducible refine hold_append ?_) | (with_reducible refine hold_make ?_) | (with_reducible refine hold_copy ?_) | (with_reducible refine hold_store ?_))
    refine unhold (wp_box (v := .agg #[.int .u32 0, .string ⟨#[]⟩, .string ⟨#[]⟩, .int .u8 0, .bool false, .slice none 0 0, .int .u32 0, .int .u32 0]) (vs := [.int .u32 0, .string ⟨#[]⟩, .string ⟨#[]⟩, .int .u8 0, .bool false, .slice none 0 0, .int .u32 0, .int .u32 0]) rfl rfl rfl rfl hz1 rfl (by kernel_rfl) (by simp) gl_one #[.int .u32 0, .string ⟨#[]⟩, .string ⟨#[]⟩, .int .u8 0, .bool false, .slice none 0 0, .int .u32 0, .int .u32 0] (by simp) ?_)
    intro w9 hb9 hg9 _
    have hB9 := below_box hB01 hg9 (by omega)
    go_wp2_with (first | (with_reducible refine hold_append ?_) | (with_reducible refine hold_make ?_) | (with_reducible refine hold_copy ?_))
    refine ret_box_tmp2x rfl hb9 rfl rfl rfl Try.underlying28 rfl (by kernel_rfl) rfl ?_
    rw [HRES.out]
    exact ⟨none, 0, 0, rfl, Own.none_ _ _ _ _, by omega, hB9⟩
  · obtain rfl : er = 0 := by have := HE.out; simpa using this
    have hn0 := HN.out (by simp)
    have htr5 := HTR.out (by simp)
    have how1 := how w1 hB01
    clear how HN HTR
    go_wp2_with (first | (with_reducible refine hold_append ?_) | (with_reducible refine hold_make ?_) | (with_reducible refine hold_copy ?_) | (with_reducible refine hold_store ?_))
    refine how1.mono ?_
    rintro e w2 ⟨A2, c2, rfl, ho2, hB2⟩
    have hb2 := hb1.below hB2
    have hz2 := hz1.below hB2
    have hB02 := hB01.trans (hB2.mono hB01.size)
    have hlt1 := hb1.lt
    have hlt2 := hz1.lt
    have hsz2 := hB01.size
    clear how1
    go_wp2_with (first | (with_reducible refine hold_append ?_) | (with_reducible refine hold_make ?_) | (with_reducible refine hold_copy ?_) | (with_reducible refine hold_store ?_))
    refine unhold (wp_box (v := .agg #[.int .u32 (f : Int), .string (str g), .string (str h), .int .u8 si, .bool com, .slice A2 n c2, .int .u32 (wt : Int), .int .u32 (tr : Int)]) (vs := [.int .u32 (f : Int), .string (str g), .string (str h), .int .u8 si, .bool com, .slice A2 n c2, .int .u32 (wt : Int), .int .u32 (tr : Int)]) rfl rfl rfl rfl hb2 rfl (by kernel_rfl) (by simp) gl_one #[.int .u32 (f : Int), .string (str g), .string (str h), .int .u8 si, .bool com, .slice A2 n c2, .int .u32 (wt : Int), .int .u32 (tr : Int)] (by simp) ?_)
    intro w3 hb3 hg3 _
    have hz3 := hz2.grown hg3 (by intro e; injection e with e; omega)
    have hB03 := below_box hB02 hg3 (Nat.le_refl _)
    have ho3 := own_box ho2 hg3 (by omega)
    clear hb2 hz2 ho2 x0 x1 x2 x3 x4 x5 x6 x7 hb1 hz1
    have x0 := hb3.cell (j := 0) rfl
    have x1 := hb3.cell (j := 1) rfl
    have x2 := hb3.cell (j := 2) rfl
    have x3 := hb3.cell (j := 3) rfl
    have x4 := hb3.cell (j := 4) rfl
    have x5 := hb3.cell (j := 5) rfl
    have x6 := hb3.cell (j := 6) rfl
    have x7 := hb3.cell (j := 7) rfl
    by_cases s1 : si = 1
    · have HRES : Hid (RS = (⟨⟨f, g, h⟩, st, com, l, wt, tr⟩, false, 0)) := Lib.hid (by rw [HRS.out]; simp [s1])
      have HS := HSI
      subst s1
      clear HRS
      go_wp2_with (first | (with_reducible refine hold_append ?_) | (with_reducible refine hold_make ?_) | (with_reducible refine hold_copy ?_) | (with_reducible refine hold_store ?_))
      refine unhold (wp_box (v := .agg #[.int .u32 (f : Int), .string (str g), .string (str h), .int .u8 1, .bool com, .slice A2 n c2, .int .u32 (wt : Int), .int .u32 (tr : Int)]) (vs := [.int .u32 (f : Int), .string (str g), .string (str h), .int .u8 1, .bool com, .slice A2 n c2, .int .u32 (wt : Int), .int .u32 (tr : Int)]) rfl rfl rfl rfl hz3 rfl (by kernel_rfl) (by simp) gl_one #[.int .u32 (f : Int), .string (str g), .string (str h), .int .u8 1, .bool com, .slice A2 n c2, .int .u32 (wt : Int), .int .u32 (tr : Int)] (by simp) ?_)
      intro w8 hb8 hg8 _
      have hB08 := below_box hB03 hg8 (by omega)
      have ho8 := own_box ho3 hg8 (by omega)
      go_wp2_with (first | (with_reducible refine hold_append ?_) | (with_reducible refine hold_make ?_) | (with_reducible refine hold_copy ?_))
      refine ret_box_tmp2x rfl hb8 rfl rfl rfl Try.underlying28 rfl (by kernel_rfl) rfl ?_
      rw [HRES.out]
      refine ⟨A2, n, c2, ?_, Own.base_le ho8 hsz2, hn, hB08⟩
      unfold glV
      simp only
      rw [← HS.out]
      rfl
    · have e1 : (si == 1) = false := by simpa using s1
      by_cases s5 : si = 5
      · clear e1
        have HRES : Hid (RS = (⟨⟨f, g, h⟩, st, com, l, wt, tr⟩, false, 0)) := Lib.hid (by rw [HRS.out]; simp [s5])
        have HS := HSI
        subst s5
        clear HRS
        go_wp2_with (first | (with_reducible refine hold_append ?_) | (with_reducible refine hold_make ?_) | (with_reducible refine hold_copy ?_) | (with_reducible refine hold_store ?_))
        refine unhold (wp_box (v := .agg #[.int .u32 (f : Int), .string (str g), .string (str h), .int .u8 5, .bool com, .slice A2 n c2, .int .u32 (wt : Int), .int .u32 (tr : Int)]) (vs := [.int .u32 (f : Int), .string (str g), .string (str h), .int .u8 5, .bool com, .slice A2 n c2, .int .u32 (wt : Int), .int .u32 (tr : Int)]) rfl rfl rfl rfl hz3 rfl (by kernel_rfl) (by simp) gl_one #[.int .u32 (f : Int), .string (str g), .string (str h), .int .u8 5, .bool com, .slice A2 n c2, .int .u32 (wt : Int), .int .u32 (tr : Int)] (by simp) ?_)
        intro w8 hb8 hg8 _
        have hB08 := below_box hB03 hg8 (by omega)
        have ho8 := own_box ho3 hg8 (by omega)
        go_wp2_with (first | (with_reducible refine hold_append ?_) | (with_reducible refine hold_make ?_) | (with_reducible refine hold_copy ?_))
        refine ret_box_tmp2x rfl hb8 rfl rfl rfl Try.underlying28 rfl (by kernel_rfl) rfl ?_
        rw [HRES.out]
        refine ⟨A2, n, c2, ?_, Own.base_le ho8 hsz2, hn, hB08⟩
        unfold glV
        simp only
        rw [← HS.out]
        rfl
      · have e5 : (si == 5) = false := by simpa using s5
        by_cases cw : 0 < wt
        · have d1 : (0 : Int) < (wt : Int) := by omega
          obtain ⟨q, hq⟩ : ∃ q, q = wt - 1 := ⟨_, rfl⟩
          have hwd : IntKind.u32.wrap ((wt : Int) - 1) = (q : Int) := by rw [IntWalk.u32_in _ ⟨by omega, by omega⟩]; omega
          have HRES : Hid (RS = (⟨⟨f, g, h⟩, st, com, l, q, tr⟩, false, 0)) := Lib.hid (by rw [HRS.out, hq]; simp [s1, s5, cw])
          clear hq HRS s1 s5
          go_wp2_with (first | (with_reducible refine hold_append ?_) | (with_reducible refine hold_make ?_) | (with_reducible refine hold_copy ?_) | (with_reducible refine hold_store ?_))
          refine unhold (wp_box (v := .int .u32 (q : Int)) (vs := [.int .u32 (q : Int)]) rfl rfl rfl rfl hb3 rfl (by kernel_rfl) (by simp) (by simp; rfl) #[.int .u32 (f : Int), .string (str g), .string (str h), .int .u8 si, .bool com, .slice A2 n c2, .int .u32 (q : Int), .int .u32 (tr : Int)] (by simp) ?_)
          intro w4 hb4 hgs _
          have hz4 := (hz3).grown hgs (by intro e; injection e with e; omega)
          have hB04 := below_box hB03 hgs (Nat.le_refl _)
          have ho4 := own_box ho3 hgs (by omega)
          clear hgs
          clear hb3 hz3 x0 x1 x2 x3 x4 x5 x6 x7
          have y0 := hb4.cell (j := 0) rfl
          have y1 := hb4.cell (j := 1) rfl
          have y2 := hb4.cell (j := 2) rfl
          have y3 := hb4.cell (j := 3) rfl
          have y4 := hb4.cell (j := 4) rfl
          have y5 := hb4.cell (j := 5) rfl
          have y6 := hb4.cell (j := 6) rfl
          have y7 := hb4.cell (j := 7) rfl
          go_wp2_with (first | (with_reducible refine hold_append ?_) | (with_reducible refine hold_make ?_) | (with_reducible refine hold_copy ?_) | (with_reducible refine hold_store ?_))
          refine unhold (wp_box (v := .agg #[.int .u32 (f : Int), .string (str g), .string (str h), .int .u8 si, .bool com, .slice A2 n c2, .int .u32 (q : Int), .int .u32 (tr : Int)]) (vs := [.int .u32 (f : Int), .string (str g), .string (str h), .int .u8 si, .bool com, .slice A2 n c2, .int .u32 (q : Int), .int .u32 (tr : Int)]) rfl rfl rfl rfl hz4 rfl (by kernel_rfl) (by simp) gl_one #[.int .u32 (f : Int), .string (str g), .string (str h), .int .u8 si, .bool com, .slice A2 n c2, .int .u32 (q : Int), .int .u32 (tr : Int)] (by simp) ?_)
          intro w8 hb8 hg8 _
          have hB08 := below_box hB04 hg8 (by omega)
          have ho8 := own_box ho4 hg8 (by omega)
          go_wp2_with (first | (with_reducible refine hold_append ?_) | (with_reducible refine hold_make ?_) | (with_reducible refine hold_copy ?_))
          refine ret_box_tmp2x rfl hb8 rfl rfl rfl Try.underlying28 rfl (by kernel_rfl) rfl ?_
          rw [HRES.out]
          refine ⟨A2, n, c2, ?_, Own.base_le ho8 hsz2, hn, hB08⟩
          unfold glV
          simp only
          rw [← HSI.out]
          rfl
        · have d1 : decide ((0 : Int) < (wt : Int)) = false := by simp; omega
          have d0 : ¬ 0 < wt := cw
          by_cases c25 : si = 2 ∧ tr = 5
          · obtain ⟨s2, t5⟩ := c25
            have HR2 : Hid (RS = if E.st = 5 then (E, true, 0) else ({ E with wait := 2, tries := 1 }, true, 0)) := Lib.hid (by rw [HRS.out]; simp [s2, t5, cw])
            have HS := HSI
            clear HRS HSI
            subst s2 t5
            clear e1 e5 s1 s5
            have hto3 := hto A2 c2 w3 hn0 (ho3.rd)
            clear hto
            go_wp2_with (first | (with_reducible refine hold_append ?_) | (with_reducible refine hold_make ?_) | (with_reducible refine hold_copy ?_) | (with_reducible refine hold_store ?_))
            refine hto3.mono ?_
            rintro e w4 ⟨A4, c4, rfl, ho4, hB4⟩
            have hb4 := hb3.below hB4
            have hz4 := hz3.below hB4
            have hB04 := hB03.trans (hB4.mono hB03.size)
            have hlt3 := hb3.lt
            have hlt4 := hz3.lt
            have hsz3 := hB03.size
            clear hto3 hb3 hz3 ho3 x0 x1 x2 x3 x4 x5 x6 x7
            rw [← HP4.out] at ho4
            obtain ⟨⟨ef, eg, eh⟩, est, ecom, el, ewt, etr⟩ := E
            simp only at H4 HR2 HP4 ho4
            obtain ⟨z1, z2, z3⟩ := H4.out
            subst z1 z2
            try unfold glV at *
            try simp only at *
            go_wp2_with (first | (with_reducible refine hold_append ?_) | (with_reducible refine hold_make ?_) | (with_reducible refine hold_copy ?_) | (with_reducible refine hold_store ?_))
            refine unhold (wp_box (v := .agg #[.int .u32 (ef : Int), .string (str eg), .string (str eh), .int .u8 (est : Int), .bool ecom, .slice A4 n c4, .int .u32 0, .int .u32 0]) (vs := [.int .u32 (ef : Int), .string (str eg), .string (str eh), .int .u8 (est : Int), .bool ecom, .slice A4 n c4, .int .u32 0, .int .u32 0]) rfl rfl rfl rfl hb4 rfl (by kernel_rfl) (by simp) gl_one #[.int .u32 (ef : Int), .string (str eg), .string (str eh), .int .u8 (est : Int), .bool ecom, .slice A4 n c4, .int .u32 0, .int .u32 0] (by simp) ?_)
            intro w5 hb5 hgs _
            have hz5 := (hz4).grown hgs (by intro e; injection e with e; omega)
            have hB05 := below_box hB04 hgs (Nat.le_refl _)
            have ho5 := own_box ho4 hgs (by omega)
            clear hgs
            clear hb4 hz4 ho4
            have x0 := hb5.cell (j := 0) rfl
            have x1 := hb5.cell (j := 1) rfl
            have x2 := hb5.cell (j := 2) rfl
            have x3 := hb5.cell (j := 3) rfl
            have x4 := hb5.cell (j := 4) rfl
            have x5 := hb5.cell (j := 5) rfl
            have x6 := hb5.cell (j := 6) rfl
            have x7 := hb5.cell (j := 7) rfl
            rcases z3 with z3 | z3
            · subst z3
              have HRES : Hid (RS = (⟨⟨ef, eg, eh⟩, 4, ecom, el, 2, 1⟩, true, 0)) := Lib.hid (by rw [HR2.out]; simp)
              clear HR2 H4
              go_wp2_with (first | (with_reducible refine hold_append ?_) | (with_reducible refine hold_make ?_) | (with_reducible refine hold_copy ?_) | (with_reducible refine hold_store ?_))
              refine unhold (wp_box (v := .int .u32 2) (vs := [.int .u32 2]) rfl rfl rfl rfl hb5 rfl (by kernel_rfl) (by simp) (by simp; rfl) #[.int .u32 (ef : Int), .string (str eg), .string (str eh), .int .u8 4, .bool ecom, .slice A4 n c4, .int .u32 2, .int .u32 0] (by simp) ?_)
              intro w6 hb6 hgs _
              have hz6 := (hz5).grown hgs (by intro e; injection e with e; omega)
              have hB06 := below_box hB05 hgs (Nat.le_refl _)
              have ho6 := own_box ho5 hgs (by omega)
              clear hgs
              go_wp2_with (first | (with_reducible refine hold_append ?_) | (with_reducible refine hold_make ?_) | (with_reducible refine hold_copy ?_) | (with_reducible refine hold_store ?_))
              refine unhold (wp_box (v := .int .u32 1) (vs := [.int .u32 1]) rfl rfl rfl rfl hb6 rfl (by kernel_rfl) (by simp) (by simp; rfl) #[.int .u32 (ef : Int), .string (str eg), .string (str eh), .int .u8 4, .bool ecom, .slice A4 n c4, .int .u32 2, .int .u32 1] (by simp) ?_)
              intro w7 hb7 hgs _
              have hz7 := (hz6).grown hgs (by intro e; injection e with e; omega)
              have hB07 := below_box hB06 hgs (Nat.le_refl _)
              have ho7 := own_box ho6 hgs (by omega)
              clear hgs
              clear hb5 hz5 hb6 hz6 x0 x1 x2 x3 x4 x5 x6 x7
              have y0 := hb7.cell (j := 0) rfl
              have y1 := hb7.cell (j := 1) rfl
              have y2 := hb7.cell (j := 2) rfl
              have y3 := hb7.cell (j := 3) rfl
              have y4 := hb7.cell (j := 4) rfl
              have y5 := hb7.cell (j := 5) rfl
              have y6 := hb7.cell (j := 6) rfl
              have y7 := hb7.cell (j := 7) rfl
              go_wp2_with (first | (with_reducible refine hold_append ?_) | (with_reducible refine hold_make ?_) | (with_reducible refine hold_copy ?_) | (with_reducible refine hold_store ?_))
              refine unhold (wp_box (v := .agg #[.int .u32 (ef : Int), .string (str eg), .string (str eh), .int .u8 4, .bool ecom, .slice A4 n c4, .int .u32 2, .int .u32 1]) (vs := [.int .u32 (ef : Int), .string (str eg), .string (str eh), .int .u8 4, .bool ecom, .slice A4 n c4, .int .u32 2, .int .u32 1]) rfl rfl rfl rfl hz7 rfl (by kernel_rfl) (by simp) gl_one #[.int .u32 (ef : Int), .string (str eg), .string (str eh), .int .u8 4, .bool ecom, .slice A4 n c4, .int .u32 2, .int .u32 1] (by simp) ?_)
              intro w8 hb8 hg8 _
              have hB08 := below_box hB07 hg8 (by omega)
              have ho8 := own_box ho7 hg8 (by omega)
              go_wp2_with (first | (with_reducible refine hold_append ?_) | (with_reducible refine hold_make ?_) | (with_reducible refine hold_copy ?_))
              refine ret_box_tmp2x rfl hb8 rfl rfl rfl Try.underlying28 rfl (by kernel_rfl) rfl ?_
              rw [HRES.out]
              exact ⟨A4, n, c4, rfl, Own.base_le ho8 hsz3, hn, hB08⟩
            · subst z3
              have HRES : Hid (RS = (⟨⟨ef, eg, eh⟩, 5, ecom, el, 0, 0⟩, true, 0)) := Lib.hid (by rw [HR2.out]; simp)
              clear HR2 H4
              go_wp2_with (first | (with_reducible refine hold_append ?_) | (with_reducible refine hold_make ?_) | (with_reducible refine hold_copy ?_) | (with_reducible refine hold_store ?_))
              refine unhold (wp_box (v := .agg #[.int .u32 (ef : Int), .string (str eg), .string (str eh), .int .u8 5, .bool ecom, .slice A4 n c4, .int .u32 0, .int .u32 0]) (vs := [.int .u32 (ef : Int), .string (str eg), .string (str eh), .int .u8 5, .bool ecom, .slice A4 n c4, .int .u32 0, .int .u32 0]) rfl rfl rfl rfl hz5 rfl (by kernel_rfl) (by simp) gl_one #[.int .u32 (ef : Int), .string (str eg), .string (str eh), .int .u8 5, .bool ecom, .slice A4 n c4, .int .u32 0, .int .u32 0] (by simp) ?_)
              intro w8 hb8 hg8 _
              have hB08 := below_box hB05 hg8 (by omega)
              have ho8 := own_box ho5 hg8 (by omega)
              go_wp2_with (first | (with_reducible refine hold_append ?_) | (with_reducible refine hold_make ?_) | (with_reducible refine hold_copy ?_))
              refine ret_box_tmp2x rfl hb8 rfl rfl rfl Try.underlying28 rfl (by kernel_rfl) rfl ?_
              rw [HRES.out]
              exact ⟨A4, n, c4, rfl, Own.base_le ho8 hsz3, hn, hB08⟩
          · obtain ⟨pl, hpl⟩ : ∃ pl, pl = tr + 1 := ⟨_, rfl⟩
            have hwp : IntKind.u32.wrap ((tr : Int) + 1) = (pl : Int) := by rw [IntWalk.u32_in _ ⟨by omega, by omega⟩]; omega
            have HPL := Lib.hid hpl
            clear hpl
            by_cases t5 : tr = 5
            · have HRES : Hid (RS = (⟨⟨f, g, h⟩, st, com, l, 2, 5⟩, true, 0)) := Lib.hid (by rw [HRS.out, if_neg (by simp), if_neg (by simp [s1, s5]), if_neg cw, if_neg c25, t5]; rfl)
              have s2 : ¬ si = 2 := fun h => c25 ⟨h, t5⟩
              have e2 : (si == 2) = false := by simpa using s2
              have p5 : (5 : Int) < (pl : Int) := by have := HPL.out; omega
              clear s2 c25 HRS s1 s5
              go_wp2_with (first | (with_reducible refine hold_append ?_) | (with_reducible refine hold_make ?_) | (with_reducible refine hold_copy ?_) | (with_reducible refine hold_store ?_))
              refine unhold (wp_box (v := .int .u32 2) (vs := [.int .u32 2]) rfl rfl rfl rfl hb3 rfl (by kernel_rfl) (by simp) (by simp; rfl) #[.int .u32 (f : Int), .string (str g), .string (str h), .int .u8 si, .bool com, .slice A2 n c2, .int .u32 2, .int .u32 (tr : Int)] (by simp) ?_)
              intro w4 hb4 hgs _
              have hz4 := (hz3).grown hgs (by intro e; injection e with e; omega)
              have hB04 := below_box hB03 hgs (Nat.le_refl _)
              have ho4 := own_box ho3 hgs (by omega)
              clear hgs
              go_wp2_with (first | (with_reducible refine hold_append ?_) | (with_reducible refine hold_make ?_) | (with_reducible refine hold_copy ?_) | (with_reducible refine hold_store ?_))
              refine unhold (wp_box (v := .int .u32 5) (vs := [.int .u32 5]) rfl rfl rfl rfl hb4 rfl (by kernel_rfl) (by simp) (by simp; rfl) #[.int .u32 (f : Int), .string (str g), .string (str h), .int .u8 si, .bool com, .slice A2 n c2, .int .u32 2, .int .u32 5] (by simp) ?_)
              intro w5 hb5 hgs _
              have hz5 := (hz4).grown hgs (by intro e; injection e with e; omega)
              have hB05 := below_box hB04 hgs (Nat.le_refl _)
              have ho5 := own_box ho4 hgs (by omega)
              clear hgs
              clear hb3 hz3 hb4 hz4 x0 x1 x2 x3 x4 x5 x6 x7
              have y0 := hb5.cell (j := 0) rfl
              have y1 := hb5.cell (j := 1) rfl
              have y2 := hb5.cell (j := 2) rfl
              have y3 := hb5.cell (j := 3) rfl
              have y4 := hb5.cell (j := 4) rfl
              have y5 := hb5.cell (j := 5) rfl
              have y6 := hb5.cell (j := 6) rfl
              have y7 := hb5.cell (j := 7) rfl
              go_wp2_with (first | (with_reducible refine hold_append ?_) | (with_reducible refine hold_make ?_) | (with_reducible refine hold_copy ?_) | (with_reducible refine hold_store ?_))
              refine unhold (wp_box (v := .agg #[.int .u32 (f : Int), .string (str g), .string (str h), .int .u8 si, .bool com, .slice A2 n c2, .int .u32 2, .int .u32 5]) (vs := [.int .u32 (f : Int), .string (str g), .string (str h), .int .u8 si, .bool com, .slice A2 n c2, .int .u32 2, .int .u32 5]) rfl rfl rfl rfl hz5 rfl (by kernel_rfl) (by simp) gl_one #[.int .u32 (f : Int), .string (str g), .string (str h), .int .u8 si, .bool com, .slice A2 n c2, .int .u32 2, .int .u32 5] (by simp) ?_)
              intro w8 hb8 hg8 _
              have hB08 := below_box hB05 hg8 (by omega)
              have ho8 := own_box ho5 hg8 (by omega)
              go_wp2_with (first | (with_reducible refine hold_append ?_) | (with_reducible refine hold_make ?_) | (with_reducible refine hold_copy ?_))
              refine ret_box_tmp2x rfl hb8 rfl rfl rfl Try.underlying28 rfl (by kernel_rfl) rfl ?_
              rw [HRES.out]
              refine ⟨A2, n, c2, ?_, Own.base_le ho8 hsz2, hn, hB08⟩
              unfold glV
              simp only
              rw [← HSI.out]
              rfl
            · have HRES : Hid (RS = (⟨⟨f, g, h⟩, st, com, l, 2, pl⟩, true, 0)) := Lib.hid (by rw [HRS.out, HPL.out, if_neg (by simp), if_neg (by simp [s1, s5]), if_neg cw, if_neg c25, Nat.min_eq_left (by omega)])
              have p6 : min (pl : Int) 5 = (pl : Int) := by have := HPL.out; omega
              have t5' : ((tr : Int) == 5) = false := by simp; omega
              clear HRS s1 s5
              by_cases s2 : si = 2
              · have HS := HSI
                clear HSI c25
                subst s2
                clear e1 e5
                go_wp2_with (first | (with_reducible refine hold_append ?_) | (with_reducible refine hold_make ?_) | (with_reducible refine hold_copy ?_) | (with_reducible refine hold_store ?_))
                refine unhold (wp_box (v := .int .u32 2) (vs := [.int .u32 2]) rfl rfl rfl rfl hb3 rfl (by kernel_rfl) (by simp) (by simp; rfl) #[.int .u32 (f : Int), .string (str g), .string (str h), .int .u8 2, .bool com, .slice A2 n c2, .int .u32 2, .int .u32 (tr : Int)] (by simp) ?_)
                intro w4 hb4 hgs _
                have hz4 := (hz3).grown hgs (by intro e; injection e with e; omega)
                have hB04 := below_box hB03 hgs (Nat.le_refl _)
                have ho4 := own_box ho3 hgs (by omega)
                clear hgs
                go_wp2_with (first | (with_reducible refine hold_append ?_) | (with_reducible refine hold_make ?_) | (with_reducible refine hold_copy ?_) | (with_reducible refine hold_store ?_))
                refine unhold (wp_box (v := .int .u32 (pl : Int)) (vs := [.int .u32 (pl : Int)]) rfl rfl rfl rfl hb4 rfl (by kernel_rfl) (by simp) (by simp; rfl) #[.int .u32 (f : Int), .string (str g), .string (str h), .int .u8 2, .bool com, .slice A2 n c2, .int .u32 2, .int .u32 (pl : Int)] (by simp) ?_)
                intro w5 hb5 hgs _
                have hz5 := (hz4).grown hgs (by intro e; injection e with e; omega)
                have hB05 := below_box hB04 hgs (Nat.le_refl _)
                have ho5 := own_box ho4 hgs (by omega)
                clear hgs
                clear hb3 hz3 hb4 hz4 x0 x1 x2 x3 x4 x5 x6 x7
                have y0 := hb5.cell (j := 0) rfl
                have y1 := hb5.cell (j := 1) rfl
                have y2 := hb5.cell (j := 2) rfl
                have y3 := hb5.cell (j := 3) rfl
                have y4 := hb5.cell (j := 4) rfl
                have y5 := hb5.cell (j := 5) rfl
                have y6 := hb5.cell (j := 6) rfl
                have y7 := hb5.cell (j := 7) rfl
                go_wp2_with (first | (with_reducible refine hold_append ?_) | (with_reducible refine hold_make ?_) | (with_reducible refine hold_copy ?_) | (with_reducible refine hold_store ?_))
                refine unhold (wp_box (v := .agg #[.int .u32 (f : Int), .string (str g), .string (str h), .int .u8 2, .bool com, .slice A2 n c2, .int .u32 2, .int .u32 (pl : Int)]) (vs := [.int .u32 (f : Int), .string (str g), .string (str h), .int .u8 2, .bool com, .slice A2 n c2, .int .u32 2, .int .u32 (pl : Int)]) rfl rfl rfl rfl hz5 rfl (by kernel_rfl) (by simp) gl_one #[.int .u32 (f : Int), .string (str g), .string (str h), .int .u8 2, .bool com, .slice A2 n c2, .int .u32 2, .int .u32 (pl : Int)] (by simp) ?_)
                intro w8 hb8 hg8 _
                have hB08 := below_box hB05 hg8 (by omega)
                have ho8 := own_box ho5 hg8 (by omega)
                go_wp2_with (first | (with_reducible refine hold_append ?_) | (with_reducible refine hold_make ?_) | (with_reducible refine hold_copy ?_))
                refine ret_box_tmp2x rfl hb8 rfl rfl rfl Try.underlying28 rfl (by kernel_rfl) rfl ?_
                rw [HRES.out]
                refine ⟨A2, n, c2, ?_, Own.base_le ho8 hsz2, hn, hB08⟩
                unfold glV
                simp only
                rw [← HS.out]
                rfl
              · have e2 : (si == 2) = false := by simpa using s2
                clear s2 c25
                go_wp2_with (first | (with_reducible refine hold_append ?_) | (with_reducible refine hold_make ?_) | (with_reducible refine hold_copy ?_) | (with_reducible refine hold_store ?_))
                refine unhold (wp_box (v := .int .u32 2) (vs := [.int .u32 2]) rfl rfl rfl rfl hb3 rfl (by kernel_rfl) (by simp) (by simp; rfl) #[.int .u32 (f : Int), .string (str g), .string (str h), .int .u8 si, .bool com, .slice A2 n c2, .int .u32 2, .int .u32 (tr : Int)] (by simp) ?_)
                intro w4 hb4 hgs _
                have hz4 := (hz3).grown hgs (by intro e; injection e with e; omega)
                have hB04 := below_box hB03 hgs (Nat.le_refl _)
                have ho4 := own_box ho3 hgs (by omega)
                clear hgs
                go_wp2_with (first | (with_reducible refine hold_append ?_) | (with_reducible refine hold_make ?_) | (with_reducible refine hold_copy ?_) | (with_reducible refine hold_store ?_))
                refine unhold (wp_box (v := .int .u32 (pl : Int)) (vs := [.int .u32 (pl : Int)]) rfl rfl rfl rfl hb4 rfl (by kernel_rfl) (by simp) (by simp; rfl) #[.int .u32 (f : Int), .string (str g), .string (str h), .int .u8 si, .bool com, .slice A2 n c2, .int .u32 2, .int .u32 (pl : Int)] (by simp) ?_)
                intro w5 hb5 hgs _
                have hz5 := (hz4).grown hgs (by intro e; injection e with e; omega)
                have hB05 := below_box hB04 hgs (Nat.le_refl _)
                have ho5 := own_box ho4 hgs (by omega)
                clear hgs
                clear hb3 hz3 hb4 hz4 x0 x1 x2 x3 x4 x5 x6 x7
                have y0 := hb5.cell (j := 0) rfl
                have y1 := hb5.cell (j := 1) rfl
                have y2 := hb5.cell (j := 2) rfl
                have y3 := hb5.cell (j := 3) rfl
                have y4 := hb5.cell (j := 4) rfl
                have y5 := hb5.cell (j := 5) rfl
                have y6 := hb5.cell (j := 6) rfl
                have y7 := hb5.cell (j := 7) rfl
                go_wp2_with (first | (with_reducible refine hold_append ?_) | (with_reducible refine hold_make ?_) | (with_reducible refine hold_copy ?_) | (with_reducible refine hold_store ?_))
                refine unhold (wp_box (v := .agg #[.int .u32 (f : Int), .string (str g), .string (str h), .int .u8 si, .bool com, .slice A2 n c2, .int .u32 2, .int .u32 (pl : Int)]) (vs := [.int .u32 (f : Int), .string (str g), .string (str h), .int .u8 si, .bool com, .slice A2 n c2, .int .u32 2, .int .u32 (pl : Int)]) rfl rfl rfl rfl hz5 rfl (by kernel_rfl) (by simp) gl_one #[.int .u32 (f : Int), .string (str g), .string (str h), .int .u8 si, .bool com, .slice A2 n c2, .int .u32 2, .int .u32 (pl : Int)] (by simp) ?_)
                intro w8 hb8 hg8 _
                have hB08 := below_box hB05 hg8 (by omega)
                have ho8 := own_box ho5 hg8 (by omega)
                go_wp2_with (first | (with_reducible refine hold_append ?_) | (with_reducible refine hold_make ?_) | (with_reducible refine hold_copy ?_))
                refine ret_box_tmp2x rfl hb8 rfl rfl rfl Try.underlying28 rfl (by kernel_rfl) rfl ?_
                rw [HRES.out]
                refine ⟨A2, n, c2, ?_, Own.base_le ho8 hsz2, hn, hB08⟩
                unfold glV
                simp only
                rw [← HSI.out]
                rfl
end Go.PH
end

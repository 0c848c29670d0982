/- Texts laid together: GtAsk, GtAsk2, GtIdx. -/
import Derived.Test.YtcfhnnbgghbjfaaMg08
import Derived.Test.YtcfhnnbgghbjfaaMg10
import Derived.Test.YtcfhnnbgghbjfaaMg14
section
/- The walks of gtx's Ready, Ask, Decide, Abort. -/
set_option linter.all false
set_option linter.unusedSimpArgs false
set_option linter.unusedVariables false
namespace Go.PH
open Go.RowKit Go.Proofs

/-- what a turn answers: a transaction in memory of its own, and an error's number -/
def TurnR (w : World) (res : Gl × Nat) (e : Ending) (w' : World) : Prop := ∃ A2 n2 c2, e = .returned (.tuple #[.agg (glV res.1 A2 n2 c2), .int .i64 (res.2 : Int)]) ∧ OwnP w' w.heap.size A2 n2 c2 res.1.parts ∧ n2 ≤ 1000000000 ∧ Below w.heap.size w w'
theorem ok_pos {G : Gl} {n : Nat} (h : G.ok = true) (hl : G.parts.length = n) : 0 < n := by
  simp only [Gl.ok, dcOk, Bool.and_eq_true, decide_eq_true_eq] at h
  have := h.1.1.1.1.1.1.2
  simp [allTo] at this
  omega
theorem ready_any (G : Gl) (A : Option Addr) (n c : Nat) (B : Nat) (w : World) (hG : G.wf) (hr : RdP w B A n c G.parts) (hB : B ≤ w.heap.size) (hn : n ≤ 1000000000) :
    Calls Try.prog 23 #[.agg (glV G A n c)] w fun e w' => e = .returned (.bool G.ready) ∧ Below w.heap.size w w' := by
  have hl := rec_length ptShape hr
  have hck := fun W hW => gcheck_any G A n c B W hG (hr.below' hW hB) (Nat.le_trans hB hW.size) hn
  have hso := fun W h0 hW => some_lit [0] A n c G.parts B W (hr.below' hW hB) (Nat.le_trans hB hW.size) h0 hn (by simp) (by simp)
  have HN : Hid (G.ok = true → 0 < n) := Lib.hid (fun h => ok_pos h hl)
  have HE : Hid (G.err = if G.ok then 0 else 270) := Lib.hid rfl
  have HR : Hid (G.ready = (G.ok && decide (G.st = 2) && !hasSt [0] G.parts)) := Lib.hid rfl
  generalize G.ready = R at *
  generalize G.err = er at *
  generalize G.ok = ok at *
  obtain ⟨hs, hhs⟩ : ∃ hs, hs = hasSt [0] G.parts := ⟨_, rfl⟩
  rw [← hhs] at hso HR
  clear hhs hr hG hl
  obtain ⟨⟨f, g, h⟩, st, com, l, wt, tr⟩ := G
  unfold glV at *
  simp only at hck hso HR ⊢
  obtain ⟨si, hsi⟩ : ∃ si : Int, si = (st : Int) := ⟨_, rfl⟩
  have HR2 : Hid (R = (ok && decide (si = 2) && !hs)) := Lib.hid (by
    rw [HR.out, hsi]
    simp only [show ((st : Int) = 2) = (st = 2) from by simp; omega])
  rw [← hsi] at hck ⊢
  clear HR hsi
  have hB0 := (Below.refl w.heap.size w).alloc (Nat.le_refl _) (.cells #[.int .u32 (f : Int), .string (str g), .string (str h), .int .u8 si, .bool com, .slice A n c, .int .u32 (wt : Int), .int .u32 (tr : Int)] 28)
  have hb0 := Box.new w #[.int .u32 (f : Int), .string (str g), .string (str h), .int .u8 si, .bool com, .slice A n c, .int .u32 (wt : Int), .int .u32 (tr : Int)] 28
  have hck0 := hck _ hB0
  clear hck
  have x0 := hb0.cell (j := 0) rfl
  have x1 := hb0.cell (j := 1) rfl
  have x2 := hb0.cell (j := 2) rfl
  have x3 := hb0.cell (j := 3) rfl
  have x4 := hb0.cell (j := 4) rfl
  have x5 := hb0.cell (j := 5) rfl
  have x6 := hb0.cell (j := 6) rfl
  have x7 := hb0.cell (j := 7) rfl
  go_enter Try.func23, Try.ntmps23
  go_wp2_with (first | (with_reducible refine hold_append ?_) | (with_reducible refine hold_make ?_) | (with_reducible refine hold_copy ?_))
  refine hck0.mono ?_
  rintro e w1 ⟨rfl, hB1⟩
  have hb1 := hb0.below hB1
  have hB01 := hB0.trans (hB1.mono hB0.size)
  clear hck0 x0 x1 x2 x3 x4 x5 x6 x7 hb0
  cases ok
  · obtain rfl : er = 270 := by have := HE.out; simpa using this
    have HF : Hid (R = false) := Lib.hid (by rw [HR2.out]; simp)
    go_wp2_with (first | (with_reducible refine hold_append ?_) | (with_reducible refine hold_make ?_) | (with_reducible refine hold_copy ?_))
    go_ret
    rw [HF.out]
    exact ⟨rfl, hB01⟩
  · obtain rfl : er = 0 := by have := HE.out; simpa using this
    have x3 := hb1.cell (j := 3) rfl
    have x5 := hb1.cell (j := 5) rfl
    by_cases s2 : si = 2
    · subst s2
      have hs0 := hso w1 (HN.out rfl) hB01
      have HF : Hid (R = !hs) := Lib.hid (by rw [HR2.out]; simp)
      go_wp2_with (first | (with_reducible refine hold_append ?_) | (with_reducible refine hold_make ?_) | (with_reducible refine hold_copy ?_))
      refine hs0.mono ?_
      rintro e w2 ⟨rfl, hB2⟩
      go_wp2_with (first | (with_reducible refine hold_append ?_) | (with_reducible refine hold_make ?_) | (with_reducible refine hold_copy ?_))
      go_ret
      rw [HF.out]
      exact ⟨rfl, hB01.trans (hB2.mono hB01.size)⟩
    · have e2 : (si == 2) = false := by simpa using s2
      have HF : Hid (R = false) := Lib.hid (by rw [HR2.out]; simp [s2])
      clear s2
      go_wp2_with (first | (with_reducible refine hold_append ?_) | (with_reducible refine hold_make ?_) | (with_reducible refine hold_copy ?_))
      go_ret
      rw [HF.out]
      exact ⟨rfl, hB01⟩
set_option maxRecDepth 20000 in
set_option maxHeartbeats 2000000 in
theorem ask_any (G : Gl) (cm : Bool) (A : Option Addr) (n c : Nat) (B : Nat) (w : World) (hG : G.wf) (hr : RdP w B A n c G.parts) (hB : B ≤ w.heap.size) (hn : n ≤ 1000000000) :
    Calls Try.prog 30 #[.agg (glV G A n c), .bool cm] w fun e w' => TurnR w (G.ask cm) e w' := by
  obtain ⟨RS, hRS⟩ : ∃ RS, RS = G.ask cm := ⟨_, rfl⟩
  rw [← hRS]
  have HRS : Hid (RS = if G.ok = false then (gl0, 270) else if G.st ≠ 1 then (gl0, 9) else if cm then (G.to 2, 0) else (G.to 4, 0)) := Lib.hid (by rw [hRS]; rfl)
  clear hRS
  have hl := rec_length ptShape hr
  have hck := fun W hW => gcheck_any G A n c B W hG (hr.below' hW hB) (Nat.le_trans hB hW.size) hn
  have hto := fun s W h0 hW => to_any G s A n c B W (hr.below' hW hB) (Nat.le_trans hB hW.size) h0 hn
  have hrd := fun W hW => ready_any G A n c B W hG (hr.below' hW hB) (Nat.le_trans hB hW.size) hn
  have HN : Hid (G.ok = true → 0 < n) := Lib.hid (fun h => ok_pos h hl)
  have HE : Hid (G.err = if G.ok then 0 else 270) := Lib.hid rfl
  have HTP : Hid (∀ s, (G.to s).parts = G.parts) := Lib.hid (to_parts G)
  generalize G.err = er at *
  generalize G.ready = rdy at *
  generalize G.ok = ok at *
  generalize Gl.to G = T at *
  clear hr hG hl
  obtain ⟨⟨f, g, h⟩, st, com, l, wt, tr⟩ := G
  simp only at HRS HTP
  have hto2 := hto 2
  have hto4 := hto 4
  obtain ⟨si, hsi⟩ : ∃ si : Int, si = (st : Int) := ⟨_, rfl⟩
  have HR2 : Hid (RS = if ok = false then (gl0, 270) else if si ≠ 1 then (gl0, 9) else if cm then (T 2, 0) else (T 4, 0)) := Lib.hid (by
    rw [HRS.out, hsi]
    simp only [show ((st : Int) ≠ 1) = (st ≠ 1) from by simp; omega])
  have HP2 : Hid ((T 2).parts = l) := Lib.hid (HTP.out 2)
  have HP4 : Hid ((T 4).parts = l) := Lib.hid (HTP.out 4)
  generalize T 2 = T2 at *
  generalize T 4 = T4 at *
  clear hto HRS HTP
  unfold glV at hck hto2 hto4 ⊢
  simp only at hck hto2 hto4 ⊢
  rw [← hsi] at hck hto2 hto4 ⊢
  clear hsi hrd
  obtain ⟨hb0, hz0, hB0⟩ := box2_of w #[.int .u32 (f : Int), .string (str g), .string (str h), .int .u8 si, .bool com, .slice A n c, .int .u32 (wt : Int), .int .u32 (tr : Int)] #[.int .u32 0, .string ⟨#[]⟩, .string ⟨#[]⟩, .int .u8 0, .bool false, .slice none 0 0, .int .u32 0, .int .u32 0] 28 28
  obtain ⟨w0, hw0⟩ : ∃ w0, w0 = ((w.alloc (.cells #[.int .u32 (f : Int), .string (str g), .string (str h), .int .u8 si, .bool com, .slice A n c, .int .u32 (wt : Int), .int .u32 (tr : Int)] 28)).alloc (.cells #[.int .u32 0, .string ⟨#[]⟩, .string ⟨#[]⟩, .int .u8 0, .bool false, .slice none 0 0, .int .u32 0, .int .u32 0] 28)) := ⟨_, rfl⟩
  rw [← hw0] at hb0 hz0 hB0
  have hck0 := hck w0 hB0
  clear hck
  have x0 := hb0.cell (j := 0) rfl
  have x1 := hb0.cell (j := 1) rfl
  have x2 := hb0.cell (j := 2) rfl
  have x3 := hb0.cell (j := 3) rfl
  have x4 := hb0.cell (j := 4) rfl
  have x5 := hb0.cell (j := 5) rfl
  have x6 := hb0.cell (j := 6) rfl
  have x7 := hb0.cell (j := 7) rfl
  go_enter Try.func30, Try.ntmps30
  go_upto_region 1 with fail
  rw [← hw0]
  clear hw0
  go_wp2_with (first | (with_reducible refine hold_append ?_) | (with_reducible refine hold_make ?_) | (with_reducible refine hold_copy ?_) | (with_reducible refine hold_store ?_))
  refine hck0.mono ?_
  rintro e w1 ⟨rfl, hB1⟩
  have hb1 := hb0.below hB1
  have hz1 := hz0.below hB1
  have hB01 := hB0.trans (hB1.mono hB0.size)
  clear hck0 hb0 hz0 hB0 hB1 x0 x1 x2 x3 x4 x5 x6 x7
  have x0 := hb1.cell (j := 0) rfl
  have x1 := hb1.cell (j := 1) rfl
  have x2 := hb1.cell (j := 2) rfl
  have x3 := hb1.cell (j := 3) rfl
  have x4 := hb1.cell (j := 4) rfl
  have x5 := hb1.cell (j := 5) rfl
  have x6 := hb1.cell (j := 6) rfl
  have x7 := hb1.cell (j := 7) rfl
  cases ok
  · obtain rfl : er = 270 := by have := HE.out; simpa using this
    have HRES : Hid (RS = (gl0, 270)) := Lib.hid (by rw [HR2.out]; simp)
    go_wp2_with (first | (with_reducible refine hold_append ?_) | (with_reducible refine hold_make ?_) | (with_reducible refine hold_copy ?_) | (with_reducible refine hold_store ?_))
    refine unhold (wp_box (v := .agg #[.int .u32 0, .string ⟨#[]⟩, .string ⟨#[]⟩, .int .u8 0, .bool false, .slice none 0 0, .int .u32 0, .int .u32 0]) (vs := [.int .u32 0, .string ⟨#[]⟩, .string ⟨#[]⟩, .int .u8 0, .bool false, .slice none 0 0, .int .u32 0, .int .u32 0]) rfl rfl rfl rfl hz1 rfl (by kernel_rfl) (by simp) gl_one #[.int .u32 0, .string ⟨#[]⟩, .string ⟨#[]⟩, .int .u8 0, .bool false, .slice none 0 0, .int .u32 0, .int .u32 0] (by simp) ?_)
    intro w9 hb9 hg9 _
    have hB9 := below_box hB01 hg9 (by omega)
    go_wp2_with (first | (with_reducible refine hold_append ?_) | (with_reducible refine hold_make ?_) | (with_reducible refine hold_copy ?_))
    refine ret_box_tmp rfl hb9 rfl rfl Try.underlying28 rfl (by kernel_rfl) rfl ?_
    rw [HRES.out]
    exact ⟨none, 0, 0, rfl, Own.none_ _ _ _ _, by omega, hB9⟩
  · obtain rfl : er = 0 := by have := HE.out; simpa using this
    by_cases s1 : si = 1
    · subst s1
      cases cm
      · have HRES : Hid (RS = (T4, 0)) := Lib.hid (by rw [HR2.out]; simp)
        have ht := hto4 w1 (HN.out rfl) hB01
        obtain ⟨E, hE⟩ : ∃ E, E = T4 := ⟨_, rfl⟩
        rw [← hE] at ht HRES HP4
        have HP := HP4
        clear hto2 hto4 hE
        go_wp2_with (first | (with_reducible refine hold_append ?_) | (with_reducible refine hold_make ?_) | (with_reducible refine hold_copy ?_) | (with_reducible refine hold_store ?_))
        refine (ht).mono ?_
        rintro e w7 ⟨A2, c2, rfl, ho7, hB7⟩
        have hz7 := (hz1).below hB7
        have hB07 := (hB01).trans (hB7.mono (hB01).size)
        have hlt7 := (hz1).lt
        have hsz7 := (hB01).size
        rw [← HP.out] at ho7
        obtain ⟨⟨ef, eg, eh⟩, est, ecom, el, ewt, etr⟩ := E
        unfold glV at *
        simp only at *
        go_wp2_with (first | (with_reducible refine hold_append ?_) | (with_reducible refine hold_make ?_) | (with_reducible refine hold_copy ?_) | (with_reducible refine hold_store ?_))
        refine unhold (wp_box (v := .agg #[.int .u32 (ef : Int), .string (str eg), .string (str eh), .int .u8 (est : Int), .bool ecom, .slice A2 n c2, .int .u32 (ewt : Int), .int .u32 (etr : Int)]) (vs := [.int .u32 (ef : Int), .string (str eg), .string (str eh), .int .u8 (est : Int), .bool ecom, .slice A2 n c2, .int .u32 (ewt : Int), .int .u32 (etr : Int)]) rfl rfl rfl rfl hz7 rfl (by kernel_rfl) (by simp) gl_one #[.int .u32 (ef : Int), .string (str eg), .string (str eh), .int .u8 (est : Int), .bool ecom, .slice A2 n c2, .int .u32 (ewt : Int), .int .u32 (etr : Int)] (by simp) ?_)
        intro w8 hb8 hg8 _
        have hB08 := below_box hB07 hg8 (by omega)
        have ho8 := own_box ho7 hg8 (by omega)
        go_wp2_with (first | (with_reducible refine hold_append ?_) | (with_reducible refine hold_make ?_) | (with_reducible refine hold_copy ?_))
        refine ret_box_tmp rfl hb8 rfl rfl Try.underlying28 rfl (by kernel_rfl) rfl ?_
        rw [HRES.out]
        exact ⟨A2, n, c2, rfl, Own.base_le ho8 hsz7, hn, hB08⟩
      · have HRES : Hid (RS = (T2, 0)) := Lib.hid (by rw [HR2.out]; simp)
        have ht := hto2 w1 (HN.out rfl) hB01
        obtain ⟨E, hE⟩ : ∃ E, E = T2 := ⟨_, rfl⟩
        rw [← hE] at ht HRES HP2
        have HP := HP2
        clear hto2 hto4 hE
        go_wp2_with (first | (with_reducible refine hold_append ?_) | (with_reducible refine hold_make ?_) | (with_reducible refine hold_copy ?_) | (with_reducible refine hold_store ?_))
        refine (ht).mono ?_
        rintro e w7 ⟨A2, c2, rfl, ho7, hB7⟩
        have hz7 := (hz1).below hB7
        have hB07 := (hB01).trans (hB7.mono (hB01).size)
        have hlt7 := (hz1).lt
        have hsz7 := (hB01).size
        rw [← HP.out] at ho7
        obtain ⟨⟨ef, eg, eh⟩, est, ecom, el, ewt, etr⟩ := E
        unfold glV at *
        simp only at *
        go_wp2_with (first | (with_reducible refine hold_append ?_) | (with_reducible refine hold_make ?_) | (with_reducible refine hold_copy ?_) | (with_reducible refine hold_store ?_))
        refine unhold (wp_box (v := .agg #[.int .u32 (ef : Int), .string (str eg), .string (str eh), .int .u8 (est : Int), .bool ecom, .slice A2 n c2, .int .u32 (ewt : Int), .int .u32 (etr : Int)]) (vs := [.int .u32 (ef : Int), .string (str eg), .string (str eh), .int .u8 (est : Int), .bool ecom, .slice A2 n c2, .int .u32 (ewt : Int), .int .u32 (etr : Int)]) rfl rfl rfl rfl hz7 rfl (by kernel_rfl) (by simp) gl_one #[.int .u32 (ef : Int), .string (str eg), .string (str eh), .int .u8 (est : Int), .bool ecom, .slice A2 n c2, .int .u32 (ewt : Int), .int .u32 (etr : Int)] (by simp) ?_)
        intro w8 hb8 hg8 _
        have hB08 := below_box hB07 hg8 (by omega)
        have ho8 := own_box ho7 hg8 (by omega)
        go_wp2_with (first | (with_reducible refine hold_append ?_) | (with_reducible refine hold_make ?_) | (with_reducible refine hold_copy ?_))
        refine ret_box_tmp rfl hb8 rfl rfl Try.underlying28 rfl (by kernel_rfl) rfl ?_
        rw [HRES.out]
        exact ⟨A2, n, c2, rfl, Own.base_le ho8 hsz7, hn, hB08⟩
    · have e1 : (si != 1) = true := by simpa using s1
      have HRES : Hid (RS = (gl0, 9)) := Lib.hid (by rw [HR2.out]; simp [s1])
      clear s1
      go_wp2_with (first | (with_reducible refine hold_append ?_) | (with_reducible refine hold_make ?_) | (with_reducible refine hold_copy ?_) | (with_reducible refine hold_store ?_))
      refine unhold (wp_box (v := .agg #[.int .u32 0, .string ⟨#[]⟩, .string ⟨#[]⟩, .int .u8 0, .bool false, .slice none 0 0, .int .u32 0, .int .u32 0]) (vs := [.int .u32 0, .string ⟨#[]⟩, .string ⟨#[]⟩, .int .u8 0, .bool false, .slice none 0 0, .int .u32 0, .int .u32 0]) rfl rfl rfl rfl hz1 rfl (by kernel_rfl) (by simp) gl_one #[.int .u32 0, .string ⟨#[]⟩, .string ⟨#[]⟩, .int .u8 0, .bool false, .slice none 0 0, .int .u32 0, .int .u32 0] (by simp) ?_)
      intro w9 hb9 hg9 _
      have hB9 := below_box hB01 hg9 (by omega)
      go_wp2_with (first | (with_reducible refine hold_append ?_) | (with_reducible refine hold_make ?_) | (with_reducible refine hold_copy ?_))
      refine ret_box_tmp rfl hb9 rfl rfl Try.underlying28 rfl (by kernel_rfl) rfl ?_
      rw [HRES.out]
      exact ⟨none, 0, 0, rfl, Own.none_ _ _ _ _, by omega, hB9⟩
end Go.PH
end
section
/- The walks of gtx's Decide and Abort. -/
set_option linter.all false
set_option linter.unusedSimpArgs false
set_option linter.unusedVariables false
namespace Go.PH
open Go.RowKit Go.Proofs

set_option maxRecDepth 20000 in
set_option maxHeartbeats 2000000 in
theorem decide_any (G : Gl) (A : Option Addr) (n c : Nat) (B : Nat) (w : World) (hG : G.wf) (hr : RdP w B A n c G.parts) (hB : B ≤ w.heap.size) (hn : n ≤ 1000000000) :
    Calls Try.prog 33 #[.agg (glV G A n c)] w fun e w' => TurnR w G.decide' e w' := by
  obtain ⟨RS, hRS⟩ : ∃ RS, RS = G.decide' := ⟨_, rfl⟩
  rw [← hRS]
  have HRS : Hid (RS = if G.ok = false then (gl0, 270) else if G.ready = false then (gl0, 9) else (G.to 3, 0)) := Lib.hid (by rw [hRS]; rfl)
  clear hRS
  have hl := rec_length ptShape hr
  have hck := fun W hW => gcheck_any G A n c B W hG (hr.below' hW hB) (Nat.le_trans hB hW.size) hn
  have hto := fun s W h0 hW => to_any G s A n c B W (hr.below' hW hB) (Nat.le_trans hB hW.size) h0 hn
  have hrd := fun W hW => ready_any G A n c B W hG (hr.below' hW hB) (Nat.le_trans hB hW.size) hn
  have HN : Hid (G.ok = true → 0 < n) := Lib.hid (fun h => ok_pos h hl)
  have HE : Hid (G.err = if G.ok then 0 else 270) := Lib.hid rfl
  have HTP : Hid (∀ s, (G.to s).parts = G.parts) := Lib.hid (to_parts G)
  generalize G.err = er at *
  generalize G.ready = rdy at *
  generalize G.ok = ok at *
  generalize Gl.to G = T at *
  clear hr hG hl
  obtain ⟨⟨f, g, h⟩, st, com, l, wt, tr⟩ := G
  simp only at HRS HTP
  have hto2 := hto 3
  obtain ⟨si, hsi⟩ : ∃ si : Int, si = (st : Int) := ⟨_, rfl⟩
  have HP2 : Hid ((T 3).parts = l) := Lib.hid (HTP.out 3)
  generalize T 3 = T2 at *
  clear hto HTP
  unfold glV at hck hrd hto2 ⊢
  simp only at hck hrd hto2 ⊢
  rw [← hsi] at hck hrd hto2 ⊢
  clear hsi
  obtain ⟨hb0, hz0, hB0⟩ := box2_of w #[.int .u32 (f : Int), .string (str g), .string (str h), .int .u8 si, .bool com, .slice A n c, .int .u32 (wt : Int), .int .u32 (tr : Int)] #[.int .u32 0, .string ⟨#[]⟩, .string ⟨#[]⟩, .int .u8 0, .bool false, .slice none 0 0, .int .u32 0, .int .u32 0] 28 28
  obtain ⟨w0, hw0⟩ : ∃ w0, w0 = ((w.alloc (.cells #[.int .u32 (f : Int), .string (str g), .string (str h), .int .u8 si, .bool com, .slice A n c, .int .u32 (wt : Int), .int .u32 (tr : Int)] 28)).alloc (.cells #[.int .u32 0, .string ⟨#[]⟩, .string ⟨#[]⟩, .int .u8 0, .bool false, .slice none 0 0, .int .u32 0, .int .u32 0] 28)) := ⟨_, rfl⟩
  rw [← hw0] at hb0 hz0 hB0
  have hck0 := hck w0 hB0
  clear hck
  have x0 := hb0.cell (j := 0) rfl
  have x1 := hb0.cell (j := 1) rfl
  have x2 := hb0.cell (j := 2) rfl
  have x3 := hb0.cell (j := 3) rfl
  have x4 := hb0.cell (j := 4) rfl
  have x5 := hb0.cell (j := 5) rfl
  have x6 := hb0.cell (j := 6) rfl
  have x7 := hb0.cell (j := 7) rfl
  go_enter Try.func33, Try.ntmps33
  go_upto_region 1 with fail
  rw [← hw0]
  clear hw0
  go_wp2_with (first | (with_reducible refine hold_append ?_) | (with_reducible refine hold_make ?_) | (with_reducible refine hold_copy ?_) | (with_reducible refine hold_store ?_))
  refine hck0.mono ?_
  rintro e w1 ⟨rfl, hB1⟩
  have hb1 := hb0.below hB1
  have hz1 := hz0.below hB1
  have hB01 := hB0.trans (hB1.mono hB0.size)
  clear hck0 hb0 hz0 hB0 hB1 x0 x1 x2 x3 x4 x5 x6 x7
  have x0 := hb1.cell (j := 0) rfl
  have x1 := hb1.cell (j := 1) rfl
  have x2 := hb1.cell (j := 2) rfl
  have x3 := hb1.cell (j := 3) rfl
  have x4 := hb1.cell (j := 4) rfl
  have x5 := hb1.cell (j := 5) rfl
  have x6 := hb1.cell (j := 6) rfl
  have x7 := hb1.cell (j := 7) rfl
  cases ok
  · obtain rfl : er = 270 := by have := HE.out; simpa using this
    have HRES : Hid (RS = (gl0, 270)) := Lib.hid (by rw [HRS.out]; simp)
    go_wp2_with (first | (with_reducible refine hold_append ?_) | (with_reducible refine hold_make ?_) | (with_reducible refine hold_copy ?_) | (with_reducible refine hold_store ?_))
    refine unhold (wp_box (v := .agg #[.int .u32 0, .string ⟨#[]⟩, .string ⟨#[]⟩, .int .u8 0, .bool false, .slice none 0 0, .int .u32 0, .int .u32 0]) (vs := [.int .u32 0, .string ⟨#[]⟩, .string ⟨#[]⟩, .int .u8 0, .bool false, .slice none 0 0, .int .u32 0, .int .u32 0]) rfl rfl rfl rfl hz1 rfl (by kernel_rfl) (by simp) gl_one #[.int .u32 0, .string ⟨#[]⟩, .string ⟨#[]⟩, .int .u8 0, .bool false, .slice none 0 0, .int .u32 0, .int .u32 0] (by simp) ?_)
    intro w9 hb9 hg9 _
    have hB9 := below_box hB01 hg9 (by omega)
    go_wp2_with (first | (with_reducible refine hold_append ?_) | (with_reducible refine hold_make ?_) | (with_reducible refine hold_copy ?_))
    refine ret_box_tmp rfl hb9 rfl rfl Try.underlying28 rfl (by kernel_rfl) rfl ?_
    rw [HRES.out]
    exact ⟨none, 0, 0, rfl, Own.none_ _ _ _ _, by omega, hB9⟩
  · obtain rfl : er = 0 := by have := HE.out; simpa using this
    have hrd1 := hrd w1 hB01
    clear hrd
    go_wp2_with (first | (with_reducible refine hold_append ?_) | (with_reducible refine hold_make ?_) | (with_reducible refine hold_copy ?_) | (with_reducible refine hold_store ?_))
    refine hrd1.mono ?_
    rintro e w2 ⟨rfl, hB2⟩
    have hb2 := hb1.below hB2
    have hz2 := hz1.below hB2
    have hB02 := hB01.trans (hB2.mono hB01.size)
    clear hrd1 x0 x1 x2 x3 x4 x5 x6 x7
    have x0 := hb2.cell (j := 0) rfl
    have x1 := hb2.cell (j := 1) rfl
    have x2 := hb2.cell (j := 2) rfl
    have x3 := hb2.cell (j := 3) rfl
    have x4 := hb2.cell (j := 4) rfl
    have x5 := hb2.cell (j := 5) rfl
    have x6 := hb2.cell (j := 6) rfl
    have x7 := hb2.cell (j := 7) rfl
    cases rdy
    · have HRES : Hid (RS = (gl0, 9)) := Lib.hid (by rw [HRS.out]; simp)
      go_wp2_with (first | (with_reducible refine hold_append ?_) | (with_reducible refine hold_make ?_) | (with_reducible refine hold_copy ?_) | (with_reducible refine hold_store ?_))
      refine unhold (wp_box (v := .agg #[.int .u32 0, .string ⟨#[]⟩, .string ⟨#[]⟩, .int .u8 0, .bool false, .slice none 0 0, .int .u32 0, .int .u32 0]) (vs := [.int .u32 0, .string ⟨#[]⟩, .string ⟨#[]⟩, .int .u8 0, .bool false, .slice none 0 0, .int .u32 0, .int .u32 0]) rfl rfl rfl rfl hz2 rfl (by kernel_rfl) (by simp) gl_one #[.int .u32 0, .string ⟨#[]⟩, .string ⟨#[]⟩, .int .u8 0, .bool false, .slice none 0 0, .int .u32 0, .int .u32 0] (by simp) ?_)
      intro w9 hb9 hg9 _
      have hB9 := below_box hB02 hg9 (by omega)
      go_wp2_with (first | (with_reducible refine hold_append ?_) | (with_reducible refine hold_make ?_) | (with_reducible refine hold_copy ?_))
      refine ret_box_tmp rfl hb9 rfl rfl Try.underlying28 rfl (by kernel_rfl) rfl ?_
      rw [HRES.out]
      exact ⟨none, 0, 0, rfl, Own.none_ _ _ _ _, by omega, hB9⟩
    · have HRES : Hid (RS = (T2, 0)) := Lib.hid (by rw [HRS.out]; simp)
      have ht := hto2 w2 (HN.out (by simp)) hB02
      obtain ⟨E, hE⟩ : ∃ E, E = T2 := ⟨_, rfl⟩
      rw [← hE] at ht HRES HP2
      have HP := HP2
      clear hto2 hE
      go_wp2_with (first | (with_reducible refine hold_append ?_) | (with_reducible refine hold_make ?_) | (with_reducible refine hold_copy ?_) | (with_reducible refine hold_store ?_))
      refine (ht).mono ?_
      rintro e w7 ⟨A2, c2, rfl, ho7, hB7⟩
      have hz7 := (hz2).below hB7
      have hB07 := (hB02).trans (hB7.mono (hB02).size)
      have hlt7 := (hz2).lt
      have hsz7 := (hB02).size
      rw [← HP.out] at ho7
      obtain ⟨⟨ef, eg, eh⟩, est, ecom, el, ewt, etr⟩ := E
      unfold glV at *
      simp only at *
      go_wp2_with (first | (with_reducible refine hold_append ?_) | (with_reducible refine hold_make ?_) | (with_reducible refine hold_copy ?_) | (with_reducible refine hold_store ?_))
      refine unhold (wp_box (v := .agg #[.int .u32 (ef : Int), .string (str eg), .string (str eh), .int .u8 (est : Int), .bool ecom, .slice A2 n c2, .int .u32 (ewt : Int), .int .u32 (etr : Int)]) (vs := [.int .u32 (ef : Int), .string (str eg), .string (str eh), .int .u8 (est : Int), .bool ecom, .slice A2 n c2, .int .u32 (ewt : Int), .int .u32 (etr : Int)]) rfl rfl rfl rfl hz7 rfl (by kernel_rfl) (by simp) gl_one #[.int .u32 (ef : Int), .string (str eg), .string (str eh), .int .u8 (est : Int), .bool ecom, .slice A2 n c2, .int .u32 (ewt : Int), .int .u32 (etr : Int)] (by simp) ?_)
      intro w8 hb8 hg8 _
      have hB08 := below_box hB07 hg8 (by omega)
      have ho8 := own_box ho7 hg8 (by omega)
      go_wp2_with (first | (with_reducible refine hold_append ?_) | (with_reducible refine hold_make ?_) | (with_reducible refine hold_copy ?_))
      refine ret_box_tmp rfl hb8 rfl rfl Try.underlying28 rfl (by kernel_rfl) rfl ?_
      rw [HRES.out]
      exact ⟨A2, n, c2, rfl, Own.base_le ho8 hsz7, hn, hB08⟩
set_option maxRecDepth 20000 in
set_option maxHeartbeats 2000000 in
theorem abort_any (G : Gl) (A : Option Addr) (n c : Nat) (B : Nat) (w : World) (hG : G.wf) (hr : RdP w B A n c G.parts) (hB : B ≤ w.heap.size) (hn : n ≤ 1000000000) :
    Calls Try.prog 35 #[.agg (glV G A n c)] w fun e w' => TurnR w G.abort e w' := by
  obtain ⟨RS, hRS⟩ : ∃ RS, RS = G.abort := ⟨_, rfl⟩
  rw [← hRS]
  have HRS : Hid (RS = if G.ok = false then (gl0, 270) else if G.st ≠ 2 then (gl0, 9) else (G.to 4, 0)) := Lib.hid (by rw [hRS]; rfl)
  clear hRS
  have hl := rec_length ptShape hr
  have hck := fun W hW => gcheck_any G A n c B W hG (hr.below' hW hB) (Nat.le_trans hB hW.size) hn
  have hto := fun s W h0 hW => to_any G s A n c B W (hr.below' hW hB) (Nat.le_trans hB hW.size) h0 hn
  have hrd := fun W hW => ready_any G A n c B W hG (hr.below' hW hB) (Nat.le_trans hB hW.size) hn
  have HN : Hid (G.ok = true → 0 < n) := Lib.hid (fun h => ok_pos h hl)
  have HE : Hid (G.err = if G.ok then 0 else 270) := Lib.hid rfl
  have HTP : Hid (∀ s, (G.to s).parts = G.parts) := Lib.hid (to_parts G)
  generalize G.err = er at *
  generalize G.ready = rdy at *
  generalize G.ok = ok at *
  generalize Gl.to G = T at *
  clear hr hG hl
  obtain ⟨⟨f, g, h⟩, st, com, l, wt, tr⟩ := G
  simp only at HRS HTP
  have hto2 := hto 4
  obtain ⟨si, hsi⟩ : ∃ si : Int, si = (st : Int) := ⟨_, rfl⟩
  have HR2 : Hid (RS = if ok = false then (gl0, 270) else if si ≠ 2 then (gl0, 9) else (T 4, 0)) := Lib.hid (by
    rw [HRS.out, hsi]
    simp only [show ((st : Int) ≠ 2) = (st ≠ 2) from by simp; omega])
  have HP2 : Hid ((T 4).parts = l) := Lib.hid (HTP.out 4)
  generalize T 4 = T2 at *
  clear hto HRS HTP hrd
  unfold glV at hck hto2 ⊢
  simp only at hck hto2 ⊢
  rw [← hsi] at hck hto2 ⊢
  clear hsi
  obtain ⟨hb0, hz0, hB0⟩ := box2_of w #[.int .u32 (f : Int), .string (str g), .string (str h), .int .u8 si, .bool com, .slice A n c, .int .u32 (wt : Int), .int .u32 (tr : Int)] #[.int .u32 0, .string ⟨#[]⟩, .string ⟨#[]⟩, .int .u8 0, .bool false, .slice none 0 0, .int .u32 0, .int .u32 0] 28 28
  obtain ⟨w0, hw0⟩ : ∃ w0, w0 = ((w.alloc (.cells #[.int .u32 (f : Int), .string (str g), .string (str h), .int .u8 si, .bool com, .slice A n c, .int .u32 (wt : Int), .int .u32 (tr : Int)] 28)).alloc (.cells #[.int .u32 0, .string ⟨#[]⟩, .string ⟨#[]⟩, .int .u8 0, .bool false, .slice none 0 0, .int .u32 0, .int .u32 0] 28)) := ⟨_, rfl⟩
  rw [← hw0] at hb0 hz0 hB0
  have hck0 := hck w0 hB0
  clear hck
  have x0 := hb0.cell (j := 0) rfl
  have x1 := hb0.cell (j := 1) rfl
  have x2 := hb0.cell (j := 2) rfl
  have x3 := hb0.cell (j := 3) rfl
  have x4 := hb0.cell (j := 4) rfl
  have x5 := hb0.cell (j := 5) rfl
  have x6 := hb0.cell (j := 6) rfl
  have x7 := hb0.cell (j := 7) rfl
  go_enter Try.func35, Try.ntmps35
  go_upto_region 1 with fail
  rw [← hw0]
  clear hw0
  go_wp2_with (first | (with_reducible refine hold_append ?_) | (with_reducible refine hold_make ?_) | (with_reducible refine hold_copy ?_) | (with_reducible refine hold_store ?_))
  refine hck0.mono ?_
  rintro e w1 ⟨rfl, hB1⟩
  have hb1 := hb0.below hB1
  have hz1 := hz0.below hB1
  have hB01 := hB0.trans (hB1.mono hB0.size)
  clear hck0 hb0 hz0 hB0 hB1 x0 x1 x2 x3 x4 x5 x6 x7
  have x0 := hb1.cell (j := 0) rfl
  have x1 := hb1.cell (j := 1) rfl
  have x2 := hb1.cell (j := 2) rfl
  have x3 := hb1.cell (j := 3) rfl
  have x4 := hb1.cell (j := 4) rfl
  have x5 := hb1.cell (j := 5) rfl
  have x6 := hb1.cell (j := 6) rfl
  have x7 := hb1.cell (j := 7) rfl
  cases ok
  · obtain rfl : er = 270 := by have := HE.out; simpa using this
    have HRES : Hid (RS = (gl0, 270)) := Lib.hid (by rw [HR2.out]; simp)
    go_wp2_with (first | (with_reducible refine hold_append ?_) | (with_reducible refine hold_make ?_) | (with_reducible refine hold_copy ?_) | (with_reducible refine hold_store ?_))
    refine unhold (wp_box (v := .agg #[.int .u32 0, .string ⟨#[]⟩, .string ⟨#[]⟩, .int .u8 0, .bool false, .slice none 0 0, .int .u32 0, .int .u32 0]) (vs := [.int .u32 0, .string ⟨#[]⟩, .string ⟨#[]⟩, .int .u8 0, .bool false, .slice none 0 0, .int .u32 0, .int .u32 0]) rfl rfl rfl rfl hz1 rfl (by kernel_rfl) (by simp) gl_one #[.int .u32 0, .string ⟨#[]⟩, .string ⟨#[]⟩, .int .u8 0, .bool false, .slice none 0 0, .int .u32 0, .int .u32 0] (by simp) ?_)
    intro w9 hb9 hg9 _
    have hB9 := below_box hB01 hg9 (by omega)
    go_wp2_with (first | (with_reducible refine hold_append ?_) | (with_reducible refine hold_make ?_) | (with_reducible refine hold_copy ?_))
    refine ret_box_tmp rfl hb9 rfl rfl Try.underlying28 rfl (by kernel_rfl) rfl ?_
    rw [HRES.out]
    exact ⟨none, 0, 0, rfl, Own.none_ _ _ _ _, by omega, hB9⟩
  · obtain rfl : er = 0 := by have := HE.out; simpa using this
    by_cases s1 : si = 2
    · subst s1
      have HRES : Hid (RS = (T2, 0)) := Lib.hid (by rw [HR2.out]; simp)
      have ht := hto2 w1 (HN.out (by simp)) hB01
      obtain ⟨E, hE⟩ : ∃ E, E = T2 := ⟨_, rfl⟩
      rw [← hE] at ht HRES HP2
      have HP := HP2
      clear hto2 hE
      go_wp2_with (first | (with_reducible refine hold_append ?_) | (with_reducible refine hold_make ?_) | (with_reducible refine hold_copy ?_) | (with_reducible refine hold_store ?_))
      refine (ht).mono ?_
      rintro e w7 ⟨A2, c2, rfl, ho7, hB7⟩
      have hz7 := (hz1).below hB7
      have hB07 := (hB01).trans (hB7.mono (hB01).size)
      have hlt7 := (hz1).lt
      have hsz7 := (hB01).size
      rw [← HP.out] at ho7
      obtain ⟨⟨ef, eg, eh⟩, est, ecom, el, ewt, etr⟩ := E
      unfold glV at *
      simp only at *
      go_wp2_with (first | (with_reducible refine hold_append ?_) | (with_reducible refine hold_make ?_) | (with_reducible refine hold_copy ?_) | (with_reducible refine hold_store ?_))
      refine unhold (wp_box (v := .agg #[.int .u32 (ef : Int), .string (str eg), .string (str eh), .int .u8 (est : Int), .bool ecom, .slice A2 n c2, .int .u32 (ewt : Int), .int .u32 (etr : Int)]) (vs := [.int .u32 (ef : Int), .string (str eg), .string (str eh), .int .u8 (est : Int), .bool ecom, .slice A2 n c2, .int .u32 (ewt : Int), .int .u32 (etr : Int)]) rfl rfl rfl rfl hz7 rfl (by kernel_rfl) (by simp) gl_one #[.int .u32 (ef : Int), .string (str eg), .string (str eh), .int .u8 (est : Int), .bool ecom, .slice A2 n c2, .int .u32 (ewt : Int), .int .u32 (etr : Int)] (by simp) ?_)
      intro w8 hb8 hg8 _
      have hB08 := below_box hB07 hg8 (by omega)
      have ho8 := own_box ho7 hg8 (by omega)
      go_wp2_with (first | (with_reducible refine hold_append ?_) | (with_reducible refine hold_make ?_) | (with_reducible refine hold_copy ?_))
      refine ret_box_tmp rfl hb8 rfl rfl Try.underlying28 rfl (by kernel_rfl) rfl ?_
      rw [HRES.out]
      exact ⟨A2, n, c2, rfl, Own.base_le ho8 hsz7, hn, hB08⟩
    · have e1 : (si != 2) = true := by simpa using s1
      have HRES : Hid (RS = (gl0, 9)) := Lib.hid (by rw [HR2.out]; simp [s1])
      clear s1
      go_wp2_with (first | (with_reducible refine hold_append ?_) | (with_reducible refine hold_make ?_) | (with_reducible refine hold_copy ?_) | (with_reducible refine hold_store ?_))
      refine unhold (wp_box (v := .agg #[.int .u32 0, .string ⟨#[]⟩, .string ⟨#[]⟩, .int .u8 0, .bool false, .slice none 0 0, .int .u32 0, .int .u32 0]) (vs := [.int .u32 0, .string ⟨#[]⟩, .string ⟨#[]⟩, .int .u8 0, .bool false, .slice none 0 0, .int .u32 0, .int .u32 0]) rfl rfl rfl rfl hz1 rfl (by kernel_rfl) (by simp) gl_one #[.int .u32 0, .string ⟨#[]⟩, .string ⟨#[]⟩, .int .u8 0, .bool false, .slice none 0 0, .int .u32 0, .int .u32 0] (by simp) ?_)
      intro w9 hb9 hg9 _
      have hB9 := below_box hB01 hg9 (by omega)
      go_wp2_with (first | (with_reducible refine hold_append ?_) | (with_reducible refine hold_make ?_) | (with_reducible refine hold_copy ?_))
      refine ret_box_tmp rfl hb9 rfl rfl Try.underlying28 rfl (by kernel_rfl) rfl ?_
      rw [HRES.out]
      exact ⟨none, 0, 0, rfl, Own.none_ _ _ _ _, by omega, hB9⟩
end Go.PH
end
section
/- The walks of Take's inner function, of slices.IndexFunc at it, of rows. -/
set_option linter.all false
set_option linter.unusedSimpArgs false
set_option linter.unusedVariables false
namespace Go.PH
open Go.RowKit Go.Proofs

theorem box4_of (w : World) (cs ds es fs : Array Value) (t u v x : TypeId) : Box ((((w.alloc (.cells cs t)).alloc (.cells ds u)).alloc (.cells es v)).alloc (.cells fs x)) w.heap.size t cs ∧ Box ((((w.alloc (.cells cs t)).alloc (.cells ds u)).alloc (.cells es v)).alloc (.cells fs x)) (w.heap.size + 1) u ds ∧ Box ((((w.alloc (.cells cs t)).alloc (.cells ds u)).alloc (.cells es v)).alloc (.cells fs x)) (w.heap.size + 2) v es ∧ Box ((((w.alloc (.cells cs t)).alloc (.cells ds u)).alloc (.cells es v)).alloc (.cells fs x)) (w.heap.size + 3) x fs ∧ Below w.heap.size w ((((w.alloc (.cells cs t)).alloc (.cells ds u)).alloc (.cells es v)).alloc (.cells fs x)) := by
  obtain ⟨h1, h2, h3⟩ := box2_of w cs ds t u
  obtain ⟨h4, h5, h6⟩ := box2_of ((w.alloc (.cells cs t)).alloc (.cells ds u)) es fs v x
  have hs : ((w.alloc (.cells cs t)).alloc (.cells ds u)).heap.size = w.heap.size + 2 := by simp
  rw [hs] at h4 h5
  exact ⟨h1.below h6, h2.below h6, h4, h5, h3.trans (h6.mono h3.size)⟩
theorem box3_of (w : World) (cs ds es : Array Value) (t u v : TypeId) : Box (((w.alloc (.cells cs t)).alloc (.cells ds u)).alloc (.cells es v)) w.heap.size t cs ∧ Box (((w.alloc (.cells cs t)).alloc (.cells ds u)).alloc (.cells es v)) (w.heap.size + 1) u ds ∧ Box (((w.alloc (.cells cs t)).alloc (.cells ds u)).alloc (.cells es v)) (w.heap.size + 2) v es ∧ Below w.heap.size w (((w.alloc (.cells cs t)).alloc (.cells ds u)).alloc (.cells es v)) := by
  obtain ⟨h1, h2, h3⟩ := box2_of w cs ds t u
  have h5 := Box.new ((w.alloc (.cells cs t)).alloc (.cells ds u)) es v
  have hs : ((w.alloc (.cells cs t)).alloc (.cells ds u)).heap.size = w.heap.size + 2 := by simp
  rw [hs] at h5
  exact ⟨h1.alloc _, h2.alloc _, h5, h3.alloc h3.size _⟩
set_option maxRecDepth 20000 in
theorem take1_any (p : Pt) (node : Nat) (x : Xd) (bn bl : Nat) (W : World) (hn : W.cell? ⟨bn, 0, none⟩ = some (.int .u8 (node : Int)))
    (l1 : W.cell? ⟨bl, 1, none⟩ = some (.int .u32 (x.fmt : Int))) (l2 : W.cell? ⟨bl, 2, none⟩ = some (.string (str x.glob))) (l3 : W.cell? ⟨bl, 3, none⟩ = some (.string (str x.bran))) :
    Calls Try.prog 41 #[.agg (ptV p), .pointer (some ⟨bn, 0, none⟩), .pointer (some ⟨bl, 0, none⟩)] W fun e w' => e = .returned (.bool (decide (p.node = node ∧ p.x = x))) ∧ Below W.heap.size W w' := by
  have hbn : bn < W.heap.size := World.block_lt_of_cell? W _ hn
  have hbl : bl < W.heap.size := World.block_lt_of_cell? W _ l1
  obtain ⟨R, hR⟩ : ∃ R, R = decide (p.node = node ∧ p.x = x) := ⟨_, rfl⟩
  rw [← hR]
  have HR := Lib.hid hR
  clear hR
  have heq := fun w => xid_eql p.x x w
  obtain ⟨pn, ⟨xf, xg, xh⟩, ps⟩ := p
  obtain ⟨yf, yg, yh⟩ := x
  simp only [ptV, xdV] at heq l1 l2 l3 HR ⊢
  have HX : Hid (decide ((⟨xf, xg, xh⟩ : Xd) = ⟨yf, yg, yh⟩) = decide ((⟨xf, xg, xh⟩ : Xd) = ⟨yf, yg, yh⟩)) := Lib.hid rfl
  have HR2 : Hid (R = (decide (pn = node) && decide ((⟨xf, xg, xh⟩ : Xd) = ⟨yf, yg, yh⟩))) := Lib.hid (by rw [HR.out, Bool.eq_iff_iff]; simp only [Bool.and_eq_true, decide_eq_true_eq])
  generalize decide ((⟨xf, xg, xh⟩ : Xd) = ⟨yf, yg, yh⟩) = dx at *
  clear HR HX
  have hB1 := (Below.refl W.heap.size W).alloc (Nat.le_refl _) (.cells #[.int .u8 (pn : Int), .int .u32 (xf : Int), .string (str xg), .string (str xh), .int .u8 (ps : Int)] 45)
  have hb1 := Box.new W #[.int .u8 (pn : Int), .int .u32 (xf : Int), .string (str xg), .string (str xh), .int .u8 (ps : Int)] 45
  have n1 := (hB1.cell (p := ⟨bn, 0, none⟩) hbn).trans hn
  have m1 := (hB1.cell (p := ⟨bl, 1, none⟩) hbl).trans l1
  have m2 := (hB1.cell (p := ⟨bl, 2, none⟩) hbl).trans l2
  have m3 := (hB1.cell (p := ⟨bl, 3, none⟩) hbl).trans l3
  have k0 := hb1.cell (j := 0) rfl
  have k1 := hb1.cell (j := 1) rfl
  have k2 := hb1.cell (j := 2) rfl
  have k3 := hb1.cell (j := 3) rfl
  clear hn l1 l2 l3 hb1
  generalize hw1 : (W.alloc (.cells #[.int .u8 (pn : Int), .int .u32 (xf : Int), .string (str xg), .string (str xh), .int .u8 (ps : Int)] 45)) = W1 at *
  have hgd := fun x y => run_eqGuard_agg (P := Try.prog) W1 .eql 24 x y #[.int .u32 (xf : Int), .string (str xg), .string (str xh)] #[.int .u32 (yf : Int), .string (str yg), .string (str yh)] xid_guard
  by_cases hpn : pn = node
  · have d1 : ((pn : Int) == (node : Int)) = true := by simp; omega
    have HE : Hid (R = dx) := Lib.hid (by rw [HR2.out, decide_eq_true hpn]; rfl)
    clear hpn HR2
    go_enter Try.func41, Try.ntmps41
    go_upto_region 1 with fail
    clear hw1
    go_wp2_with (first | (with_reducible refine hold_append ?_) | (with_reducible refine hold_make ?_) | (with_reducible refine hold_copy ?_))
    go_ret
    rw [HE.out]
    exact ⟨rfl, hB1⟩
  · have d1 : ((pn : Int) == (node : Int)) = false := by simp; omega
    have HE : Hid (R = false) := Lib.hid (by rw [HR2.out, decide_eq_false hpn]; rfl)
    clear hpn HR2
    go_enter Try.func41, Try.ntmps41
    go_upto_region 1 with fail
    clear hw1
    go_wp2_with (first | (with_reducible refine hold_append ?_) | (with_reducible refine hold_make ?_) | (with_reducible refine hold_copy ?_))
    go_ret
    rw [HE.out]
    exact ⟨rfl, hB1⟩
def idxV : Option Nat → Int
  | none => -1
  | some i => (i : Int)
theorem idxp_any (node : Nat) (x : Xd) (bn bl : Nat) (A : Option Addr) (n c : Nat) (l : List Pt) (W : World) (hr : RdP W W.heap.size A n c l) (h0 : 0 < n) (hn9 : n ≤ 1000000000) (hn : W.cell? ⟨bn, 0, none⟩ = some (.int .u8 (node : Int)))
    (l1 : W.cell? ⟨bl, 1, none⟩ = some (.int .u32 (x.fmt : Int))) (l2 : W.cell? ⟨bl, 2, none⟩ = some (.string (str x.glob))) (l3 : W.cell? ⟨bl, 3, none⟩ = some (.string (str x.bran))) :
    Calls Try.prog 40 #[.slice A n c, .func (.func 41) #[] #[.pointer (some ⟨bn, 0, none⟩), .pointer (some ⟨bl, 0, none⟩)]] W fun e w' => e = .returned (.int .i64 (idxV (findPt node x l))) ∧ Below W.heap.size W w' := by
  have hl := rec_length ptShape hr
  have hbn : bn < W.heap.size := World.block_lt_of_cell? W _ hn
  have hbl : bl < W.heap.size := World.block_lt_of_cell? W _ l1
  obtain ⟨b, off, rfl, hb, hc⟩ := pt_cells hr h0
  have eg : ∀ args w, (callFunc 41 args).run Try.prog w = .ok (.enter 41 args) w := enters_of Try.func41 (by kernel_rfl) rfl
  have hcon := AnyQ.slices_IndexFunc Try.idxPart 5 Try.isAgg45 Try.sizeOf45 ptC (fun _ => rfl) (fun p => decide (p.node = node ∧ p.x = x)) 41 #[.pointer (some ⟨bn, 0, none⟩), .pointer (some ⟨bl, 0, none⟩)] eg b off n c l W
    (fun V p hW => (take1_any p node x bn bl V ((hW.cell (p := ⟨bn, 0, none⟩) hbn).trans hn) ((hW.cell (p := ⟨bl, 1, none⟩) hbl).trans l1) ((hW.cell (p := ⟨bl, 2, none⟩) hbl).trans l2) ((hW.cell (p := ⟨bl, 3, none⟩) hbl).trans l3)).mono fun e w' ⟨he, hb'⟩ => ⟨he, hW.trans (hb'.mono hW.size)⟩)
    (by omega) (by omega) hb (fun j hj i v hv => hc j hj i v hv)
  refine hcon.mono ?_
  rintro e w' ⟨rfl, hB⟩
  refine ⟨?_, hB⟩
  have : Lib.idxBy (fun _ y => decide (y.node = node ∧ y.x = x)) (l.take n) default = idxV (findPt node x l) := by
    rcases find_split node x l with ⟨h1, h2⟩ | ⟨d, p, t, h1, h2, h3, h4⟩
    · rw [h1]
      exact Lib.idxBy_miss _ l n default (fun j hj => by
        rw [getElem!_pos l j (by omega)]
        exact h2 _ (List.getElem_mem (by omega)))
    · rw [h2]
      have hdl : d.length < l.length := by rw [h1]; simp
      exact Lib.idxBy_hit _ l n d.length default (by omega) (by omega) (by
        rw [getElem!_pos l d.length hdl]
        simp only [h1, List.getElem_append_right (Nat.le_refl _), Nat.sub_self, List.getElem_cons_zero]
        exact h3) (fun j hj => by
        rw [getElem!_pos l j (by omega)]
        have : l[j] = d[j] := by simp only [h1]; rw [List.getElem_append_left hj]
        rw [this]
        exact h4 _ (List.getElem_mem hj))
  rw [this]
def rowsV : Array Value := #[.int .u8 2, .int .u8 0, .int .u8 1, .func (.func 63) #[] #[], .int .u8 3, .int .u8 1, .int .u8 2, .func (.func 64) #[] #[], .int .u8 4, .int .u8 0, .int .u8 3, .func (.func 64) #[] #[], .int .u8 4, .int .u8 1, .int .u8 3, .func (.func 64) #[] #[]]
set_option maxRecDepth 20000 in
theorem rows_any (w : World) : Calls Try.prog 42 #[] w fun e w' => e = .returned (.slice (some ⟨w.heap.size, 0, none⟩) 4 4) ∧ w' = w.alloc (.cells rowsV 86) := by
  go_enter Try.func42, Try.ntmps42
  go_wp2_with (first | (with_reducible refine hold_append ?_) | (with_reducible refine hold_make ?_) | (with_reducible refine hold_copy ?_))
  go_ret
  exact ⟨rfl, rfl⟩
end Go.PH
end

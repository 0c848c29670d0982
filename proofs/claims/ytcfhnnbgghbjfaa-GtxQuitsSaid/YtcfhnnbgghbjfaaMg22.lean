/- Texts laid together: GtRAsk, GtRAsk2. -/
import Derived.Test.YtcfhnnbgghbjfaaMg15
import Derived.Test.YtcfhnnbgghbjfaaMg20
import Derived.Test.YtcfhnnbgghbjfaaMg21
section
/- The walks of the reference's Ready, Ask, Decide, Abort. -/
set_option linter.all false
set_option linter.unusedSimpArgs false
set_option linter.unusedVariables false
namespace Go.PH
open Go.RowKit Go.Proofs

set_option maxRecDepth 20000 in
set_option maxHeartbeats 1000000 in
theorem rready_any (G : Gl) (A : Option Addr) (n c : Nat) (B : Nat) (w : World) (hG : G.wf) (hr : RdP w B A n c G.parts) (hB : B ≤ w.heap.size) (hn : n ≤ 1000000000) :
    Calls Try.prog 24 #[.agg (glV G A n c)] w fun e w' => e = .returned (.bool G.ready) ∧ Below w.heap.size w w' := by
  have hl := rec_length ptShape hr
  have hck := fun W hW => rgcheck_any G A n c B W hG (hr.below' hW hB) (Nat.le_trans hB hW.size) hn
  have hso := fun W hW => count_any G 0 A n c B W (hr.below' hW hB) (Nat.le_trans hB hW.size) hn
  have HN : Hid (G.ok = true → 0 < n) := Lib.hid (fun h => ok_pos h hl)
  have HE : Hid (G.err = if G.ok then 0 else 270) := Lib.hid rfl
  have HR : Hid (G.ready = (G.ok && decide (G.st = 2) && decide (cnt 0 G.parts = 0))) := Lib.hid (by unfold Gl.ready; rw [cnt_has]; congr 1; rw [Bool.eq_iff_iff]; simp)
  generalize G.ready = R at *
  generalize G.err = er at *
  generalize G.ok = ok at *
  obtain ⟨hs, hhs⟩ : ∃ hs, hs = cnt 0 G.parts := ⟨_, rfl⟩
  rw [← hhs] at hso HR
  clear hhs hr hG hl
  obtain ⟨⟨f, g, h⟩, st, com, l, wt, tr⟩ := G
  unfold glV at *
  simp only at hck hso HR ⊢
  obtain ⟨si, hsi⟩ : ∃ si : Int, si = (st : Int) := ⟨_, rfl⟩
  have HR2 : Hid (R = (ok && decide (si = 2) && decide (hs = 0))) := Lib.hid (by
    rw [HR.out, hsi]
    simp only [show ((st : Int) = 2) = (st = 2) from by simp; omega])
  rw [← hsi] at hck hso ⊢
  clear HR hsi
  have hB0 := (Below.refl w.heap.size w).alloc (Nat.le_refl _) (.cells #[.int .u32 (f : Int), .string (str g), .string (str h), .int .u8 si, .bool com, .slice A n c, .int .u32 (wt : Int), .int .u32 (tr : Int)] 28)
  have hb0 := Box.new w #[.int .u32 (f : Int), .string (str g), .string (str h), .int .u8 si, .bool com, .slice A n c, .int .u32 (wt : Int), .int .u32 (tr : Int)] 28
  have hck0 := hck _ hB0
  clear hck
  have x0 := hb0.cell (j := 0) rfl
  have x1 := hb0.cell (j := 1) rfl
  have x2 := hb0.cell (j := 2) rfl
  have x3 := hb0.cell (j := 3) rfl
  have x4 := hb0.cell (j := 4) rfl
  have x5 := hb0.cell (j := 5) rfl
  have x6 := hb0.cell (j := 6) rfl
  have x7 := hb0.cell (j := 7) rfl
  go_enter Try.func24, Try.ntmps24
  go_wp2_with (first | (with_reducible refine hold_append ?_) | (with_reducible refine hold_make ?_) | (with_reducible refine hold_copy ?_))
  refine hck0.mono ?_
  rintro e w1 ⟨rfl, hB1⟩
  have hb1 := hb0.below hB1
  have hB01 := hB0.trans (hB1.mono hB0.size)
  clear hck0 x0 x1 x2 x3 x4 x5 x6 x7 hb0
  cases ok
  · obtain rfl : er = 270 := by have := HE.out; simpa using this
    have HF : Hid (R = false) := Lib.hid (by rw [HR2.out]; simp)
    go_wp2_with (first | (with_reducible refine hold_append ?_) | (with_reducible refine hold_make ?_) | (with_reducible refine hold_copy ?_))
    go_ret
    rw [HF.out]
    exact ⟨rfl, hB01⟩
  · obtain rfl : er = 0 := by have := HE.out; simpa using this
    have x3 := hb1.cell (j := 3) rfl
    have x5 := hb1.cell (j := 5) rfl
    by_cases s2 : si = 2
    · subst s2
      have hs0 := hso w1 hB01
      have q0 := hb1.cell (j := 0) rfl
      have q1 := hb1.cell (j := 1) rfl
      have q2 := hb1.cell (j := 2) rfl
      have q4 := hb1.cell (j := 4) rfl
      have q6 := hb1.cell (j := 6) rfl
      have q7 := hb1.cell (j := 7) rfl
      go_wp2_with (first | (with_reducible refine hold_append ?_) | (with_reducible refine hold_make ?_) | (with_reducible refine hold_copy ?_))
      refine hs0.mono ?_
      rintro e w2 ⟨rfl, hB2⟩
      by_cases z : hs = 0
      · have zb : ((hs : Int) == 0) = true := by simp; omega
        have HF : Hid (R = true) := Lib.hid (by rw [HR2.out]; simp [z])
        clear z
        go_wp2_with (first | (with_reducible refine hold_append ?_) | (with_reducible refine hold_make ?_) | (with_reducible refine hold_copy ?_))
        go_ret
        rw [HF.out]
        exact ⟨rfl, hB01.trans (hB2.mono hB01.size)⟩
      · have zb : ((hs : Int) == 0) = false := by simp; omega
        have HF : Hid (R = false) := Lib.hid (by rw [HR2.out]; simp [z])
        clear z
        go_wp2_with (first | (with_reducible refine hold_append ?_) | (with_reducible refine hold_make ?_) | (with_reducible refine hold_copy ?_))
        go_ret
        rw [HF.out]
        exact ⟨rfl, hB01.trans (hB2.mono hB01.size)⟩
    · have e2 : (si == 2) = false := by simpa using s2
      have HF : Hid (R = false) := Lib.hid (by rw [HR2.out]; simp [s2])
      clear s2
      go_wp2_with (first | (with_reducible refine hold_append ?_) | (with_reducible refine hold_make ?_) | (with_reducible refine hold_copy ?_))
      go_ret
      rw [HF.out]
      exact ⟨rfl, hB01⟩
theorem ok_com {G : Gl} (h : G.ok = true) : G.st = 1 ∨ G.st = 2 → G.com = false := by
  simp only [Gl.ok, Bool.and_eq_true] at h
  have := h.2
  intro hs
  unfold stateOk at this
  rcases hs with hs | hs
  · rw [if_pos hs] at this
    simp at this
    exact this.1
  · rw [if_neg (by omega), if_pos hs] at this
    simp at this
    exact this.1
set_option maxRecDepth 20000 in
set_option maxHeartbeats 2000000 in
theorem rabortF_any (G : Gl) (A : Option Addr) (n c : Nat) (B : Nat) (w : World) (hG : G.wf) (hr : RdP w B A n c G.parts) (hB : B ≤ w.heap.size) (hn : n ≤ 1000000000) :
    Calls Try.prog 36 #[.agg (glV G A n c)] w fun e w' => TurnR w G.abort e w' := by
  obtain ⟨RS, hRS⟩ : ∃ RS, RS = G.abort := ⟨_, rfl⟩
  rw [← hRS]
  have HRS : Hid (RS = if G.ok = false then (gl0, 270) else if G.st ≠ 2 then (gl0, 9) else (G.to 4, 0)) := Lib.hid (by rw [hRS]; rfl)
  clear hRS
  have hl := rec_length ptShape hr
  have hck := fun W hW => rgcheck_any G A n c B W hG (hr.below' hW hB) (Nat.le_trans hB hW.size) hn
  have hcp := fun W hW => rcopy_any G A n c B W (hr.below' hW hB) (Nat.le_trans hB hW.size) hn
  have hab := fun A2 c2 W (h1 : RdP W W.heap.size A2 n c2 G.parts) => rabort_any G A2 n c2 W.heap.size W h1 (Nat.le_refl _) hn
  have hrd := fun W hW => rready_any G A n c B W hG (hr.below' hW hB) (Nat.le_trans hB hW.size) hn
  have HE : Hid (G.err = if G.ok then 0 else 270) := Lib.hid rfl
  have HCO : Hid (G.ok = true → G.st = 1 ∨ G.st = 2 → G.com = false) := Lib.hid ok_com
  have HAB : Hid (Gl.ends { G with st := 4, wait := 0, tries := 0 } = Gl.ends { G with st := 4, wait := 0, tries := 0 }) := Lib.hid rfl
  have HAP : Hid ((Gl.ends { G with st := 4, wait := 0, tries := 0 }).parts = G.parts) := Lib.hid (ends_parts _)
  have HA4 : Hid (G.com = false → G.to 4 = Gl.ends { G with st := 4, wait := 0, tries := 0 }) := Lib.hid (fun h => by unfold Gl.to; rw [h]; rfl)
  obtain ⟨E4, hE4⟩ : ∃ E4, E4 = Gl.ends { G with st := 4, wait := 0, tries := 0 } := ⟨_, rfl⟩
  rw [← hE4] at hab HA4 HAP
  clear HAB
  generalize G.err = er at *
  generalize G.ready = rdy at *
  generalize G.ok = ok at *
  clear hr hG hl hE4
  obtain ⟨⟨f, g, h⟩, st, com, l, wt, tr⟩ := G
  simp only at HRS HCO HA4 HAP
  generalize Gl.to _ 4 = T4 at HRS HA4
  obtain ⟨si, hsi⟩ : ∃ si : Int, si = (st : Int) := ⟨_, rfl⟩
  have HR2 : Hid (RS = if ok = false then (gl0, 270) else if si ≠ 2 then (gl0, 9) else (T4, 0)) := Lib.hid (by
    rw [HRS.out, hsi]
    simp only [show ((st : Int) ≠ 2) = (st ≠ 2) from by simp; omega])
  have HC2 : Hid (ok = true → si = 2 → com = false) := Lib.hid (fun h h' => HCO.out h (by omega))
  clear HRS hrd HCO
  unfold glV at hck hcp hab ⊢
  simp only at hck hcp hab ⊢
  rw [← hsi] at hck hcp hab ⊢
  clear hsi
  obtain ⟨hb0, hz0, hB0⟩ := box2_of w #[.int .u32 (f : Int), .string (str g), .string (str h), .int .u8 si, .bool com, .slice A n c, .int .u32 (wt : Int), .int .u32 (tr : Int)] #[.int .u32 0, .string ⟨#[]⟩, .string ⟨#[]⟩, .int .u8 0, .bool false, .slice none 0 0, .int .u32 0, .int .u32 0] 28 28
  obtain ⟨w0, hw0⟩ : ∃ w0, w0 = ((w.alloc (.cells #[.int .u32 (f : Int), .string (str g), .string (str h), .int .u8 si, .bool com, .slice A n c, .int .u32 (wt : Int), .int .u32 (tr : Int)] 28)).alloc (.cells #[.int .u32 0, .string ⟨#[]⟩, .string ⟨#[]⟩, .int .u8 0, .bool false, .slice none 0 0, .int .u32 0, .int .u32 0] 28)) := ⟨_, rfl⟩
  rw [← hw0] at hb0 hz0 hB0
  have hck0 := hck w0 hB0
  clear hck
  have x0 := hb0.cell (j := 0) rfl
  have x1 := hb0.cell (j := 1) rfl
  have x2 := hb0.cell (j := 2) rfl
  have x3 := hb0.cell (j := 3) rfl
  have x4 := hb0.cell (j := 4) rfl
  have x5 := hb0.cell (j := 5) rfl
  have x6 := hb0.cell (j := 6) rfl
  have x7 := hb0.cell (j := 7) rfl
  go_enter Try.func36, Try.ntmps36
  go_upto_region 1 with fail
  rw [← hw0]
  clear hw0
  go_wp2_with (first | (with_reducible refine hold_append ?_) | (with_reducible refine hold_make ?_) | (with_reducible refine hold_copy ?_) | (with_reducible refine hold_store ?_))
  refine hck0.mono ?_
  rintro e w1 ⟨rfl, hB1⟩
  have hb1 := hb0.below hB1
  have hz1 := hz0.below hB1
  have hB01 := hB0.trans (hB1.mono hB0.size)
  clear hck0 hb0 hz0 hB0 hB1 x0 x1 x2 x3 x4 x5 x6 x7
  have x0 := hb1.cell (j := 0) rfl
  have x1 := hb1.cell (j := 1) rfl
  have x2 := hb1.cell (j := 2) rfl
  have x3 := hb1.cell (j := 3) rfl
  have x4 := hb1.cell (j := 4) rfl
  have x5 := hb1.cell (j := 5) rfl
  have x6 := hb1.cell (j := 6) rfl
  have x7 := hb1.cell (j := 7) rfl
  cases ok
  · obtain rfl : er = 270 := by have := HE.out; simpa using this
    have HRES : Hid (RS = (gl0, 270)) := Lib.hid (by rw [HR2.out]; simp)
    go_wp2_with (first | (with_reducible refine hold_append ?_) | (with_reducible refine hold_make ?_) | (with_reducible refine hold_copy ?_) | (with_reducible refine hold_store ?_))
    refine unhold (wp_box (v := .agg #[.int .u32 0, .string ⟨#[]⟩, .string ⟨#[]⟩, .int .u8 0, .bool false, .slice none 0 0, .int .u32 0, .int .u32 0]) (vs := [.int .u32 0, .string ⟨#[]⟩, .string ⟨#[]⟩, .int .u8 0, .bool false, .slice none 0 0, .int .u32 0, .int .u32 0]) rfl rfl rfl rfl hz1 rfl (by kernel_rfl) (by simp) gl_one #[.int .u32 0, .string ⟨#[]⟩, .string ⟨#[]⟩, .int .u8 0, .bool false, .slice none 0 0, .int .u32 0, .int .u32 0] (by simp) ?_)
    intro w9 hb9 hg9 _
    have hB9 := below_box hB01 hg9 (by omega)
    go_wp2_with (first | (with_reducible refine hold_append ?_) | (with_reducible refine hold_make ?_) | (with_reducible refine hold_copy ?_))
    refine ret_box_tmp rfl hb9 rfl rfl Try.underlying28 rfl (by kernel_rfl) rfl ?_
    rw [HRES.out]
    exact ⟨none, 0, 0, rfl, Own.none_ _ _ _ _, by omega, hB9⟩
  · obtain rfl : er = 0 := by have := HE.out; simpa using this
    by_cases s1 : si = 2
    · subst s1
      obtain rfl : com = false := HC2.out (by simp) rfl
      have HRES : Hid (RS = (E4, 0)) := Lib.hid (by rw [HR2.out, HA4.out rfl]; simp)
      have hc1 := hcp w1 hB01
      clear HR2 HC2 HA4 hcp
      go_wp2_with (first | (with_reducible refine hold_append ?_) | (with_reducible refine hold_make ?_) | (with_reducible refine hold_copy ?_) | (with_reducible refine hold_store ?_))
      refine hc1.mono ?_
      rintro e w2 ⟨A2, c2, rfl, ho2, hB2⟩
      have hz2 := hz1.below hB2
      have hB02 := hB01.trans (hB2.mono hB01.size)
      have hab2 := hab A2 c2 w2 ho2.rd
      have hlt2 := hz1.lt
      have hsz2 := hB01.size
      clear hab hc1
      go_wp2_with (first | (with_reducible refine hold_append ?_) | (with_reducible refine hold_make ?_) | (with_reducible refine hold_copy ?_) | (with_reducible refine hold_store ?_))
      refine hab2.mono ?_
      rintro e w7 ⟨rfl, hB7⟩
      have hz7 := hz2.below hB7
      have ho7 := own_below ho2 hB7
      have hB07 := hB02.trans (hB7.mono hB02.size)
      rw [← HAP.out] at ho7
      clear hab2
      obtain ⟨⟨ef, eg, eh⟩, est, ecom, el, ewt, etr⟩ := E4
      unfold glV at *
      simp only at *
      go_wp2_with (first | (with_reducible refine hold_append ?_) | (with_reducible refine hold_make ?_) | (with_reducible refine hold_copy ?_) | (with_reducible refine hold_store ?_))
      refine unhold (wp_box (v := .agg #[.int .u32 (ef : Int), .string (str eg), .string (str eh), .int .u8 (est : Int), .bool ecom, .slice A2 n c2, .int .u32 (ewt : Int), .int .u32 (etr : Int)]) (vs := [.int .u32 (ef : Int), .string (str eg), .string (str eh), .int .u8 (est : Int), .bool ecom, .slice A2 n c2, .int .u32 (ewt : Int), .int .u32 (etr : Int)]) rfl rfl rfl rfl hz7 rfl (by kernel_rfl) (by simp) gl_one #[.int .u32 (ef : Int), .string (str eg), .string (str eh), .int .u8 (est : Int), .bool ecom, .slice A2 n c2, .int .u32 (ewt : Int), .int .u32 (etr : Int)] (by simp) ?_)
      intro w8 hb8 hg8 _
      have hB08 := below_box hB07 hg8 (by omega)
      have ho8 := own_box ho7 hg8 (by omega)
      go_wp2_with (first | (with_reducible refine hold_append ?_) | (with_reducible refine hold_make ?_) | (with_reducible refine hold_copy ?_))
      refine ret_box_tmp rfl hb8 rfl rfl Try.underlying28 rfl (by kernel_rfl) rfl ?_
      rw [HRES.out]
      exact ⟨A2, n, c2, rfl, Own.base_le ho8 hsz2, hn, hB08⟩
    · have e1 : (si != 2) = true := by simpa using s1
      have HRES : Hid (RS = (gl0, 9)) := Lib.hid (by rw [HR2.out]; simp [s1])
      clear s1
      go_wp2_with (first | (with_reducible refine hold_append ?_) | (with_reducible refine hold_make ?_) | (with_reducible refine hold_copy ?_) | (with_reducible refine hold_store ?_))
      refine unhold (wp_box (v := .agg #[.int .u32 0, .string ⟨#[]⟩, .string ⟨#[]⟩, .int .u8 0, .bool false, .slice none 0 0, .int .u32 0, .int .u32 0]) (vs := [.int .u32 0, .string ⟨#[]⟩, .string ⟨#[]⟩, .int .u8 0, .bool false, .slice none 0 0, .int .u32 0, .int .u32 0]) rfl rfl rfl rfl hz1 rfl (by kernel_rfl) (by simp) gl_one #[.int .u32 0, .string ⟨#[]⟩, .string ⟨#[]⟩, .int .u8 0, .bool false, .slice none 0 0, .int .u32 0, .int .u32 0] (by simp) ?_)
      intro w9 hb9 hg9 _
      have hB9 := below_box hB01 hg9 (by omega)
      go_wp2_with (first | (with_reducible refine hold_append ?_) | (with_reducible refine hold_make ?_) | (with_reducible refine hold_copy ?_))
      refine ret_box_tmp rfl hb9 rfl rfl Try.underlying28 rfl (by kernel_rfl) rfl ?_
      rw [HRES.out]
      exact ⟨none, 0, 0, rfl, Own.none_ _ _ _ _, by omega, hB9⟩
end Go.PH
end
section
/- The walks of the reference's Ask and Decide. -/
set_option linter.all false
set_option linter.unusedSimpArgs false
set_option linter.unusedVariables false
namespace Go.PH
open Go.RowKit Go.Proofs

set_option maxRecDepth 20000 in
set_option maxHeartbeats 2000000 in
theorem rask_any (G : Gl) (cm : Bool) (A : Option Addr) (n c : Nat) (B : Nat) (w : World) (hG : G.wf) (hr : RdP w B A n c G.parts) (hB : B ≤ w.heap.size) (hn : n ≤ 1000000000) :
    Calls Try.prog 32 #[.agg (glV G A n c), .bool cm] w fun e w' => TurnR w (G.ask cm) e w' := by
  obtain ⟨RS, hRS⟩ : ∃ RS, RS = G.ask cm := ⟨_, rfl⟩
  rw [← hRS]
  have HRS : Hid (RS = if G.ok = false then (gl0, 270) else if G.st ≠ 1 then (gl0, 9) else if cm then (G.to 2, 0) else (G.to 4, 0)) := Lib.hid (by rw [hRS]; rfl)
  clear hRS
  have HT2 : Hid (G.com = false → G.to 2 = ⟨G.x, 2, false, G.parts, 0, 0⟩) := Lib.hid (fun h => by unfold Gl.to Gl.ends; simp)
  have hl := rec_length ptShape hr
  have hck := fun W hW => rgcheck_any G A n c B W hG (hr.below' hW hB) (Nat.le_trans hB hW.size) hn
  have hcp := fun W hW => rcopy_any G A n c B W (hr.below' hW hB) (Nat.le_trans hB hW.size) hn
  have hab := fun A2 c2 W (h1 : RdP W W.heap.size A2 n c2 G.parts) => rabort_any G A2 n c2 W.heap.size W h1 (Nat.le_refl _) hn
  have hrd := fun W hW => rready_any G A n c B W hG (hr.below' hW hB) (Nat.le_trans hB hW.size) hn
  have HE : Hid (G.err = if G.ok then 0 else 270) := Lib.hid rfl
  have HCO : Hid (G.ok = true → G.st = 1 ∨ G.st = 2 → G.com = false) := Lib.hid ok_com
  have HAB : Hid (Gl.ends { G with st := 4, wait := 0, tries := 0 } = Gl.ends { G with st := 4, wait := 0, tries := 0 }) := Lib.hid rfl
  have HAP : Hid ((Gl.ends { G with st := 4, wait := 0, tries := 0 }).parts = G.parts) := Lib.hid (ends_parts _)
  have HA4 : Hid (G.com = false → G.to 4 = Gl.ends { G with st := 4, wait := 0, tries := 0 }) := Lib.hid (fun h => by unfold Gl.to; rw [h]; rfl)
  obtain ⟨E4, hE4⟩ : ∃ E4, E4 = Gl.ends { G with st := 4, wait := 0, tries := 0 } := ⟨_, rfl⟩
  rw [← hE4] at hab HA4 HAP
  clear HAB
  have hen := fun A2 c2 W (h1 : RdP W W.heap.size A2 n c2 G.parts) => rends_any { G with st := 3, wait := 0, tries := 0, com := true } A2 n c2 W.heap.size W h1 (Nat.le_refl _) hn
  have HT3 : Hid (G.to 3 = Gl.ends { G with st := 3, wait := 0, tries := 0, com := true }) := Lib.hid rfl
  have HP3 : Hid ((G.to 3).parts = G.parts) := Lib.hid (to_parts _ _)
  rw [← HT3.out] at hen
  clear HT3
  generalize G.err = er at *
  generalize G.ready = rdy at *
  generalize G.ok = ok at *
  clear hr hG hl hE4
  obtain ⟨⟨f, g, h⟩, st, com, l, wt, tr⟩ := G
  simp only at HRS HCO HA4 HAP HT2
  generalize Gl.to _ 4 = T4 at HRS HA4
  generalize Gl.to _ 2 = T2 at HRS HT2
  clear HP3 hen hrd
  obtain ⟨si, hsi⟩ : ∃ si : Int, si = (st : Int) := ⟨_, rfl⟩
  have HR2 : Hid (RS = if ok = false then (gl0, 270) else if si ≠ 1 then (gl0, 9) else if cm then (T2, 0) else (T4, 0)) := Lib.hid (by
    rw [HRS.out, hsi]
    simp only [show ((st : Int) ≠ 1) = (st ≠ 1) from by simp; omega])
  have HC2 : Hid (ok = true → si = 1 → com = false) := Lib.hid (fun h h' => HCO.out h (by omega))
  clear HRS HCO
  unfold glV at hck hcp hab ⊢
  simp only at hck hcp hab ⊢
  rw [← hsi] at hck hcp hab ⊢
  clear hsi
  obtain ⟨hb0, hz0, hB0⟩ := box2_of w #[.int .u32 (f : Int), .string (str g), .string (str h), .int .u8 si, .bool com, .slice A n c, .int .u32 (wt : Int), .int .u32 (tr : Int)] #[.int .u32 0, .string ⟨#[]⟩, .string ⟨#[]⟩, .int .u8 0, .bool false, .slice none 0 0, .int .u32 0, .int .u32 0] 28 28
  obtain ⟨w0, hw0⟩ : ∃ w0, w0 = ((w.alloc (.cells #[.int .u32 (f : Int), .string (str g), .string (str h), .int .u8 si, .bool com, .slice A n c, .int .u32 (wt : Int), .int .u32 (tr : Int)] 28)).alloc (.cells #[.int .u32 0, .string ⟨#[]⟩, .string ⟨#[]⟩, .int .u8 0, .bool false, .slice none 0 0, .int .u32 0, .int .u32 0] 28)) := ⟨_, rfl⟩
  rw [← hw0] at hb0 hz0 hB0
  have hck0 := hck w0 hB0
  clear hck
  have x0 := hb0.cell (j := 0) rfl
  have x1 := hb0.cell (j := 1) rfl
  have x2 := hb0.cell (j := 2) rfl
  have x3 := hb0.cell (j := 3) rfl
  have x4 := hb0.cell (j := 4) rfl
  have x5 := hb0.cell (j := 5) rfl
  have x6 := hb0.cell (j := 6) rfl
  have x7 := hb0.cell (j := 7) rfl
  go_enter Try.func32, Try.ntmps32
  go_upto_region 1 with fail
  rw [← hw0]
  clear hw0
  go_wp2_with (first | (with_reducible refine hold_append ?_) | (with_reducible refine hold_make ?_) | (with_reducible refine hold_copy ?_) | (with_reducible refine hold_store ?_))
  refine hck0.mono ?_
  rintro e w1 ⟨rfl, hB1⟩
  have hb1 := hb0.below hB1
  have hz1 := hz0.below hB1
  have hB01 := hB0.trans (hB1.mono hB0.size)
  clear hck0 hb0 hz0 hB0 hB1 x0 x1 x2 x3 x4 x5 x6 x7
  have x0 := hb1.cell (j := 0) rfl
  have x1 := hb1.cell (j := 1) rfl
  have x2 := hb1.cell (j := 2) rfl
  have x3 := hb1.cell (j := 3) rfl
  have x4 := hb1.cell (j := 4) rfl
  have x5 := hb1.cell (j := 5) rfl
  have x6 := hb1.cell (j := 6) rfl
  have x7 := hb1.cell (j := 7) rfl
  cases ok
  · obtain rfl : er = 270 := by have := HE.out; simpa using this
    have HRES : Hid (RS = (gl0, 270)) := Lib.hid (by rw [HR2.out]; simp)
    go_wp2_with (first | (with_reducible refine hold_append ?_) | (with_reducible refine hold_make ?_) | (with_reducible refine hold_copy ?_) | (with_reducible refine hold_store ?_))
    refine unhold (wp_box (v := .agg #[.int .u32 0, .string ⟨#[]⟩, .string ⟨#[]⟩, .int .u8 0, .bool false, .slice none 0 0, .int .u32 0, .int .u32 0]) (vs := [.int .u32 0, .string ⟨#[]⟩, .string ⟨#[]⟩, .int .u8 0, .bool false, .slice none 0 0, .int .u32 0, .int .u32 0]) rfl rfl rfl rfl hz1 rfl (by kernel_rfl) (by simp) gl_one #[.int .u32 0, .string ⟨#[]⟩, .string ⟨#[]⟩, .int .u8 0, .bool false, .slice none 0 0, .int .u32 0, .int .u32 0] (by simp) ?_)
    intro w9 hb9 hg9 _
    have hB9 := below_box hB01 hg9 (by omega)
    go_wp2_with (first | (with_reducible refine hold_append ?_) | (with_reducible refine hold_make ?_) | (with_reducible refine hold_copy ?_))
    refine ret_box_tmp rfl hb9 rfl rfl Try.underlying28 rfl (by kernel_rfl) rfl ?_
    rw [HRES.out]
    exact ⟨none, 0, 0, rfl, Own.none_ _ _ _ _, by omega, hB9⟩
  · obtain rfl : er = 0 := by have := HE.out; simpa using this
    by_cases s1 : si = 1
    · subst s1
      obtain rfl : com = false := HC2.out (by simp) rfl
      have HRES0 : Hid (RS = if cm then (⟨⟨f, g, h⟩, 2, false, l, 0, 0⟩, 0) else (E4, 0)) := Lib.hid (by rw [HR2.out, HA4.out rfl, HT2.out rfl]; simp)
      clear HR2 HC2 HA4 HT2
      have hc1 := hcp w1 hB01
      clear hcp
      go_wp2_with (first | (with_reducible refine hold_append ?_) | (with_reducible refine hold_make ?_) | (with_reducible refine hold_copy ?_) | (with_reducible refine hold_store ?_))
      refine hc1.mono ?_
      rintro e w2 ⟨A2, c2, rfl, ho2, hB2⟩
      have hb2 := (hb1).below hB2
      have hz2 := (hz1).below hB2
      have hB02 := hB01.trans (hB2.mono hB01.size)
      have hlt1 := (hb1).lt
      have hlt2 := (hz1).lt
      have hsz2 := hB01.size
      clear hc1
      go_wp2_with (first | (with_reducible refine hold_append ?_) | (with_reducible refine hold_make ?_) | (with_reducible refine hold_copy ?_) | (with_reducible refine hold_store ?_))
      refine unhold (wp_box (v := .agg #[.int .u32 (f : Int), .string (str g), .string (str h), .int .u8 1, .bool false, .slice A2 n c2, .int .u32 (wt : Int), .int .u32 (tr : Int)]) (vs := [.int .u32 (f : Int), .string (str g), .string (str h), .int .u8 1, .bool false, .slice A2 n c2, .int .u32 (wt : Int), .int .u32 (tr : Int)]) rfl rfl rfl rfl hb2 rfl (by kernel_rfl) (by simp) gl_one #[.int .u32 (f : Int), .string (str g), .string (str h), .int .u8 1, .bool false, .slice A2 n c2, .int .u32 (wt : Int), .int .u32 (tr : Int)] (by simp) ?_)
      intro w3 hb3 hg3 _
      have hz3 := hz2.grown hg3 (by intro e; injection e with e; omega)
      have hB03 := below_box hB02 hg3 (Nat.le_refl _)
      have ho3 := own_box ho2 hg3 (by omega)
      clear hb2 hz2 ho2
      cases cm
      · have HRES : Hid (RS = (E4, 0)) := Lib.hid (by rw [HRES0.out]; rfl)
        have hab3 := hab A2 c2 w3 ((ho3.rd' (Nat.le_refl _)))
        clear x0 x1 x2 x3 x4 x5 x6 x7
        have x0 := hb3.cell (j := 0) rfl
        have x1 := hb3.cell (j := 1) rfl
        have x2 := hb3.cell (j := 2) rfl
        have x3 := hb3.cell (j := 3) rfl
        have x4 := hb3.cell (j := 4) rfl
        have x5 := hb3.cell (j := 5) rfl
        have x6 := hb3.cell (j := 6) rfl
        have x7 := hb3.cell (j := 7) rfl
        go_wp2_with (first | (with_reducible refine hold_append ?_) | (with_reducible refine hold_make ?_) | (with_reducible refine hold_copy ?_) | (with_reducible refine hold_store ?_))
        refine hab3.mono ?_
        rintro e w7 ⟨rfl, hB7⟩
        have hz7 := hz3.below hB7
        have ho7 := own_below ho3 hB7
        have hB07 := hB03.trans (hB7.mono hB03.size)
        rw [← HAP.out] at ho7
        clear hab3 hab
        obtain ⟨⟨ef, eg, eh⟩, est, ecom, el, ewt, etr⟩ := E4
        unfold glV at *
        simp only at *
        go_wp2_with (first | (with_reducible refine hold_append ?_) | (with_reducible refine hold_make ?_) | (with_reducible refine hold_copy ?_) | (with_reducible refine hold_store ?_))
        refine unhold (wp_box (v := .agg #[.int .u32 (ef : Int), .string (str eg), .string (str eh), .int .u8 (est : Int), .bool ecom, .slice A2 n c2, .int .u32 (ewt : Int), .int .u32 (etr : Int)]) (vs := [.int .u32 (ef : Int), .string (str eg), .string (str eh), .int .u8 (est : Int), .bool ecom, .slice A2 n c2, .int .u32 (ewt : Int), .int .u32 (etr : Int)]) rfl rfl rfl rfl hz7 rfl (by kernel_rfl) (by simp) gl_one #[.int .u32 (ef : Int), .string (str eg), .string (str eh), .int .u8 (est : Int), .bool ecom, .slice A2 n c2, .int .u32 (ewt : Int), .int .u32 (etr : Int)] (by simp) ?_)
        intro w8 hb8 hg8 _
        have hB08 := below_box hB07 hg8 (by omega)
        have ho8 := own_box ho7 hg8 (by omega)
        go_wp2_with (first | (with_reducible refine hold_append ?_) | (with_reducible refine hold_make ?_) | (with_reducible refine hold_copy ?_))
        refine ret_box_tmp rfl hb8 rfl rfl Try.underlying28 rfl (by kernel_rfl) rfl ?_
        rw [HRES.out]
        exact ⟨A2, n, c2, rfl, Own.base_le ho8 hsz2, hn, hB08⟩
      · have HRES : Hid (RS = (⟨⟨f, g, h⟩, 2, false, l, 0, 0⟩, 0)) := Lib.hid (by rw [HRES0.out]; rfl)
        clear x0 x1 x2 x3 x4 x5 x6 x7
        go_wp2_with (first | (with_reducible refine hold_append ?_) | (with_reducible refine hold_make ?_) | (with_reducible refine hold_copy ?_) | (with_reducible refine hold_store ?_))
        refine unhold (wp_box (v := .int .u8 2) (vs := [.int .u8 2]) rfl rfl rfl rfl hb3 rfl (by kernel_rfl) (by simp) (by simp; rfl) #[.int .u32 (f : Int), .string (str g), .string (str h), .int .u8 2, .bool false, .slice A2 n c2, .int .u32 (wt : Int), .int .u32 (tr : Int)] (by simp) ?_)
        intro w4 hb4 hg4 _
        have hz4 := hz3.grown hg4 (by intro e; injection e with e; omega)
        have hB04 := below_box hB03 hg4 (Nat.le_refl _)
        have ho4 := own_box ho3 hg4 (by omega)
        go_wp2_with (first | (with_reducible refine hold_append ?_) | (with_reducible refine hold_make ?_) | (with_reducible refine hold_copy ?_) | (with_reducible refine hold_store ?_))
        refine unhold (wp_box (v := .int .u32 0) (vs := [.int .u32 0]) rfl rfl rfl rfl hb4 rfl (by kernel_rfl) (by simp) (by simp; rfl) #[.int .u32 (f : Int), .string (str g), .string (str h), .int .u8 2, .bool false, .slice A2 n c2, .int .u32 0, .int .u32 (tr : Int)] (by simp) ?_)
        intro w5 hb5 hg5 _
        have hz5 := hz4.grown hg5 (by intro e; injection e with e; omega)
        have hB05 := below_box hB04 hg5 (Nat.le_refl _)
        have ho5 := own_box ho4 hg5 (by omega)
        go_wp2_with (first | (with_reducible refine hold_append ?_) | (with_reducible refine hold_make ?_) | (with_reducible refine hold_copy ?_) | (with_reducible refine hold_store ?_))
        refine unhold (wp_box (v := .int .u32 0) (vs := [.int .u32 0]) rfl rfl rfl rfl hb5 rfl (by kernel_rfl) (by simp) (by simp; rfl) #[.int .u32 (f : Int), .string (str g), .string (str h), .int .u8 2, .bool false, .slice A2 n c2, .int .u32 0, .int .u32 0] (by simp) ?_)
        intro w6 hb6 hg6 _
        have hz6 := hz5.grown hg6 (by intro e; injection e with e; omega)
        have hB06 := below_box hB05 hg6 (Nat.le_refl _)
        have ho6 := own_box ho5 hg6 (by omega)
        clear hb3 hb4 hb5 hz3 hz4 hz5
        have x0 := hb6.cell (j := 0) rfl
        have x1 := hb6.cell (j := 1) rfl
        have x2 := hb6.cell (j := 2) rfl
        have x3 := hb6.cell (j := 3) rfl
        have x4 := hb6.cell (j := 4) rfl
        have x5 := hb6.cell (j := 5) rfl
        have x6 := hb6.cell (j := 6) rfl
        have x7 := hb6.cell (j := 7) rfl
        go_wp2_with (first | (with_reducible refine hold_append ?_) | (with_reducible refine hold_make ?_) | (with_reducible refine hold_copy ?_) | (with_reducible refine hold_store ?_))
        refine unhold (wp_box (v := .agg #[.int .u32 (f : Int), .string (str g), .string (str h), .int .u8 2, .bool false, .slice A2 n c2, .int .u32 0, .int .u32 0]) (vs := [.int .u32 (f : Int), .string (str g), .string (str h), .int .u8 2, .bool false, .slice A2 n c2, .int .u32 0, .int .u32 0]) rfl rfl rfl rfl hz6 rfl (by kernel_rfl) (by simp) gl_one #[.int .u32 (f : Int), .string (str g), .string (str h), .int .u8 2, .bool false, .slice A2 n c2, .int .u32 0, .int .u32 0] (by simp) ?_)
        intro w8 hb8 hg8 _
        have hB08 := below_box hB06 hg8 (by omega)
        have ho8 := own_box ho6 hg8 (by omega)
        go_wp2_with (first | (with_reducible refine hold_append ?_) | (with_reducible refine hold_make ?_) | (with_reducible refine hold_copy ?_))
        refine ret_box_tmp rfl hb8 rfl rfl Try.underlying28 rfl (by kernel_rfl) rfl ?_
        rw [HRES.out]
        exact ⟨A2, n, c2, rfl, Own.base_le ho8 hsz2, hn, hB08⟩
    · have e1 : (si != 1) = true := by simpa using s1
      have HRES : Hid (RS = (gl0, 9)) := Lib.hid (by rw [HR2.out]; simp [s1])
      clear s1
      go_wp2_with (first | (with_reducible refine hold_append ?_) | (with_reducible refine hold_make ?_) | (with_reducible refine hold_copy ?_) | (with_reducible refine hold_store ?_))
      refine unhold (wp_box (v := .agg #[.int .u32 0, .string ⟨#[]⟩, .string ⟨#[]⟩, .int .u8 0, .bool false, .slice none 0 0, .int .u32 0, .int .u32 0]) (vs := [.int .u32 0, .string ⟨#[]⟩, .string ⟨#[]⟩, .int .u8 0, .bool false, .slice none 0 0, .int .u32 0, .int .u32 0]) rfl rfl rfl rfl hz1 rfl (by kernel_rfl) (by simp) gl_one #[.int .u32 0, .string ⟨#[]⟩, .string ⟨#[]⟩, .int .u8 0, .bool false, .slice none 0 0, .int .u32 0, .int .u32 0] (by simp) ?_)
      intro w9 hb9 hg9 _
      have hB9 := below_box hB01 hg9 (by omega)
      go_wp2_with (first | (with_reducible refine hold_append ?_) | (with_reducible refine hold_make ?_) | (with_reducible refine hold_copy ?_))
      refine ret_box_tmp rfl hb9 rfl rfl Try.underlying28 rfl (by kernel_rfl) rfl ?_
      rw [HRES.out]
      exact ⟨none, 0, 0, rfl, Own.none_ _ _ _ _, by omega, hB9⟩
set_option maxRecDepth 20000 in
set_option maxHeartbeats 2000000 in
theorem rdecide_any (G : Gl) (A : Option Addr) (n c : Nat) (B : Nat) (w : World) (hG : G.wf) (hr : RdP w B A n c G.parts) (hB : B ≤ w.heap.size) (hn : n ≤ 1000000000) :
    Calls Try.prog 34 #[.agg (glV G A n c)] w fun e w' => TurnR w G.decide' e w' := by
  obtain ⟨RS, hRS⟩ : ∃ RS, RS = G.decide' := ⟨_, rfl⟩
  rw [← hRS]
  have HRS : Hid (RS = if G.ok = false then (gl0, 270) else if G.ready = false then (gl0, 9) else (G.to 3, 0)) := Lib.hid (by rw [hRS]; rfl)
  clear hRS
  have hl := rec_length ptShape hr
  have hck := fun W hW => rgcheck_any G A n c B W hG (hr.below' hW hB) (Nat.le_trans hB hW.size) hn
  have hcp := fun W hW => rcopy_any G A n c B W (hr.below' hW hB) (Nat.le_trans hB hW.size) hn
  have hab := fun A2 c2 W (h1 : RdP W W.heap.size A2 n c2 G.parts) => rabort_any G A2 n c2 W.heap.size W h1 (Nat.le_refl _) hn
  have hrd := fun W hW => rready_any G A n c B W hG (hr.below' hW hB) (Nat.le_trans hB hW.size) hn
  have HE : Hid (G.err = if G.ok then 0 else 270) := Lib.hid rfl
  have HCO : Hid (G.ok = true → G.st = 1 ∨ G.st = 2 → G.com = false) := Lib.hid ok_com
  have HAB : Hid (Gl.ends { G with st := 4, wait := 0, tries := 0 } = Gl.ends { G with st := 4, wait := 0, tries := 0 }) := Lib.hid rfl
  have HAP : Hid ((Gl.ends { G with st := 4, wait := 0, tries := 0 }).parts = G.parts) := Lib.hid (ends_parts _)
  have HA4 : Hid (G.com = false → G.to 4 = Gl.ends { G with st := 4, wait := 0, tries := 0 }) := Lib.hid (fun h => by unfold Gl.to; rw [h]; rfl)
  obtain ⟨E4, hE4⟩ : ∃ E4, E4 = Gl.ends { G with st := 4, wait := 0, tries := 0 } := ⟨_, rfl⟩
  rw [← hE4] at hab HA4 HAP
  clear HAB
  have hen := fun A2 c2 W (h1 : RdP W W.heap.size A2 n c2 G.parts) => rends_any { G with st := 3, wait := 0, tries := 0, com := true } A2 n c2 W.heap.size W h1 (Nat.le_refl _) hn
  have HT3 : Hid (G.to 3 = Gl.ends { G with st := 3, wait := 0, tries := 0, com := true }) := Lib.hid rfl
  have HP3 : Hid ((G.to 3).parts = G.parts) := Lib.hid (to_parts _ _)
  rw [← HT3.out] at hen
  clear HT3
  generalize G.err = er at *
  generalize G.ready = rdy at *
  generalize G.ok = ok at *
  clear hr hG hl hE4
  obtain ⟨⟨f, g, h⟩, st, com, l, wt, tr⟩ := G
  simp only at HRS HCO HA4 HAP HP3 hen
  generalize Gl.to _ 3 = T3 at HRS HP3 hen
  clear HA4 HAP hab HCO
  obtain ⟨si, hsi⟩ : ∃ si : Int, si = (st : Int) := ⟨_, rfl⟩
  unfold glV at hck hcp hrd hen ⊢
  simp only at hck hcp hrd hen ⊢
  rw [← hsi] at hck hcp hrd ⊢
  clear hsi
  obtain ⟨hb0, hz0, hB0⟩ := box2_of w #[.int .u32 (f : Int), .string (str g), .string (str h), .int .u8 si, .bool com, .slice A n c, .int .u32 (wt : Int), .int .u32 (tr : Int)] #[.int .u32 0, .string ⟨#[]⟩, .string ⟨#[]⟩, .int .u8 0, .bool false, .slice none 0 0, .int .u32 0, .int .u32 0] 28 28
  obtain ⟨w0, hw0⟩ : ∃ w0, w0 = ((w.alloc (.cells #[.int .u32 (f : Int), .string (str g), .string (str h), .int .u8 si, .bool com, .slice A n c, .int .u32 (wt : Int), .int .u32 (tr : Int)] 28)).alloc (.cells #[.int .u32 0, .string ⟨#[]⟩, .string ⟨#[]⟩, .int .u8 0, .bool false, .slice none 0 0, .int .u32 0, .int .u32 0] 28)) := ⟨_, rfl⟩
  rw [← hw0] at hb0 hz0 hB0
  have hck0 := hck w0 hB0
  clear hck
  have x0 := hb0.cell (j := 0) rfl
  have x1 := hb0.cell (j := 1) rfl
  have x2 := hb0.cell (j := 2) rfl
  have x3 := hb0.cell (j := 3) rfl
  have x4 := hb0.cell (j := 4) rfl
  have x5 := hb0.cell (j := 5) rfl
  have x6 := hb0.cell (j := 6) rfl
  have x7 := hb0.cell (j := 7) rfl
  go_enter Try.func34, Try.ntmps34
  go_upto_region 1 with fail
  rw [← hw0]
  clear hw0
  go_wp2_with (first | (with_reducible refine hold_append ?_) | (with_reducible refine hold_make ?_) | (with_reducible refine hold_copy ?_) | (with_reducible refine hold_store ?_))
  refine hck0.mono ?_
  rintro e w1 ⟨rfl, hB1⟩
  have hb1 := hb0.below hB1
  have hz1 := hz0.below hB1
  have hB01 := hB0.trans (hB1.mono hB0.size)
  clear hck0 hb0 hz0 hB0 hB1 x0 x1 x2 x3 x4 x5 x6 x7
  have x0 := hb1.cell (j := 0) rfl
  have x1 := hb1.cell (j := 1) rfl
  have x2 := hb1.cell (j := 2) rfl
  have x3 := hb1.cell (j := 3) rfl
  have x4 := hb1.cell (j := 4) rfl
  have x5 := hb1.cell (j := 5) rfl
  have x6 := hb1.cell (j := 6) rfl
  have x7 := hb1.cell (j := 7) rfl
  cases ok
  · obtain rfl : er = 270 := by have := HE.out; simpa using this
    have HRES : Hid (RS = (gl0, 270)) := Lib.hid (by rw [HRS.out]; simp)
    go_wp2_with (first | (with_reducible refine hold_append ?_) | (with_reducible refine hold_make ?_) | (with_reducible refine hold_copy ?_) | (with_reducible refine hold_store ?_))
    refine unhold (wp_box (v := .agg #[.int .u32 0, .string ⟨#[]⟩, .string ⟨#[]⟩, .int .u8 0, .bool false, .slice none 0 0, .int .u32 0, .int .u32 0]) (vs := [.int .u32 0, .string ⟨#[]⟩, .string ⟨#[]⟩, .int .u8 0, .bool false, .slice none 0 0, .int .u32 0, .int .u32 0]) rfl rfl rfl rfl hz1 rfl (by kernel_rfl) (by simp) gl_one #[.int .u32 0, .string ⟨#[]⟩, .string ⟨#[]⟩, .int .u8 0, .bool false, .slice none 0 0, .int .u32 0, .int .u32 0] (by simp) ?_)
    intro w9 hb9 hg9 _
    have hB9 := below_box hB01 hg9 (by omega)
    go_wp2_with (first | (with_reducible refine hold_append ?_) | (with_reducible refine hold_make ?_) | (with_reducible refine hold_copy ?_))
    refine ret_box_tmp rfl hb9 rfl rfl Try.underlying28 rfl (by kernel_rfl) rfl ?_
    rw [HRES.out]
    exact ⟨none, 0, 0, rfl, Own.none_ _ _ _ _, by omega, hB9⟩
  · obtain rfl : er = 0 := by have := HE.out; simpa using this
    have hrd1 := hrd w1 hB01
    clear hrd
    go_wp2_with (first | (with_reducible refine hold_append ?_) | (with_reducible refine hold_make ?_) | (with_reducible refine hold_copy ?_) | (with_reducible refine hold_store ?_))
    refine hrd1.mono ?_
    rintro e wq ⟨rfl, hBq⟩
    have hbq := hb1.below hBq
    have hzq := hz1.below hBq
    have hB0q := hB01.trans (hBq.mono hB01.size)
    clear hrd1 x0 x1 x2 x3 x4 x5 x6 x7 hb1 hz1 hB01 hBq
    have hB01 := hB0q
    have x0 := hbq.cell (j := 0) rfl
    have x1 := hbq.cell (j := 1) rfl
    have x2 := hbq.cell (j := 2) rfl
    have x3 := hbq.cell (j := 3) rfl
    have x4 := hbq.cell (j := 4) rfl
    have x5 := hbq.cell (j := 5) rfl
    have x6 := hbq.cell (j := 6) rfl
    have x7 := hbq.cell (j := 7) rfl
    cases rdy
    · have HRES : Hid (RS = (gl0, 9)) := Lib.hid (by rw [HRS.out]; simp)
      go_wp2_with (first | (with_reducible refine hold_append ?_) | (with_reducible refine hold_make ?_) | (with_reducible refine hold_copy ?_) | (with_reducible refine hold_store ?_))
      refine unhold (wp_box (v := .agg #[.int .u32 0, .string ⟨#[]⟩, .string ⟨#[]⟩, .int .u8 0, .bool false, .slice none 0 0, .int .u32 0, .int .u32 0]) (vs := [.int .u32 0, .string ⟨#[]⟩, .string ⟨#[]⟩, .int .u8 0, .bool false, .slice none 0 0, .int .u32 0, .int .u32 0]) rfl rfl rfl rfl hzq rfl (by kernel_rfl) (by simp) gl_one #[.int .u32 0, .string ⟨#[]⟩, .string ⟨#[]⟩, .int .u8 0, .bool false, .slice none 0 0, .int .u32 0, .int .u32 0] (by simp) ?_)
      intro w9 hb9 hg9 _
      have hB9 := below_box hB01 hg9 (by omega)
      go_wp2_with (first | (with_reducible refine hold_append ?_) | (with_reducible refine hold_make ?_) | (with_reducible refine hold_copy ?_))
      refine ret_box_tmp rfl hb9 rfl rfl Try.underlying28 rfl (by kernel_rfl) rfl ?_
      rw [HRES.out]
      exact ⟨none, 0, 0, rfl, Own.none_ _ _ _ _, by omega, hB9⟩
    · have HRES : Hid (RS = (T3, 0)) := Lib.hid (by rw [HRS.out]; simp)
      clear HRS
      have hc1 := hcp wq hB01
      clear hcp
      go_wp2_with (first | (with_reducible refine hold_append ?_) | (with_reducible refine hold_make ?_) | (with_reducible refine hold_copy ?_) | (with_reducible refine hold_store ?_))
      refine hc1.mono ?_
      rintro e w2 ⟨A2, c2, rfl, ho2, hB2⟩
      have hb2 := hbq.below hB2
      have hz2 := hzq.below hB2
      have hB02 := hB01.trans (hB2.mono hB01.size)
      have hlt1 := hbq.lt
      have hlt2 := hzq.lt
      have hsz2 := hB01.size
      clear hc1 x0 x1 x2 x3 x4 x5 x6 x7
      go_wp2_with (first | (with_reducible refine hold_append ?_) | (with_reducible refine hold_make ?_) | (with_reducible refine hold_copy ?_) | (with_reducible refine hold_store ?_))
      refine unhold (wp_box (v := .agg #[.int .u32 (f : Int), .string (str g), .string (str h), .int .u8 si, .bool com, .slice A2 n c2, .int .u32 (wt : Int), .int .u32 (tr : Int)]) (vs := [.int .u32 (f : Int), .string (str g), .string (str h), .int .u8 si, .bool com, .slice A2 n c2, .int .u32 (wt : Int), .int .u32 (tr : Int)]) rfl rfl rfl rfl hb2 rfl (by kernel_rfl) (by simp) gl_one #[.int .u32 (f : Int), .string (str g), .string (str h), .int .u8 si, .bool com, .slice A2 n c2, .int .u32 (wt : Int), .int .u32 (tr : Int)] (by simp) ?_)
      intro w3 hb3 hg3 _
      have hz3 := hz2.grown hg3 (by intro e; injection e with e; omega)
      have hB03 := below_box hB02 hg3 (Nat.le_refl _)
      have ho3 := own_box ho2 hg3 (by omega)
      clear hb2 hz2 ho2
      go_wp2_with (first | (with_reducible refine hold_append ?_) | (with_reducible refine hold_make ?_) | (with_reducible refine hold_copy ?_) | (with_reducible refine hold_store ?_))
      refine unhold (wp_box (v := .int .u8 3) (vs := [.int .u8 3]) rfl rfl rfl rfl hb3 rfl (by kernel_rfl) (by simp) (by simp; rfl) #[.int .u32 (f : Int), .string (str g), .string (str h), .int .u8 3, .bool com, .slice A2 n c2, .int .u32 (wt : Int), .int .u32 (tr : Int)] (by simp) ?_)
      intro w4 hb4 hg4 _
      have hz4 := hz3.grown hg4 (by intro e; injection e with e; omega)
      have hB04 := below_box hB03 hg4 (Nat.le_refl _)
      have ho4 := own_box ho3 hg4 (by omega)
      go_wp2_with (first | (with_reducible refine hold_append ?_) | (with_reducible refine hold_make ?_) | (with_reducible refine hold_copy ?_) | (with_reducible refine hold_store ?_))
      refine unhold (wp_box (v := .bool true) (vs := [.bool true]) rfl rfl rfl rfl hb4 rfl (by kernel_rfl) (by simp) (by simp; rfl) #[.int .u32 (f : Int), .string (str g), .string (str h), .int .u8 3, .bool true, .slice A2 n c2, .int .u32 (wt : Int), .int .u32 (tr : Int)] (by simp) ?_)
      intro w5 hb5 hg5 _
      have hz5 := hz4.grown hg5 (by intro e; injection e with e; omega)
      have hB05 := below_box hB04 hg5 (Nat.le_refl _)
      have ho5 := own_box ho4 hg5 (by omega)
      go_wp2_with (first | (with_reducible refine hold_append ?_) | (with_reducible refine hold_make ?_) | (with_reducible refine hold_copy ?_) | (with_reducible refine hold_store ?_))
      refine unhold (wp_box (v := .int .u32 0) (vs := [.int .u32 0]) rfl rfl rfl rfl hb5 rfl (by kernel_rfl) (by simp) (by simp; rfl) #[.int .u32 (f : Int), .string (str g), .string (str h), .int .u8 3, .bool true, .slice A2 n c2, .int .u32 0, .int .u32 (tr : Int)] (by simp) ?_)
      intro w6 hb6 hg6 _
      have hz6 := hz5.grown hg6 (by intro e; injection e with e; omega)
      have hB06 := below_box hB05 hg6 (Nat.le_refl _)
      have ho6 := own_box ho5 hg6 (by omega)
      go_wp2_with (first | (with_reducible refine hold_append ?_) | (with_reducible refine hold_make ?_) | (with_reducible refine hold_copy ?_) | (with_reducible refine hold_store ?_))
      refine unhold (wp_box (v := .int .u32 0) (vs := [.int .u32 0]) rfl rfl rfl rfl hb6 rfl (by kernel_rfl) (by simp) (by simp; rfl) #[.int .u32 (f : Int), .string (str g), .string (str h), .int .u8 3, .bool true, .slice A2 n c2, .int .u32 0, .int .u32 0] (by simp) ?_)
      intro wz hbz hgz _
      have hzz := hz6.grown hgz (by intro e; injection e with e; omega)
      have hB0z := below_box hB06 hgz (Nat.le_refl _)
      have hoz := own_box ho6 hgz (by omega)
      clear hb3 hb4 hb5 hb6 hz3 hz4 hz5 hz6
      have hen3 := hen A2 c2 wz hoz.rd
      have x0 := hbz.cell (j := 0) rfl
      have x1 := hbz.cell (j := 1) rfl
      have x2 := hbz.cell (j := 2) rfl
      have x3 := hbz.cell (j := 3) rfl
      have x4 := hbz.cell (j := 4) rfl
      have x5 := hbz.cell (j := 5) rfl
      have x6 := hbz.cell (j := 6) rfl
      have x7 := hbz.cell (j := 7) rfl
      go_wp2_with (first | (with_reducible refine hold_append ?_) | (with_reducible refine hold_make ?_) | (with_reducible refine hold_copy ?_) | (with_reducible refine hold_store ?_))
      refine hen3.mono ?_
      rintro e w7 ⟨rfl, hB7⟩
      have hz7 := hzz.below hB7
      have ho7 := own_below hoz hB7
      have hB07 := hB0z.trans (hB7.mono hB0z.size)
      rw [← HP3.out] at ho7
      clear hen3 hen
      obtain ⟨⟨ef, eg, eh⟩, est, ecom, el, ewt, etr⟩ := T3
      unfold glV at *
      simp only at *
      go_wp2_with (first | (with_reducible refine hold_append ?_) | (with_reducible refine hold_make ?_) | (with_reducible refine hold_copy ?_) | (with_reducible refine hold_store ?_))
      refine unhold (wp_box (v := .agg #[.int .u32 (ef : Int), .string (str eg), .string (str eh), .int .u8 (est : Int), .bool ecom, .slice A2 n c2, .int .u32 (ewt : Int), .int .u32 (etr : Int)]) (vs := [.int .u32 (ef : Int), .string (str eg), .string (str eh), .int .u8 (est : Int), .bool ecom, .slice A2 n c2, .int .u32 (ewt : Int), .int .u32 (etr : Int)]) rfl rfl rfl rfl hz7 rfl (by kernel_rfl) (by simp) gl_one #[.int .u32 (ef : Int), .string (str eg), .string (str eh), .int .u8 (est : Int), .bool ecom, .slice A2 n c2, .int .u32 (ewt : Int), .int .u32 (etr : Int)] (by simp) ?_)
      intro w8 hb8 hg8 _
      have hB08 := below_box hB07 hg8 (by omega)
      have ho8 := own_box ho7 hg8 (by omega)
      go_wp2_with (first | (with_reducible refine hold_append ?_) | (with_reducible refine hold_make ?_) | (with_reducible refine hold_copy ?_))
      refine ret_box_tmp rfl hb8 rfl rfl Try.underlying28 rfl (by kernel_rfl) rfl ?_
      rw [HRES.out]
      exact ⟨A2, n, c2, rfl, Own.base_le ho8 hsz2, hn, hB08⟩
end Go.PH
end

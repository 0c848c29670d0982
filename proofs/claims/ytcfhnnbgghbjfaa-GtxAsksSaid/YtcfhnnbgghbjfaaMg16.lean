/- Texts laid together: GtTake. -/
import Derived.Test.YtcfhnnbgghbjfaaMg09
import Derived.Test.YtcfhnnbgghbjfaaMg15
section
/- The walk of gtx's Take. -/
set_option linter.all false
set_option linter.unusedSimpArgs false
set_option linter.unusedVariables false
namespace Go.PH
open Go.RowKit Go.Proofs

def ToR (n : Nat) (E : Gl) (l : List Pt) (w : World) (e : Ending) (w' : World) : Prop := ∃ A2 c2, e = .returned (.agg (glV E A2 n c2)) ∧ OwnP w' w.heap.size A2 n c2 l ∧ Below w.heap.size w w'
def EnR (n : Nat) (E : Gl) (A : Option Addr) (c : Nat) (w : World) (e : Ending) (w' : World) : Prop := e = .returned (.agg (glV E A n c)) ∧ Below w.heap.size w w'
theorem gtake_no {g : Gl} {i : Nat} {p : Pt} {kind xa no : Nat} (h : fits g.st p.st kind = false) : gtake g i p kind xa no = (g, 0) := by unfold gtake; rw [if_pos h]
theorem gtake_vote {g : Gl} {i : Nat} {p : Pt} {kind xa no : Nat} (h : fits g.st p.st kind = true) (h2 : g.st = 2) : gtake g i p kind xa no = if (voted xa no).2 = false then (g, 0) else if (voted xa no).1 = 2 ∧ xa ≠ 7 then (Gl.to { g with parts := setPt (voted xa no).1 i g.parts } 4, 0) else (Gl.ends { g with parts := setPt (voted xa no).1 i g.parts }, 0) := by
  unfold gtake; rw [h]; simp only [h2, if_true, true_and]; rfl
theorem gtake_end {g : Gl} {i : Nat} {p : Pt} {kind xa no : Nat} (h : fits g.st p.st kind = true) (h2 : ¬ g.st = 2) : gtake g i p kind xa no = if (ended xa no).2 = false then (g, 0) else (Gl.ends { g with parts := setPt (ended xa no).1 i g.parts }, 0) := by
  unfold gtake; rw [h]; simp only [h2, if_false, false_and]; rfl
def rowFit (j st ps kd : Nat) : Prop := if j = 0 then st = 2 ∧ ps = 0 ∧ kd = 17 else if j = 1 then st = 3 ∧ ps = 1 ∧ kd = 18 else if j = 2 then st = 4 ∧ ps = 0 ∧ kd = 19 else st = 4 ∧ ps = 1 ∧ kd = 19
theorem row_fits {st ps kd : Nat} (h : ∀ j, j < 4 → ¬ rowFit j st ps kd) : fits st ps kd = false := by
  have h0 := h 0 (by omega)
  have h1 := h 1 (by omega)
  have h2 := h 2 (by omega)
  have h3 := h 3 (by omega)
  unfold rowFit at h0 h1 h2 h3
  unfold fits
  simp at h0 h1 h2 h3
  rw [decide_eq_false_iff_not]
  omega
theorem own_cell {w : World} {base g n c : Nat} {l : List Pt} (ho : OwnP w base (some ⟨g, 0, none⟩) n c l) {i : Nat} (hi : i < n) (hil : i < l.length) {j : Nat} {u : Value} (hu : (ptC l[i])[j]? = some u) : w.cell? ⟨g, i * 5 + j, none⟩ = some u := by
  obtain ⟨b, off, e, _, _, hc⟩ := rec_at ptShape ho.rd hi
  injection e with e; injection e with e1 e2; subst e1 e2
  have := hc j u hu
  simpa using this
set_option maxRecDepth 20000 in
set_option maxHeartbeats 20000000 in
theorem take_any (G : Gl) (node : Nat) (l : Lt) (A : Option Addr) (n c : Nat) (An : Option Addr) (nn cn : Nat) (B : Nat) (w : World) (hG : G.wf) (hl : l.wf) (hr : RdP w B A n c G.parts) (hrn : RdX w B An nn cn l.names) (hB : B ≤ w.heap.size) (hn : n ≤ 1000000000) (hnn : nn ≤ 1000000) :
    Calls Try.prog 12 #[.agg (glV G A n c), .int .u8 (node : Int), .agg (ltV l An nn cn)] w fun e w' => TurnR w (G.take node l) e w' := by
  obtain ⟨RS, hRS⟩ : ∃ RS, RS = G.take node l := ⟨_, rfl⟩
  rw [← hRS]
  have HRS := Lib.hid (hRS.trans (take_of G node l))
  have hlen := rec_length ptShape hr
  have hck := fun W hW => gcheck_any G A n c B W hG (hr.below' hW hB) (Nat.le_trans hB hW.size) hn
  have hlk := fun W hW => lcheck_any l An nn cn B W hl (hrn.below' hW hB) (Nat.le_trans hB hW.size) hnn
  have how := fun W hW => own_any G A n c B W (hr.below' hW hB) (Nat.le_trans hB hW.size) hn
  have hix := fun bn bl A2 c2 W h1 h0 => idxp_any node l.x bn bl A2 n c2 G.parts W h1 h0 hn
  have HN : Hid (G.ok = true → 0 < n) := Lib.hid (fun h => ok_pos h hlen)
  have HE : Hid (G.err = if G.ok then 0 else 270) := Lib.hid rfl
  have HE2 : Hid (ltErr l = if ltOk l then 0 else 250) := Lib.hid rfl
  have hkd := hl.1
  have hvo := fun W => voted_any l.xa l.no W
  have hed := fun W => ended_any l.xa l.no W
  have HLEN := Lib.hid hlen
  clear hRS hG hl hr hrn hlen
  generalize G.err = er at *
  generalize G.ok = ok at *
  generalize ltErr l = er2 at *
  generalize ltOk l = ok2 at *
  obtain ⟨⟨f, g, h⟩, st, com, pl, wt, tr⟩ := G
  obtain ⟨kd, ⟨yf, yg, yh⟩, xa, no, nm⟩ := l
  obtain ⟨si, hsi⟩ : ∃ si : Int, si = (st : Int) := ⟨_, rfl⟩
  have HSI := Lib.hid hsi
  simp only at HRS HLEN hkd hvo hed hix
  unfold glV at hck how ⊢
  unfold ltV at hlk ⊢
  simp only at hck how hlk ⊢
  rw [← hsi] at hck how ⊢
  clear hsi
  obtain ⟨hG0, hN0, hL0, hZ0, hB0⟩ := box4_of w #[.int .u32 (f : Int), .string (str g), .string (str h), .int .u8 si, .bool com, .slice A n c, .int .u32 (wt : Int), .int .u32 (tr : Int)] #[.int .u8 (node : Int)] #[.int .u8 (kd : Int), .int .u32 (yf : Int), .string (str yg), .string (str yh), .int .u8 (xa : Int), .int .u16 (no : Int), .slice An nn cn] #[.int .u32 0, .string ⟨#[]⟩, .string ⟨#[]⟩, .int .u8 0, .bool false, .slice none 0 0, .int .u32 0, .int .u32 0] 28 5 33 28
  obtain ⟨w0, hw0⟩ : ∃ w0, w0 = ((((w.alloc (.cells #[.int .u32 (f : Int), .string (str g), .string (str h), .int .u8 si, .bool com, .slice A n c, .int .u32 (wt : Int), .int .u32 (tr : Int)] 28)).alloc (.cells #[.int .u8 (node : Int)] 5)).alloc (.cells #[.int .u8 (kd : Int), .int .u32 (yf : Int), .string (str yg), .string (str yh), .int .u8 (xa : Int), .int .u16 (no : Int), .slice An nn cn] 33)).alloc (.cells #[.int .u32 0, .string ⟨#[]⟩, .string ⟨#[]⟩, .int .u8 0, .bool false, .slice none 0 0, .int .u32 0, .int .u32 0] 28)) := ⟨_, rfl⟩
  rw [← hw0] at hG0 hN0 hL0 hZ0 hB0
  have hck0 := hck w0 hB0
  clear hck
  have hs0 := hZ0.lt
  have x0 := hG0.cell (j := 0) rfl
  have x1 := hG0.cell (j := 1) rfl
  have x2 := hG0.cell (j := 2) rfl
  have x3 := hG0.cell (j := 3) rfl
  have x4 := hG0.cell (j := 4) rfl
  have x5 := hG0.cell (j := 5) rfl
  have x6 := hG0.cell (j := 6) rfl
  have x7 := hG0.cell (j := 7) rfl
  go_enter Try.func12, Try.ntmps12
  go_upto_region 1 with fail
  rw [← hw0]
  clear hw0
  go_wp2_with (first | (with_reducible refine hold_append ?_) | (with_reducible refine hold_make ?_) | (with_reducible refine hold_copy ?_) | (with_reducible refine hold_store ?_))
  refine hck0.mono ?_
  rintro e w1 ⟨rfl, hB1⟩
  have hG1 := hG0.below hB1
  have hN1 := hN0.below hB1
  have hL1 := hL0.below hB1
  have hZ1 := hZ0.below hB1
  have hB01 := hB0.trans (hB1.mono hB0.size)
  have hs1 := hB1.size
  clear hck0 hG0 hN0 hL0 hZ0 hB0 hB1 x0 x1 x2 x3 x4 x5 x6 x7
  cases ok
  · obtain rfl : er = 270 := by have := HE.out; simpa using this
    have HRES : Hid (RS = (gl0, 270)) := Lib.hid (by rw [HRS.out]; simp)
    clear hvo hed hix how hlk HRS HE HE2 HN
    go_wp2_with (first | (with_reducible refine hold_append ?_) | (with_reducible refine hold_make ?_) | (with_reducible refine hold_copy ?_) | (with_reducible refine hold_store ?_))
    refine unhold (wp_box (v := .agg #[.int .u32 0, .string ⟨#[]⟩, .string ⟨#[]⟩, .int .u8 0, .bool false, .slice none 0 0, .int .u32 0, .int .u32 0]) (vs := [.int .u32 0, .string ⟨#[]⟩, .string ⟨#[]⟩, .int .u8 0, .bool false, .slice none 0 0, .int .u32 0, .int .u32 0]) rfl rfl rfl rfl hZ1 rfl (by kernel_rfl) (by simp) gl_one #[.int .u32 0, .string ⟨#[]⟩, .string ⟨#[]⟩, .int .u8 0, .bool false, .slice none 0 0, .int .u32 0, .int .u32 0] (by simp) ?_)
    intro w9 hb9 hg9 _
    have hB9 := below_box hB01 hg9 (by omega)
    go_wp2_with (first | (with_reducible refine hold_append ?_) | (with_reducible refine hold_make ?_) | (with_reducible refine hold_copy ?_))
    refine ret_box_tmp rfl hb9 rfl rfl Try.underlying28 rfl (by kernel_rfl) rfl ?_
    rw [HRES.out]
    exact ⟨none, 0, 0, rfl, Own.none_ _ _ _ _, by omega, hB9⟩
  · obtain rfl : er = 0 := by have := HE.out; simpa using this
    have HRS2 : Hid (RS = if ok2 = false then (gl0, 250) else match findPt node ⟨yf, yg, yh⟩ pl with | none => ((⟨⟨f, g, h⟩, st, com, pl, wt, tr⟩ : Gl), 0) | some i => if hh : i < pl.length then gtake ⟨⟨f, g, h⟩, st, com, pl, wt, tr⟩ i pl[i] kd xa no else (⟨⟨f, g, h⟩, st, com, pl, wt, tr⟩, 0)) := Lib.hid (HRS.out.trans (if_neg (by simp)))
    have h0 := HN.out rfl
    have hlk1 := hlk w1 hB01
    have x0 := hL1.cell (j := 0) rfl
    have x1 := hL1.cell (j := 1) rfl
    have x2 := hL1.cell (j := 2) rfl
    have x3 := hL1.cell (j := 3) rfl
    have x4 := hL1.cell (j := 4) rfl
    have x5 := hL1.cell (j := 5) rfl
    have x6 := hL1.cell (j := 6) rfl
    clear HRS HE HN hlk
    go_wp2_with (first | (with_reducible refine hold_append ?_) | (with_reducible refine hold_make ?_) | (with_reducible refine hold_copy ?_) | (with_reducible refine hold_store ?_))
    refine hlk1.mono ?_
    rintro e w2 ⟨rfl, hB2⟩
    have hG2 := hG1.below hB2
    have hN2 := hN1.below hB2
    have hL2 := hL1.below hB2
    have hZ2 := hZ1.below hB2
    have hB02 := hB01.trans (hB2.mono hB01.size)
    have hs2 := hB2.size
    clear hlk1 hG1 hN1 hL1 hZ1 hB01 hB2 x0 x1 x2 x3 x4 x5 x6
    cases ok2
    · obtain rfl : er2 = 250 := by have := HE2.out; simpa using this
      have HRES : Hid (RS = (gl0, 250)) := Lib.hid (by rw [HRS2.out]; simp)
      clear hvo hed hix how HRS2 HE2
      go_wp2_with (first | (with_reducible refine hold_append ?_) | (with_reducible refine hold_make ?_) | (with_reducible refine hold_copy ?_) | (with_reducible refine hold_store ?_))
      refine unhold (wp_box (v := .agg #[.int .u32 0, .string ⟨#[]⟩, .string ⟨#[]⟩, .int .u8 0, .bool false, .slice none 0 0, .int .u32 0, .int .u32 0]) (vs := [.int .u32 0, .string ⟨#[]⟩, .string ⟨#[]⟩, .int .u8 0, .bool false, .slice none 0 0, .int .u32 0, .int .u32 0]) rfl rfl rfl rfl hZ2 rfl (by kernel_rfl) (by simp) gl_one #[.int .u32 0, .string ⟨#[]⟩, .string ⟨#[]⟩, .int .u8 0, .bool false, .slice none 0 0, .int .u32 0, .int .u32 0] (by simp) ?_)
      intro w9 hb9 hg9 _
      have hB9 := below_box hB02 hg9 (by omega)
      go_wp2_with (first | (with_reducible refine hold_append ?_) | (with_reducible refine hold_make ?_) | (with_reducible refine hold_copy ?_))
      refine ret_box_tmp rfl hb9 rfl rfl Try.underlying28 rfl (by kernel_rfl) rfl ?_
      rw [HRES.out]
      exact ⟨none, 0, 0, rfl, Own.none_ _ _ _ _, by omega, hB9⟩
    · obtain rfl : er2 = 0 := by have := HE2.out; simpa using this
      have HRS3 : Hid (RS = match findPt node ⟨yf, yg, yh⟩ pl with | none => ((⟨⟨f, g, h⟩, st, com, pl, wt, tr⟩ : Gl), 0) | some i => if hh : i < pl.length then gtake ⟨⟨f, g, h⟩, st, com, pl, wt, tr⟩ i pl[i] kd xa no else (⟨⟨f, g, h⟩, st, com, pl, wt, tr⟩, 0)) := Lib.hid (HRS2.out.trans (if_neg (by simp)))
      clear HRS2 HE2
      have how2 := how w2 hB02
      clear how
      have x0 := hG2.cell (j := 0) rfl
      have x1 := hG2.cell (j := 1) rfl
      have x2 := hG2.cell (j := 2) rfl
      have x3 := hG2.cell (j := 3) rfl
      have x4 := hG2.cell (j := 4) rfl
      have x5 := hG2.cell (j := 5) rfl
      have x6 := hG2.cell (j := 6) rfl
      have x7 := hG2.cell (j := 7) rfl
      go_wp2_with (first | (with_reducible refine hold_append ?_) | (with_reducible refine hold_make ?_) | (with_reducible refine hold_copy ?_) | (with_reducible refine hold_store ?_))
      refine how2.mono ?_
      rintro e w3 ⟨A2, c2, rfl, ho3, hB3⟩
      have hG3 := hG2.below hB3
      have hN3 := hN2.below hB3
      have hL3 := hL2.below hB3
      have hZ3 := hZ2.below hB3
      have hB03 := hB02.trans (hB3.mono hB02.size)
      have hs3 := hB3.size
      have ho3 := Own.base_le ho3 (show w.heap.size + 4 ≤ w2.heap.size by omega)
      clear how2 hG2 hN2 hL2 hZ2 hB02 hB3 x0 x1 x2 x3 x4 x5 x6 x7
      go_wp2_with (first | (with_reducible refine hold_append ?_) | (with_reducible refine hold_make ?_) | (with_reducible refine hold_copy ?_) | (with_reducible refine hold_store ?_))
      refine unhold (wp_box (v := .agg #[.int .u32 (f : Int), .string (str g), .string (str h), .int .u8 si, .bool com, .slice A2 n c2, .int .u32 (wt : Int), .int .u32 (tr : Int)]) (vs := [.int .u32 (f : Int), .string (str g), .string (str h), .int .u8 si, .bool com, .slice A2 n c2, .int .u32 (wt : Int), .int .u32 (tr : Int)]) rfl rfl rfl rfl hG3 rfl (by kernel_rfl) (by simp) gl_one #[.int .u32 (f : Int), .string (str g), .string (str h), .int .u8 si, .bool com, .slice A2 n c2, .int .u32 (wt : Int), .int .u32 (tr : Int)] (by simp) ?_)
      intro w4 hG4 hg4 hs4
      have hN4 := hN3.grown hg4 (by intro e; injection e with e; omega)
      have hL4 := hL3.grown hg4 (by intro e; injection e with e; omega)
      have hZ4 := hZ3.grown hg4 (by intro e; injection e with e; omega)
      have hB04 := below_box hB03 hg4 (by omega)
      have ho4 := own_box ho3 hg4 (by omega)
      clear hG3 hN3 hL3 hZ3 hB03 ho3 hg4
      have x5 := hG4.cell (j := 5) rfl
      have hix4 := hix (w.heap.size + 1) (w.heap.size + 2) A2 c2 w4 ho4.rd h0 (hN4.cell (j := 0) rfl) (hL4.cell (j := 1) rfl) (hL4.cell (j := 2) rfl) (hL4.cell (j := 3) rfl)
      clear hix
      go_wp2_with (first | (with_reducible refine hold_append ?_) | (with_reducible refine hold_make ?_) | (with_reducible refine hold_copy ?_) | (with_reducible refine hold_store ?_))
      refine hix4.mono ?_
      rintro e w5 ⟨rfl, hB5⟩
      have hG5 := hG4.below hB5
      have hL5 := hL4.below hB5
      have hZ5 := hZ4.below hB5
      have hB05 := hB04.trans (hB5.mono hB04.size)
      have hs5 := hB5.size
      have ho5 := own_below ho4 hB5
      clear hix4 hG4 hN4 hL4 hZ4 hB04 ho4 hB5 x5
      have HFO : Hid (∀ i, findPt node ⟨yf, yg, yh⟩ pl = some i → i < pl.length) := Lib.hid (fun i hi => by unfold findPt at hi; rw [List.findIdx?_eq_some_iff_getElem] at hi; exact hi.1)
      generalize findPt node ⟨yf, yg, yh⟩ pl = fo at *
      cases fo with
      | none =>
        have HRES : Hid (RS = (⟨⟨f, g, h⟩, st, com, pl, wt, tr⟩, 0)) := Lib.hid HRS3.out
        clear HRS3 hvo hed
        unfold idxV
        have y0 := hG5.cell (j := 0) rfl
        have y1 := hG5.cell (j := 1) rfl
        have y2 := hG5.cell (j := 2) rfl
        have y3 := hG5.cell (j := 3) rfl
        have y4 := hG5.cell (j := 4) rfl
        have y5 := hG5.cell (j := 5) rfl
        have y6 := hG5.cell (j := 6) rfl
        have y7 := hG5.cell (j := 7) rfl
        go_wp2_with (first | (with_reducible refine hold_append ?_) | (with_reducible refine hold_make ?_) | (with_reducible refine hold_copy ?_) | (with_reducible refine hold_store ?_))
        refine unhold (wp_box (v := .agg #[.int .u32 (f : Int), .string (str g), .string (str h), .int .u8 si, .bool com, .slice A2 n c2, .int .u32 (wt : Int), .int .u32 (tr : Int)]) (vs := [.int .u32 (f : Int), .string (str g), .string (str h), .int .u8 si, .bool com, .slice A2 n c2, .int .u32 (wt : Int), .int .u32 (tr : Int)]) rfl rfl rfl rfl hZ5 rfl (by kernel_rfl) (by simp) gl_one #[.int .u32 (f : Int), .string (str g), .string (str h), .int .u8 si, .bool com, .slice A2 n c2, .int .u32 (wt : Int), .int .u32 (tr : Int)] (by simp) ?_)
        intro w8 hb8 hg8 _
        have hB08 := below_box hB05 hg8 (by omega)
        have ho8 := own_box ho5 hg8 (by omega)
        go_wp2_with (first | (with_reducible refine hold_append ?_) | (with_reducible refine hold_make ?_) | (with_reducible refine hold_copy ?_))
        refine ret_box_tmp rfl hb8 rfl rfl Try.underlying28 rfl (by kernel_rfl) rfl ?_
        rw [HRES.out]
        exact ⟨A2, n, c2, by simp only [glV]; rw [← HSI.out]; rfl, Own.base_le ho8 (by omega), hn, hB08⟩
      | some i =>
        unfold idxV
        simp only
        have d0 : decide ((i : Int) < 0) = false := by simp
        by_cases hi : i < n
        · have hil : i < pl.length := by rw [HLEN.out]; exact hi
          have HGT : Hid (RS = gtake ⟨⟨f, g, h⟩, st, com, pl, wt, tr⟩ i pl[i] kd xa no) := Lib.hid (by rw [HRS3.out]; simp only [hil, dif_pos])
          obtain ⟨ab, rfl, hab1, hab2⟩ := own_some ho5 h0
          obtain ⟨ps, hps⟩ : ∃ ps, ps = pl[i].st := ⟨_, rfl⟩
          have HPS := Lib.hid hps
          have HF : Hid (∀ v : Nat, ptC (Pt.to v pl[i]) = (ptC pl[i]).take 4 ++ [.int .u8 (v : Int)] ++ (ptC pl[i]).drop (4 + [Value.int .u8 (v : Int)].length)) := Lib.hid (fun v => by simp [ptC, Pt.to])
          have hto : ∀ (v : Nat) A2 c2 W, RdP W W.heap.size A2 n c2 (setPt v i pl) → 0 < n → Calls Try.prog 43 #[.agg #[.int .u32 (f : Int), .string (str g), .string (str h), .int .u8 si, .bool com, .slice A2 n c2, .int .u32 (wt : Int), .int .u32 (tr : Int)], .int .u8 4] W (ToR n (Gl.to ⟨⟨f, g, h⟩, st, com, setPt v i pl, wt, tr⟩ 4) (setPt v i pl) W) := fun v A2 c2 W h1 h2 => by
            rw [HSI.out]
            exact to_any ⟨⟨f, g, h⟩, st, com, setPt v i pl, wt, tr⟩ 4 A2 n c2 W.heap.size W h1 (Nat.le_refl _) h2 hn
          have hen : ∀ (v : Nat) A2 c2 W, RdP W W.heap.size A2 n c2 (setPt v i pl) → 0 < n → Calls Try.prog 44 #[.agg #[.int .u32 (f : Int), .string (str g), .string (str h), .int .u8 si, .bool com, .slice A2 n c2, .int .u32 (wt : Int), .int .u32 (tr : Int)]] W (EnR n (Gl.ends ⟨⟨f, g, h⟩, st, com, setPt v i pl, wt, tr⟩) A2 c2 W) := fun v A2 c2 W h1 h2 => by
            rw [HSI.out]
            exact ends_any ⟨⟨f, g, h⟩, st, com, setPt v i pl, wt, tr⟩ A2 n c2 W.heap.size W h1 (Nat.le_refl _) h2 hn
          clear HRS3 hps
          have hin : (i : Int) < (n : Int) := by omega
          go_wp2_with (first | (with_reducible refine hold_append ?_) | (with_reducible refine hold_make ?_) | (with_reducible refine hold_copy ?_) | (with_reducible refine hold_store ?_))
          refine (rows_any _).mono ?_
          rintro e w6 ⟨rfl, rfl⟩
          have hR6 := Box.new w5 rowsV 86
          have hG6 := hG5.alloc (.cells rowsV 86)
          have hL6 := hL5.alloc (.cells rowsV 86)
          have hZ6 := hZ5.alloc (.cells rowsV 86)
          have ho6 := ho5.alloc (.cells rowsV 86)
          have hB06 := hB05.alloc hB05.size (.cells rowsV 86)
          clear hG5 hL5 hZ5 ho5 hB05
          generalize hrb : w5.heap.size = rb at *
          generalize (w5.alloc (.cells rowsV 86)) = w7 at *
          clear hrb
          go_wp2_with (first | (with_reducible refine hold_append ?_) | (with_reducible refine hold_make ?_) | (with_reducible refine hold_copy ?_))
          go_loopw [34] (fun s wr => ∃ (k : Nat), k ≤ 4 ∧ s = .int .i64 k ∧ Hid (∀ j, j < k → ¬ rowFit j st ps kd) ∧ Box wr w.heap.size 28 #[.int .u32 (f : Int), .string (str g), .string (str h), .int .u8 si, .bool com, .slice (some ⟨ab, 0, none⟩) n c2, .int .u32 (wt : Int), .int .u32 (tr : Int)] ∧ Box wr (w.heap.size + 2) 33 #[.int .u8 (kd : Int), .int .u32 (yf : Int), .string (str yg), .string (str yh), .int .u8 (xa : Int), .int .u16 (no : Int), .slice An nn cn] ∧ Box wr rb 86 rowsV ∧ Box wr (w.heap.size + 3) 28 #[.int .u32 0, .string ⟨#[]⟩, .string ⟨#[]⟩, .int .u8 0, .bool false, .slice none 0 0, .int .u32 0, .int .u32 0] ∧ OwnP wr (w.heap.size + 4) (some ⟨ab, 0, none⟩) n c2 pl ∧ Below w.heap.size w wr) (fun s _ => 4 - (RowKit.intOf s).toNat)
          case atStart => exact ⟨0, by omega, rfl, Lib.hid (fun j hj => by omega), hG6, hL6, hR6, hZ6, ho6, hB06⟩
          case round =>
            clear hG6 hL6 hR6 hZ6 ho6 hB06
            obtain ⟨k, hk, rfl, HNO, hGr, hLr, hRr, hZr, hor, hBr⟩ := hrel
            have hsr := hZr.lt
            rcases (show k = 0 ∨ k = 1 ∨ k = 2 ∨ k = 3 ∨ k = 4 by omega) with rfl | rfl | rfl | rfl | rfl
            · have hrz0 := Box.new wr #[.int .u8 0, .int .u8 0, .int .u8 0, .nilFunc] 86
              have hGz0 := hGr.alloc (.cells #[.int .u8 0, .int .u8 0, .int .u8 0, .nilFunc] 86)
              have hLz0 := hLr.alloc (.cells #[.int .u8 0, .int .u8 0, .int .u8 0, .nilFunc] 86)
              have hRz0 := hRr.alloc (.cells #[.int .u8 0, .int .u8 0, .int .u8 0, .nilFunc] 86)
              have hZz0 := hZr.alloc (.cells #[.int .u8 0, .int .u8 0, .int .u8 0, .nilFunc] 86)
              have hoz0 := hor.alloc (.cells #[.int .u8 0, .int .u8 0, .int .u8 0, .nilFunc] 86)
              have hBz0 := hBr.alloc hBr.size (.cells #[.int .u8 0, .int .u8 0, .int .u8 0, .nilFunc] 86)
              have q0 : wr.cell? ⟨rb, 4 * 0, none⟩ = some (.int .u8 2) := hRr.cell (j := 4 * 0) rfl
              have q1 : wr.cell? ⟨rb, 4 * 0 + 1, none⟩ = some (.int .u8 0) := hRr.cell (j := 4 * 0 + 1) rfl
              have q2 : wr.cell? ⟨rb, 4 * 0 + 2, none⟩ = some (.int .u8 1) := hRr.cell (j := 4 * 0 + 2) rfl
              have q3 : wr.cell? ⟨rb, 4 * 0 + 3, none⟩ = some (.func (.func 63) #[] #[]) := hRr.cell (j := 4 * 0 + 3) rfl
              simp only [Nat.reduceMul, Nat.reduceAdd] at q0 q1 q2 q3
              have hGlt := hGr.lt
              have hLlt := hLr.lt
              have hRlt := hRr.lt
              have hBrs := hBr.size
              go_wp2_with (first | (with_reducible refine hold_append ?_) | (with_reducible refine hold_make ?_) | (with_reducible refine hold_copy ?_) | (with_reducible refine hold_store ?_))
              refine unhold (wp_box (v := .agg #[.int .u8 2, .int .u8 0, .int .u8 1, .func (.func 63) #[] #[]]) (vs := [.int .u8 2, .int .u8 0, .int .u8 1, .func (.func 63) #[] #[]]) rfl rfl rfl rfl hrz0 rfl (by kernel_rfl) (by simp) (by simp; (refine ⟨?_, ?_, ?_, ?_⟩ <;> rfl)) #[.int .u8 2, .int .u8 0, .int .u8 1, .func (.func 63) #[] #[]] (by simp) ?_)
              intro wz hrz hgz _
              have hGz := hGz0.grown hgz (by intro e; injection e with e; omega)
              have hLz := hLz0.grown hgz (by intro e; injection e with e; omega)
              have hRz := hRz0.grown hgz (by intro e; injection e with e; omega)
              have hZz := hZz0.grown hgz (by intro e; injection e with e; omega)
              have hoz := own_stays hoz0 hgz (fun g' hg' e => by injection e with e; have := (hor.blk_lt hg').2; omega)
              have hBz := below_box hBz0 hgz (by omega)
              clear hrz0 hGz0 hLz0 hRz0 hZz0 hoz0 hBz0 hgz
              go_wp2_with (first | (with_reducible refine hold_append ?_) | (with_reducible refine hold_make ?_) | (with_reducible refine hold_copy ?_))
              simp only [Act.put]
              clear q0 q1 q2 q3
              have r0 := hrz.cell (j := 0) rfl
              have r1 := hrz.cell (j := 1) rfl
              have r2 := hrz.cell (j := 2) rfl
              have r3 := hrz.cell (j := 3) rfl
              have x3 := hGz.cell (j := 3) rfl
              have x5 := hGz.cell (j := 5) rfl
              have l0 := hLz.cell (j := 0) rfl
              have p4 := own_cell hoz hi hil (show (ptC pl[i])[4]? = some (.int .u8 (ps : Int)) from by rw [HPS.out]; rfl)
              by_cases e1 : si = 2
              · subst e1
                by_cases e2 : ps = 0
                · have f2 : ((0 : Int) != (ps : Int)) = false := by simp; omega
                  by_cases e3 : kd = 17
                  · have f3 : ((17 : Int) != (kd : Int)) = false := by simp; omega
                    have f3w : (IntKind.u8.wrap 17 != (kd : Int)) = false := by rw [show IntKind.u8.wrap 17 = 17 from rfl]; exact f3
                    have HFIT : Hid (fits st ps kd = true) := Lib.hid (by have := HSI.out; unfold fits; rw [decide_eq_true_eq]; omega)
                    have hst : st = 2 := by have := HSI.out; omega
                    have HRV := Lib.hid (HGT.out.trans (gtake_vote (by rw [← HPS.out]; exact HFIT.out) (show st = 2 by omega)))
                    clear HGT HNO HFIT HPS hst e2 e3
                    go_quiet (fail)
                    rename_i nq
                    have hGd : Box (wz.drewN nq) w.heap.size 28 #[.int .u32 (f : Int), .string (str g), .string (str h), .int .u8 2, .bool com, .slice (some ⟨ab, 0, none⟩) n c2, .int .u32 (wt : Int), .int .u32 (tr : Int)] := hGz
                    have hLd : Box (wz.drewN nq) (w.heap.size + 2) 33 #[.int .u8 (kd : Int), .int .u32 (yf : Int), .string (str yg), .string (str yh), .int .u8 (xa : Int), .int .u16 (no : Int), .slice An nn cn] := hLz
                    have hZd : Box (wz.drewN nq) (w.heap.size + 3) 28 #[.int .u32 0, .string ⟨#[]⟩, .string ⟨#[]⟩, .int .u8 0, .bool false, .slice none 0 0, .int .u32 0, .int .u32 0] := hZz
                    have hrd : Box (wz.drewN nq) wr.heap.size 86 #[.int .u8 2, .int .u8 0, .int .u8 1, .func (.func 63) #[] #[]] := hrz
                    have hod : OwnP (wz.drewN nq) (w.heap.size + 4) (some ⟨ab, 0, none⟩) n c2 pl := Own.drewN hoz nq
                    have hBd : Below w.heap.size w (wz.drewN nq) := below_drewN hBz nq
                    clear hGz hLz hZz hrz hoz hBz r0 r1 r2 r3 x3 x5 l0 p4
                    generalize wz.drewN nq = wd at *
                    have r3 := hrd.cell (j := 3) rfl
                    have l4 := hLd.cell (j := 4) rfl
                    have l5 := hLd.cell (j := 5) rfl
                    go_wp2_with (first | (with_reducible refine hold_append ?_) | (with_reducible refine hold_make ?_) | (with_reducible refine hold_copy ?_))
                    refine (hvo _).mono ?_
                    rintro e w4 ⟨rfl, rfl⟩
                    clear hvo hed
                    obtain ⟨V1, hV1⟩ : ∃ V1, V1 = (voted xa no).1 := ⟨_, rfl⟩
                    obtain ⟨V2, hV2⟩ : ∃ V2, V2 = (voted xa no).2 := ⟨_, rfl⟩
                    rw [← hV1, ← hV2] at HRV ⊢
                    clear hV1 hV2
                    cases V2
                    · have HRES : Hid (RS = (⟨⟨f, g, h⟩, st, com, pl, wt, tr⟩, 0)) := Lib.hid (by rw [HRV.out]; simp)
                      clear HRV hto hen
                      have y0 := hGd.cell (j := 0) rfl
                      have y1 := hGd.cell (j := 1) rfl
                      have y2 := hGd.cell (j := 2) rfl
                      have y3 := hGd.cell (j := 3) rfl
                      have y4 := hGd.cell (j := 4) rfl
                      have y5 := hGd.cell (j := 5) rfl
                      have y6 := hGd.cell (j := 6) rfl
                      have y7 := hGd.cell (j := 7) rfl
                      go_wp2_with (first | (with_reducible refine hold_append ?_) | (with_reducible refine hold_make ?_) | (with_reducible refine hold_copy ?_) | (with_reducible refine hold_store ?_))
                      refine unhold (wp_box (v := .agg #[.int .u32 (f : Int), .string (str g), .string (str h), .int .u8 2, .bool com, .slice (some ⟨ab, 0, none⟩) n c2, .int .u32 (wt : Int), .int .u32 (tr : Int)]) (vs := [.int .u32 (f : Int), .string (str g), .string (str h), .int .u8 2, .bool com, .slice (some ⟨ab, 0, none⟩) n c2, .int .u32 (wt : Int), .int .u32 (tr : Int)]) rfl rfl rfl rfl hZd rfl (by kernel_rfl) (by simp) gl_one #[.int .u32 (f : Int), .string (str g), .string (str h), .int .u8 2, .bool com, .slice (some ⟨ab, 0, none⟩) n c2, .int .u32 (wt : Int), .int .u32 (tr : Int)] (by simp) ?_)
                      intro w8 hb8 hg8 _
                      have hB08 := below_box hBd hg8 (by omega)
                      have ho8 := own_box hod hg8 (by omega)
                      go_wp2_with (first | (with_reducible refine hold_append ?_) | (with_reducible refine hold_make ?_) | (with_reducible refine hold_copy ?_))
                      refine ret_box_tmp rfl hb8 rfl rfl Try.underlying28 rfl (by kernel_rfl) rfl ?_
                      rw [HRES.out]
                      exact ⟨(some ⟨ab, 0, none⟩), n, c2, by simp only [glV]; rw [← HSI.out]; rfl, Own.base_le ho8 (by omega), hn, hB08⟩
                    · have hGd5 := hGd.cell (j := 5) rfl
                      go_wp2_with (first | (with_reducible refine hold_append ?_) | (with_reducible refine hold_make ?_) | (with_reducible refine hold_copy ?_) | (with_reducible refine hold_store ?_))
                      refine unhold (wp_recset ptShape rfl rfl rfl rfl hod (k := i) (i := 4) (vs := [.int .u8 (V1 : Int)]) hi hil (Pt.to V1 pl[i]) rfl (by kernel_rfl) (HF.out V1) (by simp) (by omega) ?_)
                      intro w5 ho5 hg5 _
                      rw [← setPt_set V1 i pl hil] at ho5
                      have hgl := hod.blk_lt (g := ab) rfl
                      have hB5 := hBd.grown hg5 hBd.size (fun g'' e => by injection e with e; omega)
                      have hG5 := hGd.grown hg5 (by intro e; injection e with e; omega)
                      have hZ5 := hZd.grown hg5 (by intro e; injection e with e; omega)
                      have hL5 := hLd.grown hg5 (by intro e; injection e with e; omega)
                      clear hGd hLd hZd hrd hod hGd5 r3 l4 l5
                      have y0 := hG5.cell (j := 0) rfl
                      have y1 := hG5.cell (j := 1) rfl
                      have y2 := hG5.cell (j := 2) rfl
                      have y3 := hG5.cell (j := 3) rfl
                      have y4 := hG5.cell (j := 4) rfl
                      have y5 := hG5.cell (j := 5) rfl
                      have y6 := hG5.cell (j := 6) rfl
                      have y7 := hG5.cell (j := 7) rfl
                      have l4 := hL5.cell (j := 4) rfl
                      by_cases v2 : V1 = 2
                      · have g2 : ((V1 : Int) == 2) = true := by simp; omega
                        by_cases x7 : xa = 7
                        · have g7 : ((xa : Int) != 7) = false := by simp; omega
                          have HRES : Hid (RS = (Gl.ends ⟨⟨f, g, h⟩, st, com, setPt V1 i pl, wt, tr⟩, 0)) := Lib.hid (by rw [HRV.out]; simp [x7])
                          clear HRV x7 v2
                          have HP : Hid ((Gl.ends ⟨⟨f, g, h⟩, st, com, setPt V1 i pl, wt, tr⟩).parts = setPt V1 i pl) := Lib.hid (ends_parts _)
                          have ht := hen V1 (some ⟨ab, 0, none⟩) c2 w5 ho5.rd (by omega)
                          obtain ⟨E, hE⟩ : ∃ E, E = Gl.ends ⟨⟨f, g, h⟩, st, com, setPt V1 i pl, wt, tr⟩ := ⟨_, rfl⟩
                          rw [← hE] at ht HRES HP
                          unfold EnR at ht
                          clear hto hen hE
                          go_wp2_with (first | (with_reducible refine hold_append ?_) | (with_reducible refine hold_make ?_) | (with_reducible refine hold_copy ?_) | (with_reducible refine hold_store ?_))
                          refine (ht).mono ?_
                          rintro e w7 ⟨rfl, hB7⟩
                          have hz7 := (hZ5).below hB7
                          have hB07 := (hB5).trans (hB7.mono (hB5).size)
                          have hlt7 := (hZ5).lt
                          have hsz7 := (hB5).size
                          have ho7 := own_below ho5 hB7
                          rw [← HP.out] at ho7
                          obtain ⟨⟨ef, eg, eh⟩, est, ecom, el, ewt, etr⟩ := E
                          unfold glV
                          simp only at ho7
                          go_wp2_with (first | (with_reducible refine hold_append ?_) | (with_reducible refine hold_make ?_) | (with_reducible refine hold_copy ?_) | (with_reducible refine hold_store ?_))
                          refine unhold (wp_box (v := .agg #[.int .u32 (ef : Int), .string (str eg), .string (str eh), .int .u8 (est : Int), .bool ecom, .slice (some ⟨ab, 0, none⟩) n c2, .int .u32 (ewt : Int), .int .u32 (etr : Int)]) (vs := [.int .u32 (ef : Int), .string (str eg), .string (str eh), .int .u8 (est : Int), .bool ecom, .slice (some ⟨ab, 0, none⟩) n c2, .int .u32 (ewt : Int), .int .u32 (etr : Int)]) rfl rfl rfl rfl hz7 rfl (by kernel_rfl) (by simp) gl_one #[.int .u32 (ef : Int), .string (str eg), .string (str eh), .int .u8 (est : Int), .bool ecom, .slice (some ⟨ab, 0, none⟩) n c2, .int .u32 (ewt : Int), .int .u32 (etr : Int)] (by simp) ?_)
                          intro w8 hb8 hg8 _
                          have hB08 := below_box hB07 hg8 (by omega)
                          have ho8 := own_box ho7 hg8 (by omega)
                          go_wp2_with (first | (with_reducible refine hold_append ?_) | (with_reducible refine hold_make ?_) | (with_reducible refine hold_copy ?_))
                          refine ret_box_tmp rfl hb8 rfl rfl Try.underlying28 rfl (by kernel_rfl) rfl ?_
                          rw [HRES.out]
                          exact ⟨(some ⟨ab, 0, none⟩), n, c2, rfl, Own.base_le ho8 (by omega), hn, hB08⟩
                        · have g7 : ((xa : Int) != 7) = true := by simp; omega
                          have HRES : Hid (RS = (Gl.to ⟨⟨f, g, h⟩, st, com, setPt V1 i pl, wt, tr⟩ 4, 0)) := Lib.hid (by rw [HRV.out]; simp [x7, v2])
                          clear HRV x7 v2
                          have HP : Hid ((Gl.to ⟨⟨f, g, h⟩, st, com, setPt V1 i pl, wt, tr⟩ 4).parts = setPt V1 i pl) := Lib.hid (to_parts _ _)
                          have ht := hto V1 (some ⟨ab, 0, none⟩) c2 w5 ho5.rd (by omega)
                          obtain ⟨E, hE⟩ : ∃ E, E = Gl.to ⟨⟨f, g, h⟩, st, com, setPt V1 i pl, wt, tr⟩ 4 := ⟨_, rfl⟩
                          rw [← hE] at ht HRES HP
                          unfold ToR at ht
                          clear hto hen hE
                          go_wp2_with (first | (with_reducible refine hold_append ?_) | (with_reducible refine hold_make ?_) | (with_reducible refine hold_copy ?_) | (with_reducible refine hold_store ?_))
                          refine (ht).mono ?_
                          rintro e w7 ⟨A3, c3, rfl, ho7, hB7⟩
                          have hz7 := (hZ5).below hB7
                          have hB07 := (hB5).trans (hB7.mono (hB5).size)
                          have hlt7 := (hZ5).lt
                          have hsz7 := (hB5).size
                          rw [← HP.out] at ho7
                          obtain ⟨⟨ef, eg, eh⟩, est, ecom, el, ewt, etr⟩ := E
                          unfold glV
                          simp only at ho7
                          go_wp2_with (first | (with_reducible refine hold_append ?_) | (with_reducible refine hold_make ?_) | (with_reducible refine hold_copy ?_) | (with_reducible refine hold_store ?_))
                          refine unhold (wp_box (v := .agg #[.int .u32 (ef : Int), .string (str eg), .string (str eh), .int .u8 (est : Int), .bool ecom, .slice A3 n c3, .int .u32 (ewt : Int), .int .u32 (etr : Int)]) (vs := [.int .u32 (ef : Int), .string (str eg), .string (str eh), .int .u8 (est : Int), .bool ecom, .slice A3 n c3, .int .u32 (ewt : Int), .int .u32 (etr : Int)]) rfl rfl rfl rfl hz7 rfl (by kernel_rfl) (by simp) gl_one #[.int .u32 (ef : Int), .string (str eg), .string (str eh), .int .u8 (est : Int), .bool ecom, .slice A3 n c3, .int .u32 (ewt : Int), .int .u32 (etr : Int)] (by simp) ?_)
                          intro w8 hb8 hg8 _
                          have hB08 := below_box hB07 hg8 (by omega)
                          have ho8 := own_box ho7 hg8 (by omega)
                          go_wp2_with (first | (with_reducible refine hold_append ?_) | (with_reducible refine hold_make ?_) | (with_reducible refine hold_copy ?_))
                          refine ret_box_tmp rfl hb8 rfl rfl Try.underlying28 rfl (by kernel_rfl) rfl ?_
                          rw [HRES.out]
                          exact ⟨A3, n, c3, rfl, Own.base_le ho8 (by omega), hn, hB08⟩
                      · have g2 : ((V1 : Int) == 2) = false := by simp; omega
                        have HRES : Hid (RS = (Gl.ends ⟨⟨f, g, h⟩, st, com, setPt V1 i pl, wt, tr⟩, 0)) := Lib.hid (by rw [HRV.out]; simp [v2])
                        clear HRV v2
                        have HP : Hid ((Gl.ends ⟨⟨f, g, h⟩, st, com, setPt V1 i pl, wt, tr⟩).parts = setPt V1 i pl) := Lib.hid (ends_parts _)
                        have ht := hen V1 (some ⟨ab, 0, none⟩) c2 w5 ho5.rd (by omega)
                        obtain ⟨E, hE⟩ : ∃ E, E = Gl.ends ⟨⟨f, g, h⟩, st, com, setPt V1 i pl, wt, tr⟩ := ⟨_, rfl⟩
                        rw [← hE] at ht HRES HP
                        unfold EnR at ht
                        clear hto hen hE
                        go_wp2_with (first | (with_reducible refine hold_append ?_) | (with_reducible refine hold_make ?_) | (with_reducible refine hold_copy ?_) | (with_reducible refine hold_store ?_))
                        refine (ht).mono ?_
                        rintro e w7 ⟨rfl, hB7⟩
                        have hz7 := (hZ5).below hB7
                        have hB07 := (hB5).trans (hB7.mono (hB5).size)
                        have hlt7 := (hZ5).lt
                        have hsz7 := (hB5).size
                        have ho7 := own_below ho5 hB7
                        rw [← HP.out] at ho7
                        obtain ⟨⟨ef, eg, eh⟩, est, ecom, el, ewt, etr⟩ := E
                        unfold glV
                        simp only at ho7
                        go_wp2_with (first | (with_reducible refine hold_append ?_) | (with_reducible refine hold_make ?_) | (with_reducible refine hold_copy ?_) | (with_reducible refine hold_store ?_))
                        refine unhold (wp_box (v := .agg #[.int .u32 (ef : Int), .string (str eg), .string (str eh), .int .u8 (est : Int), .bool ecom, .slice (some ⟨ab, 0, none⟩) n c2, .int .u32 (ewt : Int), .int .u32 (etr : Int)]) (vs := [.int .u32 (ef : Int), .string (str eg), .string (str eh), .int .u8 (est : Int), .bool ecom, .slice (some ⟨ab, 0, none⟩) n c2, .int .u32 (ewt : Int), .int .u32 (etr : Int)]) rfl rfl rfl rfl hz7 rfl (by kernel_rfl) (by simp) gl_one #[.int .u32 (ef : Int), .string (str eg), .string (str eh), .int .u8 (est : Int), .bool ecom, .slice (some ⟨ab, 0, none⟩) n c2, .int .u32 (ewt : Int), .int .u32 (etr : Int)] (by simp) ?_)
                        intro w8 hb8 hg8 _
                        have hB08 := below_box hB07 hg8 (by omega)
                        have ho8 := own_box ho7 hg8 (by omega)
                        go_wp2_with (first | (with_reducible refine hold_append ?_) | (with_reducible refine hold_make ?_) | (with_reducible refine hold_copy ?_))
                        refine ret_box_tmp rfl hb8 rfl rfl Try.underlying28 rfl (by kernel_rfl) rfl ?_
                        rw [HRES.out]
                        exact ⟨(some ⟨ab, 0, none⟩), n, c2, rfl, Own.base_le ho8 (by omega), hn, hB08⟩
                  · have f3 : ((17 : Int) != (kd : Int)) = true := by simp; omega
                    have f3w : (IntKind.u8.wrap 17 != (kd : Int)) = true := by rw [show IntKind.u8.wrap 17 = 17 from rfl]; exact f3
                    have HNO2 : Hid (∀ j, j < 0 + 1 → ¬ rowFit j st ps kd) := Lib.hid (fun j hj => by
                      rcases Nat.lt_or_ge j 0 with h' | h'
                      · exact HNO.out j h'
                      · obtain rfl : j = 0 := by omega
                        have := HSI.out
                        unfold rowFit
                        simp
                        omega)
                    clear e3 e2
                    go_quiet (fail)
                    go_wp2_with (first | (with_reducible refine hold_append ?_) | (with_reducible refine hold_make ?_) | (with_reducible refine hold_copy ?_))
                    exact ⟨⟨0 + 1, by omega, by go_num, HNO2, hGz, hLz, hRz, hZz, hoz, below_drewN hBz _⟩, by simp [RowKit.intOf]⟩
                · have f2 : ((0 : Int) != (ps : Int)) = true := by simp; omega
                  have HNO2 : Hid (∀ j, j < 0 + 1 → ¬ rowFit j st ps kd) := Lib.hid (fun j hj => by
                    rcases Nat.lt_or_ge j 0 with h' | h'
                    · exact HNO.out j h'
                    · obtain rfl : j = 0 := by omega
                      have := HSI.out
                      unfold rowFit
                      simp
                      omega)
                  clear e2
                  go_quiet (fail)
                  go_wp2_with (first | (with_reducible refine hold_append ?_) | (with_reducible refine hold_make ?_) | (with_reducible refine hold_copy ?_))
                  exact ⟨⟨0 + 1, by omega, by go_num, HNO2, hGz, hLz, hRz, hZz, hoz, below_drewN hBz _⟩, by simp [RowKit.intOf]⟩
              · have f1 : ((2 : Int) != si) = true := by simp; omega
                have HNO2 : Hid (∀ j, j < 0 + 1 → ¬ rowFit j st ps kd) := Lib.hid (fun j hj => by
                  rcases Nat.lt_or_ge j 0 with h' | h'
                  · exact HNO.out j h'
                  · obtain rfl : j = 0 := by omega
                    have := HSI.out
                    unfold rowFit
                    simp
                    omega)
                clear e1
                go_quiet (fail)
                go_wp2_with (first | (with_reducible refine hold_append ?_) | (with_reducible refine hold_make ?_) | (with_reducible refine hold_copy ?_))
                exact ⟨⟨0 + 1, by omega, by go_num, HNO2, hGz, hLz, hRz, hZz, hoz, below_drewN hBz _⟩, by simp [RowKit.intOf]⟩
            · have hrz0 := Box.new wr #[.int .u8 0, .int .u8 0, .int .u8 0, .nilFunc] 86
              have hGz0 := hGr.alloc (.cells #[.int .u8 0, .int .u8 0, .int .u8 0, .nilFunc] 86)
              have hLz0 := hLr.alloc (.cells #[.int .u8 0, .int .u8 0, .int .u8 0, .nilFunc] 86)
              have hRz0 := hRr.alloc (.cells #[.int .u8 0, .int .u8 0, .int .u8 0, .nilFunc] 86)
              have hZz0 := hZr.alloc (.cells #[.int .u8 0, .int .u8 0, .int .u8 0, .nilFunc] 86)
              have hoz0 := hor.alloc (.cells #[.int .u8 0, .int .u8 0, .int .u8 0, .nilFunc] 86)
              have hBz0 := hBr.alloc hBr.size (.cells #[.int .u8 0, .int .u8 0, .int .u8 0, .nilFunc] 86)
              have q0 : wr.cell? ⟨rb, 4 * 1, none⟩ = some (.int .u8 3) := hRr.cell (j := 4 * 1) rfl
              have q1 : wr.cell? ⟨rb, 4 * 1 + 1, none⟩ = some (.int .u8 1) := hRr.cell (j := 4 * 1 + 1) rfl
              have q2 : wr.cell? ⟨rb, 4 * 1 + 2, none⟩ = some (.int .u8 2) := hRr.cell (j := 4 * 1 + 2) rfl
              have q3 : wr.cell? ⟨rb, 4 * 1 + 3, none⟩ = some (.func (.func 64) #[] #[]) := hRr.cell (j := 4 * 1 + 3) rfl
              simp only [Nat.reduceMul, Nat.reduceAdd] at q0 q1 q2 q3
              have hGlt := hGr.lt
              have hLlt := hLr.lt
              have hRlt := hRr.lt
              have hBrs := hBr.size
              go_wp2_with (first | (with_reducible refine hold_append ?_) | (with_reducible refine hold_make ?_) | (with_reducible refine hold_copy ?_) | (with_reducible refine hold_store ?_))
              refine unhold (wp_box (v := .agg #[.int .u8 3, .int .u8 1, .int .u8 2, .func (.func 64) #[] #[]]) (vs := [.int .u8 3, .int .u8 1, .int .u8 2, .func (.func 64) #[] #[]]) rfl rfl rfl rfl hrz0 rfl (by kernel_rfl) (by simp) (by simp; (refine ⟨?_, ?_, ?_, ?_⟩ <;> rfl)) #[.int .u8 3, .int .u8 1, .int .u8 2, .func (.func 64) #[] #[]] (by simp) ?_)
              intro wz hrz hgz _
              have hGz := hGz0.grown hgz (by intro e; injection e with e; omega)
              have hLz := hLz0.grown hgz (by intro e; injection e with e; omega)
              have hRz := hRz0.grown hgz (by intro e; injection e with e; omega)
              have hZz := hZz0.grown hgz (by intro e; injection e with e; omega)
              have hoz := own_stays hoz0 hgz (fun g' hg' e => by injection e with e; have := (hor.blk_lt hg').2; omega)
              have hBz := below_box hBz0 hgz (by omega)
              clear hrz0 hGz0 hLz0 hRz0 hZz0 hoz0 hBz0 hgz
              go_wp2_with (first | (with_reducible refine hold_append ?_) | (with_reducible refine hold_make ?_) | (with_reducible refine hold_copy ?_))
              simp only [Act.put]
              clear q0 q1 q2 q3
              have r0 := hrz.cell (j := 0) rfl
              have r1 := hrz.cell (j := 1) rfl
              have r2 := hrz.cell (j := 2) rfl
              have r3 := hrz.cell (j := 3) rfl
              have x3 := hGz.cell (j := 3) rfl
              have x5 := hGz.cell (j := 5) rfl
              have l0 := hLz.cell (j := 0) rfl
              have p4 := own_cell hoz hi hil (show (ptC pl[i])[4]? = some (.int .u8 (ps : Int)) from by rw [HPS.out]; rfl)
              by_cases e1 : si = 3
              · subst e1
                by_cases e2 : ps = 1
                · have f2 : ((1 : Int) != (ps : Int)) = false := by simp; omega
                  by_cases e3 : kd = 18
                  · have f3 : ((18 : Int) != (kd : Int)) = false := by simp; omega
                    have f3w : (IntKind.u8.wrap 18 != (kd : Int)) = false := by rw [show IntKind.u8.wrap 18 = 18 from rfl]; exact f3
                    have HFIT : Hid (fits st ps kd = true) := Lib.hid (by have := HSI.out; unfold fits; rw [decide_eq_true_eq]; omega)
                    have hst : st = 3 := by have := HSI.out; omega
                    have HRV := Lib.hid (HGT.out.trans (gtake_end (by rw [← HPS.out]; exact HFIT.out) (show ¬ st = 2 by omega)))
                    clear HGT HNO HFIT HPS hst e2 e3
                    go_quiet (fail)
                    rename_i nq
                    have hGd : Box (wz.drewN nq) w.heap.size 28 #[.int .u32 (f : Int), .string (str g), .string (str h), .int .u8 3, .bool com, .slice (some ⟨ab, 0, none⟩) n c2, .int .u32 (wt : Int), .int .u32 (tr : Int)] := hGz
                    have hLd : Box (wz.drewN nq) (w.heap.size + 2) 33 #[.int .u8 (kd : Int), .int .u32 (yf : Int), .string (str yg), .string (str yh), .int .u8 (xa : Int), .int .u16 (no : Int), .slice An nn cn] := hLz
                    have hZd : Box (wz.drewN nq) (w.heap.size + 3) 28 #[.int .u32 0, .string ⟨#[]⟩, .string ⟨#[]⟩, .int .u8 0, .bool false, .slice none 0 0, .int .u32 0, .int .u32 0] := hZz
                    have hrd : Box (wz.drewN nq) wr.heap.size 86 #[.int .u8 3, .int .u8 1, .int .u8 2, .func (.func 64) #[] #[]] := hrz
                    have hod : OwnP (wz.drewN nq) (w.heap.size + 4) (some ⟨ab, 0, none⟩) n c2 pl := Own.drewN hoz nq
                    have hBd : Below w.heap.size w (wz.drewN nq) := below_drewN hBz nq
                    clear hGz hLz hZz hrz hoz hBz r0 r1 r2 r3 x3 x5 l0 p4
                    generalize wz.drewN nq = wd at *
                    have r3 := hrd.cell (j := 3) rfl
                    have l4 := hLd.cell (j := 4) rfl
                    have l5 := hLd.cell (j := 5) rfl
                    go_wp2_with (first | (with_reducible refine hold_append ?_) | (with_reducible refine hold_make ?_) | (with_reducible refine hold_copy ?_))
                    refine (hed _).mono ?_
                    rintro e w4 ⟨rfl, rfl⟩
                    clear hvo hed
                    obtain ⟨V1, hV1⟩ : ∃ V1, V1 = (ended xa no).1 := ⟨_, rfl⟩
                    obtain ⟨V2, hV2⟩ : ∃ V2, V2 = (ended xa no).2 := ⟨_, rfl⟩
                    rw [← hV1, ← hV2] at HRV ⊢
                    clear hV1 hV2
                    cases V2
                    · have HRES : Hid (RS = (⟨⟨f, g, h⟩, st, com, pl, wt, tr⟩, 0)) := Lib.hid (by rw [HRV.out]; simp)
                      clear HRV hto hen
                      have y0 := hGd.cell (j := 0) rfl
                      have y1 := hGd.cell (j := 1) rfl
                      have y2 := hGd.cell (j := 2) rfl
                      have y3 := hGd.cell (j := 3) rfl
                      have y4 := hGd.cell (j := 4) rfl
                      have y5 := hGd.cell (j := 5) rfl
                      have y6 := hGd.cell (j := 6) rfl
                      have y7 := hGd.cell (j := 7) rfl
                      go_wp2_with (first | (with_reducible refine hold_append ?_) | (with_reducible refine hold_make ?_) | (with_reducible refine hold_copy ?_) | (with_reducible refine hold_store ?_))
                      refine unhold (wp_box (v := .agg #[.int .u32 (f : Int), .string (str g), .string (str h), .int .u8 3, .bool com, .slice (some ⟨ab, 0, none⟩) n c2, .int .u32 (wt : Int), .int .u32 (tr : Int)]) (vs := [.int .u32 (f : Int), .string (str g), .string (str h), .int .u8 3, .bool com, .slice (some ⟨ab, 0, none⟩) n c2, .int .u32 (wt : Int), .int .u32 (tr : Int)]) rfl rfl rfl rfl hZd rfl (by kernel_rfl) (by simp) gl_one #[.int .u32 (f : Int), .string (str g), .string (str h), .int .u8 3, .bool com, .slice (some ⟨ab, 0, none⟩) n c2, .int .u32 (wt : Int), .int .u32 (tr : Int)] (by simp) ?_)
                      intro w8 hb8 hg8 _
                      have hB08 := below_box hBd hg8 (by omega)
                      have ho8 := own_box hod hg8 (by omega)
                      go_wp2_with (first | (with_reducible refine hold_append ?_) | (with_reducible refine hold_make ?_) | (with_reducible refine hold_copy ?_))
                      refine ret_box_tmp rfl hb8 rfl rfl Try.underlying28 rfl (by kernel_rfl) rfl ?_
                      rw [HRES.out]
                      exact ⟨(some ⟨ab, 0, none⟩), n, c2, by simp only [glV]; rw [← HSI.out]; rfl, Own.base_le ho8 (by omega), hn, hB08⟩
                    · have hGd5 := hGd.cell (j := 5) rfl
                      go_wp2_with (first | (with_reducible refine hold_append ?_) | (with_reducible refine hold_make ?_) | (with_reducible refine hold_copy ?_) | (with_reducible refine hold_store ?_))
                      refine unhold (wp_recset ptShape rfl rfl rfl rfl hod (k := i) (i := 4) (vs := [.int .u8 (V1 : Int)]) hi hil (Pt.to V1 pl[i]) rfl (by kernel_rfl) (HF.out V1) (by simp) (by omega) ?_)
                      intro w5 ho5 hg5 _
                      rw [← setPt_set V1 i pl hil] at ho5
                      have hgl := hod.blk_lt (g := ab) rfl
                      have hB5 := hBd.grown hg5 hBd.size (fun g'' e => by injection e with e; omega)
                      have hG5 := hGd.grown hg5 (by intro e; injection e with e; omega)
                      have hZ5 := hZd.grown hg5 (by intro e; injection e with e; omega)
                      have hL5 := hLd.grown hg5 (by intro e; injection e with e; omega)
                      clear hGd hLd hZd hrd hod hGd5 r3 l4 l5
                      have y0 := hG5.cell (j := 0) rfl
                      have y1 := hG5.cell (j := 1) rfl
                      have y2 := hG5.cell (j := 2) rfl
                      have y3 := hG5.cell (j := 3) rfl
                      have y4 := hG5.cell (j := 4) rfl
                      have y5 := hG5.cell (j := 5) rfl
                      have y6 := hG5.cell (j := 6) rfl
                      have y7 := hG5.cell (j := 7) rfl
                      have l4 := hL5.cell (j := 4) rfl
                      have HRES : Hid (RS = (Gl.ends ⟨⟨f, g, h⟩, st, com, setPt V1 i pl, wt, tr⟩, 0)) := Lib.hid (by rw [HRV.out]; simp)
                      clear HRV
                      have HP : Hid ((Gl.ends ⟨⟨f, g, h⟩, st, com, setPt V1 i pl, wt, tr⟩).parts = setPt V1 i pl) := Lib.hid (ends_parts _)
                      have ht := hen V1 (some ⟨ab, 0, none⟩) c2 w5 ho5.rd (by omega)
                      obtain ⟨E, hE⟩ : ∃ E, E = Gl.ends ⟨⟨f, g, h⟩, st, com, setPt V1 i pl, wt, tr⟩ := ⟨_, rfl⟩
                      rw [← hE] at ht HRES HP
                      unfold EnR at ht
                      clear hto hen hE
                      go_wp2_with (first | (with_reducible refine hold_append ?_) | (with_reducible refine hold_make ?_) | (with_reducible refine hold_copy ?_) | (with_reducible refine hold_store ?_))
                      refine (ht).mono ?_
                      rintro e w7 ⟨rfl, hB7⟩
                      have hz7 := (hZ5).below hB7
                      have hB07 := (hB5).trans (hB7.mono (hB5).size)
                      have hlt7 := (hZ5).lt
                      have hsz7 := (hB5).size
                      have ho7 := own_below ho5 hB7
                      rw [← HP.out] at ho7
                      obtain ⟨⟨ef, eg, eh⟩, est, ecom, el, ewt, etr⟩ := E
                      unfold glV
                      simp only at ho7
                      go_wp2_with (first | (with_reducible refine hold_append ?_) | (with_reducible refine hold_make ?_) | (with_reducible refine hold_copy ?_) | (with_reducible refine hold_store ?_))
                      refine unhold (wp_box (v := .agg #[.int .u32 (ef : Int), .string (str eg), .string (str eh), .int .u8 (est : Int), .bool ecom, .slice (some ⟨ab, 0, none⟩) n c2, .int .u32 (ewt : Int), .int .u32 (etr : Int)]) (vs := [.int .u32 (ef : Int), .string (str eg), .string (str eh), .int .u8 (est : Int), .bool ecom, .slice (some ⟨ab, 0, none⟩) n c2, .int .u32 (ewt : Int), .int .u32 (etr : Int)]) rfl rfl rfl rfl hz7 rfl (by kernel_rfl) (by simp) gl_one #[.int .u32 (ef : Int), .string (str eg), .string (str eh), .int .u8 (est : Int), .bool ecom, .slice (some ⟨ab, 0, none⟩) n c2, .int .u32 (ewt : Int), .int .u32 (etr : Int)] (by simp) ?_)
                      intro w8 hb8 hg8 _
                      have hB08 := below_box hB07 hg8 (by omega)
                      have ho8 := own_box ho7 hg8 (by omega)
                      go_wp2_with (first | (with_reducible refine hold_append ?_) | (with_reducible refine hold_make ?_) | (with_reducible refine hold_copy ?_))
                      refine ret_box_tmp rfl hb8 rfl rfl Try.underlying28 rfl (by kernel_rfl) rfl ?_
                      rw [HRES.out]
                      exact ⟨(some ⟨ab, 0, none⟩), n, c2, rfl, Own.base_le ho8 (by omega), hn, hB08⟩
                  · have f3 : ((18 : Int) != (kd : Int)) = true := by simp; omega
                    have f3w : (IntKind.u8.wrap 18 != (kd : Int)) = true := by rw [show IntKind.u8.wrap 18 = 18 from rfl]; exact f3
                    have HNO2 : Hid (∀ j, j < 1 + 1 → ¬ rowFit j st ps kd) := Lib.hid (fun j hj => by
                      rcases Nat.lt_or_ge j 1 with h' | h'
                      · exact HNO.out j h'
                      · obtain rfl : j = 1 := by omega
                        have := HSI.out
                        unfold rowFit
                        simp
                        omega)
                    clear e3 e2
                    go_quiet (fail)
                    go_wp2_with (first | (with_reducible refine hold_append ?_) | (with_reducible refine hold_make ?_) | (with_reducible refine hold_copy ?_))
                    exact ⟨⟨1 + 1, by omega, by go_num, HNO2, hGz, hLz, hRz, hZz, hoz, below_drewN hBz _⟩, by simp [RowKit.intOf]⟩
                · have f2 : ((1 : Int) != (ps : Int)) = true := by simp; omega
                  have HNO2 : Hid (∀ j, j < 1 + 1 → ¬ rowFit j st ps kd) := Lib.hid (fun j hj => by
                    rcases Nat.lt_or_ge j 1 with h' | h'
                    · exact HNO.out j h'
                    · obtain rfl : j = 1 := by omega
                      have := HSI.out
                      unfold rowFit
                      simp
                      omega)
                  clear e2
                  go_quiet (fail)
                  go_wp2_with (first | (with_reducible refine hold_append ?_) | (with_reducible refine hold_make ?_) | (with_reducible refine hold_copy ?_))
                  exact ⟨⟨1 + 1, by omega, by go_num, HNO2, hGz, hLz, hRz, hZz, hoz, below_drewN hBz _⟩, by simp [RowKit.intOf]⟩
              · have f1 : ((3 : Int) != si) = true := by simp; omega
                have HNO2 : Hid (∀ j, j < 1 + 1 → ¬ rowFit j st ps kd) := Lib.hid (fun j hj => by
                  rcases Nat.lt_or_ge j 1 with h' | h'
                  · exact HNO.out j h'
                  · obtain rfl : j = 1 := by omega
                    have := HSI.out
                    unfold rowFit
                    simp
                    omega)
                clear e1
                go_quiet (fail)
                go_wp2_with (first | (with_reducible refine hold_append ?_) | (with_reducible refine hold_make ?_) | (with_reducible refine hold_copy ?_))
                exact ⟨⟨1 + 1, by omega, by go_num, HNO2, hGz, hLz, hRz, hZz, hoz, below_drewN hBz _⟩, by simp [RowKit.intOf]⟩
            · have hrz0 := Box.new wr #[.int .u8 0, .int .u8 0, .int .u8 0, .nilFunc] 86
              have hGz0 := hGr.alloc (.cells #[.int .u8 0, .int .u8 0, .int .u8 0, .nilFunc] 86)
              have hLz0 := hLr.alloc (.cells #[.int .u8 0, .int .u8 0, .int .u8 0, .nilFunc] 86)
              have hRz0 := hRr.alloc (.cells #[.int .u8 0, .int .u8 0, .int .u8 0, .nilFunc] 86)
              have hZz0 := hZr.alloc (.cells #[.int .u8 0, .int .u8 0, .int .u8 0, .nilFunc] 86)
              have hoz0 := hor.alloc (.cells #[.int .u8 0, .int .u8 0, .int .u8 0, .nilFunc] 86)
              have hBz0 := hBr.alloc hBr.size (.cells #[.int .u8 0, .int .u8 0, .int .u8 0, .nilFunc] 86)
              have q0 : wr.cell? ⟨rb, 4 * 2, none⟩ = some (.int .u8 4) := hRr.cell (j := 4 * 2) rfl
              have q1 : wr.cell? ⟨rb, 4 * 2 + 1, none⟩ = some (.int .u8 0) := hRr.cell (j := 4 * 2 + 1) rfl
              have q2 : wr.cell? ⟨rb, 4 * 2 + 2, none⟩ = some (.int .u8 3) := hRr.cell (j := 4 * 2 + 2) rfl
              have q3 : wr.cell? ⟨rb, 4 * 2 + 3, none⟩ = some (.func (.func 64) #[] #[]) := hRr.cell (j := 4 * 2 + 3) rfl
              simp only [Nat.reduceMul, Nat.reduceAdd] at q0 q1 q2 q3
              have hGlt := hGr.lt
              have hLlt := hLr.lt
              have hRlt := hRr.lt
              have hBrs := hBr.size
              go_wp2_with (first | (with_reducible refine hold_append ?_) | (with_reducible refine hold_make ?_) | (with_reducible refine hold_copy ?_) | (with_reducible refine hold_store ?_))
              refine unhold (wp_box (v := .agg #[.int .u8 4, .int .u8 0, .int .u8 3, .func (.func 64) #[] #[]]) (vs := [.int .u8 4, .int .u8 0, .int .u8 3, .func (.func 64) #[] #[]]) rfl rfl rfl rfl hrz0 rfl (by kernel_rfl) (by simp) (by simp; (refine ⟨?_, ?_, ?_, ?_⟩ <;> rfl)) #[.int .u8 4, .int .u8 0, .int .u8 3, .func (.func 64) #[] #[]] (by simp) ?_)
              intro wz hrz hgz _
              have hGz := hGz0.grown hgz (by intro e; injection e with e; omega)
              have hLz := hLz0.grown hgz (by intro e; injection e with e; omega)
              have hRz := hRz0.grown hgz (by intro e; injection e with e; omega)
              have hZz := hZz0.grown hgz (by intro e; injection e with e; omega)
              have hoz := own_stays hoz0 hgz (fun g' hg' e => by injection e with e; have := (hor.blk_lt hg').2; omega)
              have hBz := below_box hBz0 hgz (by omega)
              clear hrz0 hGz0 hLz0 hRz0 hZz0 hoz0 hBz0 hgz
              go_wp2_with (first | (with_reducible refine hold_append ?_) | (with_reducible refine hold_make ?_) | (with_reducible refine hold_copy ?_))
              simp only [Act.put]
              clear q0 q1 q2 q3
              have r0 := hrz.cell (j := 0) rfl
              have r1 := hrz.cell (j := 1) rfl
              have r2 := hrz.cell (j := 2) rfl
              have r3 := hrz.cell (j := 3) rfl
              have x3 := hGz.cell (j := 3) rfl
              have x5 := hGz.cell (j := 5) rfl
              have l0 := hLz.cell (j := 0) rfl
              have p4 := own_cell hoz hi hil (show (ptC pl[i])[4]? = some (.int .u8 (ps : Int)) from by rw [HPS.out]; rfl)
              by_cases e1 : si = 4
              · subst e1
                by_cases e2 : ps = 0
                · have f2 : ((0 : Int) != (ps : Int)) = false := by simp; omega
                  by_cases e3 : kd = 19
                  · have f3 : ((19 : Int) != (kd : Int)) = false := by simp; omega
                    have f3w : (IntKind.u8.wrap 19 != (kd : Int)) = false := by rw [show IntKind.u8.wrap 19 = 19 from rfl]; exact f3
                    have HFIT : Hid (fits st ps kd = true) := Lib.hid (by have := HSI.out; unfold fits; rw [decide_eq_true_eq]; omega)
                    have hst : st = 4 := by have := HSI.out; omega
                    have HRV := Lib.hid (HGT.out.trans (gtake_end (by rw [← HPS.out]; exact HFIT.out) (show ¬ st = 2 by omega)))
                    clear HGT HNO HFIT HPS hst e2 e3
                    go_quiet (fail)
                    rename_i nq
                    have hGd : Box (wz.drewN nq) w.heap.size 28 #[.int .u32 (f : Int), .string (str g), .string (str h), .int .u8 4, .bool com, .slice (some ⟨ab, 0, none⟩) n c2, .int .u32 (wt : Int), .int .u32 (tr : Int)] := hGz
                    have hLd : Box (wz.drewN nq) (w.heap.size + 2) 33 #[.int .u8 (kd : Int), .int .u32 (yf : Int), .string (str yg), .string (str yh), .int .u8 (xa : Int), .int .u16 (no : Int), .slice An nn cn] := hLz
                    have hZd : Box (wz.drewN nq) (w.heap.size + 3) 28 #[.int .u32 0, .string ⟨#[]⟩, .string ⟨#[]⟩, .int .u8 0, .bool false, .slice none 0 0, .int .u32 0, .int .u32 0] := hZz
                    have hrd : Box (wz.drewN nq) wr.heap.size 86 #[.int .u8 4, .int .u8 0, .int .u8 3, .func (.func 64) #[] #[]] := hrz
                    have hod : OwnP (wz.drewN nq) (w.heap.size + 4) (some ⟨ab, 0, none⟩) n c2 pl := Own.drewN hoz nq
                    have hBd : Below w.heap.size w (wz.drewN nq) := below_drewN hBz nq
                    clear hGz hLz hZz hrz hoz hBz r0 r1 r2 r3 x3 x5 l0 p4
                    generalize wz.drewN nq = wd at *
                    have r3 := hrd.cell (j := 3) rfl
                    have l4 := hLd.cell (j := 4) rfl
                    have l5 := hLd.cell (j := 5) rfl
                    go_wp2_with (first | (with_reducible refine hold_append ?_) | (with_reducible refine hold_make ?_) | (with_reducible refine hold_copy ?_))
                    refine (hed _).mono ?_
                    rintro e w4 ⟨rfl, rfl⟩
                    clear hvo hed
                    obtain ⟨V1, hV1⟩ : ∃ V1, V1 = (ended xa no).1 := ⟨_, rfl⟩
                    obtain ⟨V2, hV2⟩ : ∃ V2, V2 = (ended xa no).2 := ⟨_, rfl⟩
                    rw [← hV1, ← hV2] at HRV ⊢
                    clear hV1 hV2
                    cases V2
                    · have HRES : Hid (RS = (⟨⟨f, g, h⟩, st, com, pl, wt, tr⟩, 0)) := Lib.hid (by rw [HRV.out]; simp)
                      clear HRV hto hen
                      have y0 := hGd.cell (j := 0) rfl
                      have y1 := hGd.cell (j := 1) rfl
                      have y2 := hGd.cell (j := 2) rfl
                      have y3 := hGd.cell (j := 3) rfl
                      have y4 := hGd.cell (j := 4) rfl
                      have y5 := hGd.cell (j := 5) rfl
                      have y6 := hGd.cell (j := 6) rfl
                      have y7 := hGd.cell (j := 7) rfl
                      go_wp2_with (first | (with_reducible refine hold_append ?_) | (with_reducible refine hold_make ?_) | (with_reducible refine hold_copy ?_) | (with_reducible refine hold_store ?_))
                      refine unhold (wp_box (v := .agg #[.int .u32 (f : Int), .string (str g), .string (str h), .int .u8 4, .bool com, .slice (some ⟨ab, 0, none⟩) n c2, .int .u32 (wt : Int), .int .u32 (tr : Int)]) (vs := [.int .u32 (f : Int), .string (str g), .string (str h), .int .u8 4, .bool com, .slice (some ⟨ab, 0, none⟩) n c2, .int .u32 (wt : Int), .int .u32 (tr : Int)]) rfl rfl rfl rfl hZd rfl (by kernel_rfl) (by simp) gl_one #[.int .u32 (f : Int), .string (str g), .string (str h), .int .u8 4, .bool com, .slice (some ⟨ab, 0, none⟩) n c2, .int .u32 (wt : Int), .int .u32 (tr : Int)] (by simp) ?_)
                      intro w8 hb8 hg8 _
                      have hB08 := below_box hBd hg8 (by omega)
                      have ho8 := own_box hod hg8 (by omega)
                      go_wp2_with (first | (with_reducible refine hold_append ?_) | (with_reducible refine hold_make ?_) | (with_reducible refine hold_copy ?_))
                      refine ret_box_tmp rfl hb8 rfl rfl Try.underlying28 rfl (by kernel_rfl) rfl ?_
                      rw [HRES.out]
                      exact ⟨(some ⟨ab, 0, none⟩), n, c2, by simp only [glV]; rw [← HSI.out]; rfl, Own.base_le ho8 (by omega), hn, hB08⟩
                    · have hGd5 := hGd.cell (j := 5) rfl
                      go_wp2_with (first | (with_reducible refine hold_append ?_) | (with_reducible refine hold_make ?_) | (with_reducible refine hold_copy ?_) | (with_reducible refine hold_store ?_))
                      refine unhold (wp_recset ptShape rfl rfl rfl rfl hod (k := i) (i := 4) (vs := [.int .u8 (V1 : Int)]) hi hil (Pt.to V1 pl[i]) rfl (by kernel_rfl) (HF.out V1) (by simp) (by omega) ?_)
                      intro w5 ho5 hg5 _
                      rw [← setPt_set V1 i pl hil] at ho5
                      have hgl := hod.blk_lt (g := ab) rfl
                      have hB5 := hBd.grown hg5 hBd.size (fun g'' e => by injection e with e; omega)
                      have hG5 := hGd.grown hg5 (by intro e; injection e with e; omega)
                      have hZ5 := hZd.grown hg5 (by intro e; injection e with e; omega)
                      have hL5 := hLd.grown hg5 (by intro e; injection e with e; omega)
                      clear hGd hLd hZd hrd hod hGd5 r3 l4 l5
                      have y0 := hG5.cell (j := 0) rfl
                      have y1 := hG5.cell (j := 1) rfl
                      have y2 := hG5.cell (j := 2) rfl
                      have y3 := hG5.cell (j := 3) rfl
                      have y4 := hG5.cell (j := 4) rfl
                      have y5 := hG5.cell (j := 5) rfl
                      have y6 := hG5.cell (j := 6) rfl
                      have y7 := hG5.cell (j := 7) rfl
                      have l4 := hL5.cell (j := 4) rfl
                      have HRES : Hid (RS = (Gl.ends ⟨⟨f, g, h⟩, st, com, setPt V1 i pl, wt, tr⟩, 0)) := Lib.hid (by rw [HRV.out]; simp)
                      clear HRV
                      have HP : Hid ((Gl.ends ⟨⟨f, g, h⟩, st, com, setPt V1 i pl, wt, tr⟩).parts = setPt V1 i pl) := Lib.hid (ends_parts _)
                      have ht := hen V1 (some ⟨ab, 0, none⟩) c2 w5 ho5.rd (by omega)
                      obtain ⟨E, hE⟩ : ∃ E, E = Gl.ends ⟨⟨f, g, h⟩, st, com, setPt V1 i pl, wt, tr⟩ := ⟨_, rfl⟩
                      rw [← hE] at ht HRES HP
                      unfold EnR at ht
                      clear hto hen hE
                      go_wp2_with (first | (with_reducible refine hold_append ?_) | (with_reducible refine hold_make ?_) | (with_reducible refine hold_copy ?_) | (with_reducible refine hold_store ?_))
                      refine (ht).mono ?_
                      rintro e w7 ⟨rfl, hB7⟩
                      have hz7 := (hZ5).below hB7
                      have hB07 := (hB5).trans (hB7.mono (hB5).size)
                      have hlt7 := (hZ5).lt
                      have hsz7 := (hB5).size
                      have ho7 := own_below ho5 hB7
                      rw [← HP.out] at ho7
                      obtain ⟨⟨ef, eg, eh⟩, est, ecom, el, ewt, etr⟩ := E
                      unfold glV
                      simp only at ho7
                      go_wp2_with (first | (with_reducible refine hold_append ?_) | (with_reducible refine hold_make ?_) | (with_reducible refine hold_copy ?_) | (with_reducible refine hold_store ?_))
                      refine unhold (wp_box (v := .agg #[.int .u32 (ef : Int), .string (str eg), .string (str eh), .int .u8 (est : Int), .bool ecom, .slice (some ⟨ab, 0, none⟩) n c2, .int .u32 (ewt : Int), .int .u32 (etr : Int)]) (vs := [.int .u32 (ef : Int), .string (str eg), .string (str eh), .int .u8 (est : Int), .bool ecom, .slice (some ⟨ab, 0, none⟩) n c2, .int .u32 (ewt : Int), .int .u32 (etr : Int)]) rfl rfl rfl rfl hz7 rfl (by kernel_rfl) (by simp) gl_one #[.int .u32 (ef : Int), .string (str eg), .string (str eh), .int .u8 (est : Int), .bool ecom, .slice (some ⟨ab, 0, none⟩) n c2, .int .u32 (ewt : Int), .int .u32 (etr : Int)] (by simp) ?_)
                      intro w8 hb8 hg8 _
                      have hB08 := below_box hB07 hg8 (by omega)
                      have ho8 := own_box ho7 hg8 (by omega)
                      go_wp2_with (first | (with_reducible refine hold_append ?_) | (with_reducible refine hold_make ?_) | (with_reducible refine hold_copy ?_))
                      refine ret_box_tmp rfl hb8 rfl rfl Try.underlying28 rfl (by kernel_rfl) rfl ?_
                      rw [HRES.out]
                      exact ⟨(some ⟨ab, 0, none⟩), n, c2, rfl, Own.base_le ho8 (by omega), hn, hB08⟩
                  · have f3 : ((19 : Int) != (kd : Int)) = true := by simp; omega
                    have f3w : (IntKind.u8.wrap 19 != (kd : Int)) = true := by rw [show IntKind.u8.wrap 19 = 19 from rfl]; exact f3
                    have HNO2 : Hid (∀ j, j < 2 + 1 → ¬ rowFit j st ps kd) := Lib.hid (fun j hj => by
                      rcases Nat.lt_or_ge j 2 with h' | h'
                      · exact HNO.out j h'
                      · obtain rfl : j = 2 := by omega
                        have := HSI.out
                        unfold rowFit
                        simp
                        omega)
                    clear e3 e2
                    go_quiet (fail)
                    go_wp2_with (first | (with_reducible refine hold_append ?_) | (with_reducible refine hold_make ?_) | (with_reducible refine hold_copy ?_))
                    exact ⟨⟨2 + 1, by omega, by go_num, HNO2, hGz, hLz, hRz, hZz, hoz, below_drewN hBz _⟩, by simp [RowKit.intOf]⟩
                · have f2 : ((0 : Int) != (ps : Int)) = true := by simp; omega
                  have HNO2 : Hid (∀ j, j < 2 + 1 → ¬ rowFit j st ps kd) := Lib.hid (fun j hj => by
                    rcases Nat.lt_or_ge j 2 with h' | h'
                    · exact HNO.out j h'
                    · obtain rfl : j = 2 := by omega
                      have := HSI.out
                      unfold rowFit
                      simp
                      omega)
                  clear e2
                  go_quiet (fail)
                  go_wp2_with (first | (with_reducible refine hold_append ?_) | (with_reducible refine hold_make ?_) | (with_reducible refine hold_copy ?_))
                  exact ⟨⟨2 + 1, by omega, by go_num, HNO2, hGz, hLz, hRz, hZz, hoz, below_drewN hBz _⟩, by simp [RowKit.intOf]⟩
              · have f1 : ((4 : Int) != si) = true := by simp; omega
                have HNO2 : Hid (∀ j, j < 2 + 1 → ¬ rowFit j st ps kd) := Lib.hid (fun j hj => by
                  rcases Nat.lt_or_ge j 2 with h' | h'
                  · exact HNO.out j h'
                  · obtain rfl : j = 2 := by omega
                    have := HSI.out
                    unfold rowFit
                    simp
                    omega)
                clear e1
                go_quiet (fail)
                go_wp2_with (first | (with_reducible refine hold_append ?_) | (with_reducible refine hold_make ?_) | (with_reducible refine hold_copy ?_))
                exact ⟨⟨2 + 1, by omega, by go_num, HNO2, hGz, hLz, hRz, hZz, hoz, below_drewN hBz _⟩, by simp [RowKit.intOf]⟩
            · have hrz0 := Box.new wr #[.int .u8 0, .int .u8 0, .int .u8 0, .nilFunc] 86
              have hGz0 := hGr.alloc (.cells #[.int .u8 0, .int .u8 0, .int .u8 0, .nilFunc] 86)
              have hLz0 := hLr.alloc (.cells #[.int .u8 0, .int .u8 0, .int .u8 0, .nilFunc] 86)
              have hRz0 := hRr.alloc (.cells #[.int .u8 0, .int .u8 0, .int .u8 0, .nilFunc] 86)
              have hZz0 := hZr.alloc (.cells #[.int .u8 0, .int .u8 0, .int .u8 0, .nilFunc] 86)
              have hoz0 := hor.alloc (.cells #[.int .u8 0, .int .u8 0, .int .u8 0, .nilFunc] 86)
              have hBz0 := hBr.alloc hBr.size (.cells #[.int .u8 0, .int .u8 0, .int .u8 0, .nilFunc] 86)
              have q0 : wr.cell? ⟨rb, 4 * 3, none⟩ = some (.int .u8 4) := hRr.cell (j := 4 * 3) rfl
              have q1 : wr.cell? ⟨rb, 4 * 3 + 1, none⟩ = some (.int .u8 1) := hRr.cell (j := 4 * 3 + 1) rfl
              have q2 : wr.cell? ⟨rb, 4 * 3 + 2, none⟩ = some (.int .u8 3) := hRr.cell (j := 4 * 3 + 2) rfl
              have q3 : wr.cell? ⟨rb, 4 * 3 + 3, none⟩ = some (.func (.func 64) #[] #[]) := hRr.cell (j := 4 * 3 + 3) rfl
              simp only [Nat.reduceMul, Nat.reduceAdd] at q0 q1 q2 q3
              have hGlt := hGr.lt
              have hLlt := hLr.lt
              have hRlt := hRr.lt
              have hBrs := hBr.size
              go_wp2_with (first | (with_reducible refine hold_append ?_) | (with_reducible refine hold_make ?_) | (with_reducible refine hold_copy ?_) | (with_reducible refine hold_store ?_))
              refine unhold (wp_box (v := .agg #[.int .u8 4, .int .u8 1, .int .u8 3, .func (.func 64) #[] #[]]) (vs := [.int .u8 4, .int .u8 1, .int .u8 3, .func (.func 64) #[] #[]]) rfl rfl rfl rfl hrz0 rfl (by kernel_rfl) (by simp) (by simp; (refine ⟨?_, ?_, ?_, ?_⟩ <;> rfl)) #[.int .u8 4, .int .u8 1, .int .u8 3, .func (.func 64) #[] #[]] (by simp) ?_)
              intro wz hrz hgz _
              have hGz := hGz0.grown hgz (by intro e; injection e with e; omega)
              have hLz := hLz0.grown hgz (by intro e; injection e with e; omega)
              have hRz := hRz0.grown hgz (by intro e; injection e with e; omega)
              have hZz := hZz0.grown hgz (by intro e; injection e with e; omega)
              have hoz := own_stays hoz0 hgz (fun g' hg' e => by injection e with e; have := (hor.blk_lt hg').2; omega)
              have hBz := below_box hBz0 hgz (by omega)
              clear hrz0 hGz0 hLz0 hRz0 hZz0 hoz0 hBz0 hgz
              go_wp2_with (first | (with_reducible refine hold_append ?_) | (with_reducible refine hold_make ?_) | (with_reducible refine hold_copy ?_))
              simp only [Act.put]
              clear q0 q1 q2 q3
              have r0 := hrz.cell (j := 0) rfl
              have r1 := hrz.cell (j := 1) rfl
              have r2 := hrz.cell (j := 2) rfl
              have r3 := hrz.cell (j := 3) rfl
              have x3 := hGz.cell (j := 3) rfl
              have x5 := hGz.cell (j := 5) rfl
              have l0 := hLz.cell (j := 0) rfl
              have p4 := own_cell hoz hi hil (show (ptC pl[i])[4]? = some (.int .u8 (ps : Int)) from by rw [HPS.out]; rfl)
              by_cases e1 : si = 4
              · subst e1
                by_cases e2 : ps = 1
                · have f2 : ((1 : Int) != (ps : Int)) = false := by simp; omega
                  by_cases e3 : kd = 19
                  · have f3 : ((19 : Int) != (kd : Int)) = false := by simp; omega
                    have f3w : (IntKind.u8.wrap 19 != (kd : Int)) = false := by rw [show IntKind.u8.wrap 19 = 19 from rfl]; exact f3
                    have HFIT : Hid (fits st ps kd = true) := Lib.hid (by have := HSI.out; unfold fits; rw [decide_eq_true_eq]; omega)
                    have hst : st = 4 := by have := HSI.out; omega
                    have HRV := Lib.hid (HGT.out.trans (gtake_end (by rw [← HPS.out]; exact HFIT.out) (show ¬ st = 2 by omega)))
                    clear HGT HNO HFIT HPS hst e2 e3
                    go_quiet (fail)
                    rename_i nq
                    have hGd : Box (wz.drewN nq) w.heap.size 28 #[.int .u32 (f : Int), .string (str g), .string (str h), .int .u8 4, .bool com, .slice (some ⟨ab, 0, none⟩) n c2, .int .u32 (wt : Int), .int .u32 (tr : Int)] := hGz
                    have hLd : Box (wz.drewN nq) (w.heap.size + 2) 33 #[.int .u8 (kd : Int), .int .u32 (yf : Int), .string (str yg), .string (str yh), .int .u8 (xa : Int), .int .u16 (no : Int), .slice An nn cn] := hLz
                    have hZd : Box (wz.drewN nq) (w.heap.size + 3) 28 #[.int .u32 0, .string ⟨#[]⟩, .string ⟨#[]⟩, .int .u8 0, .bool false, .slice none 0 0, .int .u32 0, .int .u32 0] := hZz
                    have hrd : Box (wz.drewN nq) wr.heap.size 86 #[.int .u8 4, .int .u8 1, .int .u8 3, .func (.func 64) #[] #[]] := hrz
                    have hod : OwnP (wz.drewN nq) (w.heap.size + 4) (some ⟨ab, 0, none⟩) n c2 pl := Own.drewN hoz nq
                    have hBd : Below w.heap.size w (wz.drewN nq) := below_drewN hBz nq
                    clear hGz hLz hZz hrz hoz hBz r0 r1 r2 r3 x3 x5 l0 p4
                    generalize wz.drewN nq = wd at *
                    have r3 := hrd.cell (j := 3) rfl
                    have l4 := hLd.cell (j := 4) rfl
                    have l5 := hLd.cell (j := 5) rfl
                    go_wp2_with (first | (with_reducible refine hold_append ?_) | (with_reducible refine hold_make ?_) | (with_reducible refine hold_copy ?_))
                    refine (hed _).mono ?_
                    rintro e w4 ⟨rfl, rfl⟩
                    clear hvo hed
                    obtain ⟨V1, hV1⟩ : ∃ V1, V1 = (ended xa no).1 := ⟨_, rfl⟩
                    obtain ⟨V2, hV2⟩ : ∃ V2, V2 = (ended xa no).2 := ⟨_, rfl⟩
                    rw [← hV1, ← hV2] at HRV ⊢
                    clear hV1 hV2
                    cases V2
                    · have HRES : Hid (RS = (⟨⟨f, g, h⟩, st, com, pl, wt, tr⟩, 0)) := Lib.hid (by rw [HRV.out]; simp)
                      clear HRV hto hen
                      have y0 := hGd.cell (j := 0) rfl
                      have y1 := hGd.cell (j := 1) rfl
                      have y2 := hGd.cell (j := 2) rfl
                      have y3 := hGd.cell (j := 3) rfl
                      have y4 := hGd.cell (j := 4) rfl
                      have y5 := hGd.cell (j := 5) rfl
                      have y6 := hGd.cell (j := 6) rfl
                      have y7 := hGd.cell (j := 7) rfl
                      go_wp2_with (first | (with_reducible refine hold_append ?_) | (with_reducible refine hold_make ?_) | (with_reducible refine hold_copy ?_) | (with_reducible refine hold_store ?_))
                      refine unhold (wp_box (v := .agg #[.int .u32 (f : Int), .string (str g), .string (str h), .int .u8 4, .bool com, .slice (some ⟨ab, 0, none⟩) n c2, .int .u32 (wt : Int), .int .u32 (tr : Int)]) (vs := [.int .u32 (f : Int), .string (str g), .string (str h), .int .u8 4, .bool com, .slice (some ⟨ab, 0, none⟩) n c2, .int .u32 (wt : Int), .int .u32 (tr : Int)]) rfl rfl rfl rfl hZd rfl (by kernel_rfl) (by simp) gl_one #[.int .u32 (f : Int), .string (str g), .string (str h), .int .u8 4, .bool com, .slice (some ⟨ab, 0, none⟩) n c2, .int .u32 (wt : Int), .int .u32 (tr : Int)] (by simp) ?_)
                      intro w8 hb8 hg8 _
                      have hB08 := below_box hBd hg8 (by omega)
                      have ho8 := own_box hod hg8 (by omega)
                      go_wp2_with (first | (with_reducible refine hold_append ?_) | (with_reducible refine hold_make ?_) | (with_reducible refine hold_copy ?_))
                      refine ret_box_tmp rfl hb8 rfl rfl Try.underlying28 rfl (by kernel_rfl) rfl ?_
                      rw [HRES.out]
                      exact ⟨(some ⟨ab, 0, none⟩), n, c2, by simp only [glV]; rw [← HSI.out]; rfl, Own.base_le ho8 (by omega), hn, hB08⟩
                    · have hGd5 := hGd.cell (j := 5) rfl
                      go_wp2_with (first | (with_reducible refine hold_append ?_) | (with_reducible refine hold_make ?_) | (with_reducible refine hold_copy ?_) | (with_reducible refine hold_store ?_))
                      refine unhold (wp_recset ptShape rfl rfl rfl rfl hod (k := i) (i := 4) (vs := [.int .u8 (V1 : Int)]) hi hil (Pt.to V1 pl[i]) rfl (by kernel_rfl) (HF.out V1) (by simp) (by omega) ?_)
                      intro w5 ho5 hg5 _
                      rw [← setPt_set V1 i pl hil] at ho5
                      have hgl := hod.blk_lt (g := ab) rfl
                      have hB5 := hBd.grown hg5 hBd.size (fun g'' e => by injection e with e; omega)
                      have hG5 := hGd.grown hg5 (by intro e; injection e with e; omega)
                      have hZ5 := hZd.grown hg5 (by intro e; injection e with e; omega)
                      have hL5 := hLd.grown hg5 (by intro e; injection e with e; omega)
                      clear hGd hLd hZd hrd hod hGd5 r3 l4 l5
                      have y0 := hG5.cell (j := 0) rfl
                      have y1 := hG5.cell (j := 1) rfl
                      have y2 := hG5.cell (j := 2) rfl
                      have y3 := hG5.cell (j := 3) rfl
                      have y4 := hG5.cell (j := 4) rfl
                      have y5 := hG5.cell (j := 5) rfl
                      have y6 := hG5.cell (j := 6) rfl
                      have y7 := hG5.cell (j := 7) rfl
                      have l4 := hL5.cell (j := 4) rfl
                      have HRES : Hid (RS = (Gl.ends ⟨⟨f, g, h⟩, st, com, setPt V1 i pl, wt, tr⟩, 0)) := Lib.hid (by rw [HRV.out]; simp)
                      clear HRV
                      have HP : Hid ((Gl.ends ⟨⟨f, g, h⟩, st, com, setPt V1 i pl, wt, tr⟩).parts = setPt V1 i pl) := Lib.hid (ends_parts _)
                      have ht := hen V1 (some ⟨ab, 0, none⟩) c2 w5 ho5.rd (by omega)
                      obtain ⟨E, hE⟩ : ∃ E, E = Gl.ends ⟨⟨f, g, h⟩, st, com, setPt V1 i pl, wt, tr⟩ := ⟨_, rfl⟩
                      rw [← hE] at ht HRES HP
                      unfold EnR at ht
                      clear hto hen hE
                      go_wp2_with (first | (with_reducible refine hold_append ?_) | (with_reducible refine hold_make ?_) | (with_reducible refine hold_copy ?_) | (with_reducible refine hold_store ?_))
                      refine (ht).mono ?_
                      rintro e w7 ⟨rfl, hB7⟩
                      have hz7 := (hZ5).below hB7
                      have hB07 := (hB5).trans (hB7.mono (hB5).size)
                      have hlt7 := (hZ5).lt
                      have hsz7 := (hB5).size
                      have ho7 := own_below ho5 hB7
                      rw [← HP.out] at ho7
                      obtain ⟨⟨ef, eg, eh⟩, est, ecom, el, ewt, etr⟩ := E
                      unfold glV
                      simp only at ho7
                      go_wp2_with (first | (with_reducible refine hold_append ?_) | (with_reducible refine hold_make ?_) | (with_reducible refine hold_copy ?_) | (with_reducible refine hold_store ?_))
                      refine unhold (wp_box (v := .agg #[.int .u32 (ef : Int), .string (str eg), .string (str eh), .int .u8 (est : Int), .bool ecom, .slice (some ⟨ab, 0, none⟩) n c2, .int .u32 (ewt : Int), .int .u32 (etr : Int)]) (vs := [.int .u32 (ef : Int), .string (str eg), .string (str eh), .int .u8 (est : Int), .bool ecom, .slice (some ⟨ab, 0, none⟩) n c2, .int .u32 (ewt : Int), .int .u32 (etr : Int)]) rfl rfl rfl rfl hz7 rfl (by kernel_rfl) (by simp) gl_one #[.int .u32 (ef : Int), .string (str eg), .string (str eh), .int .u8 (est : Int), .bool ecom, .slice (some ⟨ab, 0, none⟩) n c2, .int .u32 (ewt : Int), .int .u32 (etr : Int)] (by simp) ?_)
                      intro w8 hb8 hg8 _
                      have hB08 := below_box hB07 hg8 (by omega)
                      have ho8 := own_box ho7 hg8 (by omega)
                      go_wp2_with (first | (with_reducible refine hold_append ?_) | (with_reducible refine hold_make ?_) | (with_reducible refine hold_copy ?_))
                      refine ret_box_tmp rfl hb8 rfl rfl Try.underlying28 rfl (by kernel_rfl) rfl ?_
                      rw [HRES.out]
                      exact ⟨(some ⟨ab, 0, none⟩), n, c2, rfl, Own.base_le ho8 (by omega), hn, hB08⟩
                  · have f3 : ((19 : Int) != (kd : Int)) = true := by simp; omega
                    have f3w : (IntKind.u8.wrap 19 != (kd : Int)) = true := by rw [show IntKind.u8.wrap 19 = 19 from rfl]; exact f3
                    have HNO2 : Hid (∀ j, j < 3 + 1 → ¬ rowFit j st ps kd) := Lib.hid (fun j hj => by
                      rcases Nat.lt_or_ge j 3 with h' | h'
                      · exact HNO.out j h'
                      · obtain rfl : j = 3 := by omega
                        have := HSI.out
                        unfold rowFit
                        simp
                        omega)
                    clear e3 e2
                    go_quiet (fail)
                    go_wp2_with (first | (with_reducible refine hold_append ?_) | (with_reducible refine hold_make ?_) | (with_reducible refine hold_copy ?_))
                    exact ⟨⟨3 + 1, by omega, by go_num, HNO2, hGz, hLz, hRz, hZz, hoz, below_drewN hBz _⟩, by simp [RowKit.intOf]⟩
                · have f2 : ((1 : Int) != (ps : Int)) = true := by simp; omega
                  have HNO2 : Hid (∀ j, j < 3 + 1 → ¬ rowFit j st ps kd) := Lib.hid (fun j hj => by
                    rcases Nat.lt_or_ge j 3 with h' | h'
                    · exact HNO.out j h'
                    · obtain rfl : j = 3 := by omega
                      have := HSI.out
                      unfold rowFit
                      simp
                      omega)
                  clear e2
                  go_quiet (fail)
                  go_wp2_with (first | (with_reducible refine hold_append ?_) | (with_reducible refine hold_make ?_) | (with_reducible refine hold_copy ?_))
                  exact ⟨⟨3 + 1, by omega, by go_num, HNO2, hGz, hLz, hRz, hZz, hoz, below_drewN hBz _⟩, by simp [RowKit.intOf]⟩
              · have f1 : ((4 : Int) != si) = true := by simp; omega
                have HNO2 : Hid (∀ j, j < 3 + 1 → ¬ rowFit j st ps kd) := Lib.hid (fun j hj => by
                  rcases Nat.lt_or_ge j 3 with h' | h'
                  · exact HNO.out j h'
                  · obtain rfl : j = 3 := by omega
                    have := HSI.out
                    unfold rowFit
                    simp
                    omega)
                clear e1
                go_quiet (fail)
                go_wp2_with (first | (with_reducible refine hold_append ?_) | (with_reducible refine hold_make ?_) | (with_reducible refine hold_copy ?_))
                exact ⟨⟨3 + 1, by omega, by go_num, HNO2, hGz, hLz, hRz, hZz, hoz, below_drewN hBz _⟩, by simp [RowKit.intOf]⟩
            · have HRES : Hid (RS = (⟨⟨f, g, h⟩, st, com, pl, wt, tr⟩, 0)) := Lib.hid (HGT.out.trans (gtake_no (by rw [← HPS.out]; exact row_fits HNO.out)))
              clear hto hen hvo hed HGT
              have y0 := hGr.cell (j := 0) rfl
              have y1 := hGr.cell (j := 1) rfl
              have y2 := hGr.cell (j := 2) rfl
              have y3 := hGr.cell (j := 3) rfl
              have y4 := hGr.cell (j := 4) rfl
              have y5 := hGr.cell (j := 5) rfl
              have y6 := hGr.cell (j := 6) rfl
              have y7 := hGr.cell (j := 7) rfl
              go_wp2_with (first | (with_reducible refine hold_append ?_) | (with_reducible refine hold_make ?_) | (with_reducible refine hold_copy ?_) | (with_reducible refine hold_store ?_))
              refine unhold (wp_box (v := .agg #[.int .u32 (f : Int), .string (str g), .string (str h), .int .u8 si, .bool com, .slice (some ⟨ab, 0, none⟩) n c2, .int .u32 (wt : Int), .int .u32 (tr : Int)]) (vs := [.int .u32 (f : Int), .string (str g), .string (str h), .int .u8 si, .bool com, .slice (some ⟨ab, 0, none⟩) n c2, .int .u32 (wt : Int), .int .u32 (tr : Int)]) rfl rfl rfl rfl hZr rfl (by kernel_rfl) (by simp) gl_one #[.int .u32 (f : Int), .string (str g), .string (str h), .int .u8 si, .bool com, .slice (some ⟨ab, 0, none⟩) n c2, .int .u32 (wt : Int), .int .u32 (tr : Int)] (by simp) ?_)
              intro w8 hb8 hg8 _
              have hB08 := below_box hBr hg8 (by omega)
              have ho8 := own_box hor hg8 (by omega)
              go_wp2_with (first | (with_reducible refine hold_append ?_) | (with_reducible refine hold_make ?_) | (with_reducible refine hold_copy ?_))
              refine ret_box_tmp rfl hb8 rfl rfl Try.underlying28 rfl (by kernel_rfl) rfl ?_
              rw [HRES.out]
              exact ⟨(some ⟨ab, 0, none⟩), n, c2, by simp only [glV]; rw [← HSI.out]; rfl, Own.base_le ho8 (by omega), hn, hB08⟩
        · exact absurd (HFO.out i rfl) (by rw [HLEN.out]; exact hi)
end Go.PH
end

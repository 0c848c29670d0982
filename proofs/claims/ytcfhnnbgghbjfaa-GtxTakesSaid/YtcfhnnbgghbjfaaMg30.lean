/- Texts laid together: GtRTake2. -/
import Derived.Test.YtcfhnnbgghbjfaaMg29
section
/- The walk of the reference's Take: a part of the states. -/
set_option linter.all false
set_option linter.unusedSimpArgs false
set_option linter.unusedVariables false
namespace Go.PH
open Go.RowKit Go.Proofs

set_option maxRecDepth 20000 in
set_option maxHeartbeats 20000000 in
theorem rtake_2 (G : Gl) (node : Nat) (l : Lt) (A : Option Addr) (n c : Nat) (An : Option Addr) (nn cn : Nat) (B : Nat) (w : World) (hG : G.wf) (hl : l.wf) (hr : RdP w B A n c G.parts) (hrn : RdX w B An nn cn l.names) (hB : B ≤ w.heap.size) (hn : n ≤ 1000000000) (hnn : nn ≤ 1000000) (hcs : G.st = 2) :
    Calls Try.prog 13 #[.agg (glV G A n c), .int .u8 (node : Int), .agg (ltV l An nn cn)] w fun e w' => TurnR w (G.take node l) e w' := by
  obtain ⟨RS, hRS⟩ : ∃ RS, RS = G.take node l := ⟨_, rfl⟩
  rw [← hRS]
  have HRS := Lib.hid (hRS.trans (take_of G node l))
  have HF1 : Hid (G.ok = false → RS = (gl0, 270)) := Lib.hid (fun h => by rw [HRS.out, if_pos h])
  have HF2 : Hid (G.ok = true → ltOk l = false → RS = (gl0, 250)) := Lib.hid (fun h h2 => by rw [HRS.out, if_neg (by rw [h]; simp), if_pos h2])
  have HRT0 : Hid (G.ok = true → ltOk l = true → RS = rtake G node l.x l.kind l.xa l.no [] G.parts) := Lib.hid (fun h1 h2 => by
    rw [HRS.out, if_neg (by rw [h1]; simp), if_neg (by rw [h2]; simp)]
    exact (rtake_ok G node l.x l.kind l.xa l.no h1 (lt_xn h2)).symm)
  have HCO : Hid (G.ok = true → G.st = 2 → G.com = false) := Lib.hid (fun h h2 => ok_com h (.inr h2))
  have hlen := rec_length ptShape hr
  have hck := fun W hW => rgcheck_any G A n c B W hG (hr.below' hW hB) (Nat.le_trans hB hW.size) hn
  have hlk := fun W hW => rlcheck_any l An nn cn B W hl (hrn.below' hW hB) (Nat.le_trans hB hW.size) hnn
  have how := fun W hW => rcopy_any G A n c B W (hr.below' hW hB) (Nat.le_trans hB hW.size) hn
  have HN : Hid (G.ok = true → 0 < n) := Lib.hid (fun h => ok_pos h hlen)
  have HE : Hid (G.err = if G.ok then 0 else 270) := Lib.hid rfl
  have HE2 : Hid (ltErr l = if ltOk l then 0 else 250) := Lib.hid rfl
  have HLEN := Lib.hid hlen
  clear hRS HRS hG hl hr hrn hlen
  generalize G.err = er at *
  generalize G.ok = ok at *
  generalize ltErr l = er2 at *
  generalize ltOk l = ok2 at *
  obtain ⟨⟨f, g, h⟩, st, com, pl, wt, tr⟩ := G
  obtain ⟨kd, ⟨yf, yg, yh⟩, xa, no, nm⟩ := l
  obtain ⟨si, hsi⟩ : ∃ si : Int, si = (st : Int) := ⟨_, rfl⟩
  obtain ⟨ki, hki⟩ : ∃ ki : Int, ki = (kd : Int) := ⟨_, rfl⟩
  obtain ⟨xi, hxi⟩ : ∃ xi : Int, xi = (xa : Int) := ⟨_, rfl⟩
  obtain ⟨ni, hni⟩ : ∃ ni : Int, ni = (no : Int) := ⟨_, rfl⟩
  have HSI := Lib.hid hsi
  have HCS : Hid (si = 2) := Lib.hid (by simp only at hcs; omega)
  clear hcs
  have HKI := Lib.hid hki
  have HXI := Lib.hid hxi
  have HNI := Lib.hid hni
  simp only at HRT0 HLEN HCO
  unfold glV at hck how ⊢
  unfold ltV at hlk ⊢
  simp only at hck how hlk ⊢
  rw [← hsi] at hck how ⊢
  rw [← hki, ← hxi, ← hni] at hlk ⊢
  clear hsi hki hxi hni
  obtain ⟨hG0, hL0, hZ0, hB0⟩ := box3_of w #[.int .u32 (f : Int), .string (str g), .string (str h), .int .u8 si, .bool com, .slice A n c, .int .u32 (wt : Int), .int .u32 (tr : Int)] #[.int .u8 ki, .int .u32 (yf : Int), .string (str yg), .string (str yh), .int .u8 xi, .int .u16 ni, .slice An nn cn] #[.int .u32 0, .string ⟨#[]⟩, .string ⟨#[]⟩, .int .u8 0, .bool false, .slice none 0 0, .int .u32 0, .int .u32 0] 28 33 28
  obtain ⟨w0, hw0⟩ : ∃ w0, w0 = (((w.alloc (.cells #[.int .u32 (f : Int), .string (str g), .string (str h), .int .u8 si, .bool com, .slice A n c, .int .u32 (wt : Int), .int .u32 (tr : Int)] 28)).alloc (.cells #[.int .u8 ki, .int .u32 (yf : Int), .string (str yg), .string (str yh), .int .u8 xi, .int .u16 ni, .slice An nn cn] 33)).alloc (.cells #[.int .u32 0, .string ⟨#[]⟩, .string ⟨#[]⟩, .int .u8 0, .bool false, .slice none 0 0, .int .u32 0, .int .u32 0] 28)) := ⟨_, rfl⟩
  rw [← hw0] at hG0 hL0 hZ0 hB0
  have hck0 := hck w0 hB0
  clear hck
  have hs0 := hZ0.lt
  have x0 := hG0.cell (j := 0) rfl
  have x1 := hG0.cell (j := 1) rfl
  have x2 := hG0.cell (j := 2) rfl
  have x3 := hG0.cell (j := 3) rfl
  have x4 := hG0.cell (j := 4) rfl
  have x5 := hG0.cell (j := 5) rfl
  have x6 := hG0.cell (j := 6) rfl
  have x7 := hG0.cell (j := 7) rfl
  go_enter Try.func13, Try.ntmps13
  go_upto_region 1 with fail
  rw [← hw0]
  clear hw0
  go_wp2_with (first | (with_reducible refine hold_append ?_) | (with_reducible refine hold_make ?_) | (with_reducible refine hold_copy ?_) | (with_reducible refine hold_store ?_))
  refine hck0.mono ?_
  rintro e w1 ⟨rfl, hB1⟩
  have hG1 := hG0.below hB1
  have hL1 := hL0.below hB1
  have hZ1 := hZ0.below hB1
  have hB01 := hB0.trans (hB1.mono hB0.size)
  have hs1 := hB1.size
  clear hck0 hG0 hL0 hZ0 hB0 hB1 x0 x1 x2 x3 x4 x5 x6 x7
  cases ok
  · obtain rfl : er = 270 := by have := HE.out; simpa using this
    have HRES : Hid (RS = (gl0, 270)) := Lib.hid (HF1.out rfl)
    clear how hlk HF1 HF2 HRT0 HE HE2 HN
    go_wp2_with (first | (with_reducible refine hold_append ?_) | (with_reducible refine hold_make ?_) | (with_reducible refine hold_copy ?_) | (with_reducible refine hold_store ?_))
    refine unhold (wp_box (v := .agg #[.int .u32 0, .string ⟨#[]⟩, .string ⟨#[]⟩, .int .u8 0, .bool false, .slice none 0 0, .int .u32 0, .int .u32 0]) (vs := [.int .u32 0, .string ⟨#[]⟩, .string ⟨#[]⟩, .int .u8 0, .bool false, .slice none 0 0, .int .u32 0, .int .u32 0]) rfl rfl rfl rfl hZ1 rfl (by kernel_rfl) (by simp) gl_one #[.int .u32 0, .string ⟨#[]⟩, .string ⟨#[]⟩, .int .u8 0, .bool false, .slice none 0 0, .int .u32 0, .int .u32 0] (by simp) ?_)
    intro w9 hb9 hg9 _
    have hB9 := below_box hB01 hg9 (by omega)
    go_wp2_with (first | (with_reducible refine hold_append ?_) | (with_reducible refine hold_make ?_) | (with_reducible refine hold_copy ?_))
    refine ret_box_tmp rfl hb9 rfl rfl Try.underlying28 rfl (by kernel_rfl) rfl ?_
    rw [HRES.out]
    exact ⟨none, 0, 0, rfl, Own.none_ _ _ _ _, by omega, hB9⟩
  · obtain rfl : er = 0 := by have := HE.out; simpa using this
    have h0 := HN.out rfl
    have HCO2 : Hid (st = 2 → com = false) := Lib.hid (HCO.out rfl)
    have HF22 : Hid (ok2 = false → RS = (gl0, 250)) := Lib.hid (HF2.out rfl)
    have HRT1 : Hid (ok2 = true → RS = rtake ⟨⟨f, g, h⟩, st, com, pl, wt, tr⟩ node ⟨yf, yg, yh⟩ kd xa no [] pl) := Lib.hid (HRT0.out rfl)
    have hlk1 := hlk w1 hB01
    have x0 := hL1.cell (j := 0) rfl
    have x1 := hL1.cell (j := 1) rfl
    have x2 := hL1.cell (j := 2) rfl
    have x3 := hL1.cell (j := 3) rfl
    have x4 := hL1.cell (j := 4) rfl
    have x5 := hL1.cell (j := 5) rfl
    have x6 := hL1.cell (j := 6) rfl
    clear HF1 HF2 HRT0 HCO HE HN hlk
    go_wp2_with (first | (with_reducible refine hold_append ?_) | (with_reducible refine hold_make ?_) | (with_reducible refine hold_copy ?_) | (with_reducible refine hold_store ?_))
    refine hlk1.mono ?_
    rintro e w2 ⟨rfl, hB2⟩
    have hG2 := hG1.below hB2
    have hL2 := hL1.below hB2
    have hZ2 := hZ1.below hB2
    have hB02 := hB01.trans (hB2.mono hB01.size)
    have hs2 := hB2.size
    clear hlk1 hG1 hL1 hZ1 hB01 hB2 x0 x1 x2 x3 x4 x5 x6
    cases ok2
    · obtain rfl : er2 = 250 := by have := HE2.out; simpa using this
      have HRES : Hid (RS = (gl0, 250)) := Lib.hid (HF22.out rfl)
      clear how HF22 HRT1 HE2
      go_wp2_with (first | (with_reducible refine hold_append ?_) | (with_reducible refine hold_make ?_) | (with_reducible refine hold_copy ?_) | (with_reducible refine hold_store ?_))
      refine unhold (wp_box (v := .agg #[.int .u32 0, .string ⟨#[]⟩, .string ⟨#[]⟩, .int .u8 0, .bool false, .slice none 0 0, .int .u32 0, .int .u32 0]) (vs := [.int .u32 0, .string ⟨#[]⟩, .string ⟨#[]⟩, .int .u8 0, .bool false, .slice none 0 0, .int .u32 0, .int .u32 0]) rfl rfl rfl rfl hZ2 rfl (by kernel_rfl) (by simp) gl_one #[.int .u32 0, .string ⟨#[]⟩, .string ⟨#[]⟩, .int .u8 0, .bool false, .slice none 0 0, .int .u32 0, .int .u32 0] (by simp) ?_)
      intro w9 hb9 hg9 _
      have hB9 := below_box hB02 hg9 (by omega)
      go_wp2_with (first | (with_reducible refine hold_append ?_) | (with_reducible refine hold_make ?_) | (with_reducible refine hold_copy ?_))
      refine ret_box_tmp rfl hb9 rfl rfl Try.underlying28 rfl (by kernel_rfl) rfl ?_
      rw [HRES.out]
      exact ⟨none, 0, 0, rfl, Own.none_ _ _ _ _, by omega, hB9⟩
    · obtain rfl : er2 = 0 := by have := HE2.out; simpa using this
      have HRT2 : Hid (RS = rtake ⟨⟨f, g, h⟩, st, com, pl, wt, tr⟩ node ⟨yf, yg, yh⟩ kd xa no [] pl) := Lib.hid (HRT1.out rfl)
      clear HF22 HRT1 HE2
      have how2 := how w2 hB02
      clear how
      have x0 := hG2.cell (j := 0) rfl
      have x1 := hG2.cell (j := 1) rfl
      have x2 := hG2.cell (j := 2) rfl
      have x3 := hG2.cell (j := 3) rfl
      have x4 := hG2.cell (j := 4) rfl
      have x5 := hG2.cell (j := 5) rfl
      have x6 := hG2.cell (j := 6) rfl
      have x7 := hG2.cell (j := 7) rfl
      go_wp2_with (first | (with_reducible refine hold_append ?_) | (with_reducible refine hold_make ?_) | (with_reducible refine hold_copy ?_) | (with_reducible refine hold_store ?_))
      refine how2.mono ?_
      rintro e w3 ⟨A2, c2, rfl, ho3, hB3⟩
      have hG3 := hG2.below hB3
      have hL3 := hL2.below hB3
      have hZ3 := hZ2.below hB3
      have hB03 := hB02.trans (hB3.mono hB02.size)
      have hs3 := hB3.size
      have ho3 := Own.base_le ho3 (show w.heap.size + 3 ≤ w2.heap.size by omega)
      clear how2 hG2 hL2 hZ2 hB02 hB3 x0 x1 x2 x3 x4 x5 x6 x7
      obtain ⟨ab, rfl, hab1, hab2⟩ := own_some ho3 h0
      go_wp2_with (first | (with_reducible refine hold_append ?_) | (with_reducible refine hold_make ?_) | (with_reducible refine hold_copy ?_) | (with_reducible refine hold_store ?_))
      refine unhold (wp_box (v := .agg #[.int .u32 (f : Int), .string (str g), .string (str h), .int .u8 si, .bool com, .slice (some ⟨ab, 0, none⟩) n c2, .int .u32 (wt : Int), .int .u32 (tr : Int)]) (vs := [.int .u32 (f : Int), .string (str g), .string (str h), .int .u8 si, .bool com, .slice (some ⟨ab, 0, none⟩) n c2, .int .u32 (wt : Int), .int .u32 (tr : Int)]) rfl rfl rfl rfl hG3 rfl (by kernel_rfl) (by simp) gl_one #[.int .u32 (f : Int), .string (str g), .string (str h), .int .u8 si, .bool com, .slice (some ⟨ab, 0, none⟩) n c2, .int .u32 (wt : Int), .int .u32 (tr : Int)] (by simp) ?_)
      intro w4 hG4 hg4 hs4
      have hL4 := hL3.grown hg4 (by intro e; injection e with e; omega)
      have hZ4 := hZ3.grown hg4 (by intro e; injection e with e; omega)
      have hB04 := below_box hB03 hg4 (by omega)
      have ho4 := own_box ho3 hg4 (by omega)
      clear hG3 hL3 hZ3 hB03 ho3 hg4
      have hab : com = false → ∀ (L : List Pt) A2 c2 W, RdP W W.heap.size A2 n c2 L → Calls Try.prog 46 #[.agg #[.int .u32 (f : Int), .string (str g), .string (str h), .int .u8 2, .bool com, .slice A2 n c2, .int .u32 (wt : Int), .int .u32 (tr : Int)]] W (EnR n (Gl.ends ⟨⟨f, g, h⟩, 4, false, L, 0, 0⟩) A2 c2 W) := fun hc L A2 c2 W h1 => by
        subst hc
        exact rabort_any ⟨⟨f, g, h⟩, 2, false, L, wt, tr⟩ A2 n c2 W.heap.size W h1 (Nat.le_refl _) hn
      have hen : ∀ (L : List Pt) A2 c2 W, RdP W W.heap.size A2 n c2 L → Calls Try.prog 47 #[.agg #[.int .u32 (f : Int), .string (str g), .string (str h), .int .u8 si, .bool com, .slice A2 n c2, .int .u32 (wt : Int), .int .u32 (tr : Int)]] W (EnR n (Gl.ends ⟨⟨f, g, h⟩, st, com, L, wt, tr⟩) A2 c2 W) := fun L A2 c2 W h1 => by
        rw [HSI.out]
        exact rends_any ⟨⟨f, g, h⟩, st, com, L, wt, tr⟩ A2 n c2 W.heap.size W h1 (Nat.le_refl _) hn
      go_wp2_with (first | (with_reducible refine hold_append ?_) | (with_reducible refine hold_make ?_) | (with_reducible refine hold_copy ?_))
      go_loopw [8] (fun s wr => ∃ (k : Nat) (d : List Pt), k ≤ n ∧ s = .int .i64 k ∧ Hid (d.length = k) ∧ Hid (RS = rtake ⟨⟨f, g, h⟩, st, com, pl, wt, tr⟩ node ⟨yf, yg, yh⟩ kd xa no d (pl.drop k)) ∧ Box wr w.heap.size 28 #[.int .u32 (f : Int), .string (str g), .string (str h), .int .u8 si, .bool com, .slice (some ⟨ab, 0, none⟩) n c2, .int .u32 (wt : Int), .int .u32 (tr : Int)] ∧ Box wr (w.heap.size + 1) 33 #[.int .u8 ki, .int .u32 (yf : Int), .string (str yg), .string (str yh), .int .u8 xi, .int .u16 ni, .slice An nn cn] ∧ Box wr (w.heap.size + 2) 28 #[.int .u32 0, .string ⟨#[]⟩, .string ⟨#[]⟩, .int .u8 0, .bool false, .slice none 0 0, .int .u32 0, .int .u32 0] ∧ OwnP wr (w.heap.size + 3) (some ⟨ab, 0, none⟩) n c2 (d ++ pl.drop k) ∧ Below w.heap.size w wr) (fun s _ => n - (RowKit.intOf s).toNat)
      case atStart => exact ⟨0, [], by omega, rfl, Lib.hid rfl, HRT2, hG4, hL4, hZ4, ho4, hB04⟩
      case round =>
        clear hG4 hL4 hZ4 ho4 hB04 HRT2
        obtain ⟨k, d, hk, rfl, HDK, HRT, hGr, hLr, hZr, hor, hBr⟩ := hrel
        have hHz := hBr.size
        have hZlt := hZr.lt
        have hgl := hor.blk_lt (g := ab) rfl
        have x3 := hGr.cell (j := 3) rfl
        have x5 := hGr.cell (j := 5) rfl
        by_cases hlt : k < n
        · have hkn : (k : Int) < (n : Int) := by omega
          obtain ⟨p, e, hpe, hee⟩ : ∃ p e, pl.drop k = p :: e ∧ pl.drop (k + 1) = e := ⟨_, _, List.drop_eq_getElem_cons (by rw [HLEN.out]; exact hlt), rfl⟩
          rw [hpe] at HRT hor
          have HE := Lib.hid hee
          have HPUT : Hid (∀ q : Pt, (d ++ [q]) ++ pl.drop (k + 1) = d ++ q :: e) := Lib.hid (fun q => by rw [HE.out]; simp)
          clear hpe hee
          have l0 := hLr.cell (j := 0) rfl
          have l1 := hLr.cell (j := 1) rfl
          have l2 := hLr.cell (j := 2) rfl
          have l3 := hLr.cell (j := 3) rfl
          have l4 := hLr.cell (j := 4) rfl
          have l5 := hLr.cell (j := 5) rfl
          obtain ⟨p0, p1, p2, p3, p4⟩ := own_pt hor HDK.out
          have hneq := fun w => xid_neqC p.x ⟨yf, yg, yh⟩ w
          obtain ⟨pn, ⟨xf, xg, xh⟩, ps⟩ := p
          simp only [xdV] at hneq
          simp only at p0 p1 p2 p3 p4
          have hgd := fun x y => run_eqGuard_agg (P := Try.prog) wr .neq 24 x y #[.int .u32 (xf : Int), .string (str xg), .string (str xh)] #[.int .u32 (yf : Int), .string (str yg), .string (str yh)] xid_guard
          by_cases hpn : pn = node
          · have f0 : ((pn : Int) != (node : Int)) = false := by simp; omega
            by_cases hxx : (⟨xf, xg, xh⟩ : Xd) = ⟨yf, yg, yh⟩
            · rw [decide_eq_true hxx] at hneq
              simp only [Bool.not_true] at hneq
              have HM : Hid (decide (pn = node ∧ (⟨xf, xg, xh⟩ : Xd) = ⟨yf, yg, yh⟩) = true) := Lib.hid (decide_eq_true ⟨hpn, hxx⟩)
              have HRM : Hid (RS = if st = 2 ∧ ps = 0 ∧ kd = 17 then (if xa = 0 ∧ no = 0 then ((⟨⟨f, g, h⟩, st, com, d ++ Pt.to 1 (⟨pn, ⟨xf, xg, xh⟩, ps⟩ : Pt) :: e, wt, tr⟩ : Gl), 0) else if xa = 7 then ((⟨⟨f, g, h⟩, st, com, d ++ Pt.to 2 (⟨pn, ⟨xf, xg, xh⟩, ps⟩ : Pt) :: e, wt, tr⟩ : Gl), 0) else if xa ≠ 0 ∨ no = 7 then (Gl.to (⟨⟨f, g, h⟩, st, com, d ++ Pt.to 2 (⟨pn, ⟨xf, xg, xh⟩, ps⟩ : Pt) :: e, wt, tr⟩ : Gl) 4, 0) else ((⟨⟨f, g, h⟩, st, com, d ++ (⟨pn, ⟨xf, xg, xh⟩, ps⟩ : Pt) :: e, wt, tr⟩ : Gl), 0)) else if (st = 3 ∧ ps = 1 ∧ kd = 18) ∨ (st = 4 ∧ ps ≤ 1 ∧ kd = 19) then (if xa = 0 ∧ no = 0 ∨ no = 7 then rtake ⟨⟨f, g, h⟩, st, com, pl, wt, tr⟩ node ⟨yf, yg, yh⟩ kd xa no (d ++ [Pt.to 2 (⟨pn, ⟨xf, xg, xh⟩, ps⟩ : Pt)]) (pl.drop (k + 1)) else if xa = 4 then rtake ⟨⟨f, g, h⟩, st, com, pl, wt, tr⟩ node ⟨yf, yg, yh⟩ kd xa no (d ++ [Pt.to 3 (⟨pn, ⟨xf, xg, xh⟩, ps⟩ : Pt)]) (pl.drop (k + 1)) else if xa = 5 then rtake ⟨⟨f, g, h⟩, st, com, pl, wt, tr⟩ node ⟨yf, yg, yh⟩ kd xa no (d ++ [Pt.to 4 (⟨pn, ⟨xf, xg, xh⟩, ps⟩ : Pt)]) (pl.drop (k + 1)) else rtake ⟨⟨f, g, h⟩, st, com, pl, wt, tr⟩ node ⟨yf, yg, yh⟩ kd xa no (d ++ [(⟨pn, ⟨xf, xg, xh⟩, ps⟩ : Pt)]) (pl.drop (k + 1))) else rtake ⟨⟨f, g, h⟩, st, com, pl, wt, tr⟩ node ⟨yf, yg, yh⟩ kd xa no (d ++ [(⟨pn, ⟨xf, xg, xh⟩, ps⟩ : Pt)]) (pl.drop (k + 1))) := Lib.hid (by
                rw [HE.out, HRT.out, rtake, if_neg (by rw [HM.out]; simp)])
              clear HRT HM hpn hxx
              go_wp2_with (first | (with_reducible refine hold_append ?_) | (with_reducible refine hold_make ?_) | (with_reducible refine hold_copy ?_))
              go_quiet (fail)
              rename_i nq
              have hGd : Box (wr.drewN nq) w.heap.size 28 #[.int .u32 (f : Int), .string (str g), .string (str h), .int .u8 si, .bool com, .slice (some ⟨ab, 0, none⟩) n c2, .int .u32 (wt : Int), .int .u32 (tr : Int)] := hGr
              have hLd : Box (wr.drewN nq) (w.heap.size + 1) 33 #[.int .u8 ki, .int .u32 (yf : Int), .string (str yg), .string (str yh), .int .u8 xi, .int .u16 ni, .slice An nn cn] := hLr
              have hZd : Box (wr.drewN nq) (w.heap.size + 2) 28 #[.int .u32 0, .string ⟨#[]⟩, .string ⟨#[]⟩, .int .u8 0, .bool false, .slice none 0 0, .int .u32 0, .int .u32 0] := hZr
              have hod : OwnP (wr.drewN nq) (w.heap.size + 3) (some ⟨ab, 0, none⟩) n c2 (d ++ (⟨pn, ⟨xf, xg, xh⟩, ps⟩ : Pt) :: e) := Own.drewN hor nq
              have hBd : Below w.heap.size w (wr.drewN nq) := below_drewN hBr nq
              clear hGr hLr hZr hor hBr p0 p1 p2 p3 p4 x5 l0 l1 l2 l3 l4 l5 x3
              generalize wr.drewN nq = wd at *
              have hHz := hBd.size
              have hZlt := hZd.lt
              have hgl := hod.blk_lt (g := ab) rfl
              clear hneq hgd f0
              have x3 := hGd.cell (j := 3) rfl
              have x5 := hGd.cell (j := 5) rfl
              have l0 := hLd.cell (j := 0) rfl
              have l4 := hLd.cell (j := 4) rfl
              have l5 := hLd.cell (j := 5) rfl
              have q4 := (own_pt hod HDK.out).2.2.2.2
              simp only at q4
              obtain rfl := HCS.out
              by_cases cps0 : ps = 0
              · have gcps0 : ((ps : Int) == 0) = true := by simp; omega
                by_cases cki17 : ki = 17
                · subst cki17
                  by_cases cxi0 : xi = 0
                  · subst cxi0
                    by_cases cni0 : ni = 0
                    · subst cni0
                      have HRES : Hid (RS = ((⟨⟨f, g, h⟩, st, com, d ++ Pt.to 1 (⟨pn, ⟨xf, xg, xh⟩, ps⟩ : Pt) :: e, wt, tr⟩ : Gl), 0)) := Lib.hid (HRM.out.trans ((if_pos (by have := HSI.out; have := HKI.out; omega)).trans (if_pos (by have := HXI.out; have := HNI.out; omega))))
                      clear HRM hab hen
                      go_wp2_with (first | (with_reducible refine hold_append ?_) | (with_reducible refine hold_make ?_) | (with_reducible refine hold_copy ?_) | (with_reducible refine hold_store ?_))
                      refine unhold (wp_ptset 1 rfl rfl rfl rfl hod HDK.out rfl ?_)
                      intro w5 ho5 hg5 hs5
                      have hB5 := hBd.grown hg5 hBd.size (fun g'' e => by injection e with e; omega)
                      have hG5 := hGd.grown hg5 (by intro e; injection e with e; omega)
                      have hZ5 := hZd.grown hg5 (by intro e; injection e with e; omega)
                      have hL5 := hLd.grown hg5 (by intro e; injection e with e; omega)
                      clear hGd hLd hZd hBd hod q4 x3 x5 l0 l4 l5
                      have y0 := hG5.cell (j := 0) rfl
                      have y1 := hG5.cell (j := 1) rfl
                      have y2 := hG5.cell (j := 2) rfl
                      have y3 := hG5.cell (j := 3) rfl
                      have y4 := hG5.cell (j := 4) rfl
                      have y5 := hG5.cell (j := 5) rfl
                      have y6 := hG5.cell (j := 6) rfl
                      have y7 := hG5.cell (j := 7) rfl
                      go_wp2_with (first | (with_reducible refine hold_append ?_) | (with_reducible refine hold_make ?_) | (with_reducible refine hold_copy ?_) | (with_reducible refine hold_store ?_))
                      refine unhold (wp_box (v := .agg #[.int .u32 (f : Int), .string (str g), .string (str h), .int .u8 2, .bool com, .slice (some ⟨ab, 0, none⟩) n c2, .int .u32 (wt : Int), .int .u32 (tr : Int)]) (vs := [.int .u32 (f : Int), .string (str g), .string (str h), .int .u8 2, .bool com, .slice (some ⟨ab, 0, none⟩) n c2, .int .u32 (wt : Int), .int .u32 (tr : Int)]) rfl rfl rfl rfl hZ5 rfl (by kernel_rfl) (by simp) gl_one #[.int .u32 (f : Int), .string (str g), .string (str h), .int .u8 2, .bool com, .slice (some ⟨ab, 0, none⟩) n c2, .int .u32 (wt : Int), .int .u32 (tr : Int)] (by simp) ?_)
                      intro w8 hb8 hg8 _
                      have hB08 := below_box hB5 hg8 (by omega)
                      have ho8 := own_box ho5 hg8 (by omega)
                      go_wp2_with (first | (with_reducible refine hold_append ?_) | (with_reducible refine hold_make ?_) | (with_reducible refine hold_copy ?_))
                      refine ret_box_tmp rfl hb8 rfl rfl Try.underlying28 rfl (by kernel_rfl) rfl ?_
                      rw [HRES.out]
                      exact ⟨(some ⟨ab, 0, none⟩), n, c2, by simp only [glV]; rw [← HSI.out]; rfl, Own.base_le ho8 (by omega), hn, hB08⟩
                    · have ecni0 : (ni == 0) = false := by simpa using cni0
                      by_cases cni7 : ni = 7
                      · subst cni7
                        have HRES : Hid (RS = (Gl.ends ⟨⟨f, g, h⟩, 4, false, d ++ Pt.to 2 (⟨pn, ⟨xf, xg, xh⟩, ps⟩ : Pt) :: e, 0, 0⟩, 0)) := Lib.hid (HRM.out.trans ((if_pos (by have := HSI.out; have := HKI.out; omega)).trans ((if_neg (by have := HXI.out; have := HNI.out; omega)).trans ((if_neg (by have := HXI.out; have := HNI.out; omega)).trans (if_pos (by have := HXI.out; have := HNI.out; omega))))))
                        clear cni0 ecni0
                        clear HRM hen
                        have HP : Hid ((Gl.ends ⟨⟨f, g, h⟩, 4, false, d ++ Pt.to 2 ⟨pn, ⟨xf, xg, xh⟩, ps⟩ :: e, 0, 0⟩).parts = d ++ Pt.to 2 ⟨pn, ⟨xf, xg, xh⟩, ps⟩ :: e) := Lib.hid (ends_parts _)
                        go_wp2_with (first | (with_reducible refine hold_append ?_) | (with_reducible refine hold_make ?_) | (with_reducible refine hold_copy ?_) | (with_reducible refine hold_store ?_))
                        refine unhold (wp_ptset 2 rfl rfl rfl rfl hod HDK.out rfl ?_)
                        intro w5 ho5 hg5 hs5
                        have hB5 := hBd.grown hg5 hBd.size (fun g'' e => by injection e with e; omega)
                        have hG5 := hGd.grown hg5 (by intro e; injection e with e; omega)
                        have hZ5 := hZd.grown hg5 (by intro e; injection e with e; omega)
                        have hL5 := hLd.grown hg5 (by intro e; injection e with e; omega)
                        clear hGd hLd hZd hBd hod q4 x3 x5 l0 l4 l5
                        have ht := hab (HCO2.out (by have := HSI.out; omega)) _ (some ⟨ab, 0, none⟩) c2 w5 ho5.rd
                        obtain ⟨E, hE⟩ : ∃ E, E = Gl.ends ⟨⟨f, g, h⟩, 4, false, d ++ Pt.to 2 ⟨pn, ⟨xf, xg, xh⟩, ps⟩ :: e, 0, 0⟩ := ⟨_, rfl⟩
                        rw [← hE] at ht HRES HP
                        unfold EnR at ht
                        clear hab hE
                        have y0 := hG5.cell (j := 0) rfl
                        have y1 := hG5.cell (j := 1) rfl
                        have y2 := hG5.cell (j := 2) rfl
                        have y3 := hG5.cell (j := 3) rfl
                        have y4 := hG5.cell (j := 4) rfl
                        have y5 := hG5.cell (j := 5) rfl
                        have y6 := hG5.cell (j := 6) rfl
                        have y7 := hG5.cell (j := 7) rfl
                        go_wp2_with (first | (with_reducible refine hold_append ?_) | (with_reducible refine hold_make ?_) | (with_reducible refine hold_copy ?_) | (with_reducible refine hold_store ?_))
                        refine (ht).mono ?_
                        rintro e w7 ⟨rfl, hB7⟩
                        have hz7 := (hZ5).below hB7
                        have hB07 := (hB5).trans (hB7.mono (hB5).size)
                        have hlt7 := (hZ5).lt
                        have hsz7 := (hB5).size
                        have ho7 := own_below ho5 hB7
                        rw [← HP.out] at ho7
                        obtain ⟨⟨ef, eg, eh⟩, est, ecom, el, ewt, etr⟩ := E
                        unfold glV
                        simp only at ho7
                        go_wp2_with (first | (with_reducible refine hold_append ?_) | (with_reducible refine hold_make ?_) | (with_reducible refine hold_copy ?_) | (with_reducible refine hold_store ?_))
                        refine unhold (wp_box (v := .agg #[.int .u32 (ef : Int), .string (str eg), .string (str eh), .int .u8 (est : Int), .bool ecom, .slice (some ⟨ab, 0, none⟩) n c2, .int .u32 (ewt : Int), .int .u32 (etr : Int)]) (vs := [.int .u32 (ef : Int), .string (str eg), .string (str eh), .int .u8 (est : Int), .bool ecom, .slice (some ⟨ab, 0, none⟩) n c2, .int .u32 (ewt : Int), .int .u32 (etr : Int)]) rfl rfl rfl rfl hz7 rfl (by kernel_rfl) (by simp) gl_one #[.int .u32 (ef : Int), .string (str eg), .string (str eh), .int .u8 (est : Int), .bool ecom, .slice (some ⟨ab, 0, none⟩) n c2, .int .u32 (ewt : Int), .int .u32 (etr : Int)] (by simp) ?_)
                        intro w8 hb8 hg8 _
                        have hB08 := below_box hB07 hg8 (by omega)
                        have ho8 := own_box ho7 hg8 (by omega)
                        go_wp2_with (first | (with_reducible refine hold_append ?_) | (with_reducible refine hold_make ?_) | (with_reducible refine hold_copy ?_))
                        refine ret_box_tmp rfl hb8 rfl rfl Try.underlying28 rfl (by kernel_rfl) rfl ?_
                        rw [HRES.out]
                        exact ⟨(some ⟨ab, 0, none⟩), n, c2, rfl, Own.base_le ho8 (by omega), hn, hB08⟩
                      · have ecni7 : (ni == 7) = false := by simpa using cni7
                        have HRES : Hid (RS = ((⟨⟨f, g, h⟩, st, com, d ++ (⟨pn, ⟨xf, xg, xh⟩, ps⟩ : Pt) :: e, wt, tr⟩ : Gl), 0)) := Lib.hid (HRM.out.trans ((if_pos (by have := HSI.out; have := HKI.out; omega)).trans ((if_neg (by have := HXI.out; have := HNI.out; omega)).trans ((if_neg (by have := HXI.out; have := HNI.out; omega)).trans (if_neg (by have := HXI.out; have := HNI.out; omega))))))
                        clear cni0 cni7
                        clear HRM hab hen
                        clear x3 x5
                        have y0 := hGd.cell (j := 0) rfl
                        have y1 := hGd.cell (j := 1) rfl
                        have y2 := hGd.cell (j := 2) rfl
                        have y3 := hGd.cell (j := 3) rfl
                        have y4 := hGd.cell (j := 4) rfl
                        have y5 := hGd.cell (j := 5) rfl
                        have y6 := hGd.cell (j := 6) rfl
                        have y7 := hGd.cell (j := 7) rfl
                        go_wp2_with (first | (with_reducible refine hold_append ?_) | (with_reducible refine hold_make ?_) | (with_reducible refine hold_copy ?_) | (with_reducible refine hold_store ?_))
                        refine unhold (wp_box (v := .agg #[.int .u32 (f : Int), .string (str g), .string (str h), .int .u8 2, .bool com, .slice (some ⟨ab, 0, none⟩) n c2, .int .u32 (wt : Int), .int .u32 (tr : Int)]) (vs := [.int .u32 (f : Int), .string (str g), .string (str h), .int .u8 2, .bool com, .slice (some ⟨ab, 0, none⟩) n c2, .int .u32 (wt : Int), .int .u32 (tr : Int)]) rfl rfl rfl rfl hZd rfl (by kernel_rfl) (by simp) gl_one #[.int .u32 (f : Int), .string (str g), .string (str h), .int .u8 2, .bool com, .slice (some ⟨ab, 0, none⟩) n c2, .int .u32 (wt : Int), .int .u32 (tr : Int)] (by simp) ?_)
                        intro w8 hb8 hg8 _
                        have hB08 := below_box hBd hg8 (by omega)
                        have ho8 := own_box hod hg8 (by omega)
                        go_wp2_with (first | (with_reducible refine hold_append ?_) | (with_reducible refine hold_make ?_) | (with_reducible refine hold_copy ?_))
                        refine ret_box_tmp rfl hb8 rfl rfl Try.underlying28 rfl (by kernel_rfl) rfl ?_
                        rw [HRES.out]
                        exact ⟨(some ⟨ab, 0, none⟩), n, c2, by simp only [glV]; rw [← HSI.out]; rfl, Own.base_le ho8 (by omega), hn, hB08⟩
                  · have ecxi0 : (xi == 0) = false := by simpa using cxi0
                    have fcxi0 : (xi != 0) = true := by simpa using cxi0
                    by_cases cxi7 : xi = 7
                    · subst cxi7
                      have HRES : Hid (RS = ((⟨⟨f, g, h⟩, st, com, d ++ Pt.to 2 (⟨pn, ⟨xf, xg, xh⟩, ps⟩ : Pt) :: e, wt, tr⟩ : Gl), 0)) := Lib.hid (HRM.out.trans ((if_pos (by have := HSI.out; have := HKI.out; omega)).trans ((if_neg (by have := HXI.out; have := HNI.out; omega)).trans (if_pos (by have := HXI.out; have := HNI.out; omega)))))
                      clear cxi0 ecxi0 fcxi0
                      clear HRM hab hen
                      go_wp2_with (first | (with_reducible refine hold_append ?_) | (with_reducible refine hold_make ?_) | (with_reducible refine hold_copy ?_) | (with_reducible refine hold_store ?_))
                      refine unhold (wp_ptset 2 rfl rfl rfl rfl hod HDK.out rfl ?_)
                      intro w5 ho5 hg5 hs5
                      have hB5 := hBd.grown hg5 hBd.size (fun g'' e => by injection e with e; omega)
                      have hG5 := hGd.grown hg5 (by intro e; injection e with e; omega)
                      have hZ5 := hZd.grown hg5 (by intro e; injection e with e; omega)
                      have hL5 := hLd.grown hg5 (by intro e; injection e with e; omega)
                      clear hGd hLd hZd hBd hod q4 x3 x5 l0 l4 l5
                      have y0 := hG5.cell (j := 0) rfl
                      have y1 := hG5.cell (j := 1) rfl
                      have y2 := hG5.cell (j := 2) rfl
                      have y3 := hG5.cell (j := 3) rfl
                      have y4 := hG5.cell (j := 4) rfl
                      have y5 := hG5.cell (j := 5) rfl
                      have y6 := hG5.cell (j := 6) rfl
                      have y7 := hG5.cell (j := 7) rfl
                      go_wp2_with (first | (with_reducible refine hold_append ?_) | (with_reducible refine hold_make ?_) | (with_reducible refine hold_copy ?_) | (with_reducible refine hold_store ?_))
                      refine unhold (wp_box (v := .agg #[.int .u32 (f : Int), .string (str g), .string (str h), .int .u8 2, .bool com, .slice (some ⟨ab, 0, none⟩) n c2, .int .u32 (wt : Int), .int .u32 (tr : Int)]) (vs := [.int .u32 (f : Int), .string (str g), .string (str h), .int .u8 2, .bool com, .slice (some ⟨ab, 0, none⟩) n c2, .int .u32 (wt : Int), .int .u32 (tr : Int)]) rfl rfl rfl rfl hZ5 rfl (by kernel_rfl) (by simp) gl_one #[.int .u32 (f : Int), .string (str g), .string (str h), .int .u8 2, .bool com, .slice (some ⟨ab, 0, none⟩) n c2, .int .u32 (wt : Int), .int .u32 (tr : Int)] (by simp) ?_)
                      intro w8 hb8 hg8 _
                      have hB08 := below_box hB5 hg8 (by omega)
                      have ho8 := own_box ho5 hg8 (by omega)
                      go_wp2_with (first | (with_reducible refine hold_append ?_) | (with_reducible refine hold_make ?_) | (with_reducible refine hold_copy ?_))
                      refine ret_box_tmp rfl hb8 rfl rfl Try.underlying28 rfl (by kernel_rfl) rfl ?_
                      rw [HRES.out]
                      exact ⟨(some ⟨ab, 0, none⟩), n, c2, by simp only [glV]; rw [← HSI.out]; rfl, Own.base_le ho8 (by omega), hn, hB08⟩
                    · have ecxi7 : (xi == 7) = false := by simpa using cxi7
                      have HRES : Hid (RS = (Gl.ends ⟨⟨f, g, h⟩, 4, false, d ++ Pt.to 2 (⟨pn, ⟨xf, xg, xh⟩, ps⟩ : Pt) :: e, 0, 0⟩, 0)) := Lib.hid (HRM.out.trans ((if_pos (by have := HSI.out; have := HKI.out; omega)).trans ((if_neg (by have := HXI.out; have := HNI.out; omega)).trans ((if_neg (by have := HXI.out; have := HNI.out; omega)).trans (if_pos (by have := HXI.out; have := HNI.out; omega))))))
                      clear cxi0 cxi7
                      clear HRM hen
                      have HP : Hid ((Gl.ends ⟨⟨f, g, h⟩, 4, false, d ++ Pt.to 2 ⟨pn, ⟨xf, xg, xh⟩, ps⟩ :: e, 0, 0⟩).parts = d ++ Pt.to 2 ⟨pn, ⟨xf, xg, xh⟩, ps⟩ :: e) := Lib.hid (ends_parts _)
                      go_wp2_with (first | (with_reducible refine hold_append ?_) | (with_reducible refine hold_make ?_) | (with_reducible refine hold_copy ?_) | (with_reducible refine hold_store ?_))
                      refine unhold (wp_ptset 2 rfl rfl rfl rfl hod HDK.out rfl ?_)
                      intro w5 ho5 hg5 hs5
                      have hB5 := hBd.grown hg5 hBd.size (fun g'' e => by injection e with e; omega)
                      have hG5 := hGd.grown hg5 (by intro e; injection e with e; omega)
                      have hZ5 := hZd.grown hg5 (by intro e; injection e with e; omega)
                      have hL5 := hLd.grown hg5 (by intro e; injection e with e; omega)
                      clear hGd hLd hZd hBd hod q4 x3 x5 l0 l4 l5
                      have ht := hab (HCO2.out (by have := HSI.out; omega)) _ (some ⟨ab, 0, none⟩) c2 w5 ho5.rd
                      obtain ⟨E, hE⟩ : ∃ E, E = Gl.ends ⟨⟨f, g, h⟩, 4, false, d ++ Pt.to 2 ⟨pn, ⟨xf, xg, xh⟩, ps⟩ :: e, 0, 0⟩ := ⟨_, rfl⟩
                      rw [← hE] at ht HRES HP
                      unfold EnR at ht
                      clear hab hE
                      have y0 := hG5.cell (j := 0) rfl
                      have y1 := hG5.cell (j := 1) rfl
                      have y2 := hG5.cell (j := 2) rfl
                      have y3 := hG5.cell (j := 3) rfl
                      have y4 := hG5.cell (j := 4) rfl
                      have y5 := hG5.cell (j := 5) rfl
                      have y6 := hG5.cell (j := 6) rfl
                      have y7 := hG5.cell (j := 7) rfl
                      go_wp2_with (first | (with_reducible refine hold_append ?_) | (with_reducible refine hold_make ?_) | (with_reducible refine hold_copy ?_) | (with_reducible refine hold_store ?_))
                      refine (ht).mono ?_
                      rintro e w7 ⟨rfl, hB7⟩
                      have hz7 := (hZ5).below hB7
                      have hB07 := (hB5).trans (hB7.mono (hB5).size)
                      have hlt7 := (hZ5).lt
                      have hsz7 := (hB5).size
                      have ho7 := own_below ho5 hB7
                      rw [← HP.out] at ho7
                      obtain ⟨⟨ef, eg, eh⟩, est, ecom, el, ewt, etr⟩ := E
                      unfold glV
                      simp only at ho7
                      go_wp2_with (first | (with_reducible refine hold_append ?_) | (with_reducible refine hold_make ?_) | (with_reducible refine hold_copy ?_) | (with_reducible refine hold_store ?_))
                      refine unhold (wp_box (v := .agg #[.int .u32 (ef : Int), .string (str eg), .string (str eh), .int .u8 (est : Int), .bool ecom, .slice (some ⟨ab, 0, none⟩) n c2, .int .u32 (ewt : Int), .int .u32 (etr : Int)]) (vs := [.int .u32 (ef : Int), .string (str eg), .string (str eh), .int .u8 (est : Int), .bool ecom, .slice (some ⟨ab, 0, none⟩) n c2, .int .u32 (ewt : Int), .int .u32 (etr : Int)]) rfl rfl rfl rfl hz7 rfl (by kernel_rfl) (by simp) gl_one #[.int .u32 (ef : Int), .string (str eg), .string (str eh), .int .u8 (est : Int), .bool ecom, .slice (some ⟨ab, 0, none⟩) n c2, .int .u32 (ewt : Int), .int .u32 (etr : Int)] (by simp) ?_)
                      intro w8 hb8 hg8 _
                      have hB08 := below_box hB07 hg8 (by omega)
                      have ho8 := own_box ho7 hg8 (by omega)
                      go_wp2_with (first | (with_reducible refine hold_append ?_) | (with_reducible refine hold_make ?_) | (with_reducible refine hold_copy ?_))
                      refine ret_box_tmp rfl hb8 rfl rfl Try.underlying28 rfl (by kernel_rfl) rfl ?_
                      rw [HRES.out]
                      exact ⟨(some ⟨ab, 0, none⟩), n, c2, rfl, Own.base_le ho8 (by omega), hn, hB08⟩
                · have ecki17 : (ki == 17) = false := by simpa using cki17
                  have HNX : Hid (RS = rtake ⟨⟨f, g, h⟩, st, com, pl, wt, tr⟩ node ⟨yf, yg, yh⟩ kd xa no (d ++ [(⟨pn, ⟨xf, xg, xh⟩, ps⟩ : Pt)]) (pl.drop (k + 1))) := Lib.hid (HRM.out.trans ((if_neg (by have := HSI.out; have := HKI.out; omega)).trans (if_neg (by have := HSI.out; have := HKI.out; omega))))
                  clear HRM hab hen
                  by_cases cxi0 : xi = 0
                  · subst cxi0
                    go_wp2_with (first | (with_reducible refine hold_append ?_) | (with_reducible refine hold_make ?_) | (with_reducible refine hold_copy ?_))
                    exact ⟨⟨k + 1, d ++ [(⟨pn, ⟨xf, xg, xh⟩, ps⟩ : Pt)], by omega, by go_num, Lib.hid (by rw [List.length_append, HDK.out]; rfl), HNX, hGd, hLd, hZd, by rw [HPUT.out]; exact hod, hBd⟩, by simp [RowKit.intOf]; omega⟩
                  · have ecxi0 : (xi == 0) = false := by simpa using cxi0
                    go_wp2_with (first | (with_reducible refine hold_append ?_) | (with_reducible refine hold_make ?_) | (with_reducible refine hold_copy ?_))
                    exact ⟨⟨k + 1, d ++ [(⟨pn, ⟨xf, xg, xh⟩, ps⟩ : Pt)], by omega, by go_num, Lib.hid (by rw [List.length_append, HDK.out]; rfl), HNX, hGd, hLd, hZd, by rw [HPUT.out]; exact hod, hBd⟩, by simp [RowKit.intOf]; omega⟩
              · have gcps0 : ((ps : Int) == 0) = false := by simp; omega
                have HNX : Hid (RS = rtake ⟨⟨f, g, h⟩, st, com, pl, wt, tr⟩ node ⟨yf, yg, yh⟩ kd xa no (d ++ [(⟨pn, ⟨xf, xg, xh⟩, ps⟩ : Pt)]) (pl.drop (k + 1))) := Lib.hid (HRM.out.trans ((if_neg (by have := HSI.out; have := HKI.out; omega)).trans (if_neg (by have := HSI.out; have := HKI.out; omega))))
                clear HRM hab hen
                by_cases cxi0 : xi = 0
                · subst cxi0
                  go_wp2_with (first | (with_reducible refine hold_append ?_) | (with_reducible refine hold_make ?_) | (with_reducible refine hold_copy ?_))
                  exact ⟨⟨k + 1, d ++ [(⟨pn, ⟨xf, xg, xh⟩, ps⟩ : Pt)], by omega, by go_num, Lib.hid (by rw [List.length_append, HDK.out]; rfl), HNX, hGd, hLd, hZd, by rw [HPUT.out]; exact hod, hBd⟩, by simp [RowKit.intOf]; omega⟩
                · have ecxi0 : (xi == 0) = false := by simpa using cxi0
                  go_wp2_with (first | (with_reducible refine hold_append ?_) | (with_reducible refine hold_make ?_) | (with_reducible refine hold_copy ?_))
                  exact ⟨⟨k + 1, d ++ [(⟨pn, ⟨xf, xg, xh⟩, ps⟩ : Pt)], by omega, by go_num, Lib.hid (by rw [List.length_append, HDK.out]; rfl), HNX, hGd, hLd, hZd, by rw [HPUT.out]; exact hod, hBd⟩, by simp [RowKit.intOf]; omega⟩
            · rw [decide_eq_false hxx] at hneq
              simp only [Bool.not_false] at hneq
              have HNX : Hid (RS = rtake ⟨⟨f, g, h⟩, st, com, pl, wt, tr⟩ node ⟨yf, yg, yh⟩ kd xa no (d ++ [⟨pn, ⟨xf, xg, xh⟩, ps⟩]) (pl.drop (k + 1))) := Lib.hid (by
                rw [HE.out, HRT.out, rtake, if_pos (decide_eq_false (fun e => by first | exact hpn e.1 | exact hxx e.2))])
              clear HRT hab hen
              clear hxx hpn
              go_wp2_with (first | (with_reducible refine hold_append ?_) | (with_reducible refine hold_make ?_) | (with_reducible refine hold_copy ?_))
              go_quiet (fail)
              rename_i nq
              have hGd : Box (wr.drewN nq) w.heap.size 28 #[.int .u32 (f : Int), .string (str g), .string (str h), .int .u8 si, .bool com, .slice (some ⟨ab, 0, none⟩) n c2, .int .u32 (wt : Int), .int .u32 (tr : Int)] := hGr
              have hLd : Box (wr.drewN nq) (w.heap.size + 1) 33 #[.int .u8 ki, .int .u32 (yf : Int), .string (str yg), .string (str yh), .int .u8 xi, .int .u16 ni, .slice An nn cn] := hLr
              have hZd : Box (wr.drewN nq) (w.heap.size + 2) 28 #[.int .u32 0, .string ⟨#[]⟩, .string ⟨#[]⟩, .int .u8 0, .bool false, .slice none 0 0, .int .u32 0, .int .u32 0] := hZr
              have hod : OwnP (wr.drewN nq) (w.heap.size + 3) (some ⟨ab, 0, none⟩) n c2 (d ++ (⟨pn, ⟨xf, xg, xh⟩, ps⟩ : Pt) :: e) := Own.drewN hor nq
              have hBd : Below w.heap.size w (wr.drewN nq) := below_drewN hBr nq
              clear hGr hLr hZr hor hBr p0 p1 p2 p3 p4 x5 l0 l1 l2 l3 l4 l5 x3
              generalize wr.drewN nq = wd at *
              have hHz := hBd.size
              have hZlt := hZd.lt
              have hgl := hod.blk_lt (g := ab) rfl
              go_wp2_with (first | (with_reducible refine hold_append ?_) | (with_reducible refine hold_make ?_) | (with_reducible refine hold_copy ?_))
              exact ⟨⟨k + 1, d ++ [(⟨pn, ⟨xf, xg, xh⟩, ps⟩ : Pt)], by omega, by go_num, Lib.hid (by rw [List.length_append, HDK.out]; rfl), HNX, hGd, hLd, hZd, by rw [HPUT.out]; exact hod, hBd⟩, by simp [RowKit.intOf]; omega⟩
          · have f0 : ((pn : Int) != (node : Int)) = true := by simp; omega
            have HNX : Hid (RS = rtake ⟨⟨f, g, h⟩, st, com, pl, wt, tr⟩ node ⟨yf, yg, yh⟩ kd xa no (d ++ [⟨pn, ⟨xf, xg, xh⟩, ps⟩]) (pl.drop (k + 1))) := Lib.hid (by
              rw [HE.out, HRT.out, rtake, if_pos (decide_eq_false (fun e => by first | exact hpn e.1 | exact hxx e.2))])
            clear HRT hab hen
            clear hpn
            go_wp2_with (first | (with_reducible refine hold_append ?_) | (with_reducible refine hold_make ?_) | (with_reducible refine hold_copy ?_))
            go_quiet (fail)
            rename_i nq
            have hGd : Box (wr.drewN nq) w.heap.size 28 #[.int .u32 (f : Int), .string (str g), .string (str h), .int .u8 si, .bool com, .slice (some ⟨ab, 0, none⟩) n c2, .int .u32 (wt : Int), .int .u32 (tr : Int)] := hGr
            have hLd : Box (wr.drewN nq) (w.heap.size + 1) 33 #[.int .u8 ki, .int .u32 (yf : Int), .string (str yg), .string (str yh), .int .u8 xi, .int .u16 ni, .slice An nn cn] := hLr
            have hZd : Box (wr.drewN nq) (w.heap.size + 2) 28 #[.int .u32 0, .string ⟨#[]⟩, .string ⟨#[]⟩, .int .u8 0, .bool false, .slice none 0 0, .int .u32 0, .int .u32 0] := hZr
            have hod : OwnP (wr.drewN nq) (w.heap.size + 3) (some ⟨ab, 0, none⟩) n c2 (d ++ (⟨pn, ⟨xf, xg, xh⟩, ps⟩ : Pt) :: e) := Own.drewN hor nq
            have hBd : Below w.heap.size w (wr.drewN nq) := below_drewN hBr nq
            clear hGr hLr hZr hor hBr p0 p1 p2 p3 p4 x5 l0 l1 l2 l3 l4 l5 x3
            generalize wr.drewN nq = wd at *
            have hHz := hBd.size
            have hZlt := hZd.lt
            have hgl := hod.blk_lt (g := ab) rfl
            go_wp2_with (first | (with_reducible refine hold_append ?_) | (with_reducible refine hold_make ?_) | (with_reducible refine hold_copy ?_))
            exact ⟨⟨k + 1, d ++ [(⟨pn, ⟨xf, xg, xh⟩, ps⟩ : Pt)], by omega, by go_num, Lib.hid (by rw [List.length_append, HDK.out]; rfl), HNX, hGd, hLd, hZd, by rw [HPUT.out]; exact hod, hBd⟩, by simp [RowKit.intOf]; omega⟩
        · have hkk : n = k := by omega
          subst hkk
          have hdr : pl.drop n = [] := List.drop_eq_nil_of_le (by rw [HLEN.out]; exact Nat.le_refl _)
          rw [hdr] at HRT hor
          rw [List.append_nil] at hor
          clear hdr
          have HRES : Hid (RS = (Gl.ends ⟨⟨f, g, h⟩, st, com, d, wt, tr⟩, 0)) := Lib.hid (by rw [HRT.out, rtake])
          clear HRT
          have HP : Hid ((Gl.ends ⟨⟨f, g, h⟩, st, com, d, wt, tr⟩).parts = d) := Lib.hid (ends_parts _)
          have ht := hen d (some ⟨ab, 0, none⟩) c2 wr hor.rd
          obtain ⟨E, hE⟩ : ∃ E, E = Gl.ends ⟨⟨f, g, h⟩, st, com, d, wt, tr⟩ := ⟨_, rfl⟩
          rw [← hE] at ht HRES HP
          unfold EnR at ht
          clear hab hen hE x3 x5
          have y0 := hGr.cell (j := 0) rfl
          have y1 := hGr.cell (j := 1) rfl
          have y2 := hGr.cell (j := 2) rfl
          have y3 := hGr.cell (j := 3) rfl
          have y4 := hGr.cell (j := 4) rfl
          have y5 := hGr.cell (j := 5) rfl
          have y6 := hGr.cell (j := 6) rfl
          have y7 := hGr.cell (j := 7) rfl
          go_wp2_with (first | (with_reducible refine hold_append ?_) | (with_reducible refine hold_make ?_) | (with_reducible refine hold_copy ?_) | (with_reducible refine hold_store ?_))
          refine (ht).mono ?_
          rintro e w7 ⟨rfl, hB7⟩
          have hz7 := (hZr).below hB7
          have hB07 := (hBr).trans (hB7.mono (hBr).size)
          have hlt7 := (hZr).lt
          have hsz7 := (hBr).size
          have ho7 := own_below hor hB7
          rw [← HP.out] at ho7
          obtain ⟨⟨ef, eg, eh⟩, est, ecom, el, ewt, etr⟩ := E
          unfold glV
          simp only at ho7
          go_wp2_with (first | (with_reducible refine hold_append ?_) | (with_reducible refine hold_make ?_) | (with_reducible refine hold_copy ?_) | (with_reducible refine hold_store ?_))
          refine unhold (wp_box (v := .agg #[.int .u32 (ef : Int), .string (str eg), .string (str eh), .int .u8 (est : Int), .bool ecom, .slice (some ⟨ab, 0, none⟩) n c2, .int .u32 (ewt : Int), .int .u32 (etr : Int)]) (vs := [.int .u32 (ef : Int), .string (str eg), .string (str eh), .int .u8 (est : Int), .bool ecom, .slice (some ⟨ab, 0, none⟩) n c2, .int .u32 (ewt : Int), .int .u32 (etr : Int)]) rfl rfl rfl rfl hz7 rfl (by kernel_rfl) (by simp) gl_one #[.int .u32 (ef : Int), .string (str eg), .string (str eh), .int .u8 (est : Int), .bool ecom, .slice (some ⟨ab, 0, none⟩) n c2, .int .u32 (ewt : Int), .int .u32 (etr : Int)] (by simp) ?_)
          intro w8 hb8 hg8 _
          have hB08 := below_box hB07 hg8 (by omega)
          have ho8 := own_box ho7 hg8 (by omega)
          go_wp2_with (first | (with_reducible refine hold_append ?_) | (with_reducible refine hold_make ?_) | (with_reducible refine hold_copy ?_))
          refine ret_box_tmp rfl hb8 rfl rfl Try.underlying28 rfl (by kernel_rfl) rfl ?_
          rw [HRES.out]
          exact ⟨(some ⟨ab, 0, none⟩), n, c2, rfl, Own.base_le ho8 (by omega), hn, hB08⟩
end Go.PH
end

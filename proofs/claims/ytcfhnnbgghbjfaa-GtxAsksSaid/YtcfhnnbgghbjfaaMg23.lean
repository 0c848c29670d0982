/- Texts laid together: GtRMl, GtRRestore. -/
import Derived.Test.YtcfhnnbgghbjfaaMg18
import Derived.Test.YtcfhnnbgghbjfaaMg21
import Derived.Test.YtcfhnnbgghbjfaaMg22
section
/- The walk of the reference's Letters. -/
set_option linter.all false
set_option linter.unusedSimpArgs false
set_option linter.unusedVariables false
namespace Go.PH
open Go.RowKit Go.Proofs

set_option maxRecDepth 20000 in
set_option maxHeartbeats 4000000 in
theorem rletters_any (G : Gl) (A : Option Addr) (n c : Nat) (B : Nat) (w : World) (hG : G.wf) (hr : RdP w B A n c G.parts) (hB : B ≤ w.heap.size) (hn : n ≤ 1000000000) :
    Calls Try.prog 27 #[.agg (glV G A n c)] w (MailR w G.mails) := by
  obtain ⟨RS, hRS⟩ : ∃ RS, RS = G.mails := ⟨_, rfl⟩
  rw [← hRS]
  have HRS : Hid (RS = if G.ok then mails G.st G.parts else []) := Lib.hid (by rw [hRS]; rfl)
  have hlen := rec_length ptShape hr
  have hck := fun W hW => rgcheck_any G A n c B W hG (hr.below' hW hB) (Nat.le_trans hB hW.size) hn
  have HE : Hid (G.err = if G.ok then 0 else 270) := Lib.hid rfl
  have HLEN := Lib.hid hlen
  have hr0 := fun W (hW : Below w.heap.size w W) => hr.below' hW hB
  clear hRS hG hlen hr
  generalize G.err = er at *
  generalize G.ok = ok at *
  obtain ⟨⟨f, g, h⟩, st, com, pl, wt, tr⟩ := G
  obtain ⟨si, hsi⟩ : ∃ si : Int, si = (st : Int) := ⟨_, rfl⟩
  have HSI := Lib.hid hsi
  simp only at HRS HLEN hr0
  unfold glV at hck ⊢
  simp only at hck ⊢
  rw [← hsi] at hck ⊢
  clear hsi
  have hG0 := Box.new w #[.int .u32 (f : Int), .string (str g), .string (str h), .int .u8 si, .bool com, .slice A n c, .int .u32 (wt : Int), .int .u32 (tr : Int)] 28
  have hB0 := (Below.refl w.heap.size w).alloc (Nat.le_refl _) (.cells #[.int .u32 (f : Int), .string (str g), .string (str h), .int .u8 si, .bool com, .slice A n c, .int .u32 (wt : Int), .int .u32 (tr : Int)] 28)
  obtain ⟨w0, hw0⟩ : ∃ w0, w0 = (w.alloc (.cells #[.int .u32 (f : Int), .string (str g), .string (str h), .int .u8 si, .bool com, .slice A n c, .int .u32 (wt : Int), .int .u32 (tr : Int)] 28)) := ⟨_, rfl⟩
  rw [← hw0] at hG0 hB0
  have hck0 := hck w0 hB0
  clear hck
  have x0 := hG0.cell (j := 0) rfl
  have x1 := hG0.cell (j := 1) rfl
  have x2 := hG0.cell (j := 2) rfl
  have x3 := hG0.cell (j := 3) rfl
  have x4 := hG0.cell (j := 4) rfl
  have x5 := hG0.cell (j := 5) rfl
  have x6 := hG0.cell (j := 6) rfl
  have x7 := hG0.cell (j := 7) rfl
  go_enter Try.func27, Try.ntmps27
  go_upto_region 1 with fail
  rw [← hw0]
  clear hw0
  go_wp2_with (first | (with_reducible refine hold_append ?_) | (with_reducible refine hold_make ?_) | (with_reducible refine hold_copy ?_))
  refine hck0.mono ?_
  rintro e w1 ⟨rfl, hB1⟩
  have hG1 := hG0.below hB1
  have hB01 := hB0.trans (hB1.mono hB0.size)
  clear hck0 hG0 hB0 hB1 x0 x1 x2 x3 x4 x5 x6 x7
  cases ok
  · obtain rfl : er = 270 := by have := HE.out; simpa using this
    have HRES : Hid (RS = []) := Lib.hid (by rw [HRS.out]; simp)
    go_wp2_with (first | (with_reducible refine hold_append ?_) | (with_reducible refine hold_make ?_) | (with_reducible refine hold_copy ?_))
    go_ret
    rw [HRES.out]
    exact ⟨none, 0, 0, rfl, Own.none_ _ _ _ _, hB01⟩
  · obtain rfl : er = 0 := by have := HE.out; simpa using this
    have HRM : Hid (RS = mails st pl) := Lib.hid (by rw [HRS.out]; simp)
    clear HRS HE
    go_wp2_with (first | (with_reducible refine hold_append ?_) | (with_reducible refine hold_make ?_) | (with_reducible refine hold_copy ?_))
    go_loopw [3, 4] (fun out s wr => ∃ (k m2 c3 : Nat) (A3 : Option Addr), k ≤ n ∧ out = .slice A3 m2 c3 ∧ s = .int .i64 k ∧ m2 ≤ k ∧ OwnM wr (w.heap.size + 1) A3 m2 c3 (mails st (pl.take k)) ∧ Box wr w.heap.size 28 #[.int .u32 (f : Int), .string (str g), .string (str h), .int .u8 si, .bool com, .slice A n c, .int .u32 (wt : Int), .int .u32 (tr : Int)] ∧ Below w.heap.size w wr) (fun _ s _ => n - (RowKit.intOf s).toNat)
    case atStart => exact ⟨0, 0, 0, none, by omega, rfl, rfl, by omega, Own.none_ _ _ _ _, hG1, hB01⟩
    case round =>
      clear hG1 hB01
      obtain ⟨k, m2, c3, A3, hk, rfl, rfl, hm2, hor, hGr, hBr⟩ := hrel
      have hHz := hBr.size
      have x5 := hGr.cell (j := 5) rfl
      by_cases hlt : k < n
      · have hkn : (k : Int) < (n : Int) := by omega
        obtain ⟨b, off, rfl, hbB, hkl, hc⟩ := rec_at ptShape (hr0 wr hBr) hlt
        have HTK : Hid (mails st (pl.take (k + 1)) = mails st (pl.take k) ++ mTo (waits st pl[k].st) pl[k].node pl[k].x) := Lib.hid (by rw [List.take_succ_eq_append_getElem hkl, mails_snoc])
        generalize pl[k] = p at *
        obtain ⟨pn, ⟨xf, xg, xh⟩, ps⟩ := p
        simp only at HTK
        have k0 := hc 0 _ rfl
        have k1 := hc 1 _ rfl
        have k2 := hc 2 _ rfl
        have k3 := hc 3 _ rfl
        have k4 := hc 4 _ rfl
        simp only [Nat.add_zero] at k0 k1 k2 k3 k4
        clear hc
        have hPp := Box.new wr #[.int .u8 (pn : Int), .int .u32 (xf : Int), .string (str xg), .string (str xh), .int .u8 (ps : Int)] 45
        have hBp := hBr.alloc hBr.size (.cells #[.int .u8 (pn : Int), .int .u32 (xf : Int), .string (str xg), .string (str xh), .int .u8 (ps : Int)] 45)
        have hGp := hGr.alloc (.cells #[.int .u8 (pn : Int), .int .u32 (xf : Int), .string (str xg), .string (str xh), .int .u8 (ps : Int)] 45)
        have hop := hor.alloc (.cells #[.int .u8 (pn : Int), .int .u32 (xf : Int), .string (str xg), .string (str xh), .int .u8 (ps : Int)] 45)
        go_upto_region 8 with fail
        clear k0 k1 k2 k3 k4 x5 hor hBr hGr
        generalize (wr.alloc (.cells #[.int .u8 (pn : Int), .int .u32 (xf : Int), .string (str xg), .string (str xh), .int .u8 (ps : Int)] 45)) = wp at *
        have x3 := hGp.cell (j := 3) rfl
        have y0 := hPp.cell (j := 0) rfl
        have y1 := hPp.cell (j := 1) rfl
        have y2 := hPp.cell (j := 2) rfl
        have y3 := hPp.cell (j := 3) rfl
        have y4 := hPp.cell (j := 4) rfl
        have hBps := hBp.size
        have hGlt := hGp.lt
        by_cases s2 : si = 2
        · subst s2
          by_cases p0 : ps = 0
          · have f2 : ((ps : Int) == 0) = true := by simp; omega
            have HAP : Hid (mails st (pl.take (k + 1)) = mails st (pl.take k) ++ [(pn, 1, ⟨xf, xg, xh⟩)]) := Lib.hid (by
              have hw : waits st ps = 1 := by unfold waits; have := HSI.out; (repeat' split) <;> omega
              rw [HTK.out, hw]; rfl)
            clear HTK
            go_wp2_with (first | (with_reducible refine hold_append ?_) | (with_reducible refine hold_make ?_) | (with_reducible refine hold_copy ?_) | (with_reducible refine hold_store ?_))
            refine unhold (wp_rec mlShape slM Try.underlying59 rfl rfl rfl rfl rfl ((pn, 1, ⟨xf, xg, xh⟩) : Nat × Nat × Xd) rfl hop (by omega) (by omega) (by omega) ?_)
            intro A4 c4 w4 ho4 hg4 _ _
            rw [← HAP.out] at ho4
            have hnb : ∀ g', blk A3 = some g' → w.heap.size + 1 ≤ g' := fun g' hg' => (Own.blk_lt hop hg').1
            have hB4 := hBp.grown hg4 hBp.size (fun g' hg' => by have := hnb g' hg'; omega)
            have hG4 := hGp.grown hg4 (by intro e; have := hnb _ e.symm; omega)
            clear x3 y0 y1 y2 y3 y4
            go_wp2_with (first | (with_reducible refine hold_append ?_) | (with_reducible refine hold_make ?_) | (with_reducible refine hold_copy ?_))
            exact ⟨⟨k + 1, m2 + 1, c4, A4, by omega, rfl, by go_num, by omega, ho4, hG4, hB4⟩, by simp [RowKit.intOf]; omega⟩
          · have f2 : ((ps : Int) == 0) = false := by simp; omega
            have HAP : Hid (mails st (pl.take (k + 1)) = mails st (pl.take k)) := Lib.hid (by
              have hw : waits st ps = 0 := by unfold waits; have := HSI.out; (repeat' split) <;> omega
              rw [HTK.out, hw]; simp [mTo])
            clear HTK
            rw [← HAP.out] at hop
            go_wp2_with (first | (with_reducible refine hold_append ?_) | (with_reducible refine hold_make ?_) | (with_reducible refine hold_copy ?_))
            exact ⟨⟨k + 1, m2, c3, A3, by omega, rfl, by go_num, by omega, hop, hGp, hBp⟩, by simp [RowKit.intOf]; omega⟩
        · have e2 : (si == 2) = false := by simpa using s2
          by_cases s3 : si = 3
          · subst s3
            clear s2 e2
            by_cases p0 : ps = 1
            · have f2 : ((ps : Int) == 1) = true := by simp; omega
              have HAP : Hid (mails st (pl.take (k + 1)) = mails st (pl.take k) ++ [(pn, 2, ⟨xf, xg, xh⟩)]) := Lib.hid (by
                have hw : waits st ps = 2 := by unfold waits; have := HSI.out; (repeat' split) <;> omega
                rw [HTK.out, hw]; rfl)
              clear HTK
              go_wp2_with (first | (with_reducible refine hold_append ?_) | (with_reducible refine hold_make ?_) | (with_reducible refine hold_copy ?_) | (with_reducible refine hold_store ?_))
              refine unhold (wp_rec mlShape slM Try.underlying59 rfl rfl rfl rfl rfl ((pn, 2, ⟨xf, xg, xh⟩) : Nat × Nat × Xd) rfl hop (by omega) (by omega) (by omega) ?_)
              intro A4 c4 w4 ho4 hg4 _ _
              rw [← HAP.out] at ho4
              have hnb : ∀ g', blk A3 = some g' → w.heap.size + 1 ≤ g' := fun g' hg' => (Own.blk_lt hop hg').1
              have hB4 := hBp.grown hg4 hBp.size (fun g' hg' => by have := hnb g' hg'; omega)
              have hG4 := hGp.grown hg4 (by intro e; have := hnb _ e.symm; omega)
              clear x3 y0 y1 y2 y3 y4
              go_wp2_with (first | (with_reducible refine hold_append ?_) | (with_reducible refine hold_make ?_) | (with_reducible refine hold_copy ?_))
              exact ⟨⟨k + 1, m2 + 1, c4, A4, by omega, rfl, by go_num, by omega, ho4, hG4, hB4⟩, by simp [RowKit.intOf]; omega⟩
            · have f2 : ((ps : Int) == 1) = false := by simp; omega
              have HAP : Hid (mails st (pl.take (k + 1)) = mails st (pl.take k)) := Lib.hid (by
                have hw : waits st ps = 0 := by unfold waits; have := HSI.out; (repeat' split) <;> omega
                rw [HTK.out, hw]; simp [mTo])
              clear HTK
              rw [← HAP.out] at hop
              go_wp2_with (first | (with_reducible refine hold_append ?_) | (with_reducible refine hold_make ?_) | (with_reducible refine hold_copy ?_))
              exact ⟨⟨k + 1, m2, c3, A3, by omega, rfl, by go_num, by omega, hop, hGp, hBp⟩, by simp [RowKit.intOf]; omega⟩
          · have e3 : (si == 3) = false := by simpa using s3
            by_cases s4 : si = 4
            · subst s4
              clear s2 e2 s3 e3
              by_cases p0 : ps ≤ 1
              · have f2 : decide ((ps : Int) ≤ 1) = true := by simp; omega
                have HAP : Hid (mails st (pl.take (k + 1)) = mails st (pl.take k) ++ [(pn, 3, ⟨xf, xg, xh⟩)]) := Lib.hid (by
                  have hw : waits st ps = 3 := by unfold waits; have := HSI.out; (repeat' split) <;> omega
                  rw [HTK.out, hw]; rfl)
                clear HTK
                go_wp2_with (first | (with_reducible refine hold_append ?_) | (with_reducible refine hold_make ?_) | (with_reducible refine hold_copy ?_) | (with_reducible refine hold_store ?_))
                refine unhold (wp_rec mlShape slM Try.underlying59 rfl rfl rfl rfl rfl ((pn, 3, ⟨xf, xg, xh⟩) : Nat × Nat × Xd) rfl hop (by omega) (by omega) (by omega) ?_)
                intro A4 c4 w4 ho4 hg4 _ _
                rw [← HAP.out] at ho4
                have hnb : ∀ g', blk A3 = some g' → w.heap.size + 1 ≤ g' := fun g' hg' => (Own.blk_lt hop hg').1
                have hB4 := hBp.grown hg4 hBp.size (fun g' hg' => by have := hnb g' hg'; omega)
                have hG4 := hGp.grown hg4 (by intro e; have := hnb _ e.symm; omega)
                clear x3 y0 y1 y2 y3 y4
                go_wp2_with (first | (with_reducible refine hold_append ?_) | (with_reducible refine hold_make ?_) | (with_reducible refine hold_copy ?_))
                exact ⟨⟨k + 1, m2 + 1, c4, A4, by omega, rfl, by go_num, by omega, ho4, hG4, hB4⟩, by simp [RowKit.intOf]; omega⟩
              · have f2 : decide ((ps : Int) ≤ 1) = false := by simp; omega
                have HAP : Hid (mails st (pl.take (k + 1)) = mails st (pl.take k)) := Lib.hid (by
                  have hw : waits st ps = 0 := by unfold waits; have := HSI.out; (repeat' split) <;> omega
                  rw [HTK.out, hw]; simp [mTo])
                clear HTK
                rw [← HAP.out] at hop
                go_wp2_with (first | (with_reducible refine hold_append ?_) | (with_reducible refine hold_make ?_) | (with_reducible refine hold_copy ?_))
                exact ⟨⟨k + 1, m2, c3, A3, by omega, rfl, by go_num, by omega, hop, hGp, hBp⟩, by simp [RowKit.intOf]; omega⟩
            · have e4 : (si == 4) = false := by simpa using s4
              have HAP : Hid (mails st (pl.take (k + 1)) = mails st (pl.take k)) := Lib.hid (by
                have hw : waits st ps = 0 := by unfold waits; have := HSI.out; (repeat' split) <;> omega
                rw [HTK.out, hw]; simp [mTo])
              clear HTK
              rw [← HAP.out] at hop
              go_wp2_with (first | (with_reducible refine hold_append ?_) | (with_reducible refine hold_make ?_) | (with_reducible refine hold_copy ?_))
              exact ⟨⟨k + 1, m2, c3, A3, by omega, rfl, by go_num, by omega, hop, hGp, hBp⟩, by simp [RowKit.intOf]; omega⟩
      · have hkk : n = k := by omega
        subst hkk
        have HALL : Hid (mails st (pl.take n) = RS) := Lib.hid (by rw [HRM.out, List.take_of_length_le (by rw [HLEN.out]; exact Nat.le_refl _)])
        rw [HALL.out] at hor
        go_wp2_with (first | (with_reducible refine hold_append ?_) | (with_reducible refine hold_make ?_) | (with_reducible refine hold_copy ?_))
        go_ret
        exact ⟨A3, m2, c3, rfl, Own.base_le hor (by omega), hBr⟩
end Go.PH
end
section
/- The walk of the reference's Restore. -/
set_option linter.all false
set_option linter.unusedSimpArgs false
set_option linter.unusedVariables false
namespace Go.PH
open Go.RowKit Go.Proofs

set_option maxRecDepth 20000 in
set_option maxHeartbeats 2000000 in
theorem rrestore_any (X : Xd) (l : List Pt) (A : Option Addr) (n c : Nat) (B : Nat) (w : World) (hX : X.wf) (hr : RdP w B A n c l) (hB : B ≤ w.heap.size) (hwf : ∀ p ∈ l, p.wf) (hn : n ≤ 1000000000) :
    Calls Try.prog 18 #[.agg (dcV X A n c)] w fun e w' => TurnR w (Gl.restore X l) e w' := by
  have hl := rec_length ptShape hr
  have HL := Lib.hid hl
  obtain ⟨RS, hRS⟩ : ∃ RS, RS = Gl.restore X l := ⟨_, rfl⟩
  rw [← hRS]
  have HRS : Hid (RS = if dcOk X l = false then (gl0, 260) else (⟨X, 3, true, allTo 1 l, 0, 0⟩, 0)) := Lib.hid (by rw [hRS]; rfl)
  have HE : Hid (dcErr X l = if dcOk X l then 0 else 260) := Lib.hid rfl
  have hck := fun W hW => rdcheck_any X A n c l B W hX (hr.below' hW hB) (Nat.le_trans hB hW.size) hwf hn
  have hcp := fun W hW => rcopy_any ⟨X, 3, true, l, 0, 0⟩ A n c B W (hr.below' hW hB) (Nat.le_trans hB hW.size) hn
  clear hRS hr hl hwf
  generalize dcErr X l = er at *
  generalize dcOk X l = ok at *
  obtain ⟨f, g, h⟩ := X
  unfold dcV at *
  unfold glV at hcp
  simp only at hck hcp ⊢
  obtain ⟨hb0, hz0, hB0⟩ := box2_of w #[.int .u32 (f : Int), .string (str g), .string (str h), .slice A n c] #[.int .u32 0, .string ⟨#[]⟩, .string ⟨#[]⟩, .int .u8 0, .bool false, .slice none 0 0, .int .u32 0, .int .u32 0] 49 28
  obtain ⟨w0, hw0⟩ : ∃ w0, w0 = ((w.alloc (.cells #[.int .u32 (f : Int), .string (str g), .string (str h), .slice A n c] 49)).alloc (.cells #[.int .u32 0, .string ⟨#[]⟩, .string ⟨#[]⟩, .int .u8 0, .bool false, .slice none 0 0, .int .u32 0, .int .u32 0] 28)) := ⟨_, rfl⟩
  rw [← hw0] at hb0 hz0 hB0
  have hck0 := hck w0 hB0
  clear hck
  have x0 := hb0.cell (j := 0) rfl
  have x1 := hb0.cell (j := 1) rfl
  have x2 := hb0.cell (j := 2) rfl
  have x3 := hb0.cell (j := 3) rfl
  go_enter Try.func18, Try.ntmps18
  go_upto_region 1 with fail
  rw [← hw0]
  clear hw0
  go_wp2_with (first | (with_reducible refine hold_append ?_) | (with_reducible refine hold_make ?_) | (with_reducible refine hold_copy ?_) | (with_reducible refine hold_store ?_))
  refine hck0.mono ?_
  rintro e w1 ⟨rfl, hB1⟩
  have hb1 := hb0.below hB1
  have hz1 := hz0.below hB1
  have hB01 := hB0.trans (hB1.mono hB0.size)
  clear hck0 hb0 hz0 hB0 hB1 x0 x1 x2 x3
  cases ok
  · obtain rfl : er = 260 := by have := HE.out; simpa using this
    have HRES : Hid (RS = (gl0, 260)) := Lib.hid (by rw [HRS.out]; simp)
    go_wp2_with (first | (with_reducible refine hold_append ?_) | (with_reducible refine hold_make ?_) | (with_reducible refine hold_copy ?_) | (with_reducible refine hold_store ?_))
    refine unhold (wp_box (v := .agg #[.int .u32 0, .string ⟨#[]⟩, .string ⟨#[]⟩, .int .u8 0, .bool false, .slice none 0 0, .int .u32 0, .int .u32 0]) (vs := [.int .u32 0, .string ⟨#[]⟩, .string ⟨#[]⟩, .int .u8 0, .bool false, .slice none 0 0, .int .u32 0, .int .u32 0]) rfl rfl rfl rfl hz1 rfl (by kernel_rfl) (by simp) gl_one #[.int .u32 0, .string ⟨#[]⟩, .string ⟨#[]⟩, .int .u8 0, .bool false, .slice none 0 0, .int .u32 0, .int .u32 0] (by simp) ?_)
    intro w9 hb9 hg9 _
    have hB9 := below_box hB01 hg9 (by omega)
    go_wp2_with (first | (with_reducible refine hold_append ?_) | (with_reducible refine hold_make ?_) | (with_reducible refine hold_copy ?_))
    refine ret_box_tmp rfl hb9 rfl rfl Try.underlying28 rfl (by kernel_rfl) rfl ?_
    rw [HRES.out]
    exact ⟨none, 0, 0, rfl, Own.none_ _ _ _ _, by omega, hB9⟩
  · obtain rfl : er = 0 := by have := HE.out; simpa using this
    have HRES : Hid (RS = (⟨⟨f, g, h⟩, 3, true, allTo 1 l, 0, 0⟩, 0)) := Lib.hid (by rw [HRS.out]; simp)
    have x0 := hb1.cell (j := 0) rfl
    have x1 := hb1.cell (j := 1) rfl
    have x2 := hb1.cell (j := 2) rfl
    have x3 := hb1.cell (j := 3) rfl
    have hc1 := hcp w1 hB01
    clear hcp HRS
    have hzr := hz1.lt
    go_wp2_with (first | (with_reducible refine hold_append ?_) | (with_reducible refine hold_make ?_) | (with_reducible refine hold_copy ?_))
    refine hc1.mono ?_
    rintro e w2 ⟨A2, c2, rfl, ho2, hB2⟩
    have hz2 := hz1.below hB2
    have hB02 := hB01.trans (hB2.mono hB01.size)
    have hsz2 := hB01.size
    have hblt : ∀ g, blk A2 = some g → w.heap.size + 1 < g ∧ g < w2.heap.size := fun g hg => by
      have := ho2.blk_lt hg
      omega
    have hC := Box.new w2 #[.int .u32 (f : Int), .string (str g), .string (str h), .int .u8 3, .bool true, .slice A2 n c2, .int .u32 0, .int .u32 0] 28
    have hBC := hB02.alloc hB02.size (.cells #[.int .u32 (f : Int), .string (str g), .string (str h), .int .u8 3, .bool true, .slice A2 n c2, .int .u32 0, .int .u32 0] 28)
    have hzC := hz2.alloc (.cells #[.int .u32 (f : Int), .string (str g), .string (str h), .int .u8 3, .bool true, .slice A2 n c2, .int .u32 0, .int .u32 0] 28)
    have hoC : OwnP (w2.alloc (.cells #[.int .u32 (f : Int), .string (str g), .string (str h), .int .u8 3, .bool true, .slice A2 n c2, .int .u32 0, .int .u32 0] 28)) w1.heap.size A2 n c2 l := ho2.alloc _
    have hlow : w.heap.size + 1 < w2.heap.size := hz2.lt
    clear hc1 x0 x1 x2 x3 hb1 hz1 hz2 ho2
    go_wp2_with (first | (with_reducible refine hold_append ?_) | (with_reducible refine hold_make ?_) | (with_reducible refine hold_copy ?_))
    generalize hbc : w2.heap.size = bc at *
    generalize (w2.alloc (.cells #[.int .u32 (f : Int), .string (str g), .string (str h), .int .u8 3, .bool true, .slice A2 n c2, .int .u32 0, .int .u32 0] 28)) = wq at *
    clear hbc hB2 hB02
    go_loopw [5] (fun s wr => ∃ (k : Nat) (T : List Pt), k ≤ n ∧ s = .int .i64 k ∧ Hid (T.take k = (allTo 1 l).take k) ∧ Hid (T.drop k = l.drop k) ∧ OwnP wr w1.heap.size A2 n c2 T ∧ Box wr bc 28 #[.int .u32 (f : Int), .string (str g), .string (str h), .int .u8 3, .bool true, .slice A2 n c2, .int .u32 0, .int .u32 0] ∧ Box wr (w.heap.size + 1) 28 #[.int .u32 0, .string ⟨#[]⟩, .string ⟨#[]⟩, .int .u8 0, .bool false, .slice none 0 0, .int .u32 0, .int .u32 0] ∧ Below w.heap.size w wr) (fun s _ => n - (RowKit.intOf s).toNat)
    case atStart => exact ⟨0, l, by omega, rfl, Lib.hid (by simp), Lib.hid rfl, hoC, hC, hzC, hBC⟩
    case round =>
      clear hoC hC hzC hBC
      obtain ⟨k, T, hk, rfl, H1, H2, ho, hC, hz, hBr⟩ := hrel
      have hTl := own_len ptShape ho
      have HT := Lib.hid hTl
      clear hTl
      have y5 := hC.cell (j := 5) rfl
      by_cases hlt : k < n
      · have hkn : (k : Int) < (n : Int) := by omega
        obtain ⟨g', rfl, hbg, hgs⟩ := own_some ho (by omega)
        have hgb := hblt g' rfl
        have hkT : k < T.length := by rw [HT.out]; exact hlt
        have hkl : k < l.length := by rw [HL.out]; exact hlt
        obtain ⟨s1, s2, s3⟩ := allTo_step H1.out H2.out hkl hkT
        have HS1 := Lib.hid s1
        have HS2' := Lib.hid s2
        have HF : Hid (ptC (Pt.to 1 l[k]) = (ptC T[k]).take 4 ++ [.int .u8 1] ++ (ptC T[k]).drop (4 + [Value.int .u8 1].length)) := Lib.hid (by rw [s3]; simp [ptC, Pt.to])
        clear s1 s2 s3
        go_wp2_with (first | (with_reducible refine hold_append ?_) | (with_reducible refine hold_make ?_) | (with_reducible refine hold_copy ?_) | (with_reducible refine hold_store ?_))
        refine unhold (wp_recset ptShape rfl rfl rfl rfl ho (k := k) (i := 4) (vs := [.int .u8 1]) hlt hkT (Pt.to 1 l[k]) rfl (by kernel_rfl) HF.out (by simp) (by omega) ?_)
        intro w5 ho5 hg5 _
        have hB5 : Below w.heap.size w w5 := hBr.grown hg5 hBr.size (fun g'' e => by injection e with e; omega)
        have hC5 := hC.grown hg5 (by intro e; injection e with e; omega)
        have hz5 := hz.grown hg5 (by intro e; injection e with e; omega)
        go_wp2_with (first | (with_reducible refine hold_append ?_) | (with_reducible refine hold_make ?_) | (with_reducible refine hold_copy ?_))
        exact ⟨⟨k + 1, _, by omega, by go_num, HS1, HS2', ho5, hC5, hz5, hB5⟩, by simp [RowKit.intOf]; omega⟩
      · have hkn : n = k := by omega
        subst hkn
        have hTe : T = allTo 1 l := by
          have h1 := H1.out
          rwa [← HT.out, List.take_length, HT.out, ← HL.out, List.take_of_length_le (by simp [allTo])] at h1
        subst hTe
        have y0 := hC.cell (j := 0) rfl
        have y1 := hC.cell (j := 1) rfl
        have y2 := hC.cell (j := 2) rfl
        have y3 := hC.cell (j := 3) rfl
        have y4 := hC.cell (j := 4) rfl
        have y5 := hC.cell (j := 5) rfl
        have y6 := hC.cell (j := 6) rfl
        have y7 := hC.cell (j := 7) rfl
        go_wp2_with (first | (with_reducible refine hold_append ?_) | (with_reducible refine hold_make ?_) | (with_reducible refine hold_copy ?_) | (with_reducible refine hold_store ?_))
        refine unhold (wp_box (v := .agg #[.int .u32 (f : Int), .string (str g), .string (str h), .int .u8 3, .bool true, .slice A2 n c2, .int .u32 0, .int .u32 0]) (vs := [.int .u32 (f : Int), .string (str g), .string (str h), .int .u8 3, .bool true, .slice A2 n c2, .int .u32 0, .int .u32 0]) rfl rfl rfl rfl hz rfl (by kernel_rfl) (by simp) gl_one #[.int .u32 (f : Int), .string (str g), .string (str h), .int .u8 3, .bool true, .slice A2 n c2, .int .u32 0, .int .u32 0] (by simp) ?_)
        intro w8 hb8 hg8 _
        have hB08 := below_box hBr hg8 (by omega)
        have ho8 := own_stays ho hg8 (fun k hk e => by injection e with e; have := (hblt k hk).1; omega)
        go_wp2_with (first | (with_reducible refine hold_append ?_) | (with_reducible refine hold_make ?_) | (with_reducible refine hold_copy ?_))
        refine ret_box_tmp rfl hb8 rfl rfl Try.underlying28 rfl (by kernel_rfl) rfl ?_
        rw [HRES.out]
        exact ⟨A2, n, c2, rfl, Own.base_le ho8 hsz2, hn, hB08⟩
end Go.PH
end

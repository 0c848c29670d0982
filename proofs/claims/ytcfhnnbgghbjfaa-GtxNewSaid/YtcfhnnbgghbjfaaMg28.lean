/- Texts laid together: GtRNew. -/
import Derived.Test.YtcfhnnbgghbjfaaMg25
section
/- The walk of the reference's New. -/
set_option linter.all false
set_option linter.unusedSimpArgs false
set_option linter.unusedVariables false
namespace Go.PH
open Go.RowKit Go.Proofs

set_option maxRecDepth 20000 in
set_option maxHeartbeats 2000000 in
theorem rnew_any (x : Xd) (An : Option Addr) (n cn : Nat) (nl : List UInt8) (B : Nat) (w : World) (hx : x.wf) (hr : RdB w B An n cn nl) (hB : B ≤ w.heap.size) (hn : n ≤ 1000000) :
    Calls Try.prog 16 #[.agg (xdV x), .slice An n cn] w fun e w' => TurnR w (Gl.new x (nl.map UInt8.toNat)) e w' := by
  have hl := RdB.length hr
  have HL := Lib.hid hl
  have hr0 := fun W (h : Below w.heap.size w W) => Rd.below' hr h hB
  clear hr hl
  obtain ⟨L, hL⟩ : ∃ L, L = nl.map UInt8.toNat := ⟨_, rfl⟩
  obtain ⟨RS, hRS⟩ : ∃ RS, RS = Gl.new x L := ⟨_, rfl⟩
  rw [← hL, ← hRS]
  have hLn : L.length = n := by rw [hL, List.length_map, HL.out]
  have HLN := Lib.hid hLn
  have HRS : Hid (RS = if x.ok = false ∨ x.bran ≠ [] then (gl0, 270) else if ¬ (1 ≤ n ∧ n ≤ 8) then (gl0, 2) else if nodesOk 0 L = false then (gl0, 2) else (newGl x L, 0)) := Lib.hid (by rw [hRS, new_ref, newRef, hLn])
  have HE : Hid (x.err = if x.ok then 0 else 40) := Lib.hid rfl
  have hck := fun W => rcheck_any x W hx
  have HLL := Lib.hid hL
  clear hRS hL hLn
  generalize x.err = er at *
  generalize hok : x.ok = ok at *
  obtain ⟨f, g, h⟩ := x
  simp only [xdV] at hck ⊢
  obtain ⟨hb0, hz0, hB0⟩ := box2_of w #[.int .u32 (f : Int), .string (str g), .string (str h)] #[.int .u32 0, .string ⟨#[]⟩, .string ⟨#[]⟩, .int .u8 0, .bool false, .slice none 0 0, .int .u32 0, .int .u32 0] 24 28
  obtain ⟨w0, hw0⟩ : ∃ w0, w0 = ((w.alloc (.cells #[.int .u32 (f : Int), .string (str g), .string (str h)] 24)).alloc (.cells #[.int .u32 0, .string ⟨#[]⟩, .string ⟨#[]⟩, .int .u8 0, .bool false, .slice none 0 0, .int .u32 0, .int .u32 0] 28)) := ⟨_, rfl⟩
  rw [← hw0] at hb0 hz0 hB0
  have hck0 := hck w0
  clear hck
  have x0 := hb0.cell (j := 0) rfl
  have x1 := hb0.cell (j := 1) rfl
  have x2 := hb0.cell (j := 2) rfl
  by_cases hh : h = []
  · subst hh
    have hemp : (str ([] : List UInt8)).toList.isEmpty = true := by rw [str_toList]; rfl
    go_enter Try.func16, Try.ntmps16
    go_upto_region 1 with fail
    rw [← hw0]
    clear hw0
    go_wp2_with (first | (with_reducible refine hold_append ?_) | (with_reducible refine hold_make ?_) | (with_reducible refine hold_copy ?_) | (with_reducible refine hold_store ?_))
    refine hck0.mono ?_
    rintro e w1 ⟨rfl, hB1⟩
    have hb1 := hb0.below hB1
    have hz1 := hz0.below hB1
    have hB01 := hB0.trans (hB1.mono hB0.size)
    clear hck0 hb0 hz0 hB0 hB1 x0 x1 x2
    have x0 := hb1.cell (j := 0) rfl
    have x1 := hb1.cell (j := 1) rfl
    have x2 := hb1.cell (j := 2) rfl
    cases ok
    · obtain rfl : er = 40 := by have := HE.out; simpa using this
      have HRES : Hid (RS = (gl0, 270)) := Lib.hid (by rw [HRS.out]; simp)
      clear HRS HE hok
      go_wp2_with (first | (with_reducible refine hold_append ?_) | (with_reducible refine hold_make ?_) | (with_reducible refine hold_copy ?_) | (with_reducible refine hold_store ?_))
      refine unhold (wp_box (v := .agg #[.int .u32 0, .string ⟨#[]⟩, .string ⟨#[]⟩, .int .u8 0, .bool false, .slice none 0 0, .int .u32 0, .int .u32 0]) (vs := [.int .u32 0, .string ⟨#[]⟩, .string ⟨#[]⟩, .int .u8 0, .bool false, .slice none 0 0, .int .u32 0, .int .u32 0]) rfl rfl rfl rfl hz1 rfl (by kernel_rfl) (by simp) gl_one #[.int .u32 0, .string ⟨#[]⟩, .string ⟨#[]⟩, .int .u8 0, .bool false, .slice none 0 0, .int .u32 0, .int .u32 0] (by simp) ?_)
      intro w9 hb9 hg9 _
      have hB9 := below_box hB01 hg9 (by omega)
      go_wp2_with (first | (with_reducible refine hold_append ?_) | (with_reducible refine hold_make ?_) | (with_reducible refine hold_copy ?_))
      refine ret_box_tmp rfl hb9 rfl rfl Try.underlying28 rfl (by kernel_rfl) rfl ?_
      rw [HRES.out]
      exact ⟨none, 0, 0, rfl, Own.none_ _ _ _ _, by omega, hB9⟩
    · obtain rfl : er = 0 := by have := HE.out; simpa using this
      have HRS2 : Hid (RS = if ¬ (1 ≤ n ∧ n ≤ 8) then (gl0, 2) else if nodesOk 0 L = false then (gl0, 2) else (newGl ⟨f, g, []⟩ L, 0)) := Lib.hid (by rw [HRS.out]; simp)
      clear HRS HE hok
      by_cases c1 : n < 1
      · have d1 : (n : Int) < 1 := by omega
        have HRES : Hid (RS = (gl0, 2)) := Lib.hid (by rw [HRS2.out, if_pos (by omega)])
        go_wp2_with (first | (with_reducible refine hold_append ?_) | (with_reducible refine hold_make ?_) | (with_reducible refine hold_copy ?_) | (with_reducible refine hold_store ?_))
        refine unhold (wp_box (v := .agg #[.int .u32 0, .string ⟨#[]⟩, .string ⟨#[]⟩, .int .u8 0, .bool false, .slice none 0 0, .int .u32 0, .int .u32 0]) (vs := [.int .u32 0, .string ⟨#[]⟩, .string ⟨#[]⟩, .int .u8 0, .bool false, .slice none 0 0, .int .u32 0, .int .u32 0]) rfl rfl rfl rfl hz1 rfl (by kernel_rfl) (by simp) gl_one #[.int .u32 0, .string ⟨#[]⟩, .string ⟨#[]⟩, .int .u8 0, .bool false, .slice none 0 0, .int .u32 0, .int .u32 0] (by simp) ?_)
        intro w9 hb9 hg9 _
        have hB9 := below_box hB01 hg9 (by omega)
        go_wp2_with (first | (with_reducible refine hold_append ?_) | (with_reducible refine hold_make ?_) | (with_reducible refine hold_copy ?_))
        refine ret_box_tmp rfl hb9 rfl rfl Try.underlying28 rfl (by kernel_rfl) rfl ?_
        rw [HRES.out]
        exact ⟨none, 0, 0, rfl, Own.none_ _ _ _ _, by omega, hB9⟩
      · have d1 : decide ((n : Int) < 1) = false := by simp; omega
        by_cases c2 : 8 < n
        · have d2 : (8 : Int) < (n : Int) := by omega
          have HRES : Hid (RS = (gl0, 2)) := Lib.hid (by rw [HRS2.out, if_pos (by omega)])
          go_wp2_with (first | (with_reducible refine hold_append ?_) | (with_reducible refine hold_make ?_) | (with_reducible refine hold_copy ?_) | (with_reducible refine hold_store ?_))
          refine unhold (wp_box (v := .agg #[.int .u32 0, .string ⟨#[]⟩, .string ⟨#[]⟩, .int .u8 0, .bool false, .slice none 0 0, .int .u32 0, .int .u32 0]) (vs := [.int .u32 0, .string ⟨#[]⟩, .string ⟨#[]⟩, .int .u8 0, .bool false, .slice none 0 0, .int .u32 0, .int .u32 0]) rfl rfl rfl rfl hz1 rfl (by kernel_rfl) (by simp) gl_one #[.int .u32 0, .string ⟨#[]⟩, .string ⟨#[]⟩, .int .u8 0, .bool false, .slice none 0 0, .int .u32 0, .int .u32 0] (by simp) ?_)
          intro w9 hb9 hg9 _
          have hB9 := below_box hB01 hg9 (by omega)
          go_wp2_with (first | (with_reducible refine hold_append ?_) | (with_reducible refine hold_make ?_) | (with_reducible refine hold_copy ?_))
          refine ret_box_tmp rfl hb9 rfl rfl Try.underlying28 rfl (by kernel_rfl) rfl ?_
          rw [HRES.out]
          exact ⟨none, 0, 0, rfl, Own.none_ _ _ _ _, by omega, hB9⟩
        · have d2 : ¬ (8 : Int) < (n : Int) := by omega
          have HRS3 : Hid (RS = if nodesOk 0 L = false then (gl0, 2) else (newGl ⟨f, g, []⟩ L, 0)) := Lib.hid (by rw [HRS2.out, if_neg (by omega)])
          clear HRS2
          have hzr := hz1.lt
          have hC := Box.new w1 #[.int .u32 (f : Int), .string (str g), .string (str []), .int .u8 1, .bool false, .slice none 0 0, .int .u32 0, .int .u32 0] 28
          have hBC := hB01.alloc hB01.size (.cells #[.int .u32 (f : Int), .string (str g), .string (str []), .int .u8 1, .bool false, .slice none 0 0, .int .u32 0, .int .u32 0] 28)
          have hbC := hb1.alloc (.cells #[.int .u32 (f : Int), .string (str g), .string (str []), .int .u8 1, .bool false, .slice none 0 0, .int .u32 0, .int .u32 0] 28)
          have hzC := hz1.alloc (.cells #[.int .u32 (f : Int), .string (str g), .string (str []), .int .u8 1, .bool false, .slice none 0 0, .int .u32 0, .int .u32 0] 28)
          have hsz1 : (w1.alloc (.cells #[.int .u32 (f : Int), .string (str g), .string (str []), .int .u8 1, .bool false, .slice none 0 0, .int .u32 0, .int .u32 0] 28)).heap.size = w1.heap.size + 1 := by simp
          go_upto_region 7 with fail
          generalize hbc : w1.heap.size = bc at *
          generalize (w1.alloc (.cells #[.int .u32 (f : Int), .string (str g), .string (str []), .int .u8 1, .bool false, .slice none 0 0, .int .u32 0, .int .u32 0] 28)) = wq at *
          have hB0q : w.heap.size ≤ bc := by omega
          clear x0 x1 x2 hB01 hz1 hb1
          go_loopw [7] (fun s wr => ∃ (k c2 : Nat) (A2 : Option Addr), k ≤ n ∧ s = .int .i64 k ∧ OwnP wr (bc + 1) A2 k c2 (newParts ⟨f, g, []⟩ (L.take k)) ∧ Box wr bc 28 #[.int .u32 (f : Int), .string (str g), .string (str []), .int .u8 1, .bool false, .slice A2 k c2, .int .u32 0, .int .u32 0] ∧ Box wr w.heap.size 24 #[.int .u32 (f : Int), .string (str g), .string (str [])] ∧ Box wr (w.heap.size + 1) 28 #[.int .u32 0, .string ⟨#[]⟩, .string ⟨#[]⟩, .int .u8 0, .bool false, .slice none 0 0, .int .u32 0, .int .u32 0] ∧ Hid (nodesOk 0 (L.take k) = true) ∧ Below w.heap.size w wr) (fun s _ => n - (RowKit.intOf s).toNat)
          case atStart => exact ⟨0, 0, none, by omega, rfl, Own.none_ _ _ _ _, hC, hbC, hzC, Lib.hid rfl, hBC⟩
          case round =>
            clear hC hbC hzC hBC
            obtain ⟨k, c2, A2, hk, rfl, ho, hC, hX, hZ, HOK, hBr⟩ := hrel
            have hzz := hBr.size
            have hCl := hC.lt
            by_cases hlt : k < n
            · have hkn : (k : Int) < (n : Int) := by omega
              obtain ⟨b, off, rfl, hbB, hkl, hc⟩ := RdB.at_k (hr0 wr hBr) hlt
              have hk2 : k < L.length := by rw [HLN.out]; exact hlt
              have hLk : L[k] = nl[k].toNat := by simp only [HLL.out, List.getElem_map]
              have HP : Hid (newParts ⟨f, g, []⟩ (L.take (k + 1)) = newParts ⟨f, g, []⟩ (L.take k) ++ [⟨nl[k].toNat, ⟨f, g, dig1 nl[k].toNat⟩, 0⟩]) := Lib.hid (by
                rw [List.take_succ_eq_append_getElem hk2, newParts_snoc, hLk])
              have HSTEP : Hid (nodesOk 0 (L.take (k + 1)) = (decide (1 ≤ nl[k].toNat) && decide (nl[k].toNat ≤ 8) && decide (k = 0 ∨ ∃ q, L[k - 1]? = some q ∧ q < nl[k].toNat))) := Lib.hid (by rw [nodesOk_step hk2 HOK.out, hLk])
              have HBAD : Hid (nodesOk 0 (L.take (k + 1)) = false → RS = (gl0, 2)) := Lib.hid (fun h => by rw [HRS3.out, if_pos (nodesOk_bad hk2 h)])
              have hprev : ∀ q, L[k - 1]? = some q → 0 < k → wr.cell? ⟨b, off + (k - 1), none⟩ = some (.int .u8 (q : Int)) := fun q hq h0 => by
                obtain ⟨b', off', e, _, hkl', hc'⟩ := RdB.at_k (hr0 wr hBr) (show k - 1 < n by omega)
                injection e with e; injection e with e1 e2; subst e1 e2
                rw [hc']
                rw [HLL.out, List.getElem?_map, List.getElem?_eq_getElem hkl'] at hq
                injection hq with hq
                rw [← hq]
              have hex : 0 < k → ∃ q, L[k - 1]? = some q := fun h => ⟨_, List.getElem?_eq_getElem (by omega)⟩
              have hy255 : nl[k].toNat < 256 := nl[k].toNat_lt
              clear hLk HOK
              generalize nl[k].toNat = m at *
              have x0 := hX.cell (j := 0) rfl
              have x1 := hX.cell (j := 1) rfl
              have x2 := hX.cell (j := 2) rfl
              by_cases e1 : m < 1
              · have f1 : (m : Int) < 1 := by omega
                have HRES : Hid (RS = (gl0, 2)) := Lib.hid (HBAD.out (by rw [HSTEP.out, decide_eq_false (by omega)]; rfl))
                clear HSTEP HBAD hprev hex
                go_upto_region 9 with fail
                go_quiet (fail)
                go_wp2_with (first | (with_reducible refine hold_append ?_) | (with_reducible refine hold_make ?_) | (with_reducible refine hold_copy ?_) | (with_reducible refine hold_store ?_))
                refine unhold (wp_box (v := .agg #[.int .u32 0, .string ⟨#[]⟩, .string ⟨#[]⟩, .int .u8 0, .bool false, .slice none 0 0, .int .u32 0, .int .u32 0]) (vs := [.int .u32 0, .string ⟨#[]⟩, .string ⟨#[]⟩, .int .u8 0, .bool false, .slice none 0 0, .int .u32 0, .int .u32 0]) rfl rfl rfl rfl (show Box _ _ _ _ from hZ) rfl (by kernel_rfl) (by simp) gl_one #[.int .u32 0, .string ⟨#[]⟩, .string ⟨#[]⟩, .int .u8 0, .bool false, .slice none 0 0, .int .u32 0, .int .u32 0] (by simp) ?_)
                intro w9 hb9 hg9 _
                have hB9 := below_box (below_drewN hBr _) hg9 (by omega)
                go_wp2_with (first | (with_reducible refine hold_append ?_) | (with_reducible refine hold_make ?_) | (with_reducible refine hold_copy ?_))
                refine ret_box_tmp rfl hb9 rfl rfl Try.underlying28 rfl (by kernel_rfl) rfl ?_
                rw [HRES.out]
                exact ⟨none, 0, 0, rfl, Own.none_ _ _ _ _, by omega, hB9⟩
              · have f1 : decide ((m : Int) < 1) = false := by simp; omega
                by_cases e2 : 8 < m
                · have f2 : (8 : Int) < (m : Int) := by omega
                  have HRES : Hid (RS = (gl0, 2)) := Lib.hid (HBAD.out (by rw [HSTEP.out, decide_eq_true (show 1 ≤ m by omega), decide_eq_false (show ¬ m ≤ 8 by omega)]; rfl))
                  clear HSTEP HBAD hprev hex
                  go_upto_region 9 with fail
                  go_quiet (fail)
                  go_wp2_with (first | (with_reducible refine hold_append ?_) | (with_reducible refine hold_make ?_) | (with_reducible refine hold_copy ?_) | (with_reducible refine hold_store ?_))
                  refine unhold (wp_box (v := .agg #[.int .u32 0, .string ⟨#[]⟩, .string ⟨#[]⟩, .int .u8 0, .bool false, .slice none 0 0, .int .u32 0, .int .u32 0]) (vs := [.int .u32 0, .string ⟨#[]⟩, .string ⟨#[]⟩, .int .u8 0, .bool false, .slice none 0 0, .int .u32 0, .int .u32 0]) rfl rfl rfl rfl (show Box _ _ _ _ from hZ) rfl (by kernel_rfl) (by simp) gl_one #[.int .u32 0, .string ⟨#[]⟩, .string ⟨#[]⟩, .int .u8 0, .bool false, .slice none 0 0, .int .u32 0, .int .u32 0] (by simp) ?_)
                  intro w9 hb9 hg9 _
                  have hB9 := below_box (below_drewN hBr _) hg9 (by omega)
                  go_wp2_with (first | (with_reducible refine hold_append ?_) | (with_reducible refine hold_make ?_) | (with_reducible refine hold_copy ?_))
                  refine ret_box_tmp rfl hb9 rfl rfl Try.underlying28 rfl (by kernel_rfl) rfl ?_
                  rw [HRES.out]
                  exact ⟨none, 0, 0, rfl, Own.none_ _ _ _ _, by omega, hB9⟩
                · have f2 : decide ((8 : Int) < (m : Int)) = false := by simp; omega
                  by_cases e3 : k = 0
                  · have HST : Hid (nodesOk 0 (L.take (k + 1)) = true) := Lib.hid (by rw [HSTEP.out, decide_eq_true (show 1 ≤ m by omega), decide_eq_true (show m ≤ 8 by omega), decide_eq_true (Or.inl e3)]; rfl)
                    have e0 : decide ((0 : Int) < (k : Int)) = false := by simp; omega
                    have e0' : decide (0 < k) = false := by simp; omega
                    clear HSTEP HBAD hprev hex e3
                    go_upto_region 9 with fail
                    have hdig := fun W => digits_any m W (by omega)
                    rw [dig1_digB (show m ≤ 8 by omega)] at hdig
                    have hbw : b < w.heap.size := Nat.lt_of_lt_of_le hbB hB
                    have hcw : w.cell? ⟨b, off + k, none⟩ = some (.int .u8 (m : Int)) := (hBr.cell (p := ⟨b, off + k, none⟩) hbw).symm.trans hc
                    have hkc : ∀ W, Below w.heap.size w W → W.cell? ⟨b, off + k, none⟩ = some (.int .u8 (m : Int)) := fun W hW => (hW.cell (p := ⟨b, off + k, none⟩) hbw).trans hcw
                    go_quiet (fail)
                    rename_i nq
                    have hXd : Box (wr.drewN nq) w.heap.size 24 #[.int .u32 (f : Int), .string (str g), .string (str [])] := hX
                    have hCd : Box (wr.drewN nq) bc 28 #[.int .u32 (f : Int), .string (str g), .string (str []), .int .u8 1, .bool false, .slice A2 k c2, .int .u32 0, .int .u32 0] := hC
                    have hZd : Box (wr.drewN nq) (w.heap.size + 1) 28 #[.int .u32 0, .string ⟨#[]⟩, .string ⟨#[]⟩, .int .u8 0, .bool false, .slice none 0 0, .int .u32 0, .int .u32 0] := hZ
                    have hod : OwnP (wr.drewN nq) (bc + 1) A2 k c2 (newParts ⟨f, g, []⟩ (L.take k)) := Own.drewN ho nq
                    have hBd : Below w.heap.size w (wr.drewN nq) := below_drewN hBr nq
                    have hcd : (wr.drewN nq).cell? ⟨b, off + k, none⟩ = some (.int .u8 (m : Int)) := hc
                    clear hX hC hZ ho hBr hc x0 x1 x2 hzz hCl
                    generalize wr.drewN nq = wd at *
                    have hzz := hBd.size
                    have hCl := hCd.lt
                    have x0 := hXd.cell (j := 0) rfl
                    have x1 := hXd.cell (j := 1) rfl
                    have x2 := hXd.cell (j := 2) rfl
                    have hY := Box.new wd #[.int .u32 (f : Int), .string (str g), .string (str [])] 24
                    have hB1 := hBd.alloc hzz (.cells #[.int .u32 (f : Int), .string (str g), .string (str [])] 24)
                    have hC1 := hCd.alloc (.cells #[.int .u32 (f : Int), .string (str g), .string (str [])] 24)
                    have hX1 := hXd.alloc (.cells #[.int .u32 (f : Int), .string (str g), .string (str [])] 24)
                    have hZ1 := hZd.alloc (.cells #[.int .u32 (f : Int), .string (str g), .string (str [])] 24)
                    have ho1 := hod.alloc (.cells #[.int .u32 (f : Int), .string (str g), .string (str [])] 24)
                    have hc1 := (Below.refl wd.heap.size wd).alloc (Nat.le_refl _) (.cells #[.int .u32 (f : Int), .string (str g), .string (str [])] 24) |>.cell (p := ⟨b, off + k, none⟩) (by show b < _; omega) |>.trans hcd
                    have hnb : ∀ g, blk A2 = some g → g ≠ wd.heap.size := fun g hg e => by have := (hod.blk_lt hg).2; omega
                    go_upto_region 12 with fail
                    generalize hwz : wd.heap.size = yb at *
                    generalize (wd.alloc (.cells #[.int .u32 (f : Int), .string (str g), .string (str [])] 24)) = wz at *
                    go_wp2_with (first | (with_reducible refine hold_append ?_) | (with_reducible refine hold_make ?_) | (with_reducible refine hold_copy ?_) | (with_reducible refine hold_store ?_))
                    refine (hdig wz).mono ?_
                    rintro e w3 ⟨rfl, hB3⟩
                    have hY3 := hY.below hB3
                    have hC3 := hC1.below hB3
                    have hX3 := hX1.below hB3
                    have hZ3 := hZ1.below hB3
                    have ho3 := own_below ho1 hB3
                    have hB13 := hB1.trans (hB3.mono hB1.size)
                    clear hY hC1 hX1 hZ1 ho1 hc1 x0 x1 x2 hcd
                    go_wp2_with (first | (with_reducible refine hold_append ?_) | (with_reducible refine hold_make ?_) | (with_reducible refine hold_copy ?_) | (with_reducible refine hold_store ?_))
                    refine unhold (wp_box (v := .string (str (dig1 m))) (vs := [.string (str (dig1 m))]) rfl rfl rfl rfl hY3 rfl (by kernel_rfl) (by simp) (by simp; rfl) #[.int .u32 (f : Int), .string (str g), .string (str (dig1 m))] (by simp) ?_)
                    intro w2 hY2 hg2 hs2
                    have hB2 := below_box hB13 hg2 (by omega)
                    have hC2' := hC3.grown hg2 (by intro e; injection e with e; omega)
                    have hX2' := hX3.grown hg2 (by intro e; injection e with e; have := hXd.lt; omega)
                    have hZ2' := hZ3.grown hg2 (by intro e; injection e with e; have := hZd.lt; omega)
                    have ho2' := own_stays ho3 hg2 (fun g' hg' e => by injection e with e; exact hnb g' hg' e.symm)
                    clear hY3 hC3 hX3 hZ3 ho3 hB13
                    go_upto_region 13 with fail
                    refine rg_start (fun W : World => Box W yb 24 #[.int .u32 (f : Int), .string (str g), .string (str (dig1 m))] ∧ Below w.heap.size w W) (by kernel_rfl) ?_
                    have hS : Box w2.drew yb 24 #[.int .u32 (f : Int), .string (str g), .string (str (dig1 m))] ∧ Below w.heap.size w w2.drew := ⟨hY2, below_drewN hB2 1⟩
                    have hC2 : Box w2.drew bc 28 #[.int .u32 (f : Int), .string (str g), .string (str []), .int .u8 1, .bool false, .slice A2 k c2, .int .u32 0, .int .u32 0] := hC2'
                    have hX2 : Box w2.drew w.heap.size 24 #[.int .u32 (f : Int), .string (str g), .string (str [])] := hX2'
                    have hZ2 : Box w2.drew (w.heap.size + 1) 28 #[.int .u32 0, .string ⟨#[]⟩, .string ⟨#[]⟩, .int .u8 0, .bool false, .slice none 0 0, .int .u32 0, .int .u32 0] := hZ2'
                    have ho2 : OwnP w2.drew (bc + 1) A2 k c2 (newParts ⟨f, g, []⟩ (L.take k)) := Own.drewN ho2' 1
                    generalize w2.drew = wd2 at *
                    clear hC2' hX2' hZ2' ho2' hY2 hB2
                    have hCl2 := hC2.lt
                    have hnb2 : ∀ g', blk A2 = some g' → bc < g' := fun g' hg' => by have := (ho2.blk_lt hg').1; omega
                    have hnb3 : ∀ g', blk A2 = some g' → yb = g' → False := fun g' hg' e => hnb g' hg' e.symm
                    refine rg_take 0 (v := ?_) rfl (by kernel_rfl) (by kernel_rfl) (by kernel_rfl) hS rfl ?_ ?_
                    rotate_left
                    · intro wS hSw; go_simp; (with_reducible rfl)
                    simp only [List.getElem_toArray, List.getElem_cons_zero, Act.put, List.setIfInBounds_toArray, List.set_cons_zero, List.set_cons_succ]
                    refine rg_take 2 (v := ?_) rfl (by kernel_rfl) (by kernel_rfl) (by kernel_rfl) hS rfl ?_ ?_
                    rotate_left
                    · intro wS hSw; go_simp; (with_reducible rfl)
                    simp only [List.getElem_toArray, List.getElem_cons_succ, List.getElem_cons_zero, Act.put, List.setIfInBounds_toArray, List.set_cons_zero, List.set_cons_succ]
                    refine rg_take 3 (v := ?_) rfl (by kernel_rfl) (by kernel_rfl) (by kernel_rfl) hS rfl ?_ ?_
                    rotate_left
                    · intro wS hSw; go_simp; (with_reducible rfl)
                    simp only [List.getElem_toArray, List.getElem_cons_succ, List.getElem_cons_zero, Act.put, List.setIfInBounds_toArray, List.set_cons_zero, List.set_cons_succ]
                    refine rg_take 4 (v := ?_) rfl (by kernel_rfl) (by kernel_rfl) (by kernel_rfl) hS rfl ?_ ?_
                    rotate_left
                    · intro wS hSw; go_simp; (with_reducible rfl)
                    simp only [List.getElem_toArray, List.getElem_cons_succ, List.getElem_cons_zero, Act.put, List.setIfInBounds_toArray, List.set_cons_zero, List.set_cons_succ]
                    refine rg_take 5 (v := ?_) rfl (by kernel_rfl) (by kernel_rfl) (by kernel_rfl) hS rfl ?_ ?_
                    rotate_left
                    · intro wS hSw; have kc := hkc _ hSw.2; go_simp; (with_reducible rfl)
                    simp only [List.getElem_toArray, List.getElem_cons_succ, List.getElem_cons_zero, Act.put, List.setIfInBounds_toArray, List.set_cons_zero, List.set_cons_succ]
                    refine rg_take 6 (v := ?_) rfl (by kernel_rfl) (by kernel_rfl) (by kernel_rfl) hS rfl ?_ ?_
                    rotate_left
                    · intro wS hSw; have k0 := hSw.1.cell (j := 0) rfl; have k1 := hSw.1.cell (j := 1) rfl; have k2 := hSw.1.cell (j := 2) rfl; go_simp; (with_reducible rfl)
                    simp only [List.getElem_toArray, List.getElem_cons_succ, List.getElem_cons_zero, Act.put, List.setIfInBounds_toArray, List.set_cons_zero, List.set_cons_succ]
                    refine rg_take 7 (v := ?_) rfl (by kernel_rfl) (by kernel_rfl) (by kernel_rfl) hS rfl ?_ ?_
                    rotate_left
                    · intro wS hSw; go_simp; (with_reducible rfl)
                    simp only [List.getElem_toArray, List.getElem_cons_succ, List.getElem_cons_zero, Act.put, List.setIfInBounds_toArray, List.set_cons_zero, List.set_cons_succ]
                    have z5 := hC2.cell (j := 5) rfl
                    refine rg_two 1 8 rfl rfl (by kernel_rfl) rfl rfl (fun K hK => ?_) (fun K hK => ?_)
                    · go_simp
                      refine hK _ _ hS ?_
                      clear hK K
                      refine rg_one 8 rfl (by kernel_rfl) rfl (fun K hK => ?_)
                      go_simp
                      refine hK _ _ ⟨hS.1.alloc _, hS.2.alloc hS.2.size _⟩ ?_
                      clear hK K z5
                      refine rg_one 9 rfl (by kernel_rfl) rfl (fun K hK => ?_)
                      refine op_rec (W := wd2) ptShape slP Try.underlying26 rfl rfl rfl rfl (⟨m, ⟨f, g, dig1 m⟩, 0⟩ : Pt) rfl ho2 (by omega) (by omega) (by omega) ?_
                      intro A4 c4 w4 ho4 hg4 _ _
                      rw [← HP.out] at ho4
                      have hB4 := hS.2.grown hg4 hS.2.size (fun g' hg' => by have := hnb2 g' hg'; omega)
                      have hY4 := hS.1.grown hg4 (by intro e; exact hnb3 _ e.symm rfl)
                      have hC4 := hC2.grown hg4 (by intro e; have := hnb2 _ e.symm; omega)
                      have hX4 := hX2.grown hg4 (by intro e; have := hnb2 _ e.symm; omega)
                      have hZ4 := hZ2.grown hg4 (by intro e; have := hnb2 _ e.symm; omega)
                      refine hK _ _ ⟨hY4, hB4⟩ ?_
                      clear hK K
                      refine rg_one 10 rfl (by kernel_rfl) rfl (fun K hK => ?_)
                      go_simp
                      refine hK _ _ ⟨hY4, hB4⟩ ?_
                      clear hK K
                      refine rg_one 11 rfl (by kernel_rfl) rfl (fun K hK => ?_)
                      refine op_box (v := .slice A4 (k + 1) c4) (vs := [.slice A4 (k + 1) c4]) rfl rfl rfl hC4 rfl (by kernel_rfl) (by simp) (by simp; rfl) #[.int .u32 (f : Int), .string (str g), .string (str []), .int .u8 1, .bool false, .slice A4 (k + 1) c4, .int .u32 0, .int .u32 0] (by simp) ?_
                      intro w5 hC5 hg5 _
                      have hB5 := below_box hB4 hg5 (by omega)
                      have hY5 := hY4.grown hg5 (by intro e; injection e with e; omega)
                      have hX5 := hX4.grown hg5 (by intro e; injection e with e; omega)
                      have hZ5 := hZ4.grown hg5 (by intro e; injection e with e; omega)
                      have ho5 := own_box ho4 hg5 (by omega)
                      refine hK _ _ ⟨hY5, hB5⟩ ?_
                      clear hK K
                      refine rg_end (by kernel_rfl) ?_
                      go_wp2_with (first | (with_reducible refine hold_append ?_) | (with_reducible refine hold_make ?_) | (with_reducible refine hold_copy ?_))
                      exact ⟨⟨k + 1, c4, A4, by omega, by go_num, ho5, hC5, hX5, hZ5, HST, hB5⟩, by simp [RowKit.intOf]; omega⟩
                    · go_simp
                      refine hK _ _ ⟨hS.1.alloc _, hS.2.alloc hS.2.size _⟩ ?_
                      clear hK K z5
                      have z5 := (hC2.alloc (.cells #[.int .u8 (m : Int), .int .u32 (f : Int), .string (str g), .string (str (dig1 m)), .int .u8 0] 45)).cell (j := 5) rfl
                      refine rg_one 1 rfl (by kernel_rfl) rfl (fun K hK => ?_)
                      go_simp
                      refine hK _ _ ⟨hS.1.alloc _, hS.2.alloc hS.2.size _⟩ ?_
                      clear hK K z5
                      refine rg_one 9 rfl (by kernel_rfl) rfl (fun K hK => ?_)
                      refine op_rec (W := wd2) ptShape slP Try.underlying26 rfl rfl rfl rfl (⟨m, ⟨f, g, dig1 m⟩, 0⟩ : Pt) rfl ho2 (by omega) (by omega) (by omega) ?_
                      intro A4 c4 w4 ho4 hg4 _ _
                      rw [← HP.out] at ho4
                      have hB4 := hS.2.grown hg4 hS.2.size (fun g' hg' => by have := hnb2 g' hg'; omega)
                      have hY4 := hS.1.grown hg4 (by intro e; exact hnb3 _ e.symm rfl)
                      have hC4 := hC2.grown hg4 (by intro e; have := hnb2 _ e.symm; omega)
                      have hX4 := hX2.grown hg4 (by intro e; have := hnb2 _ e.symm; omega)
                      have hZ4 := hZ2.grown hg4 (by intro e; have := hnb2 _ e.symm; omega)
                      refine hK _ _ ⟨hY4, hB4⟩ ?_
                      clear hK K
                      refine rg_one 10 rfl (by kernel_rfl) rfl (fun K hK => ?_)
                      go_simp
                      refine hK _ _ ⟨hY4, hB4⟩ ?_
                      clear hK K
                      refine rg_one 11 rfl (by kernel_rfl) rfl (fun K hK => ?_)
                      refine op_box (v := .slice A4 (k + 1) c4) (vs := [.slice A4 (k + 1) c4]) rfl rfl rfl hC4 rfl (by kernel_rfl) (by simp) (by simp; rfl) #[.int .u32 (f : Int), .string (str g), .string (str []), .int .u8 1, .bool false, .slice A4 (k + 1) c4, .int .u32 0, .int .u32 0] (by simp) ?_
                      intro w5 hC5 hg5 _
                      have hB5 := below_box hB4 hg5 (by omega)
                      have hY5 := hY4.grown hg5 (by intro e; injection e with e; omega)
                      have hX5 := hX4.grown hg5 (by intro e; injection e with e; omega)
                      have hZ5 := hZ4.grown hg5 (by intro e; injection e with e; omega)
                      have ho5 := own_box ho4 hg5 (by omega)
                      refine hK _ _ ⟨hY5, hB5⟩ ?_
                      clear hK K
                      refine rg_end (by kernel_rfl) ?_
                      go_wp2_with (first | (with_reducible refine hold_append ?_) | (with_reducible refine hold_make ?_) | (with_reducible refine hold_copy ?_))
                      exact ⟨⟨k + 1, c4, A4, by omega, by go_num, ho5, hC5, hX5, hZ5, HST, hB5⟩, by simp [RowKit.intOf]; omega⟩
                  · have e0 : decide ((0 : Int) < (k : Int)) = true := by simp; omega
                    have e00 : 0 < k := by omega
                    obtain ⟨q, hq⟩ := hex e00
                    have q0 := hprev q hq e00
                    have HSTEP2 : Hid (nodesOk 0 (L.take (k + 1)) = decide (q < m)) := Lib.hid (by
                      rw [HSTEP.out, decide_eq_true (show 1 ≤ m by omega), decide_eq_true (show m ≤ 8 by omega), hq]
                      simp [e3])
                    clear HSTEP hprev hex hq e3
                    by_cases e4 : m ≤ q
                    · have f4 : decide ((m : Int) ≤ (q : Int)) = true := by simp; omega
                      have HRES : Hid (RS = (gl0, 2)) := Lib.hid (HBAD.out (by rw [HSTEP2.out, decide_eq_false (by omega)]))
                      clear HSTEP2 HBAD
                      go_upto_region 9 with fail
                      go_quiet (fail)
                      go_wp2_with (first | (with_reducible refine hold_append ?_) | (with_reducible refine hold_make ?_) | (with_reducible refine hold_copy ?_) | (with_reducible refine hold_store ?_))
                      refine unhold (wp_box (v := .agg #[.int .u32 0, .string ⟨#[]⟩, .string ⟨#[]⟩, .int .u8 0, .bool false, .slice none 0 0, .int .u32 0, .int .u32 0]) (vs := [.int .u32 0, .string ⟨#[]⟩, .string ⟨#[]⟩, .int .u8 0, .bool false, .slice none 0 0, .int .u32 0, .int .u32 0]) rfl rfl rfl rfl (show Box _ _ _ _ from hZ) rfl (by kernel_rfl) (by simp) gl_one #[.int .u32 0, .string ⟨#[]⟩, .string ⟨#[]⟩, .int .u8 0, .bool false, .slice none 0 0, .int .u32 0, .int .u32 0] (by simp) ?_)
                      intro w9 hb9 hg9 _
                      have hB9 := below_box (below_drewN hBr _) hg9 (by omega)
                      go_wp2_with (first | (with_reducible refine hold_append ?_) | (with_reducible refine hold_make ?_) | (with_reducible refine hold_copy ?_))
                      refine ret_box_tmp rfl hb9 rfl rfl Try.underlying28 rfl (by kernel_rfl) rfl ?_
                      rw [HRES.out]
                      exact ⟨none, 0, 0, rfl, Own.none_ _ _ _ _, by omega, hB9⟩
                    · have f4 : decide ((m : Int) ≤ (q : Int)) = false := by simp; omega
                      have HST : Hid (nodesOk 0 (L.take (k + 1)) = true) := Lib.hid (by rw [HSTEP2.out, decide_eq_true (by omega)])
                      clear HSTEP2 HBAD
                      have hdig := fun W => digits_any m W (by omega)
                      rw [dig1_digB (show m ≤ 8 by omega)] at hdig
                      go_upto_region 9 with fail
                      have hbw : b < w.heap.size := Nat.lt_of_lt_of_le hbB hB
                      have hcw : w.cell? ⟨b, off + k, none⟩ = some (.int .u8 (m : Int)) := (hBr.cell (p := ⟨b, off + k, none⟩) hbw).symm.trans hc
                      have hkc : ∀ W, Below w.heap.size w W → W.cell? ⟨b, off + k, none⟩ = some (.int .u8 (m : Int)) := fun W hW => (hW.cell (p := ⟨b, off + k, none⟩) hbw).trans hcw
                      go_quiet (fail)
                      rename_i nq
                      have hXd : Box (wr.drewN nq) w.heap.size 24 #[.int .u32 (f : Int), .string (str g), .string (str [])] := hX
                      have hCd : Box (wr.drewN nq) bc 28 #[.int .u32 (f : Int), .string (str g), .string (str []), .int .u8 1, .bool false, .slice A2 k c2, .int .u32 0, .int .u32 0] := hC
                      have hZd : Box (wr.drewN nq) (w.heap.size + 1) 28 #[.int .u32 0, .string ⟨#[]⟩, .string ⟨#[]⟩, .int .u8 0, .bool false, .slice none 0 0, .int .u32 0, .int .u32 0] := hZ
                      have hod : OwnP (wr.drewN nq) (bc + 1) A2 k c2 (newParts ⟨f, g, []⟩ (L.take k)) := Own.drewN ho nq
                      have hBd : Below w.heap.size w (wr.drewN nq) := below_drewN hBr nq
                      have hcd : (wr.drewN nq).cell? ⟨b, off + k, none⟩ = some (.int .u8 (m : Int)) := hc
                      clear hX hC hZ ho hBr hc x0 x1 x2 hzz hCl
                      generalize wr.drewN nq = wd at *
                      have hzz := hBd.size
                      have hCl := hCd.lt
                      have x0 := hXd.cell (j := 0) rfl
                      have x1 := hXd.cell (j := 1) rfl
                      have x2 := hXd.cell (j := 2) rfl
                      have hY := Box.new wd #[.int .u32 (f : Int), .string (str g), .string (str [])] 24
                      have hB1 := hBd.alloc hzz (.cells #[.int .u32 (f : Int), .string (str g), .string (str [])] 24)
                      have hC1 := hCd.alloc (.cells #[.int .u32 (f : Int), .string (str g), .string (str [])] 24)
                      have hX1 := hXd.alloc (.cells #[.int .u32 (f : Int), .string (str g), .string (str [])] 24)
                      have hZ1 := hZd.alloc (.cells #[.int .u32 (f : Int), .string (str g), .string (str [])] 24)
                      have ho1 := hod.alloc (.cells #[.int .u32 (f : Int), .string (str g), .string (str [])] 24)
                      have hc1 := (Below.refl wd.heap.size wd).alloc (Nat.le_refl _) (.cells #[.int .u32 (f : Int), .string (str g), .string (str [])] 24) |>.cell (p := ⟨b, off + k, none⟩) (by show b < _; omega) |>.trans hcd
                      have hnb : ∀ g, blk A2 = some g → g ≠ wd.heap.size := fun g hg e => by have := (hod.blk_lt hg).2; omega
                      go_upto_region 12 with fail
                      generalize hwz : wd.heap.size = yb at *
                      generalize (wd.alloc (.cells #[.int .u32 (f : Int), .string (str g), .string (str [])] 24)) = wz at *
                      go_wp2_with (first | (with_reducible refine hold_append ?_) | (with_reducible refine hold_make ?_) | (with_reducible refine hold_copy ?_) | (with_reducible refine hold_store ?_))
                      refine (hdig wz).mono ?_
                      rintro e w3 ⟨rfl, hB3⟩
                      have hY3 := hY.below hB3
                      have hC3 := hC1.below hB3
                      have hX3 := hX1.below hB3
                      have hZ3 := hZ1.below hB3
                      have ho3 := own_below ho1 hB3
                      have hB13 := hB1.trans (hB3.mono hB1.size)
                      clear hY hC1 hX1 hZ1 ho1 hc1 x0 x1 x2 hcd
                      go_wp2_with (first | (with_reducible refine hold_append ?_) | (with_reducible refine hold_make ?_) | (with_reducible refine hold_copy ?_) | (with_reducible refine hold_store ?_))
                      refine unhold (wp_box (v := .string (str (dig1 m))) (vs := [.string (str (dig1 m))]) rfl rfl rfl rfl hY3 rfl (by kernel_rfl) (by simp) (by simp; rfl) #[.int .u32 (f : Int), .string (str g), .string (str (dig1 m))] (by simp) ?_)
                      intro w2 hY2 hg2 hs2
                      have hB2 := below_box hB13 hg2 (by omega)
                      have hC2' := hC3.grown hg2 (by intro e; injection e with e; omega)
                      have hX2' := hX3.grown hg2 (by intro e; injection e with e; have := hXd.lt; omega)
                      have hZ2' := hZ3.grown hg2 (by intro e; injection e with e; have := hZd.lt; omega)
                      have ho2' := own_stays ho3 hg2 (fun g' hg' e => by injection e with e; exact hnb g' hg' e.symm)
                      clear hY3 hC3 hX3 hZ3 ho3 hB13
                      go_upto_region 13 with fail
                      refine rg_start (fun W : World => Box W yb 24 #[.int .u32 (f : Int), .string (str g), .string (str (dig1 m))] ∧ Below w.heap.size w W) (by kernel_rfl) ?_
                      have hS : Box w2.drew yb 24 #[.int .u32 (f : Int), .string (str g), .string (str (dig1 m))] ∧ Below w.heap.size w w2.drew := ⟨hY2, below_drewN hB2 1⟩
                      have hC2 : Box w2.drew bc 28 #[.int .u32 (f : Int), .string (str g), .string (str []), .int .u8 1, .bool false, .slice A2 k c2, .int .u32 0, .int .u32 0] := hC2'
                      have hX2 : Box w2.drew w.heap.size 24 #[.int .u32 (f : Int), .string (str g), .string (str [])] := hX2'
                      have hZ2 : Box w2.drew (w.heap.size + 1) 28 #[.int .u32 0, .string ⟨#[]⟩, .string ⟨#[]⟩, .int .u8 0, .bool false, .slice none 0 0, .int .u32 0, .int .u32 0] := hZ2'
                      have ho2 : OwnP w2.drew (bc + 1) A2 k c2 (newParts ⟨f, g, []⟩ (L.take k)) := Own.drewN ho2' 1
                      generalize w2.drew = wd2 at *
                      clear hC2' hX2' hZ2' ho2' hY2 hB2
                      have hCl2 := hC2.lt
                      have hnb2 : ∀ g', blk A2 = some g' → bc < g' := fun g' hg' => by have := (ho2.blk_lt hg').1; omega
                      have hnb3 : ∀ g', blk A2 = some g' → yb = g' → False := fun g' hg' e => hnb g' hg' e.symm
                      refine rg_take 0 (v := ?_) rfl (by kernel_rfl) (by kernel_rfl) (by kernel_rfl) hS rfl ?_ ?_
                      rotate_left
                      · intro wS hSw; go_simp; (with_reducible rfl)
                      simp only [List.getElem_toArray, List.getElem_cons_zero, Act.put, List.setIfInBounds_toArray, List.set_cons_zero, List.set_cons_succ]
                      refine rg_take 2 (v := ?_) rfl (by kernel_rfl) (by kernel_rfl) (by kernel_rfl) hS rfl ?_ ?_
                      rotate_left
                      · intro wS hSw; go_simp; (with_reducible rfl)
                      simp only [List.getElem_toArray, List.getElem_cons_succ, List.getElem_cons_zero, Act.put, List.setIfInBounds_toArray, List.set_cons_zero, List.set_cons_succ]
                      refine rg_take 3 (v := ?_) rfl (by kernel_rfl) (by kernel_rfl) (by kernel_rfl) hS rfl ?_ ?_
                      rotate_left
                      · intro wS hSw; go_simp; (with_reducible rfl)
                      simp only [List.getElem_toArray, List.getElem_cons_succ, List.getElem_cons_zero, Act.put, List.setIfInBounds_toArray, List.set_cons_zero, List.set_cons_succ]
                      refine rg_take 4 (v := ?_) rfl (by kernel_rfl) (by kernel_rfl) (by kernel_rfl) hS rfl ?_ ?_
                      rotate_left
                      · intro wS hSw; go_simp; (with_reducible rfl)
                      simp only [List.getElem_toArray, List.getElem_cons_succ, List.getElem_cons_zero, Act.put, List.setIfInBounds_toArray, List.set_cons_zero, List.set_cons_succ]
                      refine rg_take 5 (v := ?_) rfl (by kernel_rfl) (by kernel_rfl) (by kernel_rfl) hS rfl ?_ ?_
                      rotate_left
                      · intro wS hSw; have kc := hkc _ hSw.2; go_simp; (with_reducible rfl)
                      simp only [List.getElem_toArray, List.getElem_cons_succ, List.getElem_cons_zero, Act.put, List.setIfInBounds_toArray, List.set_cons_zero, List.set_cons_succ]
                      refine rg_take 6 (v := ?_) rfl (by kernel_rfl) (by kernel_rfl) (by kernel_rfl) hS rfl ?_ ?_
                      rotate_left
                      · intro wS hSw; have k0 := hSw.1.cell (j := 0) rfl; have k1 := hSw.1.cell (j := 1) rfl; have k2 := hSw.1.cell (j := 2) rfl; go_simp; (with_reducible rfl)
                      simp only [List.getElem_toArray, List.getElem_cons_succ, List.getElem_cons_zero, Act.put, List.setIfInBounds_toArray, List.set_cons_zero, List.set_cons_succ]
                      refine rg_take 7 (v := ?_) rfl (by kernel_rfl) (by kernel_rfl) (by kernel_rfl) hS rfl ?_ ?_
                      rotate_left
                      · intro wS hSw; go_simp; (with_reducible rfl)
                      simp only [List.getElem_toArray, List.getElem_cons_succ, List.getElem_cons_zero, Act.put, List.setIfInBounds_toArray, List.set_cons_zero, List.set_cons_succ]
                      have z5 := hC2.cell (j := 5) rfl
                      refine rg_two 1 8 rfl rfl (by kernel_rfl) rfl rfl (fun K hK => ?_) (fun K hK => ?_)
                      · go_simp
                        refine hK _ _ hS ?_
                        clear hK K
                        refine rg_one 8 rfl (by kernel_rfl) rfl (fun K hK => ?_)
                        go_simp
                        refine hK _ _ ⟨hS.1.alloc _, hS.2.alloc hS.2.size _⟩ ?_
                        clear hK K z5
                        refine rg_one 9 rfl (by kernel_rfl) rfl (fun K hK => ?_)
                        refine op_rec (W := wd2) ptShape slP Try.underlying26 rfl rfl rfl rfl (⟨m, ⟨f, g, dig1 m⟩, 0⟩ : Pt) rfl ho2 (by omega) (by omega) (by omega) ?_
                        intro A4 c4 w4 ho4 hg4 _ _
                        rw [← HP.out] at ho4
                        have hB4 := hS.2.grown hg4 hS.2.size (fun g' hg' => by have := hnb2 g' hg'; omega)
                        have hY4 := hS.1.grown hg4 (by intro e; exact hnb3 _ e.symm rfl)
                        have hC4 := hC2.grown hg4 (by intro e; have := hnb2 _ e.symm; omega)
                        have hX4 := hX2.grown hg4 (by intro e; have := hnb2 _ e.symm; omega)
                        have hZ4 := hZ2.grown hg4 (by intro e; have := hnb2 _ e.symm; omega)
                        refine hK _ _ ⟨hY4, hB4⟩ ?_
                        clear hK K
                        refine rg_one 10 rfl (by kernel_rfl) rfl (fun K hK => ?_)
                        go_simp
                        refine hK _ _ ⟨hY4, hB4⟩ ?_
                        clear hK K
                        refine rg_one 11 rfl (by kernel_rfl) rfl (fun K hK => ?_)
                        refine op_box (v := .slice A4 (k + 1) c4) (vs := [.slice A4 (k + 1) c4]) rfl rfl rfl hC4 rfl (by kernel_rfl) (by simp) (by simp; rfl) #[.int .u32 (f : Int), .string (str g), .string (str []), .int .u8 1, .bool false, .slice A4 (k + 1) c4, .int .u32 0, .int .u32 0] (by simp) ?_
                        intro w5 hC5 hg5 _
                        have hB5 := below_box hB4 hg5 (by omega)
                        have hY5 := hY4.grown hg5 (by intro e; injection e with e; omega)
                        have hX5 := hX4.grown hg5 (by intro e; injection e with e; omega)
                        have hZ5 := hZ4.grown hg5 (by intro e; injection e with e; omega)
                        have ho5 := own_box ho4 hg5 (by omega)
                        refine hK _ _ ⟨hY5, hB5⟩ ?_
                        clear hK K
                        refine rg_end (by kernel_rfl) ?_
                        go_wp2_with (first | (with_reducible refine hold_append ?_) | (with_reducible refine hold_make ?_) | (with_reducible refine hold_copy ?_))
                        exact ⟨⟨k + 1, c4, A4, by omega, by go_num, ho5, hC5, hX5, hZ5, HST, hB5⟩, by simp [RowKit.intOf]; omega⟩
                      · go_simp
                        refine hK _ _ ⟨hS.1.alloc _, hS.2.alloc hS.2.size _⟩ ?_
                        clear hK K z5
                        have z5 := (hC2.alloc (.cells #[.int .u8 (m : Int), .int .u32 (f : Int), .string (str g), .string (str (dig1 m)), .int .u8 0] 45)).cell (j := 5) rfl
                        refine rg_one 1 rfl (by kernel_rfl) rfl (fun K hK => ?_)
                        go_simp
                        refine hK _ _ ⟨hS.1.alloc _, hS.2.alloc hS.2.size _⟩ ?_
                        clear hK K z5
                        refine rg_one 9 rfl (by kernel_rfl) rfl (fun K hK => ?_)
                        refine op_rec (W := wd2) ptShape slP Try.underlying26 rfl rfl rfl rfl (⟨m, ⟨f, g, dig1 m⟩, 0⟩ : Pt) rfl ho2 (by omega) (by omega) (by omega) ?_
                        intro A4 c4 w4 ho4 hg4 _ _
                        rw [← HP.out] at ho4
                        have hB4 := hS.2.grown hg4 hS.2.size (fun g' hg' => by have := hnb2 g' hg'; omega)
                        have hY4 := hS.1.grown hg4 (by intro e; exact hnb3 _ e.symm rfl)
                        have hC4 := hC2.grown hg4 (by intro e; have := hnb2 _ e.symm; omega)
                        have hX4 := hX2.grown hg4 (by intro e; have := hnb2 _ e.symm; omega)
                        have hZ4 := hZ2.grown hg4 (by intro e; have := hnb2 _ e.symm; omega)
                        refine hK _ _ ⟨hY4, hB4⟩ ?_
                        clear hK K
                        refine rg_one 10 rfl (by kernel_rfl) rfl (fun K hK => ?_)
                        go_simp
                        refine hK _ _ ⟨hY4, hB4⟩ ?_
                        clear hK K
                        refine rg_one 11 rfl (by kernel_rfl) rfl (fun K hK => ?_)
                        refine op_box (v := .slice A4 (k + 1) c4) (vs := [.slice A4 (k + 1) c4]) rfl rfl rfl hC4 rfl (by kernel_rfl) (by simp) (by simp; rfl) #[.int .u32 (f : Int), .string (str g), .string (str []), .int .u8 1, .bool false, .slice A4 (k + 1) c4, .int .u32 0, .int .u32 0] (by simp) ?_
                        intro w5 hC5 hg5 _
                        have hB5 := below_box hB4 hg5 (by omega)
                        have hY5 := hY4.grown hg5 (by intro e; injection e with e; omega)
                        have hX5 := hX4.grown hg5 (by intro e; injection e with e; omega)
                        have hZ5 := hZ4.grown hg5 (by intro e; injection e with e; omega)
                        have ho5 := own_box ho4 hg5 (by omega)
                        refine hK _ _ ⟨hY5, hB5⟩ ?_
                        clear hK K
                        refine rg_end (by kernel_rfl) ?_
                        go_wp2_with (first | (with_reducible refine hold_append ?_) | (with_reducible refine hold_make ?_) | (with_reducible refine hold_copy ?_))
                        exact ⟨⟨k + 1, c4, A4, by omega, by go_num, ho5, hC5, hX5, hZ5, HST, hB5⟩, by simp [RowKit.intOf]; omega⟩
            · have hkn : n = k := by omega
              subst hkn
              have hLt : L.take n = L := List.take_of_length_le (by rw [HLN.out]; omega)
              rw [hLt] at ho HOK
              have HRES : Hid (RS = (newGl ⟨f, g, []⟩ L, 0)) := Lib.hid (by rw [HRS3.out, if_neg (by rw [HOK.out]; simp)])
              clear HRS3 hLt hr0 HLL HL HLN
              have z0 := hC.cell (j := 0) rfl
              have z1 := hC.cell (j := 1) rfl
              have z2 := hC.cell (j := 2) rfl
              have z3 := hC.cell (j := 3) rfl
              have z4 := hC.cell (j := 4) rfl
              have z5 := hC.cell (j := 5) rfl
              have z6 := hC.cell (j := 6) rfl
              have z7 := hC.cell (j := 7) rfl
              go_wp2_with (first | (with_reducible refine hold_append ?_) | (with_reducible refine hold_make ?_) | (with_reducible refine hold_copy ?_) | (with_reducible refine hold_store ?_))
              refine unhold (wp_box (v := .agg #[.int .u32 (f : Int), .string (str g), .string (str []), .int .u8 1, .bool false, .slice A2 n c2, .int .u32 0, .int .u32 0]) (vs := [.int .u32 (f : Int), .string (str g), .string (str []), .int .u8 1, .bool false, .slice A2 n c2, .int .u32 0, .int .u32 0]) rfl rfl rfl rfl hZ rfl (by kernel_rfl) (by simp) gl_one #[.int .u32 (f : Int), .string (str g), .string (str []), .int .u8 1, .bool false, .slice A2 n c2, .int .u32 0, .int .u32 0] (by simp) ?_)
              intro w8 hb8 hg8 _
              have hB08 := below_box hBr hg8 (by omega)
              have ho8 := own_box ho hg8 (by omega)
              go_wp2_with (first | (with_reducible refine hold_append ?_) | (with_reducible refine hold_make ?_) | (with_reducible refine hold_copy ?_))
              refine ret_box_tmp rfl hb8 rfl rfl Try.underlying28 rfl (by kernel_rfl) rfl ?_
              rw [HRES.out]
              exact ⟨A2, n, c2, rfl, Own.base_le ho8 (by omega), by omega, hB08⟩
  · have hemp : (str h).toList.isEmpty = false := by rw [str_toList]; simpa using hh
    have HRES : Hid (RS = (gl0, 270)) := Lib.hid (by rw [HRS.out]; simp [hh])
    go_enter Try.func16, Try.ntmps16
    go_upto_region 1 with fail
    rw [← hw0]
    clear hw0
    go_wp2_with (first | (with_reducible refine hold_append ?_) | (with_reducible refine hold_make ?_) | (with_reducible refine hold_copy ?_) | (with_reducible refine hold_store ?_))
    refine hck0.mono ?_
    rintro e w1 ⟨rfl, hB1⟩
    have hb1 := hb0.below hB1
    have hz1 := hz0.below hB1
    have hB01 := hB0.trans (hB1.mono hB0.size)
    clear hck0 hb0 hz0 hB0 hB1 x0 x1 x2
    have x0 := hb1.cell (j := 0) rfl
    have x1 := hb1.cell (j := 1) rfl
    have x2 := hb1.cell (j := 2) rfl
    cases ok
    · obtain rfl : er = 40 := by have := HE.out; simpa using this
      clear HRS HE hok
      go_wp2_with (first | (with_reducible refine hold_append ?_) | (with_reducible refine hold_make ?_) | (with_reducible refine hold_copy ?_) | (with_reducible refine hold_store ?_))
      refine unhold (wp_box (v := .agg #[.int .u32 0, .string ⟨#[]⟩, .string ⟨#[]⟩, .int .u8 0, .bool false, .slice none 0 0, .int .u32 0, .int .u32 0]) (vs := [.int .u32 0, .string ⟨#[]⟩, .string ⟨#[]⟩, .int .u8 0, .bool false, .slice none 0 0, .int .u32 0, .int .u32 0]) rfl rfl rfl rfl hz1 rfl (by kernel_rfl) (by simp) gl_one #[.int .u32 0, .string ⟨#[]⟩, .string ⟨#[]⟩, .int .u8 0, .bool false, .slice none 0 0, .int .u32 0, .int .u32 0] (by simp) ?_)
      intro w9 hb9 hg9 _
      have hB9 := below_box hB01 hg9 (by omega)
      go_wp2_with (first | (with_reducible refine hold_append ?_) | (with_reducible refine hold_make ?_) | (with_reducible refine hold_copy ?_))
      refine ret_box_tmp rfl hb9 rfl rfl Try.underlying28 rfl (by kernel_rfl) rfl ?_
      rw [HRES.out]
      exact ⟨none, 0, 0, rfl, Own.none_ _ _ _ _, by omega, hB9⟩
    · obtain rfl : er = 0 := by have := HE.out; simpa using this
      clear HRS HE hok
      go_wp2_with (first | (with_reducible refine hold_append ?_) | (with_reducible refine hold_make ?_) | (with_reducible refine hold_copy ?_) | (with_reducible refine hold_store ?_))
      refine unhold (wp_box (v := .agg #[.int .u32 0, .string ⟨#[]⟩, .string ⟨#[]⟩, .int .u8 0, .bool false, .slice none 0 0, .int .u32 0, .int .u32 0]) (vs := [.int .u32 0, .string ⟨#[]⟩, .string ⟨#[]⟩, .int .u8 0, .bool false, .slice none 0 0, .int .u32 0, .int .u32 0]) rfl rfl rfl rfl hz1 rfl (by kernel_rfl) (by simp) gl_one #[.int .u32 0, .string ⟨#[]⟩, .string ⟨#[]⟩, .int .u8 0, .bool false, .slice none 0 0, .int .u32 0, .int .u32 0] (by simp) ?_)
      intro w9 hb9 hg9 _
      have hB9 := below_box hB01 hg9 (by omega)
      go_wp2_with (first | (with_reducible refine hold_append ?_) | (with_reducible refine hold_make ?_) | (with_reducible refine hold_copy ?_))
      refine ret_box_tmp rfl hb9 rfl rfl Try.underlying28 rfl (by kernel_rfl) rfl ?_
      rw [HRES.out]
      exact ⟨none, 0, 0, rfl, Own.none_ _ _ _ _, by omega, hB9⟩
end Go.PH
end

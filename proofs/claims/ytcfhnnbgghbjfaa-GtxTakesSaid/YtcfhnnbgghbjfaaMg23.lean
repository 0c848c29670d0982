/- Texts laid together: GtRLt2. -/
import Derived.Test.YtcfhnnbgghbjfaaMg22
section
/- The walk of the reference's Check of letters: kind 21. -/
set_option linter.all false
set_option linter.unusedSimpArgs false
set_option linter.unusedVariables false
namespace Go.PH
open Go.RowKit Go.Proofs

set_option maxRecDepth 20000 in
set_option maxHeartbeats 20000000 in
theorem rlcheck_1 (l : Lt) (A : Option Addr) (n c : Nat) (B : Nat) (w : World) (hl : l.wf) (hr : RdX w B A n c l.names) (hB : B ≤ w.heap.size) (hn : n ≤ 1000000) (hk : l.kind = 21) :
    Calls Try.prog 45 #[.agg (ltV l A n c)] w fun e w' => e = .returned (.int .i64 (ltErr l : Int)) ∧ Below w.heap.size w w' := by
  have hr0 := hr
  have HLN := Lib.hid (rec_length xdShape hr)
  have hck := fun W => rcheck_any l.x W hl.2.1
  have hkd := hl.1
  have hxa := hl.2.2.1
  have hno := hl.2.2.2.1
  have hwf := hl.2.2.2.2
  obtain ⟨R, hR⟩ : ∃ R, R = ltErr l := ⟨_, rfl⟩
  rw [← hR]
  clear hl hr
  obtain ⟨kd, x, xa, no, nm⟩ := l
  simp only at HLN hck hkd hxa hno hwf hr0 hk
  have HR := Lib.hid (hR.trans (by rw [ltErr_ref kd x xa no nm, HLN.out]))
  unfold ltV
  simp only
  clear hR
  have hneq := fun w => xid_neqC x xd0' w
  have HE0 : Hid (x.err = if x.ok then 0 else 40) := Lib.hid rfl
  obtain ⟨so, hso⟩ : ∃ so, so = decide (nm = xdSort nm) := ⟨_, rfl⟩
  rw [← hso] at HR
  have HSO0 := Lib.hid hso
  clear hso
  generalize x.err = er at *
  generalize x.ok = ok at *
  generalize decide (x = xd0') = dx at *
  obtain ⟨f, g, h⟩ := x
  have hneq2 : ∀ w, (binOp .neq 24 (.agg #[.int .u32 (f : Int), .string (str g), .string (str h)]) (.agg #[.int .u32 0, .string ⟨#[]⟩, .string ⟨#[]⟩])).run Try.prog w = .ok (.bool (!dx)) w := hneq
  clear hneq
  simp only [xdV] at hck
  subst hk
  have hb0 := Box.new w #[.int .u8 21, .int .u32 (f : Int), .string (str g), .string (str h), .int .u8 (xa : Int), .int .u16 (no : Int), .slice A n c] 33
  have hB0 := (Below.refl w.heap.size w).alloc (Nat.le_refl _) (.cells #[.int .u8 21, .int .u32 (f : Int), .string (str g), .string (str h), .int .u8 (xa : Int), .int .u16 (no : Int), .slice A n c] 33)
  obtain ⟨w0, hw0⟩ : ∃ w0, w0 = (w.alloc (.cells #[.int .u8 21, .int .u32 (f : Int), .string (str g), .string (str h), .int .u8 (xa : Int), .int .u16 (no : Int), .slice A n c] 33)) := ⟨_, rfl⟩
  rw [← hw0] at hb0 hB0
  have hgd := fun x y => run_eqGuard_agg (P := Try.prog) w0 .neq 24 x y #[.int .u32 (f : Int), .string (str g), .string (str h)] #[.int .u32 0, .string ⟨#[]⟩, .string ⟨#[]⟩] xid_guard
  have x0 := hb0.cell (j := 0) rfl
  have x1 := hb0.cell (j := 1) rfl
  have x2 := hb0.cell (j := 2) rfl
  have x3 := hb0.cell (j := 3) rfl
  have x4 := hb0.cell (j := 4) rfl
  have x5 := hb0.cell (j := 5) rfl
  have x6 := hb0.cell (j := 6) rfl
  go_enter Try.func45, Try.ntmps45
  go_upto_region 1 with fail
  rw [← hw0]
  clear hw0
  by_cases c0 : 200 < n
  · have d0 : decide ((200 : Int) < (n : Int)) = true := by simp; omega
    have HE : Hid (R = 250) := Lib.hid (by rw [HR.out]; first | exact lr_A (by omega) | exact lr_B (by omega) | exact lr_C (by omega) | exact lr_D (by omega) | exact lr_E (by omega))
    clear HR
    go_wp2_with (first | (with_reducible refine hold_append ?_) | (with_reducible refine hold_make ?_) | (with_reducible refine hold_copy ?_))
    go_ret
    rw [HE.out]
    exact ⟨rfl, hB0⟩
  · have d0 : decide ((200 : Int) < (n : Int)) = false := by simp; omega
    cases dx
    · have HE : Hid (R = 250) := Lib.hid (by rw [HR.out]; first | exact lr_A (by omega) | exact lr_B (by omega) | exact lr_C (by omega) | exact lr_D (by omega) | exact lr_E (by omega))
      clear HR
      go_wp2_with (first | (with_reducible refine hold_append ?_) | (with_reducible refine hold_make ?_) | (with_reducible refine hold_copy ?_))
      go_ret
      rw [HE.out]
      exact ⟨rfl, hB0⟩
    · simp only [Bool.not_true] at hneq2
      have hS0 : Box w0 w.heap.size 33 #[.int .u8 21, .int .u32 (f : Int), .string (str g), .string (str h), .int .u8 (xa : Int), .int .u16 (no : Int), .slice A n c] ∧ Below w.heap.size w w0 := ⟨hb0, hB0⟩
      by_cases c1 : 7 < xa
      · have d1 : decide ((7 : Int) < (xa : Int)) = true := by simp; omega
        have HE : Hid (R = 250) := Lib.hid (by rw [HR.out]; first | exact lr_A (by omega) | exact lr_B (by omega) | exact lr_C (by omega) | exact lr_D (by omega) | exact lr_E (by omega))
        clear HR
        go_wp2_with (first | (with_reducible refine hold_append ?_) | (with_reducible refine hold_make ?_) | (with_reducible refine hold_copy ?_))
        go_ret
        rw [HE.out]
        exact ⟨rfl, (hS0).2⟩
      · have d1 : decide ((7 : Int) < (xa : Int)) = false := by simp; omega
        by_cases c2 : 999 < no
        · have d2 : decide ((999 : Int) < (no : Int)) = true := by simp; omega
          have HE : Hid (R = 250) := Lib.hid (by rw [HR.out]; first | exact lr_A (by omega) | exact lr_B (by omega) | exact lr_C (by omega) | exact lr_D (by omega) | exact lr_E (by omega))
          clear HR
          go_wp2_with (first | (with_reducible refine hold_append ?_) | (with_reducible refine hold_make ?_) | (with_reducible refine hold_copy ?_))
          go_ret
          rw [HE.out]
          exact ⟨rfl, (hS0).2⟩
        · have d2 : decide ((999 : Int) < (no : Int)) = false := by simp; omega
          by_cases c3 : xa = 0
          · have d3 : decide ((0 : Int) < (xa : Int)) = false := by simp; omega
            have d3' : decide (0 < xa) = false := by simp; omega
            by_cases c4 : no = 0
            · have d4 : decide ((0 : Int) < (no : Int)) = false := by simp; omega
              have d4' : decide (0 < no) = false := by simp; omega
              have HNM : Hid (R = if so then 0 else 250) := Lib.hid (by
                cases hs : so
                · rw [HR.out]; exact lr_F hs
                · rw [HR.out]; exact lr_ok (by omega) (by rw [if_pos (by omega)]) (by omega) (by omega) hs)
              clear HR
              go_wp2_with (first | (with_reducible refine hold_append ?_) | (with_reducible refine hold_make ?_) | (with_reducible refine hold_copy ?_))
              go_loopw [5] (fun s wr => ∃ k : Nat, k ≤ n ∧ s = .int .i64 k ∧ Hid (nm.take k = xdSort (nm.take k)) ∧ Box wr w.heap.size 33 #[.int .u8 21, .int .u32 (f : Int), .string (str g), .string (str h), .int .u8 (xa : Int), .int .u16 (no : Int), .slice A n c] ∧ Below w.heap.size w wr) (fun s _ => n - (RowKit.intOf s).toNat)
              case atStart => exact ⟨0, by omega, rfl, Lib.hid rfl, hS0.1, hS0.2⟩
              case round =>
                clear x0 x1 x2 x3 x4 x5 x6
                obtain ⟨k, hk, rfl, HSK, hbr, hBr⟩ := hrel
                by_cases hlt : k < n
                · have hkn : (k : Int) < (n : Int) := by omega
                  have hkl : k < nm.length := by rw [HLN.out]; exact hlt
                  obtain ⟨b, off, rfl, hbB, hkl', hc⟩ := rec_at xdShape hr0 hlt
                  have hbw : b < w.heap.size := Nat.lt_of_lt_of_le hbB hB
                  have hck1 : (∀ W, Below w.heap.size w W → W.cell? ⟨b, off + k * 3, none⟩ = some (.int .u32 (nm[k].fmt : Int))) ∧ (∀ W, Below w.heap.size w W → W.cell? ⟨b, off + k * 3 + 1, none⟩ = some (.string (str nm[k].glob))) ∧ (∀ W, Below w.heap.size w W → W.cell? ⟨b, off + k * 3 + 2, none⟩ = some (.string (str nm[k].bran))) :=
                    ⟨fun W hW => (hW.cell (p := ⟨b, off + k * 3, none⟩) hbw).trans (hc 0 _ rfl), fun W hW => (hW.cell (p := ⟨b, off + k * 3 + 1, none⟩) hbw).trans (hc 1 _ rfl), fun W hW => (hW.cell (p := ⟨b, off + k * 3 + 2, none⟩) hbw).trans (hc 2 _ rfl)⟩
                  have HST := Lib.hid (sort_step hkl HSK.out)
                  have HBADS : Hid (¬ (nm.take (k + 1) = xdSort (nm.take (k + 1))) → R = 250) := Lib.hid (fun h => by
                    rw [HNM.out, HSO0.out, decide_eq_false (fun e => h (sort_front (k + 1) e))]; rfl)
                  have hwx := hwf nm[k] (List.getElem_mem hkl)
                  have hckx := fun W => rcheck_any nm[k] W hwx
                  have HEX : Hid (nm[k].err = if nm[k].ok then 0 else 40) := Lib.hid rfl
                  have hprev : ∀ j, k = j + 1 → ∃ q : Xd, nm[k - 1]? = some q ∧ q.wf ∧ (∀ W, Below w.heap.size w W → W.cell? ⟨b, off + j * 3, none⟩ = some (.int .u32 (q.fmt : Int))) ∧ (∀ W, Below w.heap.size w W → W.cell? ⟨b, off + j * 3 + 1, none⟩ = some (.string (str q.glob))) ∧ (∀ W, Below w.heap.size w W → W.cell? ⟨b, off + j * 3 + 2, none⟩ = some (.string (str q.bran))) := fun j hj => by
                    obtain ⟨b', off', e, _, hjl, hc'⟩ := rec_at xdShape hr0 (show j < n by omega)
                    injection e with e; injection e with e1 e2; subst e1 e2
                    have ej : k - 1 = j := by omega
                    exact ⟨nm[j], by rw [ej]; exact List.getElem?_eq_getElem hjl, hwf nm[j] (List.getElem_mem hjl), fun W hW => (hW.cell (p := ⟨b, off + j * 3, none⟩) hbw).trans (hc' 0 _ rfl), fun W hW => (hW.cell (p := ⟨b, off + j * 3 + 1, none⟩) hbw).trans (hc' 1 _ rfl), fun W hW => (hW.cell (p := ⟨b, off + j * 3 + 2, none⟩) hbw).trans (hc' 2 _ rfl)⟩
                  have hcmp := fun q (hq : Xd.wf q) W => rcompare_any q nm[k] W hq hwx
                  clear hc
                  generalize nm[k] = x at *
                  generalize x.err = er2 at *
                  generalize x.ok = ok2 at *
                  obtain ⟨xf, xg, xh⟩ := x
                  simp only [xdV] at hckx hcmp
                  simp only at hck1
                  have x6 := hbr.cell (j := 6) rfl
                  go_upto_region 12 with fail
                  clear x6
                  refine rg_start (fun W : World => Box W w.heap.size 33 #[.int .u8 21, .int .u32 (f : Int), .string (str g), .string (str h), .int .u8 (xa : Int), .int .u16 (no : Int), .slice (some ⟨b, off, none⟩) n c] ∧ Below w.heap.size w W) (by kernel_rfl) ?_
                  have hS : Box wr.drew w.heap.size 33 #[.int .u8 21, .int .u32 (f : Int), .string (str g), .string (str h), .int .u8 (xa : Int), .int .u16 (no : Int), .slice (some ⟨b, off, none⟩) n c] ∧ Below w.heap.size w wr.drew := ⟨hbr, below_drewN hBr 1⟩
                  generalize wr.drew = wd at *
                  clear hbr hBr
                  refine rg_take 0 (v := ?_) rfl (by kernel_rfl) (by kernel_rfl) (by kernel_rfl) hS rfl ?_ ?_
                  rotate_left
                  · intro wS hSw; go_simp; (with_reducible rfl)
                  simp only [List.getElem_toArray, List.getElem_cons_zero, Act.put, List.setIfInBounds_toArray, List.set_cons_zero, List.set_cons_succ]
                  refine rg_take 1 (v := ?_) rfl (by kernel_rfl) (by kernel_rfl) (by kernel_rfl) hS rfl ?_ ?_
                  rotate_left
                  · intro wS hSw
                    have k0 := hSw.1.cell (j := 0) rfl
                    go_simp
                    (with_reducible rfl)
                  simp only [List.getElem_toArray, List.getElem_cons_succ, List.getElem_cons_zero, Act.put, List.setIfInBounds_toArray, List.set_cons_zero, List.set_cons_succ]
                  refine rg_take 2 (v := ?_) rfl (by kernel_rfl) (by kernel_rfl) (by kernel_rfl) hS rfl ?_ ?_
                  rotate_left
                  · intro wS hSw; go_simp; (with_reducible rfl)
                  simp only [List.getElem_toArray, List.getElem_cons_succ, List.getElem_cons_zero, Act.put, List.setIfInBounds_toArray, List.set_cons_zero, List.set_cons_succ]
                  refine rg_take 3 (v := ?_) rfl (by kernel_rfl) (by kernel_rfl) (by kernel_rfl) hS rfl ?_ ?_
                  rotate_left
                  · intro wS hSw; go_simp; (with_reducible rfl)
                  simp only [List.getElem_toArray, List.getElem_cons_succ, List.getElem_cons_zero, Act.put, List.setIfInBounds_toArray, List.set_cons_zero, List.set_cons_succ]
                  refine rg_take 4 (v := ?_) rfl (by kernel_rfl) (by kernel_rfl) (by kernel_rfl) hS rfl ?_ ?_
                  rotate_left
                  · intro wS hSw; go_simp; (with_reducible rfl)
                  simp only [List.getElem_toArray, List.getElem_cons_succ, List.getElem_cons_zero, Act.put, List.setIfInBounds_toArray, List.set_cons_zero, List.set_cons_succ]
                  refine rg_take 5 (v := ?_) rfl (by kernel_rfl) (by kernel_rfl) (by kernel_rfl) hS rfl ?_ ?_
                  rotate_left
                  · intro wS hSw
                    have k0 := hSw.1.cell (j := 6) rfl
                    go_simp
                    (with_reducible rfl)
                  simp only [List.getElem_toArray, List.getElem_cons_succ, List.getElem_cons_zero, Act.put, List.setIfInBounds_toArray, List.set_cons_zero, List.set_cons_succ]
                  refine rg_take 6 (v := ?_) rfl (by kernel_rfl) (by kernel_rfl) (by kernel_rfl) hS rfl ?_ ?_
                  rotate_left
                  · intro wS hSw; go_simp; (with_reducible rfl)
                  simp only [List.getElem_toArray, List.getElem_cons_succ, List.getElem_cons_zero, Act.put, List.setIfInBounds_toArray, List.set_cons_zero, List.set_cons_succ]
                  refine rg_take 7 (v := ?_) rfl (by kernel_rfl) (by kernel_rfl) (by kernel_rfl) hS rfl ?_ ?_
                  rotate_left
                  · intro wS hSw; go_simp; (with_reducible rfl)
                  simp only [List.getElem_toArray, List.getElem_cons_succ, List.getElem_cons_zero, Act.put, List.setIfInBounds_toArray, List.set_cons_zero, List.set_cons_succ]
                  refine rg_take 8 (v := ?_) rfl (by kernel_rfl) (by kernel_rfl) (by kernel_rfl) hS rfl ?_ ?_
                  rotate_left
                  · intro wS hSw
                    have k0 := hck1.1 _ hSw.2
                    have k1 := hck1.2.1 _ hSw.2
                    have k2 := hck1.2.2 _ hSw.2
                    go_simp
                    (with_reducible rfl)
                  simp only [List.getElem_toArray, List.getElem_cons_succ, List.getElem_cons_zero, Act.put, List.setIfInBounds_toArray, List.set_cons_zero, List.set_cons_succ]
                  refine rg_one 9 rfl (by kernel_rfl) rfl (fun K hK => ?_)
                  go_simp
                  refine (hckx _).mono ?_
                  rintro e w5 ⟨rfl, hB5⟩
                  have hS5 : Box w5 w.heap.size 33 #[.int .u8 21, .int .u32 (f : Int), .string (str g), .string (str h), .int .u8 (xa : Int), .int .u16 (no : Int), .slice (some ⟨b, off, none⟩) n c] ∧ Below w.heap.size w w5 := ⟨hS.1.below hB5, hS.2.trans (hB5.mono hS.2.size)⟩
                  refine hK _ _ hS5 ?_
                  clear hK K hB5 hS hckx
                  cases ok2
                  · obtain rfl : er2 = 40 := by have := HEX.out; simpa using this
                    have HE : Hid (R = 250) := Lib.hid (HBADS.out (fun e => by have := (HST.out.1 e).1; cases this))
                    clear HST HBADS hcmp hprev
                    refine rg_take 10 (v := ?_) rfl (by kernel_rfl) (by kernel_rfl) (by kernel_rfl) hS5 rfl ?_ ?_
                    rotate_left
                    · intro wS hSw; go_simp; (with_reducible rfl)
                    simp only [List.getElem_toArray, List.getElem_cons_succ, List.getElem_cons_zero, Act.put, List.setIfInBounds_toArray, List.set_cons_zero, List.set_cons_succ]
                    refine rg_take 11 (v := ?_) rfl (by kernel_rfl) (by kernel_rfl) (by kernel_rfl) hS5 rfl ?_ ?_
                    rotate_left
                    · intro wS hSw; go_simp; (with_reducible rfl)
                    simp only [List.getElem_toArray, List.getElem_cons_succ, List.getElem_cons_zero, Act.put, List.setIfInBounds_toArray, List.set_cons_zero, List.set_cons_succ]
                    refine rg_take 12 (v := ?_) rfl (by kernel_rfl) (by kernel_rfl) (by kernel_rfl) hS5 rfl ?_ ?_
                    rotate_left
                    · intro wS hSw; go_simp; (with_reducible rfl)
                    simp only [List.getElem_toArray, List.getElem_cons_succ, List.getElem_cons_zero, Act.put, List.setIfInBounds_toArray, List.set_cons_zero, List.set_cons_succ]
                    refine rg_pass 13 rfl (by kernel_rfl) (by kernel_rfl) (by kernel_rfl) hS5 rfl ?_
                    simp only [List.getElem_toArray, List.getElem_cons_succ, List.getElem_cons_zero, Act.put, List.setIfInBounds_toArray, List.set_cons_zero, List.set_cons_succ]
                    refine rg_pass 14 rfl (by kernel_rfl) (by kernel_rfl) (by kernel_rfl) hS5 rfl ?_
                    simp only [List.getElem_toArray, List.getElem_cons_succ, List.getElem_cons_zero, Act.put, List.setIfInBounds_toArray, List.set_cons_zero, List.set_cons_succ]
                    refine rg_pass 15 rfl (by kernel_rfl) (by kernel_rfl) (by kernel_rfl) hS5 rfl ?_
                    simp only [List.getElem_toArray, List.getElem_cons_succ, List.getElem_cons_zero, Act.put, List.setIfInBounds_toArray, List.set_cons_zero, List.set_cons_succ]
                    refine rg_pass 16 rfl (by kernel_rfl) (by kernel_rfl) (by kernel_rfl) hS5 rfl ?_
                    simp only [List.getElem_toArray, List.getElem_cons_succ, List.getElem_cons_zero, Act.put, List.setIfInBounds_toArray, List.set_cons_zero, List.set_cons_succ]
                    refine rg_pass 17 rfl (by kernel_rfl) (by kernel_rfl) (by kernel_rfl) hS5 rfl ?_
                    simp only [List.getElem_toArray, List.getElem_cons_succ, List.getElem_cons_zero, Act.put, List.setIfInBounds_toArray, List.set_cons_zero, List.set_cons_succ]
                    refine rg_pass 18 rfl (by kernel_rfl) (by kernel_rfl) (by kernel_rfl) hS5 rfl ?_
                    simp only [List.getElem_toArray, List.getElem_cons_succ, List.getElem_cons_zero, Act.put, List.setIfInBounds_toArray, List.set_cons_zero, List.set_cons_succ]
                    refine rg_pass 19 rfl (by kernel_rfl) (by kernel_rfl) (by kernel_rfl) hS5 rfl ?_
                    simp only [List.getElem_toArray, List.getElem_cons_succ, List.getElem_cons_zero, Act.put, List.setIfInBounds_toArray, List.set_cons_zero, List.set_cons_succ]
                    refine rg_pass 20 rfl (by kernel_rfl) (by kernel_rfl) (by kernel_rfl) hS5 rfl ?_
                    simp only [List.getElem_toArray, List.getElem_cons_succ, List.getElem_cons_zero, Act.put, List.setIfInBounds_toArray, List.set_cons_zero, List.set_cons_succ]
                    refine rg_pass 21 rfl (by kernel_rfl) (by kernel_rfl) (by kernel_rfl) hS5 rfl ?_
                    simp only [List.getElem_toArray, List.getElem_cons_succ, List.getElem_cons_zero, Act.put, List.setIfInBounds_toArray, List.set_cons_zero, List.set_cons_succ]
                    refine rg_pass 22 rfl (by kernel_rfl) (by kernel_rfl) (by kernel_rfl) hS5 rfl ?_
                    simp only [List.getElem_toArray, List.getElem_cons_succ, List.getElem_cons_zero, Act.put, List.setIfInBounds_toArray, List.set_cons_zero, List.set_cons_succ]
                    refine rg_pass 23 rfl (by kernel_rfl) (by kernel_rfl) (by kernel_rfl) hS5 rfl ?_
                    simp only [List.getElem_toArray, List.getElem_cons_succ, List.getElem_cons_zero, Act.put, List.setIfInBounds_toArray, List.set_cons_zero, List.set_cons_succ]
                    refine rg_pass 24 rfl (by kernel_rfl) (by kernel_rfl) (by kernel_rfl) hS5 rfl ?_
                    simp only [List.getElem_toArray, List.getElem_cons_succ, List.getElem_cons_zero, Act.put, List.setIfInBounds_toArray, List.set_cons_zero, List.set_cons_succ]
                    refine rg_pass 25 rfl (by kernel_rfl) (by kernel_rfl) (by kernel_rfl) hS5 rfl ?_
                    simp only [List.getElem_toArray, List.getElem_cons_succ, List.getElem_cons_zero, Act.put, List.setIfInBounds_toArray, List.set_cons_zero, List.set_cons_succ]
                    refine rg_pass 26 rfl (by kernel_rfl) (by kernel_rfl) (by kernel_rfl) hS5 rfl ?_
                    simp only [List.getElem_toArray, List.getElem_cons_succ, List.getElem_cons_zero, Act.put, List.setIfInBounds_toArray, List.set_cons_zero, List.set_cons_succ]
                    refine rg_pass 27 rfl (by kernel_rfl) (by kernel_rfl) (by kernel_rfl) hS5 rfl ?_
                    simp only [List.getElem_toArray, List.getElem_cons_succ, List.getElem_cons_zero, Act.put, List.setIfInBounds_toArray, List.set_cons_zero, List.set_cons_succ]
                    refine rg_pass 28 rfl (by kernel_rfl) (by kernel_rfl) (by kernel_rfl) hS5 rfl ?_
                    simp only [List.getElem_toArray, List.getElem_cons_succ, List.getElem_cons_zero, Act.put, List.setIfInBounds_toArray, List.set_cons_zero, List.set_cons_succ]
                    refine rg_pass 29 rfl (by kernel_rfl) (by kernel_rfl) (by kernel_rfl) hS5 rfl ?_
                    simp only [List.getElem_toArray, List.getElem_cons_succ, List.getElem_cons_zero, Act.put, List.setIfInBounds_toArray, List.set_cons_zero, List.set_cons_succ]
                    refine rg_take 30 (v := ?_) rfl (by kernel_rfl) (by kernel_rfl) (by kernel_rfl) hS5 rfl ?_ ?_
                    rotate_left
                    · intro wS hSw; go_simp; (with_reducible rfl)
                    simp only [List.getElem_toArray, List.getElem_cons_succ, List.getElem_cons_zero, Act.put, List.setIfInBounds_toArray, List.set_cons_zero, List.set_cons_succ]
                    refine rg_end (by kernel_rfl) ?_
                    go_wp2_with (first | (with_reducible refine hold_append ?_) | (with_reducible refine hold_make ?_) | (with_reducible refine hold_copy ?_))
                    go_ret
                    rw [HE.out]
                    exact ⟨rfl, hS5.2⟩
                  · obtain rfl : er2 = 0 := by have := HEX.out; simpa using this
                    refine rg_take 10 (v := ?_) rfl (by kernel_rfl) (by kernel_rfl) (by kernel_rfl) hS5 rfl ?_ ?_
                    rotate_left
                    · intro wS hSw; go_simp; (with_reducible rfl)
                    simp only [List.getElem_toArray, List.getElem_cons_succ, List.getElem_cons_zero, Act.put, List.setIfInBounds_toArray, List.set_cons_zero, List.set_cons_succ]
                    refine rg_take 11 (v := ?_) rfl (by kernel_rfl) (by kernel_rfl) (by kernel_rfl) hS5 rfl ?_ ?_
                    rotate_left
                    · intro wS hSw; go_simp; (with_reducible rfl)
                    simp only [List.getElem_toArray, List.getElem_cons_succ, List.getElem_cons_zero, Act.put, List.setIfInBounds_toArray, List.set_cons_zero, List.set_cons_succ]
                    refine rg_take 12 (v := ?_) rfl (by kernel_rfl) (by kernel_rfl) (by kernel_rfl) hS5 rfl ?_ ?_
                    rotate_left
                    · intro wS hSw; go_simp; (with_reducible rfl)
                    simp only [List.getElem_toArray, List.getElem_cons_succ, List.getElem_cons_zero, Act.put, List.setIfInBounds_toArray, List.set_cons_zero, List.set_cons_succ]
                    refine rg_take 13 (v := ?_) rfl (by kernel_rfl) (by kernel_rfl) (by kernel_rfl) hS5 rfl ?_ ?_
                    rotate_left
                    · intro wS hSw; go_simp; (with_reducible rfl)
                    simp only [List.getElem_toArray, List.getElem_cons_succ, List.getElem_cons_zero, Act.put, List.setIfInBounds_toArray, List.set_cons_zero, List.set_cons_succ]
                    rcases Nat.eq_zero_or_pos k with hk0 | hk0
                    · subst hk0
                      have HS1 : Hid (nm.take (0 + 1) = xdSort (nm.take (0 + 1))) := Lib.hid (HST.out.2 ⟨rfl, .inl rfl⟩)
                      clear HST HBADS hcmp hprev
                      refine rg_take 14 (v := ?_) rfl (by kernel_rfl) (by kernel_rfl) (by kernel_rfl) hS5 rfl ?_ ?_
                      rotate_left
                      · intro wS hSw; go_simp; (with_reducible rfl)
                      simp only [List.getElem_toArray, List.getElem_cons_succ, List.getElem_cons_zero, Act.put, List.setIfInBounds_toArray, List.set_cons_zero, List.set_cons_succ]
                      refine rg_take 15 (v := ?_) rfl (by kernel_rfl) (by kernel_rfl) (by kernel_rfl) hS5 rfl ?_ ?_
                      rotate_left
                      · intro wS hSw; go_simp; (with_reducible rfl)
                      simp only [List.getElem_toArray, List.getElem_cons_succ, List.getElem_cons_zero, Act.put, List.setIfInBounds_toArray, List.set_cons_zero, List.set_cons_succ]
                      refine rg_pass 16 rfl (by kernel_rfl) (by kernel_rfl) (by kernel_rfl) hS5 rfl ?_
                      simp only [List.getElem_toArray, List.getElem_cons_succ, List.getElem_cons_zero, Act.put, List.setIfInBounds_toArray, List.set_cons_zero, List.set_cons_succ]
                      refine rg_pass 17 rfl (by kernel_rfl) (by kernel_rfl) (by kernel_rfl) hS5 rfl ?_
                      simp only [List.getElem_toArray, List.getElem_cons_succ, List.getElem_cons_zero, Act.put, List.setIfInBounds_toArray, List.set_cons_zero, List.set_cons_succ]
                      refine rg_pass 18 rfl (by kernel_rfl) (by kernel_rfl) (by kernel_rfl) hS5 rfl ?_
                      simp only [List.getElem_toArray, List.getElem_cons_succ, List.getElem_cons_zero, Act.put, List.setIfInBounds_toArray, List.set_cons_zero, List.set_cons_succ]
                      refine rg_pass 19 rfl (by kernel_rfl) (by kernel_rfl) (by kernel_rfl) hS5 rfl ?_
                      simp only [List.getElem_toArray, List.getElem_cons_succ, List.getElem_cons_zero, Act.put, List.setIfInBounds_toArray, List.set_cons_zero, List.set_cons_succ]
                      refine rg_pass 20 rfl (by kernel_rfl) (by kernel_rfl) (by kernel_rfl) hS5 rfl ?_
                      simp only [List.getElem_toArray, List.getElem_cons_succ, List.getElem_cons_zero, Act.put, List.setIfInBounds_toArray, List.set_cons_zero, List.set_cons_succ]
                      refine rg_pass 21 rfl (by kernel_rfl) (by kernel_rfl) (by kernel_rfl) hS5 rfl ?_
                      simp only [List.getElem_toArray, List.getElem_cons_succ, List.getElem_cons_zero, Act.put, List.setIfInBounds_toArray, List.set_cons_zero, List.set_cons_succ]
                      refine rg_pass 22 rfl (by kernel_rfl) (by kernel_rfl) (by kernel_rfl) hS5 rfl ?_
                      simp only [List.getElem_toArray, List.getElem_cons_succ, List.getElem_cons_zero, Act.put, List.setIfInBounds_toArray, List.set_cons_zero, List.set_cons_succ]
                      refine rg_pass 23 rfl (by kernel_rfl) (by kernel_rfl) (by kernel_rfl) hS5 rfl ?_
                      simp only [List.getElem_toArray, List.getElem_cons_succ, List.getElem_cons_zero, Act.put, List.setIfInBounds_toArray, List.set_cons_zero, List.set_cons_succ]
                      refine rg_pass 24 rfl (by kernel_rfl) (by kernel_rfl) (by kernel_rfl) hS5 rfl ?_
                      simp only [List.getElem_toArray, List.getElem_cons_succ, List.getElem_cons_zero, Act.put, List.setIfInBounds_toArray, List.set_cons_zero, List.set_cons_succ]
                      refine rg_pass 25 rfl (by kernel_rfl) (by kernel_rfl) (by kernel_rfl) hS5 rfl ?_
                      simp only [List.getElem_toArray, List.getElem_cons_succ, List.getElem_cons_zero, Act.put, List.setIfInBounds_toArray, List.set_cons_zero, List.set_cons_succ]
                      refine rg_pass 26 rfl (by kernel_rfl) (by kernel_rfl) (by kernel_rfl) hS5 rfl ?_
                      simp only [List.getElem_toArray, List.getElem_cons_succ, List.getElem_cons_zero, Act.put, List.setIfInBounds_toArray, List.set_cons_zero, List.set_cons_succ]
                      refine rg_pass 27 rfl (by kernel_rfl) (by kernel_rfl) (by kernel_rfl) hS5 rfl ?_
                      simp only [List.getElem_toArray, List.getElem_cons_succ, List.getElem_cons_zero, Act.put, List.setIfInBounds_toArray, List.set_cons_zero, List.set_cons_succ]
                      refine rg_pass 28 rfl (by kernel_rfl) (by kernel_rfl) (by kernel_rfl) hS5 rfl ?_
                      simp only [List.getElem_toArray, List.getElem_cons_succ, List.getElem_cons_zero, Act.put, List.setIfInBounds_toArray, List.set_cons_zero, List.set_cons_succ]
                      refine rg_take 29 (v := ?_) rfl (by kernel_rfl) (by kernel_rfl) (by kernel_rfl) hS5 rfl ?_ ?_
                      rotate_left
                      · intro wS hSw; go_simp; (with_reducible rfl)
                      simp only [List.getElem_toArray, List.getElem_cons_succ, List.getElem_cons_zero, Act.put, List.setIfInBounds_toArray, List.set_cons_zero, List.set_cons_succ]
                      refine rg_take 30 (v := ?_) rfl (by kernel_rfl) (by kernel_rfl) (by kernel_rfl) hS5 rfl ?_ ?_
                      rotate_left
                      · intro wS hSw; go_simp; (with_reducible rfl)
                      simp only [List.getElem_toArray, List.getElem_cons_succ, List.getElem_cons_zero, Act.put, List.setIfInBounds_toArray, List.set_cons_zero, List.set_cons_succ]
                      refine rg_end (by kernel_rfl) ?_
                      go_wp2_with (first | (with_reducible refine hold_append ?_) | (with_reducible refine hold_make ?_) | (with_reducible refine hold_copy ?_))
                      exact ⟨⟨0 + 1, by omega, by first | rfl | go_num, HS1, by have h := hS5.1; simp only [c3, c4] at h; exact h⟩, by simp [RowKit.intOf]; omega⟩
                    · obtain ⟨j, rfl⟩ : ∃ j, k = j + 1 := ⟨k - 1, by omega⟩
                      obtain ⟨q, hq1, hq2, hq3⟩ := hprev j rfl
                      have hcq := fun W => hcmp q hq2 W
                      have HQ := Lib.hid hq1
                      have hjn : (j : Int) < (n : Int) := by omega
                      have hjn1 : (j : Int) + 1 < (n : Int) := by omega
                      have hjn2 : (0 : Int) ≤ (j : Int) + 1 := by omega
                      have hwj : IntKind.i64.wrap (j : Int) = (j : Int) := IntWalk.i64_in _ ⟨by omega, by omega⟩
                      clear hcmp hprev hq1 hq2
                      obtain ⟨qf, qg, qh⟩ := q
                      simp only [xdV] at hcq
                      simp only at hq3
                      have HCM : Hid (∀ v, Xd.cmp ⟨qf, qg, qh⟩ ⟨xf, xg, xh⟩ = v → (v < 0 ↔ nm.take (j + 1 + 1) = xdSort (nm.take (j + 1 + 1)))) := Lib.hid (fun v hv => by
                        rw [HST.out, ← hv]
                        constructor
                        · intro h; exact ⟨rfl, .inr ⟨_, HQ.out, h⟩⟩
                        · rintro ⟨_, h | ⟨q', h1, h2⟩⟩
                          · omega
                          · rw [HQ.out] at h1; injection h1 with h1; rw [h1]; exact h2)
                      generalize hcv : Xd.cmp ⟨qf, qg, qh⟩ ⟨xf, xg, xh⟩ = v at *
                      have HV := Lib.hid (HCM.out v rfl)
                      clear HCM HST
                      refine rg_take 14 (v := ?_) rfl (by kernel_rfl) (by kernel_rfl) (by kernel_rfl) hS5 rfl ?_ ?_
                      rotate_left
                      · intro wS hSw; go_simp; (with_reducible rfl)
                      simp only [List.getElem_toArray, List.getElem_cons_succ, List.getElem_cons_zero, Act.put, List.setIfInBounds_toArray, List.set_cons_zero, List.set_cons_succ]
                      refine rg_take 15 (v := ?_) rfl (by kernel_rfl) (by kernel_rfl) (by kernel_rfl) hS5 rfl ?_ ?_
                      rotate_left
                      · intro wS hSw; go_simp; (with_reducible rfl)
                      simp only [List.getElem_toArray, List.getElem_cons_succ, List.getElem_cons_zero, Act.put, List.setIfInBounds_toArray, List.set_cons_zero, List.set_cons_succ]
                      refine rg_take 16 (v := ?_) rfl (by kernel_rfl) (by kernel_rfl) (by kernel_rfl) hS5 rfl ?_ ?_
                      rotate_left
                      · intro wS hSw; go_simp; (with_reducible rfl)
                      simp only [List.getElem_toArray, List.getElem_cons_succ, List.getElem_cons_zero, Act.put, List.setIfInBounds_toArray, List.set_cons_zero, List.set_cons_succ]
                      refine rg_take 17 (v := ?_) rfl (by kernel_rfl) (by kernel_rfl) (by kernel_rfl) hS5 rfl ?_ ?_
                      rotate_left
                      · intro wS hSw
                        have k0 := hSw.1.cell (j := 6) rfl
                        go_simp
                        (with_reducible rfl)
                      simp only [List.getElem_toArray, List.getElem_cons_succ, List.getElem_cons_zero, Act.put, List.setIfInBounds_toArray, List.set_cons_zero, List.set_cons_succ]
                      refine rg_take 18 (v := ?_) rfl (by kernel_rfl) (by kernel_rfl) (by kernel_rfl) hS5 rfl ?_ ?_
                      rotate_left
                      · intro wS hSw; go_simp; (with_reducible rfl)
                      simp only [List.getElem_toArray, List.getElem_cons_succ, List.getElem_cons_zero, Act.put, List.setIfInBounds_toArray, List.set_cons_zero, List.set_cons_succ]
                      refine rg_take 19 (v := ?_) rfl (by kernel_rfl) (by kernel_rfl) (by kernel_rfl) hS5 rfl ?_ ?_
                      rotate_left
                      · intro wS hSw; go_simp; (with_reducible rfl)
                      simp only [List.getElem_toArray, List.getElem_cons_succ, List.getElem_cons_zero, Act.put, List.setIfInBounds_toArray, List.set_cons_zero, List.set_cons_succ]
                      refine rg_take 20 (v := ?_) rfl (by kernel_rfl) (by kernel_rfl) (by kernel_rfl) hS5 rfl ?_ ?_
                      rotate_left
                      · intro wS hSw; go_simp; (with_reducible rfl)
                      simp only [List.getElem_toArray, List.getElem_cons_succ, List.getElem_cons_zero, Act.put, List.setIfInBounds_toArray, List.set_cons_zero, List.set_cons_succ]
                      refine rg_take 21 (v := ?_) rfl (by kernel_rfl) (by kernel_rfl) (by kernel_rfl) hS5 rfl ?_ ?_
                      rotate_left
                      · intro wS hSw
                        have k0 := hq3.1 _ hSw.2
                        have k1 := hq3.2.1 _ hSw.2
                        have k2 := hq3.2.2 _ hSw.2
                        go_simp
                        (with_reducible rfl)
                      simp only [List.getElem_toArray, List.getElem_cons_succ, List.getElem_cons_zero, Act.put, List.setIfInBounds_toArray, List.set_cons_zero, List.set_cons_succ]
                      refine rg_take 22 (v := ?_) rfl (by kernel_rfl) (by kernel_rfl) (by kernel_rfl) hS5 rfl ?_ ?_
                      rotate_left
                      · intro wS hSw; go_simp; (with_reducible rfl)
                      simp only [List.getElem_toArray, List.getElem_cons_succ, List.getElem_cons_zero, Act.put, List.setIfInBounds_toArray, List.set_cons_zero, List.set_cons_succ]
                      refine rg_take 23 (v := ?_) rfl (by kernel_rfl) (by kernel_rfl) (by kernel_rfl) hS5 rfl ?_ ?_
                      rotate_left
                      · intro wS hSw
                        have k0 := hSw.1.cell (j := 6) rfl
                        go_simp
                        (with_reducible rfl)
                      simp only [List.getElem_toArray, List.getElem_cons_succ, List.getElem_cons_zero, Act.put, List.setIfInBounds_toArray, List.set_cons_zero, List.set_cons_succ]
                      refine rg_take 24 (v := ?_) rfl (by kernel_rfl) (by kernel_rfl) (by kernel_rfl) hS5 rfl ?_ ?_
                      rotate_left
                      · intro wS hSw; go_simp; (with_reducible rfl)
                      simp only [List.getElem_toArray, List.getElem_cons_succ, List.getElem_cons_zero, Act.put, List.setIfInBounds_toArray, List.set_cons_zero, List.set_cons_succ]
                      refine rg_take 25 (v := ?_) rfl (by kernel_rfl) (by kernel_rfl) (by kernel_rfl) hS5 rfl ?_ ?_
                      rotate_left
                      · intro wS hSw; go_simp; (with_reducible rfl)
                      simp only [List.getElem_toArray, List.getElem_cons_succ, List.getElem_cons_zero, Act.put, List.setIfInBounds_toArray, List.set_cons_zero, List.set_cons_succ]
                      refine rg_take 26 (v := ?_) rfl (by kernel_rfl) (by kernel_rfl) (by kernel_rfl) hS5 rfl ?_ ?_
                      rotate_left
                      · intro wS hSw
                        have k0 := hck1.1 _ hSw.2
                        have k1 := hck1.2.1 _ hSw.2
                        have k2 := hck1.2.2 _ hSw.2
                        go_simp
                        (with_reducible rfl)
                      simp only [List.getElem_toArray, List.getElem_cons_succ, List.getElem_cons_zero, Act.put, List.setIfInBounds_toArray, List.set_cons_zero, List.set_cons_succ]
                      refine rg_one 27 rfl (by kernel_rfl) rfl (fun K hK => ?_)
                      go_simp
                      refine (hcq _).mono ?_
                      rintro e w6 ⟨rfl, hB6⟩
                      have hS6 : Box w6 w.heap.size 33 #[.int .u8 21, .int .u32 (f : Int), .string (str g), .string (str h), .int .u8 (xa : Int), .int .u16 (no : Int), .slice (some ⟨b, off, none⟩) n c] ∧ Below w.heap.size w w6 := ⟨hS5.1.below hB6, hS5.2.trans (hB6.mono hS5.2.size)⟩
                      refine hK _ _ hS6 ?_
                      clear hK K hB6 hS5 hcq hcv
                      by_cases hv : v < 0
                      · have HS1 := Lib.hid (HV.out.1 hv)
                        have d9 : decide ((0 : Int) ≤ v) = false := by simp; omega
                        clear HV HBADS
                        refine rg_take 28 (v := ?_) rfl (by kernel_rfl) (by kernel_rfl) (by kernel_rfl) hS6 rfl ?_ ?_
                        rotate_left
                        · intro wS hSw; go_simp; (with_reducible rfl)
                        simp only [List.getElem_toArray, List.getElem_cons_succ, List.getElem_cons_zero, Act.put, List.setIfInBounds_toArray, List.set_cons_zero, List.set_cons_succ]
                        refine rg_take 29 (v := ?_) rfl (by kernel_rfl) (by kernel_rfl) (by kernel_rfl) hS6 rfl ?_ ?_
                        rotate_left
                        · intro wS hSw; go_simp; (with_reducible rfl)
                        simp only [List.getElem_toArray, List.getElem_cons_succ, List.getElem_cons_zero, Act.put, List.setIfInBounds_toArray, List.set_cons_zero, List.set_cons_succ]
                        refine rg_take 30 (v := ?_) rfl (by kernel_rfl) (by kernel_rfl) (by kernel_rfl) hS6 rfl ?_ ?_
                        rotate_left
                        · intro wS hSw; go_simp; (with_reducible rfl)
                        simp only [List.getElem_toArray, List.getElem_cons_succ, List.getElem_cons_zero, Act.put, List.setIfInBounds_toArray, List.set_cons_zero, List.set_cons_succ]
                        refine rg_end (by kernel_rfl) ?_
                        go_wp2_with (first | (with_reducible refine hold_append ?_) | (with_reducible refine hold_make ?_) | (with_reducible refine hold_copy ?_))
                        exact ⟨⟨j + 1 + 1, by omega, by first | go_num | omega, HS1, by have h := hS6.1; simp only [c3, c4] at h; exact h⟩, by simp [RowKit.intOf]; omega⟩
                      · have HE : Hid (R = 250) := Lib.hid (HBADS.out (fun e => hv (HV.out.2 e)))
                        have d9 : decide ((0 : Int) ≤ v) = true := by simp; omega
                        clear HV HBADS
                        refine rg_take 28 (v := ?_) rfl (by kernel_rfl) (by kernel_rfl) (by kernel_rfl) hS6 rfl ?_ ?_
                        rotate_left
                        · intro wS hSw; go_simp; (with_reducible rfl)
                        simp only [List.getElem_toArray, List.getElem_cons_succ, List.getElem_cons_zero, Act.put, List.setIfInBounds_toArray, List.set_cons_zero, List.set_cons_succ]
                        refine rg_take 29 (v := ?_) rfl (by kernel_rfl) (by kernel_rfl) (by kernel_rfl) hS6 rfl ?_ ?_
                        rotate_left
                        · intro wS hSw; go_simp; (with_reducible rfl)
                        simp only [List.getElem_toArray, List.getElem_cons_succ, List.getElem_cons_zero, Act.put, List.setIfInBounds_toArray, List.set_cons_zero, List.set_cons_succ]
                        refine rg_take 30 (v := ?_) rfl (by kernel_rfl) (by kernel_rfl) (by kernel_rfl) hS6 rfl ?_ ?_
                        rotate_left
                        · intro wS hSw; go_simp; (with_reducible rfl)
                        simp only [List.getElem_toArray, List.getElem_cons_succ, List.getElem_cons_zero, Act.put, List.setIfInBounds_toArray, List.set_cons_zero, List.set_cons_succ]
                        refine rg_end (by kernel_rfl) ?_
                        go_wp2_with (first | (with_reducible refine hold_append ?_) | (with_reducible refine hold_make ?_) | (with_reducible refine hold_copy ?_))
                        go_ret
                        rw [HE.out]
                        exact ⟨rfl, hS6.2⟩
                · obtain rfl : k = n := by omega
                  have HE : Hid (R = 0) := Lib.hid (by
                    have h1 := HSK.out
                    rw [List.take_of_length_le (by rw [HLN.out]; exact Nat.le_refl _)] at h1
                    rw [HNM.out, HSO0.out, decide_eq_true h1]; rfl)
                  have x6 := hbr.cell (j := 6) rfl
                  go_wp2_with (first | (with_reducible refine hold_append ?_) | (with_reducible refine hold_make ?_) | (with_reducible refine hold_copy ?_))
                  go_ret
                  rw [HE.out]
                  exact ⟨rfl, hBr⟩
            · have d4 : decide ((0 : Int) < (no : Int)) = true := by simp; omega
              have d4' : 0 < no := by omega
              have HE : Hid (R = 250) := Lib.hid (by rw [HR.out]; first | exact lr_A (by omega) | exact lr_B (by omega) | exact lr_C (by omega) | exact lr_D (by omega) | exact lr_E (by omega))
              clear HR
              go_wp2_with (first | (with_reducible refine hold_append ?_) | (with_reducible refine hold_make ?_) | (with_reducible refine hold_copy ?_))
              go_ret
              rw [HE.out]
              exact ⟨rfl, (hS0).2⟩
          · have d3 : decide ((0 : Int) < (xa : Int)) = true := by simp; omega
            have d3' : 0 < xa := by omega
            by_cases c4 : no = 0
            · have d4 : decide ((0 : Int) < (no : Int)) = false := by simp; omega
              have d4' : decide (0 < no) = false := by simp; omega
              have HE : Hid (R = 250) := Lib.hid (by rw [HR.out]; first | exact lr_A (by omega) | exact lr_B (by omega) | exact lr_C (by omega) | exact lr_D (by omega) | exact lr_E (by omega))
              clear HR
              go_wp2_with (first | (with_reducible refine hold_append ?_) | (with_reducible refine hold_make ?_) | (with_reducible refine hold_copy ?_))
              go_ret
              rw [HE.out]
              exact ⟨rfl, (hS0).2⟩
            · have d4 : decide ((0 : Int) < (no : Int)) = true := by simp; omega
              have d4' : 0 < no := by omega
              have HE : Hid (R = 250) := Lib.hid (by rw [HR.out]; first | exact lr_A (by omega) | exact lr_B (by omega) | exact lr_C (by omega) | exact lr_D (by omega) | exact lr_E (by omega))
              clear HR
              go_wp2_with (first | (with_reducible refine hold_append ?_) | (with_reducible refine hold_make ?_) | (with_reducible refine hold_copy ?_))
              go_ret
              rw [HE.out]
              exact ⟨rfl, (hS0).2⟩
end Go.PH
end

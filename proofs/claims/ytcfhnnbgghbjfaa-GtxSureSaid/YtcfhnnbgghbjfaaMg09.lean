/- Texts laid together: GtLtC, GtNewMath. -/
import Derived.Test.YtcfhnnbgghbjfaaMg01
import Derived.Test.YtcfhnnbgghbjfaaMg03
import Derived.Test.YtcfhnnbgghbjfaaMg06
import Derived.Test.YtcfhnnbgghbjfaaMg08
section
/- The walk of letter's Check. -/
set_option linter.all false
set_option linter.unusedSimpArgs false
set_option linter.unusedVariables false
namespace Go.PH
open Go.RowKit Go.Proofs

set_option maxRecDepth 20000 in
set_option maxHeartbeats 1000000 in
theorem lcheck_any (l : Lt) (A : Option Addr) (n c : Nat) (B : Nat) (w : World) (hl : l.wf) (hr : RdX w B A n c l.names) (hB : B ≤ w.heap.size) (hn : n ≤ 1000000) :
    Calls Try.prog 38 #[.agg (ltV l A n c)] w fun e w' => e = .returned (.int .i64 (ltErr l : Int)) ∧ Below w.heap.size w w' := by
  have hnames := fun W hW => names_any A n c l.names B W (hr.below' hW hB) (Nat.le_trans hB hW.size) (fun x hx => hl.2.2.2.2 x hx) hn
  have hln := rec_length xdShape hr
  have hck := fun W => check_any l.x W hl.2.1
  have hkd := hl.1
  have hno := hl.2.2.2.1
  obtain ⟨R, hR⟩ : ∃ R, R = ltErr l := ⟨_, rfl⟩
  rw [← hR]
  clear hl hr
  obtain ⟨kd, x, xa, no, nm⟩ := l
  have HR := Lib.hid (hR.trans (ltErr_asks kd x xa no nm))
  simp only at hnames hln hck hkd hno
  have hak := fun W => asks_any kd W hkd
  unfold ltV
  simp only
  rw [hln] at HR
  simp only [hln] at hnames
  clear hR hln
  have hneq := fun w => xid_neqC x xd0' w
  have HE0 : Hid (x.err = if x.ok then 0 else 40) := Lib.hid rfl
  generalize x.err = er at *
  generalize x.ok = ok at *
  generalize decide (x = xd0') = dx at *
  generalize (decide (n ≤ 200) && decide (nm = xdSort nm)) = nok at *
  generalize (askP kd).1 = kk at *
  generalize (askP kd).2 = an at *
  obtain ⟨f, g, h⟩ := x
  have hneq2 : ∀ w, (binOp .neq 24 (.agg #[.int .u32 (f : Int), .string (str g), .string (str h)]) (.agg #[.int .u32 0, .string ⟨#[]⟩, .string ⟨#[]⟩])).run Try.prog w = .ok (.bool (!dx)) w := hneq
  clear hneq
  simp only [xdV] at hck
  have hb0 := Box.new w #[.int .u8 (kd : Int), .int .u32 (f : Int), .string (str g), .string (str h), .int .u8 (xa : Int), .int .u16 (no : Int), .slice A n c] 33
  have hB0 := (Below.refl w.heap.size w).alloc (Nat.le_refl _) (.cells #[.int .u8 (kd : Int), .int .u32 (f : Int), .string (str g), .string (str h), .int .u8 (xa : Int), .int .u16 (no : Int), .slice A n c] 33)
  obtain ⟨w0, hw0⟩ : ∃ w0, w0 = (w.alloc (.cells #[.int .u8 (kd : Int), .int .u32 (f : Int), .string (str g), .string (str h), .int .u8 (xa : Int), .int .u16 (no : Int), .slice A n c] 33)) := ⟨_, rfl⟩
  rw [← hw0] at hb0 hB0
  have hgd := fun x y => run_eqGuard_agg (P := Try.prog) w0 .neq 24 x y #[.int .u32 (f : Int), .string (str g), .string (str h)] #[.int .u32 0, .string ⟨#[]⟩, .string ⟨#[]⟩] xid_guard
  have x0 := hb0.cell (j := 0) rfl
  have x1 := hb0.cell (j := 1) rfl
  have x2 := hb0.cell (j := 2) rfl
  have x3 := hb0.cell (j := 3) rfl
  have x4 := hb0.cell (j := 4) rfl
  have x5 := hb0.cell (j := 5) rfl
  have x6 := hb0.cell (j := 6) rfl
  go_enter Try.func38, Try.ntmps38
  go_upto_region 1 with fail
  rw [← hw0]
  clear hw0
  go_wp2_with (first | (with_reducible refine hold_append ?_) | (with_reducible refine hold_make ?_) | (with_reducible refine hold_copy ?_))
  refine (hak _).mono ?_
  rintro e w1 ⟨rfl, rfl⟩
  clear hak
  by_cases k0 : kk = 0
  · have d0 : ((kk : Int) == 0) = true := by simp; omega
    have HE : Hid (R = 250) := Lib.hid (by rw [HR.out]; first | exact lk_A (by omega) | exact lk_B (by omega) | exact lk_C (by omega) | exact lk_D (by omega) | exact lk_E (by omega) | exact lk_E5 (by omega) (by omega) | exact lk_F (by omega) | exact lk_F5 (by omega) (by omega) | exact lk_G (by assumption))
    clear HR
    go_wp2_with (first | (with_reducible refine hold_append ?_) | (with_reducible refine hold_make ?_) | (with_reducible refine hold_copy ?_))
    go_ret
    rw [HE.out]
    exact ⟨rfl, hB0⟩
  · have d0 : ((kk : Int) == 0) = false := by simp; omega
    by_cases k5 : kk = 5
    · have d5 : ((kk : Int) == 5) = true := by simp; omega
      cases dx
      · have HE : Hid (R = 250) := Lib.hid (by rw [HR.out]; first | exact lk_A (by omega) | exact lk_B (by omega) | exact lk_C (by omega) | exact lk_D (by omega) | exact lk_E (by omega) | exact lk_E5 (by omega) (by omega) | exact lk_F (by omega) | exact lk_F5 (by omega) (by omega) | exact lk_G (by assumption))
        clear HR
        go_wp2_with (first | (with_reducible refine hold_append ?_) | (with_reducible refine hold_make ?_) | (with_reducible refine hold_copy ?_))
        go_ret
        rw [HE.out]
        exact ⟨rfl, hB0⟩
      · simp only [Bool.not_true] at hneq2
        cases an
        · by_cases c1 : 7 < xa
          · have d1 : decide ((7 : Int) < (xa : Int)) = true := by simp; omega
            have HE : Hid (R = 250) := Lib.hid (by rw [HR.out]; first | exact lk_A (by omega) | exact lk_B (by omega) | exact lk_C (by omega) | exact lk_D (by omega) | exact lk_E (by omega) | exact lk_E5 (by omega) (by omega) | exact lk_F (by omega) | exact lk_F5 (by omega) (by omega) | exact lk_G (by assumption))
            clear HR
            go_wp2_with (first | (with_reducible refine hold_append ?_) | (with_reducible refine hold_make ?_) | (with_reducible refine hold_copy ?_))
            go_ret
            rw [HE.out]
            exact ⟨rfl, hB0⟩
          · have d1 : decide ((7 : Int) < (xa : Int)) = false := by simp; omega
            by_cases c2 : 999 < no
            · have d2 : decide ((999 : Int) < (no : Int)) = true := by simp; omega
              have HE : Hid (R = 250) := Lib.hid (by rw [HR.out]; first | exact lk_A (by omega) | exact lk_B (by omega) | exact lk_C (by omega) | exact lk_D (by omega) | exact lk_E (by omega) | exact lk_E5 (by omega) (by omega) | exact lk_F (by omega) | exact lk_F5 (by omega) (by omega) | exact lk_G (by assumption))
              clear HR
              go_wp2_with (first | (with_reducible refine hold_append ?_) | (with_reducible refine hold_make ?_) | (with_reducible refine hold_copy ?_))
              go_ret
              rw [HE.out]
              exact ⟨rfl, hB0⟩
            · have d2 : decide ((999 : Int) < (no : Int)) = false := by simp; omega
              by_cases c3 : xa = 0
              · have d3 : ((xa : Int) != 0) = false := by simp; omega
                by_cases c4 : no = 0
                · have d4 : ((no : Int) != 0) = false := by simp; omega
                  by_cases c5 : n = 0
                  · have d5 : decide ((0 : Int) < (n : Int)) = false := by simp; omega
                    have d5' : decide (0 < n) = false := by simp; omega
                    have H1 : Hid (nok = true → R = 0) := Lib.hid (fun hk => by rw [HR.out]; refine lk_ok (by omega) (by first | rw [if_pos (by omega)] | rw [if_neg (by omega)]) (by omega) (by first | exact .inr ⟨by omega, by omega⟩ | exact .inl ⟨rfl, by omega⟩) (by first | exact .inl (by omega) | exact .inr ⟨by omega, rfl⟩) hk)
                    have H2 : Hid (nok = false → R = 250) := Lib.hid (fun hk => by rw [HR.out]; exact lk_G hk)
                    clear HR c5
                    go_wp2_with (first | (with_reducible refine hold_append ?_) | (with_reducible refine hold_make ?_) | (with_reducible refine hold_copy ?_))
                    (with_reducible refine (hnames _ hB0).mono ?_)
                    rintro e w2 ⟨rfl, hB2⟩
                    have hB02 := hB0.trans (hB2.mono hB0.size)
                    cases nok
                    · have HE : Hid (R = 250) := Lib.hid (H2.out rfl)
                      clear H1 H2
                      go_wp2_with (first | (with_reducible refine hold_append ?_) | (with_reducible refine hold_make ?_) | (with_reducible refine hold_copy ?_))
                      go_ret
                      rw [HE.out]
                      exact ⟨rfl, hB02⟩
                    · have HE : Hid (R = 0) := Lib.hid (H1.out rfl)
                      clear H1 H2
                      go_wp2_with (first | (with_reducible refine hold_append ?_) | (with_reducible refine hold_make ?_) | (with_reducible refine hold_copy ?_))
                      go_ret
                      rw [HE.out]
                      exact ⟨rfl, hB02⟩
                  · have d5 : decide ((0 : Int) < (n : Int)) = true := by simp; omega
                    have d5' : 0 < n := by omega
                    have HE : Hid (R = 250) := Lib.hid (by rw [HR.out]; first | exact lk_A (by omega) | exact lk_B (by omega) | exact lk_C (by omega) | exact lk_D (by omega) | exact lk_E (by omega) | exact lk_E5 (by omega) (by omega) | exact lk_F (by omega) | exact lk_F5 (by omega) (by omega) | exact lk_G (by assumption))
                    clear HR
                    go_wp2_with (first | (with_reducible refine hold_append ?_) | (with_reducible refine hold_make ?_) | (with_reducible refine hold_copy ?_))
                    go_ret
                    rw [HE.out]
                    exact ⟨rfl, hB0⟩
                · have d4 : ((no : Int) != 0) = true := by simp; omega
                  have HE : Hid (R = 250) := Lib.hid (by rw [HR.out]; first | exact lk_A (by omega) | exact lk_B (by omega) | exact lk_C (by omega) | exact lk_D (by omega) | exact lk_E (by omega) | exact lk_E5 (by omega) (by omega) | exact lk_F (by omega) | exact lk_F5 (by omega) (by omega) | exact lk_G (by assumption))
                  clear HR
                  go_wp2_with (first | (with_reducible refine hold_append ?_) | (with_reducible refine hold_make ?_) | (with_reducible refine hold_copy ?_))
                  go_ret
                  rw [HE.out]
                  exact ⟨rfl, hB0⟩
              · have d3 : ((xa : Int) != 0) = true := by simp; omega
                by_cases c4 : no = 0
                · have d4 : ((no : Int) != 0) = false := by simp; omega
                  have HE : Hid (R = 250) := Lib.hid (by rw [HR.out]; first | exact lk_A (by omega) | exact lk_B (by omega) | exact lk_C (by omega) | exact lk_D (by omega) | exact lk_E (by omega) | exact lk_E5 (by omega) (by omega) | exact lk_F (by omega) | exact lk_F5 (by omega) (by omega) | exact lk_G (by assumption))
                  clear HR
                  go_wp2_with (first | (with_reducible refine hold_append ?_) | (with_reducible refine hold_make ?_) | (with_reducible refine hold_copy ?_))
                  go_ret
                  rw [HE.out]
                  exact ⟨rfl, hB0⟩
                · have d4 : ((no : Int) != 0) = true := by simp; omega
                  have HE : Hid (R = 250) := Lib.hid (by rw [HR.out]; first | exact lk_A (by omega) | exact lk_B (by omega) | exact lk_C (by omega) | exact lk_D (by omega) | exact lk_E (by omega) | exact lk_E5 (by omega) (by omega) | exact lk_F (by omega) | exact lk_F5 (by omega) (by omega) | exact lk_G (by assumption))
                  clear HR
                  go_wp2_with (first | (with_reducible refine hold_append ?_) | (with_reducible refine hold_make ?_) | (with_reducible refine hold_copy ?_))
                  go_ret
                  rw [HE.out]
                  exact ⟨rfl, hB0⟩
        · by_cases c1 : 7 < xa
          · have d1 : decide ((7 : Int) < (xa : Int)) = true := by simp; omega
            have HE : Hid (R = 250) := Lib.hid (by rw [HR.out]; first | exact lk_A (by omega) | exact lk_B (by omega) | exact lk_C (by omega) | exact lk_D (by omega) | exact lk_E (by omega) | exact lk_E5 (by omega) (by omega) | exact lk_F (by omega) | exact lk_F5 (by omega) (by omega) | exact lk_G (by assumption))
            clear HR
            go_wp2_with (first | (with_reducible refine hold_append ?_) | (with_reducible refine hold_make ?_) | (with_reducible refine hold_copy ?_))
            go_ret
            rw [HE.out]
            exact ⟨rfl, hB0⟩
          · have d1 : decide ((7 : Int) < (xa : Int)) = false := by simp; omega
            by_cases c2 : 999 < no
            · have d2 : decide ((999 : Int) < (no : Int)) = true := by simp; omega
              have HE : Hid (R = 250) := Lib.hid (by rw [HR.out]; first | exact lk_A (by omega) | exact lk_B (by omega) | exact lk_C (by omega) | exact lk_D (by omega) | exact lk_E (by omega) | exact lk_E5 (by omega) (by omega) | exact lk_F (by omega) | exact lk_F5 (by omega) (by omega) | exact lk_G (by assumption))
              clear HR
              go_wp2_with (first | (with_reducible refine hold_append ?_) | (with_reducible refine hold_make ?_) | (with_reducible refine hold_copy ?_))
              go_ret
              rw [HE.out]
              exact ⟨rfl, hB0⟩
            · have d2 : decide ((999 : Int) < (no : Int)) = false := by simp; omega
              by_cases c3 : xa = 0
              · have d3 : ((xa : Int) != 0) = false := by simp; omega
                by_cases c4 : no = 0
                · have d4 : ((no : Int) != 0) = false := by simp; omega
                  by_cases c5 : n = 0
                  · have d5 : decide ((0 : Int) < (n : Int)) = false := by simp; omega
                    have d5' : decide (0 < n) = false := by simp; omega
                    have H1 : Hid (nok = true → R = 0) := Lib.hid (fun hk => by rw [HR.out]; refine lk_ok (by omega) (by first | rw [if_pos (by omega)] | rw [if_neg (by omega)]) (by omega) (by first | exact .inr ⟨by omega, by omega⟩ | exact .inl ⟨rfl, by omega⟩) (by first | exact .inl (by omega) | exact .inr ⟨by omega, rfl⟩) hk)
                    have H2 : Hid (nok = false → R = 250) := Lib.hid (fun hk => by rw [HR.out]; exact lk_G hk)
                    clear HR c5
                    go_wp2_with (first | (with_reducible refine hold_append ?_) | (with_reducible refine hold_make ?_) | (with_reducible refine hold_copy ?_))
                    (with_reducible refine (hnames _ hB0).mono ?_)
                    rintro e w2 ⟨rfl, hB2⟩
                    have hB02 := hB0.trans (hB2.mono hB0.size)
                    cases nok
                    · have HE : Hid (R = 250) := Lib.hid (H2.out rfl)
                      clear H1 H2
                      go_wp2_with (first | (with_reducible refine hold_append ?_) | (with_reducible refine hold_make ?_) | (with_reducible refine hold_copy ?_))
                      go_ret
                      rw [HE.out]
                      exact ⟨rfl, hB02⟩
                    · have HE : Hid (R = 0) := Lib.hid (H1.out rfl)
                      clear H1 H2
                      go_wp2_with (first | (with_reducible refine hold_append ?_) | (with_reducible refine hold_make ?_) | (with_reducible refine hold_copy ?_))
                      go_ret
                      rw [HE.out]
                      exact ⟨rfl, hB02⟩
                  · have d5 : decide ((0 : Int) < (n : Int)) = true := by simp; omega
                    have d5' : 0 < n := by omega
                    have H1 : Hid (nok = true → R = 0) := Lib.hid (fun hk => by rw [HR.out]; refine lk_ok (by omega) (by first | rw [if_pos (by omega)] | rw [if_neg (by omega)]) (by omega) (by first | exact .inr ⟨by omega, by omega⟩ | exact .inl ⟨rfl, by omega⟩) (by first | exact .inl (by omega) | exact .inr ⟨by omega, rfl⟩) hk)
                    have H2 : Hid (nok = false → R = 250) := Lib.hid (fun hk => by rw [HR.out]; exact lk_G hk)
                    clear HR c5
                    go_wp2_with (first | (with_reducible refine hold_append ?_) | (with_reducible refine hold_make ?_) | (with_reducible refine hold_copy ?_))
                    (with_reducible refine (hnames _ hB0).mono ?_)
                    rintro e w2 ⟨rfl, hB2⟩
                    have hB02 := hB0.trans (hB2.mono hB0.size)
                    cases nok
                    · have HE : Hid (R = 250) := Lib.hid (H2.out rfl)
                      clear H1 H2
                      go_wp2_with (first | (with_reducible refine hold_append ?_) | (with_reducible refine hold_make ?_) | (with_reducible refine hold_copy ?_))
                      go_ret
                      rw [HE.out]
                      exact ⟨rfl, hB02⟩
                    · have HE : Hid (R = 0) := Lib.hid (H1.out rfl)
                      clear H1 H2
                      go_wp2_with (first | (with_reducible refine hold_append ?_) | (with_reducible refine hold_make ?_) | (with_reducible refine hold_copy ?_))
                      go_ret
                      rw [HE.out]
                      exact ⟨rfl, hB02⟩
                · have d4 : ((no : Int) != 0) = true := by simp; omega
                  have HE : Hid (R = 250) := Lib.hid (by rw [HR.out]; first | exact lk_A (by omega) | exact lk_B (by omega) | exact lk_C (by omega) | exact lk_D (by omega) | exact lk_E (by omega) | exact lk_E5 (by omega) (by omega) | exact lk_F (by omega) | exact lk_F5 (by omega) (by omega) | exact lk_G (by assumption))
                  clear HR
                  go_wp2_with (first | (with_reducible refine hold_append ?_) | (with_reducible refine hold_make ?_) | (with_reducible refine hold_copy ?_))
                  go_ret
                  rw [HE.out]
                  exact ⟨rfl, hB0⟩
              · have d3 : ((xa : Int) != 0) = true := by simp; omega
                by_cases c4 : no = 0
                · have d4 : ((no : Int) != 0) = false := by simp; omega
                  have HE : Hid (R = 250) := Lib.hid (by rw [HR.out]; first | exact lk_A (by omega) | exact lk_B (by omega) | exact lk_C (by omega) | exact lk_D (by omega) | exact lk_E (by omega) | exact lk_E5 (by omega) (by omega) | exact lk_F (by omega) | exact lk_F5 (by omega) (by omega) | exact lk_G (by assumption))
                  clear HR
                  go_wp2_with (first | (with_reducible refine hold_append ?_) | (with_reducible refine hold_make ?_) | (with_reducible refine hold_copy ?_))
                  go_ret
                  rw [HE.out]
                  exact ⟨rfl, hB0⟩
                · have d4 : ((no : Int) != 0) = true := by simp; omega
                  have HE : Hid (R = 250) := Lib.hid (by rw [HR.out]; first | exact lk_A (by omega) | exact lk_B (by omega) | exact lk_C (by omega) | exact lk_D (by omega) | exact lk_E (by omega) | exact lk_E5 (by omega) (by omega) | exact lk_F (by omega) | exact lk_F5 (by omega) (by omega) | exact lk_G (by assumption))
                  clear HR
                  go_wp2_with (first | (with_reducible refine hold_append ?_) | (with_reducible refine hold_make ?_) | (with_reducible refine hold_copy ?_))
                  go_ret
                  rw [HE.out]
                  exact ⟨rfl, hB0⟩
    · have d5 : ((kk : Int) == 5) = false := by simp; omega
      go_upto_region 4 with fail
      go_wp2_with (first | (with_reducible refine hold_append ?_) | (with_reducible refine hold_make ?_) | (with_reducible refine hold_copy ?_))
      refine (hck _).mono ?_
      rintro e w3 ⟨rfl, hB3⟩
      have hb3 := hb0.below hB3
      have hB03 := hB0.trans (hB3.mono hB0.size)
      clear x0 x1 x2 x3 x4 x5 x6 hgd hck
      have x0 := hb3.cell (j := 0) rfl
      have x1 := hb3.cell (j := 1) rfl
      have x2 := hb3.cell (j := 2) rfl
      have x3 := hb3.cell (j := 3) rfl
      have x4 := hb3.cell (j := 4) rfl
      have x5 := hb3.cell (j := 5) rfl
      have x6 := hb3.cell (j := 6) rfl
      cases ok
      · obtain rfl : er = 40 := by have := HE0.out; simpa using this
        clear HE0
        have HE : Hid (R = 250) := Lib.hid (by rw [HR.out]; first | exact lk_A (by omega) | exact lk_B (by omega) | exact lk_C (by omega) | exact lk_D (by omega) | exact lk_E (by omega) | exact lk_E5 (by omega) (by omega) | exact lk_F (by omega) | exact lk_F5 (by omega) (by omega) | exact lk_G (by assumption))
        clear HR
        go_wp2_with (first | (with_reducible refine hold_append ?_) | (with_reducible refine hold_make ?_) | (with_reducible refine hold_copy ?_))
        go_ret
        rw [HE.out]
        exact ⟨rfl, hB03⟩
      · obtain rfl : er = 0 := by have := HE0.out; simpa using this
        clear HE0
        cases an
        · by_cases c1 : 7 < xa
          · have d1 : decide ((7 : Int) < (xa : Int)) = true := by simp; omega
            have HE : Hid (R = 250) := Lib.hid (by rw [HR.out]; first | exact lk_A (by omega) | exact lk_B (by omega) | exact lk_C (by omega) | exact lk_D (by omega) | exact lk_E (by omega) | exact lk_E5 (by omega) (by omega) | exact lk_F (by omega) | exact lk_F5 (by omega) (by omega) | exact lk_G (by assumption))
            clear HR
            go_wp2_with (first | (with_reducible refine hold_append ?_) | (with_reducible refine hold_make ?_) | (with_reducible refine hold_copy ?_))
            go_ret
            rw [HE.out]
            exact ⟨rfl, hB03⟩
          · have d1 : decide ((7 : Int) < (xa : Int)) = false := by simp; omega
            by_cases c2 : 999 < no
            · have d2 : decide ((999 : Int) < (no : Int)) = true := by simp; omega
              have HE : Hid (R = 250) := Lib.hid (by rw [HR.out]; first | exact lk_A (by omega) | exact lk_B (by omega) | exact lk_C (by omega) | exact lk_D (by omega) | exact lk_E (by omega) | exact lk_E5 (by omega) (by omega) | exact lk_F (by omega) | exact lk_F5 (by omega) (by omega) | exact lk_G (by assumption))
              clear HR
              go_wp2_with (first | (with_reducible refine hold_append ?_) | (with_reducible refine hold_make ?_) | (with_reducible refine hold_copy ?_))
              go_ret
              rw [HE.out]
              exact ⟨rfl, hB03⟩
            · have d2 : decide ((999 : Int) < (no : Int)) = false := by simp; omega
              by_cases c3 : xa = 0
              · have d3 : ((xa : Int) != 0) = false := by simp; omega
                by_cases c4 : no = 0
                · have d4 : ((no : Int) != 0) = false := by simp; omega
                  by_cases c5 : n = 0
                  · have d5 : decide ((0 : Int) < (n : Int)) = false := by simp; omega
                    have d5' : decide (0 < n) = false := by simp; omega
                    have H1 : Hid (nok = true → R = 0) := Lib.hid (fun hk => by rw [HR.out]; refine lk_ok (by omega) (by first | rw [if_pos (by omega)] | rw [if_neg (by omega)]) (by omega) (by first | exact .inr ⟨by omega, by omega⟩ | exact .inl ⟨rfl, by omega⟩) (by first | exact .inl (by omega) | exact .inr ⟨by omega, rfl⟩) hk)
                    have H2 : Hid (nok = false → R = 250) := Lib.hid (fun hk => by rw [HR.out]; exact lk_G hk)
                    clear HR c5
                    go_wp2_with (first | (with_reducible refine hold_append ?_) | (with_reducible refine hold_make ?_) | (with_reducible refine hold_copy ?_))
                    (with_reducible refine (hnames _ hB03).mono ?_)
                    rintro e w2 ⟨rfl, hB2⟩
                    have hB02 := hB03.trans (hB2.mono hB03.size)
                    cases nok
                    · have HE : Hid (R = 250) := Lib.hid (H2.out rfl)
                      clear H1 H2
                      go_wp2_with (first | (with_reducible refine hold_append ?_) | (with_reducible refine hold_make ?_) | (with_reducible refine hold_copy ?_))
                      go_ret
                      rw [HE.out]
                      exact ⟨rfl, hB02⟩
                    · have HE : Hid (R = 0) := Lib.hid (H1.out rfl)
                      clear H1 H2
                      go_wp2_with (first | (with_reducible refine hold_append ?_) | (with_reducible refine hold_make ?_) | (with_reducible refine hold_copy ?_))
                      go_ret
                      rw [HE.out]
                      exact ⟨rfl, hB02⟩
                  · have d5 : decide ((0 : Int) < (n : Int)) = true := by simp; omega
                    have d5' : 0 < n := by omega
                    have HE : Hid (R = 250) := Lib.hid (by rw [HR.out]; first | exact lk_A (by omega) | exact lk_B (by omega) | exact lk_C (by omega) | exact lk_D (by omega) | exact lk_E (by omega) | exact lk_E5 (by omega) (by omega) | exact lk_F (by omega) | exact lk_F5 (by omega) (by omega) | exact lk_G (by assumption))
                    clear HR
                    go_wp2_with (first | (with_reducible refine hold_append ?_) | (with_reducible refine hold_make ?_) | (with_reducible refine hold_copy ?_))
                    go_ret
                    rw [HE.out]
                    exact ⟨rfl, hB03⟩
                · have d4 : ((no : Int) != 0) = true := by simp; omega
                  have HE : Hid (R = 250) := Lib.hid (by rw [HR.out]; first | exact lk_A (by omega) | exact lk_B (by omega) | exact lk_C (by omega) | exact lk_D (by omega) | exact lk_E (by omega) | exact lk_E5 (by omega) (by omega) | exact lk_F (by omega) | exact lk_F5 (by omega) (by omega) | exact lk_G (by assumption))
                  clear HR
                  go_wp2_with (first | (with_reducible refine hold_append ?_) | (with_reducible refine hold_make ?_) | (with_reducible refine hold_copy ?_))
                  go_ret
                  rw [HE.out]
                  exact ⟨rfl, hB03⟩
              · have d3 : ((xa : Int) != 0) = true := by simp; omega
                by_cases c4 : no = 0
                · have d4 : ((no : Int) != 0) = false := by simp; omega
                  have HE : Hid (R = 250) := Lib.hid (by rw [HR.out]; first | exact lk_A (by omega) | exact lk_B (by omega) | exact lk_C (by omega) | exact lk_D (by omega) | exact lk_E (by omega) | exact lk_E5 (by omega) (by omega) | exact lk_F (by omega) | exact lk_F5 (by omega) (by omega) | exact lk_G (by assumption))
                  clear HR
                  go_wp2_with (first | (with_reducible refine hold_append ?_) | (with_reducible refine hold_make ?_) | (with_reducible refine hold_copy ?_))
                  go_ret
                  rw [HE.out]
                  exact ⟨rfl, hB03⟩
                · have d4 : ((no : Int) != 0) = true := by simp; omega
                  have HE : Hid (R = 250) := Lib.hid (by rw [HR.out]; first | exact lk_A (by omega) | exact lk_B (by omega) | exact lk_C (by omega) | exact lk_D (by omega) | exact lk_E (by omega) | exact lk_E5 (by omega) (by omega) | exact lk_F (by omega) | exact lk_F5 (by omega) (by omega) | exact lk_G (by assumption))
                  clear HR
                  go_wp2_with (first | (with_reducible refine hold_append ?_) | (with_reducible refine hold_make ?_) | (with_reducible refine hold_copy ?_))
                  go_ret
                  rw [HE.out]
                  exact ⟨rfl, hB03⟩
        · by_cases c1 : 7 < xa
          · have d1 : decide ((7 : Int) < (xa : Int)) = true := by simp; omega
            have HE : Hid (R = 250) := Lib.hid (by rw [HR.out]; first | exact lk_A (by omega) | exact lk_B (by omega) | exact lk_C (by omega) | exact lk_D (by omega) | exact lk_E (by omega) | exact lk_E5 (by omega) (by omega) | exact lk_F (by omega) | exact lk_F5 (by omega) (by omega) | exact lk_G (by assumption))
            clear HR
            go_wp2_with (first | (with_reducible refine hold_append ?_) | (with_reducible refine hold_make ?_) | (with_reducible refine hold_copy ?_))
            go_ret
            rw [HE.out]
            exact ⟨rfl, hB03⟩
          · have d1 : decide ((7 : Int) < (xa : Int)) = false := by simp; omega
            by_cases c2 : 999 < no
            · have d2 : decide ((999 : Int) < (no : Int)) = true := by simp; omega
              have HE : Hid (R = 250) := Lib.hid (by rw [HR.out]; first | exact lk_A (by omega) | exact lk_B (by omega) | exact lk_C (by omega) | exact lk_D (by omega) | exact lk_E (by omega) | exact lk_E5 (by omega) (by omega) | exact lk_F (by omega) | exact lk_F5 (by omega) (by omega) | exact lk_G (by assumption))
              clear HR
              go_wp2_with (first | (with_reducible refine hold_append ?_) | (with_reducible refine hold_make ?_) | (with_reducible refine hold_copy ?_))
              go_ret
              rw [HE.out]
              exact ⟨rfl, hB03⟩
            · have d2 : decide ((999 : Int) < (no : Int)) = false := by simp; omega
              by_cases c3 : xa = 0
              · have d3 : ((xa : Int) != 0) = false := by simp; omega
                by_cases c4 : no = 0
                · have d4 : ((no : Int) != 0) = false := by simp; omega
                  by_cases c5 : n = 0
                  · have d5 : decide ((0 : Int) < (n : Int)) = false := by simp; omega
                    have d5' : decide (0 < n) = false := by simp; omega
                    have H1 : Hid (nok = true → R = 0) := Lib.hid (fun hk => by rw [HR.out]; refine lk_ok (by omega) (by first | rw [if_pos (by omega)] | rw [if_neg (by omega)]) (by omega) (by first | exact .inr ⟨by omega, by omega⟩ | exact .inl ⟨rfl, by omega⟩) (by first | exact .inl (by omega) | exact .inr ⟨by omega, rfl⟩) hk)
                    have H2 : Hid (nok = false → R = 250) := Lib.hid (fun hk => by rw [HR.out]; exact lk_G hk)
                    clear HR c5
                    go_wp2_with (first | (with_reducible refine hold_append ?_) | (with_reducible refine hold_make ?_) | (with_reducible refine hold_copy ?_))
                    (with_reducible refine (hnames _ hB03).mono ?_)
                    rintro e w2 ⟨rfl, hB2⟩
                    have hB02 := hB03.trans (hB2.mono hB03.size)
                    cases nok
                    · have HE : Hid (R = 250) := Lib.hid (H2.out rfl)
                      clear H1 H2
                      go_wp2_with (first | (with_reducible refine hold_append ?_) | (with_reducible refine hold_make ?_) | (with_reducible refine hold_copy ?_))
                      go_ret
                      rw [HE.out]
                      exact ⟨rfl, hB02⟩
                    · have HE : Hid (R = 0) := Lib.hid (H1.out rfl)
                      clear H1 H2
                      go_wp2_with (first | (with_reducible refine hold_append ?_) | (with_reducible refine hold_make ?_) | (with_reducible refine hold_copy ?_))
                      go_ret
                      rw [HE.out]
                      exact ⟨rfl, hB02⟩
                  · have d5 : decide ((0 : Int) < (n : Int)) = true := by simp; omega
                    have d5' : 0 < n := by omega
                    have HE : Hid (R = 250) := Lib.hid (by rw [HR.out]; first | exact lk_A (by omega) | exact lk_B (by omega) | exact lk_C (by omega) | exact lk_D (by omega) | exact lk_E (by omega) | exact lk_E5 (by omega) (by omega) | exact lk_F (by omega) | exact lk_F5 (by omega) (by omega) | exact lk_G (by assumption))
                    clear HR
                    go_wp2_with (first | (with_reducible refine hold_append ?_) | (with_reducible refine hold_make ?_) | (with_reducible refine hold_copy ?_))
                    go_ret
                    rw [HE.out]
                    exact ⟨rfl, hB03⟩
                · have d4 : ((no : Int) != 0) = true := by simp; omega
                  by_cases c5 : n = 0
                  · have d5 : decide ((0 : Int) < (n : Int)) = false := by simp; omega
                    have d5' : decide (0 < n) = false := by simp; omega
                    have H1 : Hid (nok = true → R = 0) := Lib.hid (fun hk => by rw [HR.out]; refine lk_ok (by omega) (by first | rw [if_pos (by omega)] | rw [if_neg (by omega)]) (by omega) (by first | exact .inr ⟨by omega, by omega⟩ | exact .inl ⟨rfl, by omega⟩) (by first | exact .inl (by omega) | exact .inr ⟨by omega, rfl⟩) hk)
                    have H2 : Hid (nok = false → R = 250) := Lib.hid (fun hk => by rw [HR.out]; exact lk_G hk)
                    clear HR c5
                    go_wp2_with (first | (with_reducible refine hold_append ?_) | (with_reducible refine hold_make ?_) | (with_reducible refine hold_copy ?_))
                    (with_reducible refine (hnames _ hB03).mono ?_)
                    rintro e w2 ⟨rfl, hB2⟩
                    have hB02 := hB03.trans (hB2.mono hB03.size)
                    cases nok
                    · have HE : Hid (R = 250) := Lib.hid (H2.out rfl)
                      clear H1 H2
                      go_wp2_with (first | (with_reducible refine hold_append ?_) | (with_reducible refine hold_make ?_) | (with_reducible refine hold_copy ?_))
                      go_ret
                      rw [HE.out]
                      exact ⟨rfl, hB02⟩
                    · have HE : Hid (R = 0) := Lib.hid (H1.out rfl)
                      clear H1 H2
                      go_wp2_with (first | (with_reducible refine hold_append ?_) | (with_reducible refine hold_make ?_) | (with_reducible refine hold_copy ?_))
                      go_ret
                      rw [HE.out]
                      exact ⟨rfl, hB02⟩
                  · have d5 : decide ((0 : Int) < (n : Int)) = true := by simp; omega
                    have d5' : 0 < n := by omega
                    have HE : Hid (R = 250) := Lib.hid (by rw [HR.out]; first | exact lk_A (by omega) | exact lk_B (by omega) | exact lk_C (by omega) | exact lk_D (by omega) | exact lk_E (by omega) | exact lk_E5 (by omega) (by omega) | exact lk_F (by omega) | exact lk_F5 (by omega) (by omega) | exact lk_G (by assumption))
                    clear HR
                    go_wp2_with (first | (with_reducible refine hold_append ?_) | (with_reducible refine hold_make ?_) | (with_reducible refine hold_copy ?_))
                    go_ret
                    rw [HE.out]
                    exact ⟨rfl, hB03⟩
              · have d3 : ((xa : Int) != 0) = true := by simp; omega
                by_cases c4 : no = 0
                · have d4 : ((no : Int) != 0) = false := by simp; omega
                  by_cases c5 : n = 0
                  · have d5 : decide ((0 : Int) < (n : Int)) = false := by simp; omega
                    have d5' : decide (0 < n) = false := by simp; omega
                    have H1 : Hid (nok = true → R = 0) := Lib.hid (fun hk => by rw [HR.out]; refine lk_ok (by omega) (by first | rw [if_pos (by omega)] | rw [if_neg (by omega)]) (by omega) (by first | exact .inr ⟨by omega, by omega⟩ | exact .inl ⟨rfl, by omega⟩) (by first | exact .inl (by omega) | exact .inr ⟨by omega, rfl⟩) hk)
                    have H2 : Hid (nok = false → R = 250) := Lib.hid (fun hk => by rw [HR.out]; exact lk_G hk)
                    clear HR c5
                    go_wp2_with (first | (with_reducible refine hold_append ?_) | (with_reducible refine hold_make ?_) | (with_reducible refine hold_copy ?_))
                    (with_reducible refine (hnames _ hB03).mono ?_)
                    rintro e w2 ⟨rfl, hB2⟩
                    have hB02 := hB03.trans (hB2.mono hB03.size)
                    cases nok
                    · have HE : Hid (R = 250) := Lib.hid (H2.out rfl)
                      clear H1 H2
                      go_wp2_with (first | (with_reducible refine hold_append ?_) | (with_reducible refine hold_make ?_) | (with_reducible refine hold_copy ?_))
                      go_ret
                      rw [HE.out]
                      exact ⟨rfl, hB02⟩
                    · have HE : Hid (R = 0) := Lib.hid (H1.out rfl)
                      clear H1 H2
                      go_wp2_with (first | (with_reducible refine hold_append ?_) | (with_reducible refine hold_make ?_) | (with_reducible refine hold_copy ?_))
                      go_ret
                      rw [HE.out]
                      exact ⟨rfl, hB02⟩
                  · have d5 : decide ((0 : Int) < (n : Int)) = true := by simp; omega
                    have d5' : 0 < n := by omega
                    have HE : Hid (R = 250) := Lib.hid (by rw [HR.out]; first | exact lk_A (by omega) | exact lk_B (by omega) | exact lk_C (by omega) | exact lk_D (by omega) | exact lk_E (by omega) | exact lk_E5 (by omega) (by omega) | exact lk_F (by omega) | exact lk_F5 (by omega) (by omega) | exact lk_G (by assumption))
                    clear HR
                    go_wp2_with (first | (with_reducible refine hold_append ?_) | (with_reducible refine hold_make ?_) | (with_reducible refine hold_copy ?_))
                    go_ret
                    rw [HE.out]
                    exact ⟨rfl, hB03⟩
                · have d4 : ((no : Int) != 0) = true := by simp; omega
                  have HE : Hid (R = 250) := Lib.hid (by rw [HR.out]; first | exact lk_A (by omega) | exact lk_B (by omega) | exact lk_C (by omega) | exact lk_D (by omega) | exact lk_E (by omega) | exact lk_E5 (by omega) (by omega) | exact lk_F (by omega) | exact lk_F5 (by omega) (by omega) | exact lk_G (by assumption))
                  clear HR
                  go_wp2_with (first | (with_reducible refine hold_append ?_) | (with_reducible refine hold_make ?_) | (with_reducible refine hold_copy ?_))
                  go_ret
                  rw [HE.out]
                  exact ⟨rfl, hB03⟩
end Go.PH
end
section
/- When a new transaction may be; when letters may be; the mathematics of New and of letters' Check. -/
set_option linter.all false
set_option linter.unusedSimpArgs false
set_option linter.unusedVariables false
namespace Go.PH

/-- nodes that rise, of 1 to 8 -/
def nodesOk : Nat → List Nat → Bool
  | _, [] => true
  | last, n :: l => decide (last < n) && decide (n ≤ 8) && nodesOk n l
theorem xdok_dig {x : Xd} (hx : x.ok = true) (n : Nat) : Xd.ok ⟨x.fmt, x.glob, dig1 n⟩ = true := by
  rw [Xd.ok_iff] at *
  exact ⟨hx.1, hx.2.1, by simp [dig1]⟩
theorem partsOk_new {x : Xd} (hx : x.ok = true) : ∀ (l : List Nat) (last : Nat), partsOk x last (allTo 0 (newParts x l)) = nodesOk last l
  | [], _ => rfl
  | n :: l, last => by
    have ih := partsOk_new hx l n
    have h1 := xdok_dig hx n
    simp only [newParts, allTo, List.map_map, List.map_cons, partsOk, Function.comp, Pt.to, nodesOk] at ih ⊢
    rw [ih, h1]
    simp
theorem only_new (x : Xd) (l : List Nat) : ∀ S : List Nat, 0 ∈ S → onlySt S (newParts x l) = true := by
  intro S hS
  simp [onlySt, newParts, hS]
theorem newGl_ok {x : Xd} (hx : x.ok = true) (hb : x.bran = []) (l : List Nat) : (newGl x l).ok = (decide (1 ≤ l.length) && decide (l.length ≤ 8) && nodesOk 0 l) := by
  simp only [Gl.ok, newGl, dcOk, hx, hb, partsOk_new hx, stateOk]
  rw [only_new x l _ (by simp), only_new x l _ (by simp)]
  simp [allTo, newParts]
theorem newParts_snoc (x : Xd) (l : List Nat) (n : Nat) : newParts x (l ++ [n]) = newParts x l ++ [⟨n, ⟨x.fmt, x.glob, dig1 n⟩, 0⟩] := by simp [newParts]
def lastN1 : Nat → List Nat → Nat
  | a, [] => a
  | _, m :: l => lastN1 m l
theorem nodesOk_snoc : ∀ (l : List Nat) (last n : Nat), nodesOk last (l ++ [n]) = (nodesOk last l && decide (lastN1 last l < n) && decide (n ≤ 8))
  | [], last, n => by
    rw [show lastN1 last [] = last from rfl]
    simp only [List.nil_append, nodesOk, Bool.and_true, Bool.true_and]
  | m :: l, last, n => by
    rw [show lastN1 last (m :: l) = lastN1 m l from rfl]
    simp only [List.cons_append, nodesOk, nodesOk_snoc l m n, Bool.and_assoc]
theorem lastN1_take : ∀ (l : List Nat) (a k : Nat) (hk : k < l.length), lastN1 a (l.take (k + 1)) = l[k]
  | [], _, _, hk => by simp at hk
  | m :: l, a, 0, _ => by simp [lastN1]
  | m :: l, a, k + 1, hk => by
    have := lastN1_take l m k (by simpa using hk)
    simpa [lastN1] using this
theorem dig1_digB {n : Nat} (h : n ≤ 8) : digB n = dig1 n := by
  rw [digB_small (by omega)]
  simp [dig1, Nat.mod_eq_of_lt (show n < 10 by omega)]
/-- the reference's New -/
def newRef (x : Xd) (l : List Nat) : Gl × Nat :=
  if x.ok = false ∨ x.bran ≠ [] then (gl0, 270) else if ¬ (1 ≤ l.length ∧ l.length ≤ 8) then (gl0, 2) else if nodesOk 0 l = false then (gl0, 2) else (newGl x l, 0)
theorem new_ref (x : Xd) (l : List Nat) : Gl.new x l = newRef x l := by
  unfold Gl.new newRef
  by_cases h : x.ok = false ∨ x.bran ≠ []
  · rw [if_pos h, if_pos h]
  · rw [if_neg h, if_neg h]
    have hx : x.ok = true := by cases h' : x.ok <;> simp [h'] at h ⊢
    have hb : x.bran = [] := by
      by_cases h' : x.bran = []
      · exact h'
      · exact absurd (Or.inr h') h
    rw [newGl_ok hx hb]
    by_cases h1 : 1 ≤ l.length ∧ l.length ≤ 8
    · rw [if_neg (show ¬ ¬ (1 ≤ l.length ∧ l.length ≤ 8) from fun q => q h1), decide_eq_true h1.1, decide_eq_true h1.2]
      simp
    · rw [if_pos h1, if_pos (by simp only [Bool.and_eq_false_iff, decide_eq_false_iff_not]; omega)]
theorem nodesOk_take {l : List Nat} {last k : Nat} (hk : k < l.length) (h : nodesOk last l = true) : nodesOk last (l.take k) = true := by
  induction l generalizing last k with
  | nil => simp at hk
  | cons a l ih =>
    cases k with
    | zero => rfl
    | succ k =>
      simp only [nodesOk, Bool.and_eq_true, List.take_succ_cons] at *
      exact ⟨h.1, ih (by simpa using hk) h.2⟩
theorem nodesOk_step {l : List Nat} {k : Nat} (hk : k < l.length) (h : nodesOk 0 (l.take k) = true) : nodesOk 0 (l.take (k + 1)) = (decide (1 ≤ l[k]) && decide (l[k] ≤ 8) && decide (k = 0 ∨ ∃ q, l[k - 1]? = some q ∧ q < l[k])) := by
  rw [List.take_succ_eq_append_getElem hk, nodesOk_snoc, h]
  rcases Nat.eq_zero_or_pos k with rfl | hk0
  · simp [lastN1, Nat.pos_iff_ne_zero, Nat.one_le_iff_ne_zero]
  · have hq : lastN1 0 (l.take k) = l[k - 1] := by
      have := lastN1_take l 0 (k - 1) (by omega)
      rwa [show k - 1 + 1 = k by omega] at this
    rw [hq, List.getElem?_eq_getElem (by omega)]
    simp only [Option.some.injEq, exists_eq_left', Bool.true_and]
    rw [Bool.eq_iff_iff]
    simp only [Bool.and_eq_true, decide_eq_true_eq]
    constructor
    · rintro ⟨a, b⟩
      exact ⟨⟨by omega, b⟩, Or.inr a⟩
    · rintro ⟨⟨a, b⟩, c | c⟩
      · omega
      · exact ⟨c, b⟩
theorem nodesOk_bad {l : List Nat} {k : Nat} (hk : k < l.length) (h : nodesOk 0 (l.take (k + 1)) = false) : nodesOk 0 l = false := by
  cases hl : nodesOk 0 l with
  | false => rfl
  | true =>
    by_cases hk1 : k + 1 < l.length
    · rw [nodesOk_take hk1 hl] at h; cases h
    · rw [List.take_of_length_le (by omega), hl] at h; cases h
end Go.PH
end

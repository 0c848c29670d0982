/- Texts laid together: GtRLt3, GtRLt, GtRRestore. -/
import Derived.Test.YtcfhnnbgghbjfaaMg21
import Derived.Test.YtcfhnnbgghbjfaaMg22
import Derived.Test.YtcfhnnbgghbjfaaMg23
section
/- The walk of the reference's Check of letters: the other kinds. -/
set_option linter.all false
set_option linter.unusedSimpArgs false
set_option linter.unusedVariables false
namespace Go.PH
open Go.RowKit Go.Proofs

set_option maxRecDepth 20000 in
set_option maxHeartbeats 8000000 in
theorem rlcheck_2 (l : Lt) (A : Option Addr) (n c : Nat) (B : Nat) (w : World) (hl : l.wf) (hr : RdX w B A n c l.names) (hB : B ≤ w.heap.size) (hn : n ≤ 1000000) (hk : 17 ≤ l.kind ∧ l.kind ≤ 20) :
    Calls Try.prog 45 #[.agg (ltV l A n c)] w fun e w' => e = .returned (.int .i64 (ltErr l : Int)) ∧ Below w.heap.size w w' := by
  have hr0 := hr
  have HLN := Lib.hid (rec_length xdShape hr)
  have hck := fun W => rcheck_any l.x W hl.2.1
  have hkd := hl.1
  have hxa := hl.2.2.1
  have hno := hl.2.2.2.1
  have hwf := hl.2.2.2.2
  obtain ⟨R, hR⟩ : ∃ R, R = ltErr l := ⟨_, rfl⟩
  rw [← hR]
  clear hl hr
  obtain ⟨kd, x, xa, no, nm⟩ := l
  simp only at HLN hck hkd hxa hno hwf hr0 hk
  have HR := Lib.hid (hR.trans (by rw [ltErr_ref kd x xa no nm, HLN.out]))
  unfold ltV
  simp only
  clear hR
  have hneq := fun w => xid_neqC x xd0' w
  have HE0 : Hid (x.err = if x.ok then 0 else 40) := Lib.hid rfl
  obtain ⟨so, hso⟩ : ∃ so, so = decide (nm = xdSort nm) := ⟨_, rfl⟩
  rw [← hso] at HR
  have HSO0 := Lib.hid hso
  clear hso
  generalize x.err = er at *
  generalize x.ok = ok at *
  generalize decide (x = xd0') = dx at *
  obtain ⟨f, g, h⟩ := x
  have hneq2 : ∀ w, (binOp .neq 24 (.agg #[.int .u32 (f : Int), .string (str g), .string (str h)]) (.agg #[.int .u32 0, .string ⟨#[]⟩, .string ⟨#[]⟩])).run Try.prog w = .ok (.bool (!dx)) w := hneq
  clear hneq
  simp only [xdV] at hck
  have e1 : ((kd : Int) == 5) = false := by simp; omega
  have e2 : ((kd : Int) == 21) = false := by simp; omega
  have e2' : ((kd : Int) != 21) = true := by simp; omega
  have e3 : decide ((17 : Int) ≤ (kd : Int)) = true := by simp; omega
  have e4 : decide ((kd : Int) ≤ 21) = true := by simp; omega
  have hb0 := Box.new w #[.int .u8 (kd : Int), .int .u32 (f : Int), .string (str g), .string (str h), .int .u8 (xa : Int), .int .u16 (no : Int), .slice A n c] 33
  have hB0 := (Below.refl w.heap.size w).alloc (Nat.le_refl _) (.cells #[.int .u8 (kd : Int), .int .u32 (f : Int), .string (str g), .string (str h), .int .u8 (xa : Int), .int .u16 (no : Int), .slice A n c] 33)
  obtain ⟨w0, hw0⟩ : ∃ w0, w0 = (w.alloc (.cells #[.int .u8 (kd : Int), .int .u32 (f : Int), .string (str g), .string (str h), .int .u8 (xa : Int), .int .u16 (no : Int), .slice A n c] 33)) := ⟨_, rfl⟩
  rw [← hw0] at hb0 hB0
  have hgd := fun x y => run_eqGuard_agg (P := Try.prog) w0 .neq 24 x y #[.int .u32 (f : Int), .string (str g), .string (str h)] #[.int .u32 0, .string ⟨#[]⟩, .string ⟨#[]⟩] xid_guard
  have x0 := hb0.cell (j := 0) rfl
  have x1 := hb0.cell (j := 1) rfl
  have x2 := hb0.cell (j := 2) rfl
  have x3 := hb0.cell (j := 3) rfl
  have x4 := hb0.cell (j := 4) rfl
  have x5 := hb0.cell (j := 5) rfl
  have x6 := hb0.cell (j := 6) rfl
  go_enter Try.func45, Try.ntmps45
  go_upto_region 1 with fail
  rw [← hw0]
  clear hw0
  by_cases c0 : 200 < n
  · have d0 : decide ((200 : Int) < (n : Int)) = true := by simp; omega
    have HE : Hid (R = 250) := Lib.hid (by rw [HR.out]; first | exact lr_A (by omega) | exact lr_B (by omega) | exact lr_C (by omega) | exact lr_D (by omega) | exact lr_E (by omega))
    clear HR
    go_wp2_with (first | (with_reducible refine hold_append ?_) | (with_reducible refine hold_make ?_) | (with_reducible refine hold_copy ?_))
    go_ret
    rw [HE.out]
    exact ⟨rfl, hB0⟩
  · have d0 : decide ((200 : Int) < (n : Int)) = false := by simp; omega
    go_wp2_with (first | (with_reducible refine hold_append ?_) | (with_reducible refine hold_make ?_) | (with_reducible refine hold_copy ?_))
    (with_reducible refine (hck _).mono ?_)
    rintro e w3 ⟨rfl, hB3⟩
    have hS3 : Box w3 w.heap.size 33 #[.int .u8 (kd : Int), .int .u32 (f : Int), .string (str g), .string (str h), .int .u8 (xa : Int), .int .u16 (no : Int), .slice A n c] ∧ Below w.heap.size w w3 := ⟨hb0.below hB3, hB0.trans (hB3.mono hB0.size)⟩
    clear x0 x1 x2 x3 x4 x5 x6 hgd hck hb0 hB0
    have x0 := hS3.1.cell (j := 0) rfl
    have x1 := hS3.1.cell (j := 1) rfl
    have x2 := hS3.1.cell (j := 2) rfl
    have x3 := hS3.1.cell (j := 3) rfl
    have x4 := hS3.1.cell (j := 4) rfl
    have x5 := hS3.1.cell (j := 5) rfl
    have x6 := hS3.1.cell (j := 6) rfl
    cases ok
    · obtain rfl : er = 40 := by have := HE0.out; simpa using this
      clear HE0
      have HE : Hid (R = 250) := Lib.hid (by rw [HR.out]; first | exact lr_A (by omega) | exact lr_B (by omega) | exact lr_C (by omega) | exact lr_D (by omega) | exact lr_E (by omega))
      clear HR
      go_wp2_with (first | (with_reducible refine hold_append ?_) | (with_reducible refine hold_make ?_) | (with_reducible refine hold_copy ?_))
      go_ret
      rw [HE.out]
      exact ⟨rfl, hS3.2⟩
    · obtain rfl : er = 0 := by have := HE0.out; simpa using this
      clear HE0
      by_cases c1 : 7 < xa
      · have d1 : decide ((7 : Int) < (xa : Int)) = true := by simp; omega
        have HE : Hid (R = 250) := Lib.hid (by rw [HR.out]; first | exact lr_A (by omega) | exact lr_B (by omega) | exact lr_C (by omega) | exact lr_D (by omega) | exact lr_E (by omega))
        clear HR
        go_wp2_with (first | (with_reducible refine hold_append ?_) | (with_reducible refine hold_make ?_) | (with_reducible refine hold_copy ?_))
        go_ret
        rw [HE.out]
        exact ⟨rfl, (hS3).2⟩
      · have d1 : decide ((7 : Int) < (xa : Int)) = false := by simp; omega
        by_cases c2 : 999 < no
        · have d2 : decide ((999 : Int) < (no : Int)) = true := by simp; omega
          have HE : Hid (R = 250) := Lib.hid (by rw [HR.out]; first | exact lr_A (by omega) | exact lr_B (by omega) | exact lr_C (by omega) | exact lr_D (by omega) | exact lr_E (by omega))
          clear HR
          go_wp2_with (first | (with_reducible refine hold_append ?_) | (with_reducible refine hold_make ?_) | (with_reducible refine hold_copy ?_))
          go_ret
          rw [HE.out]
          exact ⟨rfl, (hS3).2⟩
        · have d2 : decide ((999 : Int) < (no : Int)) = false := by simp; omega
          by_cases c3 : xa = 0
          · have d3 : decide ((0 : Int) < (xa : Int)) = false := by simp; omega
            have d3' : decide (0 < xa) = false := by simp; omega
            by_cases c4 : no = 0
            · have d4 : decide ((0 : Int) < (no : Int)) = false := by simp; omega
              have d4' : decide (0 < no) = false := by simp; omega
              by_cases c5 : n = 0
              · have d5 : decide ((0 : Int) < (n : Int)) = false := by simp; omega
                have d5' : decide (0 < n) = false := by simp; omega
                have HE : Hid (so = true → R = 0) := Lib.hid (fun hs => by rw [HR.out]; refine lr_ok (by omega) (by first | rw [if_pos (by omega)] | rw [if_neg (by omega)]) (by omega) (by omega) hs)
                have HSO : Hid (so = true) := Lib.hid (by
                  have : nm = [] := List.eq_nil_of_length_eq_zero (HLN.out.trans c5)
                  rw [HSO0.out, this]; rfl)
                clear c5 HR
                go_wp2_with (first | (with_reducible refine hold_append ?_) | (with_reducible refine hold_make ?_) | (with_reducible refine hold_copy ?_))
                go_loopw [5] (fun s wr => s = .int .i64 0 ∧ Box wr w.heap.size 33 #[.int .u8 (kd : Int), .int .u32 (f : Int), .string (str g), .string (str h), .int .u8 (xa : Int), .int .u16 (no : Int), .slice A n c] ∧ Below w.heap.size w wr) (fun _ _ => 0)
                case atStart => exact ⟨rfl, hS3.1, hS3.2⟩
                case round =>
                  clear x0 x1 x2 x3 x4 x5 x6
                  obtain ⟨rfl, hbr, hBr⟩ := hrel
                  have x6 := hbr.cell (j := 6) rfl
                  go_wp2_with (first | (with_reducible refine hold_append ?_) | (with_reducible refine hold_make ?_) | (with_reducible refine hold_copy ?_))
                  go_ret
                  rw [HE.out HSO.out]
                  exact ⟨rfl, hBr⟩
              · have d5 : decide ((0 : Int) < (n : Int)) = true := by simp; omega
                have d5' : 0 < n := by omega
                have HE : Hid (R = 250) := Lib.hid (by rw [HR.out]; exact lr_E (by omega))
                clear HR
                go_wp2_with (first | (with_reducible refine hold_append ?_) | (with_reducible refine hold_make ?_) | (with_reducible refine hold_copy ?_))
                go_loopw [5] (fun s wr => s = .int .i64 0 ∧ Box wr w.heap.size 33 #[.int .u8 (kd : Int), .int .u32 (f : Int), .string (str g), .string (str h), .int .u8 (xa : Int), .int .u16 (no : Int), .slice A n c] ∧ Below w.heap.size w wr) (fun _ _ => 0)
                case atStart => exact ⟨rfl, hS3.1, hS3.2⟩
                case round =>
                  clear x0 x1 x2 x3 x4 x5 x6
                  obtain ⟨rfl, hbr, hBr⟩ := hrel
                  have x0 := hbr.cell (j := 0) rfl
                  have x6 := hbr.cell (j := 6) rfl
                  go_wp2_with (first | (with_reducible refine hold_append ?_) | (with_reducible refine hold_make ?_) | (with_reducible refine hold_copy ?_))
                  go_quiet (fail)
                  go_wp2_with (first | (with_reducible refine hold_append ?_) | (with_reducible refine hold_make ?_) | (with_reducible refine hold_copy ?_))
                  go_ret
                  rw [HE.out]
                  exact ⟨rfl, below_drewN hBr _⟩
            · have d4 : decide ((0 : Int) < (no : Int)) = true := by simp; omega
              have d4' : 0 < no := by omega
              by_cases c5 : n = 0
              · have d5 : decide ((0 : Int) < (n : Int)) = false := by simp; omega
                have d5' : decide (0 < n) = false := by simp; omega
                have HE : Hid (so = true → R = 0) := Lib.hid (fun hs => by rw [HR.out]; refine lr_ok (by omega) (by first | rw [if_pos (by omega)] | rw [if_neg (by omega)]) (by omega) (by omega) hs)
                have HSO : Hid (so = true) := Lib.hid (by
                  have : nm = [] := List.eq_nil_of_length_eq_zero (HLN.out.trans c5)
                  rw [HSO0.out, this]; rfl)
                clear c5 HR
                go_wp2_with (first | (with_reducible refine hold_append ?_) | (with_reducible refine hold_make ?_) | (with_reducible refine hold_copy ?_))
                go_loopw [5] (fun s wr => s = .int .i64 0 ∧ Box wr w.heap.size 33 #[.int .u8 (kd : Int), .int .u32 (f : Int), .string (str g), .string (str h), .int .u8 (xa : Int), .int .u16 (no : Int), .slice A n c] ∧ Below w.heap.size w wr) (fun _ _ => 0)
                case atStart => exact ⟨rfl, hS3.1, hS3.2⟩
                case round =>
                  clear x0 x1 x2 x3 x4 x5 x6
                  obtain ⟨rfl, hbr, hBr⟩ := hrel
                  have x6 := hbr.cell (j := 6) rfl
                  go_wp2_with (first | (with_reducible refine hold_append ?_) | (with_reducible refine hold_make ?_) | (with_reducible refine hold_copy ?_))
                  go_ret
                  rw [HE.out HSO.out]
                  exact ⟨rfl, hBr⟩
              · have d5 : decide ((0 : Int) < (n : Int)) = true := by simp; omega
                have d5' : 0 < n := by omega
                have HE : Hid (R = 250) := Lib.hid (by rw [HR.out]; exact lr_E (by omega))
                clear HR
                go_wp2_with (first | (with_reducible refine hold_append ?_) | (with_reducible refine hold_make ?_) | (with_reducible refine hold_copy ?_))
                go_loopw [5] (fun s wr => s = .int .i64 0 ∧ Box wr w.heap.size 33 #[.int .u8 (kd : Int), .int .u32 (f : Int), .string (str g), .string (str h), .int .u8 (xa : Int), .int .u16 (no : Int), .slice A n c] ∧ Below w.heap.size w wr) (fun _ _ => 0)
                case atStart => exact ⟨rfl, hS3.1, hS3.2⟩
                case round =>
                  clear x0 x1 x2 x3 x4 x5 x6
                  obtain ⟨rfl, hbr, hBr⟩ := hrel
                  have x0 := hbr.cell (j := 0) rfl
                  have x6 := hbr.cell (j := 6) rfl
                  go_wp2_with (first | (with_reducible refine hold_append ?_) | (with_reducible refine hold_make ?_) | (with_reducible refine hold_copy ?_))
                  go_quiet (fail)
                  go_wp2_with (first | (with_reducible refine hold_append ?_) | (with_reducible refine hold_make ?_) | (with_reducible refine hold_copy ?_))
                  go_ret
                  rw [HE.out]
                  exact ⟨rfl, below_drewN hBr _⟩
          · have d3 : decide ((0 : Int) < (xa : Int)) = true := by simp; omega
            have d3' : 0 < xa := by omega
            by_cases c4 : no = 0
            · have d4 : decide ((0 : Int) < (no : Int)) = false := by simp; omega
              have d4' : decide (0 < no) = false := by simp; omega
              by_cases c5 : n = 0
              · have d5 : decide ((0 : Int) < (n : Int)) = false := by simp; omega
                have d5' : decide (0 < n) = false := by simp; omega
                have HE : Hid (so = true → R = 0) := Lib.hid (fun hs => by rw [HR.out]; refine lr_ok (by omega) (by first | rw [if_pos (by omega)] | rw [if_neg (by omega)]) (by omega) (by omega) hs)
                have HSO : Hid (so = true) := Lib.hid (by
                  have : nm = [] := List.eq_nil_of_length_eq_zero (HLN.out.trans c5)
                  rw [HSO0.out, this]; rfl)
                clear c5 HR
                go_wp2_with (first | (with_reducible refine hold_append ?_) | (with_reducible refine hold_make ?_) | (with_reducible refine hold_copy ?_))
                go_loopw [5] (fun s wr => s = .int .i64 0 ∧ Box wr w.heap.size 33 #[.int .u8 (kd : Int), .int .u32 (f : Int), .string (str g), .string (str h), .int .u8 (xa : Int), .int .u16 (no : Int), .slice A n c] ∧ Below w.heap.size w wr) (fun _ _ => 0)
                case atStart => exact ⟨rfl, hS3.1, hS3.2⟩
                case round =>
                  clear x0 x1 x2 x3 x4 x5 x6
                  obtain ⟨rfl, hbr, hBr⟩ := hrel
                  have x6 := hbr.cell (j := 6) rfl
                  go_wp2_with (first | (with_reducible refine hold_append ?_) | (with_reducible refine hold_make ?_) | (with_reducible refine hold_copy ?_))
                  go_ret
                  rw [HE.out HSO.out]
                  exact ⟨rfl, hBr⟩
              · have d5 : decide ((0 : Int) < (n : Int)) = true := by simp; omega
                have d5' : 0 < n := by omega
                have HE : Hid (R = 250) := Lib.hid (by rw [HR.out]; exact lr_E (by omega))
                clear HR
                go_wp2_with (first | (with_reducible refine hold_append ?_) | (with_reducible refine hold_make ?_) | (with_reducible refine hold_copy ?_))
                go_loopw [5] (fun s wr => s = .int .i64 0 ∧ Box wr w.heap.size 33 #[.int .u8 (kd : Int), .int .u32 (f : Int), .string (str g), .string (str h), .int .u8 (xa : Int), .int .u16 (no : Int), .slice A n c] ∧ Below w.heap.size w wr) (fun _ _ => 0)
                case atStart => exact ⟨rfl, hS3.1, hS3.2⟩
                case round =>
                  clear x0 x1 x2 x3 x4 x5 x6
                  obtain ⟨rfl, hbr, hBr⟩ := hrel
                  have x0 := hbr.cell (j := 0) rfl
                  have x6 := hbr.cell (j := 6) rfl
                  go_wp2_with (first | (with_reducible refine hold_append ?_) | (with_reducible refine hold_make ?_) | (with_reducible refine hold_copy ?_))
                  go_quiet (fail)
                  go_wp2_with (first | (with_reducible refine hold_append ?_) | (with_reducible refine hold_make ?_) | (with_reducible refine hold_copy ?_))
                  go_ret
                  rw [HE.out]
                  exact ⟨rfl, below_drewN hBr _⟩
            · have d4 : decide ((0 : Int) < (no : Int)) = true := by simp; omega
              have d4' : 0 < no := by omega
              have HE : Hid (R = 250) := Lib.hid (by rw [HR.out]; first | exact lr_A (by omega) | exact lr_B (by omega) | exact lr_C (by omega) | exact lr_D (by omega) | exact lr_E (by omega))
              clear HR
              go_wp2_with (first | (with_reducible refine hold_append ?_) | (with_reducible refine hold_make ?_) | (with_reducible refine hold_copy ?_))
              go_ret
              rw [HE.out]
              exact ⟨rfl, (hS3).2⟩
set_option maxRecDepth 20000 in
set_option maxHeartbeats 8000000 in
theorem rlcheck_3 (l : Lt) (A : Option Addr) (n c : Nat) (B : Nat) (w : World) (hl : l.wf) (hr : RdX w B A n c l.names) (hB : B ≤ w.heap.size) (hn : n ≤ 1000000) (hk : 1 ≤ l.kind ∧ l.kind ≤ 4) :
    Calls Try.prog 45 #[.agg (ltV l A n c)] w fun e w' => e = .returned (.int .i64 (ltErr l : Int)) ∧ Below w.heap.size w w' := by
  have hr0 := hr
  have HLN := Lib.hid (rec_length xdShape hr)
  have hck := fun W => rcheck_any l.x W hl.2.1
  have hkd := hl.1
  have hxa := hl.2.2.1
  have hno := hl.2.2.2.1
  have hwf := hl.2.2.2.2
  obtain ⟨R, hR⟩ : ∃ R, R = ltErr l := ⟨_, rfl⟩
  rw [← hR]
  clear hl hr
  obtain ⟨kd, x, xa, no, nm⟩ := l
  simp only at HLN hck hkd hxa hno hwf hr0 hk
  have HR := Lib.hid (hR.trans (by rw [ltErr_ref kd x xa no nm, HLN.out]))
  unfold ltV
  simp only
  clear hR
  have hneq := fun w => xid_neqC x xd0' w
  have HE0 : Hid (x.err = if x.ok then 0 else 40) := Lib.hid rfl
  obtain ⟨so, hso⟩ : ∃ so, so = decide (nm = xdSort nm) := ⟨_, rfl⟩
  rw [← hso] at HR
  have HSO0 := Lib.hid hso
  clear hso
  generalize x.err = er at *
  generalize x.ok = ok at *
  generalize decide (x = xd0') = dx at *
  obtain ⟨f, g, h⟩ := x
  have hneq2 : ∀ w, (binOp .neq 24 (.agg #[.int .u32 (f : Int), .string (str g), .string (str h)]) (.agg #[.int .u32 0, .string ⟨#[]⟩, .string ⟨#[]⟩])).run Try.prog w = .ok (.bool (!dx)) w := hneq
  clear hneq
  simp only [xdV] at hck
  have e1 : ((kd : Int) == 5) = false := by simp; omega
  have e2 : ((kd : Int) == 21) = false := by simp; omega
  have e2' : ((kd : Int) != 21) = true := by simp; omega
  have e3 : decide ((17 : Int) ≤ (kd : Int)) = false := by simp; omega
  have e4 : decide ((kd : Int) < 1) = false := by simp; omega
  have e5 : decide ((5 : Int) < (kd : Int)) = false := by simp; omega
  have hb0 := Box.new w #[.int .u8 (kd : Int), .int .u32 (f : Int), .string (str g), .string (str h), .int .u8 (xa : Int), .int .u16 (no : Int), .slice A n c] 33
  have hB0 := (Below.refl w.heap.size w).alloc (Nat.le_refl _) (.cells #[.int .u8 (kd : Int), .int .u32 (f : Int), .string (str g), .string (str h), .int .u8 (xa : Int), .int .u16 (no : Int), .slice A n c] 33)
  obtain ⟨w0, hw0⟩ : ∃ w0, w0 = (w.alloc (.cells #[.int .u8 (kd : Int), .int .u32 (f : Int), .string (str g), .string (str h), .int .u8 (xa : Int), .int .u16 (no : Int), .slice A n c] 33)) := ⟨_, rfl⟩
  rw [← hw0] at hb0 hB0
  have hgd := fun x y => run_eqGuard_agg (P := Try.prog) w0 .neq 24 x y #[.int .u32 (f : Int), .string (str g), .string (str h)] #[.int .u32 0, .string ⟨#[]⟩, .string ⟨#[]⟩] xid_guard
  have x0 := hb0.cell (j := 0) rfl
  have x1 := hb0.cell (j := 1) rfl
  have x2 := hb0.cell (j := 2) rfl
  have x3 := hb0.cell (j := 3) rfl
  have x4 := hb0.cell (j := 4) rfl
  have x5 := hb0.cell (j := 5) rfl
  have x6 := hb0.cell (j := 6) rfl
  go_enter Try.func45, Try.ntmps45
  go_upto_region 1 with fail
  rw [← hw0]
  clear hw0
  by_cases c0 : 200 < n
  · have d0 : decide ((200 : Int) < (n : Int)) = true := by simp; omega
    have HE : Hid (R = 250) := Lib.hid (by rw [HR.out]; first | exact lr_A (by omega) | exact lr_B (by omega) | exact lr_C (by omega) | exact lr_D (by omega) | exact lr_E (by omega))
    clear HR
    go_wp2_with (first | (with_reducible refine hold_append ?_) | (with_reducible refine hold_make ?_) | (with_reducible refine hold_copy ?_))
    go_ret
    rw [HE.out]
    exact ⟨rfl, hB0⟩
  · have d0 : decide ((200 : Int) < (n : Int)) = false := by simp; omega
    go_wp2_with (first | (with_reducible refine hold_append ?_) | (with_reducible refine hold_make ?_) | (with_reducible refine hold_copy ?_))
    (with_reducible refine (hck _).mono ?_)
    rintro e w3 ⟨rfl, hB3⟩
    have hS3 : Box w3 w.heap.size 33 #[.int .u8 (kd : Int), .int .u32 (f : Int), .string (str g), .string (str h), .int .u8 (xa : Int), .int .u16 (no : Int), .slice A n c] ∧ Below w.heap.size w w3 := ⟨hb0.below hB3, hB0.trans (hB3.mono hB0.size)⟩
    clear x0 x1 x2 x3 x4 x5 x6 hgd hck hb0 hB0
    have x0 := hS3.1.cell (j := 0) rfl
    have x1 := hS3.1.cell (j := 1) rfl
    have x2 := hS3.1.cell (j := 2) rfl
    have x3 := hS3.1.cell (j := 3) rfl
    have x4 := hS3.1.cell (j := 4) rfl
    have x5 := hS3.1.cell (j := 5) rfl
    have x6 := hS3.1.cell (j := 6) rfl
    cases ok
    · obtain rfl : er = 40 := by have := HE0.out; simpa using this
      clear HE0
      have HE : Hid (R = 250) := Lib.hid (by rw [HR.out]; first | exact lr_A (by omega) | exact lr_B (by omega) | exact lr_C (by omega) | exact lr_D (by omega) | exact lr_E (by omega))
      clear HR
      go_wp2_with (first | (with_reducible refine hold_append ?_) | (with_reducible refine hold_make ?_) | (with_reducible refine hold_copy ?_))
      go_ret
      rw [HE.out]
      exact ⟨rfl, hS3.2⟩
    · obtain rfl : er = 0 := by have := HE0.out; simpa using this
      clear HE0
      by_cases c1 : 7 < xa
      · have d1 : decide ((7 : Int) < (xa : Int)) = true := by simp; omega
        have HE : Hid (R = 250) := Lib.hid (by rw [HR.out]; first | exact lr_A (by omega) | exact lr_B (by omega) | exact lr_C (by omega) | exact lr_D (by omega) | exact lr_E (by omega))
        clear HR
        go_wp2_with (first | (with_reducible refine hold_append ?_) | (with_reducible refine hold_make ?_) | (with_reducible refine hold_copy ?_))
        go_ret
        rw [HE.out]
        exact ⟨rfl, (hS3).2⟩
      · have d1 : decide ((7 : Int) < (xa : Int)) = false := by simp; omega
        by_cases c2 : 999 < no
        · have d2 : decide ((999 : Int) < (no : Int)) = true := by simp; omega
          have HE : Hid (R = 250) := Lib.hid (by rw [HR.out]; first | exact lr_A (by omega) | exact lr_B (by omega) | exact lr_C (by omega) | exact lr_D (by omega) | exact lr_E (by omega))
          clear HR
          go_wp2_with (first | (with_reducible refine hold_append ?_) | (with_reducible refine hold_make ?_) | (with_reducible refine hold_copy ?_))
          go_ret
          rw [HE.out]
          exact ⟨rfl, (hS3).2⟩
        · have d2 : decide ((999 : Int) < (no : Int)) = false := by simp; omega
          by_cases c3 : xa = 0
          · have d3 : decide ((0 : Int) < (xa : Int)) = false := by simp; omega
            have d3' : decide (0 < xa) = false := by simp; omega
            by_cases c4 : no = 0
            · have d4 : decide ((0 : Int) < (no : Int)) = false := by simp; omega
              have d4' : decide (0 < no) = false := by simp; omega
              by_cases c5 : n = 0
              · have d5 : decide ((0 : Int) < (n : Int)) = false := by simp; omega
                have d5' : decide (0 < n) = false := by simp; omega
                have HE : Hid (so = true → R = 0) := Lib.hid (fun hs => by rw [HR.out]; refine lr_ok (by omega) (by first | rw [if_pos (by omega)] | rw [if_neg (by omega)]) (by omega) (by omega) hs)
                have HSO : Hid (so = true) := Lib.hid (by
                  have : nm = [] := List.eq_nil_of_length_eq_zero (HLN.out.trans c5)
                  rw [HSO0.out, this]; rfl)
                clear c5 HR
                go_wp2_with (first | (with_reducible refine hold_append ?_) | (with_reducible refine hold_make ?_) | (with_reducible refine hold_copy ?_))
                go_loopw [5] (fun s wr => s = .int .i64 0 ∧ Box wr w.heap.size 33 #[.int .u8 (kd : Int), .int .u32 (f : Int), .string (str g), .string (str h), .int .u8 (xa : Int), .int .u16 (no : Int), .slice A n c] ∧ Below w.heap.size w wr) (fun _ _ => 0)
                case atStart => exact ⟨rfl, hS3.1, hS3.2⟩
                case round =>
                  clear x0 x1 x2 x3 x4 x5 x6
                  obtain ⟨rfl, hbr, hBr⟩ := hrel
                  have x6 := hbr.cell (j := 6) rfl
                  go_wp2_with (first | (with_reducible refine hold_append ?_) | (with_reducible refine hold_make ?_) | (with_reducible refine hold_copy ?_))
                  go_ret
                  rw [HE.out HSO.out]
                  exact ⟨rfl, hBr⟩
              · have d5 : decide ((0 : Int) < (n : Int)) = true := by simp; omega
                have d5' : 0 < n := by omega
                have HE : Hid (R = 250) := Lib.hid (by rw [HR.out]; exact lr_E (by omega))
                clear HR
                go_wp2_with (first | (with_reducible refine hold_append ?_) | (with_reducible refine hold_make ?_) | (with_reducible refine hold_copy ?_))
                go_loopw [5] (fun s wr => s = .int .i64 0 ∧ Box wr w.heap.size 33 #[.int .u8 (kd : Int), .int .u32 (f : Int), .string (str g), .string (str h), .int .u8 (xa : Int), .int .u16 (no : Int), .slice A n c] ∧ Below w.heap.size w wr) (fun _ _ => 0)
                case atStart => exact ⟨rfl, hS3.1, hS3.2⟩
                case round =>
                  clear x0 x1 x2 x3 x4 x5 x6
                  obtain ⟨rfl, hbr, hBr⟩ := hrel
                  have x0 := hbr.cell (j := 0) rfl
                  have x6 := hbr.cell (j := 6) rfl
                  go_wp2_with (first | (with_reducible refine hold_append ?_) | (with_reducible refine hold_make ?_) | (with_reducible refine hold_copy ?_))
                  go_quiet (fail)
                  go_wp2_with (first | (with_reducible refine hold_append ?_) | (with_reducible refine hold_make ?_) | (with_reducible refine hold_copy ?_))
                  go_ret
                  rw [HE.out]
                  exact ⟨rfl, below_drewN hBr _⟩
            · have d4 : decide ((0 : Int) < (no : Int)) = true := by simp; omega
              have d4' : 0 < no := by omega
              have HE : Hid (R = 250) := Lib.hid (by rw [HR.out]; first | exact lr_A (by omega) | exact lr_B (by omega) | exact lr_C (by omega) | exact lr_D (by omega) | exact lr_E (by omega))
              clear HR
              go_wp2_with (first | (with_reducible refine hold_append ?_) | (with_reducible refine hold_make ?_) | (with_reducible refine hold_copy ?_))
              go_ret
              rw [HE.out]
              exact ⟨rfl, (hS3).2⟩
          · have d3 : decide ((0 : Int) < (xa : Int)) = true := by simp; omega
            have d3' : 0 < xa := by omega
            by_cases c4 : no = 0
            · have d4 : decide ((0 : Int) < (no : Int)) = false := by simp; omega
              have d4' : decide (0 < no) = false := by simp; omega
              have HE : Hid (R = 250) := Lib.hid (by rw [HR.out]; first | exact lr_A (by omega) | exact lr_B (by omega) | exact lr_C (by omega) | exact lr_D (by omega) | exact lr_E (by omega))
              clear HR
              go_wp2_with (first | (with_reducible refine hold_append ?_) | (with_reducible refine hold_make ?_) | (with_reducible refine hold_copy ?_))
              go_ret
              rw [HE.out]
              exact ⟨rfl, (hS3).2⟩
            · have d4 : decide ((0 : Int) < (no : Int)) = true := by simp; omega
              have d4' : 0 < no := by omega
              have HE : Hid (R = 250) := Lib.hid (by rw [HR.out]; first | exact lr_A (by omega) | exact lr_B (by omega) | exact lr_C (by omega) | exact lr_D (by omega) | exact lr_E (by omega))
              clear HR
              go_wp2_with (first | (with_reducible refine hold_append ?_) | (with_reducible refine hold_make ?_) | (with_reducible refine hold_copy ?_))
              go_ret
              rw [HE.out]
              exact ⟨rfl, (hS3).2⟩
end Go.PH
end
section
/- The reference's Check of letters. -/
set_option linter.all false
set_option linter.unusedSimpArgs false
set_option linter.unusedVariables false
namespace Go.PH
open Go.RowKit Go.Proofs

theorem rlcheck_any (l : Lt) (A : Option Addr) (n c : Nat) (B : Nat) (w : World) (hl : l.wf) (hr : RdX w B A n c l.names) (hB : B ≤ w.heap.size) (hn : n ≤ 1000000) :
    Calls Try.prog 45 #[.agg (ltV l A n c)] w fun e w' => e = .returned (.int .i64 (ltErr l : Int)) ∧ Below w.heap.size w w' := by
  rcases (show l.kind = 5 ∨ l.kind = 21 ∨ (17 ≤ l.kind ∧ l.kind ≤ 20) ∨ (1 ≤ l.kind ∧ l.kind ≤ 4) ∨ l.kind = 0 ∨ (6 ≤ l.kind ∧ l.kind ≤ 16) ∨ 21 < l.kind by omega) with hk | hk | hk | hk | hk | hk | hk
  · exact rlcheck_0 l A n c B w hl hr hB hn hk
  · exact rlcheck_1 l A n c B w hl hr hB hn hk
  · exact rlcheck_2 l A n c B w hl hr hB hn hk
  · exact rlcheck_3 l A n c B w hl hr hB hn hk
  · exact rlcheck_4 l A n c B w hl hr hB hn hk
  · exact rlcheck_5 l A n c B w hl hr hB hn hk
  · exact rlcheck_6 l A n c B w hl hr hB hn hk
end Go.PH
end
section
/- The walk of the reference's Restore. -/
set_option linter.all false
set_option linter.unusedSimpArgs false
set_option linter.unusedVariables false
namespace Go.PH
open Go.RowKit Go.Proofs

set_option maxRecDepth 20000 in
set_option maxHeartbeats 2000000 in
theorem rrestore_any (X : Xd) (l : List Pt) (A : Option Addr) (n c : Nat) (B : Nat) (w : World) (hX : X.wf) (hr : RdP w B A n c l) (hB : B ≤ w.heap.size) (hwf : ∀ p ∈ l, p.wf) (hn : n ≤ 1000000000) :
    Calls Try.prog 18 #[.agg (dcV X A n c)] w fun e w' => TurnR w (Gl.restore X l) e w' := by
  have hl := rec_length ptShape hr
  have HL := Lib.hid hl
  obtain ⟨RS, hRS⟩ : ∃ RS, RS = Gl.restore X l := ⟨_, rfl⟩
  rw [← hRS]
  have HRS : Hid (RS = if dcOk X l = false then (gl0, 260) else (⟨X, 3, true, allTo 1 l, 0, 0⟩, 0)) := Lib.hid (by rw [hRS]; rfl)
  have HE : Hid (dcErr X l = if dcOk X l then 0 else 260) := Lib.hid rfl
  have hck := fun W hW => rdcheck_any X A n c l B W hX (hr.below' hW hB) (Nat.le_trans hB hW.size) hwf hn
  have hcp := fun W hW => rcopy_any ⟨X, 3, true, l, 0, 0⟩ A n c B W (hr.below' hW hB) (Nat.le_trans hB hW.size) hn
  clear hRS hr hl hwf
  generalize dcErr X l = er at *
  generalize dcOk X l = ok at *
  obtain ⟨f, g, h⟩ := X
  unfold dcV at *
  unfold glV at hcp
  simp only at hck hcp ⊢
  obtain ⟨hb0, hz0, hB0⟩ := box2_of w #[.int .u32 (f : Int), .string (str g), .string (str h), .slice A n c] #[.int .u32 0, .string ⟨#[]⟩, .string ⟨#[]⟩, .int .u8 0, .bool false, .slice none 0 0, .int .u32 0, .int .u32 0] 49 28
  obtain ⟨w0, hw0⟩ : ∃ w0, w0 = ((w.alloc (.cells #[.int .u32 (f : Int), .string (str g), .string (str h), .slice A n c] 49)).alloc (.cells #[.int .u32 0, .string ⟨#[]⟩, .string ⟨#[]⟩, .int .u8 0, .bool false, .slice none 0 0, .int .u32 0, .int .u32 0] 28)) := ⟨_, rfl⟩
  rw [← hw0] at hb0 hz0 hB0
  have hck0 := hck w0 hB0
  clear hck
  have x0 := hb0.cell (j := 0) rfl
  have x1 := hb0.cell (j := 1) rfl
  have x2 := hb0.cell (j := 2) rfl
  have x3 := hb0.cell (j := 3) rfl
  go_enter Try.func18, Try.ntmps18
  go_upto_region 1 with fail
  rw [← hw0]
  clear hw0
  go_wp2_with (first | (with_reducible refine hold_append ?_) | (with_reducible refine hold_make ?_) | (with_reducible refine hold_copy ?_) | (with_reducible refine hold_store ?_))
  refine hck0.mono ?_
  rintro e w1 ⟨rfl, hB1⟩
  have hb1 := hb0.below hB1
  have hz1 := hz0.below hB1
  have hB01 := hB0.trans (hB1.mono hB0.size)
  clear hck0 hb0 hz0 hB0 hB1 x0 x1 x2 x3
  cases ok
  · obtain rfl : er = 260 := by have := HE.out; simpa using this
    have HRES : Hid (RS = (gl0, 260)) := Lib.hid (by rw [HRS.out]; simp)
    go_wp2_with (first | (with_reducible refine hold_append ?_) | (with_reducible refine hold_make ?_) | (with_reducible refine hold_copy ?_) | (with_reducible refine hold_store ?_))
    refine unhold (wp_box (v := .agg #[.int .u32 0, .string ⟨#[]⟩, .string ⟨#[]⟩, .int .u8 0, .bool false, .slice none 0 0, .int .u32 0, .int .u32 0]) (vs := [.int .u32 0, .string ⟨#[]⟩, .string ⟨#[]⟩, .int .u8 0, .bool false, .slice none 0 0, .int .u32 0, .int .u32 0]) rfl rfl rfl rfl hz1 rfl (by kernel_rfl) (by simp) gl_one #[.int .u32 0, .string ⟨#[]⟩, .string ⟨#[]⟩, .int .u8 0, .bool false, .slice none 0 0, .int .u32 0, .int .u32 0] (by simp) ?_)
    intro w9 hb9 hg9 _
    have hB9 := below_box hB01 hg9 (by omega)
    go_wp2_with (first | (with_reducible refine hold_append ?_) | (with_reducible refine hold_make ?_) | (with_reducible refine hold_copy ?_))
    refine ret_box_tmp rfl hb9 rfl rfl Try.underlying28 rfl (by kernel_rfl) rfl ?_
    rw [HRES.out]
    exact ⟨none, 0, 0, rfl, Own.none_ _ _ _ _, by omega, hB9⟩
  · obtain rfl : er = 0 := by have := HE.out; simpa using this
    have HRES : Hid (RS = (⟨⟨f, g, h⟩, 3, true, allTo 1 l, 0, 0⟩, 0)) := Lib.hid (by rw [HRS.out]; simp)
    have x0 := hb1.cell (j := 0) rfl
    have x1 := hb1.cell (j := 1) rfl
    have x2 := hb1.cell (j := 2) rfl
    have x3 := hb1.cell (j := 3) rfl
    have hc1 := hcp w1 hB01
    clear hcp HRS
    have hzr := hz1.lt
    go_wp2_with (first | (with_reducible refine hold_append ?_) | (with_reducible refine hold_make ?_) | (with_reducible refine hold_copy ?_))
    refine hc1.mono ?_
    rintro e w2 ⟨A2, c2, rfl, ho2, hB2⟩
    have hz2 := hz1.below hB2
    have hB02 := hB01.trans (hB2.mono hB01.size)
    have hsz2 := hB01.size
    have hblt : ∀ g, blk A2 = some g → w.heap.size + 1 < g ∧ g < w2.heap.size := fun g hg => by
      have := ho2.blk_lt hg
      omega
    have hC := Box.new w2 #[.int .u32 (f : Int), .string (str g), .string (str h), .int .u8 3, .bool true, .slice A2 n c2, .int .u32 0, .int .u32 0] 28
    have hBC := hB02.alloc hB02.size (.cells #[.int .u32 (f : Int), .string (str g), .string (str h), .int .u8 3, .bool true, .slice A2 n c2, .int .u32 0, .int .u32 0] 28)
    have hzC := hz2.alloc (.cells #[.int .u32 (f : Int), .string (str g), .string (str h), .int .u8 3, .bool true, .slice A2 n c2, .int .u32 0, .int .u32 0] 28)
    have hoC : OwnP (w2.alloc (.cells #[.int .u32 (f : Int), .string (str g), .string (str h), .int .u8 3, .bool true, .slice A2 n c2, .int .u32 0, .int .u32 0] 28)) w1.heap.size A2 n c2 l := ho2.alloc _
    have hlow : w.heap.size + 1 < w2.heap.size := hz2.lt
    clear hc1 x0 x1 x2 x3 hb1 hz1 hz2 ho2
    go_wp2_with (first | (with_reducible refine hold_append ?_) | (with_reducible refine hold_make ?_) | (with_reducible refine hold_copy ?_))
    generalize hbc : w2.heap.size = bc at *
    generalize (w2.alloc (.cells #[.int .u32 (f : Int), .string (str g), .string (str h), .int .u8 3, .bool true, .slice A2 n c2, .int .u32 0, .int .u32 0] 28)) = wq at *
    clear hbc hB2 hB02
    go_loopw [5] (fun s wr => ∃ (k : Nat) (T : List Pt), k ≤ n ∧ s = .int .i64 k ∧ Hid (T.take k = (allTo 1 l).take k) ∧ Hid (T.drop k = l.drop k) ∧ OwnP wr w1.heap.size A2 n c2 T ∧ Box wr bc 28 #[.int .u32 (f : Int), .string (str g), .string (str h), .int .u8 3, .bool true, .slice A2 n c2, .int .u32 0, .int .u32 0] ∧ Box wr (w.heap.size + 1) 28 #[.int .u32 0, .string ⟨#[]⟩, .string ⟨#[]⟩, .int .u8 0, .bool false, .slice none 0 0, .int .u32 0, .int .u32 0] ∧ Below w.heap.size w wr) (fun s _ => n - (RowKit.intOf s).toNat)
    case atStart => exact ⟨0, l, by omega, rfl, Lib.hid (by simp), Lib.hid rfl, hoC, hC, hzC, hBC⟩
    case round =>
      clear hoC hC hzC hBC
      obtain ⟨k, T, hk, rfl, H1, H2, ho, hC, hz, hBr⟩ := hrel
      have hTl := own_len ptShape ho
      have HT := Lib.hid hTl
      clear hTl
      have y5 := hC.cell (j := 5) rfl
      by_cases hlt : k < n
      · have hkn : (k : Int) < (n : Int) := by omega
        obtain ⟨g', rfl, hbg, hgs⟩ := own_some ho (by omega)
        have hgb := hblt g' rfl
        have hkT : k < T.length := by rw [HT.out]; exact hlt
        have hkl : k < l.length := by rw [HL.out]; exact hlt
        obtain ⟨s1, s2, s3⟩ := allTo_step H1.out H2.out hkl hkT
        have HS1 := Lib.hid s1
        have HS2' := Lib.hid s2
        have HF : Hid (ptC (Pt.to 1 l[k]) = (ptC T[k]).take 4 ++ [.int .u8 1] ++ (ptC T[k]).drop (4 + [Value.int .u8 1].length)) := Lib.hid (by rw [s3]; simp [ptC, Pt.to])
        clear s1 s2 s3
        go_wp2_with (first | (with_reducible refine hold_append ?_) | (with_reducible refine hold_make ?_) | (with_reducible refine hold_copy ?_) | (with_reducible refine hold_store ?_))
        refine unhold (wp_recset ptShape rfl rfl rfl rfl ho (k := k) (i := 4) (vs := [.int .u8 1]) hlt hkT (Pt.to 1 l[k]) rfl (by kernel_rfl) HF.out (by simp) (by omega) ?_)
        intro w5 ho5 hg5 _
        have hB5 : Below w.heap.size w w5 := hBr.grown hg5 hBr.size (fun g'' e => by injection e with e; omega)
        have hC5 := hC.grown hg5 (by intro e; injection e with e; omega)
        have hz5 := hz.grown hg5 (by intro e; injection e with e; omega)
        go_wp2_with (first | (with_reducible refine hold_append ?_) | (with_reducible refine hold_make ?_) | (with_reducible refine hold_copy ?_))
        exact ⟨⟨k + 1, _, by omega, by go_num, HS1, HS2', ho5, hC5, hz5, hB5⟩, by simp [RowKit.intOf]; omega⟩
      · have hkn : n = k := by omega
        subst hkn
        have hTe : T = allTo 1 l := by
          have h1 := H1.out
          rwa [← HT.out, List.take_length, HT.out, ← HL.out, List.take_of_length_le (by simp [allTo])] at h1
        subst hTe
        have y0 := hC.cell (j := 0) rfl
        have y1 := hC.cell (j := 1) rfl
        have y2 := hC.cell (j := 2) rfl
        have y3 := hC.cell (j := 3) rfl
        have y4 := hC.cell (j := 4) rfl
        have y5 := hC.cell (j := 5) rfl
        have y6 := hC.cell (j := 6) rfl
        have y7 := hC.cell (j := 7) rfl
        go_wp2_with (first | (with_reducible refine hold_append ?_) | (with_reducible refine hold_make ?_) | (with_reducible refine hold_copy ?_) | (with_reducible refine hold_store ?_))
        refine unhold (wp_box (v := .agg #[.int .u32 (f : Int), .string (str g), .string (str h), .int .u8 3, .bool true, .slice A2 n c2, .int .u32 0, .int .u32 0]) (vs := [.int .u32 (f : Int), .string (str g), .string (str h), .int .u8 3, .bool true, .slice A2 n c2, .int .u32 0, .int .u32 0]) rfl rfl rfl rfl hz rfl (by kernel_rfl) (by simp) gl_one #[.int .u32 (f : Int), .string (str g), .string (str h), .int .u8 3, .bool true, .slice A2 n c2, .int .u32 0, .int .u32 0] (by simp) ?_)
        intro w8 hb8 hg8 _
        have hB08 := below_box hBr hg8 (by omega)
        have ho8 := own_stays ho hg8 (fun k hk e => by injection e with e; have := (hblt k hk).1; omega)
        go_wp2_with (first | (with_reducible refine hold_append ?_) | (with_reducible refine hold_make ?_) | (with_reducible refine hold_copy ?_))
        refine ret_box_tmp rfl hb8 rfl rfl Try.underlying28 rfl (by kernel_rfl) rfl ?_
        rw [HRES.out]
        exact ⟨A2, n, c2, rfl, Own.base_le ho8 hsz2, hn, hB08⟩
end Go.PH
end

/- Texts laid together: GtRLtM, GtRLt0, GtRLt1. -/
import Derived.Deep.QuietTactic
import Derived.BigQuiet
import Derived.Test.YtcfhnnbgghbjfaaMg02
import Derived.Test.YtcfhnnbgghbjfaaMg07
import Derived.Test.YtcfhnnbgghbjfaaMg08
section
/- The reference's Check of letters as mathematics. -/
set_option linter.all false
set_option linter.unusedSimpArgs false
set_option linter.unusedVariables false
namespace Go.PH

def lrErr (kd : Nat) (dx ok : Bool) (xa no n : Nat) (so : Bool) : Nat :=
  if ¬ ((17 ≤ kd ∧ kd ≤ 21) ∨ (1 ≤ kd ∧ kd ≤ 5)) ∨ 200 < n then 250
  else if (if kd = 5 ∨ kd = 21 then dx else ok) = false then 250
  else if 7 < xa ∨ 999 < no ∨ (0 < xa ∧ 0 < no) ∨ ((¬ (17 ≤ kd ∧ kd ≤ 21) ∨ kd = 5 ∨ kd = 21) ∧ (0 < xa ∨ 0 < no)) then 250
  else if (0 < n ∧ kd ≠ 21) ∨ so = false then 250 else 0
theorem ltErr_ref (kd : Nat) (x : Xd) (xa no : Nat) (nm : List Xd) : ltErr ⟨kd, x, xa, no, nm⟩ = lrErr kd (decide (x = xd0')) x.ok xa no nm.length (decide (nm = xdSort nm)) := by
  unfold ltErr
  rw [lt_ref]
  unfold ltRef
  simp only
  generalize decide (x = xd0') = dx
  generalize x.ok = ok
  have hd : decide (nm = []) = decide (nm.length = 0) := by rw [Bool.eq_iff_iff]; simp
  rw [hd]
  generalize nm.length = n
  generalize decide (nm = xdSort nm) = so
  have e1 : decide (kd = 5 ∨ kd = 21) = true ∨ decide (kd = 5 ∨ kd = 21) = false := by cases decide (kd = 5 ∨ kd = 21) <;> simp
  unfold lrErr
  by_cases k0 : (17 ≤ kd ∧ kd ≤ 21) ∨ (1 ≤ kd ∧ kd ≤ 5)
  · by_cases a6 : n ≤ 200
    · rw [if_neg (show ¬ (¬ ((17 ≤ kd ∧ kd ≤ 21) ∨ (1 ≤ kd ∧ kd ≤ 5)) ∨ 200 < n) by omega)]
      have f0 : (decide (17 ≤ kd ∧ kd ≤ 21) || decide (1 ≤ kd ∧ kd ≤ 5)) = true := by simpa using k0
      rw [f0, decide_eq_true a6]
      by_cases k1 : 17 ≤ kd ∧ kd ≤ 21
      · by_cases k2 : kd = 5 ∨ kd = 21
        · have h21 : kd = 21 := by omega
          subst h21
          by_cases a1 : xa ≤ 7 <;> by_cases a2 : no ≤ 999 <;> by_cases a3 : xa = 0 <;> by_cases a4 : no = 0 <;> by_cases a5 : n = 0 <;> cases dx <;> cases so <;> simp [a1, a2, a3, a4, a5] <;> omega
        · have h21 : ¬ kd = 21 := by omega
          have h5 : ¬ kd = 5 := by omega
          by_cases a1 : xa ≤ 7 <;> by_cases a2 : no ≤ 999 <;> by_cases a3 : xa = 0 <;> by_cases a4 : no = 0 <;> by_cases a5 : n = 0 <;> cases ok <;> cases so <;> simp [a1, a2, a3, a4, a5, k1, h21, h5] <;> omega
      · by_cases k2 : kd = 5 ∨ kd = 21
        · have h5 : kd = 5 := by omega
          subst h5
          by_cases a1 : xa ≤ 7 <;> by_cases a2 : no ≤ 999 <;> by_cases a3 : xa = 0 <;> by_cases a4 : no = 0 <;> by_cases a5 : n = 0 <;> cases dx <;> cases so <;> simp [a1, a2, a3, a4, a5] <;> omega
        · have h21 : ¬ kd = 21 := by omega
          have h5 : ¬ kd = 5 := by omega
          by_cases a1 : xa ≤ 7 <;> by_cases a2 : no ≤ 999 <;> by_cases a3 : xa = 0 <;> by_cases a4 : no = 0 <;> by_cases a5 : n = 0 <;> cases ok <;> cases so <;> simp [a1, a2, a3, a4, a5, k1, h21, h5] <;> omega
    · rw [if_pos (show ¬ ((17 ≤ kd ∧ kd ≤ 21) ∨ (1 ≤ kd ∧ kd ≤ 5)) ∨ 200 < n by omega), decide_eq_false a6]; simp
  · rw [if_pos (show ¬ ((17 ≤ kd ∧ kd ≤ 21) ∨ (1 ≤ kd ∧ kd ≤ 5)) ∨ 200 < n from Or.inl k0)]
    have f0 : (decide (17 ≤ kd ∧ kd ≤ 21) || decide (1 ≤ kd ∧ kd ≤ 5)) = false := by rw [Bool.eq_false_iff]; simpa using k0
    rw [f0]; simp
section
variable {kd : Nat} {dx ok : Bool} {xa no n : Nat} {so : Bool}
theorem lr_bad (h : ¬ ((17 ≤ kd ∧ kd ≤ 21) ∨ (1 ≤ kd ∧ kd ≤ 5)) ∨ 200 < n ∨ (if kd = 5 ∨ kd = 21 then dx else ok) = false ∨ 7 < xa ∨ 999 < no ∨ (0 < xa ∧ 0 < no) ∨ ((¬ (17 ≤ kd ∧ kd ≤ 21) ∨ kd = 5 ∨ kd = 21) ∧ (0 < xa ∨ 0 < no)) ∨ (0 < n ∧ kd ≠ 21) ∨ so = false) : lrErr kd dx ok xa no n so = 250 := by
  unfold lrErr
  by_cases h1 : ¬ ((17 ≤ kd ∧ kd ≤ 21) ∨ (1 ≤ kd ∧ kd ≤ 5)) ∨ 200 < n
  · rw [if_pos h1]
  rw [if_neg h1]
  by_cases h2 : (if kd = 5 ∨ kd = 21 then dx else ok) = false
  · rw [if_pos h2]
  rw [if_neg h2]
  by_cases h3 : 7 < xa ∨ 999 < no ∨ (0 < xa ∧ 0 < no) ∨ ((¬ (17 ≤ kd ∧ kd ≤ 21) ∨ kd = 5 ∨ kd = 21) ∧ (0 < xa ∨ 0 < no))
  · rw [if_pos h3]
  rw [if_neg h3]
  by_cases h4 : (0 < n ∧ kd ≠ 21) ∨ so = false
  · rw [if_pos h4]
  exfalso
  rcases h with h | h | h | h | h | h | h | h | h
  · exact h1 (.inl h)
  · exact h1 (.inr h)
  · exact h2 h
  · exact h3 (.inl h)
  · exact h3 (.inr (.inl h))
  · exact h3 (.inr (.inr (.inl h)))
  · exact h3 (.inr (.inr (.inr h)))
  · exact h4 (.inl h)
  · exact h4 (.inr h)
theorem lr_A (h : ¬ ((17 ≤ kd ∧ kd ≤ 21) ∨ (1 ≤ kd ∧ kd ≤ 5)) ∨ 200 < n) : lrErr kd dx ok xa no n so = 250 := lr_bad (h.elim .inl (fun h => .inr (.inl h)))
theorem lr_B (h : kd = 5 ∨ kd = 21) : lrErr kd false ok xa no n so = 250 := lr_bad (.inr (.inr (.inl (if_pos h))))
theorem lr_C (h : ¬ (kd = 5 ∨ kd = 21)) : lrErr kd dx false xa no n so = 250 := lr_bad (.inr (.inr (.inl (if_neg h))))
theorem lr_D (h : 7 < xa ∨ 999 < no ∨ (0 < xa ∧ 0 < no) ∨ ((¬ (17 ≤ kd ∧ kd ≤ 21) ∨ kd = 5 ∨ kd = 21) ∧ (0 < xa ∨ 0 < no))) : lrErr kd dx ok xa no n so = 250 := lr_bad (by
  rcases h with h | h | h | h
  · exact .inr (.inr (.inr (.inl h)))
  · exact .inr (.inr (.inr (.inr (.inl h))))
  · exact .inr (.inr (.inr (.inr (.inr (.inl h)))))
  · exact .inr (.inr (.inr (.inr (.inr (.inr (.inl h)))))))
theorem lr_E (h : 0 < n ∧ kd ≠ 21) : lrErr kd dx ok xa no n so = 250 := lr_bad (.inr (.inr (.inr (.inr (.inr (.inr (.inr (.inl h))))))))
theorem lr_F (h : so = false) : lrErr kd dx ok xa no n so = 250 := lr_bad (.inr (.inr (.inr (.inr (.inr (.inr (.inr (.inr h))))))))
theorem lr_ok (h1 : ¬ (¬ ((17 ≤ kd ∧ kd ≤ 21) ∨ (1 ≤ kd ∧ kd ≤ 5)) ∨ 200 < n)) (h2 : (if kd = 5 ∨ kd = 21 then dx else ok) = true) (h3 : ¬ (7 < xa ∨ 999 < no ∨ (0 < xa ∧ 0 < no) ∨ ((¬ (17 ≤ kd ∧ kd ≤ 21) ∨ kd = 5 ∨ kd = 21) ∧ (0 < xa ∨ 0 < no)))) (h4 : ¬ (0 < n ∧ kd ≠ 21)) (h5 : so = true) : lrErr kd dx ok xa no n so = 0 := by
  unfold lrErr
  rw [if_neg h1, if_neg (by rw [h2]; simp), if_neg h3, if_neg (by rw [h5]; simpa using h4)]
end
end Go.PH
end
section
/- Words for the walk of the reference's Check of letters. -/
set_option linter.all false
set_option linter.unusedSimpArgs false
set_option linter.unusedVariables false
namespace Go.PH
open Go.RowKit Go.Proofs

end Go.PH
end
section
/- The walk of the reference's Check of letters: kinds 5, 0, 6 to 16, above 21. -/
set_option linter.all false
set_option linter.unusedSimpArgs false
set_option linter.unusedVariables false
namespace Go.PH
open Go.RowKit Go.Proofs

set_option maxRecDepth 20000 in
set_option maxHeartbeats 8000000 in
theorem rlcheck_0 (l : Lt) (A : Option Addr) (n c : Nat) (B : Nat) (w : World) (hl : l.wf) (hr : RdX w B A n c l.names) (hB : B ≤ w.heap.size) (hn : n ≤ 1000000) (hk : l.kind = 5) :
    Calls Try.prog 45 #[.agg (ltV l A n c)] w fun e w' => e = .returned (.int .i64 (ltErr l : Int)) ∧ Below w.heap.size w w' := by
  have hr0 := hr
  have HLN := Lib.hid (rec_length xdShape hr)
  have hck := fun W => rcheck_any l.x W hl.2.1
  have hkd := hl.1
  have hxa := hl.2.2.1
  have hno := hl.2.2.2.1
  have hwf := hl.2.2.2.2
  obtain ⟨R, hR⟩ : ∃ R, R = ltErr l := ⟨_, rfl⟩
  rw [← hR]
  clear hl hr
  obtain ⟨kd, x, xa, no, nm⟩ := l
  simp only at HLN hck hkd hxa hno hwf hr0 hk
  have HR := Lib.hid (hR.trans (by rw [ltErr_ref kd x xa no nm, HLN.out]))
  unfold ltV
  simp only
  clear hR
  have hneq := fun w => xid_neqC x xd0' w
  have HE0 : Hid (x.err = if x.ok then 0 else 40) := Lib.hid rfl
  obtain ⟨so, hso⟩ : ∃ so, so = decide (nm = xdSort nm) := ⟨_, rfl⟩
  rw [← hso] at HR
  have HSO0 := Lib.hid hso
  clear hso
  generalize x.err = er at *
  generalize x.ok = ok at *
  generalize decide (x = xd0') = dx at *
  obtain ⟨f, g, h⟩ := x
  have hneq2 : ∀ w, (binOp .neq 24 (.agg #[.int .u32 (f : Int), .string (str g), .string (str h)]) (.agg #[.int .u32 0, .string ⟨#[]⟩, .string ⟨#[]⟩])).run Try.prog w = .ok (.bool (!dx)) w := hneq
  clear hneq
  simp only [xdV] at hck
  subst hk
  have hb0 := Box.new w #[.int .u8 5, .int .u32 (f : Int), .string (str g), .string (str h), .int .u8 (xa : Int), .int .u16 (no : Int), .slice A n c] 33
  have hB0 := (Below.refl w.heap.size w).alloc (Nat.le_refl _) (.cells #[.int .u8 5, .int .u32 (f : Int), .string (str g), .string (str h), .int .u8 (xa : Int), .int .u16 (no : Int), .slice A n c] 33)
  obtain ⟨w0, hw0⟩ : ∃ w0, w0 = (w.alloc (.cells #[.int .u8 5, .int .u32 (f : Int), .string (str g), .string (str h), .int .u8 (xa : Int), .int .u16 (no : Int), .slice A n c] 33)) := ⟨_, rfl⟩
  rw [← hw0] at hb0 hB0
  have hgd := fun x y => run_eqGuard_agg (P := Try.prog) w0 .neq 24 x y #[.int .u32 (f : Int), .string (str g), .string (str h)] #[.int .u32 0, .string ⟨#[]⟩, .string ⟨#[]⟩] xid_guard
  have x0 := hb0.cell (j := 0) rfl
  have x1 := hb0.cell (j := 1) rfl
  have x2 := hb0.cell (j := 2) rfl
  have x3 := hb0.cell (j := 3) rfl
  have x4 := hb0.cell (j := 4) rfl
  have x5 := hb0.cell (j := 5) rfl
  have x6 := hb0.cell (j := 6) rfl
  go_enter Try.func45, Try.ntmps45
  go_upto_region 1 with fail
  rw [← hw0]
  clear hw0
  by_cases c0 : 200 < n
  · have d0 : decide ((200 : Int) < (n : Int)) = true := by simp; omega
    have HE : Hid (R = 250) := Lib.hid (by rw [HR.out]; first | exact lr_A (by omega) | exact lr_B (by omega) | exact lr_C (by omega) | exact lr_D (by omega) | exact lr_E (by omega))
    clear HR
    go_wp2_with (first | (with_reducible refine hold_append ?_) | (with_reducible refine hold_make ?_) | (with_reducible refine hold_copy ?_))
    go_ret
    rw [HE.out]
    exact ⟨rfl, hB0⟩
  · have d0 : decide ((200 : Int) < (n : Int)) = false := by simp; omega
    cases dx
    · have HE : Hid (R = 250) := Lib.hid (by rw [HR.out]; first | exact lr_A (by omega) | exact lr_B (by omega) | exact lr_C (by omega) | exact lr_D (by omega) | exact lr_E (by omega))
      clear HR
      go_wp2_with (first | (with_reducible refine hold_append ?_) | (with_reducible refine hold_make ?_) | (with_reducible refine hold_copy ?_))
      go_ret
      rw [HE.out]
      exact ⟨rfl, hB0⟩
    · simp only [Bool.not_true] at hneq2
      have hS0 : Box w0 w.heap.size 33 #[.int .u8 5, .int .u32 (f : Int), .string (str g), .string (str h), .int .u8 (xa : Int), .int .u16 (no : Int), .slice A n c] ∧ Below w.heap.size w w0 := ⟨hb0, hB0⟩
      by_cases c1 : 7 < xa
      · have d1 : decide ((7 : Int) < (xa : Int)) = true := by simp; omega
        have HE : Hid (R = 250) := Lib.hid (by rw [HR.out]; first | exact lr_A (by omega) | exact lr_B (by omega) | exact lr_C (by omega) | exact lr_D (by omega) | exact lr_E (by omega))
        clear HR
        go_wp2_with (first | (with_reducible refine hold_append ?_) | (with_reducible refine hold_make ?_) | (with_reducible refine hold_copy ?_))
        go_ret
        rw [HE.out]
        exact ⟨rfl, (hS0).2⟩
      · have d1 : decide ((7 : Int) < (xa : Int)) = false := by simp; omega
        by_cases c2 : 999 < no
        · have d2 : decide ((999 : Int) < (no : Int)) = true := by simp; omega
          have HE : Hid (R = 250) := Lib.hid (by rw [HR.out]; first | exact lr_A (by omega) | exact lr_B (by omega) | exact lr_C (by omega) | exact lr_D (by omega) | exact lr_E (by omega))
          clear HR
          go_wp2_with (first | (with_reducible refine hold_append ?_) | (with_reducible refine hold_make ?_) | (with_reducible refine hold_copy ?_))
          go_ret
          rw [HE.out]
          exact ⟨rfl, (hS0).2⟩
        · have d2 : decide ((999 : Int) < (no : Int)) = false := by simp; omega
          by_cases c3 : xa = 0
          · have d3 : decide ((0 : Int) < (xa : Int)) = false := by simp; omega
            have d3' : decide (0 < xa) = false := by simp; omega
            by_cases c4 : no = 0
            · have d4 : decide ((0 : Int) < (no : Int)) = false := by simp; omega
              have d4' : decide (0 < no) = false := by simp; omega
              by_cases c5 : n = 0
              · have d5 : decide ((0 : Int) < (n : Int)) = false := by simp; omega
                have d5' : decide (0 < n) = false := by simp; omega
                have HE : Hid (so = true → R = 0) := Lib.hid (fun hs => by rw [HR.out]; refine lr_ok (by omega) (by first | rw [if_pos (by omega)] | rw [if_neg (by omega)]) (by omega) (by omega) hs)
                have HSO : Hid (so = true) := Lib.hid (by
                  have : nm = [] := List.eq_nil_of_length_eq_zero (HLN.out.trans c5)
                  rw [HSO0.out, this]; rfl)
                clear c5 HR
                go_wp2_with (first | (with_reducible refine hold_append ?_) | (with_reducible refine hold_make ?_) | (with_reducible refine hold_copy ?_))
                go_loopw [5] (fun s wr => s = .int .i64 0 ∧ Box wr w.heap.size 33 #[.int .u8 5, .int .u32 (f : Int), .string (str g), .string (str h), .int .u8 (xa : Int), .int .u16 (no : Int), .slice A n c] ∧ Below w.heap.size w wr) (fun _ _ => 0)
                case atStart => exact ⟨rfl, hS0.1, hS0.2⟩
                case round =>
                  clear x0 x1 x2 x3 x4 x5 x6
                  obtain ⟨rfl, hbr, hBr⟩ := hrel
                  have x6 := hbr.cell (j := 6) rfl
                  go_wp2_with (first | (with_reducible refine hold_append ?_) | (with_reducible refine hold_make ?_) | (with_reducible refine hold_copy ?_))
                  go_ret
                  rw [HE.out HSO.out]
                  exact ⟨rfl, hBr⟩
              · have d5 : decide ((0 : Int) < (n : Int)) = true := by simp; omega
                have d5' : 0 < n := by omega
                have HE : Hid (R = 250) := Lib.hid (by rw [HR.out]; exact lr_E (by omega))
                clear HR
                go_wp2_with (first | (with_reducible refine hold_append ?_) | (with_reducible refine hold_make ?_) | (with_reducible refine hold_copy ?_))
                go_loopw [5] (fun s wr => s = .int .i64 0 ∧ Box wr w.heap.size 33 #[.int .u8 5, .int .u32 (f : Int), .string (str g), .string (str h), .int .u8 (xa : Int), .int .u16 (no : Int), .slice A n c] ∧ Below w.heap.size w wr) (fun _ _ => 0)
                case atStart => exact ⟨rfl, hS0.1, hS0.2⟩
                case round =>
                  clear x0 x1 x2 x3 x4 x5 x6
                  obtain ⟨rfl, hbr, hBr⟩ := hrel
                  have x0 := hbr.cell (j := 0) rfl
                  have x6 := hbr.cell (j := 6) rfl
                  go_wp2_with (first | (with_reducible refine hold_append ?_) | (with_reducible refine hold_make ?_) | (with_reducible refine hold_copy ?_))
                  go_quiet (fail)
                  go_wp2_with (first | (with_reducible refine hold_append ?_) | (with_reducible refine hold_make ?_) | (with_reducible refine hold_copy ?_))
                  go_ret
                  rw [HE.out]
                  exact ⟨rfl, below_drewN hBr _⟩
            · have d4 : decide ((0 : Int) < (no : Int)) = true := by simp; omega
              have d4' : 0 < no := by omega
              have HE : Hid (R = 250) := Lib.hid (by rw [HR.out]; first | exact lr_A (by omega) | exact lr_B (by omega) | exact lr_C (by omega) | exact lr_D (by omega) | exact lr_E (by omega))
              clear HR
              go_wp2_with (first | (with_reducible refine hold_append ?_) | (with_reducible refine hold_make ?_) | (with_reducible refine hold_copy ?_))
              go_ret
              rw [HE.out]
              exact ⟨rfl, (hS0).2⟩
          · have d3 : decide ((0 : Int) < (xa : Int)) = true := by simp; omega
            have d3' : 0 < xa := by omega
            by_cases c4 : no = 0
            · have d4 : decide ((0 : Int) < (no : Int)) = false := by simp; omega
              have d4' : decide (0 < no) = false := by simp; omega
              have HE : Hid (R = 250) := Lib.hid (by rw [HR.out]; first | exact lr_A (by omega) | exact lr_B (by omega) | exact lr_C (by omega) | exact lr_D (by omega) | exact lr_E (by omega))
              clear HR
              go_wp2_with (first | (with_reducible refine hold_append ?_) | (with_reducible refine hold_make ?_) | (with_reducible refine hold_copy ?_))
              go_ret
              rw [HE.out]
              exact ⟨rfl, (hS0).2⟩
            · have d4 : decide ((0 : Int) < (no : Int)) = true := by simp; omega
              have d4' : 0 < no := by omega
              have HE : Hid (R = 250) := Lib.hid (by rw [HR.out]; first | exact lr_A (by omega) | exact lr_B (by omega) | exact lr_C (by omega) | exact lr_D (by omega) | exact lr_E (by omega))
              clear HR
              go_wp2_with (first | (with_reducible refine hold_append ?_) | (with_reducible refine hold_make ?_) | (with_reducible refine hold_copy ?_))
              go_ret
              rw [HE.out]
              exact ⟨rfl, (hS0).2⟩
set_option maxRecDepth 20000 in
set_option maxHeartbeats 8000000 in
theorem rlcheck_4 (l : Lt) (A : Option Addr) (n c : Nat) (B : Nat) (w : World) (hl : l.wf) (hr : RdX w B A n c l.names) (hB : B ≤ w.heap.size) (hn : n ≤ 1000000) (hk : l.kind = 0) :
    Calls Try.prog 45 #[.agg (ltV l A n c)] w fun e w' => e = .returned (.int .i64 (ltErr l : Int)) ∧ Below w.heap.size w w' := by
  have hr0 := hr
  have HLN := Lib.hid (rec_length xdShape hr)
  have hck := fun W => rcheck_any l.x W hl.2.1
  have hkd := hl.1
  have hxa := hl.2.2.1
  have hno := hl.2.2.2.1
  have hwf := hl.2.2.2.2
  obtain ⟨R, hR⟩ : ∃ R, R = ltErr l := ⟨_, rfl⟩
  rw [← hR]
  clear hl hr
  obtain ⟨kd, x, xa, no, nm⟩ := l
  simp only at HLN hck hkd hxa hno hwf hr0 hk
  have HR := Lib.hid (hR.trans (by rw [ltErr_ref kd x xa no nm, HLN.out]))
  unfold ltV
  simp only
  clear hR
  have hneq := fun w => xid_neqC x xd0' w
  have HE0 : Hid (x.err = if x.ok then 0 else 40) := Lib.hid rfl
  obtain ⟨so, hso⟩ : ∃ so, so = decide (nm = xdSort nm) := ⟨_, rfl⟩
  rw [← hso] at HR
  have HSO0 := Lib.hid hso
  clear hso
  generalize x.err = er at *
  generalize x.ok = ok at *
  generalize decide (x = xd0') = dx at *
  obtain ⟨f, g, h⟩ := x
  have hneq2 : ∀ w, (binOp .neq 24 (.agg #[.int .u32 (f : Int), .string (str g), .string (str h)]) (.agg #[.int .u32 0, .string ⟨#[]⟩, .string ⟨#[]⟩])).run Try.prog w = .ok (.bool (!dx)) w := hneq
  clear hneq
  simp only [xdV] at hck
  subst hk
  have hb0 := Box.new w #[.int .u8 0, .int .u32 (f : Int), .string (str g), .string (str h), .int .u8 (xa : Int), .int .u16 (no : Int), .slice A n c] 33
  have hB0 := (Below.refl w.heap.size w).alloc (Nat.le_refl _) (.cells #[.int .u8 0, .int .u32 (f : Int), .string (str g), .string (str h), .int .u8 (xa : Int), .int .u16 (no : Int), .slice A n c] 33)
  obtain ⟨w0, hw0⟩ : ∃ w0, w0 = (w.alloc (.cells #[.int .u8 0, .int .u32 (f : Int), .string (str g), .string (str h), .int .u8 (xa : Int), .int .u16 (no : Int), .slice A n c] 33)) := ⟨_, rfl⟩
  rw [← hw0] at hb0 hB0
  have hgd := fun x y => run_eqGuard_agg (P := Try.prog) w0 .neq 24 x y #[.int .u32 (f : Int), .string (str g), .string (str h)] #[.int .u32 0, .string ⟨#[]⟩, .string ⟨#[]⟩] xid_guard
  have x0 := hb0.cell (j := 0) rfl
  have x1 := hb0.cell (j := 1) rfl
  have x2 := hb0.cell (j := 2) rfl
  have x3 := hb0.cell (j := 3) rfl
  have x4 := hb0.cell (j := 4) rfl
  have x5 := hb0.cell (j := 5) rfl
  have x6 := hb0.cell (j := 6) rfl
  go_enter Try.func45, Try.ntmps45
  go_upto_region 1 with fail
  rw [← hw0]
  clear hw0
  have HE : Hid (R = 250) := Lib.hid (by rw [HR.out]; first | exact lr_A (by omega) | exact lr_B (by omega) | exact lr_C (by omega) | exact lr_D (by omega) | exact lr_E (by omega))
  clear HR
  go_wp2_with (first | (with_reducible refine hold_append ?_) | (with_reducible refine hold_make ?_) | (with_reducible refine hold_copy ?_))
  go_ret
  rw [HE.out]
  exact ⟨rfl, hB0⟩
set_option maxRecDepth 20000 in
set_option maxHeartbeats 8000000 in
theorem rlcheck_5 (l : Lt) (A : Option Addr) (n c : Nat) (B : Nat) (w : World) (hl : l.wf) (hr : RdX w B A n c l.names) (hB : B ≤ w.heap.size) (hn : n ≤ 1000000) (hk : 6 ≤ l.kind ∧ l.kind ≤ 16) :
    Calls Try.prog 45 #[.agg (ltV l A n c)] w fun e w' => e = .returned (.int .i64 (ltErr l : Int)) ∧ Below w.heap.size w w' := by
  have hr0 := hr
  have HLN := Lib.hid (rec_length xdShape hr)
  have hck := fun W => rcheck_any l.x W hl.2.1
  have hkd := hl.1
  have hxa := hl.2.2.1
  have hno := hl.2.2.2.1
  have hwf := hl.2.2.2.2
  obtain ⟨R, hR⟩ : ∃ R, R = ltErr l := ⟨_, rfl⟩
  rw [← hR]
  clear hl hr
  obtain ⟨kd, x, xa, no, nm⟩ := l
  simp only at HLN hck hkd hxa hno hwf hr0 hk
  have HR := Lib.hid (hR.trans (by rw [ltErr_ref kd x xa no nm, HLN.out]))
  unfold ltV
  simp only
  clear hR
  have hneq := fun w => xid_neqC x xd0' w
  have HE0 : Hid (x.err = if x.ok then 0 else 40) := Lib.hid rfl
  obtain ⟨so, hso⟩ : ∃ so, so = decide (nm = xdSort nm) := ⟨_, rfl⟩
  rw [← hso] at HR
  have HSO0 := Lib.hid hso
  clear hso
  generalize x.err = er at *
  generalize x.ok = ok at *
  generalize decide (x = xd0') = dx at *
  obtain ⟨f, g, h⟩ := x
  have hneq2 : ∀ w, (binOp .neq 24 (.agg #[.int .u32 (f : Int), .string (str g), .string (str h)]) (.agg #[.int .u32 0, .string ⟨#[]⟩, .string ⟨#[]⟩])).run Try.prog w = .ok (.bool (!dx)) w := hneq
  clear hneq
  simp only [xdV] at hck
  have e1 : ((kd : Int) == 5) = false := by simp; omega
  have e2 : ((kd : Int) == 21) = false := by simp; omega
  have e3 : decide ((17 : Int) ≤ (kd : Int)) = false := by simp; omega
  have e4 : decide ((kd : Int) < 1) = false := by simp; omega
  have e5 : decide ((5 : Int) < (kd : Int)) = true := by simp; omega
  have hb0 := Box.new w #[.int .u8 (kd : Int), .int .u32 (f : Int), .string (str g), .string (str h), .int .u8 (xa : Int), .int .u16 (no : Int), .slice A n c] 33
  have hB0 := (Below.refl w.heap.size w).alloc (Nat.le_refl _) (.cells #[.int .u8 (kd : Int), .int .u32 (f : Int), .string (str g), .string (str h), .int .u8 (xa : Int), .int .u16 (no : Int), .slice A n c] 33)
  obtain ⟨w0, hw0⟩ : ∃ w0, w0 = (w.alloc (.cells #[.int .u8 (kd : Int), .int .u32 (f : Int), .string (str g), .string (str h), .int .u8 (xa : Int), .int .u16 (no : Int), .slice A n c] 33)) := ⟨_, rfl⟩
  rw [← hw0] at hb0 hB0
  have hgd := fun x y => run_eqGuard_agg (P := Try.prog) w0 .neq 24 x y #[.int .u32 (f : Int), .string (str g), .string (str h)] #[.int .u32 0, .string ⟨#[]⟩, .string ⟨#[]⟩] xid_guard
  have x0 := hb0.cell (j := 0) rfl
  have x1 := hb0.cell (j := 1) rfl
  have x2 := hb0.cell (j := 2) rfl
  have x3 := hb0.cell (j := 3) rfl
  have x4 := hb0.cell (j := 4) rfl
  have x5 := hb0.cell (j := 5) rfl
  have x6 := hb0.cell (j := 6) rfl
  go_enter Try.func45, Try.ntmps45
  go_upto_region 1 with fail
  rw [← hw0]
  clear hw0
  have HE : Hid (R = 250) := Lib.hid (by rw [HR.out]; first | exact lr_A (by omega) | exact lr_B (by omega) | exact lr_C (by omega) | exact lr_D (by omega) | exact lr_E (by omega))
  clear HR
  go_wp2_with (first | (with_reducible refine hold_append ?_) | (with_reducible refine hold_make ?_) | (with_reducible refine hold_copy ?_))
  go_ret
  rw [HE.out]
  exact ⟨rfl, hB0⟩
set_option maxRecDepth 20000 in
set_option maxHeartbeats 8000000 in
theorem rlcheck_6 (l : Lt) (A : Option Addr) (n c : Nat) (B : Nat) (w : World) (hl : l.wf) (hr : RdX w B A n c l.names) (hB : B ≤ w.heap.size) (hn : n ≤ 1000000) (hk : 21 < l.kind) :
    Calls Try.prog 45 #[.agg (ltV l A n c)] w fun e w' => e = .returned (.int .i64 (ltErr l : Int)) ∧ Below w.heap.size w w' := by
  have hr0 := hr
  have HLN := Lib.hid (rec_length xdShape hr)
  have hck := fun W => rcheck_any l.x W hl.2.1
  have hkd := hl.1
  have hxa := hl.2.2.1
  have hno := hl.2.2.2.1
  have hwf := hl.2.2.2.2
  obtain ⟨R, hR⟩ : ∃ R, R = ltErr l := ⟨_, rfl⟩
  rw [← hR]
  clear hl hr
  obtain ⟨kd, x, xa, no, nm⟩ := l
  simp only at HLN hck hkd hxa hno hwf hr0 hk
  have HR := Lib.hid (hR.trans (by rw [ltErr_ref kd x xa no nm, HLN.out]))
  unfold ltV
  simp only
  clear hR
  have hneq := fun w => xid_neqC x xd0' w
  have HE0 : Hid (x.err = if x.ok then 0 else 40) := Lib.hid rfl
  obtain ⟨so, hso⟩ : ∃ so, so = decide (nm = xdSort nm) := ⟨_, rfl⟩
  rw [← hso] at HR
  have HSO0 := Lib.hid hso
  clear hso
  generalize x.err = er at *
  generalize x.ok = ok at *
  generalize decide (x = xd0') = dx at *
  obtain ⟨f, g, h⟩ := x
  have hneq2 : ∀ w, (binOp .neq 24 (.agg #[.int .u32 (f : Int), .string (str g), .string (str h)]) (.agg #[.int .u32 0, .string ⟨#[]⟩, .string ⟨#[]⟩])).run Try.prog w = .ok (.bool (!dx)) w := hneq
  clear hneq
  simp only [xdV] at hck
  have e1 : ((kd : Int) == 5) = false := by simp; omega
  have e2 : ((kd : Int) == 21) = false := by simp; omega
  have e3 : decide ((17 : Int) ≤ (kd : Int)) = true := by simp; omega
  have e3' : decide ((kd : Int) ≤ 21) = false := by simp; omega
  have e4 : decide ((kd : Int) < 1) = false := by simp; omega
  have e5 : decide ((5 : Int) < (kd : Int)) = true := by simp; omega
  have hb0 := Box.new w #[.int .u8 (kd : Int), .int .u32 (f : Int), .string (str g), .string (str h), .int .u8 (xa : Int), .int .u16 (no : Int), .slice A n c] 33
  have hB0 := (Below.refl w.heap.size w).alloc (Nat.le_refl _) (.cells #[.int .u8 (kd : Int), .int .u32 (f : Int), .string (str g), .string (str h), .int .u8 (xa : Int), .int .u16 (no : Int), .slice A n c] 33)
  obtain ⟨w0, hw0⟩ : ∃ w0, w0 = (w.alloc (.cells #[.int .u8 (kd : Int), .int .u32 (f : Int), .string (str g), .string (str h), .int .u8 (xa : Int), .int .u16 (no : Int), .slice A n c] 33)) := ⟨_, rfl⟩
  rw [← hw0] at hb0 hB0
  have hgd := fun x y => run_eqGuard_agg (P := Try.prog) w0 .neq 24 x y #[.int .u32 (f : Int), .string (str g), .string (str h)] #[.int .u32 0, .string ⟨#[]⟩, .string ⟨#[]⟩] xid_guard
  have x0 := hb0.cell (j := 0) rfl
  have x1 := hb0.cell (j := 1) rfl
  have x2 := hb0.cell (j := 2) rfl
  have x3 := hb0.cell (j := 3) rfl
  have x4 := hb0.cell (j := 4) rfl
  have x5 := hb0.cell (j := 5) rfl
  have x6 := hb0.cell (j := 6) rfl
  go_enter Try.func45, Try.ntmps45
  go_upto_region 1 with fail
  rw [← hw0]
  clear hw0
  have HE : Hid (R = 250) := Lib.hid (by rw [HR.out]; first | exact lr_A (by omega) | exact lr_B (by omega) | exact lr_C (by omega) | exact lr_D (by omega) | exact lr_E (by omega))
  clear HR
  go_wp2_with (first | (with_reducible refine hold_append ?_) | (with_reducible refine hold_make ?_) | (with_reducible refine hold_copy ?_))
  go_ret
  rw [HE.out]
  exact ⟨rfl, hB0⟩
end Go.PH
end

/- What names want of the listed variables; strconv's FormatUint at base 10. -/
import Derived.Test.YtokfnonjmacpgaaDoorXdDig
import Derived.Lib.AppendIntMem
set_option linter.all false
set_option linter.unusedSimpArgs false
set_option linter.unusedVariables false
namespace Go.PH
open Go.RowKit Go.Proofs

structure XEnv (w : World) : Prop where
  mx : ∃ m : Int, w.cell? ⟨0, 0, none⟩ = some (.int .i64 m)
  tab : Lib.TabIs Tryd.prog w "internal/strconv.uint64pow10" .u64 Lib.pow10Tab
  syn : ∃ tp p, w.var? Tryd.prog "strconv.ErrSyntax" = some #[.iface tp p]
  rng : ∃ tp p, w.var? Tryd.prog "strconv.ErrRange" = some #[.iface tp p]
  lt : 8 ≤ w.heap.size
theorem var_below {w w' : World} {B g : Nat} {name : String} {cs : Array Value} (hg : Tryd.prog.globalNamed name = some g) (h : w.var? Tryd.prog name = some cs) (hB : Below B w w') (hl : g < B) : w'.var? Tryd.prog name = some cs := by
  unfold World.var? at *
  rw [hg] at h ⊢
  simp only [Option.bind_some] at h ⊢
  rw [hB.block g hl]
  exact h
theorem XEnv.below {w w' : World} {B : Nat} (h : XEnv w) (hB : Below B w w') (h8 : 8 ≤ B) (hs : w.heap.size ≤ w'.heap.size) : XEnv w' where
  mx := by
    obtain ⟨m, hm⟩ := h.mx
    exact ⟨m, (hB.cell (p := ⟨0, 0, none⟩) (by show (_ : Nat) < B; simp only; omega)).trans hm⟩
  tab := var_below (g := 3) (by kernel_rfl) h.tab hB (by omega)
  syn := by
    obtain ⟨tp, p, hm⟩ := h.syn
    exact ⟨tp, p, var_below (g := 1) (by kernel_rfl) hm hB (by omega)⟩
  rng := by
    obtain ⟨tp, p, hm⟩ := h.rng
    exact ⟨tp, p, var_below (g := 2) (by kernel_rfl) hm hB (by omega)⟩
  lt := by have := h.lt; omega
theorem digB_dec (n : Nat) : digB n = Lib.decDigits n := by
  induction n using Nat.strongRecOn with
  | ind n ih =>
    rw [Lib.decDigits]
    by_cases h : n < 10
    · rw [dif_pos h, digB_small (by omega)]
    · rw [dif_neg h, digB_big (by omega), ih (n / 10) (by omega)]
set_option maxRecDepth 20000 in
set_option maxHeartbeats 1000000 in
theorem ifmt_any (u : Nat) (w : World) (hu : u < 18446744073709551616) (he : XEnv w) :
    Calls Tryd.prog 56 #[.int .u64 (u : Int), .int .i64 10] w fun e w' => e = .returned (.string (str (Lib.decDigits u))) ∧ Below w.heap.size w w' := by
  by_cases hs : u < 100
  · have d : (u : Int) < 100 := by omega
    have hw : IntKind.i64.wrap (u : Int) = (u : Int) := IntWalk.i64_in _ ⟨by omega, by omega⟩
    go_enter Tryd.func56, Tryd.ntmps56
    go_wp2_with (first | (with_reducible refine hold_append ?_) | (with_reducible refine hold_make ?_) | (with_reducible refine hold_copy ?_))
    refine (Tryd.internal_strconv_small u hs w).mono ?_
    rintro e w1 ⟨rfl, rfl⟩
    go_wp2_with (first | (with_reducible refine hold_append ?_) | (with_reducible refine hold_make ?_) | (with_reducible refine hold_copy ?_))
    go_ret
    exact ⟨rfl, Below.refl _ _⟩
  · have d : ¬ (u : Int) < 100 := by omega
    have hu1 : 1 ≤ u := by omega
    obtain ⟨nd, hnd⟩ : ∃ nd, nd = Lib.nDigits u := ⟨_, rfl⟩
    have hnd20 : nd ≤ 20 := by rw [hnd]; have := Lib.numDigits_eq u hu1 hu; split at this <;> omega
    have hH0 := Lib.holds_zero0 w 114 nd (by omega)
    have hfmt := Tryd.internal_strconv_formatBase10 w.heap.size 0 24 u (Array.replicate nd 0) (w.alloc (.cells Lib.zeros24 114)) hH0 (by rw [Array.size_replicate, hnd]; exact Lib.lt_pow_nDigits u) hu (by rw [Array.size_replicate]; omega)
    rw [Array.size_replicate] at hfmt
    have hnum := Tryd.internal_strconv_numDigits u hu1 hu _ (Lib.tabIs_alloc he.tab (.cells Lib.zeros24 114))
    rw [← hnd] at hnum
    have hdl : (Lib.decDigits u).length = nd := by rw [Lib.decDigits_length, hnd]
    have hal : Tryd.prog.arrayLen 114 = 24 := by kernel_rfl
    have hsl : ∀ W, (Instr.sliceAt 114 (.pointer (some ⟨w.heap.size, 0, none⟩)) none (some (.int .i64 (nd : Int))) none).run Tryd.prog W = .ok (.slice (some ⟨w.heap.size, 0, none⟩) nd 24) W := fun W => by
      rw [run_sliceAt_array_h W 114 ⟨w.heap.size, 0, none⟩ (by simp [Program.arrayLen, Program.elem, Tryd.underlying114]) .i64 (nd : Int) (by omega) (by rw [hal]; omega)]
      go_simp
    have HH0 := Lib.hid hH0
    have HND := Lib.hid hnd
    clear hH0 hal hnd
    go_enter Tryd.func56, Tryd.ntmps56
    go_wp2_with (first | (with_reducible refine hold_append ?_) | (with_reducible refine hold_make ?_) | (with_reducible refine hold_copy ?_))
    refine hnum.mono ?_
    rintro e w1 ⟨rfl, hww⟩
    subst w1
    go_wp2_with (first | (with_reducible refine hold_append ?_) | (with_reducible refine hold_make ?_) | (with_reducible refine hold_copy ?_))
    refine hfmt.mono ?_
    rintro e w1 ⟨rfl, k, v', dk, hww, hF⟩
    have hcv : (convert 37 9 (.slice (some ⟨w.heap.size, 0, none⟩) nd 24)).run Tryd.prog w1 = .ok (.string (str (Lib.decDigits u))) w1 := by
      have h := run_convert_bytes_back (P := Tryd.prog) w1 37 9 5 ⟨w.heap.size, 0, none⟩ 24 (Lib.decDigits u) Tryd.underlying37 Tryd.underlying5 Tryd.underlying9 (fun j hj => by
        rw [HND.out] at hF
        rw [Lib.row_is_numeral hF j hj, Lib.add_plain, hww, World.cell?_drewN]
        exact Sort.cell?_putRow (fun (b : UInt8) => Value.int .u8 (b.toNat : Int)) _ w.heap.size 0 _ dk HH0.out (by rw [hF.size, Array.size_replicate, HND.out]) j (by rw [hF.size]; rw [Lib.decDigits_length] at hj; exact hj))
      rw [hdl] at h
      exact h
    have hB : Below w.heap.size w w1 := by
      obtain ⟨os, e⟩ := Lib.fin_at w (.cells Lib.zeros24 114) dk k 0
      rw [hww, e]
      exact Lib.below_grow _ _ (Nat.le_refl _) _ _
    clear hww hF hdl
    go_wp2_with (first | (with_reducible refine hold_append ?_) | (with_reducible refine hold_make ?_) | (with_reducible refine hold_copy ?_))
    go_ret
    exact ⟨rfl, hB⟩
theorem fmtuint_any (u : Nat) (w : World) (hu : u < 18446744073709551616) (he : XEnv w) :
    Calls Tryd.prog 31 #[.int .u64 (u : Int), .int .i64 10] w fun e w' => e = .returned (.string (str (Lib.decDigits u))) ∧ Below w.heap.size w w' := by
  go_enter Tryd.func31, Tryd.ntmps31
  go_wp2_with (first | (with_reducible refine hold_append ?_) | (with_reducible refine hold_make ?_) | (with_reducible refine hold_copy ?_))
  refine (ifmt_any u w hu he).mono ?_
  rintro e w1 ⟨rfl, hB⟩
  go_wp2_with (first | (with_reducible refine hold_append ?_) | (with_reducible refine hold_make ?_) | (with_reducible refine hold_copy ?_))
  go_ret
  exact ⟨rfl, hB⟩
end Go.PH

/- The walk of the reference's Same: records as structs are the same, or not. -/
import Derived.Test.YtcfdgndigmcacaaDoorRcBase
import Derived.Deep.QuietTactic
import Derived.BigQuiet
namespace Go.PH
open Go.RowKit Go.Proofs

theorem rec_fields : Tryd.prog.underlying 33 = some (.struct (Tryd.prog.fieldsOf 33)) := by kernel_rfl
theorem rec_stood : Tryd.prog.stoodInHeld 33 = false := by kernel_rfl
theorem rec_guard : Tryd.prog.eqGuardType Tryd.prog.depth 33 = false := by kernel_rfl
theorem rec_equal (f g : Rc) (w : World) : (Op.equalIn 10000 33 (.agg (rcV f)) (.agg (rcV g))).run Tryd.prog w = .ok (decide (f = g)) w := by
  rw [run_equalIn_struct w 9999 33 _ _ rec_fields rec_stood]
  simp only [Program.fieldsOf, Tryd.underlying33]
  obtain ⟨ty, ld⟩ := f
  obtain ⟨ty', ld'⟩ := g
  unfold rcV
  simp only [Rc.mk.injEq]
  by_cases h : (ty : Int) = (ty' : Int)
  · have e := Int.ofNat_inj.1 h
    subst e
    by_cases h : ld = ld'
    · subst h
      simp [Op.eqFields, part, run_equalIn_int _ 9998 5 .u8 .u8 _ _ Tryd.underlying5, run_equalIn_string _ 9998 9 _ _ Tryd.underlying9, h, Result.andThen, typeInfo, sizeOf]
    · have h : ((str ld).toList == (str ld').toList) = false := by rw [str_toList, str_toList]; simpa using h
      simp [Op.eqFields, part, run_equalIn_int _ 9998 5 .u8 .u8 _ _ Tryd.underlying5, run_equalIn_string _ 9998 9 _ _ Tryd.underlying9, h, Result.andThen, typeInfo, sizeOf]
      rw [str_toList, str_toList] at h
      simpa using h
  · simp [Op.eqFields, part, run_equalIn_int _ 9998 5 .u8 .u8 _ _ Tryd.underlying5, run_equalIn_string _ 9998 9 _ _ Tryd.underlying9, h, Result.andThen, typeInfo, sizeOf]
    omega
theorem rec_neq (f g : Rc) (w : World) : (binOp .neq 33 (.agg (rcV f)) (.agg (rcV g))).run Tryd.prog w = .ok (.bool (!decide (f = g))) w := by
  rw [run_neq_struct, rec_equal]
  rfl

set_option maxRecDepth 20000 in
set_option maxHeartbeats 1000000 in
theorem rsame_any (A : Option Addr) (n c : Nat) (l : List Rc) (A' : Option Addr) (n' c' : Nat) (l' : List Rc) (B : Nat) (w : World) (hr : RdR w B A n c l) (hr' : RdR w B A' n' c' l') (hB : B ≤ w.heap.size) (hn : n ≤ 140737488355328) (hn' : n' ≤ 140737488355328) :
    Calls Tryd.prog 15 #[.slice A n c, .slice A' n' c'] w fun e w' => e = .returned (.bool (decide (l = l'))) ∧ Below w.heap.size w w' := by
  have hl := rec_length rcShape hr
  have hl' := rec_length rcShape hr'
  by_cases hnn : n = n'
  · subst hnn
    have h0 : (((n : Nat) : Int) != ((n : Nat) : Int)) = false := by simp
    go_enter Tryd.func15, Tryd.ntmps15
    go_wp2_with (first | (with_reducible refine hold_append ?_) | (with_reducible refine hold_make ?_) | (with_reducible refine hold_copy ?_))
    go_loopw [5] (fun s wr => ∃ (k : Nat), k ≤ n ∧ s = .int .i64 k ∧ l.take k = l'.take k ∧ Below w.heap.size w wr) (fun s _ => n - (intOf s).toNat)
    case atStart => exact ⟨0, by omega, rfl, by simp, Below.refl _ _⟩
    case round =>
      obtain ⟨k, hk, rfl, hrk, hBr⟩ := hrel
      by_cases hlt : k < n
      · obtain ⟨b, off, rfl, hbB, hkl, hc⟩ := rec_at rcShape (Rd.below hr (hBr.mono hB)) hlt
        obtain ⟨b', off', rfl, hbB', hkl', hc'⟩ := rec_at rcShape (Rd.below hr' (hBr.mono hB)) hlt
        have HT := Lib.hid (List.take_succ_eq_append_getElem hkl)
        have HT' := Lib.hid (List.take_succ_eq_append_getElem hkl')
        have HE : Hid (l = l' → l[k] = l'[k]) := Lib.hid (fun h => by subst h; rfl)
        have HK := Lib.hid hrk
        clear hrk
        generalize l[k] = x at *
        generalize l'[k] = x' at *
        obtain ⟨ty, ld⟩ := x
        obtain ⟨ty', ld'⟩ := x'
        have hneq := fun w => rec_neq ⟨ty, ld⟩ ⟨ty', ld'⟩ w
        simp only [rcV] at hneq
        have k0 := hc 0 _ rfl
        have k1 := hc 1 _ rfl
        have j0 := hc' 0 _ rfl
        have j1 := hc' 1 _ rfl
        simp only [Nat.add_zero] at k0 j0
        have hkn : (k : Int) < (n : Int) := by omega
        clear hc hc'
        have hgd := fun x y => run_eqGuard_agg (P := Tryd.prog) wr .neq 33 x y #[.int .u8 (ty : Int), .string (str ld)] #[.int .u8 (ty' : Int), .string (str ld')] rec_guard
        by_cases hxx : (⟨ty, ld⟩ : Rc) = ⟨ty', ld'⟩
        · have hne : ∀ w, (binOp .neq 33 (.agg #[.int .u8 (ty : Int), .string (str ld)]) (.agg #[.int .u8 (ty' : Int), .string (str ld')])).run Tryd.prog w = .ok (.bool false) w := fun w => by rw [hneq, decide_eq_true hxx]; rfl
          have hy : l.take (k + 1) = l'.take (k + 1) := by rw [HT.out, HT'.out, HK.out, hxx]
          clear hxx hneq
          go_wp2_with (first | (with_reducible refine hold_append ?_) | (with_reducible refine hold_make ?_) | (with_reducible refine hold_copy ?_))
          go_quiet (fail)
          go_wp2_with (first | (with_reducible refine hold_append ?_) | (with_reducible refine hold_make ?_) | (with_reducible refine hold_copy ?_))
          exact ⟨⟨k + 1, by omega, by go_num, hy, below_drewN hBr _⟩, by simp [intOf]; omega⟩
        · have hne : ∀ w, (binOp .neq 33 (.agg #[.int .u8 (ty : Int), .string (str ld)]) (.agg #[.int .u8 (ty' : Int), .string (str ld')])).run Tryd.prog w = .ok (.bool true) w := fun w => by rw [hneq, decide_eq_false hxx]; rfl
          have hno : decide (l = l') = false := by
            have := HE.out
            simp only [decide_eq_false_iff_not]
            exact fun h => hxx (this h)
          clear hxx hneq
          go_wp2_with (first | (with_reducible refine hold_append ?_) | (with_reducible refine hold_make ?_) | (with_reducible refine hold_copy ?_))
          go_quiet (fail)
          go_wp2_with (first | (with_reducible refine hold_append ?_) | (with_reducible refine hold_make ?_) | (with_reducible refine hold_copy ?_))
          go_ret
          rw [hno]
          exact ⟨rfl, below_drewN hBr _⟩
      · obtain rfl : k = n := by omega
        rw [← hl, List.take_length, hl, ← hl', List.take_length] at hrk
        subst hrk
        go_wp2_with (first | (with_reducible refine hold_append ?_) | (with_reducible refine hold_make ?_) | (with_reducible refine hold_copy ?_))
        go_ret
        exact ⟨by simp, hBr⟩
  · have h0 : (((n : Nat) : Int) != ((n' : Nat) : Int)) = true := by simp; omega
    have hne : decide (l = l') = false := by
      simp; rintro rfl; omega
    go_enter Tryd.func15, Tryd.ntmps15
    go_wp2_with (first | (with_reducible refine hold_append ?_) | (with_reducible refine hold_make ?_) | (with_reducible refine hold_copy ?_))
    go_ret
    rw [hne]
    exact ⟨rfl, Below.refl _ _⟩
end Go.PH

/- The walk of the reference's Same: frames as structs are the same, or not. -/
import Derived.Test.YtgjdpgihehpecaaFrScan
import Derived.Test.YtgjdpgihehpecaaFrPut
namespace Go.PH
open Go.RowKit Go.Proofs

theorem frame_fields : Try.prog.underlying 24 = some (.struct (Try.prog.fieldsOf 24)) := by kernel_rfl
theorem frame_stood : Try.prog.stoodInHeld 24 = false := by kernel_rfl
theorem frame_guard : Try.prog.eqGuardType Try.prog.depth 24 = false := by kernel_rfl
theorem frame_neq (f g : Fr) (w : World) : (binOp .neq 24 (.agg (frV f)) (.agg (frV g))).run Try.prog w = .ok (.bool (!decide (f = g))) w := by
  rw [run_neq_struct, run_equalIn_struct w 9999 24 _ _ frame_fields frame_stood]
  simp only [Program.fieldsOf, Try.underlying24]
  obtain ⟨b1, b2, b3, b4, ty, tr, ch, ld⟩ := f
  obtain ⟨c1, c2, c3, c4, ty', tr', ch', ld'⟩ := g
  unfold frV
  simp only [Fr.mk.injEq]
  by_cases h : b1 = c1
  · subst h
    by_cases h : b2 = c2
    · subst h
      by_cases h : b3 = c3
      · subst h
        by_cases h : b4 = c4
        · subst h
          by_cases h : (ty : Int) = (ty' : Int)
          · have e := Int.ofNat_inj.1 h
            subst e
            by_cases h : (tr : Int) = (tr' : Int)
            · have e := Int.ofNat_inj.1 h
              subst e
              by_cases h : (ch : Int) = (ch' : Int)
              · have e := Int.ofNat_inj.1 h
                subst e
                by_cases h : ld = ld'
                · subst h
                  simp [Op.eqFields, part, run_equalIn_int _ 9998 5 .u8 .u8 _ _ Try.underlying5, run_equalIn_int _ 9998 22 .u16 .u16 _ _ Try.underlying22, run_equalIn_bool' _ 9998 4 _ _ Try.underlying4, run_equalIn_string _ 9998 9 _ _ Try.underlying9, h, Result.andThen, typeInfo, sizeOf]
                · have h : ((str ld).toList == (str ld').toList) = false := by rw [str_toList, str_toList]; simpa using h
                  simp [Op.eqFields, part, run_equalIn_int _ 9998 5 .u8 .u8 _ _ Try.underlying5, run_equalIn_int _ 9998 22 .u16 .u16 _ _ Try.underlying22, run_equalIn_bool' _ 9998 4 _ _ Try.underlying4, run_equalIn_string _ 9998 9 _ _ Try.underlying9, h, Result.andThen, typeInfo, sizeOf]
                  rw [str_toList, str_toList] at h
                  simpa using h
              · simp [Op.eqFields, part, run_equalIn_int _ 9998 5 .u8 .u8 _ _ Try.underlying5, run_equalIn_int _ 9998 22 .u16 .u16 _ _ Try.underlying22, run_equalIn_bool' _ 9998 4 _ _ Try.underlying4, run_equalIn_string _ 9998 9 _ _ Try.underlying9, h, Result.andThen, typeInfo, sizeOf]
                omega
            · simp [Op.eqFields, part, run_equalIn_int _ 9998 5 .u8 .u8 _ _ Try.underlying5, run_equalIn_int _ 9998 22 .u16 .u16 _ _ Try.underlying22, run_equalIn_bool' _ 9998 4 _ _ Try.underlying4, run_equalIn_string _ 9998 9 _ _ Try.underlying9, h, Result.andThen, typeInfo, sizeOf]
              omega
          · simp [Op.eqFields, part, run_equalIn_int _ 9998 5 .u8 .u8 _ _ Try.underlying5, run_equalIn_int _ 9998 22 .u16 .u16 _ _ Try.underlying22, run_equalIn_bool' _ 9998 4 _ _ Try.underlying4, run_equalIn_string _ 9998 9 _ _ Try.underlying9, h, Result.andThen, typeInfo, sizeOf]
            omega
        · simp [Op.eqFields, part, run_equalIn_int _ 9998 5 .u8 .u8 _ _ Try.underlying5, run_equalIn_int _ 9998 22 .u16 .u16 _ _ Try.underlying22, run_equalIn_bool' _ 9998 4 _ _ Try.underlying4, run_equalIn_string _ 9998 9 _ _ Try.underlying9, h, Result.andThen, typeInfo, sizeOf]
      · simp [Op.eqFields, part, run_equalIn_int _ 9998 5 .u8 .u8 _ _ Try.underlying5, run_equalIn_int _ 9998 22 .u16 .u16 _ _ Try.underlying22, run_equalIn_bool' _ 9998 4 _ _ Try.underlying4, run_equalIn_string _ 9998 9 _ _ Try.underlying9, h, Result.andThen, typeInfo, sizeOf]
    · simp [Op.eqFields, part, run_equalIn_int _ 9998 5 .u8 .u8 _ _ Try.underlying5, run_equalIn_int _ 9998 22 .u16 .u16 _ _ Try.underlying22, run_equalIn_bool' _ 9998 4 _ _ Try.underlying4, run_equalIn_string _ 9998 9 _ _ Try.underlying9, h, Result.andThen, typeInfo, sizeOf]
  · simp [Op.eqFields, part, run_equalIn_int _ 9998 5 .u8 .u8 _ _ Try.underlying5, run_equalIn_int _ 9998 22 .u16 .u16 _ _ Try.underlying22, run_equalIn_bool' _ 9998 4 _ _ Try.underlying4, run_equalIn_string _ 9998 9 _ _ Try.underlying9, h, Result.andThen, typeInfo, sizeOf]

set_option maxRecDepth 20000 in
set_option maxHeartbeats 1000000 in
theorem fsame_any (A : Option Addr) (n c : Nat) (l : List Fr) (A' : Option Addr) (n' c' : Nat) (l' : List Fr) (B : Nat) (w : World) (hr : RdF w B A n c l) (hr' : RdF w B A' n' c' l') (hB : B ≤ w.heap.size) (hn : n ≤ 140737488355328) (hn' : n' ≤ 140737488355328) :
    Calls Try.prog 14 #[.slice A n c, .slice A' n' c'] w fun e w' => e = .returned (.bool (decide (l = l'))) ∧ Below w.heap.size w w' := by
  have hl := rec_length frShape hr
  have hl' := rec_length frShape hr'
  by_cases hnn : n = n'
  · subst hnn
    have h0 : (((n : Nat) : Int) != ((n : Nat) : Int)) = false := by simp
    go_enter Try.func14, Try.ntmps14
    go_wp2_with (first | (with_reducible refine hold_append ?_) | (with_reducible refine hold_make ?_) | (with_reducible refine hold_copy ?_))
    go_loopw [5] (fun s wr => ∃ (k : Nat), k ≤ n ∧ s = .int .i64 k ∧ l.take k = l'.take k ∧ Below w.heap.size w wr) (fun s _ => n - (intOf s).toNat)
    case atStart => exact ⟨0, by omega, rfl, by simp, Below.refl _ _⟩
    case round =>
      obtain ⟨k, hk, rfl, hrk, hBr⟩ := hrel
      by_cases hlt : k < n
      · obtain ⟨b, off, rfl, hbB, hkl, hc⟩ := rec_at frShape (Rd.below hr (hBr.mono hB)) hlt
        obtain ⟨b', off', rfl, hbB', hkl', hc'⟩ := rec_at frShape (Rd.below hr' (hBr.mono hB)) hlt
        have HT := Lib.hid (List.take_succ_eq_append_getElem hkl)
        have HT' := Lib.hid (List.take_succ_eq_append_getElem hkl')
        have HE : Hid (l = l' → l[k] = l'[k]) := Lib.hid (fun h => by subst h; rfl)
        have HK := Lib.hid hrk
        clear hrk
        generalize l[k] = x at *
        generalize l'[k] = x' at *
        obtain ⟨b1, b2, b3, b4, ty, tr, ch, ld⟩ := x
        obtain ⟨c1, c2, c3, c4, ty', tr', ch', ld'⟩ := x'
        have hneq := fun w => frame_neq ⟨b1, b2, b3, b4, ty, tr, ch, ld⟩ ⟨c1, c2, c3, c4, ty', tr', ch', ld'⟩ w
        simp only [frV] at hneq
        have k0 := hc 0 _ rfl
        have k1 := hc 1 _ rfl
        have k2 := hc 2 _ rfl
        have k3 := hc 3 _ rfl
        have k4 := hc 4 _ rfl
        have k5 := hc 5 _ rfl
        have k6 := hc 6 _ rfl
        have k7 := hc 7 _ rfl
        have j0 := hc' 0 _ rfl
        have j1 := hc' 1 _ rfl
        have j2 := hc' 2 _ rfl
        have j3 := hc' 3 _ rfl
        have j4 := hc' 4 _ rfl
        have j5 := hc' 5 _ rfl
        have j6 := hc' 6 _ rfl
        have j7 := hc' 7 _ rfl
        simp only [Nat.add_zero] at k0 j0
        have hkn : (k : Int) < (n : Int) := by omega
        clear hc hc'
        have hgd := fun x y => run_eqGuard_agg (P := Try.prog) wr .neq 24 x y #[.bool b1, .bool b2, .bool b3, .bool b4, .int .u8 (ty : Int), .int .u8 (tr : Int), .int .u16 (ch : Int), .string (str ld)] #[.bool c1, .bool c2, .bool c3, .bool c4, .int .u8 (ty' : Int), .int .u8 (tr' : Int), .int .u16 (ch' : Int), .string (str ld')] frame_guard
        by_cases hxx : (⟨b1, b2, b3, b4, ty, tr, ch, ld⟩ : Fr) = ⟨c1, c2, c3, c4, ty', tr', ch', ld'⟩
        · have hne : ∀ w, (binOp .neq 24 (.agg #[.bool b1, .bool b2, .bool b3, .bool b4, .int .u8 (ty : Int), .int .u8 (tr : Int), .int .u16 (ch : Int), .string (str ld)]) (.agg #[.bool c1, .bool c2, .bool c3, .bool c4, .int .u8 (ty' : Int), .int .u8 (tr' : Int), .int .u16 (ch' : Int), .string (str ld')])).run Try.prog w = .ok (.bool false) w := fun w => by rw [hneq, decide_eq_true hxx]; rfl
          have hy : l.take (k + 1) = l'.take (k + 1) := by rw [HT.out, HT'.out, HK.out, hxx]
          clear hxx hneq
          go_wp2_with (first | (with_reducible refine hold_append ?_) | (with_reducible refine hold_make ?_) | (with_reducible refine hold_copy ?_))
          go_quiet (fail)
          go_wp2_with (first | (with_reducible refine hold_append ?_) | (with_reducible refine hold_make ?_) | (with_reducible refine hold_copy ?_))
          exact ⟨⟨k + 1, by omega, by go_num, hy, below_drewN hBr _⟩, by simp [intOf]; omega⟩
        · have hne : ∀ w, (binOp .neq 24 (.agg #[.bool b1, .bool b2, .bool b3, .bool b4, .int .u8 (ty : Int), .int .u8 (tr : Int), .int .u16 (ch : Int), .string (str ld)]) (.agg #[.bool c1, .bool c2, .bool c3, .bool c4, .int .u8 (ty' : Int), .int .u8 (tr' : Int), .int .u16 (ch' : Int), .string (str ld')])).run Try.prog w = .ok (.bool true) w := fun w => by rw [hneq, decide_eq_false hxx]; rfl
          have hno : decide (l = l') = false := by
            have := HE.out
            simp only [decide_eq_false_iff_not]
            exact fun h => hxx (this h)
          clear hxx hneq
          go_wp2_with (first | (with_reducible refine hold_append ?_) | (with_reducible refine hold_make ?_) | (with_reducible refine hold_copy ?_))
          go_quiet (fail)
          go_wp2_with (first | (with_reducible refine hold_append ?_) | (with_reducible refine hold_make ?_) | (with_reducible refine hold_copy ?_))
          go_ret
          rw [hno]
          exact ⟨rfl, below_drewN hBr _⟩
      · obtain rfl : k = n := by omega
        rw [← hl, List.take_length, hl, ← hl', List.take_length] at hrk
        subst hrk
        go_wp2_with (first | (with_reducible refine hold_append ?_) | (with_reducible refine hold_make ?_) | (with_reducible refine hold_copy ?_))
        go_ret
        exact ⟨by simp, hBr⟩
  · have h0 : (((n : Nat) : Int) != ((n' : Nat) : Int)) = true := by simp; omega
    have hne : decide (l = l') = false := by
      simp; rintro rfl; omega
    go_enter Try.func14, Try.ntmps14
    go_wp2_with (first | (with_reducible refine hold_append ?_) | (with_reducible refine hold_make ?_) | (with_reducible refine hold_copy ?_))
    go_ret
    rw [hne]
    exact ⟨rfl, Below.refl _ _⟩
end Go.PH

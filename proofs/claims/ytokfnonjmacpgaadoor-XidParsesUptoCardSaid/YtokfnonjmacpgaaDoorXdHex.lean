/- The walks of hex, the reference's sign and Hex. -/
import Derived.Test.YtokfnonjmacpgaaDoorXdHexMath
import Derived.Test.YtokfnonjmacpgaaDoorXdBase
import Derived.Test.YtokfnonjmacpgaaDoorXdShelf
set_option linter.all false
set_option linter.unusedSimpArgs false
set_option linter.unusedVariables false
namespace Go.PH
open Go.RowKit Go.Proofs

set_option maxRecDepth 20000 in
set_option maxHeartbeats 1000000 in
theorem hex_any (l : List UInt8) (w : World) (hl : l.length ≤ 35184372088832) :
    Calls Tryd.prog 40 #[.string (str l)] w fun e w' => e = .returned (.string (str (hexB l))) ∧ Below w.heap.size w w' := by
  obtain ⟨n, hn⟩ : ∃ n, n = l.length := ⟨_, rfl⟩
  have hss : (str l).size = n := by rw [str_size]; exact hn.symm
  rw [← hn] at hl
  have HN := Lib.hid hn
  clear hn
  have hf := Lib.fresh_isBuilder 96 5 w
  have hB0 : Below w.heap.size w (w.alloc (.cells #[.pointer none, .slice none 0 0] 96)) := (Below.refl _ _).alloc (Nat.le_refl _) _
  go_enter Tryd.func40, Tryd.ntmps40
  go_wp2_with (first | (with_reducible refine hold_append ?_) | (with_reducible refine hold_make ?_) | (with_reducible refine hold_copy ?_))
  go_loopw [7] (fun s wr => ∃ k : Nat, k ≤ n ∧ s = .int .i64 k ∧ Lib.IsBuilder 96 5 w.heap.size w.heap.size (Lib.byteCells (hexB (l.take k))) wr ∧ Below w.heap.size w wr) (fun s _ => n - (intOf s).toNat)
  case atStart => exact ⟨0, by omega, rfl, by simpa [hexB, Lib.byteCells] using hf, hB0⟩
  case round =>
    obtain ⟨k, hk, rfl, hI, hB⟩ := hrel
    by_cases hlt : k < n
    · have hkn : (k : Int) < (n : Int) := by omega
      have hkl : k < l.length := by rw [← HN.out]; exact hlt
      have hx : (((str l)[k]'(by rw [hss]; exact hlt)).toNat : Int) = (l[k].toNat : Int) := rfl
      have HS := Lib.hid (hexB_snoc hkl)
      have hlen := hexB_len (l.take k)
      have hxb := l[k].toNat_lt
      generalize l[k] = x at *
      have hs1 := signs_at ⟨x.toNat / 16, by omega⟩
      have hs2 := signs_at ⟨x.toNat % 16, by omega⟩
      simp only [signsB] at hs1 hs2
      generalize signU (x.toNat / 16) = y1 at *
      generalize signU (x.toNat % 16) = y2 at *
      have hand : bits .and .u8 (x.toNat : Int) 15 = ((x.toNat % 16 : Nat) : Int) := by
        have h1 := u8_and_nat x.toNat 15 x.toNat_lt (by omega)
        rw [show ((15 : Nat) : Int) = 15 from rfl] at h1
        rw [h1, show (15 : Nat) = 2 ^ 4 - 1 from rfl, Nat.and_two_pow_sub_one_eq_mod]
      have hbl : (Lib.byteCells (hexB (l.take k))).length ≤ 70368744177664 := by simp [Lib.byteCells, hlen]; omega
      clear hlen
      go_wp2_with (first | (with_reducible refine hold_append ?_) | (with_reducible refine hold_make ?_) | (with_reducible refine hold_copy ?_))
      refine (Tryd.Builder_WriteByte w.heap.size w.heap.size _ _ wr hI (by omega) hB.size).mono ?_
      rintro e w1 ⟨rfl, hI1, hB1⟩
      have hB2 := hB.trans hB1
      go_wp2_with (first | (with_reducible refine hold_append ?_) | (with_reducible refine hold_make ?_) | (with_reducible refine hold_copy ?_))
      refine (Tryd.Builder_WriteByte w.heap.size w.heap.size _ _ w1 (.inr hI1) (by simp; omega) hB2.size).mono ?_
      rintro e w2 ⟨rfl, hI2, hB3⟩
      have hB4 := hB2.trans hB3
      have hI3 : Lib.BuilderAt 96 5 w.heap.size w.heap.size (.pointer (some ⟨w.heap.size, 0, none⟩)) (Lib.byteCells (hexB (l.take (k + 1)))) w2 := by
        rw [HS.out]
        simpa [Lib.byteCells] using hI2
      clear hI2 hI1 hI
      go_wp2_with (first | (with_reducible refine hold_append ?_) | (with_reducible refine hold_make ?_) | (with_reducible refine hold_copy ?_))
      exact ⟨⟨k + 1, by omega, by go_num, .inr hI3, hB4⟩, by simp [intOf]; omega⟩
    · obtain rfl : k = n := by omega
      rw [HN.out, List.take_length] at hI
      go_wp2_with (first | (with_reducible refine hold_append ?_) | (with_reducible refine hold_make ?_) | (with_reducible refine hold_copy ?_))
      refine (Tryd.Builder_String_any w.heap.size w.heap.size (hexB l) wr hI hB.size).mono ?_
      rintro e w1 ⟨rfl, hB1⟩
      have hB2 := hB.trans hB1
      go_wp2_with (first | (with_reducible refine hold_append ?_) | (with_reducible refine hold_make ?_) | (with_reducible refine hold_copy ?_))
      go_ret
      exact ⟨rfl, hB2⟩
theorem sign_any (x : Nat) (w : World) (hx : x < 16) : Calls Tryd.prog 65 #[.int .u8 (x : Int)] w fun e w' => e = .returned (.int .u8 ((signU x).toNat : Nat)) ∧ w' = w := by
  by_cases h : x < 10
  · have hd : (x : Int) < 10 := by omega
    have he : (((signU x).toNat : Nat) : Int) = 48 + (x : Int) := by unfold signU; rw [if_pos h, UInt8.toNat_ofNat']; omega
    rw [he]
    have hw : IntKind.u8.wrap (48 + (x : Int)) = 48 + (x : Int) := IntWalk.u8_in _ ⟨by omega, by omega⟩
    go_enter Tryd.func65, Tryd.ntmps65
    go_wp2_with (first | (with_reducible refine hold_append ?_) | (with_reducible refine hold_make ?_) | (with_reducible refine hold_copy ?_))
    go_ret
    exact ⟨rfl, rfl⟩
  · have hd : ¬ (x : Int) < 10 := by omega
    obtain ⟨y, hy⟩ : ∃ y, y = 87 + x := ⟨_, rfl⟩
    have he : (((signU x).toNat : Nat) : Int) = (y : Int) := by unfold signU; rw [if_neg h, UInt8.toNat_ofNat']; omega
    rw [he]
    obtain ⟨z, hz⟩ : ∃ z, z = 97 + x := ⟨_, rfl⟩
    have hw : IntKind.u8.wrap (97 + (x : Int)) = (z : Int) := by rw [IntWalk.u8_in _ ⟨by omega, by omega⟩]; omega
    have hw2 : IntKind.u8.wrap ((z : Int) - 10) = (y : Int) := by rw [IntWalk.u8_in _ ⟨by omega, by omega⟩]; omega
    clear he hy hz
    go_enter Tryd.func65, Tryd.ntmps65
    go_wp2_with (first | (with_reducible refine hold_append ?_) | (with_reducible refine hold_make ?_) | (with_reducible refine hold_copy ?_))
    go_ret
    exact ⟨rfl, rfl⟩
set_option maxRecDepth 20000 in
set_option maxHeartbeats 1000000 in
theorem rhex_any (l : List UInt8) (w : World) (hl : l.length ≤ 35184372088832) :
    Calls Tryd.prog 42 #[.string (str l)] w fun e w' => e = .returned (.string (str (hexB l))) ∧ Below w.heap.size w w' := by
  obtain ⟨n, hn⟩ : ∃ n, n = l.length := ⟨_, rfl⟩
  have hss : (str l).size = n := by rw [str_size]; exact hn.symm
  rw [← hn] at hl
  have HN := Lib.hid hn
  clear hn
  go_enter Tryd.func42, Tryd.ntmps42
  go_wp2_with (first | (with_reducible refine hold_append ?_) | (with_reducible refine hold_make ?_) | (with_reducible refine hold_copy ?_))
  go_loopw [4, 3] (fun s v wr => ∃ (k N c : Nat) (A : Option Addr), k ≤ n ∧ s = .int .i64 k ∧ v = .slice A N c ∧ N ≤ 2 * k ∧ Own wr w.heap.size 5 1 A N c ((hexB (l.take k)).map u8v) ∧ Below w.heap.size w wr) (fun s _ _ => n - (intOf s).toNat)
  case atStart => exact ⟨0, 0, 0, none, by omega, rfl, rfl, by omega, by simpa [hexB] using Own.none_ w w.heap.size _ _, Below.refl _ _⟩
  case round =>
    obtain ⟨k, N, c, A, hk, rfl, rfl, hN, ho, hB⟩ := hrel
    by_cases hlt : k < n
    · have hkn : (k : Int) < (n : Int) := by omega
      have hkl : k < l.length := by rw [← HN.out]; exact hlt
      have hx : (((str l)[k]'(by rw [hss]; exact hlt)).toNat : Int) = (l[k].toNat : Int) := rfl
      have HS := Lib.hid (hexB_snoc hkl)
      have hxb := l[k].toNat_lt
      generalize l[k] = x at *
      obtain ⟨x1, hx1⟩ : ∃ x1, x1 = x.toNat / 16 := ⟨_, rfl⟩
      obtain ⟨x2, hx2⟩ : ∃ x2, x2 = x.toNat % 16 := ⟨_, rfl⟩
      have hs1 := fun w => sign_any x1 w (by omega)
      have hs2 := fun w => sign_any x2 w (by omega)
      rw [← hx1, ← hx2] at HS
      have d1 : (x.toNat : Int) / 16 = (x1 : Int) := by omega
      have d1' : (x.toNat : Int).tdiv 16 = (x1 : Int) := by rw [Int.tdiv_eq_ediv_of_nonneg (by omega)]; exact d1
      have d2 : (x.toNat : Int) % 16 = (x2 : Int) := by omega
      have d2' : (x.toNat : Int).tmod 16 = (x2 : Int) := by rw [Int.tmod_eq_emod_of_nonneg (by omega)]; exact d2
      have w1 : IntKind.u8.wrap (x1 : Int) = (x1 : Int) := IntWalk.u8_in _ ⟨by omega, by omega⟩
      have w2 : IntKind.u8.wrap (x2 : Int) = (x2 : Int) := IntWalk.u8_in _ ⟨by omega, by omega⟩
      generalize signU x1 = y1 at *
      generalize signU x2 = y2 at *
      clear hx1 hx2
      have hz := hB.size
      go_wp2_with (first | (with_reducible refine hold_append ?_) | (with_reducible refine hold_make ?_) | (with_reducible refine hold_copy ?_))
      refine rg_start (fun wx : World => True) (by kernel_rfl) ?_
      have hS := trivial
      refine rg_take 0 (v := ?_) rfl (by kernel_rfl) (by kernel_rfl) (by kernel_rfl) hS rfl ?_ ?_
      rotate_left
      · intro wS hSw; go_simp; (with_reducible rfl)
      simp only [List.getElem_toArray, List.getElem_cons_zero, Act.put, List.setIfInBounds_toArray, List.set_cons_zero, List.set_cons_succ]
      refine rg_take 1 (v := ?_) rfl (by kernel_rfl) (by kernel_rfl) (by kernel_rfl) hS rfl ?_ ?_
      rotate_left
      · intro wS hSw; go_simp; (with_reducible rfl)
      simp only [List.getElem_toArray, List.getElem_cons_succ, List.getElem_cons_zero, Act.put, List.setIfInBounds_toArray, List.set_cons_zero, List.set_cons_succ]
      refine rg_take 2 (v := ?_) rfl (by kernel_rfl) (by kernel_rfl) (by kernel_rfl) hS rfl ?_ ?_
      rotate_left
      · intro wS hSw; go_simp; (with_reducible rfl)
      simp only [List.getElem_toArray, List.getElem_cons_succ, List.getElem_cons_zero, Act.put, List.setIfInBounds_toArray, List.set_cons_zero, List.set_cons_succ]
      refine rg_take 3 (v := ?_) rfl (by kernel_rfl) (by kernel_rfl) (by kernel_rfl) hS rfl ?_ ?_
      rotate_left
      · intro wS hSw; go_simp; (with_reducible rfl)
      simp only [List.getElem_toArray, List.getElem_cons_succ, List.getElem_cons_zero, Act.put, List.setIfInBounds_toArray, List.set_cons_zero, List.set_cons_succ]
      refine rg_take 4 (v := ?_) rfl (by kernel_rfl) (by kernel_rfl) (by kernel_rfl) hS rfl ?_ ?_
      rotate_left
      · intro wS hSw; go_simp; (with_reducible rfl)
      simp only [List.getElem_toArray, List.getElem_cons_succ, List.getElem_cons_zero, Act.put, List.setIfInBounds_toArray, List.set_cons_zero, List.set_cons_succ]
      refine rg_take 6 (v := ?_) rfl (by kernel_rfl) (by kernel_rfl) (by kernel_rfl) hS rfl ?_ ?_
      rotate_left
      · intro wS hSw; go_simp; (with_reducible rfl)
      simp only [List.getElem_toArray, List.getElem_cons_succ, List.getElem_cons_zero, Act.put, List.setIfInBounds_toArray, List.set_cons_zero, List.set_cons_succ]
      refine rg_take 7 (v := ?_) rfl (by kernel_rfl) (by kernel_rfl) (by kernel_rfl) hS rfl ?_ ?_
      rotate_left
      · intro wS hSw; go_simp; (with_reducible rfl)
      simp only [List.getElem_toArray, List.getElem_cons_succ, List.getElem_cons_zero, Act.put, List.setIfInBounds_toArray, List.set_cons_zero, List.set_cons_succ]
      refine rg_take 8 (v := ?_) rfl (by kernel_rfl) (by kernel_rfl) (by kernel_rfl) hS rfl ?_ ?_
      rotate_left
      · intro wS hSw; go_simp; (with_reducible rfl)
      simp only [List.getElem_toArray, List.getElem_cons_succ, List.getElem_cons_zero, Act.put, List.setIfInBounds_toArray, List.set_cons_zero, List.set_cons_succ]
      refine rg_take 9 (v := ?_) rfl (by kernel_rfl) (by kernel_rfl) (by kernel_rfl) hS rfl ?_ ?_
      rotate_left
      · intro wS hSw; go_simp; (with_reducible rfl)
      simp only [List.getElem_toArray, List.getElem_cons_succ, List.getElem_cons_zero, Act.put, List.setIfInBounds_toArray, List.set_cons_zero, List.set_cons_succ]
      refine rg_one 5 rfl (by kernel_rfl) rfl (fun K hK => ?_)
      go_simp
      refine (hs1 wr.drew).mono ?_
      rintro e w3 ⟨rfl, hww⟩
      subst w3
      refine hK _ _ hS ?_; clear hK K
      refine rg_one 10 rfl (by kernel_rfl) rfl (fun K hK => ?_)
      go_simp
      refine (hs2 wr.drew).mono ?_
      rintro e w3 ⟨rfl, hww⟩
      subst w3
      refine hK _ _ hS ?_; clear hK K
      have hlit : Own (wr.drew.alloc (.cells #[.int .u8 (y1.toNat : Int), .int .u8 (y2.toNat : Int)] 5)) wr.heap.size 5 1 (some ⟨wr.drew.heap.size, 0, none⟩) 2 2 ([y1, y2].map u8v) :=
        own_lit (w := wr.drew) wr.heap.size #[.int .u8 (y1.toNat : Int), .int .u8 (y2.toNat : Int)] 5 2 (Nat.le_refl _) (by simp [maxLen]) rfl (size := 1) (by omega)
      have hBl : Below w.heap.size w (wr.drew.alloc (.cells #[.int .u8 (y1.toNat : Int), .int .u8 (y2.toNat : Int)] 5)) := (below_drewN hB 1).alloc hz _
      have hod : Own wr.drew w.heap.size 5 1 A N c ((hexB (l.take k)).map u8v) := ho
      have hol : Own (wr.drew.alloc (.cells #[.int .u8 (y1.toNat : Int), .int .u8 (y2.toNat : Int)] 5)) w.heap.size 5 1 A N c ((hexB (l.take k)).map u8v) := hod.alloc _
      refine rg_one 11 rfl (by kernel_rfl) rfl (fun K hK => ?_)
      go_simp
      refine hK _ _ hS ?_; clear hK K
      refine rg_one 12 rfl (by kernel_rfl) rfl (fun K hK => ?_)
      refine op_app (ops := #[]) slB Tryd.underlying37 rfl rfl rfl hol hlit.rd (map_one _) (by omega) (by simp [maxLen]; omega) hBl.size ?_
      intro A5 c5 w5 ho5 hg5 _
      have hB5 := hBl.grown hg5 hBl.size (fun g hg => (hol.blk_lt hg).1)
      rw [← List.map_append, ← HS.out] at ho5
      simp only [List.getElem_toArray, List.getElem_cons_succ, List.getElem_cons_zero, Act.put, List.setIfInBounds_toArray, List.set_cons_zero, List.set_cons_succ]
      refine hK _ _ hS ?_; clear hK K
      refine rg_take 13 (v := ?_) rfl (by kernel_rfl) (by kernel_rfl) (by kernel_rfl) hS rfl ?_ ?_
      rotate_left
      · intro wS hSw; go_simp; (with_reducible rfl)
      simp only [List.getElem_toArray, List.getElem_cons_succ, List.getElem_cons_zero, Act.put, List.setIfInBounds_toArray, List.set_cons_zero, List.set_cons_succ]
      refine rg_end (by kernel_rfl) ?_
      go_wp2_with (first | (with_reducible refine hold_append ?_) | (with_reducible refine hold_make ?_) | (with_reducible refine hold_copy ?_))
      exact ⟨⟨k + 1, N + 2, c5, A5, by omega, by go_num, by first | rfl | simp, by omega, ho5, hB5⟩, by simp [intOf]; omega⟩
    · obtain rfl : k = n := by omega
      rw [HN.out, List.take_length] at ho
      have hst := run_strB (w := wr) ho.rd
      go_wp2_with (first | (with_reducible refine hold_append ?_) | (with_reducible refine hold_make ?_) | (with_reducible refine hold_copy ?_))
      go_ret
      exact ⟨rfl, hB⟩
end Go.PH

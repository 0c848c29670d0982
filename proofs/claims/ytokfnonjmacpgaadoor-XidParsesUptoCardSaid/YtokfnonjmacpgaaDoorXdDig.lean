/- The walk of the reference's Digits, and of strconv's FormatUint at base 10. -/
import Derived.Test.YtokfnonjmacpgaaDoorXdHex
set_option linter.all false
set_option linter.unusedSimpArgs false
set_option linter.unusedVariables false
namespace Go.PH
open Go.RowKit Go.Proofs

/-- a number's digits -/
def digB (n : Nat) : List UInt8 := if h : 9 < n then digB (n / 10) ++ [UInt8.ofNat (48 + n % 10)] else [UInt8.ofNat (48 + n)]
termination_by n
decreasing_by omega
theorem digB_small {n : Nat} (h : ¬ 9 < n) : digB n = [UInt8.ofNat (48 + n)] := by rw [digB, dif_neg h]
theorem digB_big {n : Nat} (h : 9 < n) : digB n = digB (n / 10) ++ [UInt8.ofNat (48 + n % 10)] := by rw [digB, dif_pos h]
theorem digB_len : ∀ (k n : Nat), n < 10 ^ (k + 1) → (digB n).length ≤ k + 1
  | 0, n, h => by rw [digB_small (by omega)]; simp
  | k + 1, n, h => by
    by_cases h9 : 9 < n
    · rw [digB_big h9, List.length_append]
      have := digB_len k (n / 10) (by rw [Nat.pow_succ] at h; omega)
      simp; omega
    · rw [digB_small h9]; simp
theorem digB_ne (n : Nat) : digB n ≠ [] := by
  by_cases h9 : 9 < n
  · rw [digB_big h9]; simp
  · rw [digB_small h9]; simp
set_option maxRecDepth 20000 in
set_option maxHeartbeats 1000000 in
theorem digits_any (n : Nat) (w : World) (hn : n < 18446744073709551616) :
    Calls Tryd.prog 41 #[.int .u64 (n : Int)] w fun e w' => e = .returned (.string (str (digB n))) ∧ Below w.heap.size w w' := by
  go_enter Tryd.func41, Tryd.ntmps41
  go_wp2_with (first | (with_reducible refine hold_append ?_) | (with_reducible refine hold_make ?_) | (with_reducible refine hold_copy ?_))
  go_loopw [0, 3] (fun s v wr => ∃ (m : Nat) (l : List UInt8), s = .int .u64 (m : Int) ∧ v = .string (str l) ∧ m < 18446744073709551616 ∧ Hid (digB n = digB m ++ l) ∧ l.length ≤ 20 ∧ Below w.heap.size w wr) (fun s _ _ => (intOf s).toNat)
  case atStart => exact ⟨n, [], rfl, rfl, hn, Lib.hid (by simp), by simp, Below.refl _ _⟩
  case round =>
    obtain ⟨m, l, rfl, rfl, hm, HD, hl, hB⟩ := hrel
    by_cases h9 : 9 < m
    · have d9 : (9 : Int) < (m : Int) := by omega
      obtain ⟨q, hq⟩ : ∃ q, q = m / 10 := ⟨_, rfl⟩
      obtain ⟨r, hr⟩ : ∃ r, r = m % 10 := ⟨_, rfl⟩
      have d1 : (m : Int) % 10 = (r : Int) := by omega
      have d1' : (m : Int).tmod 10 = (r : Int) := by rw [Int.tmod_eq_emod_of_nonneg (by omega)]; exact d1
      have d2 : (m : Int) / 10 = (q : Int) := by omega
      have d2' : (m : Int).tdiv 10 = (q : Int) := by rw [Int.tdiv_eq_ediv_of_nonneg (by omega)]; exact d2
      have w1 : IntKind.u64.wrap (r : Int) = (r : Int) := IntWalk.u64_in _ ⟨by omega, by omega⟩
      have w2 : IntKind.u64.wrap (q : Int) = (q : Int) := IntWalk.u64_in _ ⟨by omega, by omega⟩
      obtain ⟨s, hs⟩ : ∃ s, s = 48 + r := ⟨_, rfl⟩
      have w3 : IntKind.u64.wrap (48 + (r : Int)) = (s : Int) := by rw [IntWalk.u64_in _ ⟨by omega, by omega⟩]; omega
      obtain ⟨y, hy⟩ : ∃ y, y = UInt8.ofNat s := ⟨_, rfl⟩
      have w4 : IntKind.u8.wrap (s : Int) = (y.toNat : Int) := by rw [hy, UInt8.toNat_ofNat', IntWalk.u8_in _ ⟨by omega, by omega⟩]; omega
      have HD2 := Lib.hid (show digB n = digB q ++ (y :: l) by rw [HD.out, digB_big h9, ← hq, ← hr, ← hs, ← hy]; simp)
      have hqm : q < m := by omega
      clear hy hs hr hq
      have hl40 : l.length + 1 ≤ 20 := by
        have h1 := congrArg List.length HD2.out
        have h2 := digB_len 19 n (by omega)
        rw [List.length_append, List.length_cons] at h1
        omega
      have hsz : ¬ 9223372036854775807 < (str [y]).size + (str l).size := by rw [str_size, str_size]; simp; omega
      have hlit : RdB (wr.alloc (.cells #[.int .u8 (y.toNat : Int)] 5)) (wr.alloc (.cells #[.int .u8 (y.toNat : Int)] 5)).heap.size (some ⟨wr.heap.size, 0, none⟩) 1 1 [y] :=
        (own_lit (w := wr) wr.heap.size #[.int .u8 (y.toNat : Int)] 5 1 (Nat.le_refl _) (by simp [maxLen]) rfl (size := 1) (by omega)).rd
      have hst := run_strB hlit
      have hB2 : Below w.heap.size w (wr.alloc (.cells #[.int .u8 (y.toNat : Int)] 5)) := hB.alloc hB.size _
      go_wp2_with (first | (with_reducible refine hold_append ?_) | (with_reducible refine hold_make ?_) | (with_reducible refine hold_copy ?_))
      exact ⟨⟨q, y :: l, rfl, by rw [str_app]; rfl, by omega, HD2, by simpa using hl40, hB2⟩, by simp [intOf]; omega⟩
    · have d9 : ¬ (9 : Int) < (m : Int) := by omega
      obtain ⟨s, hs⟩ : ∃ s, s = 48 + m := ⟨_, rfl⟩
      have w3 : IntKind.u64.wrap (48 + (m : Int)) = (s : Int) := by rw [IntWalk.u64_in _ ⟨by omega, by omega⟩]; omega
      obtain ⟨y, hy⟩ : ∃ y, y = UInt8.ofNat s := ⟨_, rfl⟩
      have w4 : IntKind.u8.wrap (s : Int) = (y.toNat : Int) := by rw [hy, UInt8.toNat_ofNat', IntWalk.u8_in _ ⟨by omega, by omega⟩]; omega
      have HD2 := Lib.hid (show digB n = y :: l by rw [HD.out, digB_small h9, ← hs, ← hy]; rfl)
      clear hy hs
      have hsz : ¬ 9223372036854775807 < (str [y]).size + (str l).size := by rw [str_size, str_size]; simp; omega
      have hlit : RdB (wr.alloc (.cells #[.int .u8 (y.toNat : Int)] 5)) (wr.alloc (.cells #[.int .u8 (y.toNat : Int)] 5)).heap.size (some ⟨wr.heap.size, 0, none⟩) 1 1 [y] :=
        (own_lit (w := wr) wr.heap.size #[.int .u8 (y.toNat : Int)] 5 1 (Nat.le_refl _) (by simp [maxLen]) rfl (size := 1) (by omega)).rd
      have hst := run_strB hlit
      have hB2 : Below w.heap.size w (wr.alloc (.cells #[.int .u8 (y.toNat : Int)] 5)) := hB.alloc hB.size _
      go_wp2_with (first | (with_reducible refine hold_append ?_) | (with_reducible refine hold_make ?_) | (with_reducible refine hold_copy ?_))
      go_ret
      rw [HD2.out, str_app]
      exact ⟨rfl, hB2⟩
end Go.PH

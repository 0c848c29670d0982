/- The walk of the reference's Number. -/
import Derived.Test.YtokfnonjmacpgaaDoorOctPut
set_option linter.all false
set_option linter.unusedSimpArgs false
set_option linter.unusedVariables false
namespace Go.PH
open Go.RowKit Go.Proofs

theorem be_div (n k : Nat) : UInt8.ofNat (n / 256 ^ k) = UInt8.ofNat ((n / 256 ^ k) % 256) := by
  apply UInt8.toNat_inj.1
  simp
set_option maxHeartbeats 1000000 in
theorem rnumber_any (n i : Nat) (w : World) (hn : n < 18446744073709551616) (hi8 : i ≤ 8) :
    Calls Tryd.prog 39 #[.int .u64 n, .int .i64 i] w fun e w' => ∃ A2 c2, e = .returned (.slice A2 i c2) ∧ Own w' w.heap.size 5 1 A2 i c2 ((be i n).map u8v) ∧ Below w.heap.size w w' := by
  go_enter Tryd.func39, Tryd.ntmps39
  go_wp2_with (first | (with_reducible refine hold_append ?_) | (with_reducible refine hold_make ?_) | (with_reducible refine hold_copy ?_))
  go_loopw [6, 5, 0] (fun x v s wr => ∃ (k c2 m : Nat) (A2 : Option Addr), k ≤ i ∧ x = .int .i64 k ∧ v = .slice A2 k c2 ∧ s = .int .u64 (m : Nat) ∧ m = n / 256 ^ k ∧ m < 18446744073709551616 ∧ Own wr w.heap.size 5 1 A2 k c2 ((be k n).map u8v) ∧ Below w.heap.size w wr) (fun x _ _ _ => i - (intOf x).toNat)
  case atStart => exact ⟨0, 0, n, none, by omega, rfl, rfl, rfl, by simp, hn, by simpa [be] using Own.none_ _ _ _ _, Below.refl _ _⟩
  case round =>
    obtain ⟨k, c2, m, A2, hk, rfl, rfl, rfl, hm, hm64, ho, hB⟩ := hrel
    have HM := Lib.hid hm
    clear hm
    by_cases hlt : k < i
    · have hlit := own_lit (w := wr) wr.heap.size #[Value.int .u8 ((m : Int) % 256)] 5 1 (Nat.le_refl _) (by simp [maxLen]) rfl (size := 1) (by omega)
      have hB1 : Below w.heap.size w (wr.alloc (.cells #[Value.int .u8 ((m : Int) % 256)] 5)) := hB.alloc hB.size _
      have hr1 := Own.rd (base := w.heap.size) (e := 5) (ho.alloc (.cells #[Value.int .u8 ((m : Int) % 256)] 5))
      go_wp2_with (first | (with_reducible refine hold_append ?_) | (with_reducible refine hold_make ?_) | (with_reducible refine hold_copy ?_))
      refine unhold (wp_app (base := wr.heap.size) slB rfl rfl rfl rfl hlit hr1 (map_one _) (by omega) (by simp [maxLen]; omega) (by simp) ?_)
      intro A3 c3 w3 ho3 hg3 _
      have hB3 : Below w.heap.size w w3 := hB1.grown hg3 (by have := hB.size; simp; omega) (fun g hg => by have := (hlit.blk_lt hg).1; have := hB.size; omega)
      have e3 : ((#[Value.int .u8 ((m : Int) % 256)] : Array Value).toList ++ (be k n).map u8v) = (be (k + 1) n).map u8v := by
        simp only [be, List.map_cons, u8v, List.cons_append, List.nil_append]
        rw [HM.out]
        simp
      rw [e3, Nat.add_comm] at ho3
      have ho3' := ho3.base_le hB.size
      have hmq : m / 256 = n / 256 ^ (k + 1) := by rw [HM.out, Nat.div_div_eq_div_mul, Nat.pow_succ]
      have HMQ := Lib.hid hmq
      clear hmq e3
      go_wp2_with (first | (with_reducible refine hold_append ?_) | (with_reducible refine hold_make ?_) | (with_reducible refine hold_copy ?_))
      exact ⟨⟨k + 1, c3, m / 256, A3, by omega, by go_num, by simp [Nat.add_comm], by first | rfl | simp, HMQ.out, by omega, ho3', hB3⟩, by simp [intOf]; omega⟩
    · obtain rfl : k = i := by omega
      go_wp2_with (first | (with_reducible refine hold_append ?_) | (with_reducible refine hold_make ?_) | (with_reducible refine hold_copy ?_))
      go_ret
      exact ⟨A2, c2, rfl, ho, hB⟩

end Go.PH

/- The walks of octet and of its reference: widths, numbers, putting. -/
import Derived.Test.YtidpbbleneekgaaDoorSlB
import Derived.Test.YtidpbbleneekgaaDoorOctMath
import Derived.BigQuiet
import Derived.Deep.QuietTactic
import Derived.Deep.RegionWith
set_option linter.all false
set_option linter.unusedSimpArgs false
set_option linter.unusedVariables false
namespace Go.PH
open Go.RowKit Go.Proofs

theorem wide_any (x : Int) (w : World) : Calls Tryd.prog 39 #[.int .i64 x] w fun e w' => e = .returned (.bool (wideB x)) ∧ w' = w := by
  by_cases h1 : x = 1
  · subst h1
    go_enter Tryd.func39, Tryd.ntmps39
    go_wp2_with (first | (with_reducible refine hold_append ?_) | (with_reducible refine hold_make ?_) | (with_reducible refine hold_copy ?_))
    go_ret
    exact ⟨rfl, rfl⟩
  by_cases h2 : x = 2
  · subst h2
    go_enter Tryd.func39, Tryd.ntmps39
    go_wp2_with (first | (with_reducible refine hold_append ?_) | (with_reducible refine hold_make ?_) | (with_reducible refine hold_copy ?_))
    go_ret
    exact ⟨rfl, rfl⟩
  by_cases h4 : x = 4
  · subst h4
    go_enter Tryd.func39, Tryd.ntmps39
    go_wp2_with (first | (with_reducible refine hold_append ?_) | (with_reducible refine hold_make ?_) | (with_reducible refine hold_copy ?_))
    go_ret
    exact ⟨rfl, rfl⟩
  by_cases h8 : x = 8
  · subst h8
    go_enter Tryd.func39, Tryd.ntmps39
    go_wp2_with (first | (with_reducible refine hold_append ?_) | (with_reducible refine hold_make ?_) | (with_reducible refine hold_copy ?_))
    go_ret
    exact ⟨rfl, rfl⟩
  have e := wideB_no h1 h2 h4 h8
  rw [e]
  go_enter Tryd.func39, Tryd.ntmps39
  go_wp2_with (first | (with_reducible refine hold_append ?_) | (with_reducible refine hold_make ?_) | (with_reducible refine hold_copy ?_))
  go_ret
  exact ⟨rfl, rfl⟩

/-- behind: new memory, filled to the brim -/
theorem behind_any (A : Option Addr) (n c : Nat) (l : List UInt8) (A' : Option Addr) (n' c' : Nat) (l' : List UInt8) (w : World) (hb : RdB w w.heap.size A n c l) (hb' : RdB w w.heap.size A' n' c' l') (hn : n + n' ≤ 281474976710656) :
    Calls Tryd.prog 40 #[.slice A n c, .slice A' n' c'] w fun e w' => ∃ A2, e = .returned (.slice A2 (n + n') (n + n')) ∧ Own w' w.heap.size 5 1 A2 (n + n') (n + n') ((l ++ l').map u8v) ∧ Below w.heap.size w w' := by
  have hl := hb.length
  have hl' := hb'.length
  go_enter Tryd.func40, Tryd.ntmps40
  go_wp2_with (first | (with_reducible refine hold_append ?_) | (with_reducible refine hold_make ?_) | (with_reducible refine hold_copy ?_))
  refine unhold (wp_make slB rfl rfl 0 (n + n') rfl rfl (by omega) (by omega) (by omega) (by omega) (by simp [maxLen]; omega) w.heap.size (Nat.le_refl _) ?_)
  intro w1 ho1 hg1
  have hB1 : Below w.heap.size w w1 := (Below.refl _ _).grown hg1 (Nat.le_refl _) (by simp)
  have hz1 := hB1.size
  simp only [Nat.zero_mul, List.take_zero] at ho1
  go_wp2_with (first | (with_reducible refine hold_append ?_) | (with_reducible refine hold_make ?_) | (with_reducible refine hold_copy ?_))
  refine unhold (wp_app_fit slB rfl rfl rfl rfl ho1 (hb.below hB1) (map_one l) (by omega) hz1 ?_)
  intro w2 ho2 hg2
  have hB2 : Below w.heap.size w w2 := hB1.grown hg2 hz1 (fun g hg => (ho1.blk_lt hg).1)
  have hz2 := hB2.size
  simp only [Nat.zero_add, List.nil_append] at ho2
  go_wp2_with (first | (with_reducible refine hold_append ?_) | (with_reducible refine hold_make ?_) | (with_reducible refine hold_copy ?_))
  refine unhold (wp_app_fit slB rfl rfl rfl rfl ho2 (hb'.below hB2) (map_one l') (by omega) hz2 ?_)
  intro w3 ho3 hg3
  have hB3 : Below w.heap.size w w3 := hB2.grown hg3 hz2 (fun g hg => (ho2.blk_lt hg).1)
  rw [← List.map_append] at ho3
  go_wp2_with (first | (with_reducible refine hold_append ?_) | (with_reducible refine hold_make ?_) | (with_reducible refine hold_copy ?_))
  go_ret
  exact ⟨_, by first | rfl | simp, by simpa using ho3, hB3⟩
theorem shr8 (n k : Nat) : (n : Int) / 2 ^ (8 * k) % 256 = (((UInt8.ofNat (n / 256 ^ k)).toNat : Nat) : Int) := by
  rw [UInt8.toNat_ofNat', show (256 : Nat) ^ k = 2 ^ (8 * k) by rw [Nat.pow_mul]]
  rw [Int.natCast_emod, Int.natCast_ediv, Int.natCast_pow]; rfl

set_option maxHeartbeats 1000000 in
theorem number_any (n i : Nat) (w : World) (_hn : n < 18446744073709551616) (hi : 1 ≤ i) (hi8 : i ≤ 8) :
    Calls Tryd.prog 41 #[.int .u64 n, .int .i64 i] w fun e w' => ∃ A2, e = .returned (.slice A2 i i) ∧ Own w' w.heap.size 5 1 A2 i i ((be i n).map u8v) ∧ Below w.heap.size w w' := by
  go_enter Tryd.func41, Tryd.ntmps41
  go_wp2_with (first | (with_reducible refine hold_append ?_) | (with_reducible refine hold_make ?_) | (with_reducible refine hold_copy ?_))
  refine unhold (wp_make slB rfl rfl i i rfl rfl (by omega) (by omega) (Nat.le_refl _) (by omega) (by simp [maxLen]; omega) w.heap.size (Nat.le_refl _) ?_)
  intro w1 ho1 hg1
  have hB1 : Below w.heap.size w w1 := (Below.refl _ _).grown hg1 (Nat.le_refl _) (by simp)
  have hz1 := hB1.size
  have hx0 : (madeCells (Value.int .u8 0).cells (i * 1)).toList.take (i * 1) = (List.replicate (i - 0) 0 ++ be 0 n).map u8v := by
    simp [Value.cells, toList_madeCells_one, u8v, be]
  rw [hx0] at ho1
  go_wp2_with (first | (with_reducible refine hold_append ?_) | (with_reducible refine hold_make ?_) | (with_reducible refine hold_copy ?_))
  go_loopw [11] (fun x wr => ∃ k : Nat, k ≤ i ∧ x = .int .i64 k ∧ Own wr w.heap.size 5 1 (some ⟨w.heap.size, 0, none⟩) i i ((List.replicate (i - k) 0 ++ be k n).map u8v) ∧ Below w.heap.size w wr) (fun x _ => i - (intOf x).toNat)
  case atStart => exact ⟨0, by omega, rfl, ho1, hB1⟩
  case round =>
    obtain ⟨k, hk, rfl, ho, hB⟩ := hrel
    by_cases hlt : k < i
    · obtain ⟨g, hge, hbg, hgl, hkl, hcell, hfz, hst⟩ := OwnB.at_k ho (k := i - 1 - k) (by omega)
      obtain rfl : w.heap.size = g := by injection hge with h; injection h
      have h1 := hst (UInt8.ofNat (n / 256 ^ k))
      rw [be_set i n k hlt] at h1
      have e8 := shr8 n k
      unfold u8v at h1
      rw [← e8] at h1
      clear hst e8
      go_wp2_with (first | (with_reducible refine hold_append ?_) | (with_reducible refine hold_make ?_) | (with_reducible refine hold_copy ?_))
      exact ⟨⟨k + 1, by omega, by go_num, h1, hB.setCell (by omega) _⟩, by simp [intOf]; omega⟩
    · obtain rfl : k = i := by omega
      rw [Nat.sub_self, List.replicate_zero, List.nil_append] at ho
      go_wp2_with (first | (with_reducible refine hold_append ?_) | (with_reducible refine hold_make ?_) | (with_reducible refine hold_copy ?_))
      go_ret
      exact ⟨_, rfl, ho, hB⟩
end Go.PH

/- The walk of the reference's Well. -/
import Derived.Test.YtgjdpgihehpecaaFrScan
namespace Go.PH
open Go.RowKit Go.Proofs

def preOk (b : List UInt8) (k : Nat) : Bool := decide (byteN b k ≤ frMost k)
theorem frWell_eq (b : List UInt8) : frWell b = ((List.range (min b.length 12)).all (preOk b) && (decide (b.length < 4) || (decide (12 ≤ frN b) && decide (frN b ≤ 4096)))) := by
  rw [Bool.eq_iff_iff, Bool.and_eq_true, Bool.or_eq_true, Bool.and_eq_true]
  unfold frWell
  simp only [List.all_eq_true, List.mem_range, decide_eq_true_eq]
  have h3 : byteN b 3 ≤ 255 := by have := byteN_lt b 3; omega
  constructor
  · intro h
    refine ⟨fun k hk => ?_, ?_⟩
    · have := h k hk
      unfold placeOk at this
      unfold preOk
      split at this
      · next e => subst e; simpa [frMost] using h3
      · exact this
    · by_cases h4 : b.length < 4
      · exact .inl h4
      · have := h 3 (by omega)
        simp [placeOk] at this
        exact .inr this
  · rintro ⟨h, h4⟩ k hk
    unfold placeOk
    split
    · next e => subst e; rcases h4 with h4 | h4
                · omega
                · simp [h4.1, h4.2]
    · exact h k hk
theorem pre_no {b : List UInt8} {k : Nat} (hk : k < min b.length 12) (h : frMost k < byteN b k) : frWell b = false := by
  rw [frWell_eq]
  have : (List.range (min b.length 12)).all (preOk b) = false := by
    rw [List.all_eq_false]
    exact ⟨k, List.mem_range.2 hk, by simp [preOk]; omega⟩
  rw [this]; rfl
theorem pre_all {b : List UInt8} {n : Nat} (hn : b.length = n) (h : ∀ j, j < min n 12 → byteN b j ≤ frMost j) : frWell b = (decide (n < 4) || (decide (12 ≤ frN b) && decide (frN b ≤ 4096))) := by
  subst hn
  rw [frWell_eq]
  have : (List.range (min b.length 12)).all (preOk b) = true := by
    rw [List.all_eq_true]
    exact fun k hk => by simpa [preOk] using h k (List.mem_range.1 hk)
  rw [this]; rfl

theorem beq_yes {k v : Nat} (h : k = v) : ((k : Int) == (v : Int)) = true := by rw [beq_iff_eq]; omega
theorem beq_no {k v : Nat} (h : k ≠ v) : ((k : Int) == (v : Int)) = false := by rw [beq_eq_false_iff_ne]; omega
set_option maxRecDepth 20000 in
set_option maxHeartbeats 4000000 in
theorem rwell_any (A : Option Addr) (n c : Nat) (b : List UInt8) (B : Nat) (w : World) (hr : RdB w B A n c b) (hB : B ≤ w.heap.size) (hn : n ≤ 140737488355328) :
    Calls Try.prog 26 #[.slice A n c] w fun e w' => e = .returned (.bool (frWell b)) ∧ Below w.heap.size w w' := by
  have hl := RdB.length hr
  go_enter Try.func26, Try.ntmps26
  go_wp2_with (first | (with_reducible refine hold_append ?_) | (with_reducible refine hold_make ?_) | (with_reducible refine hold_copy ?_))
  go_loopw [3] (fun s wr => ∃ (k : Nat), k ≤ min n 12 ∧ s = .int .i64 k ∧ (∀ j, j < k → byteN b j ≤ frMost j) ∧ wr = w) (fun s _ => 12 - (intOf s).toNat)
  case atStart => exact ⟨0, by omega, rfl, by omega, rfl⟩
  case round =>
    obtain ⟨k, hk, rfl, hpre, rfl⟩ := hrel
    by_cases hlt : k < min n 12
    · have hd1 : (k : Int) < (n : Int) := by omega
      have hd2 : (k : Int) < 12 := by omega
      obtain ⟨bk, off, rfl, _, hkl, hc⟩ := RdB.at_k hr (show k < n by omega)
      rw [← byteN_eq hkl] at hc
      have HY := Lib.hid (show byteN b k ≤ frMost k → ∀ j, j < k + 1 → byteN b j ≤ frMost j from fun h j hj => by
        rcases Nat.lt_or_ge j k with h1 | h1
        · exact hpre j h1
        · obtain rfl : j = k := by omega
          exact h)
      have HNO := Lib.hid (show frMost k < byteN b k → frWell b = false from fun h => pre_no (by omega) h)
      generalize byteN b k = x at *
      clear hpre
      have hM : ∀ v, k = v → frMost k = frMost v := fun v h => by rw [h]
      have hcases : k = 0 ∨ k = 1 ∨ k = 2 ∨ k = 3 ∨ k = 4 ∨ k = 5 ∨ k = 6 ∨ k = 7 ∨ 8 ≤ k := by omega
      rcases hcases with hk0 | hk0 | hk0 | hk0 | hk0 | hk0 | hk0 | hk0 | hk0
      · skip
        have hm : frMost k = 15 := hM _ hk0
        rw [hm] at HY HNO
        first | have f0 : ((k : Int) == 0) = true := beq_yes (v := 0) (by omega) | have f0 : ((k : Int) == 0) = false := beq_no (v := 0) (by omega)
        first | have f5 : ((k : Int) == 5) = true := beq_yes (v := 5) (by omega) | have f5 : ((k : Int) == 5) = false := beq_no (v := 5) (by omega)
        first | have f1 : ((k : Int) == 1) = true := beq_yes (v := 1) (by omega) | have f1 : ((k : Int) == 1) = false := beq_no (v := 1) (by omega)
        first | have f2 : ((k : Int) == 2) = true := beq_yes (v := 2) (by omega) | have f2 : ((k : Int) == 2) = false := beq_no (v := 2) (by omega)
        first | have f3 : ((k : Int) == 3) = true := beq_yes (v := 3) (by omega) | have f3 : ((k : Int) == 3) = false := beq_no (v := 3) (by omega)
        first | have f6 : ((k : Int) == 6) = true := beq_yes (v := 6) (by omega) | have f6 : ((k : Int) == 6) = false := beq_no (v := 6) (by omega)
        first | have f7 : ((k : Int) == 7) = true := beq_yes (v := 7) (by omega) | have f7 : ((k : Int) == 7) = false := beq_no (v := 7) (by omega)
        clear hk0 hm hM
        by_cases hx : x ≤ 15
        · have hd3 : ¬ (15 : Int) < (x : Int) := by omega
          have HQ := Lib.hid (HY.out hx)
          clear hx HY HNO
          go_wp2_with (first | (with_reducible refine hold_append ?_) | (with_reducible refine hold_make ?_) | (with_reducible refine hold_copy ?_))
          exact ⟨⟨k + 1, by omega, by go_num, HQ.out, trivial⟩, by simp [intOf]; omega⟩
        · have hd3 : (15 : Int) < (x : Int) := by omega
          have hno := HNO.out (by omega)
          clear hx HY HNO
          go_wp2_with (first | (with_reducible refine hold_append ?_) | (with_reducible refine hold_make ?_) | (with_reducible refine hold_copy ?_))
          go_ret
          rw [hno]
          exact ⟨rfl, Below.refl _ _⟩
      · skip
        have hm : frMost k = 3 := hM _ hk0
        rw [hm] at HY HNO
        first | have f0 : ((k : Int) == 0) = true := beq_yes (v := 0) (by omega) | have f0 : ((k : Int) == 0) = false := beq_no (v := 0) (by omega)
        first | have f5 : ((k : Int) == 5) = true := beq_yes (v := 5) (by omega) | have f5 : ((k : Int) == 5) = false := beq_no (v := 5) (by omega)
        first | have f1 : ((k : Int) == 1) = true := beq_yes (v := 1) (by omega) | have f1 : ((k : Int) == 1) = false := beq_no (v := 1) (by omega)
        first | have f2 : ((k : Int) == 2) = true := beq_yes (v := 2) (by omega) | have f2 : ((k : Int) == 2) = false := beq_no (v := 2) (by omega)
        first | have f3 : ((k : Int) == 3) = true := beq_yes (v := 3) (by omega) | have f3 : ((k : Int) == 3) = false := beq_no (v := 3) (by omega)
        first | have f6 : ((k : Int) == 6) = true := beq_yes (v := 6) (by omega) | have f6 : ((k : Int) == 6) = false := beq_no (v := 6) (by omega)
        first | have f7 : ((k : Int) == 7) = true := beq_yes (v := 7) (by omega) | have f7 : ((k : Int) == 7) = false := beq_no (v := 7) (by omega)
        clear hk0 hm hM
        by_cases hx : x ≤ 3
        · have hd3 : ¬ (3 : Int) < (x : Int) := by omega
          have HQ := Lib.hid (HY.out hx)
          clear hx HY HNO
          go_wp2_with (first | (with_reducible refine hold_append ?_) | (with_reducible refine hold_make ?_) | (with_reducible refine hold_copy ?_))
          exact ⟨⟨k + 1, by omega, by go_num, HQ.out, trivial⟩, by simp [intOf]; omega⟩
        · have hd3 : (3 : Int) < (x : Int) := by omega
          have hno := HNO.out (by omega)
          clear hx HY HNO
          go_wp2_with (first | (with_reducible refine hold_append ?_) | (with_reducible refine hold_make ?_) | (with_reducible refine hold_copy ?_))
          go_ret
          rw [hno]
          exact ⟨rfl, Below.refl _ _⟩
      · skip
        have hm : frMost k = 16 := hM _ hk0
        rw [hm] at HY HNO
        first | have f0 : ((k : Int) == 0) = true := beq_yes (v := 0) (by omega) | have f0 : ((k : Int) == 0) = false := beq_no (v := 0) (by omega)
        first | have f5 : ((k : Int) == 5) = true := beq_yes (v := 5) (by omega) | have f5 : ((k : Int) == 5) = false := beq_no (v := 5) (by omega)
        first | have f1 : ((k : Int) == 1) = true := beq_yes (v := 1) (by omega) | have f1 : ((k : Int) == 1) = false := beq_no (v := 1) (by omega)
        first | have f2 : ((k : Int) == 2) = true := beq_yes (v := 2) (by omega) | have f2 : ((k : Int) == 2) = false := beq_no (v := 2) (by omega)
        first | have f3 : ((k : Int) == 3) = true := beq_yes (v := 3) (by omega) | have f3 : ((k : Int) == 3) = false := beq_no (v := 3) (by omega)
        first | have f6 : ((k : Int) == 6) = true := beq_yes (v := 6) (by omega) | have f6 : ((k : Int) == 6) = false := beq_no (v := 6) (by omega)
        first | have f7 : ((k : Int) == 7) = true := beq_yes (v := 7) (by omega) | have f7 : ((k : Int) == 7) = false := beq_no (v := 7) (by omega)
        clear hk0 hm hM
        by_cases hx : x ≤ 16
        · have hd3 : ¬ (16 : Int) < (x : Int) := by omega
          have HQ := Lib.hid (HY.out hx)
          clear hx HY HNO
          go_wp2_with (first | (with_reducible refine hold_append ?_) | (with_reducible refine hold_make ?_) | (with_reducible refine hold_copy ?_))
          exact ⟨⟨k + 1, by omega, by go_num, HQ.out, trivial⟩, by simp [intOf]; omega⟩
        · have hd3 : (16 : Int) < (x : Int) := by omega
          have hno := HNO.out (by omega)
          clear hx HY HNO
          go_wp2_with (first | (with_reducible refine hold_append ?_) | (with_reducible refine hold_make ?_) | (with_reducible refine hold_copy ?_))
          go_ret
          rw [hno]
          exact ⟨rfl, Below.refl _ _⟩
      · skip
        have hm : frMost k = 255 := hM _ hk0
        rw [hm] at HY HNO
        first | have f0 : ((k : Int) == 0) = true := beq_yes (v := 0) (by omega) | have f0 : ((k : Int) == 0) = false := beq_no (v := 0) (by omega)
        first | have f5 : ((k : Int) == 5) = true := beq_yes (v := 5) (by omega) | have f5 : ((k : Int) == 5) = false := beq_no (v := 5) (by omega)
        first | have f1 : ((k : Int) == 1) = true := beq_yes (v := 1) (by omega) | have f1 : ((k : Int) == 1) = false := beq_no (v := 1) (by omega)
        first | have f2 : ((k : Int) == 2) = true := beq_yes (v := 2) (by omega) | have f2 : ((k : Int) == 2) = false := beq_no (v := 2) (by omega)
        first | have f3 : ((k : Int) == 3) = true := beq_yes (v := 3) (by omega) | have f3 : ((k : Int) == 3) = false := beq_no (v := 3) (by omega)
        first | have f6 : ((k : Int) == 6) = true := beq_yes (v := 6) (by omega) | have f6 : ((k : Int) == 6) = false := beq_no (v := 6) (by omega)
        first | have f7 : ((k : Int) == 7) = true := beq_yes (v := 7) (by omega) | have f7 : ((k : Int) == 7) = false := beq_no (v := 7) (by omega)
        clear hk0 hm hM
        by_cases hx : x ≤ 255
        · have hd3 : ¬ (255 : Int) < (x : Int) := by omega
          have HQ := Lib.hid (HY.out hx)
          clear hx HY HNO
          go_wp2_with (first | (with_reducible refine hold_append ?_) | (with_reducible refine hold_make ?_) | (with_reducible refine hold_copy ?_))
          exact ⟨⟨k + 1, by omega, by go_num, HQ.out, trivial⟩, by simp [intOf]; omega⟩
        · have hd3 : (255 : Int) < (x : Int) := by omega
          have hno := HNO.out (by omega)
          clear hx HY HNO
          go_wp2_with (first | (with_reducible refine hold_append ?_) | (with_reducible refine hold_make ?_) | (with_reducible refine hold_copy ?_))
          go_ret
          rw [hno]
          exact ⟨rfl, Below.refl _ _⟩
      · skip
        have hm : frMost k = 0 := hM _ hk0
        rw [hm] at HY HNO
        first | have f0 : ((k : Int) == 0) = true := beq_yes (v := 0) (by omega) | have f0 : ((k : Int) == 0) = false := beq_no (v := 0) (by omega)
        first | have f5 : ((k : Int) == 5) = true := beq_yes (v := 5) (by omega) | have f5 : ((k : Int) == 5) = false := beq_no (v := 5) (by omega)
        first | have f1 : ((k : Int) == 1) = true := beq_yes (v := 1) (by omega) | have f1 : ((k : Int) == 1) = false := beq_no (v := 1) (by omega)
        first | have f2 : ((k : Int) == 2) = true := beq_yes (v := 2) (by omega) | have f2 : ((k : Int) == 2) = false := beq_no (v := 2) (by omega)
        first | have f3 : ((k : Int) == 3) = true := beq_yes (v := 3) (by omega) | have f3 : ((k : Int) == 3) = false := beq_no (v := 3) (by omega)
        first | have f6 : ((k : Int) == 6) = true := beq_yes (v := 6) (by omega) | have f6 : ((k : Int) == 6) = false := beq_no (v := 6) (by omega)
        first | have f7 : ((k : Int) == 7) = true := beq_yes (v := 7) (by omega) | have f7 : ((k : Int) == 7) = false := beq_no (v := 7) (by omega)
        clear hk0 hm hM
        by_cases hx : x ≤ 0
        · have hd3 : ¬ (0 : Int) < (x : Int) := by omega
          have HQ := Lib.hid (HY.out hx)
          clear hx HY HNO
          go_wp2_with (first | (with_reducible refine hold_append ?_) | (with_reducible refine hold_make ?_) | (with_reducible refine hold_copy ?_))
          exact ⟨⟨k + 1, by omega, by go_num, HQ.out, trivial⟩, by simp [intOf]; omega⟩
        · have hd3 : (0 : Int) < (x : Int) := by omega
          have hno := HNO.out (by omega)
          clear hx HY HNO
          go_wp2_with (first | (with_reducible refine hold_append ?_) | (with_reducible refine hold_make ?_) | (with_reducible refine hold_copy ?_))
          go_ret
          rw [hno]
          exact ⟨rfl, Below.refl _ _⟩
      · skip
        have hm : frMost k = 15 := hM _ hk0
        rw [hm] at HY HNO
        first | have f0 : ((k : Int) == 0) = true := beq_yes (v := 0) (by omega) | have f0 : ((k : Int) == 0) = false := beq_no (v := 0) (by omega)
        first | have f5 : ((k : Int) == 5) = true := beq_yes (v := 5) (by omega) | have f5 : ((k : Int) == 5) = false := beq_no (v := 5) (by omega)
        first | have f1 : ((k : Int) == 1) = true := beq_yes (v := 1) (by omega) | have f1 : ((k : Int) == 1) = false := beq_no (v := 1) (by omega)
        first | have f2 : ((k : Int) == 2) = true := beq_yes (v := 2) (by omega) | have f2 : ((k : Int) == 2) = false := beq_no (v := 2) (by omega)
        first | have f3 : ((k : Int) == 3) = true := beq_yes (v := 3) (by omega) | have f3 : ((k : Int) == 3) = false := beq_no (v := 3) (by omega)
        first | have f6 : ((k : Int) == 6) = true := beq_yes (v := 6) (by omega) | have f6 : ((k : Int) == 6) = false := beq_no (v := 6) (by omega)
        first | have f7 : ((k : Int) == 7) = true := beq_yes (v := 7) (by omega) | have f7 : ((k : Int) == 7) = false := beq_no (v := 7) (by omega)
        clear hk0 hm hM
        by_cases hx : x ≤ 15
        · have hd3 : ¬ (15 : Int) < (x : Int) := by omega
          have HQ := Lib.hid (HY.out hx)
          clear hx HY HNO
          go_wp2_with (first | (with_reducible refine hold_append ?_) | (with_reducible refine hold_make ?_) | (with_reducible refine hold_copy ?_))
          exact ⟨⟨k + 1, by omega, by go_num, HQ.out, trivial⟩, by simp [intOf]; omega⟩
        · have hd3 : (15 : Int) < (x : Int) := by omega
          have hno := HNO.out (by omega)
          clear hx HY HNO
          go_wp2_with (first | (with_reducible refine hold_append ?_) | (with_reducible refine hold_make ?_) | (with_reducible refine hold_copy ?_))
          go_ret
          rw [hno]
          exact ⟨rfl, Below.refl _ _⟩
      · skip
        have hm : frMost k = 255 := hM _ hk0
        rw [hm] at HY HNO
        first | have f0 : ((k : Int) == 0) = true := beq_yes (v := 0) (by omega) | have f0 : ((k : Int) == 0) = false := beq_no (v := 0) (by omega)
        first | have f5 : ((k : Int) == 5) = true := beq_yes (v := 5) (by omega) | have f5 : ((k : Int) == 5) = false := beq_no (v := 5) (by omega)
        first | have f1 : ((k : Int) == 1) = true := beq_yes (v := 1) (by omega) | have f1 : ((k : Int) == 1) = false := beq_no (v := 1) (by omega)
        first | have f2 : ((k : Int) == 2) = true := beq_yes (v := 2) (by omega) | have f2 : ((k : Int) == 2) = false := beq_no (v := 2) (by omega)
        first | have f3 : ((k : Int) == 3) = true := beq_yes (v := 3) (by omega) | have f3 : ((k : Int) == 3) = false := beq_no (v := 3) (by omega)
        first | have f6 : ((k : Int) == 6) = true := beq_yes (v := 6) (by omega) | have f6 : ((k : Int) == 6) = false := beq_no (v := 6) (by omega)
        first | have f7 : ((k : Int) == 7) = true := beq_yes (v := 7) (by omega) | have f7 : ((k : Int) == 7) = false := beq_no (v := 7) (by omega)
        clear hk0 hm hM
        by_cases hx : x ≤ 255
        · have hd3 : ¬ (255 : Int) < (x : Int) := by omega
          have HQ := Lib.hid (HY.out hx)
          clear hx HY HNO
          go_wp2_with (first | (with_reducible refine hold_append ?_) | (with_reducible refine hold_make ?_) | (with_reducible refine hold_copy ?_))
          exact ⟨⟨k + 1, by omega, by go_num, HQ.out, trivial⟩, by simp [intOf]; omega⟩
        · have hd3 : (255 : Int) < (x : Int) := by omega
          have hno := HNO.out (by omega)
          clear hx HY HNO
          go_wp2_with (first | (with_reducible refine hold_append ?_) | (with_reducible refine hold_make ?_) | (with_reducible refine hold_copy ?_))
          go_ret
          rw [hno]
          exact ⟨rfl, Below.refl _ _⟩
      · skip
        have hm : frMost k = 255 := hM _ hk0
        rw [hm] at HY HNO
        first | have f0 : ((k : Int) == 0) = true := beq_yes (v := 0) (by omega) | have f0 : ((k : Int) == 0) = false := beq_no (v := 0) (by omega)
        first | have f5 : ((k : Int) == 5) = true := beq_yes (v := 5) (by omega) | have f5 : ((k : Int) == 5) = false := beq_no (v := 5) (by omega)
        first | have f1 : ((k : Int) == 1) = true := beq_yes (v := 1) (by omega) | have f1 : ((k : Int) == 1) = false := beq_no (v := 1) (by omega)
        first | have f2 : ((k : Int) == 2) = true := beq_yes (v := 2) (by omega) | have f2 : ((k : Int) == 2) = false := beq_no (v := 2) (by omega)
        first | have f3 : ((k : Int) == 3) = true := beq_yes (v := 3) (by omega) | have f3 : ((k : Int) == 3) = false := beq_no (v := 3) (by omega)
        first | have f6 : ((k : Int) == 6) = true := beq_yes (v := 6) (by omega) | have f6 : ((k : Int) == 6) = false := beq_no (v := 6) (by omega)
        first | have f7 : ((k : Int) == 7) = true := beq_yes (v := 7) (by omega) | have f7 : ((k : Int) == 7) = false := beq_no (v := 7) (by omega)
        clear hk0 hm hM
        by_cases hx : x ≤ 255
        · have hd3 : ¬ (255 : Int) < (x : Int) := by omega
          have HQ := Lib.hid (HY.out hx)
          clear hx HY HNO
          go_wp2_with (first | (with_reducible refine hold_append ?_) | (with_reducible refine hold_make ?_) | (with_reducible refine hold_copy ?_))
          exact ⟨⟨k + 1, by omega, by go_num, HQ.out, trivial⟩, by simp [intOf]; omega⟩
        · have hd3 : (255 : Int) < (x : Int) := by omega
          have hno := HNO.out (by omega)
          clear hx HY HNO
          go_wp2_with (first | (with_reducible refine hold_append ?_) | (with_reducible refine hold_make ?_) | (with_reducible refine hold_copy ?_))
          go_ret
          rw [hno]
          exact ⟨rfl, Below.refl _ _⟩
      · have hm8 : frMost k = 0 := by
          obtain ⟨j, rfl⟩ := Nat.exists_eq_add_of_le' hk0
          rfl
        have hm : frMost k = 0 := hm8
        rw [hm] at HY HNO
        first | have f0 : ((k : Int) == 0) = true := beq_yes (v := 0) (by omega) | have f0 : ((k : Int) == 0) = false := beq_no (v := 0) (by omega)
        first | have f5 : ((k : Int) == 5) = true := beq_yes (v := 5) (by omega) | have f5 : ((k : Int) == 5) = false := beq_no (v := 5) (by omega)
        first | have f1 : ((k : Int) == 1) = true := beq_yes (v := 1) (by omega) | have f1 : ((k : Int) == 1) = false := beq_no (v := 1) (by omega)
        first | have f2 : ((k : Int) == 2) = true := beq_yes (v := 2) (by omega) | have f2 : ((k : Int) == 2) = false := beq_no (v := 2) (by omega)
        first | have f3 : ((k : Int) == 3) = true := beq_yes (v := 3) (by omega) | have f3 : ((k : Int) == 3) = false := beq_no (v := 3) (by omega)
        first | have f6 : ((k : Int) == 6) = true := beq_yes (v := 6) (by omega) | have f6 : ((k : Int) == 6) = false := beq_no (v := 6) (by omega)
        first | have f7 : ((k : Int) == 7) = true := beq_yes (v := 7) (by omega) | have f7 : ((k : Int) == 7) = false := beq_no (v := 7) (by omega)
        clear hk0 hm hM
        by_cases hx : x ≤ 0
        · have hd3 : ¬ (0 : Int) < (x : Int) := by omega
          have HQ := Lib.hid (HY.out hx)
          clear hx HY HNO
          go_wp2_with (first | (with_reducible refine hold_append ?_) | (with_reducible refine hold_make ?_) | (with_reducible refine hold_copy ?_))
          exact ⟨⟨k + 1, by omega, by go_num, HQ.out, trivial⟩, by simp [intOf]; omega⟩
        · have hd3 : (0 : Int) < (x : Int) := by omega
          have hno := HNO.out (by omega)
          clear hx HY HNO
          go_wp2_with (first | (with_reducible refine hold_append ?_) | (with_reducible refine hold_make ?_) | (with_reducible refine hold_copy ?_))
          go_ret
          rw [hno]
          exact ⟨rfl, Below.refl _ _⟩
    · have hkm : k = min n 12 := by omega
      have hall := pre_all hl (fun j hj => hpre j (by omega))
      have HAll := Lib.hid hall
      clear hall hpre
      by_cases h4 : n < 4
      · have hd1 : ¬ (k : Int) < (n : Int) := by omega
        have hd4 : (n : Int) < 4 := by omega
        have hres : frWell b = true := by rw [HAll.out]; simp [h4]
        clear hkm h4
        go_wp2_with (first | (with_reducible refine hold_append ?_) | (with_reducible refine hold_make ?_) | (with_reducible refine hold_copy ?_))
        go_ret
        exact ⟨rfl, Below.refl _ _⟩
      · have hd4 : ¬ (n : Int) < 4 := by omega
        obtain ⟨bk, off, rfl, _, h2l, hc2⟩ := RdB.at_k hr (show 2 < n by omega)
        obtain ⟨bk', off', e3, _, h3l, hc3⟩ := RdB.at_k hr (show 3 < n by omega)
        obtain ⟨rfl, rfl⟩ : bk = bk' ∧ off = off' := by simpa using e3
        clear e3
        rw [← byteN_eq h2l] at hc2
        rw [← byteN_eq h3l] at hc3
        have hx2 := byteN_lt b 2
        have hx3 := byteN_lt b 3
        have HN := Lib.hid (frN_eq b)
        have hn2 : (2 : Int) < (n : Int) := by omega
        have hn3 : (3 : Int) < (n : Int) := by omega
        generalize byteN b 2 = x2 at *
        generalize byteN b 3 = x3 at *
        obtain ⟨N, hN⟩ : ∃ N, N = frN b := ⟨_, rfl⟩
        have hw1 : IntKind.i64.wrap (256 * ((x2 : Nat) : Int)) = ((256 * x2 : Nat) : Int) := by rw [IntWalk.i64_in _ ⟨by omega, by omega⟩]; omega
        have hw0 : IntKind.i64.wrap ((x2 : Nat) : Int) = (x2 : Int) := IntWalk.i64_in _ ⟨by omega, by omega⟩
        have hw3 : IntKind.i64.wrap ((x3 : Nat) : Int) = (x3 : Int) := IntWalk.i64_in _ ⟨by omega, by omega⟩
        have hw2 : IntKind.i64.wrap (((256 * x2 : Nat) : Int) + (x3 : Int)) = ((N : Nat) : Int) := by rw [IntWalk.i64_in _ ⟨by omega, by omega⟩, hN, HN.out]; omega
        have hres : frWell b = (decide (12 ≤ N) && decide (N ≤ 4096)) := by rw [HAll.out, ← hN]; simp [h4]
        have HRes := Lib.hid hres
        clear hres hN HN HAll h4
        generalize (256 * x2 : Nat) = m at *
        by_cases hkn : k < n
        · have hd1 : (k : Int) < (n : Int) := by omega
          have hd2 : ¬ (k : Int) < 12 := by omega
          clear hkm hkn
          by_cases h12 : 12 ≤ N
          · have hd5 : (12 : Int) ≤ (N : Int) := by omega
            by_cases h40 : N ≤ 4096
            · have hd6 : (N : Int) ≤ 4096 := by omega
              have hv : frWell b = true := by rw [HRes.out]; simp [h12, h40]
              clear h12 h40
              go_wp2_with (first | (with_reducible refine hold_append ?_) | (with_reducible refine hold_make ?_) | (with_reducible refine hold_copy ?_))
              go_quiet (fail)
              go_wp2_with (first | (with_reducible refine hold_append ?_) | (with_reducible refine hold_make ?_) | (with_reducible refine hold_copy ?_))
              go_ret
              first | rw [hv] | skip
              exact ⟨rfl, below_drewN (Below.refl _ _) _⟩
            · have hd6 : decide ((N : Int) ≤ 4096) = false := by simp; omega
              have hv : frWell b = false := by rw [HRes.out]; simp [h40]
              clear h12 h40
              go_wp2_with (first | (with_reducible refine hold_append ?_) | (with_reducible refine hold_make ?_) | (with_reducible refine hold_copy ?_))
              go_quiet (fail)
              go_wp2_with (first | (with_reducible refine hold_append ?_) | (with_reducible refine hold_make ?_) | (with_reducible refine hold_copy ?_))
              go_ret
              first | rw [hv] | skip
              exact ⟨rfl, below_drewN (Below.refl _ _) _⟩
          · have hd5 : ¬ (12 : Int) ≤ (N : Int) := by omega
            have hv : frWell b = false := by rw [HRes.out]; simp [h12]
            clear h12
            go_wp2_with (first | (with_reducible refine hold_append ?_) | (with_reducible refine hold_make ?_) | (with_reducible refine hold_copy ?_))
            go_quiet (fail)
            go_wp2_with (first | (with_reducible refine hold_append ?_) | (with_reducible refine hold_make ?_) | (with_reducible refine hold_copy ?_))
            go_ret
            first | rw [hv] | skip
            exact ⟨rfl, below_drewN (Below.refl _ _) _⟩
        · have hd1 : ¬ (k : Int) < (n : Int) := by omega
          clear hkm hkn
          by_cases h12 : 12 ≤ N
          · have hd5 : (12 : Int) ≤ (N : Int) := by omega
            by_cases h40 : N ≤ 4096
            · have hd6 : (N : Int) ≤ 4096 := by omega
              have hv : frWell b = true := by rw [HRes.out]; simp [h12, h40]
              clear h12 h40
              go_wp2_with (first | (with_reducible refine hold_append ?_) | (with_reducible refine hold_make ?_) | (with_reducible refine hold_copy ?_))
              go_quiet (fail)
              go_wp2_with (first | (with_reducible refine hold_append ?_) | (with_reducible refine hold_make ?_) | (with_reducible refine hold_copy ?_))
              go_ret
              first | rw [hv] | skip
              exact ⟨rfl, below_drewN (Below.refl _ _) _⟩
            · have hd6 : decide ((N : Int) ≤ 4096) = false := by simp; omega
              have hv : frWell b = false := by rw [HRes.out]; simp [h40]
              clear h12 h40
              go_wp2_with (first | (with_reducible refine hold_append ?_) | (with_reducible refine hold_make ?_) | (with_reducible refine hold_copy ?_))
              go_quiet (fail)
              go_wp2_with (first | (with_reducible refine hold_append ?_) | (with_reducible refine hold_make ?_) | (with_reducible refine hold_copy ?_))
              go_ret
              first | rw [hv] | skip
              exact ⟨rfl, below_drewN (Below.refl _ _) _⟩
          · have hd5 : ¬ (12 : Int) ≤ (N : Int) := by omega
            have hv : frWell b = false := by rw [HRes.out]; simp [h12]
            clear h12
            go_wp2_with (first | (with_reducible refine hold_append ?_) | (with_reducible refine hold_make ?_) | (with_reducible refine hold_copy ?_))
            go_quiet (fail)
            go_wp2_with (first | (with_reducible refine hold_append ?_) | (with_reducible refine hold_make ?_) | (with_reducible refine hold_copy ?_))
            go_ret
            first | rw [hv] | skip
            exact ⟨rfl, below_drewN (Below.refl _ _) _⟩
end Go.PH

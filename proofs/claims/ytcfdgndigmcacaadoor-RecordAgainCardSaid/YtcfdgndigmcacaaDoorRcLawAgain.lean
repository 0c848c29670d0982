/- RecordAgain: for every input of the form's own reach the law returns true and writes nothing that was there. Condition: the listed table reads as its numbers. -/
import Derived.Test.YtcfdgndigmcacaaDoorRcHead
namespace Go.PH
open Go.RowKit Go.Proofs

set_option maxRecDepth 20000 in
set_option maxHeartbeats 1000000 in
theorem law_RecordAgain (b : List UInt8) (w : World) (ht : TabAt w) (hg0 : 0 < w.heap.size) (hn : b.length ≤ 140737488351232) :
    Calls Tryd.prog 7 #[.string (str b)] w fun e w' => e = .returned (.bool true) ∧ Below w.heap.size w w' := by
  have hss := str_size b
  by_cases h5 : 5000 < b.length
  · have hd : (5000 : Int) < ((str b).size : Int) := by omega
    clear hss
    go_enter Tryd.func7, Tryd.ntmps7
    go_wp2_with (first | (with_reducible refine hold_append ?_) | (with_reducible refine hold_make ?_) | (with_reducible refine hold_copy ?_))
    refine (head_any w ht hg0).mono ?_
    rintro e w4 ⟨rfl, hB5⟩
    go_wp2_with (first | (with_reducible refine hold_append ?_) | (with_reducible refine hold_make ?_) | (with_reducible refine hold_copy ?_))
    go_ret
    exact ⟨rfl, hB5⟩
  · have hd : ¬ (5000 : Int) < ((str b).size : Int) := by omega
    have hs1 := rcscan_any b w ht hg0 (by omega)
    have hle := rcScan_le b
    obtain ⟨hf, hby, hwh⟩ := rcScan_put b
    obtain ⟨⟨l, u, s⟩, hx⟩ : ∃ x, x = rcScan b := ⟨_, rfl⟩
    rw [← hx] at hs1 hle hf hby hwh
    simp only at hs1 hle hf hby hwh
    have hput := rcPut_of (fun r hr => (hf r hr).2)
    rw [hby] at hput
    obtain ⟨N, hN⟩ : ∃ N, N = l.length := ⟨_, rfl⟩
    rw [← hN] at hs1 hle
    have hp := fun A c W hr h1 h2 => rcput_any A N c l W hr (fun r h => ⟨(hf r h).1, by have := (hf r h).2; omega⟩) (by omega) h1 h2 (by rw [hby, List.length_take]; omega)
    rw [hput] at hp
    obtain ⟨n, hbn⟩ : ∃ n, b.length = n := ⟨_, rfl⟩
    rw [hbn] at hle hwh hss
    clear hx hN hput hf hby
    have hu0 : (0 : Int) ≤ (u : Int) := by omega
    have hun : (u : Int) ≤ (n : Int) := by omega
    have hdn : ¬ (5000 : Int) < (n : Int) := by omega
    clear hd
    have hq : ((str (b.take u)).toList == (str (b.take u)).toList) = true := by simp
    go_enter Tryd.func7, Tryd.ntmps7
    go_wp2_with (first | (with_reducible refine hold_append ?_) | (with_reducible refine hold_make ?_) | (with_reducible refine hold_copy ?_))
    refine hs1.mono ?_
    rintro e w1 ⟨A1, c1, rfl, ho1, hB1⟩
    have hz1 := hB1.size
    have hp1 := hp A1 c1 w1 ho1.rd (ht.below hB1 hg0) (Nat.lt_of_lt_of_le hg0 hB1.size)
    clear hs1 hp
    go_wp2_with (first | (with_reducible refine hold_append ?_) | (with_reducible refine hold_make ?_) | (with_reducible refine hold_copy ?_))
    refine hp1.mono ?_
    rintro e w2 ⟨rfl, hB2⟩
    have hB3 := hB1.trans (hB2.mono hz1)
    clear hp1 hB1 hB2 ho1 hz1
    go_wp2_with (first | (with_reducible refine hold_append ?_) | (with_reducible refine hold_make ?_) | (with_reducible refine hold_copy ?_) | (with_reducible refine hold_slice ?_) | (with_reducible refine hold_conv (s := 9) (t := 31) ?_))
    refine unhold (wp_cutS Tryd.underlying9 rfl rfl rfl (l := b) 0 u (.inl ⟨rfl, rfl⟩) (.inr ⟨_, _, rfl, rfl⟩) (by omega) (by omega) ?_)
    rw [List.drop_zero]
    by_cases hs : s = 0
    · have hu := hwh hs
      have hs1 : ((s : Int) != 0) = false := by simp [hs]
      have hq2 : ((u : Int) == (n : Int)) = true := by simp [hu]
      clear hs hu hwh hbn
      go_wp2_with (first | (with_reducible refine hold_append ?_) | (with_reducible refine hold_make ?_) | (with_reducible refine hold_copy ?_))
      refine (head_any w2 (ht.below hB3 hg0) (Nat.lt_of_lt_of_le hg0 hB3.size)).mono ?_
      rintro e w4 ⟨rfl, hB6⟩
      have hB7 := hB3.trans (hB6.mono hB3.size)
      go_wp2_with (first | (with_reducible refine hold_append ?_) | (with_reducible refine hold_make ?_) | (with_reducible refine hold_copy ?_))
      go_ret
      exact ⟨rfl, hB7⟩
    · have hs1 : ((s : Int) != 0) = true := by simp [hs]
      clear hs hwh hbn
      go_wp2_with (first | (with_reducible refine hold_append ?_) | (with_reducible refine hold_make ?_) | (with_reducible refine hold_copy ?_))
      refine (head_any w2 (ht.below hB3 hg0) (Nat.lt_of_lt_of_le hg0 hB3.size)).mono ?_
      rintro e w4 ⟨rfl, hB6⟩
      have hB7 := hB3.trans (hB6.mono hB3.size)
      go_wp2_with (first | (with_reducible refine hold_append ?_) | (with_reducible refine hold_make ?_) | (with_reducible refine hold_copy ?_))
      go_ret
      exact ⟨rfl, hB7⟩
end Go.PH

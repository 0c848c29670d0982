/- FrameScans: for every input of the form's own reach the law returns true and writes nothing that was there. -/
import Derived.Test.YtgjdpgihehpecaaFrHead
import Derived.Test.YtgjdpgihehpecaaFrRefScan
import Derived.Test.YtgjdpgihehpecaaFrSame
import Derived.Test.YtgjdpgihehpecaaFrScanMath2
namespace Go.PH
open Go.RowKit Go.Proofs

set_option maxRecDepth 20000 in
set_option maxHeartbeats 1000000 in
theorem law_FrameScans (A : Option Addr) (n c : Nat) (b : List UInt8) (w : World) (hr : RdB w w.heap.size A n c b) (hn : n ≤ 140737488351232) :
    Calls Try.prog 4 #[.slice A n c] w fun e w' => e = .returned (.bool true) ∧ Below w.heap.size w w' := by
  have hl := RdB.length hr
  have hcap := hr.cap
  by_cases h60 : 20000 < n
  · have hd : (20000 : Int) < (n : Int) := by omega
    go_enter Try.func4, Try.ntmps4
    go_wp2_with (first | (with_reducible refine hold_append ?_) | (with_reducible refine hold_make ?_) | (with_reducible refine hold_copy ?_))
    refine (head_any w).mono ?_
    rintro e w1 ⟨rfl, hB1⟩
    go_wp2_with (first | (with_reducible refine hold_append ?_) | (with_reducible refine hold_make ?_) | (with_reducible refine hold_copy ?_))
    go_ret
    exact ⟨rfl, hB1⟩
  · have hd : ¬ (20000 : Int) < (n : Int) := by omega
    have hs := fun A c W h => scan_any A n c b W h (by omega)
    have hrs := fun W h => rscan_any A n c b W h (by omega)
    have hle := frScan_le b
    obtain ⟨⟨l, u, e⟩, hfs⟩ : ∃ fs, fs = frScan b := ⟨_, rfl⟩
    rw [← hfs] at hs hrs hle
    simp only at hs hrs hle
    clear hfs
    obtain ⟨N, hN⟩ : ∃ N, N = l.length := ⟨_, rfl⟩
    rw [← hN] at hs hrs hle
    clear hN
    go_enter Try.func4, Try.ntmps4
    go_wp2_with (first | (with_reducible refine hold_append ?_) | (with_reducible refine hold_make ?_) | (with_reducible refine hold_copy ?_))
    refine unhold (wp_app slB rfl rfl rfl rfl (Own.none_ w w.heap.size _ _) hr (map_one _) (by omega) (by simp [maxLen]; omega) (Nat.le_refl _) ?_)
    intro A2 c2 w2 ho2 hg2 _
    have hB2 : Below w.heap.size w w2 := (Below.refl _ _).grown hg2 (Nat.le_refl _) (by simp [blk])
    simp only [Nat.zero_add, List.nil_append] at ho2
    have hr2 : RdB w2 w2.heap.size A n c b := (hr.below hB2).more hB2.size
    have hz2 := hB2.size
    go_wp2_with (first | (with_reducible refine hold_append ?_) | (with_reducible refine hold_make ?_) | (with_reducible refine hold_copy ?_))
    refine (hs A2 c2 w2 (by first | exact ho2.rd | simpa using ho2.rd)).mono ?_
    rintro ex w3 ⟨A3, c3, rfl, ho3, hB3⟩
    have ho23 := own_below ho2 hB3
    have hB03 := hB2.trans (hB3.mono hz2)
    have hz3 := hB3.size
    have hr3 : RdB w3 w3.heap.size A n c b := (hr2.below hB3).more hz3
    clear hs
    go_wp2_with (first | (with_reducible refine hold_append ?_) | (with_reducible refine hold_make ?_) | (with_reducible refine hold_copy ?_))
    refine (hrs w3 hr3).mono ?_
    rintro ex w4 ⟨A4, c4, rfl, ho4, hB4⟩
    have ho24 := own_below ho23 hB4
    have ho34 := own_below ho3 hB4
    have hB04 := hB03.trans (hB4.mono hB03.size)
    have hz4 := hB4.size
    clear hrs
    have hsm := fsame_any A3 N c3 l A4 N c4 l w4.heap.size w4 ho34.rd ho4.rd (Nat.le_refl _) (by omega) (by omega)
    rw [decide_eq_true rfl] at hsm
    go_wp2_with (first | (with_reducible refine hold_append ?_) | (with_reducible refine hold_make ?_) | (with_reducible refine hold_copy ?_))
    refine hsm.mono ?_
    rintro ex w5 ⟨rfl, hB5⟩
    have ho25 := own_below ho24 hB5
    have hB05 := hB04.trans (hB5.mono hB04.size)
    have hr5 : RdB w5 w.heap.size A n c b := hr.below hB05
    have hv1 := run_strB (w := w5) ho25.rd
    have hv2 := run_strB (w := w5) hr5
    have hq : ((str b).toList == (str b).toList) = true := by simp
    have hq1 : (((u : Nat) : Int) == ((u : Nat) : Int)) = true := by simp
    have hq2 : (((e : Nat) : Int) == ((e : Nat) : Int)) = true := by simp
    go_wp2_with (first | (with_reducible refine hold_append ?_) | (with_reducible refine hold_make ?_) | (with_reducible refine hold_copy ?_))
    refine (head_any w5).mono ?_
    rintro ex w6 ⟨rfl, hB6⟩
    have hB06 := hB05.trans (hB6.mono hB05.size)
    go_wp2_with (first | (with_reducible refine hold_append ?_) | (with_reducible refine hold_make ?_) | (with_reducible refine hold_copy ?_))
    go_ret
    exact ⟨rfl, hB06⟩
end Go.PH

/- The laws' head of frames. -/
import Derived.Test.YtgjdpgihehpecaaFrScan
import Derived.Test.YtgjdpgihehpecaaFrPut
namespace Go.PH
open Go.RowKit Go.Proofs

def fr0 : Fr := ⟨true, true, true, true, 0, 0, 1, [97, 98]⟩
set_option maxRecDepth 20000 in
set_option maxHeartbeats 1000000 in
theorem head_any (w : World) : Calls Try.prog 11 #[] w fun e w' => e = .returned (.bool true) ∧ Below w.heap.size w w' := by
  have e1 : fr0.put = [15, 0, 0, 14, 0, 0, 0, 1, 0, 0, 0, 0, 97, 98] := by decide +kernel
  have e2 : fr0.err = 0 := by decide +kernel
  have e3 : frScan ([15, 0, 0, 14, 0, 0, 0, 1, 0, 0, 0, 0, 97, 98] ++ [15, 0]) = ([fr0], 14, 0) := by decide +kernel
  have e4 : frScan [16] = ([], 0, 60) := by decide +kernel
  have hp := fput_any fr0 w ⟨by decide, by decide, by decide⟩ (by decide)
  rw [e1, e2] at hp
  have hs := fun A c W h => scan_any A 16 c ([15, 0, 0, 14, 0, 0, 0, 1, 0, 0, 0, 0, 97, 98] ++ [15, 0]) W h (by omega)
  rw [e3] at hs
  have hs2 := fun A c W h => scan_any A 1 c [16] W h (by omega)
  rw [e4] at hs2
  go_enter Try.func11, Try.ntmps11
  go_wp2_with (first | (with_reducible refine hold_append ?_) | (with_reducible refine hold_make ?_) | (with_reducible refine hold_copy ?_))
  refine hp.mono ?_
  rintro e w1 ⟨A1, c1, rfl, ho1, hB1⟩
  have hz1 := hB1.size
  clear hp
  go_wp2_with (first | (with_reducible refine hold_append ?_) | (with_reducible refine hold_make ?_) | (with_reducible refine hold_copy ?_))
  refine unhold (wp_app slB rfl rfl rfl rfl (Own.none_ w1 w.heap.size _ _) ho1.rd (map_one _) (by simp) (by simp [maxLen]) hz1 ?_)
  intro A2 c2 w2 ho2 hg2 hb2
  have h12 : ∀ g, blk A1 = some g → blk A2 ≠ some g := fun g e1 e2 => by
    rcases hb2 with h | h
    · rw [e2] at h; cases h
    · rw [e2] at h; cases h; have := (ho1.blk_lt e1).2; omega
  have hB2 : Below w.heap.size w w2 := hB1.grown hg2 hz1 (by simp [blk])
  have ho12 : Own w2 w.heap.size 5 1 A1 14 c1 ([(15 : UInt8), 0, 0, 14, 0, 0, 0, 1, 0, 0, 0, 0, 97, 98].map u8v) := own_stays ho1 hg2 (by intro g _ e; simp [blk] at e)
  have ho2 : Own w2 w.heap.size 5 1 A2 14 c2 ([(15 : UInt8), 0, 0, 14, 0, 0, 0, 1, 0, 0, 0, 0, 97, 98].map u8v) := ho2
  have hz2 := hB2.size
  have hlit : Own (w2.alloc (.cells #[.int .u8 15, .int .u8 0] 5)) w.heap.size 5 1 (some ⟨w2.heap.size, 0, none⟩) 2 2 ([(15 : UInt8), 0].map u8v) :=
    own_lit (w := w2) w.heap.size #[.int .u8 15, .int .u8 0] 5 2 hz2 (by simp [maxLen]) rfl (size := 1) (by omega)
  have hB3 : Below w.heap.size w (w2.alloc (.cells #[.int .u8 15, .int .u8 0] 5)) := hB2.alloc hz2 _
  have ho13 : Own (w2.alloc (.cells #[.int .u8 15, .int .u8 0] 5)) w.heap.size 5 1 A1 14 c1 ([(15 : UInt8), 0, 0, 14, 0, 0, 0, 1, 0, 0, 0, 0, 97, 98].map u8v) := ho12.alloc _
  have ho23 : Own (w2.alloc (.cells #[.int .u8 15, .int .u8 0] 5)) w.heap.size 5 1 A2 14 c2 ([(15 : UInt8), 0, 0, 14, 0, 0, 0, 1, 0, 0, 0, 0, 97, 98].map u8v) := ho2.alloc _
  go_wp2_with (first | (with_reducible refine hold_append ?_) | (with_reducible refine hold_make ?_) | (with_reducible refine hold_copy ?_))
  refine unhold (wp_app slB rfl rfl rfl rfl ho23 hlit.rd (map_one _) (by simp) (by simp [maxLen]) hB3.size ?_)
  intro A4 c4 w4 ho4 hg4 _
  have hB4 : Below w.heap.size w w4 := hB3.grown hg4 hB3.size (fun g hg => (ho23.blk_lt hg).1)
  have ho14 : Own w4 w.heap.size 5 1 A1 14 c1 ([(15 : UInt8), 0, 0, 14, 0, 0, 0, 1, 0, 0, 0, 0, 97, 98].map u8v) := own_stays ho13 hg4 h12
  have ho4' : Own w4 w.heap.size 5 1 A4 16 c4 (([(15 : UInt8), 0, 0, 14, 0, 0, 0, 1, 0, 0, 0, 0, 97, 98] ++ [15, 0]).map u8v) := by simpa using ho4
  have hz4 := hB4.size
  have hs' := hs A4 c4 w4 ho4'.rd
  clear hs ho4 ho4' ho23 ho13 hlit hB3 hg4
  go_wp2_with (first | (with_reducible refine hold_append ?_) | (with_reducible refine hold_make ?_) | (with_reducible refine hold_copy ?_))
  refine hs'.mono ?_
  rintro e w5 ⟨A5, c5, rfl, ho5, hB5⟩
  have hB15 := hB4.trans (hB5.mono hz4)
  have ho15 := own_below ho14 hB5
  have hz5 := hB15.size
  have hlit : Own (w5.alloc (.cells #[.int .u8 16] 5)) w5.heap.size 5 1 (some ⟨w5.heap.size, 0, none⟩) 1 1 ([(16 : UInt8)].map u8v) :=
    own_lit (w := w5) w5.heap.size #[.int .u8 16] 5 1 (Nat.le_refl _) (by simp [maxLen]) rfl (size := 1) (by omega)
  have hB6 : Below w.heap.size w (w5.alloc (.cells #[.int .u8 16] 5)) := hB15.alloc hz5 _
  have ho16 : Own (w5.alloc (.cells #[.int .u8 16] 5)) w.heap.size 5 1 A1 14 c1 ([(15 : UInt8), 0, 0, 14, 0, 0, 0, 1, 0, 0, 0, 0, 97, 98].map u8v) := ho15.alloc _
  have ho56 : OwnF (w5.alloc (.cells #[.int .u8 16] 5)) w4.heap.size A5 1 c5 [fr0] := ho5.alloc _
  have hs' := hs2 _ _ _ hlit.rd
  clear hs2 hlit ho14 ho15 ho5
  go_wp2_with (first | (with_reducible refine hold_append ?_) | (with_reducible refine hold_make ?_) | (with_reducible refine hold_copy ?_))
  refine hs'.mono ?_
  rintro e w7 ⟨A7, c7, rfl, _, hB7⟩
  have ho17 := own_below ho16 hB7
  have ho57 : OwnF w7 w4.heap.size A5 1 c5 [fr0] := own_below ho56 hB7
  have hB17 := hB6.trans (hB7.mono hB6.size)
  obtain ⟨b1, off1, rfl, _, _, hx⟩ := RdB.at_k ho17.rd (k := 0) (by omega)
  obtain ⟨b5, off5, rfl, _, _, hy⟩ := rec_at frShape ho57.rd (k := 0) (by omega)
  have hy7 : w7.cell? ⟨b5, off5 + 0 * 8 + 7, none⟩ = some (.string ⟨#[97, 98]⟩) := hy 7 _ rfl
  have hq : ((⟨#[97, 98]⟩ : ByteArray).toList == (⟨#[97, 98]⟩ : ByteArray).toList) = true := by rw [beq_iff_eq]
  simp only [List.getElem_cons_zero, Nat.zero_mul, Nat.add_zero] at hx hy7
  clear hy hs'
  go_wp2_with (first | (with_reducible refine hold_append ?_) | (with_reducible refine hold_make ?_) | (with_reducible refine hold_copy ?_))
  go_ret
  exact ⟨rfl, hB17⟩
end Go.PH

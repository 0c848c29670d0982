/- The laws' head of methods. -/
import Derived.Test.YtidpbbleneekgaaDoorMdGet0
set_option linter.all false
set_option linter.unusedSimpArgs false
set_option linter.unusedVariables false
namespace Go.PH
open Go.RowKit Go.Proofs

def hdL : List SA := [⟨true, 0, [113]⟩, ⟨true, 0, []⟩, ⟨true, 9, []⟩]
def hdP (i : Nat) : List UInt8 := if i = 0 then [1, 113] else if i = 1 then [] else [0, 0, 0, 9]
def HdPut (w : World) (e : Ending) (w' : World) : Prop := ∃ A2 c2, e = .returned (.tuple #[.slice A2 12 c2, .int .i64 0]) ∧ OwnB w' w.heap.size A2 12 c2 [8, 1, 1, 0, 0, 7, 1, 113, 0, 0, 0, 9] ∧ Below w.heap.size w w'
theorem hdput_any (g : Nat) (w : World) (he : MEnv w) (hr : Rd w w.heap.size 12 (some ⟨g, 0, none⟩) 3 3 (rowC saC hdL)) :
    Calls Tryd.prog 10 #[.agg #[.int .u8 8, .int .u8 1, .bool false, .slice (some ⟨g, 0, none⟩) 3 3]] w (HdPut w) := by
  have h := mput_any 8 1 false hdL [115, 98, 100] hdP (some ⟨g, 0, none⟩) 3 3 w he hr (by decide) (by decide) rfl (by omega) (by simp) (by omega) (by omega) (by
    intro i h
    unfold hdP
    repeat' split
    all_goals simp) (by
    intro i h h' base W A' n' c' l ho hb hn
    have hi : i = 0 ∨ i = 1 ∨ i = 2 := by simp [hdL] at h; omega
    rcases hi with rfl | rfl | rfl
    · exact put_s [113] base A' n' c' l W ho hb hn (by simp)
    · exact put_b true base A' n' c' l W ho hb hn
    · exact put_d 9 base A' n' c' l W ho hb hn (by omega))
  have hM : headM 8 1 false (flagsM hdL) ++ (List.range 3).flatMap hdP = [8, 1, 1, 0, 0, 7, 1, 113, 0, 0, 0, 9] := by decide
  rw [hM] at h
  exact h
set_option maxRecDepth 20000 in
set_option maxHeartbeats 4000000 in
theorem mdhead_any (w : World) (he : MEnv w) : Calls Tryd.prog 9 #[] w fun e w' => e = .returned (.bool true) ∧ Below w.heap.size w w' := by
  have hl := own_lit (w := w) w.heap.size #[.bool true, .int .u64 0, .string ⟨#[113]⟩, .int .u32 0, .string ⟨#[]⟩, .string ⟨#[]⟩, .slice none 0 0, .int .u8 0, .int .u64 0, .string ⟨#[]⟩, .slice none 0 0, .slice none 0 0, .bool true, .int .u64 0, .string ⟨#[]⟩, .int .u32 0, .string ⟨#[]⟩, .string ⟨#[]⟩, .slice none 0 0, .int .u8 0, .int .u64 0, .string ⟨#[]⟩, .slice none 0 0, .slice none 0 0, .bool true, .int .u64 9, .string ⟨#[]⟩, .int .u32 0, .string ⟨#[]⟩, .string ⟨#[]⟩, .slice none 0 0, .int .u8 0, .int .u64 0, .string ⟨#[]⟩, .slice none 0 0, .slice none 0 0] 57 3 (Nat.le_refl _) (by simp [maxLen]) (size := 12) rfl (by omega)
  have hr : Rd (w.alloc (.cells #[.bool true, .int .u64 0, .string ⟨#[113]⟩, .int .u32 0, .string ⟨#[]⟩, .string ⟨#[]⟩, .slice none 0 0, .int .u8 0, .int .u64 0, .string ⟨#[]⟩, .slice none 0 0, .slice none 0 0, .bool true, .int .u64 0, .string ⟨#[]⟩, .int .u32 0, .string ⟨#[]⟩, .string ⟨#[]⟩, .slice none 0 0, .int .u8 0, .int .u64 0, .string ⟨#[]⟩, .slice none 0 0, .slice none 0 0, .bool true, .int .u64 9, .string ⟨#[]⟩, .int .u32 0, .string ⟨#[]⟩, .string ⟨#[]⟩, .slice none 0 0, .int .u8 0, .int .u64 0, .string ⟨#[]⟩, .slice none 0 0, .slice none 0 0] 57)) (w.alloc (.cells #[.bool true, .int .u64 0, .string ⟨#[113]⟩, .int .u32 0, .string ⟨#[]⟩, .string ⟨#[]⟩, .slice none 0 0, .int .u8 0, .int .u64 0, .string ⟨#[]⟩, .slice none 0 0, .slice none 0 0, .bool true, .int .u64 0, .string ⟨#[]⟩, .int .u32 0, .string ⟨#[]⟩, .string ⟨#[]⟩, .slice none 0 0, .int .u8 0, .int .u64 0, .string ⟨#[]⟩, .slice none 0 0, .slice none 0 0, .bool true, .int .u64 9, .string ⟨#[]⟩, .int .u32 0, .string ⟨#[]⟩, .string ⟨#[]⟩, .slice none 0 0, .int .u8 0, .int .u64 0, .string ⟨#[]⟩, .slice none 0 0, .slice none 0 0] 57)).heap.size 12 (some ⟨w.heap.size, 0, none⟩) 3 3 (rowC saC hdL) := hl.rd
  have hB1 := (Below.refl w.heap.size w).alloc (Nat.le_refl _) (.cells #[.bool true, .int .u64 0, .string ⟨#[113]⟩, .int .u32 0, .string ⟨#[]⟩, .string ⟨#[]⟩, .slice none 0 0, .int .u8 0, .int .u64 0, .string ⟨#[]⟩, .slice none 0 0, .slice none 0 0, .bool true, .int .u64 0, .string ⟨#[]⟩, .int .u32 0, .string ⟨#[]⟩, .string ⟨#[]⟩, .slice none 0 0, .int .u8 0, .int .u64 0, .string ⟨#[]⟩, .slice none 0 0, .slice none 0 0, .bool true, .int .u64 9, .string ⟨#[]⟩, .int .u32 0, .string ⟨#[]⟩, .string ⟨#[]⟩, .slice none 0 0, .int .u8 0, .int .u64 0, .string ⟨#[]⟩, .slice none 0 0, .slice none 0 0] 57)
  clear hl
  have hp := hdput_any w.heap.size (w.alloc (.cells #[.bool true, .int .u64 0, .string ⟨#[113]⟩, .int .u32 0, .string ⟨#[]⟩, .string ⟨#[]⟩, .slice none 0 0, .int .u8 0, .int .u64 0, .string ⟨#[]⟩, .slice none 0 0, .slice none 0 0, .bool true, .int .u64 0, .string ⟨#[]⟩, .int .u32 0, .string ⟨#[]⟩, .string ⟨#[]⟩, .slice none 0 0, .int .u8 0, .int .u64 0, .string ⟨#[]⟩, .slice none 0 0, .slice none 0 0, .bool true, .int .u64 9, .string ⟨#[]⟩, .int .u32 0, .string ⟨#[]⟩, .string ⟨#[]⟩, .slice none 0 0, .int .u8 0, .int .u64 0, .string ⟨#[]⟩, .slice none 0 0, .slice none 0 0] 57)) (he.on hB1) hr
  clear hr
  go_enter Tryd.func9, Tryd.ntmps9
  go_wp2_with (first | (with_reducible refine hold_append ?_) | (with_reducible refine hold_make ?_) | (with_reducible refine hold_copy ?_))
  refine hp.mono ?_
  rintro e w2 ⟨A2, c2, rfl, ho2, hB2⟩
  have hB2 := hB1.trans (hB2.mono hB1.size)
  clear hp hB1
  have hl := own_lit (w := w2) w2.heap.size #[.int .u8 5, .int .u8 1, .int .u8 1, .int .u8 1, .int .u8 0, .int .u8 0] 5 6 (Nat.le_refl _) (by simp [maxLen]) (size := 1) rfl (by omega)
  have hr : RdB (w2.alloc (.cells #[.int .u8 5, .int .u8 1, .int .u8 1, .int .u8 1, .int .u8 0, .int .u8 0] 5)) (w2.alloc (.cells #[.int .u8 5, .int .u8 1, .int .u8 1, .int .u8 1, .int .u8 0, .int .u8 0] 5)).heap.size (some ⟨w2.heap.size, 0, none⟩) 6 6 [5, 1, 1, 1, 0, 0] := hl.rd
  have hB3 := hB2.alloc hB2.size (.cells #[.int .u8 5, .int .u8 1, .int .u8 1, .int .u8 1, .int .u8 0, .int .u8 0] 5)
  have ho3 : OwnB (w2.alloc (.cells #[.int .u8 5, .int .u8 1, .int .u8 1, .int .u8 1, .int .u8 0, .int .u8 0] 5)) _ A2 12 c2 [8, 1, 1, 0, 0, 7, 1, 113, 0, 0, 0, 9] := ho2.alloc _
  clear hl
  have hp := mget51_any w2.heap.size _ (he.on hB3) hr
  clear hr hB2 ho2
  go_wp2_with (first | (with_reducible refine hold_append ?_) | (with_reducible refine hold_make ?_) | (with_reducible refine hold_copy ?_))
  refine hp.mono ?_
  rintro e w4 ⟨rfl, hB4⟩
  have ho4 := own_below ho3 hB4
  have hB4 := hB3.trans (hB4.mono hB3.size)
  clear hp ho3 hB3
  have hm := Box.new w4 #[.int .u8 5, .int .u8 1, .bool true, .slice none 0 0] 24
  have ho5 : OwnB (w4.alloc (.cells #[.int .u8 5, .int .u8 1, .bool true, .slice none 0 0] 24)) _ A2 12 c2 [8, 1, 1, 0, 0, 7, 1, 113, 0, 0, 0, 9] := ho4.alloc _
  have hB5 := hB4.alloc hB4.size (.cells #[.int .u8 5, .int .u8 1, .bool true, .slice none 0 0] 24)
  clear ho4 hB4
  go_upto_region 3 with fail
  obtain ⟨mb, hmb⟩ : ∃ m, m = w4.heap.size := ⟨_, rfl⟩
  rw [← hmb] at hm ⊢
  clear hmb
  generalize (w4.alloc (.cells #[.int .u8 5, .int .u8 1, .bool true, .slice none 0 0] 24)) = w5 at *
  have hl := own_lit (w := w5) w5.heap.size #[.int .u8 7, .int .u8 1] 5 2 (Nat.le_refl _) (by simp [maxLen]) (size := 1) rfl (by omega)
  have hr : RdB (w5.alloc (.cells #[.int .u8 7, .int .u8 1] 5)) (w5.alloc (.cells #[.int .u8 7, .int .u8 1] 5)).heap.size (some ⟨w5.heap.size, 0, none⟩) 2 2 [7, 1] := hl.rd
  have hB6 := hB5.alloc hB5.size (.cells #[.int .u8 7, .int .u8 1] 5)
  have ho6 : OwnB (w5.alloc (.cells #[.int .u8 7, .int .u8 1] 5)) _ A2 12 c2 [8, 1, 1, 0, 0, 7, 1, 113, 0, 0, 0, 9] := ho5.alloc _
  have hm6 := hm.alloc (.cells #[.int .u8 7, .int .u8 1] 5)
  have hp := mget71_any w5.heap.size _ (he.on hB6) hr
  clear hl hr ho5 hB5 hm
  go_wp2_with (first | (with_reducible refine hold_append ?_) | (with_reducible refine hold_make ?_) | (with_reducible refine hold_copy ?_))
  refine hp.mono ?_
  rintro e w7 ⟨rfl, hB7⟩
  have ho7 := own_below ho6 hB7
  have hm7 := hm6.below hB7
  have hB7 := hB6.trans (hB7.mono hB6.size)
  clear hp ho6 hB6 hm6
  have hm8 := hm7.alloc (.cells #[.int .u8 0, .int .u8 0, .bool false, .slice none 0 0] 24)
  have ho8 : OwnB (w7.alloc (.cells #[.int .u8 0, .int .u8 0, .bool false, .slice none 0 0] 24)) _ A2 12 c2 [8, 1, 1, 0, 0, 7, 1, 113, 0, 0, 0, 9] := ho7.alloc _
  have hB8 := hB7.alloc hB7.size (.cells #[.int .u8 0, .int .u8 0, .bool false, .slice none 0 0] 24)
  clear ho7 hB7 hm7
  go_upto_region 4 with fail
  generalize (w7.alloc (.cells #[.int .u8 0, .int .u8 0, .bool false, .slice none 0 0] 24)) = w8 at *
  have hkn := kinds_any 6 2 w8 (he.on hB8)
  have hf : findM 6 2 = some ⟨2, [115, 116, 97, 114, 116], [120, 98, 98]⟩ := by decide
  rw [hf] at hkn
  simp only [kindsO, Option.map_some, Option.getD_some, Option.isSome_some] at hkn
  clear hf
  go_wp2_with (first | (with_reducible refine hold_append ?_) | (with_reducible refine hold_make ?_) | (with_reducible refine hold_copy ?_))
  refine hkn.mono ?_
  rintro e w9 ⟨rfl, hB9⟩
  have ho9 := own_below ho8 hB9
  have hm9 := hm8.below hB9
  have hB9 := hB8.trans (hB9.mono hB8.size)
  clear ho8 hB8 hm8 hkn
  have hcv := run_str (P := Tryd.prog) Tryd.underlying25 Tryd.underlying9 Tryd.underlying5 ho9.rd
  have hq1 : ((str [8, 1, 1, 0, 0, 7, 1, 113, 0, 0, 0, 9]).toList == [8, 1, 1, 0, 0, 7, 1, 113, 0, 0, 0, 9]) = true := by rw [str_toList]; decide
  have hq2 : ((str [120, 98, 98]).toList == [120, 98, 98]) = true := by rw [str_toList]; decide
  have x0 := hm9.cell (j := 0) rfl
  have x2 := hm9.cell (j := 2) rfl
  clear ho9
  go_wp2_with (first | (with_reducible refine hold_append ?_) | (with_reducible refine hold_make ?_) | (with_reducible refine hold_copy ?_))
  go_ret
  exact ⟨rfl, hB9⟩
end Go.PH

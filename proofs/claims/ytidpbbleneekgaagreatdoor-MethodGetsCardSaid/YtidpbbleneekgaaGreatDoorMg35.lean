/- Texts laid together: MdHeadG. -/
import Derived.Test.YtidpbbleneekgaaGreatDoorMg34
set_option linter.all false
set_option linter.unusedSimpArgs false
set_option linter.unusedVariables false
section
/- The laws' head of methods, by the general contracts. -/
namespace Go.PH
open Go.RowKit Go.Proofs

def hgA : List Ag := [⟨true, 0, [113], xd0, [], vl0⟩, ⟨true, 0, [], xd0, [], vl0⟩, ⟨true, 9, [], xd0, [], vl0⟩]
def hgM : Mt := ⟨8, 1, false, hgA⟩
def hgM5 : Mt := ⟨5, 1, true, []⟩
theorem hgM_put : putM hgM = [8, 1, 1, 0, 0, 7, 1, 113, 0, 0, 0, 9] ∧ errM hgM = 0 := by constructor <;> kernel_rfl
theorem hgM5_get : GetM [5, 1, 1, 1, 0, 0] hgM5 0 := .inr (.inr ⟨by decide, by decide, .inl ⟨rfl, ⟨by decide, by decide, fun x hx => by cases hx⟩, by kernel_rfl, by kernel_rfl⟩⟩)
theorem hg71_get : GetM [7, 1] mt0 80 := .inr (.inl ⟨by decide, by decide, rfl, rfl⟩)
theorem hgput_any (g : Nat) (w : World) (he : MEnv w) (hT : UTabs w) (hr : Rd w w.heap.size 12 (some ⟨g, 0, none⟩) 3 3 (#[.bool true, .int .u64 0, .string ⟨#[113]⟩, .int .u32 0, .string ⟨#[]⟩, .string ⟨#[]⟩, .slice none 0 0, .int .u8 0, .int .u64 0, .string ⟨#[]⟩, .slice none 0 0, .slice none 0 0, .bool true, .int .u64 0, .string ⟨#[]⟩, .int .u32 0, .string ⟨#[]⟩, .string ⟨#[]⟩, .slice none 0 0, .int .u8 0, .int .u64 0, .string ⟨#[]⟩, .slice none 0 0, .slice none 0 0, .bool true, .int .u64 9, .string ⟨#[]⟩, .int .u32 0, .string ⟨#[]⟩, .string ⟨#[]⟩, .slice none 0 0, .int .u8 0, .int .u64 0, .string ⟨#[]⟩, .slice none 0 0, .slice none 0 0]).toList) (hg : g < w.heap.size) :
  Calls Tryz.prog 13 #[.agg #[.int .u8 8, .int .u8 1, .bool false, .slice (some ⟨g, 0, none⟩) 3 3]] w fun e w' => ∃ A2 c2, e = .returned (.tuple #[.slice A2 12 c2, .int .i64 0]) ∧ OwnB w' w.heap.size A2 12 c2 [8, 1, 1, 0, 0, 7, 1, 113, 0, 0, 0, 9] ∧ Below w.heap.size w w' := by
 have hz := RA.zero w (fun g => g < w.heap.size) true
 have hrm : RMw w hgM (some ⟨g, 0, none⟩) 3 := ⟨by decide, by decide, ⟨hgA.map (fun a => (a, ah0)), rfl, ⟨hr, fun _ k hk => by
  have e : g = k := by simpa [blk] using hk
  omega⟩, fun p hp => by
   obtain ⟨a, ha, rfl⟩ := List.mem_map.1 hp
   unfold hgA at ha
   simp only [List.mem_cons, List.not_mem_nil, or_false] at ha
   rcases ha with rfl | rfl | rfl
   ·exact ⟨by decide, by decide, hz.x, hz.q, hz.ok, hz.c, hz.v⟩
   ·exact ⟨by decide, by decide, hz.x, hz.q, hz.ok, hz.c, hz.v⟩
   ·exact ⟨by decide, by decide, hz.x, hz.q, hz.ok, hz.c, hz.v⟩⟩, by decide⟩
 have h := mput_all hgM (some ⟨g, 0, none⟩) 3 w he hT hrm
 unfold MPut at h
 rw [hgM_put.1, hgM_put.2] at h
 exact h
set_option maxRecDepth 20000 in
set_option maxHeartbeats 4000000 in
theorem mdheadG_any (w : World) (he : MEnv w) (hT : UTabs w) : Calls Tryz.prog 6 #[] w fun e w' => e = .returned (.bool true) ∧ Below w.heap.size w w' := by
 have hl := own_lit (w := w) w.heap.size #[.bool true, .int .u64 0, .string ⟨#[113]⟩, .int .u32 0, .string ⟨#[]⟩, .string ⟨#[]⟩, .slice none 0 0, .int .u8 0, .int .u64 0, .string ⟨#[]⟩, .slice none 0 0, .slice none 0 0, .bool true, .int .u64 0, .string ⟨#[]⟩, .int .u32 0, .string ⟨#[]⟩, .string ⟨#[]⟩, .slice none 0 0, .int .u8 0, .int .u64 0, .string ⟨#[]⟩, .slice none 0 0, .slice none 0 0, .bool true, .int .u64 9, .string ⟨#[]⟩, .int .u32 0, .string ⟨#[]⟩, .string ⟨#[]⟩, .slice none 0 0, .int .u8 0, .int .u64 0, .string ⟨#[]⟩, .slice none 0 0, .slice none 0 0] 52 3 (Nat.le_refl _) (by simp [maxLen]) (size := 12) rfl (by omega)
 have hr : Rd (w.alloc (.cells #[.bool true, .int .u64 0, .string ⟨#[113]⟩, .int .u32 0, .string ⟨#[]⟩, .string ⟨#[]⟩, .slice none 0 0, .int .u8 0, .int .u64 0, .string ⟨#[]⟩, .slice none 0 0, .slice none 0 0, .bool true, .int .u64 0, .string ⟨#[]⟩, .int .u32 0, .string ⟨#[]⟩, .string ⟨#[]⟩, .slice none 0 0, .int .u8 0, .int .u64 0, .string ⟨#[]⟩, .slice none 0 0, .slice none 0 0, .bool true, .int .u64 9, .string ⟨#[]⟩, .int .u32 0, .string ⟨#[]⟩, .string ⟨#[]⟩, .slice none 0 0, .int .u8 0, .int .u64 0, .string ⟨#[]⟩, .slice none 0 0, .slice none 0 0] 52)) (w.alloc (.cells #[.bool true, .int .u64 0, .string ⟨#[113]⟩, .int .u32 0, .string ⟨#[]⟩, .string ⟨#[]⟩, .slice none 0 0, .int .u8 0, .int .u64 0, .string ⟨#[]⟩, .slice none 0 0, .slice none 0 0, .bool true, .int .u64 0, .string ⟨#[]⟩, .int .u32 0, .string ⟨#[]⟩, .string ⟨#[]⟩, .slice none 0 0, .int .u8 0, .int .u64 0, .string ⟨#[]⟩, .slice none 0 0, .slice none 0 0, .bool true, .int .u64 9, .string ⟨#[]⟩, .int .u32 0, .string ⟨#[]⟩, .string ⟨#[]⟩, .slice none 0 0, .int .u8 0, .int .u64 0, .string ⟨#[]⟩, .slice none 0 0, .slice none 0 0] 52)).heap.size 12 (some ⟨w.heap.size, 0, none⟩) 3 3 (#[.bool true, .int .u64 0, .string ⟨#[113]⟩, .int .u32 0, .string ⟨#[]⟩, .string ⟨#[]⟩, .slice none 0 0, .int .u8 0, .int .u64 0, .string ⟨#[]⟩, .slice none 0 0, .slice none 0 0, .bool true, .int .u64 0, .string ⟨#[]⟩, .int .u32 0, .string ⟨#[]⟩, .string ⟨#[]⟩, .slice none 0 0, .int .u8 0, .int .u64 0, .string ⟨#[]⟩, .slice none 0 0, .slice none 0 0, .bool true, .int .u64 9, .string ⟨#[]⟩, .int .u32 0, .string ⟨#[]⟩, .string ⟨#[]⟩, .slice none 0 0, .int .u8 0, .int .u64 0, .string ⟨#[]⟩, .slice none 0 0, .slice none 0 0]).toList := hl.rd
 have hB1 := (Below.refl w.heap.size w).alloc (Nat.le_refl _) (.cells #[.bool true, .int .u64 0, .string ⟨#[113]⟩, .int .u32 0, .string ⟨#[]⟩, .string ⟨#[]⟩, .slice none 0 0, .int .u8 0, .int .u64 0, .string ⟨#[]⟩, .slice none 0 0, .slice none 0 0, .bool true, .int .u64 0, .string ⟨#[]⟩, .int .u32 0, .string ⟨#[]⟩, .string ⟨#[]⟩, .slice none 0 0, .int .u8 0, .int .u64 0, .string ⟨#[]⟩, .slice none 0 0, .slice none 0 0, .bool true, .int .u64 9, .string ⟨#[]⟩, .int .u32 0, .string ⟨#[]⟩, .string ⟨#[]⟩, .slice none 0 0, .int .u8 0, .int .u64 0, .string ⟨#[]⟩, .slice none 0 0, .slice none 0 0] 52)
 clear hl
 have hp := hgput_any w.heap.size (w.alloc (.cells #[.bool true, .int .u64 0, .string ⟨#[113]⟩, .int .u32 0, .string ⟨#[]⟩, .string ⟨#[]⟩, .slice none 0 0, .int .u8 0, .int .u64 0, .string ⟨#[]⟩, .slice none 0 0, .slice none 0 0, .bool true, .int .u64 0, .string ⟨#[]⟩, .int .u32 0, .string ⟨#[]⟩, .string ⟨#[]⟩, .slice none 0 0, .int .u8 0, .int .u64 0, .string ⟨#[]⟩, .slice none 0 0, .slice none 0 0, .bool true, .int .u64 9, .string ⟨#[]⟩, .int .u32 0, .string ⟨#[]⟩, .string ⟨#[]⟩, .slice none 0 0, .int .u8 0, .int .u64 0, .string ⟨#[]⟩, .slice none 0 0, .slice none 0 0] 52)) (he.on hB1) (hT.on hB1) hr (by simp)
 clear hr
 go_enter Tryz.func6, Tryz.ntmps6
 go_wp2_with (with_reducible refine h_A ?_)
 refine hp.mono ?_
 rintro e w2 ⟨A2, c2, rfl, ho2, hB2⟩
 have hB2 := hB1.trans (hB2.mono hB1.size)
 clear hp hB1
 have hl := own_lit (w := w2) w2.heap.size #[.int .u8 5, .int .u8 1, .int .u8 1, .int .u8 1, .int .u8 0, .int .u8 0] 5 6 (Nat.le_refl _) (by simp [maxLen]) (size := 1) rfl (by omega)
 have hr : RdB (w2.alloc (.cells #[.int .u8 5, .int .u8 1, .int .u8 1, .int .u8 1, .int .u8 0, .int .u8 0] 5)) (w2.alloc (.cells #[.int .u8 5, .int .u8 1, .int .u8 1, .int .u8 1, .int .u8 0, .int .u8 0] 5)).heap.size (some ⟨w2.heap.size, 0, none⟩) 6 6 [5, 1, 1, 1, 0, 0] := hl.rd
 have hB3 := hB2.alloc hB2.size (.cells #[.int .u8 5, .int .u8 1, .int .u8 1, .int .u8 1, .int .u8 0, .int .u8 0] 5)
 have ho3 : OwnB (w2.alloc (.cells #[.int .u8 5, .int .u8 1, .int .u8 1, .int .u8 1, .int .u8 0, .int .u8 0] 5)) _ A2 12 c2 [8, 1, 1, 0, 0, 7, 1, 113, 0, 0, 0, 9] := ho2.alloc _
 clear hl
 have hp := mget_any _ 6 6 _ _ (he.on hB3) (hT.on hB3) hr (by omega)
 clear hr hB2 ho2
 go_wp2_with (with_reducible refine h_A ?_)
 refine hp.mono ?_
 rintro e w4 ⟨m, A3, c3, er, rfl, hRM, hB4, hG⟩
 obtain ⟨e1, e2⟩ := hG.uniq hgM5_get
 subst e1 e2
 have ez : mtV hgM5 A3 c3 = #[.int .u8 5, .int .u8 1, .bool true, .slice A3 0 c3] := rfl
 rw [ez]
 clear ez hG hRM
 have ho4 := own_below ho3 hB4
 have hB4 := hB3.trans (hB4.mono hB3.size)
 clear hp ho3 hB3
 have hm := Box.new w4 #[.int .u8 5, .int .u8 1, .bool true, .slice A3 0 c3] 26
 have ho5 : OwnB (w4.alloc (.cells #[.int .u8 5, .int .u8 1, .bool true, .slice A3 0 c3] 26)) _ A2 12 c2 [8, 1, 1, 0, 0, 7, 1, 113, 0, 0, 0, 9] := ho4.alloc _
 have hB5 := hB4.alloc hB4.size (.cells #[.int .u8 5, .int .u8 1, .bool true, .slice A3 0 c3] 26)
 clear ho4 hB4
 go_upto_region 3 with fail
 obtain ⟨mb, hmb⟩ : ∃ m, m = w4.heap.size := ⟨_, rfl⟩
 rw [← hmb] at hm ⊢
 clear hmb
 generalize (w4.alloc (.cells #[.int .u8 5, .int .u8 1, .bool true, .slice A3 0 c3] 26)) = w5 at *
 have hl := own_lit (w := w5) w5.heap.size #[.int .u8 7, .int .u8 1] 5 2 (Nat.le_refl _) (by simp [maxLen]) (size := 1) rfl (by omega)
 have hr : RdB (w5.alloc (.cells #[.int .u8 7, .int .u8 1] 5)) (w5.alloc (.cells #[.int .u8 7, .int .u8 1] 5)).heap.size (some ⟨w5.heap.size, 0, none⟩) 2 2 [7, 1] := hl.rd
 have hB6 := hB5.alloc hB5.size (.cells #[.int .u8 7, .int .u8 1] 5)
 have ho6 : OwnB (w5.alloc (.cells #[.int .u8 7, .int .u8 1] 5)) _ A2 12 c2 [8, 1, 1, 0, 0, 7, 1, 113, 0, 0, 0, 9] := ho5.alloc _
 have hm6 := hm.alloc (.cells #[.int .u8 7, .int .u8 1] 5)
 have hp := mget_any _ 2 2 _ _ (he.on hB6) (hT.on hB6) hr (by omega)
 clear hl hr ho5 hB5 hm
 go_wp2_with (with_reducible refine h_A ?_)
 refine hp.mono ?_
 rintro e w7 ⟨m, A4, c4, er, rfl, hRM, hB7, hG⟩
 obtain ⟨e1, e2⟩ := hG.uniq hg71_get
 subst e1 e2
 have ez : mtV mt0 A4 c4 = #[.int .u8 0, .int .u8 0, .bool false, .slice A4 0 c4] := rfl
 rw [ez]
 clear ez hG hRM
 have ho7 := own_below ho6 hB7
 have hm7 := hm6.below hB7
 have hB7 := hB6.trans (hB7.mono hB6.size)
 clear hp ho6 hB6 hm6
 have hm8 := hm7.alloc (.cells #[.int .u8 0, .int .u8 0, .bool false, .slice A4 0 c4] 26)
 have ho8 : OwnB (w7.alloc (.cells #[.int .u8 0, .int .u8 0, .bool false, .slice A4 0 c4] 26)) _ A2 12 c2 [8, 1, 1, 0, 0, 7, 1, 113, 0, 0, 0, 9] := ho7.alloc _
 have hB8 := hB7.alloc hB7.size (.cells #[.int .u8 0, .int .u8 0, .bool false, .slice A4 0 c4] 26)
 clear ho7 hB7 hm7
 go_upto_region 4 with fail
 generalize (w7.alloc (.cells #[.int .u8 0, .int .u8 0, .bool false, .slice A4 0 c4] 26)) = w8 at *
 have hkn := kinds_any 6 2 w8 (he.on hB8)
 have hf : findM 6 2 = some ⟨2, [115, 116, 97, 114, 116], [120, 98, 98]⟩ := by decide
 rw [hf] at hkn
 simp only [kindsO, Option.map_some, Option.getD_some, Option.isSome_some] at hkn
 clear hf
 go_wp2_with (with_reducible refine h_A ?_)
 refine hkn.mono ?_
 rintro e w9 ⟨rfl, hB9⟩
 have ho9 := own_below ho8 hB9
 have hm9 := hm8.below hB9
 have hB9 := hB8.trans (hB9.mono hB8.size)
 clear ho8 hB8 hm8 hkn
 have hcv := run_str (P := Tryz.prog) Tryz.underlying22 Tryz.underlying9 Tryz.underlying5 ho9.rd
 have hq1 : ((str [8, 1, 1, 0, 0, 7, 1, 113, 0, 0, 0, 9]).toList == [8, 1, 1, 0, 0, 7, 1, 113, 0, 0, 0, 9]) = true := by rw [str_toList]; decide
 have hq2 : ((str [120, 98, 98]).toList == [120, 98, 98]) = true := by rw [str_toList]; decide
 have x0 := hm9.c0
 have x2 := hm9.c2
 clear ho9
 go_wp2_with (with_reducible refine h_A ?_)
 go_ret
 exact ⟨rfl, hB9⟩
end Go.PH
end

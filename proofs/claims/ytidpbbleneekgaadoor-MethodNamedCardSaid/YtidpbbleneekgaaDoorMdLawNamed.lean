/- The laws MethodNamed, MethodLeads, walked. -/
import Derived.Test.YtidpbbleneekgaaDoorMdLawTable
set_option linter.all false
set_option linter.unusedSimpArgs false
set_option linter.unusedVariables false
namespace Go.PH
open Go.RowKit Go.Proofs

set_option maxRecDepth 20000 in
set_option maxHeartbeats 2000000 in
theorem law_MethodNamed (s : List UInt8) (w : World) (he : MEnv w) :
    Calls Tryd.prog 6 #[.string (str s)] w fun e w' => e = .returned (.bool true) ∧ Below w.heap.size w w' := by
  have hrf := rnamed_any s w
  have hnm := fun W (hW : Below w.heap.size w W) => named_any s W (he.on hW)
  have hnr := named_ref s
  cases hf : refNamed s with
  | none =>
    rw [hf] at hnr hrf
    simp only [Option.map_none] at hnr
    simp only [hnr, namedC, namedK, Option.map_none, Option.getD_none, Option.isSome_none] at hnm
    unfold RFindR at hrf
    simp only [Option.getD_none, Option.isSome_none, rrV, rr0] at hrf
    clear hf hnr
    obtain ⟨zr, hzr⟩ : ∃ z : Int, z = ((0 : Nat) : Int) := ⟨_, rfl⟩
    rw [← hzr] at hrf
    rw [← hzr] at hnm
    clear hzr
    go_enter Tryd.func6, Tryd.ntmps6
    go_wp2_with (first | (with_reducible refine hold_append ?_) | (with_reducible refine hold_make ?_) | (with_reducible refine hold_copy ?_))
    refine hrf.mono ?_
    rintro e w1 ⟨rfl, hB1⟩
    have hb1 := Box.new w1 #[.int .u8 zr, .int .u8 zr, .string (str []), .string (str [])] 36
    have hB2 := hB1.alloc hB1.size (.cells #[.int .u8 zr, .int .u8 zr, .string (str []), .string (str [])] 36)
    clear hrf hB1
    go_upto_region 2 with fail
    obtain ⟨rb, hrb⟩ : ∃ m, m = w1.heap.size := ⟨_, rfl⟩
    rw [← hrb] at hb1 ⊢
    clear hrb
    generalize (w1.alloc (.cells #[.int .u8 zr, .int .u8 zr, .string (str []), .string (str [])] 36)) = w2 at *
    have hnm2 := hnm w2 hB2
    go_wp2_with (first | (with_reducible refine hold_append ?_) | (with_reducible refine hold_make ?_) | (with_reducible refine hold_copy ?_))
    refine hnm2.mono ?_
    rintro e w4 ⟨rfl, hB4⟩
    have hb4 := hb1.below hB4
    have hB4 := hB2.trans (hB4.mono hB2.size)
    clear hnm hnm2 hb1 hB2
    have x0 := hb4.cell (j := 0) rfl
    have x1 := hb4.cell (j := 1) rfl
    have x2 := hb4.cell (j := 2) rfl
    have x3 := hb4.cell (j := 3) rfl
    go_wp2_with (first | (with_reducible refine hold_append ?_) | (with_reducible refine hold_make ?_) | (with_reducible refine hold_copy ?_))
    refine (mdhead_any _ (he.on hB4)).mono ?_
    rintro e w9 ⟨rfl, hB9⟩
    go_wp2_with (first | (with_reducible refine hold_append ?_) | (with_reducible refine hold_make ?_) | (with_reducible refine hold_copy ?_))
    go_ret
    exact ⟨rfl, hB4.trans (hB9.mono hB4.size)⟩
  | some r =>
    rw [hf] at hnr hrf
    simp only [Option.map_some] at hnr
    simp only [hnr, namedC, namedK, Option.map_some, Option.getD_some, Option.isSome_some] at hnm
    unfold RFindR at hrf
    simp only [Option.getD_some, Option.isSome_some, rrV] at hrf
    clear hf hnr
    obtain ⟨rc, rk, rn, rd⟩ := r
    simp only at hrf hnm
    go_enter Tryd.func6, Tryd.ntmps6
    go_wp2_with (first | (with_reducible refine hold_append ?_) | (with_reducible refine hold_make ?_) | (with_reducible refine hold_copy ?_))
    refine hrf.mono ?_
    rintro e w1 ⟨rfl, hB1⟩
    have hb1 := Box.new w1 #[.int .u8 (rc : Int), .int .u8 (rk : Int), .string (str rn), .string (str rd)] 36
    have hB2 := hB1.alloc hB1.size (.cells #[.int .u8 (rc : Int), .int .u8 (rk : Int), .string (str rn), .string (str rd)] 36)
    clear hrf hB1
    go_upto_region 2 with fail
    obtain ⟨rb, hrb⟩ : ∃ m, m = w1.heap.size := ⟨_, rfl⟩
    rw [← hrb] at hb1 ⊢
    clear hrb
    generalize (w1.alloc (.cells #[.int .u8 (rc : Int), .int .u8 (rk : Int), .string (str rn), .string (str rd)] 36)) = w2 at *
    have hnm2 := hnm w2 hB2
    go_wp2_with (first | (with_reducible refine hold_append ?_) | (with_reducible refine hold_make ?_) | (with_reducible refine hold_copy ?_))
    refine hnm2.mono ?_
    rintro e w4 ⟨rfl, hB4⟩
    have hb4 := hb1.below hB4
    have hB4 := hB2.trans (hB4.mono hB2.size)
    clear hnm hnm2 hb1 hB2
    have x0 := hb4.cell (j := 0) rfl
    have x1 := hb4.cell (j := 1) rfl
    have x2 := hb4.cell (j := 2) rfl
    have x3 := hb4.cell (j := 3) rfl
    go_wp2_with (first | (with_reducible refine hold_append ?_) | (with_reducible refine hold_make ?_) | (with_reducible refine hold_copy ?_))
    refine (mdhead_any _ (he.on hB4)).mono ?_
    rintro e w9 ⟨rfl, hB9⟩
    go_wp2_with (first | (with_reducible refine hold_append ?_) | (with_reducible refine hold_make ?_) | (with_reducible refine hold_copy ?_))
    go_ret
    exact ⟨rfl, hB4.trans (hB9.mono hB4.size)⟩
set_option maxRecDepth 20000 in
set_option maxHeartbeats 2000000 in
theorem law_MethodLeads (c k : Nat) (w : World) (he : MEnv w) :
    Calls Tryd.prog 7 #[.int .u8 (c : Int), .int .u8 (k : Int)] w fun e w' => e = .returned (.bool true) ∧ Below w.heap.size w w' := by
  have hB0 := Below.refl w.heap.size w
  have hkn := fun W (hW : Below w.heap.size w W) => kinds_any c k W (he.on hW)
  have hnm := mname_any c k w he
  cases hf : findM c k with
  | none =>
    have hn : nameM c k = none := by unfold nameM; rw [hf]; rfl
    have hno : nameO c k = [] := by unfold nameO; rw [hn]; rfl
    simp only [hf, hn, hno, kindsO, Option.map_none, Option.getD_none, Option.isSome_none] at hkn hnm
    clear hf hn hno
    have hem : (str ([] : List UInt8)).toList.isEmpty = true := by rw [str_toList]; rfl
    go_enter Tryd.func7, Tryd.ntmps7
    go_wp2_with (first | (with_reducible refine hold_append ?_) | (with_reducible refine hold_make ?_) | (with_reducible refine hold_copy ?_))
    refine hnm.mono ?_
    rintro e w1 ⟨rfl, hB1⟩
    have hkn1 := hkn w1 hB1
    clear hkn hnm
    go_wp2_with (first | (with_reducible refine hold_append ?_) | (with_reducible refine hold_make ?_) | (with_reducible refine hold_copy ?_))
    refine hkn1.mono ?_
    rintro e w2 ⟨rfl, hB2⟩
    have hB2 := hB1.trans (hB2.mono hB1.size)
    clear hkn1 hB1
    go_wp2_with (first | (with_reducible refine hold_append ?_) | (with_reducible refine hold_make ?_) | (with_reducible refine hold_copy ?_))
    refine (mdhead_any _ (he.on hB2)).mono ?_
    rintro e w9 ⟨rfl, hB9⟩
    go_wp2_with (first | (with_reducible refine hold_append ?_) | (with_reducible refine hold_make ?_) | (with_reducible refine hold_copy ?_))
    go_ret
    exact ⟨rfl, hB2.trans (hB9.mono hB2.size)⟩
  | some r =>
    have hn : nameM c k = some (clsWord c ++ [46] ++ r.word) := by unfold nameM; rw [hf]; rfl
    have hno : nameO c k = clsWord c ++ [46] ++ r.word := by unfold nameO; rw [hn]; rfl
    have hl := leads_back hn
    have hna := fun W (hW : Below w.heap.size w W) => named_any (clsWord c ++ [46] ++ r.word) W (he.on hW)
    simp only [hl, namedC, namedK, Option.map_some, Option.getD_some, Option.isSome_some] at hna
    simp only [hf, hn, hno, kindsO, Option.map_some, Option.getD_some, Option.isSome_some] at hkn hnm
    clear hf hn hno hl
    generalize clsWord c ++ [46] ++ r.word = nm at *
    generalize r.kinds = kd at *
    go_enter Tryd.func7, Tryd.ntmps7
    go_wp2_with (first | (with_reducible refine hold_append ?_) | (with_reducible refine hold_make ?_) | (with_reducible refine hold_copy ?_))
    refine hnm.mono ?_
    rintro e w1 ⟨rfl, hB1⟩
    have hkn1 := hkn w1 hB1
    clear hkn hnm
    go_wp2_with (first | (with_reducible refine hold_append ?_) | (with_reducible refine hold_make ?_) | (with_reducible refine hold_copy ?_))
    refine hkn1.mono ?_
    rintro e w2 ⟨rfl, hB2⟩
    have hB2 := hB1.trans (hB2.mono hB1.size)
    clear hkn1 hB1
    have hna2 := hna w2 hB2
    clear hna
    go_wp2_with (first | (with_reducible refine hold_append ?_) | (with_reducible refine hold_make ?_) | (with_reducible refine hold_copy ?_))
    refine hna2.mono ?_
    rintro e w3 ⟨rfl, hB3⟩
    have hB3 := hB2.trans (hB3.mono hB2.size)
    clear hna2 hB2
    go_wp2_with (first | (with_reducible refine hold_append ?_) | (with_reducible refine hold_make ?_) | (with_reducible refine hold_copy ?_))
    refine (mdhead_any _ (he.on hB3)).mono ?_
    rintro e w9 ⟨rfl, hB9⟩
    go_wp2_with (first | (with_reducible refine hold_append ?_) | (with_reducible refine hold_make ?_) | (with_reducible refine hold_copy ?_))
    go_ret
    exact ⟨rfl, hB3.trans (hB9.mono hB3.size)⟩
end Go.PH

/- The laws MethodTable, MethodNamed, MethodLeads, walked. -/
import Derived.Test.YtidpbbleneekgaaDoorMdHead
import Derived.Test.YtidpbbleneekgaaDoorMdRef
set_option linter.all false
set_option linter.unusedSimpArgs false
set_option linter.unusedVariables false
namespace Go.PH
open Go.RowKit Go.Proofs

theorem str_same (l : List UInt8) : ((str l).toList == (str l).toList) = true := by simp
set_option maxRecDepth 20000 in
set_option maxHeartbeats 2000000 in
theorem law_MethodTable (c k : Nat) (w : World) (he : MEnv w) :
    Calls Tryd.prog 5 #[.int .u8 (c : Int), .int .u8 (k : Int)] w fun e w' => e = .returned (.bool true) ∧ Below w.heap.size w w' := by
  have hrf := rfind_any c k w
  have hkn := fun W (hW : Below w.heap.size w W) => kinds_any c k W (he.on hW)
  have hnm := fun W (hW : Below w.heap.size w W) => mname_any c k W (he.on hW)
  have hrr := ref_find c k
  cases hf : findM c k with
  | none =>
    have hn : nameM c k = none := by unfold nameM; rw [hf]; rfl
    have hno : nameO c k = [] := by unfold nameO; rw [hn]; rfl
    rw [hf] at hrr
    simp only [Option.map_none] at hrr
    rw [hrr] at hrf
    simp only [hf, hn, hno, kindsO, Option.map_none, Option.getD_none, Option.isSome_none] at hkn hnm
    unfold RFindR at hrf
    simp only [Option.getD_none, Option.isSome_none, rrV, rr0] at hrf
    clear hf hn hno hrr
    have hq := str_same []
    obtain ⟨zr, hzr⟩ : ∃ z : Int, z = ((0 : Nat) : Int) := ⟨_, rfl⟩
    rw [← hzr] at hrf
    clear hzr
    go_enter Tryd.func5, Tryd.ntmps5
    go_wp2_with (first | (with_reducible refine hold_append ?_) | (with_reducible refine hold_make ?_) | (with_reducible refine hold_copy ?_))
    refine hrf.mono ?_
    rintro e w1 ⟨rfl, hB1⟩
    have hb1 := Box.new w1 #[.int .u8 zr, .int .u8 zr, .string (str []), .string (str [])] 36
    have hB2 := hB1.alloc hB1.size (.cells #[.int .u8 zr, .int .u8 zr, .string (str []), .string (str [])] 36)
    clear hrf hB1
    go_upto_region 2 with fail
    obtain ⟨rb, hrb⟩ : ∃ m, m = w1.heap.size := ⟨_, rfl⟩
    rw [← hrb] at hb1 ⊢
    clear hrb
    generalize (w1.alloc (.cells #[.int .u8 zr, .int .u8 zr, .string (str []), .string (str [])] 36)) = w2 at *
    have hkn2 := hkn w2 hB2
    go_wp2_with (first | (with_reducible refine hold_append ?_) | (with_reducible refine hold_make ?_) | (with_reducible refine hold_copy ?_))
    refine hkn2.mono ?_
    rintro e w3 ⟨rfl, hB3⟩
    have hb3 := hb1.below hB3
    have hB3 := hB2.trans (hB3.mono hB2.size)
    clear hkn hkn2 hb1 hB2
    have hnm3 := hnm w3 hB3
    go_wp2_with (first | (with_reducible refine hold_append ?_) | (with_reducible refine hold_make ?_) | (with_reducible refine hold_copy ?_))
    refine hnm3.mono ?_
    rintro e w4 ⟨rfl, hB4⟩
    have hb4 := hb3.below hB4
    have hB4 := hB3.trans (hB4.mono hB3.size)
    clear hnm hnm3 hb3 hB3
    have x0 := hb4.cell (j := 0) rfl
    have x1 := hb4.cell (j := 1) rfl
    have x2 := hb4.cell (j := 2) rfl
    have x3 := hb4.cell (j := 3) rfl
    go_wp2_with (first | (with_reducible refine hold_append ?_) | (with_reducible refine hold_make ?_) | (with_reducible refine hold_copy ?_))
    refine (mdhead_any _ (he.on hB4)).mono ?_
    rintro e w9 ⟨rfl, hB9⟩
    go_wp2_with (first | (with_reducible refine hold_append ?_) | (with_reducible refine hold_make ?_) | (with_reducible refine hold_copy ?_))
    go_ret
    exact ⟨rfl, hB4.trans (hB9.mono hB4.size)⟩
  | some r =>
    have hn : nameM c k = some (clsWord c ++ [46] ++ r.word) := by unfold nameM; rw [hf]; rfl
    have hno : nameO c k = clsWord c ++ [46] ++ r.word := by unfold nameO; rw [hn]; rfl
    rw [hf] at hrr
    simp only [Option.map_some] at hrr
    rw [hrr] at hrf
    simp only [hf, hn, hno, kindsO, Option.map_some, Option.getD_some, Option.isSome_some] at hkn hnm
    unfold RFindR at hrf
    simp only [Option.getD_some, Option.isSome_some, rrV] at hrf
    clear hf hn hno hrr
    have hq := str_same (clsWord c ++ [46] ++ r.word)
    have hq2 := str_same r.kinds
    generalize clsWord c ++ [46] ++ r.word = nm at *
    generalize r.kinds = kd at *
    generalize r.code = cd at *
    go_enter Tryd.func5, Tryd.ntmps5
    go_wp2_with (first | (with_reducible refine hold_append ?_) | (with_reducible refine hold_make ?_) | (with_reducible refine hold_copy ?_))
    refine hrf.mono ?_
    rintro e w1 ⟨rfl, hB1⟩
    have hb1 := Box.new w1 #[.int .u8 (c : Int), .int .u8 (cd : Int), .string (str nm), .string (str kd)] 36
    have hB2 := hB1.alloc hB1.size (.cells #[.int .u8 (c : Int), .int .u8 (cd : Int), .string (str nm), .string (str kd)] 36)
    clear hrf hB1
    go_upto_region 2 with fail
    obtain ⟨rb, hrb⟩ : ∃ m, m = w1.heap.size := ⟨_, rfl⟩
    rw [← hrb] at hb1 ⊢
    clear hrb
    generalize (w1.alloc (.cells #[.int .u8 (c : Int), .int .u8 (cd : Int), .string (str nm), .string (str kd)] 36)) = w2 at *
    have hkn2 := hkn w2 hB2
    go_wp2_with (first | (with_reducible refine hold_append ?_) | (with_reducible refine hold_make ?_) | (with_reducible refine hold_copy ?_))
    refine hkn2.mono ?_
    rintro e w3 ⟨rfl, hB3⟩
    have hb3 := hb1.below hB3
    have hB3 := hB2.trans (hB3.mono hB2.size)
    clear hkn hkn2 hb1 hB2
    have hnm3 := hnm w3 hB3
    go_wp2_with (first | (with_reducible refine hold_append ?_) | (with_reducible refine hold_make ?_) | (with_reducible refine hold_copy ?_))
    refine hnm3.mono ?_
    rintro e w4 ⟨rfl, hB4⟩
    have hb4 := hb3.below hB4
    have hB4 := hB3.trans (hB4.mono hB3.size)
    clear hnm hnm3 hb3 hB3
    have x0 := hb4.cell (j := 0) rfl
    have x1 := hb4.cell (j := 1) rfl
    have x2 := hb4.cell (j := 2) rfl
    have x3 := hb4.cell (j := 3) rfl
    go_wp2_with (first | (with_reducible refine hold_append ?_) | (with_reducible refine hold_make ?_) | (with_reducible refine hold_copy ?_))
    refine (mdhead_any _ (he.on hB4)).mono ?_
    rintro e w9 ⟨rfl, hB9⟩
    go_wp2_with (first | (with_reducible refine hold_append ?_) | (with_reducible refine hold_make ?_) | (with_reducible refine hold_copy ?_))
    go_ret
    exact ⟨rfl, hB4.trans (hB9.mono hB4.size)⟩
end Go.PH

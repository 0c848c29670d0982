/- XidParses: for every text of at most 4294967280 bytes the law returns true and writes nothing that was there. Condition: the listed variables read as listed. -/
import Derived.Test.YtokfnonjmacpgaaDoorXdHead
import Derived.Test.YtokfnonjmacpgaaDoorXdRefParse
set_option linter.all false
set_option linter.unusedSimpArgs false
set_option linter.unusedVariables false
namespace Go.PH
open Go.RowKit Go.Proofs

set_option maxRecDepth 20000 in
set_option maxHeartbeats 4000000 in
theorem law_XidParses (l : List UInt8) (w : World) (hl : l.length < 4294967281) (he : XEnv w) :
    Calls Tryd.prog 3 #[.string (str l)] w fun e w' => e = .returned (.bool true) ∧ Below w.heap.size w w' := by
  have hg := parse_any l w hl he
  have hrg := fun W => rparse_any l W (by omega)
  have h8 := he.lt
  have heq := fun W => xid_eql (parseR l).1 (parseR l).1 W
  rw [decide_eq_true rfl] at heq
  generalize (parseR l).2 = er at *
  generalize (parseR l).1 = x at *
  obtain ⟨f, s, t⟩ := x
  unfold xdV at *
  simp only at hg hrg heq
  go_enter Tryd.func3, Tryd.ntmps3
  go_wp2_with (first | (with_reducible refine hold_append ?_) | (with_reducible refine hold_make ?_) | (with_reducible refine hold_copy ?_))
  refine hg.mono ?_
  rintro e w1 ⟨rfl, hB1⟩
  have hb1 : Box (w1.alloc (.cells #[.int .u32 (f : Int), .string (str s), .string (str t)] 24)) w1.heap.size 24 #[.int .u32 (f : Int), .string (str s), .string (str t)] := Box.new _ _ _
  have hB1' := hB1.alloc hB1.size (.cells #[.int .u32 (f : Int), .string (str s), .string (str t)] 24)
  clear hg
  go_wp2_with (first | (with_reducible refine hold_append ?_) | (with_reducible refine hold_make ?_) | (with_reducible refine hold_copy ?_))
  refine (hrg _).mono ?_
  rintro e w2 ⟨rfl, hB2⟩
  have hb2 := hb1.below hB2
  have hB12 := hB1'.trans (hB2.mono hB1'.size)
  have hb3 := hb2.alloc (.cells #[.int .u32 (f : Int), .string (str s), .string (str t)] 24)
  have hb4 : Box (w2.alloc (.cells #[.int .u32 (f : Int), .string (str s), .string (str t)] 24)) w2.heap.size 24 #[.int .u32 (f : Int), .string (str s), .string (str t)] := Box.new _ _ _
  have hB4 := hB12.alloc hB12.size (.cells #[.int .u32 (f : Int), .string (str s), .string (str t)] 24)
  clear hrg hb1 hB1 hB1' hb2 hB2 hB12
  have k0 := hb3.cell (j := 0) rfl
  have k1 := hb3.cell (j := 1) rfl
  have k2 := hb3.cell (j := 2) rfl
  have j0 := hb4.cell (j := 0) rfl
  have j1 := hb4.cell (j := 1) rfl
  have j2 := hb4.cell (j := 2) rfl
  have hqe : ((er : Int) == (er : Int)) = true := by simp
  have hh := head_any _ (he.below hB4 h8 hB4.size)
  go_wp2_with (first | (with_reducible refine hold_append ?_) | (with_reducible refine hold_make ?_) | (with_reducible refine hold_copy ?_))
  refine hh.mono ?_
  rintro e w5 ⟨rfl, hB5⟩
  have hB05 := hB4.trans (hB5.mono hB4.size)
  clear hb3 hb4 k0 k1 k2 j0 j1 j2
  go_wp2_with (first | (with_reducible refine hold_append ?_) | (with_reducible refine hold_make ?_) | (with_reducible refine hold_copy ?_))
  go_ret
  exact ⟨rfl, hB05⟩
end Go.PH

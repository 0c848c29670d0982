/- Texts laid together: VlCheckR. -/
import Derived.Test.YtidpbbleneekgaaGreatDoorMg10
import Derived.Test.YtidpbbleneekgaaGreatDoorMg14
import Derived.Test.YtidpbbleneekgaaGreatDoorMg16
section
/- Whether a value may be: the walk of the document's Check. -/
set_option linter.all false
set_option linter.unusedSimpArgs false
set_option linter.unusedVariables false
namespace Go.PH
open Go.RowKit Go.Proofs

set_option maxRecDepth 20000 in
theorem rvcheck_any (v : Vl) (h : VH) (w : World) (hv : RVw w v h) : Calls Tryz.prog 96 #[.agg (vlV v h)] w fun e w' => e = .returned (.int .i64 (errV v)) ∧ Below w.heap.size w w' := by
  obtain ⟨xb, w1, hxb, hxv, hX, hB1⟩ := alloc_stepV w #[.int .u8 (v.kind : Int), .int .u64 (v.n : Int), .string (str v.s), .slice h.A1 v.keys.length h.c1, .slice h.A2 v.list.length h.c2] 50
  have hv1 := hv.up hB1
  have hd := rdeep_any v h 6 w1 hv1 (by omega) trivial
  have hc := fun W (hW : Below w1.heap.size w1 W) => rleft_any v h 200 W (hv1.up hW) (by omega) (by omega)
  have hm := fun W (hW : Below w1.heap.size w1 W) => rmay_any v h W (hv1.up hW)
  unfold DeepR' at hd
  unfold CntR at hc
  unfold MayR at hm
  unfold vlV at hd hc hm ⊢
  obtain ⟨r, hr⟩ : ∃ r, r = errV v := ⟨_, rfl⟩
  rw [← hr]
  unfold errV at hr
  generalize deepV 6 v = d at *
  generalize cntV v 200 = q at *
  generalize mayV utf8B v = y at *
  have c0 := hX.cell (j := 0) rfl
  have c1 := hX.cell (j := 1) rfl
  have c2 := hX.cell (j := 2) rfl
  have c3 := hX.cell (j := 3) rfl
  have c4 := hX.cell (j := 4) rfl
  have HC := Lib.hid hc
  have HM := Lib.hid hm
  clear hv hv1 hc hm
  rw [show ((6 : Nat) : Int) = 6 from rfl] at hd
  cases d
  · by_cases hq : q < 0
    · obtain rfl : r = 3 := by rw [hr]; simp [hq]
      clear hr HM
      go_enter Tryz.func96, Tryz.ntmps96
      go_upto_region 1 with fail
      rw [← hxb, ← hxv]
      clear hxb hxv
      go_wp2_with (first | (with_reducible refine hold_append ?_) | (with_reducible refine hold_make ?_) | (with_reducible refine hold_copy ?_))
      refine hd.mono ?_
      rintro e w2 ⟨rfl, hB2⟩
      have hc := HC.out w2 hB2
      have hX2 := hX.below hB2
      clear c0 c1 c2 c3 c4 hX
      have c0 := hX2.cell (j := 0) rfl
      have c1 := hX2.cell (j := 1) rfl
      have c2 := hX2.cell (j := 2) rfl
      have c3 := hX2.cell (j := 3) rfl
      have c4 := hX2.cell (j := 4) rfl
      clear hd HC
      go_wp2_with (first | (with_reducible refine hold_append ?_) | (with_reducible refine hold_make ?_) | (with_reducible refine hold_copy ?_))
      refine hc.mono ?_
      rintro e w3 ⟨rfl, hB3⟩
      go_wp2_with (first | (with_reducible refine hold_append ?_) | (with_reducible refine hold_make ?_) | (with_reducible refine hold_copy ?_))
      go_ret
      exact ⟨rfl, hB1.trans ((hB2.mono hB1.size).trans (hB3.mono (Nat.le_trans hB1.size hB2.size)))⟩
    · cases y
      · obtain rfl : r = 50 := by rw [hr]; simp [hq]
        clear hr
        go_enter Tryz.func96, Tryz.ntmps96
        go_upto_region 1 with fail
        rw [← hxb, ← hxv]
        clear hxb hxv
        go_wp2_with (first | (with_reducible refine hold_append ?_) | (with_reducible refine hold_make ?_) | (with_reducible refine hold_copy ?_))
        refine hd.mono ?_
        rintro e w2 ⟨rfl, hB2⟩
        have hc := HC.out w2 hB2
        have hX2 := hX.below hB2
        clear c0 c1 c2 c3 c4 hX
        have c0 := hX2.cell (j := 0) rfl
        have c1 := hX2.cell (j := 1) rfl
        have c2 := hX2.cell (j := 2) rfl
        have c3 := hX2.cell (j := 3) rfl
        have c4 := hX2.cell (j := 4) rfl
        clear hd HC
        go_wp2_with (first | (with_reducible refine hold_append ?_) | (with_reducible refine hold_make ?_) | (with_reducible refine hold_copy ?_))
        refine hc.mono ?_
        rintro e w3 ⟨rfl, hB3⟩
        have hB23 := hB2.trans (hB3.mono hB2.size)
        have hm := HM.out w3 hB23
        have hX3 := hX2.below hB3
        clear hc hB3 c0 c1 c2 c3 c4 HM
        have c0 := hX3.cell (j := 0) rfl
        have c1 := hX3.cell (j := 1) rfl
        have c2 := hX3.cell (j := 2) rfl
        have c3 := hX3.cell (j := 3) rfl
        have c4 := hX3.cell (j := 4) rfl
        go_wp2_with (first | (with_reducible refine hold_append ?_) | (with_reducible refine hold_make ?_) | (with_reducible refine hold_copy ?_))
        refine hm.mono ?_
        rintro e w4 ⟨rfl, hB4⟩
        go_wp2_with (first | (with_reducible refine hold_append ?_) | (with_reducible refine hold_make ?_) | (with_reducible refine hold_copy ?_))
        go_ret
        exact ⟨rfl, hB1.trans ((hB23.trans (hB4.mono hB23.size)).mono hB1.size)⟩
      · obtain rfl : r = 0 := by rw [hr]; simp [hq]
        clear hr
        go_enter Tryz.func96, Tryz.ntmps96
        go_upto_region 1 with fail
        rw [← hxb, ← hxv]
        clear hxb hxv
        go_wp2_with (first | (with_reducible refine hold_append ?_) | (with_reducible refine hold_make ?_) | (with_reducible refine hold_copy ?_))
        refine hd.mono ?_
        rintro e w2 ⟨rfl, hB2⟩
        have hc := HC.out w2 hB2
        have hX2 := hX.below hB2
        clear c0 c1 c2 c3 c4 hX
        have c0 := hX2.cell (j := 0) rfl
        have c1 := hX2.cell (j := 1) rfl
        have c2 := hX2.cell (j := 2) rfl
        have c3 := hX2.cell (j := 3) rfl
        have c4 := hX2.cell (j := 4) rfl
        clear hd HC
        go_wp2_with (first | (with_reducible refine hold_append ?_) | (with_reducible refine hold_make ?_) | (with_reducible refine hold_copy ?_))
        refine hc.mono ?_
        rintro e w3 ⟨rfl, hB3⟩
        have hB23 := hB2.trans (hB3.mono hB2.size)
        have hm := HM.out w3 hB23
        have hX3 := hX2.below hB3
        clear hc hB3 c0 c1 c2 c3 c4 HM
        have c0 := hX3.cell (j := 0) rfl
        have c1 := hX3.cell (j := 1) rfl
        have c2 := hX3.cell (j := 2) rfl
        have c3 := hX3.cell (j := 3) rfl
        have c4 := hX3.cell (j := 4) rfl
        go_wp2_with (first | (with_reducible refine hold_append ?_) | (with_reducible refine hold_make ?_) | (with_reducible refine hold_copy ?_))
        refine hm.mono ?_
        rintro e w4 ⟨rfl, hB4⟩
        go_wp2_with (first | (with_reducible refine hold_append ?_) | (with_reducible refine hold_make ?_) | (with_reducible refine hold_copy ?_))
        go_ret
        exact ⟨rfl, hB1.trans ((hB23.trans (hB4.mono hB23.size)).mono hB1.size)⟩
  · obtain rfl : r = 51 := by rw [hr]; simp
    clear hr HC HM
    go_enter Tryz.func96, Tryz.ntmps96
    go_upto_region 1 with fail
    rw [← hxb, ← hxv]
    clear hxb hxv
    go_wp2_with (first | (with_reducible refine hold_append ?_) | (with_reducible refine hold_make ?_) | (with_reducible refine hold_copy ?_))
    refine hd.mono ?_
    rintro e w2 ⟨rfl, hB2⟩
    go_wp2_with (first | (with_reducible refine hold_append ?_) | (with_reducible refine hold_make ?_) | (with_reducible refine hold_copy ?_))
    go_ret
    exact ⟨rfl, hB1.trans (hB2.mono hB1.size)⟩
end Go.PH
end

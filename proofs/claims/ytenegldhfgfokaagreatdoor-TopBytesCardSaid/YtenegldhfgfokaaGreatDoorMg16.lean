/- Texts laid together: VlCheck. -/
import Derived.Test.YtenegldhfgfokaaGreatDoorMg15
set_option linter.all false
set_option linter.unusedSimpArgs false
set_option linter.unusedVariables false
section
/- Whether a value may be: the walk of the program's Check. -/
namespace Go.PH
open Go.RowKit Go.Proofs

/-- a value's error -/
def errV (v : Vl) : Int := if deepV 6 v = true then 51 else if cntV v 200 < 0 then 3 else if mayV utf8B v = true then 0 else 50
set_option maxRecDepth 20000 in
theorem vcheck_any (v : Vl) (h : VH) (w : World) (hv : RVw w v h) (hT : UTabs w) : Calls Tryz.prog 71 #[.agg (vlV v h)] w fun e w' => e = .returned (.int .i64 (errV v)) ∧ Below w.heap.size w w' := by
 obtain ⟨xb, w1, hxb, hxv, hX, hB1⟩ := alloc_stepV w #[.int .u8 (v.kind : Int), .int .u64 (v.n : Int), .string (str v.s), .slice h.A1 v.keys.length h.c1, .slice h.A2 v.list.length h.c2] 69
 have hv1 := hv.up hB1
 have hd := deep_any v h 6 w1 hv1 (by omega)
 have hc := fun W (hW : Below w1.heap.size w1 W) => count_any v h 200 W (hv1.up hW) (by omega) (by omega)
 have hm := fun W (hW : Below w1.heap.size w1 W) => may_any v h W (hv1.up hW) ((hT.on hB1).on hW)
 unfold DeepR at hd
 unfold CntR at hc
 unfold MayR at hm
 unfold vlV at hd hc hm ⊢
 obtain ⟨r, hr⟩ : ∃ r, r = errV v := ⟨_, rfl⟩
 rw [← hr]
 unfold errV at hr
 generalize deepV 6 v = d at *
 generalize cntV v 200 = q at *
 generalize mayV utf8B v = y at *
 have c0 := hX.c0
 have c1 := hX.c1
 have c2 := hX.c2
 have c3 := hX.c3
 have c4 := hX.c4
 have HC := Lib.hid hc
 have HM := Lib.hid hm
 clear hv hT hv1 hc hm
 rw [show ((6 : Nat) : Int) = 6 from rfl] at hd
 cases d
 ·by_cases hq : q < 0
  ·obtain rfl : r = 3 := by rw [hr]; simp [hq]
   clear hr HM
   go_enter Tryz.func71, Tryz.ntmps71
   go_upto_region 1 with fail
   rw [← hxb, ← hxv]
   clear hxb hxv
   go_wp2_with (with_reducible refine h_A ?_)
   refine hd.mono ?_
   rintro e w2 ⟨rfl, hB2⟩
   have hc := HC.out w2 hB2
   have hX2 := hX.below hB2
   clear c0 c1 c2 c3 c4 hX
   have c0 := hX2.c0
   have c1 := hX2.c1
   have c2 := hX2.c2
   have c3 := hX2.c3
   have c4 := hX2.c4
   clear hd HC
   go_wp2_with (with_reducible refine h_A ?_)
   refine hc.mono ?_
   rintro e w3 ⟨rfl, hB3⟩
   go_wp2_with (with_reducible refine h_A ?_)
   go_ret
   exact ⟨rfl, hB1.trans ((hB2.mono hB1.size).trans (hB3.mono (Nat.le_trans hB1.size hB2.size)))⟩
  ·cases y
   ·obtain rfl : r = 50 := by rw [hr]; simp [hq]
    clear hr
    go_enter Tryz.func71, Tryz.ntmps71
    go_upto_region 1 with fail
    rw [← hxb, ← hxv]
    clear hxb hxv
    go_wp2_with (with_reducible refine h_A ?_)
    refine hd.mono ?_
    rintro e w2 ⟨rfl, hB2⟩
    have hc := HC.out w2 hB2
    have hX2 := hX.below hB2
    clear c0 c1 c2 c3 c4 hX
    have c0 := hX2.c0
    have c1 := hX2.c1
    have c2 := hX2.c2
    have c3 := hX2.c3
    have c4 := hX2.c4
    clear hd HC
    go_wp2_with (with_reducible refine h_A ?_)
    refine hc.mono ?_
    rintro e w3 ⟨rfl, hB3⟩
    have hB23 := hB2.trans (hB3.mono hB2.size)
    have hm := HM.out w3 hB23
    have hX3 := hX2.below hB3
    clear hc hB3 c0 c1 c2 c3 c4 HM
    have c0 := hX3.c0
    have c1 := hX3.c1
    have c2 := hX3.c2
    have c3 := hX3.c3
    have c4 := hX3.c4
    go_wp2_with (with_reducible refine h_A ?_)
    refine hm.mono ?_
    rintro e w4 ⟨rfl, hB4⟩
    go_wp2_with (with_reducible refine h_A ?_)
    go_ret
    exact ⟨rfl, hB1.trans ((hB23.trans (hB4.mono hB23.size)).mono hB1.size)⟩
   ·obtain rfl : r = 0 := by rw [hr]; simp [hq]
    clear hr
    go_enter Tryz.func71, Tryz.ntmps71
    go_upto_region 1 with fail
    rw [← hxb, ← hxv]
    clear hxb hxv
    go_wp2_with (with_reducible refine h_A ?_)
    refine hd.mono ?_
    rintro e w2 ⟨rfl, hB2⟩
    have hc := HC.out w2 hB2
    have hX2 := hX.below hB2
    clear c0 c1 c2 c3 c4 hX
    have c0 := hX2.c0
    have c1 := hX2.c1
    have c2 := hX2.c2
    have c3 := hX2.c3
    have c4 := hX2.c4
    clear hd HC
    go_wp2_with (with_reducible refine h_A ?_)
    refine hc.mono ?_
    rintro e w3 ⟨rfl, hB3⟩
    have hB23 := hB2.trans (hB3.mono hB2.size)
    have hm := HM.out w3 hB23
    have hX3 := hX2.below hB3
    clear hc hB3 c0 c1 c2 c3 c4 HM
    have c0 := hX3.c0
    have c1 := hX3.c1
    have c2 := hX3.c2
    have c3 := hX3.c3
    have c4 := hX3.c4
    go_wp2_with (with_reducible refine h_A ?_)
    refine hm.mono ?_
    rintro e w4 ⟨rfl, hB4⟩
    go_wp2_with (with_reducible refine h_A ?_)
    go_ret
    exact ⟨rfl, hB1.trans ((hB23.trans (hB4.mono hB23.size)).mono hB1.size)⟩
 ·obtain rfl : r = 51 := by rw [hr]; simp
  clear hr HC HM
  go_enter Tryz.func71, Tryz.ntmps71
  go_upto_region 1 with fail
  rw [← hxb, ← hxv]
  clear hxb hxv
  go_wp2_with (with_reducible refine h_A ?_)
  refine hd.mono ?_
  rintro e w2 ⟨rfl, hB2⟩
  go_wp2_with (with_reducible refine h_A ?_)
  go_ret
  exact ⟨rfl, hB1.trans (hB2.mono hB1.size)⟩
end Go.PH
end

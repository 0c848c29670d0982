/- FramePuts: for every input of the form's own reach the law returns true and writes nothing that was there. -/
import Derived.Test.YtgjdpgihehpecaaFrHead
import Derived.Test.YtgjdpgihehpecaaFrRefPut
namespace Go.PH
open Go.RowKit Go.Proofs

set_option maxRecDepth 20000 in
theorem law_FramePuts (f : Fr) (w : World) (hw : f.wf) (hl : f.load.length ≤ 140737488351232) :
    Calls Try.prog 3 #[.agg (frV f)] w fun e w' => e = .returned (.bool true) ∧ Below w.heap.size w w' := by
  have hp := fun W => fput_any f W hw hl
  have hrp := fun W => rfput_any f W hw hl
  have hc := fun W => check_any f W hw hl
  generalize f.put = pb at *
  generalize f.err = pe at *
  clear hw hl
  obtain ⟨b1, b2, b3, b4, ty, tr, ch, ld⟩ := f
  unfold frV at *
  simp only at hp hrp hc
  have hB0 : Below w.heap.size w (w.alloc (.cells #[.bool b1, .bool b2, .bool b3, .bool b4, .int .u8 (ty : Int), .int .u8 (tr : Int), .int .u16 (ch : Int), .string (str ld)] 24)) := (Below.refl _ _).alloc (Nat.le_refl _) _
  have hb0 := box_new (w := w) (b1 := b1) (b2 := b2) (b3 := b3) (b4 := b4) (ty := ty) (tr := tr) (ch := ch) (ld := ld)
  go_enter Try.func3, Try.ntmps3
  go_wp2_with (first | (with_reducible refine hold_append ?_) | (with_reducible refine hold_make ?_) | (with_reducible refine hold_copy ?_))
  have hz0 := hB0.size
  refine (hp _).mono ?_
  rintro e w1 ⟨A1, c1, rfl, ho1, hB1⟩
  have hb1 := box_below hb0 hB1
  replace hB1 := hB0.trans (hB1.mono hz0)
  have hz1 := hB1.size
  obtain ⟨k0, k1, k2, k3, k4, k5, k6, k7⟩ := id hb1
  go_wp2_with (first | (with_reducible refine hold_append ?_) | (with_reducible refine hold_make ?_) | (with_reducible refine hold_copy ?_))
  refine (hrp w1).mono ?_
  rintro e w2 ⟨A2, c2, rfl, ho2, hB2⟩
  have hb2 := box_below hb1 hB2
  clear k0 k1 k2 k3 k4 k5 k6 k7
  obtain ⟨k0, k1, k2, k3, k4, k5, k6, k7⟩ := hb2
  have ho12 := own_below ho1 hB2
  have hB02 := hB1.trans (hB2.mono hz1)
  have hv1 := run_strB (w := w2) ho12.rd
  have hv2 := run_strB (w := w2) ho2.rd
  have hq : ((str pb).toList == (str pb).toList) = true := by simp
  have hqe : (((pe : Nat) : Int) == ((pe : Nat) : Int)) = true := by simp
  go_wp2_with (first | (with_reducible refine hold_append ?_) | (with_reducible refine hold_make ?_) | (with_reducible refine hold_copy ?_))
  refine (hc w2).mono ?_
  rintro e w3 ⟨rfl, hB3⟩
  have hB03 := hB02.trans (hB3.mono hB02.size)
  go_wp2_with (first | (with_reducible refine hold_append ?_) | (with_reducible refine hold_make ?_) | (with_reducible refine hold_copy ?_))
  refine (head_any w3).mono ?_
  rintro e w4 ⟨rfl, hB4⟩
  have hB04 := hB03.trans (hB4.mono hB03.size)
  go_wp2_with (first | (with_reducible refine hold_append ?_) | (with_reducible refine hold_make ?_) | (with_reducible refine hold_copy ?_))
  go_ret
  exact ⟨rfl, hB04⟩
end Go.PH

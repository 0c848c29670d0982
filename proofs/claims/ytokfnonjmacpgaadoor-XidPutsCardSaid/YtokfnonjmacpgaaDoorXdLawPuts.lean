/- XidPuts: for every input of the form's own reach the law returns true and writes nothing that was there. Condition: the listed variables read as listed. -/
import Derived.Test.YtokfnonjmacpgaaDoorXdHead
import Derived.Test.YtokfnonjmacpgaaDoorXdPut
namespace Go.PH
open Go.RowKit Go.Proofs

set_option maxRecDepth 20000 in
set_option maxHeartbeats 4000000 in
theorem law_XidPuts (x : Xd) (w : World) (hw : x.wf) (he : XEnv w) :
    Calls Tryd.prog 6 #[.agg (xdV x)] w fun e w' => e = .returned (.bool true) ∧ Below w.heap.size w w' := by
  have hp := fun W => xdput_any x W hw
  have hrp := fun W => rxdput_any x W hw
  have ht := fun W hE => text_any x W hw hE
  have hrt := fun W => rtext_any x W hw
  have h8 := he.lt
  generalize x.put = pb at *
  generalize x.err = pe at *
  generalize x.text = tx at *
  obtain ⟨f, g, h⟩ := x
  unfold xdV at *
  simp only at hp hrp ht hrt
  have hB0 : Below w.heap.size w (w.alloc (.cells #[.int .u32 (f : Int), .string (str g), .string (str h)] 24)) := (Below.refl _ _).alloc (Nat.le_refl _) _
  have hb0 : Box (w.alloc (.cells #[.int .u32 (f : Int), .string (str g), .string (str h)] 24)) w.heap.size 24 #[.int .u32 (f : Int), .string (str g), .string (str h)] := Box.new _ _ _
  go_enter Tryd.func6, Tryd.ntmps6
  go_wp2_with (first | (with_reducible refine hold_append ?_) | (with_reducible refine hold_make ?_) | (with_reducible refine hold_copy ?_))
  refine (hp _).mono ?_
  rintro e w1 ⟨A1, c1, rfl, ho1, hB1⟩
  have hb1 := hb0.below hB1
  replace hB1 := hB0.trans (hB1.mono hB0.size)
  have k0 := hb1.cell (j := 0) rfl
  have k1 := hb1.cell (j := 1) rfl
  have k2 := hb1.cell (j := 2) rfl
  clear hB0 hb0 hp
  go_wp2_with (first | (with_reducible refine hold_append ?_) | (with_reducible refine hold_make ?_) | (with_reducible refine hold_copy ?_))
  refine (hrp w1).mono ?_
  rintro e w2 ⟨A2, c2, rfl, ho2, hB2⟩
  have hb2 := hb1.below hB2
  have ho12 := own_below ho1 hB2
  replace hB2 := hB1.trans (hB2.mono hB1.size)
  clear k0 k1 k2 hb1 hB1 ho1 hrp
  have k0 := hb2.cell (j := 0) rfl
  have k1 := hb2.cell (j := 1) rfl
  have k2 := hb2.cell (j := 2) rfl
  go_wp2_with (first | (with_reducible refine hold_append ?_) | (with_reducible refine hold_make ?_) | (with_reducible refine hold_copy ?_))
  refine (ht w2 (he.below hB2 h8 hB2.size)).mono ?_
  rintro e w3 ⟨rfl, hB3⟩
  have hb3 := hb2.below hB3
  have ho13 := own_below ho12 hB3
  have ho23 := own_below ho2 hB3
  replace hB3 := hB2.trans (hB3.mono hB2.size)
  clear k0 k1 k2 hb2 hB2 ho12 ho2 ht
  have k0 := hb3.cell (j := 0) rfl
  have k1 := hb3.cell (j := 1) rfl
  have k2 := hb3.cell (j := 2) rfl
  go_wp2_with (first | (with_reducible refine hold_append ?_) | (with_reducible refine hold_make ?_) | (with_reducible refine hold_copy ?_))
  refine (hrt w3).mono ?_
  rintro e w4 ⟨rfl, hB4⟩
  have ho14 := own_below ho13 hB4
  have ho24 := own_below ho23 hB4
  replace hB4 := hB3.trans (hB4.mono hB3.size)
  clear k0 k1 k2 hb3 hB3 ho13 ho23 hrt
  have hv1 := run_strB (w := w4) ho14.rd
  have hv2 := run_strB (w := w4) ho24.rd
  have hq : ((str pb).toList == (str pb).toList) = true := by simp
  have hqt : ((str tx).toList == (str tx).toList) = true := by simp
  have hqe : (((pe : Nat) : Int) == ((pe : Nat) : Int)) = true := by simp
  go_wp2_with (first | (with_reducible refine hold_append ?_) | (with_reducible refine hold_make ?_) | (with_reducible refine hold_copy ?_))
  refine (head_any w4 (he.below hB4 h8 hB4.size)).mono ?_
  rintro e w5 ⟨rfl, hB5⟩
  have hB05 := hB4.trans (hB5.mono hB4.size)
  go_wp2_with (first | (with_reducible refine hold_append ?_) | (with_reducible refine hold_make ?_) | (with_reducible refine hold_copy ?_))
  go_ret
  exact ⟨rfl, hB05⟩
end Go.PH

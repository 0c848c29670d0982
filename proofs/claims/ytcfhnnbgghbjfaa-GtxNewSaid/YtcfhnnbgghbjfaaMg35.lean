/- Texts laid together: GtLawNew. -/
import Derived.Test.YtcfhnnbgghbjfaaMg12
import Derived.Test.YtcfhnnbgghbjfaaMg24
import Derived.Test.YtcfhnnbgghbjfaaMg26
import Derived.Test.YtcfhnnbgghbjfaaMg28
section
/- The law GtxNew, walked. -/
set_option linter.all false
set_option linter.unusedSimpArgs false
set_option linter.unusedVariables false
namespace Go.PH
open Go.RowKit Go.Proofs

/-- a call's answer laid into a new box, and what stands beside it -/
theorem turn_box {w w1 : World} {RS : Gl × Nat} {A : Option Addr} {n c : Nat} (ho : OwnP w1 w.heap.size A n c RS.1.parts) (hB : Below w.heap.size w w1) : Box (w1.alloc (.cells (glV RS.1 A n c) 28)) w1.heap.size 28 (glV RS.1 A n c) ∧
    RdP (w1.alloc (.cells (glV RS.1 A n c) 28)) (w1.alloc (.cells (glV RS.1 A n c) 28)).heap.size A n c RS.1.parts ∧ Below w.heap.size w (w1.alloc (.cells (glV RS.1 A n c) 28)) :=
  ⟨Box.new w1 _ _, Rd.more (ho.rd.below ((Below.refl w1.heap.size w1).alloc (Nat.le_refl _) _)) (by simp), hB.alloc hB.size _⟩
theorem rdp_up {w w1 : World} {A : Option Addr} {n c : Nat} {l : List Pt} (h : RdP w w.heap.size A n c l) (hB : Below w.heap.size w w1) : RdP w1 w1.heap.size A n c l := Rd.more (h.below hB) hB.size
set_option maxRecDepth 20000 in
set_option maxHeartbeats 2000000 in
theorem law_GtxNew (x : Xd) (An : Option Addr) (n cn : Nat) (nl : List UInt8) (X : Xd) (A : Option Addr) (m c : Nat) (l : List Pt) (w : World) (hx : x.wf) (hr : RdB w w.heap.size An n cn nl) (hX : X.wf) (hp : RdP w w.heap.size A m c l) (hwf : ∀ p ∈ l, p.wf) (hn : n ≤ 140737488351232) (hm : m ≤ 140737488351232) :
    Calls Try.prog 4 #[.agg (xdV x), .slice An n cn, .agg (dcV X A m c)] w fun e w' => e = .returned (.bool true) ∧ Below w.heap.size w w' := by
  have hN1 := fun W (hW : Below w.heap.size w W) (h : n ≤ 20) => new_any x An n cn nl w.heap.size W hx (hr.below hW) hW.size (by omega)
  have hN2 := fun W (hW : Below w.heap.size w W) (h : n ≤ 20) => rnew_any x An n cn nl w.heap.size W hx (hr.below hW) hW.size (by omega)
  have hR1 := fun W (hW : Below w.heap.size w W) (h : m ≤ 20) => restore_any X l A m c w.heap.size W hX (hp.below hW) hW.size hwf (by omega)
  have hR2 := fun W (hW : Below w.heap.size w W) (h : m ≤ 20) => rrestore_any X l A m c w.heap.size W hX (hp.below hW) hW.size hwf (by omega)
  clear hx hr hX hp hwf
  generalize Gl.new x (nl.map UInt8.toNat) = S1 at *
  generalize Gl.restore X l = S2 at *
  obtain ⟨f, g, h⟩ := x
  obtain ⟨Xf, Xg, Xh⟩ := X
  simp only [xdV] at hN1 hN2 ⊢
  simp only [dcV] at hR1 hR2 ⊢
  obtain ⟨hX0, hD0, hB0⟩ := box2_of w #[.int .u32 (f : Int), .string (str g), .string (str h)] #[.int .u32 (Xf : Int), .string (str Xg), .string (str Xh), .slice A m c] 24 49
  obtain ⟨w0, hw0⟩ : ∃ w0, w0 = ((w.alloc (.cells #[.int .u32 (f : Int), .string (str g), .string (str h)] 24)).alloc (.cells #[.int .u32 (Xf : Int), .string (str Xg), .string (str Xh), .slice A m c] 49)) := ⟨_, rfl⟩
  rw [← hw0] at hX0 hD0 hB0
  have d3 := hD0.cell (j := 3) rfl
  by_cases h1 : 20 < n
  · have b1 : decide ((20 : Int) < (n : Int)) = true := by simp; omega
    clear hN1 hN2 hR1 hR2
    go_enter Try.func4, Try.ntmps4
    go_upto_region 1 with fail
    rw [← hw0]
    clear hw0
    go_wp2_with (first | (with_reducible refine hold_append ?_) | (with_reducible refine hold_make ?_) | (with_reducible refine hold_copy ?_))
    refine (ghead_any _).mono ?_
    rintro e w1 ⟨rfl, hB1⟩
    go_wp2_with (first | (with_reducible refine hold_append ?_) | (with_reducible refine hold_make ?_) | (with_reducible refine hold_copy ?_))
    go_ret
    exact ⟨rfl, hB0.trans (hB1.mono hB0.size)⟩
  · have b1 : decide ((20 : Int) < (n : Int)) = false := by simp; omega
    by_cases h2 : 20 < m
    · have b2 : decide ((20 : Int) < (m : Int)) = true := by simp; omega
      clear hN1 hN2 hR1 hR2
      go_enter Try.func4, Try.ntmps4
      go_upto_region 1 with fail
      rw [← hw0]
      clear hw0
      go_wp2_with (first | (with_reducible refine hold_append ?_) | (with_reducible refine hold_make ?_) | (with_reducible refine hold_copy ?_))
      refine (ghead_any _).mono ?_
      rintro e w1 ⟨rfl, hB1⟩
      go_wp2_with (first | (with_reducible refine hold_append ?_) | (with_reducible refine hold_make ?_) | (with_reducible refine hold_copy ?_))
      go_ret
      exact ⟨rfl, hB0.trans (hB1.mono hB0.size)⟩
    · have b2 : decide ((20 : Int) < (m : Int)) = false := by simp; omega
      have hN1' := hN1 w0 hB0 (by omega)
      have hN2' := fun W hW => hN2 W hW (by omega)
      have hR1' := fun W hW => hR1 W hW (by omega)
      have hR2' := fun W hW => hR2 W hW (by omega)
      clear hN1 hN2 hR1 hR2
      have x0 := hX0.cell (j := 0) rfl
      have x1 := hX0.cell (j := 1) rfl
      have x2 := hX0.cell (j := 2) rfl
      go_enter Try.func4, Try.ntmps4
      go_upto_region 1 with fail
      rw [← hw0]
      clear hw0
      go_wp2_with (first | (with_reducible refine hold_append ?_) | (with_reducible refine hold_make ?_) | (with_reducible refine hold_copy ?_))
      refine hN1'.mono ?_
      rintro e w1 ⟨A1, n1, c1, rfl, ho1, hn1, hB1⟩
      obtain ⟨hb1, hr1, hC1⟩ := turn_box ho1 hB1
      have hB01 := hB0.trans (hC1.mono hB0.size)
      have hX1 := hX0.below hC1
      have hD1 := hD0.below hC1
      clear x0 x1 x2 d3 hX0 hD0 hN1' hB0 hB1 ho1 hC1 b1 b2
      unfold glV at hb1 hr1 hB01 hX1 hD1 ⊢
      go_upto_region 4 with fail
      generalize hg1 : w1.heap.size = g1 at *
      generalize (w1.alloc _) = v1 at *
      clear hg1
      have x0 := hX1.cell (j := 0) rfl
      have x1 := hX1.cell (j := 1) rfl
      have x2 := hX1.cell (j := 2) rfl
      have hN2'' := hN2' v1 hB01
      go_wp2_with (first | (with_reducible refine hold_append ?_) | (with_reducible refine hold_make ?_) | (with_reducible refine hold_copy ?_))
      refine hN2''.mono ?_
      rintro e w2 ⟨A2, n2, c2, rfl, ho2, hn2, hB2⟩
      obtain ⟨hb2, hr2, hC2⟩ := turn_box ho2 hB2
      have hB02 := hB01.trans (hC2.mono hB01.size)
      have hb12 := hb1.below hC2
      have hr12 := rdp_up hr1 hC2
      have hD2 := hD1.below hC2
      clear x0 x1 x2 hX1 hD1 hN2' hN2'' hB01 hB2 ho2 hC2 hb1 hr1
      unfold glV at hb2 hr2 hB02 hb12 hr12 hD2 ⊢
      go_upto_region 5 with fail
      generalize hg2 : w2.heap.size = g2 at *
      generalize (w2.alloc _) = v2 at *
      clear hg2
      have x0 := hD2.cell (j := 0) rfl
      have x1 := hD2.cell (j := 1) rfl
      have x2 := hD2.cell (j := 2) rfl
      have x3 := hD2.cell (j := 3) rfl
      have hR1'' := hR1' v2 hB02
      go_wp2_with (first | (with_reducible refine hold_append ?_) | (with_reducible refine hold_make ?_) | (with_reducible refine hold_copy ?_))
      refine hR1''.mono ?_
      rintro e w3 ⟨A3, n3, c3, rfl, ho3, hn3, hB3⟩
      obtain ⟨hb3, hr3, hC3⟩ := turn_box ho3 hB3
      have hB03 := hB02.trans (hC3.mono hB02.size)
      have hb13 := hb12.below hC3
      have hr13 := rdp_up hr12 hC3
      have hb23 := hb2.below hC3
      have hr23 := rdp_up hr2 hC3
      have hD3 := hD2.below hC3
      clear x0 x1 x2 x3 hD2 hR1' hR1'' hB02 hB3 ho3 hC3 hb12 hr12 hb2 hr2
      unfold glV at hb3 hr3 hB03 hb13 hr13 hb23 hr23 hD3 ⊢
      go_upto_region 6 with fail
      generalize hg3 : w3.heap.size = g3 at *
      generalize (w3.alloc _) = v3 at *
      clear hg3
      have x0 := hD3.cell (j := 0) rfl
      have x1 := hD3.cell (j := 1) rfl
      have x2 := hD3.cell (j := 2) rfl
      have x3 := hD3.cell (j := 3) rfl
      have hR2'' := hR2' v3 hB03
      go_wp2_with (first | (with_reducible refine hold_append ?_) | (with_reducible refine hold_make ?_) | (with_reducible refine hold_copy ?_))
      refine hR2''.mono ?_
      rintro e w4 ⟨A4, n4, c4, rfl, ho4, hn4, hB4⟩
      obtain ⟨hb4, hr4, hC4⟩ := turn_box ho4 hB4
      have hB04 := hB03.trans (hC4.mono hB03.size)
      have hb14 := hb13.below hC4
      have hr14 := rdp_up hr13 hC4
      have hb24 := hb23.below hC4
      have hr24 := rdp_up hr23 hC4
      have hb34 := hb3.below hC4
      have hr34 := rdp_up hr3 hC4
      clear x0 x1 x2 x3 hD3 hR2' hR2'' hB03 hB4 ho4 hC4 hb13 hr13 hb23 hr23 hb3 hr3
      unfold glV at hb4 hr4 hB04 hb14 hr14 hb24 hr24 hb34 hr34 ⊢
      go_upto_region 7 with fail
      generalize hg4 : w4.heap.size = g4 at *
      generalize (w4.alloc _) = v4 at *
      clear hg4
      have hs1 := rsame_any S1.1 S1.1 A1 n1 c1 A2 n2 c2 v4.heap.size v4 hr14 hr24 (Nat.le_refl _) (by omega) (by omega)
      simp only [decide_true] at hs1
      have hs2 := fun W (hW : Below v4.heap.size v4 W) => rsame_any S2.1 S2.1 A3 n3 c3 A4 n4 c4 W.heap.size W (rdp_up hr34 hW) (rdp_up hr4 hW) (Nat.le_refl _) (by omega) (by omega)
      simp only [decide_true] at hs2
      unfold glV at hs1 hs2
      clear hr14 hr24 hr34 hr4
      have x0 := hb14.cell (j := 0) rfl
      have x1 := hb14.cell (j := 1) rfl
      have x2 := hb14.cell (j := 2) rfl
      have x3 := hb14.cell (j := 3) rfl
      have x4 := hb14.cell (j := 4) rfl
      have x5 := hb14.cell (j := 5) rfl
      have x6 := hb14.cell (j := 6) rfl
      have x7 := hb14.cell (j := 7) rfl
      have y0 := hb24.cell (j := 0) rfl
      have y1 := hb24.cell (j := 1) rfl
      have y2 := hb24.cell (j := 2) rfl
      have y3 := hb24.cell (j := 3) rfl
      have y4 := hb24.cell (j := 4) rfl
      have y5 := hb24.cell (j := 5) rfl
      have y6 := hb24.cell (j := 6) rfl
      have y7 := hb24.cell (j := 7) rfl
      go_wp2_with (first | (with_reducible refine hold_append ?_) | (with_reducible refine hold_make ?_) | (with_reducible refine hold_copy ?_))
      refine hs1.mono ?_
      rintro e w5 ⟨rfl, hB5⟩
      have hB05 := hB04.trans (hB5.mono hB04.size)
      have hs2' := hs2 w5 hB5
      have hb35 := hb34.below hB5
      have hb45 := hb4.below hB5
      clear x0 x1 x2 x3 x4 x5 x6 x7 y0 y1 y2 y3 y4 y5 y6 y7 hs1 hs2 hb14 hb24 hb34 hb4 hB5 hB04
      have x0 := hb35.cell (j := 0) rfl
      have x1 := hb35.cell (j := 1) rfl
      have x2 := hb35.cell (j := 2) rfl
      have x3 := hb35.cell (j := 3) rfl
      have x4 := hb35.cell (j := 4) rfl
      have x5 := hb35.cell (j := 5) rfl
      have x6 := hb35.cell (j := 6) rfl
      have x7 := hb35.cell (j := 7) rfl
      have y0 := hb45.cell (j := 0) rfl
      have y1 := hb45.cell (j := 1) rfl
      have y2 := hb45.cell (j := 2) rfl
      have y3 := hb45.cell (j := 3) rfl
      have y4 := hb45.cell (j := 4) rfl
      have y5 := hb45.cell (j := 5) rfl
      have y6 := hb45.cell (j := 6) rfl
      have y7 := hb45.cell (j := 7) rfl
      go_wp2_with (first | (with_reducible refine hold_append ?_) | (with_reducible refine hold_make ?_) | (with_reducible refine hold_copy ?_))
      refine hs2'.mono ?_
      rintro e w6 ⟨rfl, hB6⟩
      have hB06 := hB05.trans (hB6.mono hB05.size)
      clear x0 x1 x2 x3 x4 x5 x6 x7 y0 y1 y2 y3 y4 y5 y6 y7
      go_wp2_with (first | (with_reducible refine hold_append ?_) | (with_reducible refine hold_make ?_) | (with_reducible refine hold_copy ?_))
      refine (ghead_any _).mono ?_
      rintro e w7 ⟨rfl, hB7⟩
      go_wp2_with (first | (with_reducible refine hold_append ?_) | (with_reducible refine hold_make ?_) | (with_reducible refine hold_copy ?_))
      go_ret
      exact ⟨rfl, hB06.trans (hB7.mono hB06.size)⟩
end Go.PH
end

/- Texts laid together: GtLawTurns. -/
import Derived.Test.YtcfhnnbgghbjfaaMg12
import Derived.Test.YtcfhnnbgghbjfaaMg16
import Derived.Test.YtcfhnnbgghbjfaaMg21
import Derived.Test.YtcfhnnbgghbjfaaMg26
import Derived.Test.YtcfhnnbgghbjfaaMg27
import Derived.Test.YtcfhnnbgghbjfaaMg34
section
/- The law GtxTurns, walked. -/
set_option linter.all false
set_option linter.unusedSimpArgs false
set_option linter.unusedVariables false
namespace Go.PH
open Go.RowKit Go.Proofs

set_option maxRecDepth 20000 in
set_option maxHeartbeats 4000000 in
theorem law_GtxTurns (G : Gl) (cm : Bool) (A : Option Addr) (n c : Nat) (w : World) (hG : G.wf) (hr : RdP w w.heap.size A n c G.parts) (hn : n ≤ 140737488351232) :
    Calls Try.prog 7 #[.agg (glV G A n c), .bool cm] w fun e w' => e = .returned (.bool true) ∧ Below w.heap.size w w' := by
  have hrG := fun W (hW : Below w.heap.size w W) => hr.below hW
  have hcp := fun W (hW : Below w.heap.size w W) (h : n ≤ 20) => rcopy_any G A n c w.heap.size W (hr.below hW) hW.size (by omega)
  have hak := fun W A2 c2 (hW : Below w.heap.size w W) (h : n ≤ 20) (h2 : RdP W W.heap.size A2 n c2 G.parts) => ask_any G cm A2 n c2 W.heap.size W hG h2 (Nat.le_refl _) (by omega)
  have har := fun W (hW : Below w.heap.size w W) (h : n ≤ 20) => rask_any G cm A n c w.heap.size W hG (hr.below hW) hW.size (by omega)
  have hdk := fun W A2 c2 (hW : Below w.heap.size w W) (h : n ≤ 20) (h2 : RdP W W.heap.size A2 n c2 G.parts) => decide_any G A2 n c2 W.heap.size W hG h2 (Nat.le_refl _) (by omega)
  have hdr := fun W (hW : Below w.heap.size w W) (h : n ≤ 20) => rdecide_any G A n c w.heap.size W hG (hr.below hW) hW.size (by omega)
  have hbk := fun W A2 c2 (hW : Below w.heap.size w W) (h : n ≤ 20) (h2 : RdP W W.heap.size A2 n c2 G.parts) => abort_any G A2 n c2 W.heap.size W hG h2 (Nat.le_refl _) (by omega)
  have hbr := fun W (hW : Below w.heap.size w W) (h : n ≤ 20) => rabortF_any G A n c w.heap.size W hG (hr.below hW) hW.size (by omega)
  have htk := fun W A2 c2 (hW : Below w.heap.size w W) (h : n ≤ 20) (h2 : RdP W W.heap.size A2 n c2 G.parts) => tick_any G A2 n c2 W.heap.size W hG h2 (Nat.le_refl _) (by omega)
  have htr := fun W (hW : Below w.heap.size w W) (h : n ≤ 20) => rtick_any G A n c w.heap.size W hG (hr.below hW) hW.size (by omega)
  unfold TurnR at hak har hdk hdr hbk hbr
  unfold TickR at htk htr
  generalize G.ask cm = SA at *
  generalize G.decide' = SD at *
  generalize G.abort = SB at *
  generalize G.tick = ST at *
  unfold glV at hcp ⊢
  clear hG hr
  have hG0 := Box.new w #[.int .u32 (G.x.fmt : Int), .string (str G.x.glob), .string (str G.x.bran), .int .u8 (G.st : Int), .bool G.com, .slice A n c, .int .u32 (G.wait : Int), .int .u32 (G.tries : Int)] 28
  have hB0 := (Below.refl w.heap.size w).alloc (Nat.le_refl _) (.cells #[.int .u32 (G.x.fmt : Int), .string (str G.x.glob), .string (str G.x.bran), .int .u8 (G.st : Int), .bool G.com, .slice A n c, .int .u32 (G.wait : Int), .int .u32 (G.tries : Int)] 28)
  obtain ⟨w0, hw0⟩ : ∃ w0, w0 = (w.alloc (.cells #[.int .u32 (G.x.fmt : Int), .string (str G.x.glob), .string (str G.x.bran), .int .u8 (G.st : Int), .bool G.com, .slice A n c, .int .u32 (G.wait : Int), .int .u32 (G.tries : Int)] 28)) := ⟨_, rfl⟩
  rw [← hw0] at hG0 hB0
  have x0 := hG0.cell (j := 0) rfl
  have x1 := hG0.cell (j := 1) rfl
  have x2 := hG0.cell (j := 2) rfl
  have x3 := hG0.cell (j := 3) rfl
  have x4 := hG0.cell (j := 4) rfl
  have x5 := hG0.cell (j := 5) rfl
  have x6 := hG0.cell (j := 6) rfl
  have x7 := hG0.cell (j := 7) rfl
  have hgt := great_any G A n c w0
  unfold glV at hgt
  go_enter Try.func7, Try.ntmps7
  go_upto_region 1 with fail
  rw [← hw0]
  clear hw0
  go_wp2_with (first | (with_reducible refine hold_append ?_) | (with_reducible refine hold_make ?_) | (with_reducible refine hold_copy ?_))
  refine hgt.mono ?_
  rintro e w1 ⟨rfl, hB1⟩
  have hG1 := hG0.below hB1
  have hB01 := hB0.trans (hB1.mono hB0.size)
  clear x0 x1 x2 x3 x4 x5 x6 x7 hgt hG0 hB0 hB1
  by_cases h1 : 20 < n
  · have b1 : decide (20 < n) = true := by simpa using h1
    rw [b1]
    clear b1
    go_wp2_with (first | (with_reducible refine hold_append ?_) | (with_reducible refine hold_make ?_) | (with_reducible refine hold_copy ?_))
    refine (ghead_any _).mono ?_
    rintro e w9 ⟨rfl, hB9⟩
    go_wp2_with (first | (with_reducible refine hold_append ?_) | (with_reducible refine hold_make ?_) | (with_reducible refine hold_copy ?_))
    go_ret
    exact ⟨rfl, hB01.trans (hB9.mono hB01.size)⟩
  · have b1 : decide (20 < n) = false := by simpa using h1
    rw [b1]
    clear b1
    have hcp1 := hcp w1 hB01 (by omega)
    have x0 := hG1.cell (j := 0) rfl
    have x1 := hG1.cell (j := 1) rfl
    have x2 := hG1.cell (j := 2) rfl
    have x3 := hG1.cell (j := 3) rfl
    have x4 := hG1.cell (j := 4) rfl
    have x5 := hG1.cell (j := 5) rfl
    have x6 := hG1.cell (j := 6) rfl
    have x7 := hG1.cell (j := 7) rfl
    go_wp2_with (first | (with_reducible refine hold_append ?_) | (with_reducible refine hold_make ?_) | (with_reducible refine hold_copy ?_))
    refine hcp1.mono ?_
    rintro e w2 ⟨Ao, co, rfl, hoO, hB2⟩
    clear x0 x1 x2 x3 x4 x5 x6 x7 hcp hcp1
    have hOn := Box.new w2 #[.int .u32 (G.x.fmt : Int), .string (str G.x.glob), .string (str G.x.bran), .int .u8 (G.st : Int), .bool G.com, .slice Ao n co, .int .u32 (G.wait : Int), .int .u32 (G.tries : Int)] 28
    have hC2 := hB2.alloc hB2.size (.cells #[.int .u32 (G.x.fmt : Int), .string (str G.x.glob), .string (str G.x.bran), .int .u8 (G.st : Int), .bool G.com, .slice Ao n co, .int .u32 (G.wait : Int), .int .u32 (G.tries : Int)] 28)
    have hB2 := hB01.trans (hC2.mono hB01.size)
    have hGn := hG1.below hC2
    have hrn : RdP (w2.alloc (.cells #[.int .u32 (G.x.fmt : Int), .string (str G.x.glob), .string (str G.x.bran), .int .u8 (G.st : Int), .bool G.com, .slice Ao n co, .int .u32 (G.wait : Int), .int .u32 (G.tries : Int)] 28)) (w2.alloc (.cells #[.int .u32 (G.x.fmt : Int), .string (str G.x.glob), .string (str G.x.bran), .int .u8 (G.st : Int), .bool G.com, .slice Ao n co, .int .u32 (G.wait : Int), .int .u32 (G.tries : Int)] 28)).heap.size Ao n co G.parts := Rd.more (hoO.rd.below ((Below.refl w2.heap.size w2).alloc (Nat.le_refl _) _)) (by simp)
    go_upto_region 4 with fail
    obtain ⟨go, hgo⟩ : ∃ go, go = w2.heap.size := ⟨_, rfl⟩
    rw [← hgo] at hOn ⊢
    clear hgo hoO hC2
    generalize (w2.alloc (.cells #[.int .u32 (G.x.fmt : Int), .string (str G.x.glob), .string (str G.x.bran), .int .u8 (G.st : Int), .bool G.com, .slice Ao n co, .int .u32 (G.wait : Int), .int .u32 (G.tries : Int)] 28)) = v2 at *
    have hG2 := hGn
    have hO2 := hOn
    have hrO2 := hrn
    have hrG2 := hrG v2 hB2
    clear hGn hOn hrn hG1 hB01
    have hCr := Below.refl v2.heap.size v2
    have hwv := hB2.size
    have hca := hak v2 Ao co hB2 (by omega) hrO2
    have x0 := (hO2.below hCr).cell (j := 0) rfl
    have x1 := (hO2.below hCr).cell (j := 1) rfl
    have x2 := (hO2.below hCr).cell (j := 2) rfl
    have x3 := (hO2.below hCr).cell (j := 3) rfl
    have x4 := (hO2.below hCr).cell (j := 4) rfl
    have x5 := (hO2.below hCr).cell (j := 5) rfl
    have x6 := (hO2.below hCr).cell (j := 6) rfl
    have x7 := (hO2.below hCr).cell (j := 7) rfl
    unfold glV at hca
    go_wp2_with (first | (with_reducible refine hold_append ?_) | (with_reducible refine hold_make ?_) | (with_reducible refine hold_copy ?_))
    refine hca.mono ?_
    rintro e ua ⟨Aa, na, ca, rfl, hoa, hna, hBa⟩
    clear x0 x1 x2 x3 x4 x5 x6 x7 hca
    have hbx := Box.new ua #[.int .u32 (SA.1.x.fmt : Int), .string (str SA.1.x.glob), .string (str SA.1.x.bran), .int .u8 (SA.1.st : Int), .bool SA.1.com, .slice Aa na ca, .int .u32 (SA.1.wait : Int), .int .u32 (SA.1.tries : Int)] 28
    have hDa := hBa.alloc hBa.size (.cells #[.int .u32 (SA.1.x.fmt : Int), .string (str SA.1.x.glob), .string (str SA.1.x.bran), .int .u8 (SA.1.st : Int), .bool SA.1.com, .slice Aa na ca, .int .u32 (SA.1.wait : Int), .int .u32 (SA.1.tries : Int)] 28)
    have hbla : ∀ g, blk Aa = some g → g < ua.heap.size := fun g hg => (hoa.blk_lt hg).2
    have hgla : v2.heap.size ≤ ua.heap.size := hBa.size
    have hox : OwnP (ua.alloc (.cells #[.int .u32 (SA.1.x.fmt : Int), .string (str SA.1.x.glob), .string (str SA.1.x.bran), .int .u8 (SA.1.st : Int), .bool SA.1.com, .slice Aa na ca, .int .u32 (SA.1.wait : Int), .int .u32 (SA.1.tries : Int)] 28)) v2.heap.size Aa na ca SA.1.parts := hoa.alloc _
    have hBx := hB2.trans (hDa.mono hB2.size)
    have hCx := hCr.trans (hDa.mono hCr.size)
    go_upto_region 5 with fail
    obtain ⟨ga, hga⟩ : ∃ ga, ga = ua.heap.size := ⟨_, rfl⟩
    rw [← hga] at hbx hbla hgla ⊢
    clear hga hoa hBa hDa
    generalize (ua.alloc (.cells #[.int .u32 (SA.1.x.fmt : Int), .string (str SA.1.x.glob), .string (str SA.1.x.bran), .int .u8 (SA.1.st : Int), .bool SA.1.com, .slice Aa na ca, .int .u32 (SA.1.wait : Int), .int .u32 (SA.1.tries : Int)] 28)) = va at *
    have hba := hbx
    have hpa := hox
    have hB_a := hBx
    have hC_a := hCx
    clear hbx hox hBx hCx
    have hcb := har va hB_a (by omega)
    have x0 := (hG2.below hC_a).cell (j := 0) rfl
    have x1 := (hG2.below hC_a).cell (j := 1) rfl
    have x2 := (hG2.below hC_a).cell (j := 2) rfl
    have x3 := (hG2.below hC_a).cell (j := 3) rfl
    have x4 := (hG2.below hC_a).cell (j := 4) rfl
    have x5 := (hG2.below hC_a).cell (j := 5) rfl
    have x6 := (hG2.below hC_a).cell (j := 6) rfl
    have x7 := (hG2.below hC_a).cell (j := 7) rfl
    unfold glV at hcb
    go_wp2_with (first | (with_reducible refine hold_append ?_) | (with_reducible refine hold_make ?_) | (with_reducible refine hold_copy ?_))
    refine hcb.mono ?_
    rintro e ub ⟨Ab, nb, cb, rfl, hob, hnb, hBb⟩
    clear x0 x1 x2 x3 x4 x5 x6 x7 hcb
    have hbx := Box.new ub #[.int .u32 (SA.1.x.fmt : Int), .string (str SA.1.x.glob), .string (str SA.1.x.bran), .int .u8 (SA.1.st : Int), .bool SA.1.com, .slice Ab nb cb, .int .u32 (SA.1.wait : Int), .int .u32 (SA.1.tries : Int)] 28
    have hDb := hBb.alloc hBb.size (.cells #[.int .u32 (SA.1.x.fmt : Int), .string (str SA.1.x.glob), .string (str SA.1.x.bran), .int .u8 (SA.1.st : Int), .bool SA.1.com, .slice Ab nb cb, .int .u32 (SA.1.wait : Int), .int .u32 (SA.1.tries : Int)] 28)
    have hblb : ∀ g, blk Ab = some g → g < ub.heap.size := fun g hg => (hob.blk_lt hg).2
    have hglb : va.heap.size ≤ ub.heap.size := hBb.size
    have hox : OwnP (ub.alloc (.cells #[.int .u32 (SA.1.x.fmt : Int), .string (str SA.1.x.glob), .string (str SA.1.x.bran), .int .u8 (SA.1.st : Int), .bool SA.1.com, .slice Ab nb cb, .int .u32 (SA.1.wait : Int), .int .u32 (SA.1.tries : Int)] 28)) va.heap.size Ab nb cb SA.1.parts := hob.alloc _
    have hbp := hba.below hDb
    have hop := own_below hpa hDb
    have hBx := hB_a.trans (hDb.mono hB_a.size)
    have hCx := hC_a.trans (hDb.mono hC_a.size)
    go_upto_region 6 with fail
    obtain ⟨gb, hgb⟩ : ∃ gb, gb = ub.heap.size := ⟨_, rfl⟩
    rw [← hgb] at hbx hblb hglb ⊢
    clear hgb hob hBb hDb
    generalize (ub.alloc (.cells #[.int .u32 (SA.1.x.fmt : Int), .string (str SA.1.x.glob), .string (str SA.1.x.bran), .int .u8 (SA.1.st : Int), .bool SA.1.com, .slice Ab nb cb, .int .u32 (SA.1.wait : Int), .int .u32 (SA.1.tries : Int)] 28)) = vb at *
    have hbb := hbx
    have hpb := hox
    have hB_b := hBx
    have hC_b := hCx
    clear hbx hox hBx hCx
    have hba' := hbp
    have hpa' := hop
    clear hbp hop
    have hgab : ga < gb := by have := hba.lt; omega
    have hss := rsame_any SA.1 SA.1 Aa na ca Ab nb cb _ _ (hpa'.rd) (hpb.rd) (Nat.le_refl _) (by omega) (by omega)
    simp only [decide_true] at hss
    unfold glV at hss
    have x0 := hba'.cell (j := 0) rfl
    have x1 := hba'.cell (j := 1) rfl
    have x2 := hba'.cell (j := 2) rfl
    have x3 := hba'.cell (j := 3) rfl
    have x4 := hba'.cell (j := 4) rfl
    have x5 := hba'.cell (j := 5) rfl
    have x6 := hba'.cell (j := 6) rfl
    have x7 := hba'.cell (j := 7) rfl
    have y0 := hbb.cell (j := 0) rfl
    have y1 := hbb.cell (j := 1) rfl
    have y2 := hbb.cell (j := 2) rfl
    have y3 := hbb.cell (j := 3) rfl
    have y4 := hbb.cell (j := 4) rfl
    have y5 := hbb.cell (j := 5) rfl
    have y6 := hbb.cell (j := 6) rfl
    have y7 := hbb.cell (j := 7) rfl
    go_wp2_with (first | (with_reducible refine hold_append ?_) | (with_reducible refine hold_make ?_) | (with_reducible refine hold_copy ?_))
    refine hss.mono ?_
    rintro e sq ⟨rfl, hSq⟩
    clear x0 x1 x2 x3 x4 x5 x6 x7 y0 y1 y2 y3 y4 y5 y6 y7 hss
    have hba's := hba'.below hSq
    have hpa's := own_below hpa' hSq
    have hbbs := hbb.below hSq
    have hpbs := own_below hpb hSq
    have hB_sq := hB_b.trans (hSq.mono hB_b.size)
    have hC_sq := hC_b.trans (hSq.mono hC_b.size)
    clear hba hpa hba' hpa' hpa's hbb hpb hpbs hbla hblb
    have hloc : gb < sq.heap.size := hbbs.lt
    have hcc := hdk sq Ao co hB_sq (by omega) (Rd.more (hrO2.below hC_sq) hC_sq.size)
    have x0 := (hO2.below hC_sq).cell (j := 0) rfl
    have x1 := (hO2.below hC_sq).cell (j := 1) rfl
    have x2 := (hO2.below hC_sq).cell (j := 2) rfl
    have x3 := (hO2.below hC_sq).cell (j := 3) rfl
    have x4 := (hO2.below hC_sq).cell (j := 4) rfl
    have x5 := (hO2.below hC_sq).cell (j := 5) rfl
    have x6 := (hO2.below hC_sq).cell (j := 6) rfl
    have x7 := (hO2.below hC_sq).cell (j := 7) rfl
    unfold glV at hcc
    go_wp2_with (first | (with_reducible refine hold_append ?_) | (with_reducible refine hold_make ?_) | (with_reducible refine hold_copy ?_))
    refine hcc.mono ?_
    rintro e uc ⟨Ac, nc, cc, rfl, hoc, hnc, hBc⟩
    clear x0 x1 x2 x3 x4 x5 x6 x7 hcc
    have la := hba's.lt
    have lb := hbbs.lt
    have hi1 := hba's.below hBc
    have hj1 := hbbs.below hBc
    have hBu := hB_sq.trans (hBc.mono hB_sq.size)
    have hCu := hC_sq.trans (hBc.mono hC_sq.size)
    have hblc : ∀ g, blk Ac = some g → ga < g := fun g hg => by have := (hoc.blk_lt hg).1; omega
    go_wp2_with (first | (with_reducible refine hold_append ?_) | (with_reducible refine hold_make ?_) | (with_reducible refine hold_copy ?_) | (with_reducible refine hold_store ?_))
    refine unhold (wp_box (v := .agg #[.int .u32 (SD.1.x.fmt : Int), .string (str SD.1.x.glob), .string (str SD.1.x.bran), .int .u8 (SD.1.st : Int), .bool SD.1.com, .slice Ac nc cc, .int .u32 (SD.1.wait : Int), .int .u32 (SD.1.tries : Int)]) (vs := [.int .u32 (SD.1.x.fmt : Int), .string (str SD.1.x.glob), .string (str SD.1.x.bran), .int .u8 (SD.1.st : Int), .bool SD.1.com, .slice Ac nc cc, .int .u32 (SD.1.wait : Int), .int .u32 (SD.1.tries : Int)]) rfl rfl rfl rfl hi1 rfl (by kernel_rfl) (by simp) gl_one #[.int .u32 (SD.1.x.fmt : Int), .string (str SD.1.x.glob), .string (str SD.1.x.bran), .int .u8 (SD.1.st : Int), .bool SD.1.com, .slice Ac nc cc, .int .u32 (SD.1.wait : Int), .int .u32 (SD.1.tries : Int)] (by simp) ?_)
    intro vc hbc hgr _
    have hjc := hj1.grown hgr (by intro e; injection e with e; omega)
    have hpc := own_box hoc hgr (by omega)
    have hB_c := below_box hBu hgr (by omega)
    have hC_c := below_box hCu hgr (by omega)
    clear la lb hi1 hj1 hBu hCu hgr hoc hBc
    have hcd := hdr vc hB_c (by omega)
    have x0 := (hG2.below hC_c).cell (j := 0) rfl
    have x1 := (hG2.below hC_c).cell (j := 1) rfl
    have x2 := (hG2.below hC_c).cell (j := 2) rfl
    have x3 := (hG2.below hC_c).cell (j := 3) rfl
    have x4 := (hG2.below hC_c).cell (j := 4) rfl
    have x5 := (hG2.below hC_c).cell (j := 5) rfl
    have x6 := (hG2.below hC_c).cell (j := 6) rfl
    have x7 := (hG2.below hC_c).cell (j := 7) rfl
    unfold glV at hcd
    go_wp2_with (first | (with_reducible refine hold_append ?_) | (with_reducible refine hold_make ?_) | (with_reducible refine hold_copy ?_))
    refine hcd.mono ?_
    rintro e ud ⟨Ad, nd, cd, rfl, hod, hnd, hBd⟩
    clear x0 x1 x2 x3 x4 x5 x6 x7 hcd
    have la := hjc.lt
    have lb := hbc.lt
    have hi1 := hjc.below hBd
    have hj1 := hbc.below hBd
    have hBu := hB_c.trans (hBd.mono hB_c.size)
    have hCu := hC_c.trans (hBd.mono hC_c.size)
    have hq1 := own_below hpc hBd
    have hbld : ∀ g, blk Ad = some g → gb < g := fun g hg => by have := (hod.blk_lt hg).1; omega
    go_wp2_with (first | (with_reducible refine hold_append ?_) | (with_reducible refine hold_make ?_) | (with_reducible refine hold_copy ?_) | (with_reducible refine hold_store ?_))
    refine unhold (wp_box (v := .agg #[.int .u32 (SD.1.x.fmt : Int), .string (str SD.1.x.glob), .string (str SD.1.x.bran), .int .u8 (SD.1.st : Int), .bool SD.1.com, .slice Ad nd cd, .int .u32 (SD.1.wait : Int), .int .u32 (SD.1.tries : Int)]) (vs := [.int .u32 (SD.1.x.fmt : Int), .string (str SD.1.x.glob), .string (str SD.1.x.bran), .int .u8 (SD.1.st : Int), .bool SD.1.com, .slice Ad nd cd, .int .u32 (SD.1.wait : Int), .int .u32 (SD.1.tries : Int)]) rfl rfl rfl rfl hi1 rfl (by kernel_rfl) (by simp) gl_one #[.int .u32 (SD.1.x.fmt : Int), .string (str SD.1.x.glob), .string (str SD.1.x.bran), .int .u8 (SD.1.st : Int), .bool SD.1.com, .slice Ad nd cd, .int .u32 (SD.1.wait : Int), .int .u32 (SD.1.tries : Int)] (by simp) ?_)
    intro vd hbd hgr _
    have hjd := hj1.grown hgr (by intro e; injection e with e; omega)
    have hpd := own_box hod hgr (by omega)
    have hqd := own_box hq1 hgr (by omega)
    have hB_d := below_box hBu hgr (by omega)
    have hC_d := below_box hCu hgr (by omega)
    clear la lb hi1 hj1 hBu hCu hgr hod hBd hq1
    have hss := rsame_any SD.1 SD.1 Ac nc cc Ad nd cd _ _ (hqd.rd) (hpd.rd) (Nat.le_refl _) (by omega) (by omega)
    simp only [decide_true] at hss
    unfold glV at hss
    have x0 := hjd.cell (j := 0) rfl
    have x1 := hjd.cell (j := 1) rfl
    have x2 := hjd.cell (j := 2) rfl
    have x3 := hjd.cell (j := 3) rfl
    have x4 := hjd.cell (j := 4) rfl
    have x5 := hjd.cell (j := 5) rfl
    have x6 := hjd.cell (j := 6) rfl
    have x7 := hjd.cell (j := 7) rfl
    have y0 := hbd.cell (j := 0) rfl
    have y1 := hbd.cell (j := 1) rfl
    have y2 := hbd.cell (j := 2) rfl
    have y3 := hbd.cell (j := 3) rfl
    have y4 := hbd.cell (j := 4) rfl
    have y5 := hbd.cell (j := 5) rfl
    have y6 := hbd.cell (j := 6) rfl
    have y7 := hbd.cell (j := 7) rfl
    go_wp2_with (first | (with_reducible refine hold_append ?_) | (with_reducible refine hold_make ?_) | (with_reducible refine hold_copy ?_))
    refine hss.mono ?_
    rintro e sqc ⟨rfl, hSqc⟩
    clear x0 x1 x2 x3 x4 x5 x6 x7 y0 y1 y2 y3 y4 y5 y6 y7 hss
    have hjds := hjd.below hSqc
    have hqds := own_below hqd hSqc
    have hbds := hbd.below hSqc
    have hpds := own_below hpd hSqc
    have hB_sqc := hB_d.trans (hSqc.mono hB_d.size)
    have hC_sqc := hC_d.trans (hSqc.mono hC_d.size)
    clear hbc hjc hpc hbd hjd hpd hqd hqds hpds hblc hbld
    have hloi : gb < sqc.heap.size := hbds.lt
    have hci := hbk sqc Ao co hB_sqc (by omega) (Rd.more (hrO2.below hC_sqc) hC_sqc.size)
    have x0 := (hO2.below hC_sqc).cell (j := 0) rfl
    have x1 := (hO2.below hC_sqc).cell (j := 1) rfl
    have x2 := (hO2.below hC_sqc).cell (j := 2) rfl
    have x3 := (hO2.below hC_sqc).cell (j := 3) rfl
    have x4 := (hO2.below hC_sqc).cell (j := 4) rfl
    have x5 := (hO2.below hC_sqc).cell (j := 5) rfl
    have x6 := (hO2.below hC_sqc).cell (j := 6) rfl
    have x7 := (hO2.below hC_sqc).cell (j := 7) rfl
    unfold glV at hci
    go_wp2_with (first | (with_reducible refine hold_append ?_) | (with_reducible refine hold_make ?_) | (with_reducible refine hold_copy ?_))
    refine hci.mono ?_
    rintro e ui ⟨Ai, ni, ci, rfl, hoi, hni, hBi⟩
    clear x0 x1 x2 x3 x4 x5 x6 x7 hci
    have la := hjds.lt
    have lb := hbds.lt
    have hi1 := hjds.below hBi
    have hj1 := hbds.below hBi
    have hBu := hB_sqc.trans (hBi.mono hB_sqc.size)
    have hCu := hC_sqc.trans (hBi.mono hC_sqc.size)
    have hbli : ∀ g, blk Ai = some g → ga < g := fun g hg => by have := (hoi.blk_lt hg).1; omega
    go_wp2_with (first | (with_reducible refine hold_append ?_) | (with_reducible refine hold_make ?_) | (with_reducible refine hold_copy ?_) | (with_reducible refine hold_store ?_))
    refine unhold (wp_box (v := .agg #[.int .u32 (SB.1.x.fmt : Int), .string (str SB.1.x.glob), .string (str SB.1.x.bran), .int .u8 (SB.1.st : Int), .bool SB.1.com, .slice Ai ni ci, .int .u32 (SB.1.wait : Int), .int .u32 (SB.1.tries : Int)]) (vs := [.int .u32 (SB.1.x.fmt : Int), .string (str SB.1.x.glob), .string (str SB.1.x.bran), .int .u8 (SB.1.st : Int), .bool SB.1.com, .slice Ai ni ci, .int .u32 (SB.1.wait : Int), .int .u32 (SB.1.tries : Int)]) rfl rfl rfl rfl hi1 rfl (by kernel_rfl) (by simp) gl_one #[.int .u32 (SB.1.x.fmt : Int), .string (str SB.1.x.glob), .string (str SB.1.x.bran), .int .u8 (SB.1.st : Int), .bool SB.1.com, .slice Ai ni ci, .int .u32 (SB.1.wait : Int), .int .u32 (SB.1.tries : Int)] (by simp) ?_)
    intro vi hbi hgr _
    have hji := hj1.grown hgr (by intro e; injection e with e; omega)
    have hpi := own_box hoi hgr (by omega)
    have hB_i := below_box hBu hgr (by omega)
    have hC_i := below_box hCu hgr (by omega)
    clear la lb hi1 hj1 hBu hCu hgr hoi hBi
    have hck := hbr vi hB_i (by omega)
    have x0 := (hG2.below hC_i).cell (j := 0) rfl
    have x1 := (hG2.below hC_i).cell (j := 1) rfl
    have x2 := (hG2.below hC_i).cell (j := 2) rfl
    have x3 := (hG2.below hC_i).cell (j := 3) rfl
    have x4 := (hG2.below hC_i).cell (j := 4) rfl
    have x5 := (hG2.below hC_i).cell (j := 5) rfl
    have x6 := (hG2.below hC_i).cell (j := 6) rfl
    have x7 := (hG2.below hC_i).cell (j := 7) rfl
    unfold glV at hck
    go_wp2_with (first | (with_reducible refine hold_append ?_) | (with_reducible refine hold_make ?_) | (with_reducible refine hold_copy ?_))
    refine hck.mono ?_
    rintro e uk ⟨Ak, nk, ck, rfl, hok, hnk, hBk⟩
    clear x0 x1 x2 x3 x4 x5 x6 x7 hck
    have la := hji.lt
    have lb := hbi.lt
    have hi1 := hji.below hBk
    have hj1 := hbi.below hBk
    have hBu := hB_i.trans (hBk.mono hB_i.size)
    have hCu := hC_i.trans (hBk.mono hC_i.size)
    have hq1 := own_below hpi hBk
    have hblk : ∀ g, blk Ak = some g → gb < g := fun g hg => by have := (hok.blk_lt hg).1; omega
    go_wp2_with (first | (with_reducible refine hold_append ?_) | (with_reducible refine hold_make ?_) | (with_reducible refine hold_copy ?_) | (with_reducible refine hold_store ?_))
    refine unhold (wp_box (v := .agg #[.int .u32 (SB.1.x.fmt : Int), .string (str SB.1.x.glob), .string (str SB.1.x.bran), .int .u8 (SB.1.st : Int), .bool SB.1.com, .slice Ak nk ck, .int .u32 (SB.1.wait : Int), .int .u32 (SB.1.tries : Int)]) (vs := [.int .u32 (SB.1.x.fmt : Int), .string (str SB.1.x.glob), .string (str SB.1.x.bran), .int .u8 (SB.1.st : Int), .bool SB.1.com, .slice Ak nk ck, .int .u32 (SB.1.wait : Int), .int .u32 (SB.1.tries : Int)]) rfl rfl rfl rfl hi1 rfl (by kernel_rfl) (by simp) gl_one #[.int .u32 (SB.1.x.fmt : Int), .string (str SB.1.x.glob), .string (str SB.1.x.bran), .int .u8 (SB.1.st : Int), .bool SB.1.com, .slice Ak nk ck, .int .u32 (SB.1.wait : Int), .int .u32 (SB.1.tries : Int)] (by simp) ?_)
    intro vk hbk hgr _
    have hjk := hj1.grown hgr (by intro e; injection e with e; omega)
    have hpk := own_box hok hgr (by omega)
    have hqk := own_box hq1 hgr (by omega)
    have hB_k := below_box hBu hgr (by omega)
    have hC_k := below_box hCu hgr (by omega)
    clear la lb hi1 hj1 hBu hCu hgr hok hBk hq1
    have hss := rsame_any SB.1 SB.1 Ai ni ci Ak nk ck _ _ (hqk.rd) (hpk.rd) (Nat.le_refl _) (by omega) (by omega)
    simp only [decide_true] at hss
    unfold glV at hss
    have x0 := hjk.cell (j := 0) rfl
    have x1 := hjk.cell (j := 1) rfl
    have x2 := hjk.cell (j := 2) rfl
    have x3 := hjk.cell (j := 3) rfl
    have x4 := hjk.cell (j := 4) rfl
    have x5 := hjk.cell (j := 5) rfl
    have x6 := hjk.cell (j := 6) rfl
    have x7 := hjk.cell (j := 7) rfl
    have y0 := hbk.cell (j := 0) rfl
    have y1 := hbk.cell (j := 1) rfl
    have y2 := hbk.cell (j := 2) rfl
    have y3 := hbk.cell (j := 3) rfl
    have y4 := hbk.cell (j := 4) rfl
    have y5 := hbk.cell (j := 5) rfl
    have y6 := hbk.cell (j := 6) rfl
    have y7 := hbk.cell (j := 7) rfl
    go_wp2_with (first | (with_reducible refine hold_append ?_) | (with_reducible refine hold_make ?_) | (with_reducible refine hold_copy ?_))
    refine hss.mono ?_
    rintro e sqi ⟨rfl, hSqi⟩
    clear x0 x1 x2 x3 x4 x5 x6 x7 y0 y1 y2 y3 y4 y5 y6 y7 hss
    have hjks := hjk.below hSqi
    have hqks := own_below hqk hSqi
    have hbks := hbk.below hSqi
    have hpks := own_below hpk hSqi
    have hB_sqi := hB_k.trans (hSqi.mono hB_k.size)
    have hC_sqi := hC_k.trans (hSqi.mono hC_k.size)
    clear hbi hji hpi hbk hjk hpk hqk hqks hpks hbli hblk
    have hlot : gb < sqi.heap.size := hbks.lt
    have hct := htk sqi Ao co hB_sqi (by omega) (Rd.more (hrO2.below hC_sqi) hC_sqi.size)
    have x0 := (hO2.below hC_sqi).cell (j := 0) rfl
    have x1 := (hO2.below hC_sqi).cell (j := 1) rfl
    have x2 := (hO2.below hC_sqi).cell (j := 2) rfl
    have x3 := (hO2.below hC_sqi).cell (j := 3) rfl
    have x4 := (hO2.below hC_sqi).cell (j := 4) rfl
    have x5 := (hO2.below hC_sqi).cell (j := 5) rfl
    have x6 := (hO2.below hC_sqi).cell (j := 6) rfl
    have x7 := (hO2.below hC_sqi).cell (j := 7) rfl
    unfold glV at hct
    go_wp2_with (first | (with_reducible refine hold_append ?_) | (with_reducible refine hold_make ?_) | (with_reducible refine hold_copy ?_))
    refine hct.mono ?_
    rintro e ut ⟨At, nt, ct, rfl, hot, hnt, hBt⟩
    clear x0 x1 x2 x3 x4 x5 x6 x7 hct
    have la := hjks.lt
    have lb := hbks.lt
    have hi1 := hjks.below hBt
    have hj1 := hbks.below hBt
    have hBu := hB_sqi.trans (hBt.mono hB_sqi.size)
    have hCu := hC_sqi.trans (hBt.mono hC_sqi.size)
    have hblt : ∀ g, blk At = some g → ga < g := fun g hg => by have := (hot.blk_lt hg).1; omega
    go_wp2_with (first | (with_reducible refine hold_append ?_) | (with_reducible refine hold_make ?_) | (with_reducible refine hold_copy ?_) | (with_reducible refine hold_store ?_))
    refine unhold (wp_box (v := .agg #[.int .u32 (ST.1.x.fmt : Int), .string (str ST.1.x.glob), .string (str ST.1.x.bran), .int .u8 (ST.1.st : Int), .bool ST.1.com, .slice At nt ct, .int .u32 (ST.1.wait : Int), .int .u32 (ST.1.tries : Int)]) (vs := [.int .u32 (ST.1.x.fmt : Int), .string (str ST.1.x.glob), .string (str ST.1.x.bran), .int .u8 (ST.1.st : Int), .bool ST.1.com, .slice At nt ct, .int .u32 (ST.1.wait : Int), .int .u32 (ST.1.tries : Int)]) rfl rfl rfl rfl hi1 rfl (by kernel_rfl) (by simp) gl_one #[.int .u32 (ST.1.x.fmt : Int), .string (str ST.1.x.glob), .string (str ST.1.x.bran), .int .u8 (ST.1.st : Int), .bool ST.1.com, .slice At nt ct, .int .u32 (ST.1.wait : Int), .int .u32 (ST.1.tries : Int)] (by simp) ?_)
    intro vt hbt hgr _
    have hjt := hj1.grown hgr (by intro e; injection e with e; omega)
    have hpt := own_box hot hgr (by omega)
    have hB_t := below_box hBu hgr (by omega)
    have hC_t := below_box hCu hgr (by omega)
    clear la lb hi1 hj1 hBu hCu hgr hot hBt
    have hcy := htr vt hB_t (by omega)
    have x0 := (hG2.below hC_t).cell (j := 0) rfl
    have x1 := (hG2.below hC_t).cell (j := 1) rfl
    have x2 := (hG2.below hC_t).cell (j := 2) rfl
    have x3 := (hG2.below hC_t).cell (j := 3) rfl
    have x4 := (hG2.below hC_t).cell (j := 4) rfl
    have x5 := (hG2.below hC_t).cell (j := 5) rfl
    have x6 := (hG2.below hC_t).cell (j := 6) rfl
    have x7 := (hG2.below hC_t).cell (j := 7) rfl
    unfold glV at hcy
    go_wp2_with (first | (with_reducible refine hold_append ?_) | (with_reducible refine hold_make ?_) | (with_reducible refine hold_copy ?_))
    refine hcy.mono ?_
    rintro e uy ⟨Ay, ny, cy, rfl, hoy, hny, hBy⟩
    clear x0 x1 x2 x3 x4 x5 x6 x7 hcy
    have la := hjt.lt
    have lb := hbt.lt
    have hi1 := hjt.below hBy
    have hj1 := hbt.below hBy
    have hBu := hB_t.trans (hBy.mono hB_t.size)
    have hCu := hC_t.trans (hBy.mono hC_t.size)
    have hq1 := own_below hpt hBy
    have hbly : ∀ g, blk Ay = some g → gb < g := fun g hg => by have := (hoy.blk_lt hg).1; omega
    go_wp2_with (first | (with_reducible refine hold_append ?_) | (with_reducible refine hold_make ?_) | (with_reducible refine hold_copy ?_) | (with_reducible refine hold_store ?_))
    refine unhold (wp_box (v := .agg #[.int .u32 (ST.1.x.fmt : Int), .string (str ST.1.x.glob), .string (str ST.1.x.bran), .int .u8 (ST.1.st : Int), .bool ST.1.com, .slice Ay ny cy, .int .u32 (ST.1.wait : Int), .int .u32 (ST.1.tries : Int)]) (vs := [.int .u32 (ST.1.x.fmt : Int), .string (str ST.1.x.glob), .string (str ST.1.x.bran), .int .u8 (ST.1.st : Int), .bool ST.1.com, .slice Ay ny cy, .int .u32 (ST.1.wait : Int), .int .u32 (ST.1.tries : Int)]) rfl rfl rfl rfl hi1 rfl (by kernel_rfl) (by simp) gl_one #[.int .u32 (ST.1.x.fmt : Int), .string (str ST.1.x.glob), .string (str ST.1.x.bran), .int .u8 (ST.1.st : Int), .bool ST.1.com, .slice Ay ny cy, .int .u32 (ST.1.wait : Int), .int .u32 (ST.1.tries : Int)] (by simp) ?_)
    intro vy hby hgr _
    have hjy := hj1.grown hgr (by intro e; injection e with e; omega)
    have hpy := own_box hoy hgr (by omega)
    have hqy := own_box hq1 hgr (by omega)
    have hB_y := below_box hBu hgr (by omega)
    have hC_y := below_box hCu hgr (by omega)
    clear la lb hi1 hj1 hBu hCu hgr hoy hBy hq1
    have hss := rsame_any ST.1 ST.1 At nt ct Ay ny cy _ _ (hqy.rd) (hpy.rd) (Nat.le_refl _) (by omega) (by omega)
    simp only [decide_true] at hss
    unfold glV at hss
    have x0 := hjy.cell (j := 0) rfl
    have x1 := hjy.cell (j := 1) rfl
    have x2 := hjy.cell (j := 2) rfl
    have x3 := hjy.cell (j := 3) rfl
    have x4 := hjy.cell (j := 4) rfl
    have x5 := hjy.cell (j := 5) rfl
    have x6 := hjy.cell (j := 6) rfl
    have x7 := hjy.cell (j := 7) rfl
    have y0 := hby.cell (j := 0) rfl
    have y1 := hby.cell (j := 1) rfl
    have y2 := hby.cell (j := 2) rfl
    have y3 := hby.cell (j := 3) rfl
    have y4 := hby.cell (j := 4) rfl
    have y5 := hby.cell (j := 5) rfl
    have y6 := hby.cell (j := 6) rfl
    have y7 := hby.cell (j := 7) rfl
    go_wp2_with (first | (with_reducible refine hold_append ?_) | (with_reducible refine hold_make ?_) | (with_reducible refine hold_copy ?_))
    refine hss.mono ?_
    rintro e sqt ⟨rfl, hSqt⟩
    clear x0 x1 x2 x3 x4 x5 x6 x7 y0 y1 y2 y3 y4 y5 y6 y7 hss
    have hjys := hjy.below hSqt
    have hqys := own_below hqy hSqt
    have hbys := hby.below hSqt
    have hpys := own_below hpy hSqt
    have hB_sqt := hB_y.trans (hSqt.mono hB_y.size)
    have hC_sqt := hC_y.trans (hSqt.mono hC_y.size)
    go_wp2_with (first | (with_reducible refine hold_append ?_) | (with_reducible refine hold_make ?_) | (with_reducible refine hold_copy ?_))
    go_loopw [12] (fun s wr => ∃ (k : Nat), k ≤ nt ∧ s = .int .i64 k ∧ Hid (∃ T, OwnP wr (v2.heap.size) At nt ct T) ∧ Box wr ga 28 #[.int .u32 (ST.1.x.fmt : Int), .string (str ST.1.x.glob), .string (str ST.1.x.bran), .int .u8 (ST.1.st : Int), .bool ST.1.com, .slice At nt ct, .int .u32 (ST.1.wait : Int), .int .u32 (ST.1.tries : Int)] ∧ Below v2.heap.size v2 wr ∧ Below w.heap.size w wr) (fun s _ => nt - (RowKit.intOf s).toNat)
    case atStart => exact ⟨0, by omega, rfl, Lib.hid ⟨_, Own.base_le hqys (by first | exact Nat.le_refl _ | exact hC_sqi.size)⟩, hjys, hC_sqt, hB_sqt⟩
    case round =>
      obtain ⟨k, hk, rfl, HOT, hbT, hCT, hBT⟩ := hrel
      obtain ⟨T, hoT⟩ := HOT.out
      clear HOT
      have hszB := hB2.size
      have hszT := hBT.size
      have hszC := hCT.size
      have y5 := hbT.cell (j := 5) rfl
      by_cases hlt : k < nt
      · have hkn : (k : Int) < (nt : Int) := by omega
        obtain ⟨ab, hAb, hab1, hab2⟩ := own_some hoT (by omega)
        have habg := hblt ab (by rw [hAb]; rfl)
        rw [hAb] at hoT y5
        have HAb := Lib.hid hAb
        clear hAb
        have hkT : k < T.length := by rw [own_len ptShape hoT]; exact hlt
        go_wp2_with (first | (with_reducible refine hold_append ?_) | (with_reducible refine hold_make ?_) | (with_reducible refine hold_copy ?_) | (with_reducible refine hold_store ?_))
        refine unhold (wp_recset ptShape rfl rfl rfl rfl hoT (k := k) (i := 0) (vs := [.int .u8 99]) hlt hkT { T[k] with node := 99 } rfl (by kernel_rfl) (by simp [ptC]) (by simp) (by omega) ?_)
        intro w5 ho5 hg5 _
        rw [← HAb.out] at ho5
        have hb5 := hbT.grown hg5 (by intro e; injection e with e; omega)
        have hC5 := hCT.grown hg5 hszC (fun g e => by injection e with e; omega)
        have hB5 := hBT.grown hg5 hszT (fun g e => by injection e with e; omega)
        clear hoT hbT hCT hBT y5 hg5
        go_wp2_with (first | (with_reducible refine hold_append ?_) | (with_reducible refine hold_make ?_) | (with_reducible refine hold_copy ?_))
        exact ⟨⟨k + 1, by omega, by go_num, Lib.hid ⟨_, ho5⟩, hb5, hC5, hB5⟩, by simp [RowKit.intOf]; omega⟩
      · have hkk : nt = k := by omega
        subst hkk
        have hss := rsame_any G G Ao n co A n c v2.heap.size wr (hrO2.below hCT) (Rd.more (hrG wr hBT) (by have := hB2.size; omega)) hszC (by omega) (by omega)
        simp only [decide_true] at hss
        unfold glV at hss
        have x0 := (hO2.below hCT).cell (j := 0) rfl
        have x1 := (hO2.below hCT).cell (j := 1) rfl
        have x2 := (hO2.below hCT).cell (j := 2) rfl
        have x3 := (hO2.below hCT).cell (j := 3) rfl
        have x4 := (hO2.below hCT).cell (j := 4) rfl
        have x5 := (hO2.below hCT).cell (j := 5) rfl
        have x6 := (hO2.below hCT).cell (j := 6) rfl
        have x7 := (hO2.below hCT).cell (j := 7) rfl
        have z0 := (hG2.below hCT).cell (j := 0) rfl
        have z1 := (hG2.below hCT).cell (j := 1) rfl
        have z2 := (hG2.below hCT).cell (j := 2) rfl
        have z3 := (hG2.below hCT).cell (j := 3) rfl
        have z4 := (hG2.below hCT).cell (j := 4) rfl
        have z5 := (hG2.below hCT).cell (j := 5) rfl
        have z6 := (hG2.below hCT).cell (j := 6) rfl
        have z7 := (hG2.below hCT).cell (j := 7) rfl
        go_wp2_with (first | (with_reducible refine hold_append ?_) | (with_reducible refine hold_make ?_) | (with_reducible refine hold_copy ?_))
        refine hss.mono ?_
        rintro e w7 ⟨rfl, hB7⟩
        have hBT7 := hBT.trans (hB7.mono hBT.size)
        clear x0 x1 x2 x3 x4 x5 x6 x7 z0 z1 z2 z3 z4 z5 z6 z7 y5 hss
        go_wp2_with (first | (with_reducible refine hold_append ?_) | (with_reducible refine hold_make ?_) | (with_reducible refine hold_copy ?_))
        refine (ghead_any _).mono ?_
        rintro e w9 ⟨rfl, hB9⟩
        go_wp2_with (first | (with_reducible refine hold_append ?_) | (with_reducible refine hold_make ?_) | (with_reducible refine hold_copy ?_))
        go_ret
        exact ⟨rfl, hBT7.trans (hB9.mono hBT7.size)⟩
end Go.PH
end

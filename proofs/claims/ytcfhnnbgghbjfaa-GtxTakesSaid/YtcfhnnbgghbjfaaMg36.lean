/- Texts laid together: GtLawTakes. -/
import Derived.Test.YtcfhnnbgghbjfaaMg12
import Derived.Test.YtcfhnnbgghbjfaaMg26
import Derived.Test.YtcfhnnbgghbjfaaMg27
import Derived.Test.YtcfhnnbgghbjfaaMg33
section
/- The law GtxTakes, walked. -/
set_option linter.all false
set_option linter.unusedSimpArgs false
set_option linter.unusedVariables false
namespace Go.PH
open Go.RowKit Go.Proofs

set_option maxRecDepth 20000 in
set_option maxHeartbeats 4000000 in
theorem law_GtxTakes (G : Gl) (node : Nat) (l : Lt) (A : Option Addr) (n c : Nat) (An : Option Addr) (nn cn : Nat) (w : World) (hG : G.wf) (hl : l.wf) (hr : RdP w w.heap.size A n c G.parts) (hrn : RdX w w.heap.size An nn cn l.names) (hn : n ≤ 140737488351232) (hnn : nn ≤ 140737488351232) :
    Calls Try.prog 3 #[.agg (glV G A n c), .int .u8 (node : Int), .agg (ltV l An nn cn)] w fun e w' => e = .returned (.bool true) ∧ Below w.heap.size w w' := by
  have hrG := fun W (hW : Below w.heap.size w W) => hr.below hW
  have hcp := fun W (hW : Below w.heap.size w W) (h : n ≤ 20) => rcopy_any G A n c w.heap.size W (hr.below hW) hW.size (by omega)
  have htk := fun W A2 c2 (hW : Below w.heap.size w W) (h : n ≤ 20) (h' : nn ≤ 300) (h2 : RdP W W.heap.size A2 n c2 G.parts) => take_any G node l A2 n c2 An nn cn W.heap.size W hG hl h2 (Rd.more (hrn.below hW) hW.size) (Nat.le_refl _) (by omega) (by omega)
  have hrt := fun W (hW : Below w.heap.size w W) (h : n ≤ 20) (h' : nn ≤ 300) => rtake_any G node l A n c An nn cn w.heap.size W hG hl (hr.below hW) (hrn.below hW) hW.size (by omega) (by omega)
  unfold TurnR at htk hrt
  generalize G.take node l = S at *
  unfold glV at hcp ⊢
  unfold ltV
  clear hG hl hr hrn
  obtain ⟨hG0, hL0, hB0⟩ := box2_of w #[.int .u32 (G.x.fmt : Int), .string (str G.x.glob), .string (str G.x.bran), .int .u8 (G.st : Int), .bool G.com, .slice A n c, .int .u32 (G.wait : Int), .int .u32 (G.tries : Int)] #[.int .u8 (l.kind : Int), .int .u32 (l.x.fmt : Int), .string (str l.x.glob), .string (str l.x.bran), .int .u8 (l.xa : Int), .int .u16 (l.no : Int), .slice An nn cn] 28 33
  obtain ⟨w0, hw0⟩ : ∃ w0, w0 = ((w.alloc (.cells #[.int .u32 (G.x.fmt : Int), .string (str G.x.glob), .string (str G.x.bran), .int .u8 (G.st : Int), .bool G.com, .slice A n c, .int .u32 (G.wait : Int), .int .u32 (G.tries : Int)] 28)).alloc (.cells #[.int .u8 (l.kind : Int), .int .u32 (l.x.fmt : Int), .string (str l.x.glob), .string (str l.x.bran), .int .u8 (l.xa : Int), .int .u16 (l.no : Int), .slice An nn cn] 33)) := ⟨_, rfl⟩
  rw [← hw0] at hG0 hL0 hB0
  have l4 := hL0.cell (j := 6) rfl
  have x0 := hG0.cell (j := 0) rfl
  have x1 := hG0.cell (j := 1) rfl
  have x2 := hG0.cell (j := 2) rfl
  have x3 := hG0.cell (j := 3) rfl
  have x4 := hG0.cell (j := 4) rfl
  have x5 := hG0.cell (j := 5) rfl
  have x6 := hG0.cell (j := 6) rfl
  have x7 := hG0.cell (j := 7) rfl
  have hgt := great_any G A n c w0
  unfold glV at hgt
  go_enter Try.func3, Try.ntmps3
  go_upto_region 1 with fail
  rw [← hw0]
  clear hw0
  go_wp2_with (first | (with_reducible refine hold_append ?_) | (with_reducible refine hold_make ?_) | (with_reducible refine hold_copy ?_))
  refine hgt.mono ?_
  rintro e w1 ⟨rfl, hB1⟩
  have hG1 := hG0.below hB1
  have hB01 := hB0.trans (hB1.mono hB0.size)
  have hL1 := hL0.below hB1
  have l4 := hL1.cell (j := 6) rfl
  clear x0 x1 x2 x3 x4 x5 x6 x7 hgt hG0 hB0 hB1 hL0
  by_cases h1 : 20 < n
  · have b1 : decide (20 < n) = true := by simpa using h1
    rw [b1]
    clear b1
    go_wp2_with (first | (with_reducible refine hold_append ?_) | (with_reducible refine hold_make ?_) | (with_reducible refine hold_copy ?_))
    refine (ghead_any _).mono ?_
    rintro e w9 ⟨rfl, hB9⟩
    go_wp2_with (first | (with_reducible refine hold_append ?_) | (with_reducible refine hold_make ?_) | (with_reducible refine hold_copy ?_))
    go_ret
    exact ⟨rfl, hB01.trans (hB9.mono hB01.size)⟩
  · have b1 : decide (20 < n) = false := by simpa using h1
    rw [b1]
    clear b1
    by_cases h2 : 300 < nn
    · have b2 : decide ((300 : Int) < (nn : Int)) = true := by simp; omega
      go_wp2_with (first | (with_reducible refine hold_append ?_) | (with_reducible refine hold_make ?_) | (with_reducible refine hold_copy ?_))
      refine (ghead_any _).mono ?_
      rintro e w9 ⟨rfl, hB9⟩
      go_wp2_with (first | (with_reducible refine hold_append ?_) | (with_reducible refine hold_make ?_) | (with_reducible refine hold_copy ?_))
      go_ret
      exact ⟨rfl, hB01.trans (hB9.mono hB01.size)⟩
    · have b2 : decide ((300 : Int) < (nn : Int)) = false := by simp; omega
      have hcp1 := hcp w1 hB01 (by omega)
      have x0 := hG1.cell (j := 0) rfl
      have x1 := hG1.cell (j := 1) rfl
      have x2 := hG1.cell (j := 2) rfl
      have x3 := hG1.cell (j := 3) rfl
      have x4 := hG1.cell (j := 4) rfl
      have x5 := hG1.cell (j := 5) rfl
      have x6 := hG1.cell (j := 6) rfl
      have x7 := hG1.cell (j := 7) rfl
      go_wp2_with (first | (with_reducible refine hold_append ?_) | (with_reducible refine hold_make ?_) | (with_reducible refine hold_copy ?_))
      refine hcp1.mono ?_
      rintro e w2 ⟨Ao, co, rfl, hoO, hB2⟩
      clear x0 x1 x2 x3 x4 x5 x6 x7 hcp hcp1 l4 b2
      have hOn := Box.new w2 #[.int .u32 (G.x.fmt : Int), .string (str G.x.glob), .string (str G.x.bran), .int .u8 (G.st : Int), .bool G.com, .slice Ao n co, .int .u32 (G.wait : Int), .int .u32 (G.tries : Int)] 28
      have hC2 := hB2.alloc hB2.size (.cells #[.int .u32 (G.x.fmt : Int), .string (str G.x.glob), .string (str G.x.bran), .int .u8 (G.st : Int), .bool G.com, .slice Ao n co, .int .u32 (G.wait : Int), .int .u32 (G.tries : Int)] 28)
      have hB2 := hB01.trans (hC2.mono hB01.size)
      have hGn := hG1.below hC2
      have hLn := hL1.below hC2
      have hrn : RdP (w2.alloc (.cells #[.int .u32 (G.x.fmt : Int), .string (str G.x.glob), .string (str G.x.bran), .int .u8 (G.st : Int), .bool G.com, .slice Ao n co, .int .u32 (G.wait : Int), .int .u32 (G.tries : Int)] 28)) (w2.alloc (.cells #[.int .u32 (G.x.fmt : Int), .string (str G.x.glob), .string (str G.x.bran), .int .u8 (G.st : Int), .bool G.com, .slice Ao n co, .int .u32 (G.wait : Int), .int .u32 (G.tries : Int)] 28)).heap.size Ao n co G.parts := Rd.more (hoO.rd.below ((Below.refl w2.heap.size w2).alloc (Nat.le_refl _) _)) (by simp)
      go_upto_region 4 with fail
      obtain ⟨go, hgo⟩ : ∃ go, go = w2.heap.size := ⟨_, rfl⟩
      rw [← hgo] at hOn ⊢
      clear hgo hoO hC2
      generalize (w2.alloc (.cells #[.int .u32 (G.x.fmt : Int), .string (str G.x.glob), .string (str G.x.bran), .int .u8 (G.st : Int), .bool G.com, .slice Ao n co, .int .u32 (G.wait : Int), .int .u32 (G.tries : Int)] 28)) = v2 at *
      have hG2 := hGn
      have hO2 := hOn
      have hrO2 := hrn
      have hrG2 := hrG v2 hB2
      clear hGn hOn hrn hG1 hB01 hL1
      have hL2 := hLn
      clear hLn
      have hCr := Below.refl v2.heap.size v2
      have hca := htk v2 Ao co hB2 (by omega) (by omega) hrO2
      have x0 := (hO2.below hCr).cell (j := 0) rfl
      have x1 := (hO2.below hCr).cell (j := 1) rfl
      have x2 := (hO2.below hCr).cell (j := 2) rfl
      have x3 := (hO2.below hCr).cell (j := 3) rfl
      have x4 := (hO2.below hCr).cell (j := 4) rfl
      have x5 := (hO2.below hCr).cell (j := 5) rfl
      have x6 := (hO2.below hCr).cell (j := 6) rfl
      have x7 := (hO2.below hCr).cell (j := 7) rfl
      have l0 := (hL2.below hCr).cell (j := 0) rfl
      have l1 := (hL2.below hCr).cell (j := 1) rfl
      have l2 := (hL2.below hCr).cell (j := 2) rfl
      have l3 := (hL2.below hCr).cell (j := 3) rfl
      have l4 := (hL2.below hCr).cell (j := 4) rfl
      have l5 := (hL2.below hCr).cell (j := 5) rfl
      have l6 := (hL2.below hCr).cell (j := 6) rfl
      unfold glV at hca
      unfold ltV at hca
      go_wp2_with (first | (with_reducible refine hold_append ?_) | (with_reducible refine hold_make ?_) | (with_reducible refine hold_copy ?_))
      refine hca.mono ?_
      rintro e ua ⟨Aa, na, ca, rfl, hoa, hna, hBa⟩
      clear x0 x1 x2 x3 x4 x5 x6 x7 hca l0 l1 l2 l3 l4 l5 l6
      have hbx := Box.new ua #[.int .u32 (S.1.x.fmt : Int), .string (str S.1.x.glob), .string (str S.1.x.bran), .int .u8 (S.1.st : Int), .bool S.1.com, .slice Aa na ca, .int .u32 (S.1.wait : Int), .int .u32 (S.1.tries : Int)] 28
      have hDa := hBa.alloc hBa.size (.cells #[.int .u32 (S.1.x.fmt : Int), .string (str S.1.x.glob), .string (str S.1.x.bran), .int .u8 (S.1.st : Int), .bool S.1.com, .slice Aa na ca, .int .u32 (S.1.wait : Int), .int .u32 (S.1.tries : Int)] 28)
      have hbla : ∀ g, blk Aa = some g → g < ua.heap.size := fun g hg => (hoa.blk_lt hg).2
      have hgla : v2.heap.size ≤ ua.heap.size := hBa.size
      have hox : OwnP (ua.alloc (.cells #[.int .u32 (S.1.x.fmt : Int), .string (str S.1.x.glob), .string (str S.1.x.bran), .int .u8 (S.1.st : Int), .bool S.1.com, .slice Aa na ca, .int .u32 (S.1.wait : Int), .int .u32 (S.1.tries : Int)] 28)) v2.heap.size Aa na ca S.1.parts := hoa.alloc _
      have hBx := hB2.trans (hDa.mono hB2.size)
      have hCx := hCr.trans (hDa.mono hCr.size)
      go_upto_region 5 with fail
      obtain ⟨ga, hga⟩ : ∃ ga, ga = ua.heap.size := ⟨_, rfl⟩
      rw [← hga] at hbx hbla hgla ⊢
      clear hga hoa hBa hDa
      generalize (ua.alloc (.cells #[.int .u32 (S.1.x.fmt : Int), .string (str S.1.x.glob), .string (str S.1.x.bran), .int .u8 (S.1.st : Int), .bool S.1.com, .slice Aa na ca, .int .u32 (S.1.wait : Int), .int .u32 (S.1.tries : Int)] 28)) = va at *
      have hba := hbx
      have hpa := hox
      have hB_a := hBx
      have hC_a := hCx
      clear hbx hox hBx hCx
      have hcb := hrt va hB_a (by omega) (by omega)
      have x0 := (hG2.below hC_a).cell (j := 0) rfl
      have x1 := (hG2.below hC_a).cell (j := 1) rfl
      have x2 := (hG2.below hC_a).cell (j := 2) rfl
      have x3 := (hG2.below hC_a).cell (j := 3) rfl
      have x4 := (hG2.below hC_a).cell (j := 4) rfl
      have x5 := (hG2.below hC_a).cell (j := 5) rfl
      have x6 := (hG2.below hC_a).cell (j := 6) rfl
      have x7 := (hG2.below hC_a).cell (j := 7) rfl
      have l0 := (hL2.below hC_a).cell (j := 0) rfl
      have l1 := (hL2.below hC_a).cell (j := 1) rfl
      have l2 := (hL2.below hC_a).cell (j := 2) rfl
      have l3 := (hL2.below hC_a).cell (j := 3) rfl
      have l4 := (hL2.below hC_a).cell (j := 4) rfl
      have l5 := (hL2.below hC_a).cell (j := 5) rfl
      have l6 := (hL2.below hC_a).cell (j := 6) rfl
      unfold glV at hcb
      unfold ltV at hcb
      go_wp2_with (first | (with_reducible refine hold_append ?_) | (with_reducible refine hold_make ?_) | (with_reducible refine hold_copy ?_))
      refine hcb.mono ?_
      rintro e ub ⟨Ab, nb, cb, rfl, hob, hnb, hBb⟩
      clear x0 x1 x2 x3 x4 x5 x6 x7 hcb l0 l1 l2 l3 l4 l5 l6
      have hbx := Box.new ub #[.int .u32 (S.1.x.fmt : Int), .string (str S.1.x.glob), .string (str S.1.x.bran), .int .u8 (S.1.st : Int), .bool S.1.com, .slice Ab nb cb, .int .u32 (S.1.wait : Int), .int .u32 (S.1.tries : Int)] 28
      have hDb := hBb.alloc hBb.size (.cells #[.int .u32 (S.1.x.fmt : Int), .string (str S.1.x.glob), .string (str S.1.x.bran), .int .u8 (S.1.st : Int), .bool S.1.com, .slice Ab nb cb, .int .u32 (S.1.wait : Int), .int .u32 (S.1.tries : Int)] 28)
      have hblb : ∀ g, blk Ab = some g → g < ub.heap.size := fun g hg => (hob.blk_lt hg).2
      have hglb : va.heap.size ≤ ub.heap.size := hBb.size
      have hox : OwnP (ub.alloc (.cells #[.int .u32 (S.1.x.fmt : Int), .string (str S.1.x.glob), .string (str S.1.x.bran), .int .u8 (S.1.st : Int), .bool S.1.com, .slice Ab nb cb, .int .u32 (S.1.wait : Int), .int .u32 (S.1.tries : Int)] 28)) va.heap.size Ab nb cb S.1.parts := hob.alloc _
      have hbp := hba.below hDb
      have hop := own_below hpa hDb
      have hBx := hB_a.trans (hDb.mono hB_a.size)
      have hCx := hC_a.trans (hDb.mono hC_a.size)
      go_upto_region 6 with fail
      obtain ⟨gb, hgb⟩ : ∃ gb, gb = ub.heap.size := ⟨_, rfl⟩
      rw [← hgb] at hbx hblb hglb ⊢
      clear hgb hob hBb hDb
      generalize (ub.alloc (.cells #[.int .u32 (S.1.x.fmt : Int), .string (str S.1.x.glob), .string (str S.1.x.bran), .int .u8 (S.1.st : Int), .bool S.1.com, .slice Ab nb cb, .int .u32 (S.1.wait : Int), .int .u32 (S.1.tries : Int)] 28)) = vb at *
      have hbb := hbx
      have hpb := hox
      have hB_b := hBx
      have hC_b := hCx
      clear hbx hox hBx hCx
      have hba' := hbp
      have hpa' := hop
      clear hbp hop
      have hss := rsame_any S.1 S.1 Aa na ca Ab nb cb _ _ (hpa'.rd) (hpb.rd) (Nat.le_refl _) (by omega) (by omega)
      simp only [decide_true] at hss
      unfold glV at hss
      have x0 := hba'.cell (j := 0) rfl
      have x1 := hba'.cell (j := 1) rfl
      have x2 := hba'.cell (j := 2) rfl
      have x3 := hba'.cell (j := 3) rfl
      have x4 := hba'.cell (j := 4) rfl
      have x5 := hba'.cell (j := 5) rfl
      have x6 := hba'.cell (j := 6) rfl
      have x7 := hba'.cell (j := 7) rfl
      have y0 := hbb.cell (j := 0) rfl
      have y1 := hbb.cell (j := 1) rfl
      have y2 := hbb.cell (j := 2) rfl
      have y3 := hbb.cell (j := 3) rfl
      have y4 := hbb.cell (j := 4) rfl
      have y5 := hbb.cell (j := 5) rfl
      have y6 := hbb.cell (j := 6) rfl
      have y7 := hbb.cell (j := 7) rfl
      go_wp2_with (first | (with_reducible refine hold_append ?_) | (with_reducible refine hold_make ?_) | (with_reducible refine hold_copy ?_))
      refine hss.mono ?_
      rintro e sq ⟨rfl, hSq⟩
      clear x0 x1 x2 x3 x4 x5 x6 x7 y0 y1 y2 y3 y4 y5 y6 y7 hss
      have hba's := hba'.below hSq
      have hpa's := own_below hpa' hSq
      have hbbs := hbb.below hSq
      have hpbs := own_below hpb hSq
      have hB_sq := hB_b.trans (hSq.mono hB_b.size)
      have hC_sq := hC_b.trans (hSq.mono hC_b.size)
      go_wp2_with (first | (with_reducible refine hold_append ?_) | (with_reducible refine hold_make ?_) | (with_reducible refine hold_copy ?_))
      go_loopw [12] (fun s wr => ∃ (k : Nat), k ≤ na ∧ s = .int .i64 k ∧ Hid (∃ T, OwnP wr (v2.heap.size) Aa na ca T) ∧ Box wr ga 28 #[.int .u32 (S.1.x.fmt : Int), .string (str S.1.x.glob), .string (str S.1.x.bran), .int .u8 (S.1.st : Int), .bool S.1.com, .slice Aa na ca, .int .u32 (S.1.wait : Int), .int .u32 (S.1.tries : Int)] ∧ Below v2.heap.size v2 wr ∧ Below w.heap.size w wr) (fun s _ => na - (RowKit.intOf s).toNat)
      case atStart => exact ⟨0, by omega, rfl, Lib.hid ⟨_, Own.base_le hpa's (by first | exact Nat.le_refl _ | exact hC_sqi.size)⟩, hba's, hC_sq, hB_sq⟩
      case round =>
        obtain ⟨k, hk, rfl, HOT, hbT, hCT, hBT⟩ := hrel
        obtain ⟨T, hoT⟩ := HOT.out
        clear HOT
        have hszB := hB2.size
        have hszT := hBT.size
        have hszC := hCT.size
        have y5 := hbT.cell (j := 5) rfl
        by_cases hlt : k < na
        · have hkn : (k : Int) < (na : Int) := by omega
          obtain ⟨ab, hAb, hab1, hab2⟩ := own_some hoT (by omega)
          have habg := hbla ab (by rw [hAb]; rfl)
          rw [hAb] at hoT y5
          have HAb := Lib.hid hAb
          clear hAb
          have hkT : k < T.length := by rw [own_len ptShape hoT]; exact hlt
          go_wp2_with (first | (with_reducible refine hold_append ?_) | (with_reducible refine hold_make ?_) | (with_reducible refine hold_copy ?_) | (with_reducible refine hold_store ?_))
          refine unhold (wp_recset ptShape rfl rfl rfl rfl hoT (k := k) (i := 0) (vs := [.int .u8 99]) hlt hkT { T[k] with node := 99 } rfl (by kernel_rfl) (by simp [ptC]) (by simp) (by omega) ?_)
          intro w5 ho5 hg5 _
          rw [← HAb.out] at ho5
          have hb5 := hbT.grown hg5 (by intro e; injection e with e; omega)
          have hC5 := hCT.grown hg5 hszC (fun g e => by injection e with e; omega)
          have hB5 := hBT.grown hg5 hszT (fun g e => by injection e with e; omega)
          clear hoT hbT hCT hBT y5 hg5
          go_wp2_with (first | (with_reducible refine hold_append ?_) | (with_reducible refine hold_make ?_) | (with_reducible refine hold_copy ?_))
          exact ⟨⟨k + 1, by omega, by go_num, Lib.hid ⟨_, ho5⟩, hb5, hC5, hB5⟩, by simp [RowKit.intOf]; omega⟩
        · have hkk : na = k := by omega
          subst hkk
          have hss := rsame_any G G Ao n co A n c v2.heap.size wr (hrO2.below hCT) (Rd.more (hrG wr hBT) (by have := hB2.size; omega)) hszC (by omega) (by omega)
          simp only [decide_true] at hss
          unfold glV at hss
          have x0 := (hO2.below hCT).cell (j := 0) rfl
          have x1 := (hO2.below hCT).cell (j := 1) rfl
          have x2 := (hO2.below hCT).cell (j := 2) rfl
          have x3 := (hO2.below hCT).cell (j := 3) rfl
          have x4 := (hO2.below hCT).cell (j := 4) rfl
          have x5 := (hO2.below hCT).cell (j := 5) rfl
          have x6 := (hO2.below hCT).cell (j := 6) rfl
          have x7 := (hO2.below hCT).cell (j := 7) rfl
          have z0 := (hG2.below hCT).cell (j := 0) rfl
          have z1 := (hG2.below hCT).cell (j := 1) rfl
          have z2 := (hG2.below hCT).cell (j := 2) rfl
          have z3 := (hG2.below hCT).cell (j := 3) rfl
          have z4 := (hG2.below hCT).cell (j := 4) rfl
          have z5 := (hG2.below hCT).cell (j := 5) rfl
          have z6 := (hG2.below hCT).cell (j := 6) rfl
          have z7 := (hG2.below hCT).cell (j := 7) rfl
          go_wp2_with (first | (with_reducible refine hold_append ?_) | (with_reducible refine hold_make ?_) | (with_reducible refine hold_copy ?_))
          refine hss.mono ?_
          rintro e w7 ⟨rfl, hB7⟩
          have hBT7 := hBT.trans (hB7.mono hBT.size)
          clear x0 x1 x2 x3 x4 x5 x6 x7 z0 z1 z2 z3 z4 z5 z6 z7 y5 hss
          go_wp2_with (first | (with_reducible refine hold_append ?_) | (with_reducible refine hold_make ?_) | (with_reducible refine hold_copy ?_))
          refine (ghead_any _).mono ?_
          rintro e w9 ⟨rfl, hB9⟩
          go_wp2_with (first | (with_reducible refine hold_append ?_) | (with_reducible refine hold_make ?_) | (with_reducible refine hold_copy ?_))
          go_ret
          exact ⟨rfl, hBT7.trans (hB9.mono hBT7.size)⟩
end Go.PH
end

/- Texts laid together: GtRCheck. -/
import Derived.Test.YtcfhnnbgghbjfaaMg19
import Derived.Test.YtcfhnnbgghbjfaaMg20
section
/- The walk of the reference's Check of transactions. -/
set_option linter.all false
set_option linter.unusedSimpArgs false
set_option linter.unusedVariables false
namespace Go.PH
open Go.RowKit Go.Proofs

theorem only_iff (S : List Nat) (l : List Pt) : onlySt S l = true ↔ ∀ p ∈ l, p.st ∈ S := by unfold onlySt; simp
theorem cnt_zero (s : Nat) (l : List Pt) : cnt s l = 0 ↔ ∀ p ∈ l, p.st ≠ s := by unfold cnt; simp [List.countP_eq_zero]
theorem sok_cnt (G : Gl) (h5 : onlySt [0, 1, 2, 3, 4] G.parts = true) : stateOk G = if G.st = 1 then !G.com && decide (cnt 1 G.parts + cnt 2 G.parts + (cnt 3 G.parts + cnt 4 G.parts) = 0) else if G.st = 2 then !G.com && decide (cnt 3 G.parts + cnt 4 G.parts = 0) else if G.st = 3 then G.com && decide (cnt 0 G.parts = 0) && decide (0 < cnt 1 G.parts) else if G.st = 4 then !G.com && decide (0 < cnt 0 G.parts + cnt 1 G.parts) else if G.st = 5 then decide (cnt 0 G.parts + cnt 1 G.parts = 0) else false := by
  have h := (only_iff _ _).1 h5
  have e1 : onlySt [0] G.parts = decide (cnt 1 G.parts + cnt 2 G.parts + (cnt 3 G.parts + cnt 4 G.parts) = 0) := by
    rw [Bool.eq_iff_iff, only_iff, decide_eq_true_eq]
    constructor
    · intro h0
      have z1 : cnt 1 G.parts = 0 := (cnt_zero _ _).2 fun p hp e => by have := h0 p hp; simp at this; omega
      have z2 : cnt 2 G.parts = 0 := (cnt_zero _ _).2 fun p hp e => by have := h0 p hp; simp at this; omega
      have z3 : cnt 3 G.parts = 0 := (cnt_zero _ _).2 fun p hp e => by have := h0 p hp; simp at this; omega
      have z4 : cnt 4 G.parts = 0 := (cnt_zero _ _).2 fun p hp e => by have := h0 p hp; simp at this; omega
      omega
    · intro hz p hp
      have z1 := (cnt_zero 1 G.parts).1 (by omega) p hp
      have z2 := (cnt_zero 2 G.parts).1 (by omega) p hp
      have z3 := (cnt_zero 3 G.parts).1 (by omega) p hp
      have z4 := (cnt_zero 4 G.parts).1 (by omega) p hp
      have := h p hp
      simp at this ⊢
      omega
  have e2 : onlySt [0, 1, 2] G.parts = decide (cnt 3 G.parts + cnt 4 G.parts = 0) := by
    rw [Bool.eq_iff_iff, only_iff, decide_eq_true_eq]
    constructor
    · intro h0
      have z3 : cnt 3 G.parts = 0 := (cnt_zero _ _).2 fun p hp e => by have := h0 p hp; simp at this; omega
      have z4 : cnt 4 G.parts = 0 := (cnt_zero _ _).2 fun p hp e => by have := h0 p hp; simp at this; omega
      omega
    · intro hz p hp
      have z3 := (cnt_zero 3 G.parts).1 (by omega) p hp
      have z4 := (cnt_zero 4 G.parts).1 (by omega) p hp
      have := h p hp
      simp at this ⊢
      omega
  have e3 : (!hasSt [0] G.parts) = decide (cnt 0 G.parts = 0) := by rw [cnt_has, Bool.eq_iff_iff]; simp
  have e4 : hasSt [1] G.parts = decide (0 < cnt 1 G.parts) := cnt_has _ _
  have e5 : hasSt [0, 1] G.parts = decide (0 < cnt 0 G.parts + cnt 1 G.parts) := cnt_two _
  have e6 : (!hasSt [0, 1] G.parts) = decide (cnt 0 G.parts + cnt 1 G.parts = 0) := by rw [cnt_two, Bool.eq_iff_iff]; simp
  unfold stateOk
  rw [e1, e2, e3, e4, e6, e5]
set_option maxRecDepth 20000 in
set_option maxHeartbeats 4000000 in
theorem rgcheck_any (G : Gl) (A : Option Addr) (n c : Nat) (B : Nat) (w : World) (hG : G.wf) (hr : RdP w B A n c G.parts) (hB : B ≤ w.heap.size) (hn : n ≤ 1000000000) :
    Calls Try.prog 22 #[.agg (glV G A n c)] w fun e w' => e = .returned (.int .i64 (G.err)) ∧ Below w.heap.size w w' := by
  have hl := rec_length ptShape hr
  have HL := Lib.hid hl
  have hcp := fun W hW => rcopy_any G A n c B W (hr.below' hW hB) (Nat.le_trans hB hW.size) hn
  have hdc := fun A' c' B' W h1 h2 => rdcheck_any G.x A' n c' (allTo 0 G.parts) B' W hG.1 h1 h2 (fun p hp => by
    simp only [allTo, List.mem_map] at hp
    obtain ⟨q, hq, rfl⟩ := hp
    have := hG.2.2.1 q hq
    exact ⟨this.1, this.2.1, by simp [Pt.to]⟩) hn
  have hcn := fun s W hW => count_any G s A n c B W (hr.below' hW hB) (Nat.le_trans hB hW.size) hn
  have HDC : Hid (dcErr G.x (allTo 0 G.parts) = if dcOk G.x (allTo 0 G.parts) then 0 else 260) := Lib.hid rfl
  have HR : Hid (G.err = if dcOk G.x (allTo 0 G.parts) && onlySt [0, 1, 2, 3, 4] G.parts && decide (G.wait ≤ 3) && decide (G.tries ≤ 5) && stateOk G then 0 else 270) := Lib.hid rfl
  have HSC : Hid (onlySt [0, 1, 2, 3, 4] G.parts = true → stateOk G = _) := Lib.hid (sok_cnt G)
  have HO5 : Hid (onlySt [0, 1, 2, 3, 4] G.parts = true ↔ ∀ p ∈ G.parts, p.st ≤ 4) := Lib.hid (by
    rw [only_iff]
    constructor
    · intro h p hp; have := h p hp; simp at this; omega
    · intro h p hp; have := h p hp; simp; omega)
  have hwt := hG.2.2.2.1
  have htr := hG.2.2.2.2
  obtain ⟨q0, hq0⟩ : ∃ q0, q0 = cnt 0 G.parts := ⟨_, rfl⟩
  obtain ⟨q1, hq1⟩ : ∃ q1, q1 = cnt 1 G.parts := ⟨_, rfl⟩
  obtain ⟨q2, hq2⟩ : ∃ q2, q2 = cnt 2 G.parts := ⟨_, rfl⟩
  obtain ⟨q3, hq3⟩ : ∃ q3, q3 = cnt 3 G.parts := ⟨_, rfl⟩
  obtain ⟨q4, hq4⟩ : ∃ q4, q4 = cnt 4 G.parts := ⟨_, rfl⟩
  have b0 : q0 ≤ n := by rw [hq0, ← hl]; exact cnt_le _ _
  have b1 : q1 ≤ n := by rw [hq1, ← hl]; exact cnt_le _ _
  have b2 : q2 ≤ n := by rw [hq2, ← hl]; exact cnt_le _ _
  have b3 : q3 ≤ n := by rw [hq3, ← hl]; exact cnt_le _ _
  have b4 : q4 ≤ n := by rw [hq4, ← hl]; exact cnt_le _ _
  have hc0 : ∀ W, Below w.heap.size w W → Calls Try.prog 58 #[.agg (glV G A n c), .int .u8 0] W (fun e w' => e = .returned (.int .i64 (q0 : Int)) ∧ Below W.heap.size W w') := fun W hW => by rw [hq0]; exact hcn 0 W hW
  have hc1 : ∀ W, Below w.heap.size w W → Calls Try.prog 58 #[.agg (glV G A n c), .int .u8 1] W (fun e w' => e = .returned (.int .i64 (q1 : Int)) ∧ Below W.heap.size W w') := fun W hW => by rw [hq1]; exact hcn 1 W hW
  have hc2 : ∀ W, Below w.heap.size w W → Calls Try.prog 58 #[.agg (glV G A n c), .int .u8 2] W (fun e w' => e = .returned (.int .i64 (q2 : Int)) ∧ Below W.heap.size W w') := fun W hW => by rw [hq2]; exact hcn 2 W hW
  have hc3 : ∀ W, Below w.heap.size w W → Calls Try.prog 58 #[.agg (glV G A n c), .int .u8 3] W (fun e w' => e = .returned (.int .i64 (q3 : Int)) ∧ Below W.heap.size W w') := fun W hW => by rw [hq3]; exact hcn 3 W hW
  have hc4 : ∀ W, Below w.heap.size w W → Calls Try.prog 58 #[.agg (glV G A n c), .int .u8 4] W (fun e w' => e = .returned (.int .i64 (q4 : Int)) ∧ Below W.heap.size W w') := fun W hW => by rw [hq4]; exact hcn 4 W hW
  rw [← hq0, ← hq1, ← hq2, ← hq3, ← hq4] at HSC
  clear hcn hq0 hq1 hq2 hq3 hq4
  generalize G.err = R at *
  generalize stateOk G = sok at *
  obtain ⟨dok, hdok⟩ : ∃ d, d = dcOk G.x (allTo 0 G.parts) := ⟨_, rfl⟩
  rw [← hdok] at HR HDC
  clear hdok
  generalize dcErr G.x (allTo 0 G.parts) = der at *
  generalize onlySt [0, 1, 2, 3, 4] G.parts = o5 at *
  obtain ⟨⟨f, g, h⟩, st, com, l, wt, tr⟩ := G
  unfold glV at *
  simp only [dcV] at *
  obtain ⟨si, hsi⟩ : ∃ si : Int, si = (st : Int) := ⟨_, rfl⟩
  have HS2 : Hid (o5 = true → sok = if si = 1 then !com && decide (q1 + q2 + (q3 + q4) = 0) else if si = 2 then !com && decide (q3 + q4 = 0) else if si = 3 then com && decide (q0 = 0) && decide (0 < q1) else if si = 4 then !com && decide (0 < q0 + q1) else if si = 5 then decide (q0 + q1 = 0) else false) := Lib.hid (fun h => by
    rw [HSC.out h, hsi]
    simp only [show ((st : Int) = 1) = (st = 1) from by simp; omega, show ((st : Int) = 2) = (st = 2) from by simp; omega, show ((st : Int) = 3) = (st = 3) from by simp; omega, show ((st : Int) = 4) = (st = 4) from by simp; omega, show ((st : Int) = 5) = (st = 5) from by simp; omega])
  rw [← hsi] at hc0 hc1 hc2 hc3 hc4 hcp ⊢
  clear HSC hG hr hsi hl
  have w12 : IntKind.i64.wrap ((q1 : Int) + (q2 : Int)) = (q1 : Int) + (q2 : Int) := IntWalk.i64_in _ ⟨by omega, by omega⟩
  have w34 : IntKind.i64.wrap ((q3 : Int) + (q4 : Int)) = (q3 : Int) + (q4 : Int) := IntWalk.i64_in _ ⟨by omega, by omega⟩
  have w14 : IntKind.i64.wrap ((q1 : Int) + (q2 : Int) + ((q3 : Int) + (q4 : Int))) = (q1 : Int) + (q2 : Int) + ((q3 : Int) + (q4 : Int)) := IntWalk.i64_in _ ⟨by omega, by omega⟩
  have w01 : IntKind.i64.wrap ((q0 : Int) + (q1 : Int)) = (q0 : Int) + (q1 : Int) := IntWalk.i64_in _ ⟨by omega, by omega⟩
  have hB0 := (Below.refl w.heap.size w).alloc (Nat.le_refl _) (.cells #[.int .u32 (f : Int), .string (str g), .string (str h), .int .u8 si, .bool com, .slice A n c, .int .u32 (wt : Int), .int .u32 (tr : Int)] 28)
  have hb0 := Box.new w #[.int .u32 (f : Int), .string (str g), .string (str h), .int .u8 si, .bool com, .slice A n c, .int .u32 (wt : Int), .int .u32 (tr : Int)] 28
  have hcp0 := hcp _ hB0
  clear hcp
  have x0 := hb0.cell (j := 0) rfl
  have x1 := hb0.cell (j := 1) rfl
  have x2 := hb0.cell (j := 2) rfl
  have x3 := hb0.cell (j := 3) rfl
  have x4 := hb0.cell (j := 4) rfl
  have x5 := hb0.cell (j := 5) rfl
  have x6 := hb0.cell (j := 6) rfl
  have x7 := hb0.cell (j := 7) rfl
  go_enter Try.func22, Try.ntmps22
  go_wp2_with (first | (with_reducible refine hold_append ?_) | (with_reducible refine hold_make ?_) | (with_reducible refine hold_copy ?_))
  refine hcp0.mono ?_
  rintro e w1 ⟨A2, c2, rfl, ho1, hB1⟩
  have hb1 := hb0.below hB1
  have hB01 := hB0.trans (hB1.mono hB0.size)
  have hblt : ∀ g, blk A2 = some g → w.heap.size < g ∧ g < w1.heap.size := fun g hg => by
    have := ho1.blk_lt hg
    simp at this
    omega
  have ho1' : OwnP w1 (w.heap.size + 1) A2 n c2 l := Own.base_le ho1 (by simp)
  have hC := Box.new w1 #[.int .u32 (f : Int), .string (str g), .string (str h), .int .u8 si, .bool com, .slice A2 n c2, .int .u32 (wt : Int), .int .u32 (tr : Int)] 28
  have hBC := hB01.alloc hB01.size (.cells #[.int .u32 (f : Int), .string (str g), .string (str h), .int .u8 si, .bool com, .slice A2 n c2, .int .u32 (wt : Int), .int .u32 (tr : Int)] 28)
  have hbC := hb1.alloc (.cells #[.int .u32 (f : Int), .string (str g), .string (str h), .int .u8 si, .bool com, .slice A2 n c2, .int .u32 (wt : Int), .int .u32 (tr : Int)] 28)
  have hoC : OwnP (w1.alloc (.cells #[.int .u32 (f : Int), .string (str g), .string (str h), .int .u8 si, .bool com, .slice A2 n c2, .int .u32 (wt : Int), .int .u32 (tr : Int)] 28)) (w.heap.size + 1) A2 n c2 l := ho1'.alloc _
  obtain ⟨bc, hbc⟩ : ∃ bc, bc = w1.heap.size := ⟨_, rfl⟩
  rw [← hbc] at hblt
  have hlow : w.heap.size + 1 ≤ bc := by rw [hbc]; exact hb1.lt
  clear hcp0 x0 x1 x2 x3 x4 x5 x6 x7 hb0 ho1 ho1'
  go_wp2_with (first | (with_reducible refine hold_append ?_) | (with_reducible refine hold_make ?_) | (with_reducible refine hold_copy ?_))
  rw [← hbc] at hC ⊢
  generalize (w1.alloc (.cells #[.int .u32 (f : Int), .string (str g), .string (str h), .int .u8 si, .bool com, .slice A2 n c2, .int .u32 (wt : Int), .int .u32 (tr : Int)] 28)) = wq at *
  clear hb1 hbc hB1 hB0 hB01
  go_loopw [4] (fun s wr => ∃ (k : Nat) (T : List Pt), k ≤ n ∧ s = .int .i64 k ∧ Hid (T.take k = (allTo 0 l).take k) ∧ Hid (T.drop k = l.drop k) ∧ Hid (∀ j (hj : j < l.length), j < k → l[j].st ≤ 4) ∧ OwnP wr (w.heap.size + 1) A2 n c2 T ∧ Box wr bc 28 #[.int .u32 (f : Int), .string (str g), .string (str h), .int .u8 si, .bool com, .slice A2 n c2, .int .u32 (wt : Int), .int .u32 (tr : Int)] ∧ Box wr w.heap.size 28 #[.int .u32 (f : Int), .string (str g), .string (str h), .int .u8 si, .bool com, .slice A n c, .int .u32 (wt : Int), .int .u32 (tr : Int)] ∧ Below w.heap.size w wr) (fun s _ => n - (RowKit.intOf s).toNat)
  case atStart => exact ⟨0, l, by omega, rfl, Lib.hid (by simp), Lib.hid rfl, Lib.hid (fun j hj h => by omega), hoC, hC, hbC, hBC⟩
  case round =>
    clear hoC hC hbC hBC
    obtain ⟨k, T, hk, rfl, H1, H2, H4, ho, hC, hb, hBr⟩ := hrel
    have hTl := own_len ptShape ho
    have HT := Lib.hid hTl
    clear hTl
    have y5 := hC.cell (j := 5) rfl
    by_cases hlt : k < n
    · have hkn : (k : Int) < (n : Int) := by omega
      obtain ⟨g', rfl, hbg, hgs⟩ := own_some ho (by omega)
      have hgb := hblt g' rfl
      have hkT : k < T.length := by rw [HT.out]; exact hlt
      have hkl : k < l.length := by rw [HL.out]; exact hlt
      obtain ⟨s1, s2, s3⟩ := allTo_step H1.out H2.out hkl hkT
      have HS1 := Lib.hid s1
      have HS2' := Lib.hid s2
      have HF : Hid (ptC (Pt.to 0 l[k]) = (ptC T[k]).take 4 ++ [.int .u8 0] ++ (ptC T[k]).drop (4 + [Value.int .u8 0].length)) := Lib.hid (by rw [s3]; simp [ptC, Pt.to])
      obtain ⟨b', off', e, _, _, hcl⟩ := rec_at ptShape ho.rd (k := k) hlt
      injection e with e; injection e with e1 e2; subst e1 e2
      have k4 := hcl 4 _ rfl
      rw [s3] at k4
      simp only [Nat.zero_add] at k4
      clear s1 s2 s3 hcl
      have HSt : Hid (∃ ps, ps = l[k].st) := Lib.hid ⟨_, rfl⟩
      obtain ⟨ps, hps⟩ := HSt.out
      rw [← hps] at k4
      have HPS := Lib.hid hps
      clear hps HSt
      by_cases h4 : 4 < ps
      · have d4 : (4 : Int) < (ps : Int) := by omega
        have HBAD : Hid (R = 270) := Lib.hid (by
          have : o5 = false := by
            cases ho5 : o5
            · rfl
            · have := HO5.out.1 ho5 l[k] (List.getElem_mem hkl)
              have := HPS.out
              omega
          rw [HR.out, this]; simp)
        go_wp2_with (first | (with_reducible refine hold_append ?_) | (with_reducible refine hold_make ?_) | (with_reducible refine hold_copy ?_))
        go_ret
        rw [HBAD.out]
        exact ⟨rfl, hBr⟩
      · have d4 : ¬ (4 : Int) < (ps : Int) := by omega
        go_wp2_with (first | (with_reducible refine hold_append ?_) | (with_reducible refine hold_make ?_) | (with_reducible refine hold_copy ?_) | (with_reducible refine hold_store ?_))
        refine unhold (wp_recset ptShape rfl rfl rfl rfl ho (k := k) (i := 4) (vs := [.int .u8 0]) hlt hkT (Pt.to 0 l[k]) rfl (by kernel_rfl) HF.out (by simp) (by omega) ?_)
        intro w2 ho2 hg2 _
        have hB2 : Below w.heap.size w w2 := hBr.grown hg2 hBr.size (fun g'' e => by injection e with e; omega)
        have hC2 := hC.grown hg2 (by intro e; injection e with e; omega)
        have hb2 := hb.grown hg2 (by intro e; injection e with e; omega)
        have H42 : Hid (∀ j (hj : j < l.length), j < k + 1 → l[j].st ≤ 4) := Lib.hid fun j hj hjk => by
          by_cases h : j < k
          · exact H4.out j hj h
          · obtain rfl : j = k := by omega
            rw [← HPS.out]; omega
        go_wp2_with (first | (with_reducible refine hold_append ?_) | (with_reducible refine hold_make ?_) | (with_reducible refine hold_copy ?_))
        exact ⟨⟨k + 1, _, by omega, by go_num, HS1, HS2', H42, ho2, hC2, hb2, hB2⟩, by simp [RowKit.intOf]; omega⟩
    · have hkn : n = k := by omega
      subst hkn
      have hTe : T = allTo 0 l := by
        have h1 := H1.out
        rwa [← HT.out, List.take_length, HT.out, ← HL.out, List.take_of_length_le (by simp [allTo])] at h1
      subst hTe
      obtain rfl : o5 = true := HO5.out.2 fun p hp => by
        obtain ⟨j, hj, rfl⟩ := List.mem_iff_getElem.1 hp
        exact H4.out j hj (by rw [← HL.out]; exact hj)
      have HS3 := Lib.hid (HS2.out rfl)
      have hdc1 := hdc A2 c2 _ wr ho.rd (Nat.le_refl _)
      have y0 := hC.cell (j := 0) rfl
      have y1 := hC.cell (j := 1) rfl
      have y2 := hC.cell (j := 2) rfl
      have y3 := hC.cell (j := 3) rfl
      have y4 := hC.cell (j := 4) rfl
      have y5 := hC.cell (j := 5) rfl
      have y6 := hC.cell (j := 6) rfl
      have y7 := hC.cell (j := 7) rfl
      clear H1 H2 H4 HT HO5 HS2 hdc
      go_wp2_with (first | (with_reducible refine hold_append ?_) | (with_reducible refine hold_make ?_) | (with_reducible refine hold_copy ?_))
      refine hdc1.mono ?_
      rintro e w3 ⟨rfl, hB3⟩
      have hb3 := hb.below hB3
      have hB03 := hBr.trans (hB3.mono hBr.size)
      clear hdc1 ho hC hb y0 y1 y2 y3 y4 y5 y6 y7
      cases dok
      · obtain rfl : der = 260 := by have := HDC.out; simpa using this
        have HBAD : Hid (R = 270) := Lib.hid (by rw [HR.out]; simp)
        go_wp2_with (first | (with_reducible refine hold_append ?_) | (with_reducible refine hold_make ?_) | (with_reducible refine hold_copy ?_))
        go_ret
        rw [HBAD.out]
        exact ⟨rfl, hB03⟩
      · obtain rfl : der = 0 := by have := HDC.out; simpa using this
        have x6 := hb3.cell (j := 6) rfl
        have x7 := hb3.cell (j := 7) rfl
        by_cases c1 : 3 < wt
        · have d1 : (3 : Int) < (wt : Int) := by omega
          have HBAD : Hid (R = 270) := Lib.hid (by rw [HR.out]; simp; omega)
          go_wp2_with (first | (with_reducible refine hold_append ?_) | (with_reducible refine hold_make ?_) | (with_reducible refine hold_copy ?_))
          go_ret
          rw [HBAD.out]
          exact ⟨rfl, hB03⟩
        · have d1 : decide ((3 : Int) < (wt : Int)) = false := by simp; omega
          by_cases c2 : 5 < tr
          · have d2 : (5 : Int) < (tr : Int) := by omega
            have HBAD : Hid (R = 270) := Lib.hid (by rw [HR.out]; simp; omega)
            go_wp2_with (first | (with_reducible refine hold_append ?_) | (with_reducible refine hold_make ?_) | (with_reducible refine hold_copy ?_))
            go_ret
            rw [HBAD.out]
            exact ⟨rfl, hB03⟩
          · have d2 : ¬ (5 : Int) < (tr : Int) := by omega
            have HR2 : Hid (R = if sok then 0 else 270) := Lib.hid (by rw [HR.out]; simp only [decide_eq_true (show wt ≤ 3 by omega), decide_eq_true (show tr ≤ 5 by omega), Bool.true_and])
            have hstep : ∀ (W W' : World), (Box W w.heap.size 28 #[.int .u32 (f : Int), .string (str g), .string (str h), .int .u8 si, .bool com, .slice A n c, .int .u32 (wt : Int), .int .u32 (tr : Int)] ∧ Below w.heap.size w W) → Below W.heap.size W W' → Box W' w.heap.size 28 #[.int .u32 (f : Int), .string (str g), .string (str h), .int .u8 si, .bool com, .slice A n c, .int .u32 (wt : Int), .int .u32 (tr : Int)] ∧ Below w.heap.size w W' := fun W W' h h' => ⟨h.1.below h', h.2.trans (h'.mono h.2.size)⟩
            go_upto_region 10 with fail
            clear d1 d2 x6 x7
            refine rg_start (fun W : World => Box W w.heap.size 28 #[.int .u32 (f : Int), .string (str g), .string (str h), .int .u8 si, .bool com, .slice A n c, .int .u32 (wt : Int), .int .u32 (tr : Int)] ∧ Below w.heap.size w W) (by kernel_rfl) ?_
            have hS : Box w3.drew w.heap.size 28 #[.int .u32 (f : Int), .string (str g), .string (str h), .int .u8 si, .bool com, .slice A n c, .int .u32 (wt : Int), .int .u32 (tr : Int)] ∧ Below w.heap.size w w3.drew := ⟨hb3, below_drewN hB03 1⟩
            generalize w3.drew = w4 at *
            clear hb3 hB03
            refine rg_take 0 (v := ?_) rfl (by kernel_rfl) (by kernel_rfl) (by kernel_rfl) hS rfl ?_ ?_
            rotate_left
            · intro wS hSw
              have hq := hSw.1
              have z0 := hq.cell (j := 0) rfl
              have z1 := hq.cell (j := 1) rfl
              have z2 := hq.cell (j := 2) rfl
              have z3 := hq.cell (j := 3) rfl
              have z4 := hq.cell (j := 4) rfl
              have z5 := hq.cell (j := 5) rfl
              have z6 := hq.cell (j := 6) rfl
              have z7 := hq.cell (j := 7) rfl
              go_simp; (with_reducible rfl)
            simp only [List.getElem_toArray, List.getElem_cons_zero, Act.put, List.setIfInBounds_toArray, List.set_cons_zero, List.set_cons_succ]
            refine rg_take 2 (v := ?_) rfl (by kernel_rfl) (by kernel_rfl) (by kernel_rfl) hS rfl ?_ ?_
            rotate_left
            · intro wS hSw
              have hq := hSw.1
              have z0 := hq.cell (j := 0) rfl
              have z1 := hq.cell (j := 1) rfl
              have z2 := hq.cell (j := 2) rfl
              have z3 := hq.cell (j := 3) rfl
              have z4 := hq.cell (j := 4) rfl
              have z5 := hq.cell (j := 5) rfl
              have z6 := hq.cell (j := 6) rfl
              have z7 := hq.cell (j := 7) rfl
              go_simp; (with_reducible rfl)
            simp only [List.getElem_toArray, List.getElem_cons_succ, List.getElem_cons_zero, Act.put, List.setIfInBounds_toArray, List.set_cons_zero, List.set_cons_succ]
            refine rg_take 4 (v := ?_) rfl (by kernel_rfl) (by kernel_rfl) (by kernel_rfl) hS rfl ?_ ?_
            rotate_left
            · intro wS hSw
              have hq := hSw.1
              have z0 := hq.cell (j := 0) rfl
              have z1 := hq.cell (j := 1) rfl
              have z2 := hq.cell (j := 2) rfl
              have z3 := hq.cell (j := 3) rfl
              have z4 := hq.cell (j := 4) rfl
              have z5 := hq.cell (j := 5) rfl
              have z6 := hq.cell (j := 6) rfl
              have z7 := hq.cell (j := 7) rfl
              go_simp; (with_reducible rfl)
            simp only [List.getElem_toArray, List.getElem_cons_succ, List.getElem_cons_zero, Act.put, List.setIfInBounds_toArray, List.set_cons_zero, List.set_cons_succ]
            refine rg_one 1 rfl (by kernel_rfl) rfl (fun K hK => ?_)
            go_simp
            refine (hc0 _ (hS).2).mono ?_
            rintro e w5 ⟨rfl, hBn⟩
            have hS1 := hstep _ w5 hS hBn
            refine hK _ _ hS1 ?_
            clear hK K hBn hS
            refine rg_one 3 rfl (by kernel_rfl) rfl (fun K hK => ?_)
            go_simp
            refine (hc1 _ (hS1).2).mono ?_
            rintro e w6 ⟨rfl, hBn⟩
            have hS2 := hstep _ w6 hS1 hBn
            refine hK _ _ hS2 ?_
            clear hK K hBn hS1
            refine rg_one 5 rfl (by kernel_rfl) rfl (fun K hK => ?_)
            go_simp
            refine (hc2 _ (hS2).2).mono ?_
            rintro e w7 ⟨rfl, hBn⟩
            have hS3 := hstep _ w7 hS2 hBn
            refine hK _ _ hS3 ?_
            clear hK K hBn hS2
            refine rg_take 6 (v := ?_) rfl (by kernel_rfl) (by kernel_rfl) (by kernel_rfl) hS3 rfl ?_ ?_
            rotate_left
            · intro wS hSw; go_simp; (with_reducible rfl)
            simp only [List.getElem_toArray, List.getElem_cons_succ, List.getElem_cons_zero, Act.put, List.setIfInBounds_toArray, List.set_cons_zero, List.set_cons_succ]
            refine rg_take 7 (v := ?_) rfl (by kernel_rfl) (by kernel_rfl) (by kernel_rfl) hS3 rfl ?_ ?_
            rotate_left
            · intro wS hSw; go_simp; (with_reducible rfl)
            simp only [List.getElem_toArray, List.getElem_cons_succ, List.getElem_cons_zero, Act.put, List.setIfInBounds_toArray, List.set_cons_zero, List.set_cons_succ]
            refine rg_take 8 (v := ?_) rfl (by kernel_rfl) (by kernel_rfl) (by kernel_rfl) hS3 rfl ?_ ?_
            rotate_left
            · intro wS hSw; go_simp; (with_reducible rfl)
            simp only [List.getElem_toArray, List.getElem_cons_succ, List.getElem_cons_zero, Act.put, List.setIfInBounds_toArray, List.set_cons_zero, List.set_cons_succ]
            refine rg_end (by kernel_rfl) ?_
            go_upto_region 11 with fail
            refine rg_start (fun W : World => Box W w.heap.size 28 #[.int .u32 (f : Int), .string (str g), .string (str h), .int .u8 si, .bool com, .slice A n c, .int .u32 (wt : Int), .int .u32 (tr : Int)] ∧ Below w.heap.size w W) (by kernel_rfl) ?_
            have hS : Box w7.drew w.heap.size 28 #[.int .u32 (f : Int), .string (str g), .string (str h), .int .u8 si, .bool com, .slice A n c, .int .u32 (wt : Int), .int .u32 (tr : Int)] ∧ Below w.heap.size w w7.drew := ⟨hS3.1, below_drewN hS3.2 1⟩
            generalize w7.drew = w8 at *
            clear hS3
            refine rg_take 0 (v := ?_) rfl (by kernel_rfl) (by kernel_rfl) (by kernel_rfl) hS rfl ?_ ?_
            rotate_left
            · intro wS hSw
              have hq := hSw.1
              have z0 := hq.cell (j := 0) rfl
              have z1 := hq.cell (j := 1) rfl
              have z2 := hq.cell (j := 2) rfl
              have z3 := hq.cell (j := 3) rfl
              have z4 := hq.cell (j := 4) rfl
              have z5 := hq.cell (j := 5) rfl
              have z6 := hq.cell (j := 6) rfl
              have z7 := hq.cell (j := 7) rfl
              go_simp; (with_reducible rfl)
            simp only [List.getElem_toArray, List.getElem_cons_zero, Act.put, List.setIfInBounds_toArray, List.set_cons_zero, List.set_cons_succ]
            refine rg_take 2 (v := ?_) rfl (by kernel_rfl) (by kernel_rfl) (by kernel_rfl) hS rfl ?_ ?_
            rotate_left
            · intro wS hSw
              have hq := hSw.1
              have z0 := hq.cell (j := 0) rfl
              have z1 := hq.cell (j := 1) rfl
              have z2 := hq.cell (j := 2) rfl
              have z3 := hq.cell (j := 3) rfl
              have z4 := hq.cell (j := 4) rfl
              have z5 := hq.cell (j := 5) rfl
              have z6 := hq.cell (j := 6) rfl
              have z7 := hq.cell (j := 7) rfl
              go_simp; (with_reducible rfl)
            simp only [List.getElem_toArray, List.getElem_cons_succ, List.getElem_cons_zero, Act.put, List.setIfInBounds_toArray, List.set_cons_zero, List.set_cons_succ]
            refine rg_one 1 rfl (by kernel_rfl) rfl (fun K hK => ?_)
            go_simp
            refine (hc3 _ (hS).2).mono ?_
            rintro e w9 ⟨rfl, hBn⟩
            have hS1 := hstep _ w9 hS hBn
            refine hK _ _ hS1 ?_
            clear hK K hBn hS
            refine rg_one 3 rfl (by kernel_rfl) rfl (fun K hK => ?_)
            go_simp
            refine (hc4 _ (hS1).2).mono ?_
            rintro e wA ⟨rfl, hBn⟩
            have hS2 := hstep _ wA hS1 hBn
            refine hK _ _ hS2 ?_
            clear hK K hBn hS1
            refine rg_take 4 (v := ?_) rfl (by kernel_rfl) (by kernel_rfl) (by kernel_rfl) hS2 rfl ?_ ?_
            rotate_left
            · intro wS hSw; go_simp; (with_reducible rfl)
            simp only [List.getElem_toArray, List.getElem_cons_succ, List.getElem_cons_zero, Act.put, List.setIfInBounds_toArray, List.set_cons_zero, List.set_cons_succ]
            refine rg_take 5 (v := ?_) rfl (by kernel_rfl) (by kernel_rfl) (by kernel_rfl) hS2 rfl ?_ ?_
            rotate_left
            · intro wS hSw; go_simp; (with_reducible rfl)
            simp only [List.getElem_toArray, List.getElem_cons_succ, List.getElem_cons_zero, Act.put, List.setIfInBounds_toArray, List.set_cons_zero, List.set_cons_succ]
            refine rg_end (by kernel_rfl) ?_
            obtain ⟨hbA, hBA⟩ := hS2
            clear hc0 hc1 hc2 hc3 hc4
            have x0 := hbA.cell (j := 0) rfl
            have x1 := hbA.cell (j := 1) rfl
            have x2 := hbA.cell (j := 2) rfl
            have x3 := hbA.cell (j := 3) rfl
            have x4 := hbA.cell (j := 4) rfl
            have x5 := hbA.cell (j := 5) rfl
            have x6 := hbA.cell (j := 6) rfl
            have x7 := hbA.cell (j := 7) rfl
            by_cases s1 : si = 1
            · subst s1
              cases com
              · by_cases z : q1 + q2 + (q3 + q4) = 0
                · have zb : ((q1 : Int) + (q2 : Int) + ((q3 : Int) + (q4 : Int)) == 0) = true := by simp; omega
                  have HBAD : Hid (R = 0) := Lib.hid (by rw [HR2.out, HS3.out]; simp [z])
                  clear z
                  go_wp2_with (first | (with_reducible refine hold_append ?_) | (with_reducible refine hold_make ?_) | (with_reducible refine hold_copy ?_))
                  go_ret
                  rw [HBAD.out]
                  exact ⟨rfl, hBA⟩
                · have zb : ((q1 : Int) + (q2 : Int) + ((q3 : Int) + (q4 : Int)) == 0) = false := by simp; omega
                  have HBAD : Hid (R = 270) := Lib.hid (by rw [HR2.out, HS3.out, if_pos rfl, decide_eq_false z]; rfl)
                  clear z
                  go_wp2_with (first | (with_reducible refine hold_append ?_) | (with_reducible refine hold_make ?_) | (with_reducible refine hold_copy ?_))
                  go_ret
                  rw [HBAD.out]
                  exact ⟨rfl, hBA⟩
              · have HBAD : Hid (R = 270) := Lib.hid (by rw [HR2.out, HS3.out]; simp)
                go_wp2_with (first | (with_reducible refine hold_append ?_) | (with_reducible refine hold_make ?_) | (with_reducible refine hold_copy ?_))
                go_ret
                rw [HBAD.out]
                exact ⟨rfl, hBA⟩
            · have e1 : (si == 1) = false := by simpa using s1
              by_cases s2 : si = 2
              · subst s2
                clear e1
                cases com
                · by_cases z : q3 + q4 = 0
                  · have zb : ((q3 : Int) + (q4 : Int) == 0) = true := by simp; omega
                    have HBAD : Hid (R = 0) := Lib.hid (by rw [HR2.out, HS3.out]; simp [z])
                    clear z
                    go_wp2_with (first | (with_reducible refine hold_append ?_) | (with_reducible refine hold_make ?_) | (with_reducible refine hold_copy ?_))
                    go_ret
                    rw [HBAD.out]
                    exact ⟨rfl, hBA⟩
                  · have zb : ((q3 : Int) + (q4 : Int) == 0) = false := by simp; omega
                    have HBAD : Hid (R = 270) := Lib.hid (by rw [HR2.out, HS3.out, decide_eq_false z]; simp)
                    clear z
                    go_wp2_with (first | (with_reducible refine hold_append ?_) | (with_reducible refine hold_make ?_) | (with_reducible refine hold_copy ?_))
                    go_ret
                    rw [HBAD.out]
                    exact ⟨rfl, hBA⟩
                · have HBAD : Hid (R = 270) := Lib.hid (by rw [HR2.out, HS3.out]; simp)
                  go_wp2_with (first | (with_reducible refine hold_append ?_) | (with_reducible refine hold_make ?_) | (with_reducible refine hold_copy ?_))
                  go_ret
                  rw [HBAD.out]
                  exact ⟨rfl, hBA⟩
              · have e2 : (si == 2) = false := by simpa using s2
                by_cases s3 : si = 3
                · subst s3
                  clear e1 e2
                  cases com
                  · have HBAD : Hid (R = 270) := Lib.hid (by rw [HR2.out, HS3.out]; simp)
                    go_wp2_with (first | (with_reducible refine hold_append ?_) | (with_reducible refine hold_make ?_) | (with_reducible refine hold_copy ?_))
                    go_ret
                    rw [HBAD.out]
                    exact ⟨rfl, hBA⟩
                  · by_cases z : q0 = 0
                    · have zb : ((q0 : Int) == 0) = true := by simp; omega
                      by_cases y : 0 < q1
                      · have yb : (0 : Int) < (q1 : Int) := by omega
                        have HBAD : Hid (R = 0) := Lib.hid (by rw [HR2.out, HS3.out]; simp [z, y])
                        clear z
                        go_wp2_with (first | (with_reducible refine hold_append ?_) | (with_reducible refine hold_make ?_) | (with_reducible refine hold_copy ?_))
                        go_ret
                        rw [HBAD.out]
                        exact ⟨rfl, hBA⟩
                      · have yb : decide ((0 : Int) < (q1 : Int)) = false := by simp; omega
                        have HBAD : Hid (R = 270) := Lib.hid (by rw [HR2.out, HS3.out]; simp [y])
                        clear z
                        go_wp2_with (first | (with_reducible refine hold_append ?_) | (with_reducible refine hold_make ?_) | (with_reducible refine hold_copy ?_))
                        go_ret
                        rw [HBAD.out]
                        exact ⟨rfl, hBA⟩
                    · have zb : ((q0 : Int) == 0) = false := by simp; omega
                      have HBAD : Hid (R = 270) := Lib.hid (by rw [HR2.out, HS3.out]; simp [z])
                      clear z
                      go_wp2_with (first | (with_reducible refine hold_append ?_) | (with_reducible refine hold_make ?_) | (with_reducible refine hold_copy ?_))
                      go_ret
                      rw [HBAD.out]
                      exact ⟨rfl, hBA⟩
                · have e3 : (si == 3) = false := by simpa using s3
                  by_cases s4 : si = 4
                  · subst s4
                    clear e1 e2 e3
                    cases com
                    · by_cases z : 0 < q0 + q1
                      · have zb : (0 : Int) < (q0 : Int) + (q1 : Int) := by omega
                        have HBAD : Hid (R = 0) := Lib.hid (by rw [HR2.out, HS3.out, decide_eq_true z]; simp)
                        clear z
                        go_wp2_with (first | (with_reducible refine hold_append ?_) | (with_reducible refine hold_make ?_) | (with_reducible refine hold_copy ?_))
                        go_ret
                        rw [HBAD.out]
                        exact ⟨rfl, hBA⟩
                      · have zb : decide ((0 : Int) < (q0 : Int) + (q1 : Int)) = false := by simp; omega
                        have HBAD : Hid (R = 270) := Lib.hid (by rw [HR2.out, HS3.out, decide_eq_false z]; simp)
                        clear z
                        go_wp2_with (first | (with_reducible refine hold_append ?_) | (with_reducible refine hold_make ?_) | (with_reducible refine hold_copy ?_))
                        go_ret
                        rw [HBAD.out]
                        exact ⟨rfl, hBA⟩
                    · have HBAD : Hid (R = 270) := Lib.hid (by rw [HR2.out, HS3.out]; simp)
                      go_wp2_with (first | (with_reducible refine hold_append ?_) | (with_reducible refine hold_make ?_) | (with_reducible refine hold_copy ?_))
                      go_ret
                      rw [HBAD.out]
                      exact ⟨rfl, hBA⟩
                  · have e4 : (si == 4) = false := by simpa using s4
                    by_cases s5 : si = 5
                    · subst s5
                      clear e1 e2 e3 e4
                      by_cases z : q0 + q1 = 0
                      · have zb : ((q0 : Int) + (q1 : Int) == 0) = true := by simp; omega
                        have HBAD : Hid (R = 0) := Lib.hid (by rw [HR2.out, HS3.out, decide_eq_true z]; simp)
                        clear z
                        go_wp2_with (first | (with_reducible refine hold_append ?_) | (with_reducible refine hold_make ?_) | (with_reducible refine hold_copy ?_))
                        go_ret
                        rw [HBAD.out]
                        exact ⟨rfl, hBA⟩
                      · have zb : ((q0 : Int) + (q1 : Int) == 0) = false := by simp; omega
                        have HBAD : Hid (R = 270) := Lib.hid (by rw [HR2.out, HS3.out, decide_eq_false z]; simp)
                        clear z
                        go_wp2_with (first | (with_reducible refine hold_append ?_) | (with_reducible refine hold_make ?_) | (with_reducible refine hold_copy ?_))
                        go_ret
                        rw [HBAD.out]
                        exact ⟨rfl, hBA⟩
                    · have e5 : (si == 5) = false := by simpa using s5
                      have HBAD : Hid (R = 270) := Lib.hid (by rw [HR2.out, HS3.out, if_neg s1, if_neg s2, if_neg s3, if_neg s4, if_neg s5]; rfl)
                      clear s1 s2 s3 s4 s5
                      go_wp2_with (first | (with_reducible refine hold_append ?_) | (with_reducible refine hold_make ?_) | (with_reducible refine hold_copy ?_))
                      go_ret
                      rw [HBAD.out]
                      exact ⟨rfl, hBA⟩
end Go.PH
end

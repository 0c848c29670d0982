/- Texts laid together: VlGetR. -/
import Derived.Test.YtidpbbleneekgaaGreatDoorMg12
import Derived.Test.YtidpbbleneekgaaGreatDoorMg15
import Derived.Test.YtidpbbleneekgaaGreatDoorMg19
import Derived.Test.YtidpbbleneekgaaGreatDoorMg20
set_option linter.all false
set_option linter.unusedSimpArgs false
set_option linter.unusedVariables false
section
/- A value off bytes: the walk of the document's Get. -/
namespace Go.PH
open Go.RowKit Go.Proofs

/-- what the document's Get answers: some value, and the one whose bytes stand ahead -/
def RVGetR (w : World) (l : List UInt8) (e : Ending) (w' : World) : Prop := ∃ (x : Vl) (h : VH) (k : Nat) (er : Int), e = .returned (.tuple #[.agg (vlV x h), .int .i64 (k : Int), .int .i64 er]) ∧ RV w' (FN w.heap.size w') x h ∧ Below w.heap.size w w' ∧ k ≤ l.length ∧
 ∀ (y : Vl) (rest : List UInt8), l = vlB y ++ rest → VB y → errV y = 0 → x = y ∧ k = (vlB y).length
theorem strEqV (a b : List UInt8) : ((str a).toList == (str b).toList) = decide (a = b) := by
 rw [str_toList, str_toList]
 by_cases h : a = b <;> simp [h]
theorem vread_got {y : Vl} {rest : List UInt8} (hv : VB y) (he : errV y = 0) : ∃ m, vread 6 200 (vlB y ++ rest) = some (y, rest, m) := by
 obtain ⟨hc, hm⟩ := errV_ok he
 have hd : deepV 6 y = false := by
  unfold errV at he
  split at he
  ·omega
  ·rename_i h; simpa using h
 exact ⟨_, vread_ok y 6 200 rest hv hm hd (Nat.le_refl _) hc⟩
set_option maxRecDepth 20000 in
set_option maxHeartbeats 4000000 in
theorem rvget_any (A : Option Addr) (n c : Nat) (l : List UInt8) (w : World) (hb : RdB w w.heap.size A n c l) (hn : n ≤ 100000000) :
  Calls Tryz.prog 56 #[.slice A n c] w (RVGetR w l) := by
 obtain ⟨zb, w1, hzb, hzv, hZ, hB1⟩ := alloc_stepV w #[.int .u8 0, .int .u64 0, .string ⟨#[]⟩, .slice none 0 0, .slice none 0 0] 50
 have hln : l.length = n := RdB.length hb
 have hop := qopen_any A n c l w1 (rd_wide (hb.below hB1) hB1.size) (by omega)
 have hzw : w.heap.size ≤ zb := by omega
 go_enter Tryz.func56, Tryz.ntmps56
 go_upto_region 1 with fail
 rw [← hzb, ← hzv]
 clear hzb hzv
 go_wp2_with (with_reducible refine h_A ?_)
 refine hop.mono ?_
 rintro e w2 ⟨ob, rfl, hob, hR, hB2⟩
 have hZ2 := hZ.below hB2
 have hB02 := hB1.trans (hB2.mono hB1.size)
 have hrd := rread_any 6 1 200 _ w1.heap.size ob l false w2 (by omega) hR (fun g hg => hg) (by omega)
 have hs1 := hB1.size
 have hzl := hZ.lt
 clear hop hZ hB2
 rw [show ((1 : Nat) : Int) = 1 from rfl, show ((200 : Nat) : Int) = 200 from rfl] at hrd
 go_wp2_with (with_reducible refine h_A ?_)
 refine hrd.mono ?_
 rintro e w3 ⟨x, h, m, ok, l2, bad2, rfl, hV, hR3, hK3, hm1, hm2, hm3, hx⟩
 have hZ3 := hK3.box hZ2 (by omega) (by omega)
 have hB03 := hB02.trans (hK3.1.mono hs1)
 have hs2 := hB02.size
 unfold vlV
 obtain ⟨vb, w4, hvb, hvv, hX, hB4⟩ := alloc_stepV w3 #[.int .u8 (x.kind : Int), .int .u64 (x.n : Int), .string (str x.s), .slice h.A1 x.keys.length h.c1, .slice h.A2 x.list.length h.c2] 50
 go_upto_region 2 with fail
 rw [← hvb, ← hvv]
 have hZ4 := hZ3.below hB4
 have hB04 := hB03.trans (hB4.mono hB03.size)
 have hs4 := hB4.size
 have hV4 : RV w4 (FN w2.heap.size w4) x h := (hV.keep (fun g hg => hB4.block g hg.2) hs4).mono (fun g hg => ⟨hg.1, Nat.lt_of_lt_of_le hg.2 hs4⟩)
 have hvl := hZ3.lt
 have hvz : zb ≠ vb := by omega
 have hz2 := hZ2.lt
 have HX : Hid (∀ (y : Vl) (rest : List UInt8), l = vlB y ++ rest → VB y → errV y = 0 → x = y ∧ ok = true) := Lib.hid (fun y rest e hv he => by
  obtain ⟨m', hr⟩ := vread_got (rest := rest) hv he
  have := hx (y, rest, m') (by rw [e]; exact hr)
  exact ⟨this.1, this.2.2.2.1⟩)
 clear hrd hvb hvv hZ2 hZ3 hB03 hB4 hV hx hR3 hK3 hR
 cases ok
 case false =>
  have HNO : Hid (∀ (y : Vl) (rest : List UInt8), l = vlB y ++ rest → VB y → errV y = 0 → False) := Lib.hid (fun y rest e hv he => by
   have := (HX.out y rest e hv he).2
   cases this)
  go_wp2_with (with_reducible refine h_B ?_)
  refine unhold (wp_box (v := .agg #[.int .u8 0, .int .u64 0, .string ⟨#[]⟩, .slice none 0 0, .slice none 0 0]) (vs := [.int .u8 0, .int .u64 0, .string ⟨#[]⟩, .slice none 0 0, .slice none 0 0]) rfl rfl rfl rfl hZ4 rfl (by kernel_rfl) (by simp) (by intro u hu; simp at hu; rcases hu with rfl | rfl | rfl | rfl <;> rfl) #[.int .u8 0, .int .u64 0, .string ⟨#[]⟩, .slice none 0 0, .slice none 0 0] (by simp) ?_)
  intro w12 hz12 hg12 _
  have hB12 := (hB04).grown hg12 (hB04).size (fun g hg => by injection hg with hg; omega)
  go_wp2_with (with_reducible refine h_A ?_)
  refine ret_box_tmp2x rfl hz12 rfl rfl rfl Tryz.underlying50 rfl (by kernel_rfl) rfl ?_
  exact ⟨vl0, ⟨none, 0, none, 0⟩, 0, 5, rfl, RV.zero _ _, hB12, Nat.zero_le _, fun y rest e hv he => absurd he (fun he => HNO.out y rest e hv he)⟩
 case true =>
  have hck := rvcheck_any x h w4 (hV4.mono (fun g hg => hg.2))
  unfold vlV at hck
  have z0 := hX.c0
  have z1 := hX.c1
  have z2 := hX.c2
  have z3 := hX.c3
  have z4 := hX.c4
  by_cases he : errV x = 0
  ·obtain ⟨hc, hm⟩ := errV_ok he
   have hlen := vlB_len 200 hm hc
   have hcl := cntV_le x 200
   have hby := fun W (hW : Below w4.heap.size w4 W) => vbyte_any x h W ((hV4.mono (fun g hg => hg.2)).up hW) hm (by omega)
   rw [he] at hck
   unfold VByte vlV at hby
   obtain ⟨L, hL⟩ : ∃ q, q = vlB x := ⟨_, rfl⟩
   have hLl : L.length ≤ 100000000 := by rw [hL]; omega
   rw [← hL] at hby
   have HL := Lib.hid hL
   have HBY := Lib.hid hby
   clear hL hby he hc hm hlen hcl
   go_wp2_with (with_reducible refine h_A ?_)
   refine hck.mono ?_
   rintro e w5 ⟨rfl, hB5⟩
   have hby := HBY.out w5 hB5
   have hX5 := hX.below hB5
   have hZ5 := hZ4.below hB5
   have hB05 := hB04.trans (hB5.mono hB04.size)
   have hV5 : RV w5 (FN w2.heap.size w5) x h := (hV4.keep (fun g hg => hB5.block g hg.2) hB5.size).mono (fun g hg => ⟨hg.1, Nat.lt_of_lt_of_le hg.2 hB5.size⟩)
   clear hck z0 z1 z2 z3 z4 hX hZ4 hB04 hV4 HBY
   have z0 := hX5.c0
   have z1 := hX5.c1
   have z2 := hX5.c2
   have z3 := hX5.c3
   have z4 := hX5.c4
   go_wp2_with (with_reducible refine h_A ?_)
   refine hby.mono ?_
   rintro e w6 ⟨A2, c2, rfl, ho, hB6⟩
   have hX6 := hX5.below hB6
   have hZ6 := hZ5.below hB6
   have hB06 := hB05.trans (hB6.mono hB05.size)
   have hV6 : RV w6 (FN w2.heap.size w6) x h := (hV5.keep (fun g hg => hB6.block g hg.2) hB6.size).mono (fun g hg => ⟨hg.1, Nat.lt_of_lt_of_le hg.2 hB6.size⟩)
   have hr6 : RdB w6 w6.heap.size A2 L.length c2 L := ho.rd
   have hb6 : RdB w6 w6.heap.size A n c l := rd_wide (hb.below hB06) hB06.size
   clear hby z0 z1 z2 z3 z4 hX5 hZ5 hB05 hV5 ho
   go_upto_region 5 with fail
   have hHX : Hid (∀ (y : Vl) (rest : List UInt8), l = vlB y ++ rest → VB y → errV y = 0 → x = y ∧ l = L ++ rest) := Lib.hid (fun y rest e hv hy => by
    have := (HX.out y rest e hv hy).1
    subst this
    exact ⟨rfl, by rw [HL.out]; exact e⟩)
   have hLn : L.length = L.length := rfl
   refine rg_start (fun W : World => RdB W W.heap.size A2 L.length c2 L ∧ RdB W W.heap.size A n c l) (by kernel_rfl) ?_
   have hS : RdB w6.drew w6.drew.heap.size A2 L.length c2 L ∧ RdB w6.drew w6.drew.heap.size A n c l := ⟨hr6.drew, hb6.drew⟩
   replace hX6 : Box w6.drew vb 50 #[.int .u8 (x.kind : Int), .int .u64 (x.n : Int), .string (str x.s), .slice h.A1 x.keys.length h.c1, .slice h.A2 x.list.length h.c2] := hX6
   replace hZ6 : Box w6.drew zb 50 #[.int .u8 0, .int .u64 0, .string ⟨#[]⟩, .slice none 0 0, .slice none 0 0] := hZ6
   replace hB06 := below_drewN hB06 1
   have hB06 : Below w.heap.size w w6.drew := hB06
   have hV6 : RV w6.drew (FN w2.heap.size w6.drew) x h := hV6.keep (fun g hg => rfl) (Nat.le_refl _)
   clear hr6 hb6 hB5 hB6
   generalize w6.drew = wd at *
   by_cases hgt : n < L.length
   ·have g1 : (L.length : Int) > (n : Int) := by omega
    have g1' : (n : Int) < (L.length : Int) := by omega
    have HNO : Hid (∀ (y : Vl) (rest : List UInt8), l = vlB y ++ rest → VB y → errV y = 0 → False) := Lib.hid (fun y rest e hv hy => by
     have := congrArg List.length (hHX.out y rest e hv hy).2
     rw [List.length_append] at this
     omega)
    refine rg_t 0 hS ?_
    simp only [List.getElem_toArray, List.getElem_cons_zero, Act.put, List.setIfInBounds_toArray, List.set_cons_zero, List.set_cons_succ]
    refine rg_t 1 hS ?_
    simp only [g_S, Act.put]
    refine rg_t 2 hS ?_
    simp only [g_S, Act.put]
    refine rg_t 3 hS ?_
    simp only [g_S, Act.put]
    refine rg_t 4 hS ?_
    simp only [g_S, Act.put]
    refine rg_t 5 hS ?_
    simp only [g_S, Act.put]
    refine rg_pass 6 rfl (by kernel_rfl) (by kernel_rfl) (by kernel_rfl) hS rfl ?_
    simp only [Act.put, List.setIfInBounds_toArray, List.set_cons_zero, List.set_cons_succ]
    refine rg_pass 7 rfl (by kernel_rfl) (by kernel_rfl) (by kernel_rfl) hS rfl ?_
    simp only [Act.put, List.setIfInBounds_toArray, List.set_cons_zero, List.set_cons_succ]
    refine rg_pass 8 rfl (by kernel_rfl) (by kernel_rfl) (by kernel_rfl) hS rfl ?_
    simp only [Act.put, List.setIfInBounds_toArray, List.set_cons_zero, List.set_cons_succ]
    refine rg_pass 9 rfl (by kernel_rfl) (by kernel_rfl) (by kernel_rfl) hS rfl ?_
    simp only [Act.put, List.setIfInBounds_toArray, List.set_cons_zero, List.set_cons_succ]
    refine rg_pass 10 rfl (by kernel_rfl) (by kernel_rfl) (by kernel_rfl) hS rfl ?_
    simp only [Act.put, List.setIfInBounds_toArray, List.set_cons_zero, List.set_cons_succ]
    refine rg_pass 11 rfl (by kernel_rfl) (by kernel_rfl) (by kernel_rfl) hS rfl ?_
    simp only [Act.put, List.setIfInBounds_toArray, List.set_cons_zero, List.set_cons_succ]
    refine rg_pass 12 rfl (by kernel_rfl) (by kernel_rfl) (by kernel_rfl) hS rfl ?_
    simp only [Act.put, List.setIfInBounds_toArray, List.set_cons_zero, List.set_cons_succ]
    refine rg_pass 13 rfl (by kernel_rfl) (by kernel_rfl) (by kernel_rfl) hS rfl ?_
    simp only [Act.put, List.setIfInBounds_toArray, List.set_cons_zero, List.set_cons_succ]
    refine rg_t 14 hS ?_
    simp only [g_S, Act.put]
    refine rg_end (by kernel_rfl) ?_
    go_wp2_with (with_reducible refine h_B ?_)
    refine unhold (wp_box (v := .agg #[.int .u8 0, .int .u64 0, .string ⟨#[]⟩, .slice none 0 0, .slice none 0 0]) (vs := [.int .u8 0, .int .u64 0, .string ⟨#[]⟩, .slice none 0 0, .slice none 0 0]) rfl rfl rfl rfl hZ6 rfl (by kernel_rfl) (by simp) (by intro u hu; simp at hu; rcases hu with rfl | rfl | rfl | rfl <;> rfl) #[.int .u8 0, .int .u64 0, .string ⟨#[]⟩, .slice none 0 0, .slice none 0 0] (by simp) ?_)
    intro w12 hz12 hg12 _
    have hB12 := (hB06).grown hg12 (hB06).size (fun g hg => by injection hg with hg; omega)
    go_wp2_with (with_reducible refine h_A ?_)
    refine ret_box_tmp2x rfl hz12 rfl rfl rfl Tryz.underlying50 rfl (by kernel_rfl) rfl ?_
    exact ⟨vl0, ⟨none, 0, none, 0⟩, 0, 5, rfl, RV.zero _ _, hB12, Nat.zero_le _, fun y rest e hv he => absurd he (fun he => HNO.out y rest e hv he)⟩
   ·have g1 : ¬ (n : Int) < (L.length : Int) := by omega
    have hcap := (show RdB wd wd.heap.size A n c l from hS.2).cap
    have hmax := (show RdB wd wd.heap.size A n c l from hS.2).max
    have hcut : ∀ W, RdB W W.heap.size A2 L.length c2 L ∧ RdB W W.heap.size A n c l → RdB W W.heap.size (cutA A 1 0 c) L.length c (l.take L.length) := fun W h => by
     have h1 := rd_cut h.2 0 L.length c (by omega) (by omega) (Nat.le_refl _) (by omega)
     have e1 : ((l.map u8v).take (L.length * 1)).drop (0 * 1) = (l.take L.length).map u8v := by simp [List.map_take]
     rw [e1] at h1
     exact h1
    have hcA : cutA A 1 0 c = cutA A 1 0 c := rfl
    refine rg_t 0 hS ?_
    simp only [List.getElem_toArray, List.getElem_cons_zero, Act.put, List.setIfInBounds_toArray, List.set_cons_zero, List.set_cons_succ]
    refine rg_t 1 hS ?_
    simp only [g_S, Act.put]
    refine rg_t 2 hS ?_
    simp only [g_S, Act.put]
    refine rg_t 3 hS ?_
    simp only [g_S, Act.put]
    refine rg_t 4 hS ?_
    simp only [g_S, Act.put]
    refine rg_t 5 hS ?_
    simp only [g_S, Act.put]
    refine rg_t 6 hS ?_
    simp only [g_S, Act.put]
    refine rg_take 7 (v := ?_) rfl (by kernel_rfl) (by kernel_rfl) (by kernel_rfl) hS rfl ?_ ?_
    rotate_left
    ·intro wS hSw; have hv1 := run_strB (w := wS) hSw.1; go_simp; (with_reducible rfl)
    simp only [g_S, Act.put]
    refine rg_t 8 hS ?_
    simp only [g_S, Act.put]
    refine rg_t 9 hS ?_
    simp only [g_S, Act.put]
    refine rg_t 10 hS ?_
    simp only [g_S, Act.put]
    refine rg_slice 11 slB rfl (by kernel_rfl) (by kernel_rfl) (by kernel_rfl) hS rfl rfl rfl hmax hcap 0 L.length c (.inl ⟨rfl, rfl⟩) (.inr ⟨_, _, rfl, rfl⟩) (.inl ⟨rfl, rfl⟩) (by intro h; cases h) (by omega) (by omega) (Nat.le_refl _) (by omega) ?_
    try simp only [g_S, Act.put]
    refine rg_take 12 (v := ?_) rfl (by kernel_rfl) (by kernel_rfl) (by kernel_rfl) hS rfl ?_ ?_
    rotate_left
    ·intro wS hSw; have hv1 := run_strB (w := wS) (hcut wS hSw); go_simp; (with_reducible rfl)
    simp only [g_S, Act.put]
    have HEQ : Hid (((str L).toList == (str (l.take L.length)).toList) = decide (L = l.take L.length)) := Lib.hid (strEqV _ _)
    have hB0 := hB06
    by_cases heq : L = l.take L.length
    ·have hq : ((str L).toList == (str (l.take L.length)).toList) = true := by rw [HEQ.out, decide_eq_true heq]
     have HTK := Lib.hid heq
     clear heq hcut
     refine rg_t 13 hS ?_
     simp only [g_S, Act.put]
     refine rg_t 14 hS ?_
     simp only [g_S, Act.put]
     refine rg_end (by kernel_rfl) ?_
     clear hq HEQ
     have y0 := hX6.c0
     have y1 := hX6.c1
     have y2 := hX6.c2
     have y3 := hX6.c3
     have y4 := hX6.c4
     go_wp2_with (with_reducible refine h_B ?_)
     refine unhold (wp_box (v := .agg #[.int .u8 (x.kind : Int), .int .u64 (x.n : Int), .string (str x.s), .slice h.A1 x.keys.length h.c1, .slice h.A2 x.list.length h.c2]) (vs := [.int .u8 (x.kind : Int), .int .u64 (x.n : Int), .string (str x.s), .slice h.A1 x.keys.length h.c1, .slice h.A2 x.list.length h.c2]) rfl rfl rfl rfl hZ6 rfl (by kernel_rfl) (by simp) (vl_one x h) #[.int .u8 (x.kind : Int), .int .u64 (x.n : Int), .string (str x.s), .slice h.A1 x.keys.length h.c1, .slice h.A2 x.list.length h.c2] (by simp) ?_)
     intro w12 hz12 hg12 _
     have hB12 := hB06.grown hg12 hB06.size (fun g hg => by injection hg with hg; omega)
     have hV12 : RV w12 (FN w.heap.size w12) x h := (hV6.keep (fun g hg => hg12.block g hg.2 (by intro e; injection e with e; have := hg.1; omega)) hg12.size).mono (fun g hg => ⟨by have := hg.1; omega, Nat.lt_of_lt_of_le hg.2 hg12.size⟩)
     go_wp2_with (with_reducible refine h_A ?_)
     refine ret_box_tmp2x rfl hz12 rfl rfl rfl Tryz.underlying50 rfl (by kernel_rfl) rfl ?_
     exact ⟨x, h, L.length, 0, rfl, hV12, hB12, by omega, fun y rest e hv hy => by
      have := (hHX.out y rest e hv hy).1
      exact ⟨this, by rw [HL.out, this]⟩⟩
    ·have hq : ((str L).toList == (str (l.take L.length)).toList) = false := by rw [HEQ.out, decide_eq_false heq]
     have HNO : Hid (∀ (y : Vl) (rest : List UInt8), l = vlB y ++ rest → VB y → errV y = 0 → False) := Lib.hid (fun y rest e hv hy => by
      have := (hHX.out y rest e hv hy).2
      exact heq (by rw [this]; simp))
     clear heq hcut
     refine rg_t 13 hS ?_
     simp only [g_S, Act.put]
     refine rg_t 14 hS ?_
     simp only [g_S, Act.put]
     refine rg_end (by kernel_rfl) ?_
     clear hq HEQ
     go_wp2_with (with_reducible refine h_B ?_)
     refine unhold (wp_box (v := .agg #[.int .u8 0, .int .u64 0, .string ⟨#[]⟩, .slice none 0 0, .slice none 0 0]) (vs := [.int .u8 0, .int .u64 0, .string ⟨#[]⟩, .slice none 0 0, .slice none 0 0]) rfl rfl rfl rfl hZ6 rfl (by kernel_rfl) (by simp) (by intro u hu; simp at hu; rcases hu with rfl | rfl | rfl | rfl <;> rfl) #[.int .u8 0, .int .u64 0, .string ⟨#[]⟩, .slice none 0 0, .slice none 0 0] (by simp) ?_)
     intro w12 hz12 hg12 _
     have hB12 := (hB06).grown hg12 (hB06).size (fun g hg => by injection hg with hg; omega)
     go_wp2_with (with_reducible refine h_A ?_)
     refine ret_box_tmp2x rfl hz12 rfl rfl rfl Tryz.underlying50 rfl (by kernel_rfl) rfl ?_
     exact ⟨vl0, ⟨none, 0, none, 0⟩, 0, 5, rfl, RV.zero _ _, hB12, Nat.zero_le _, fun y rest e hv he => absurd he (fun he => HNO.out y rest e hv he)⟩
  ·have hne : (errV x != 0) = true := by simpa using he
   have HNO : Hid (∀ (y : Vl) (rest : List UInt8), l = vlB y ++ rest → VB y → errV y = 0 → False) := Lib.hid (fun y rest e hv hy => by
    have := (HX.out y rest e hv hy).1
    rw [this] at he
    exact he hy)
   generalize errV x = E at *
   clear he
   go_wp2_with (with_reducible refine h_A ?_)
   refine hck.mono ?_
   rintro e w5 ⟨rfl, hB5⟩
   have hZ5 := hZ4.below hB5
   have hB05 := hB04.trans (hB5.mono hB04.size)
   clear hck z0 z1 z2 z3 z4
   go_wp2_with (with_reducible refine h_B ?_)
   refine unhold (wp_box (v := .agg #[.int .u8 0, .int .u64 0, .string ⟨#[]⟩, .slice none 0 0, .slice none 0 0]) (vs := [.int .u8 0, .int .u64 0, .string ⟨#[]⟩, .slice none 0 0, .slice none 0 0]) rfl rfl rfl rfl hZ5 rfl (by kernel_rfl) (by simp) (by intro u hu; simp at hu; rcases hu with rfl | rfl | rfl | rfl <;> rfl) #[.int .u8 0, .int .u64 0, .string ⟨#[]⟩, .slice none 0 0, .slice none 0 0] (by simp) ?_)
   intro w12 hz12 hg12 _
   have hB12 := (hB05).grown hg12 (hB05).size (fun g hg => by injection hg with hg; omega)
   go_wp2_with (with_reducible refine h_A ?_)
   refine ret_box_tmp2x rfl hz12 rfl rfl rfl Tryz.underlying50 rfl (by kernel_rfl) rfl ?_
   exact ⟨vl0, ⟨none, 0, none, 0⟩, 0, 5, rfl, RV.zero _ _, hB12, Nat.zero_le _, fun y rest e hv he => absurd he (fun he => HNO.out y rest e hv he)⟩
end Go.PH
end

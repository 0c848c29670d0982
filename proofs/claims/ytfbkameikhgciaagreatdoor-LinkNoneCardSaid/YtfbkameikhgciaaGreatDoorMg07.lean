/- Texts laid together: GaCut, LkBytes, MdMath, MdSplit. -/
import Derived.Deep.CutRange
import Derived.WalkMore
import Derived.Lib.SplitLaws
import Derived.Test.YtfbkameikhgciaaGreatDoorMg02
import Derived.Test.YtfbkameikhgciaaGreatDoorMg03
import Derived.Test.YtfbkameikhgciaaGreatDoorMg05
import Derived.Test.YtfbkameikhgciaaGreatDoorMg06
set_option linter.all false
set_option linter.unusedSimpArgs false
set_option linter.unusedVariables false
section
/- The walk of gather's Cut. -/
namespace Go.PH
open Go.RowKit Go.Proofs

def strLenV : Value → Nat
 | .string z => z.size
 | _ => 0
def cutF (most : Int) (a : As) : List Fr := if cutErr most a = 0 then cutAs most.toNat a else []
set_option maxRecDepth 20000 in
set_option maxHeartbeats 4000000 in
theorem gcut_any (a : As) (most : Int) (A : Option Addr) (n c : Nat) (B : Nat) (w : World) (hr : RdG w B A n c a.segs) (hB : B ≤ w.heap.size) (hw : a.wf) (hs : ∀ s ∈ a.segs, s.load.length ≤ 140737488351232) (hn : n ≤ 140737488351232) :
  Calls Tryz.prog 44 #[.agg (asV a.chan a.track A n c), .int .i64 most] w fun e w' => ∃ A2 c2, e = .returned (.tuple #[.slice A2 (cutF most a).length c2, .int .i64 (cutErr most a : Int)]) ∧ OwnF w' w.heap.size A2 (cutF most a).length c2 (cutF most a) ∧ Below w.heap.size w w' := by
 have hck := fun (W : World) (h : Below w.heap.size w W) => gcheck_any a A n c w.heap.size W ((hr.more hB).below h) h.size hw hs hn
 obtain ⟨xb, w0, hqb, hqv, hX, hB0⟩ := alloc_stepG w (asV a.chan a.track A n c) 42
 have hxw : w.heap.size ≤ xb := by omega
 by_cases c1 : most < 1
 ·have e1 : cutErr most a = 2 := by simp [cutErr, c1]
  have e2 : cutF most a = [] := by simp [cutF, e1]
  rw [e1, e2]
  clear e1 e2 hck hX
  unfold asV at *
  go_enter Tryz.func44, Tryz.ntmps44
  go_wp2_with (with_reducible refine h_A ?_)
  go_step3
  go_wp2_with (with_reducible refine h_A ?_)
  rw [Exit.noGoto_ret]
  go_ret2
  exact ⟨none, 0, rfl, Own.none_ _ _ _ _, by rw [← hqv]; exact hB0⟩
 have d1 : decide (most < 1) = false := by simp; omega
 by_cases c2 : 4084 < most
 ·have e1 : cutErr most a = 2 := by simp [cutErr, c2]
  have e2 : cutF most a = [] := by simp [cutF, e1]
  rw [e1, e2]
  clear e1 e2 hck hX
  unfold asV at *
  go_enter Tryz.func44, Tryz.ntmps44
  go_wp2_with (with_reducible refine h_A ?_)
  go_step3
  go_wp2_with (with_reducible refine h_A ?_)
  rw [Exit.noGoto_ret]
  go_ret2
  exact ⟨none, 0, rfl, Own.none_ _ _ _ _, by rw [← hqv]; exact hB0⟩
 have d2 : decide (4084 < most) = false := by simp; omega
 obtain ⟨M, rfl⟩ : ∃ M : Nat, most = (M : Int) := ⟨most.toNat, by omega⟩
 have hM1 : 1 ≤ M := by omega
 have hM2 : M ≤ 4084 := by omega
 cases hok : asOk a
 ·have e1 : cutErr (M : Int) a = 70 := by simp [cutErr, c1, c2, hok]
  have e2 : cutF (M : Int) a = [] := by simp [cutF, e1]
  have e3 : asErr a = 70 := by simp [asErr, hok]
  rw [e1, e2]
  rw [e3] at hck
  clear e1 e2 e3 hok
  unfold asV at *
  go_enter Tryz.func44, Tryz.ntmps44
  go_wp2_with (with_reducible refine h_A ?_)
  rw [← hqb, ← hqv]
  go_step3
  clear hqb hqv
  have x0 := hX.c0
  have x1 := hX.c1
  have x2 := hX.c2
  go_wp2_with (with_reducible refine h_A ?_)
  refine (hck _ hB0).mono ?_
  rintro e w1 ⟨rfl, hB1⟩
  have hB2 := hB0.trans (hB1.mono hB0.size)
  go_wp2_with (with_reducible refine h_A ?_)
  rw [Exit.noGoto_ret]
  go_ret2
  exact ⟨none, 0, rfl, Own.none_ _ _ _ _, hB2⟩
 ·have e1 : cutErr (M : Int) a = 0 := by simp [cutErr, c1, c2, hok]
  have e2 : cutF (M : Int) a = cutAs M a := by simp [cutF, e1]
  have e3 : asErr a = 0 := by simp [asErr, hok]
  rw [e1, e2]
  rw [e3] at hck
  have hmost := cutAs_len hM1 hok
  obtain ⟨hn4, hsum, hne⟩ := asOk_few hok
  have hnl := rec_length sgShape hr
  have hel := fun {i : Nat} (hi : i < n) => rec_at sgShape hr hi
  obtain ⟨FS, hFS⟩ : ∃ l, l = cutAs M a := ⟨_, rfl⟩
  rw [← hFS] at hmost ⊢
  have HST : Hid (FS = [] ++ cutL M a.chan a.track n 0 (a.segs.drop 0)) := Lib.hid (by rw [hFS, cutAs, hnl]; rfl)
  have HM := Lib.hid hmost
  have HN := Lib.hid hnl
  have HSM := Lib.hid hsum
  have HTY := Lib.hid hw.2.2
  obtain ⟨hch, htr, _⟩ := hw
  clear e1 e2 e3 hok hFS hne hmost hsum hnl hs hr c1 c2
  obtain ⟨ch, tr, l⟩ := a
  simp only at *
  unfold asV at *
  go_enter Tryz.func44, Tryz.ntmps44
  go_wp2_with (with_reducible refine h_A ?_)
  rw [← hqb, ← hqv]
  go_step3
  clear hqb hqv
  have x0 := hX.c0
  have x1 := hX.c1
  have x2 := hX.c2
  go_wp2_with (with_reducible refine h_A ?_)
  refine (hck _ hB0).mono ?_
  rintro e w1 ⟨rfl, hB1⟩
  have hX1 := hX.below hB1
  have hB2 := hB0.trans (hB1.mono hB0.size)
  clear hck hX hB1 hB0 x0 x1 x2
  clear w0
  have x0 := hX1.c0
  have x1 := hX1.c1
  have x2 := hX1.c2
  go_wp2_with (with_reducible refine h_A ?_)
  go_step3
  go_wp2_with (with_reducible refine h_A ?_)
  go_loopw [7, 27] (fun s7 s27 wr => ∃ (i N c2 : Nat) (A2 : Option Addr) (D : List Fr), i ≤ n ∧ s7 = .slice A2 N c2 ∧ s27 = .int .i64 (i : Int) ∧ N ≤ 16388 ∧ Hid (D.length = N) ∧ Hid (FS = D ++ cutL M ch tr n i (l.drop i)) ∧ OwnF wr (xb + 1) A2 N c2 D ∧ Box wr xb 42 #[.int .u16 (ch : Int), .int .u8 (tr : Int), .slice A n c] ∧ Below w.heap.size w wr) (fun _ s27 _ => n - (RowKit.intOf s27).toNat)
  case atStart => exact ⟨0, 0, 0, none, [], by omega, rfl, rfl, by omega, Lib.hid rfl, HST, Own.none_ _ _ _ _, hX1, hB2⟩
  case round =>
   clear HST x0 x1 x2 hX1 hB2 w1
   obtain ⟨i, N, c2, A2, D, hi, rfl, rfl, hN, HD, HC, hO, hX, hBr⟩ := hrel
   have x0 := hX.c0
   have x1 := hX.c1
   have x2 := hX.c2
   by_cases hlt : i < n
   ·have g1 : (i : Int) < (n : Int) := by omega
    obtain ⟨b, off, rfl, hbB, hkl, hcl⟩ := hel hlt
    have hbw : b < w.heap.size := by omega
    have k0 : wr.cell? ⟨b, off + i * 2, none⟩ = some (.int .u8 (l[i].ty : Int)) := (hBr.cell (p := ⟨b, off + i * 2, none⟩) hbw).trans (hcl 0 _ rfl)
    have k1 : wr.cell? ⟨b, off + i * 2 + 1, none⟩ = some (.string (str l[i].load)) := (hBr.cell (p := ⟨b, off + i * 2 + 1, none⟩) hbw).trans (hcl 1 _ rfl)
    have hty := HTY.out _ (List.getElem_mem hkl)
    have hsl := Nat.le_trans (sgLen_mem (List.getElem_mem hkl)) HSM.out
    have HC2 : Hid (FS = D ++ (cutN M ⟨decide (i = 0), decide (i + 1 = n), true, false, l[i].ty, tr, ch, []⟩ l[i].load ++ cutL M ch tr n (i + 1) (l.drop (i + 1)))) := Lib.hid (by rw [HC.out, List.drop_eq_getElem_cons hkl, cutL_cons])
    clear hcl HC
    generalize l[i] = s at *
    obtain ⟨T, hT⟩ : ∃ T, T = cutL M ch tr n (i + 1) (l.drop (i + 1)) := ⟨_, rfl⟩
    rw [← hT] at HC2
    have HT := Lib.hid hT
    clear hT
    obtain ⟨b1, hb1⟩ : ∃ b, b = decide (i = 0) := ⟨_, rfl⟩
    obtain ⟨b2, hb2⟩ : ∃ b, b = decide (i + 1 = n) := ⟨_, rfl⟩
    rw [← hb1, ← hb2] at HC2
    have q1 : ((i : Int) == 0) = b1 := by rw [hb1, Bool.eq_iff_iff]; simp
    have q2 : ((i : Int) == (n : Int) - 1) = b2 := by rw [hb2, Bool.eq_iff_iff]; simp; omega
    clear hb1 hb2
    obtain ⟨sb, w2, hqb, hqv, hS, hB2⟩ := alloc_stepG wr #[.int .u8 0, .string ⟨#[]⟩] 84
    go_wp2_with (with_reducible refine h_B ?_)
    rw [← hqb, ← hqv]
    have hsw : xb < sb := by rw [hqb]; exact hX.lt
    have hsb : wr.heap.size ≤ sb := by rw [hqb]; exact Nat.le_refl _
    clear hqb hqv
    refine unhold (wp_box (v := .agg #[.int .u8 (s.ty : Int), .string (str s.load)]) (vs := [.int .u8 (s.ty : Int), .string (str s.load)]) rfl rfl rfl rfl hS rfl (by kernel_rfl) (by simp) (by simp [Value.oneCell']) #[.int .u8 (s.ty : Int), .string (str s.load)] (by simp) ?_)
    intro w3 hS3 hg3 hzz
    clear hzz
    have hX3 := (hX.below hB2).grown hg3 (sne (by omega))
    have hO3 := own_stays (own_below hO hB2) hg3 (fun g hg e => by injection e with e; have := (hO.blk_lt hg).2; omega)
    have hB3 : Below w.heap.size w w3 := (hBr.trans (hB2.mono hBr.size)).grown hg3 (Nat.le_trans hBr.size hB2.size) (fun g hg => by injection hg with hg; omega)
    clear hS hg3 hB2 hO x0 x1 x2 k0 k1 hBr hX hsb
    have x0 := hX3.c0
    have x1 := hX3.c1
    have x2 := hX3.c2
    have s0 := hS3.c0
    have s1 := hS3.c1
    obtain ⟨fb, w4, hqb, hqv, hF, hB4⟩ := alloc_stepG w3 #[.bool false, .bool false, .bool false, .bool false, .int .u8 0, .int .u8 0, .int .u16 0, .string ⟨#[]⟩] 97
    go_wp2_with (with_reducible refine h_B ?_)
    rw [← hqb, ← hqv]
    have hfx : xb < fb := by rw [hqb]; exact hX3.lt
    have hfs : sb < fb := by rw [hqb]; exact hS3.lt
    have hfw : w3.heap.size ≤ fb := by rw [hqb]; exact Nat.le_refl _
    clear hqb hqv
    refine unhold (wp_box (v := .agg #[.bool b1, .bool b2, .bool true, .bool false, .int .u8 (s.ty : Int), .int .u8 (tr : Int), .int .u16 (ch : Int), .string ⟨#[]⟩]) (vs := [.bool b1, .bool b2, .bool true, .bool false, .int .u8 (s.ty : Int), .int .u8 (tr : Int), .int .u16 (ch : Int), .string ⟨#[]⟩]) rfl rfl rfl rfl hF rfl (by kernel_rfl) (by simp) (by simp [Value.oneCell']) #[.bool b1, .bool b2, .bool true, .bool false, .int .u8 (s.ty : Int), .int .u8 (tr : Int), .int .u16 (ch : Int), .string ⟨#[]⟩] (by simp) ?_)
    intro w5 hF5 hg5 hzz
    clear hzz
    have hX5 := (hX3.below hB4).grown hg5 (sne (by omega))
    have hS5 := (hS3.below hB4).grown hg5 (sne (by omega))
    have hO5 := own_stays (own_below hO3 hB4) hg5 (fun g hg e => by injection e with e; have := (hO3.blk_lt hg).2; omega)
    have hAf : ∀ g, blk A2 = some g → g ≠ fb := fun g hg e => by have := (hO3.blk_lt hg).2; omega
    have hB5 : Below w.heap.size w w5 := (hB3.trans (hB4.mono hB3.size)).grown hg5 (Nat.le_trans hB3.size hB4.size) (fun g hg => by injection hg with hg; omega)
    clear hF hg5 hB4 hO3 x0 x1 x2 s0 s1 hB3 hX3 hS3
    clear hfw
    have s1 := hS5.c1
    go_wp2_with (with_reducible refine h_B ?_)
    have hO6 := hO5
    have hN' := hN
    go_loopw [7, 11] (fun s7 s11 wr => ∃ (N c2 : Nat) (A2 : Option Addr) (D : List Fr) (rest : List UInt8) (bg fi : Bool) (pl : List UInt8), s7 = .slice A2 N c2 ∧ s11 = .string (str rest) ∧ N ≤ 16388 ∧ rest.length ≤ 16384 ∧ Hid (D.length = N) ∧ Hid (FS = D ++ (cutN M ⟨b1, b2, bg, false, s.ty, tr, ch, []⟩ rest ++ T)) ∧ OwnF wr (xb + 1) A2 N c2 D ∧ (∀ g, blk A2 = some g → g ≠ fb) ∧
     Box wr xb 42 #[.int .u16 (ch : Int), .int .u8 (tr : Int), .slice (some ⟨b, off, none⟩) n c] ∧ Box wr fb 97 #[.bool b1, .bool b2, .bool bg, .bool fi, .int .u8 (s.ty : Int), .int .u8 (tr : Int), .int .u16 (ch : Int), .string (str pl)] ∧ Below w.heap.size w wr) (fun _ s11 _ => strLenV s11)
    case atStart => exact ⟨N, c2, A2, D, s.load, true, false, [], rfl, rfl, hN, hsl, HD, HC2, hO6, hAf, hX5, hF5, hB5⟩
    case round =>
     clear hO6 hO5 hN' hN HD HC2 hAf hX5 hF5 hB5 hS5 s1 hsl hsw hfs
     obtain ⟨N, c2, A2, D, rest, bg, fi, pl, rfl, rfl, hN, hrl, HD, HC, hO, hAf, hX, hF, hBr⟩ := hrel
     obtain ⟨R, hR⟩ : ∃ R, R = rest.length := ⟨_, rfl⟩
     have hss : (str rest).size = R := by rw [hR]; exact str_size rest
     have hRm : R ≤ 16384 := by omega
     obtain ⟨K, hK⟩ : ∃ K, K = min M R := ⟨_, rfl⟩
     have hmin : (if R < M then (R : Int) else (M : Int)) = (K : Int) := by split <;> omega
     have hmin2 : min (M : Int) (R : Int) = (K : Int) := by omega
     have hKR : K ≤ R := by omega
     have hRl : R ≤ rest.length := by omega
     have hRl2 : rest.length ≤ R := by omega
     have HK := Lib.hid hK
     have HRL := Lib.hid hR
     clear hR hK
     go_upto_region 14 with fail
     refine rg_start (fun W : World => True) (by kernel_rfl) ?_
     have hS : True := trivial
     have hX7 : Box wr.drew xb 42 #[.int .u16 (ch : Int), .int .u8 (tr : Int), .slice (some ⟨b, off, none⟩) n c] := hX
     have hF7 : Box wr.drew fb 97 #[.bool b1, .bool b2, .bool bg, .bool fi, .int .u8 (s.ty : Int), .int .u8 (tr : Int), .int .u16 (ch : Int), .string (str pl)] := hF
     have hO7 : OwnF wr.drew (xb + 1) A2 N c2 D := hO
     have hB7 : Below w.heap.size w wr.drew := below_drewN hBr 1
     clear hX hF hO hBr
     generalize wr.drew = w7 at *
     refine rg_t 0 hS ?_
     simp only [List.getElem_toArray, List.getElem_cons_zero, Act.put, List.setIfInBounds_toArray, List.set_cons_zero, List.set_cons_succ]
     refine rg_t 1 hS ?_
     simp only [g_S, Act.put]
     refine rg_take 2 (v := ?_) rfl (by kernel_rfl) (by kernel_rfl) (by kernel_rfl) hS rfl ?_ ?_
     rotate_left
     ·intro wS hSw; rw [exec_cutS (x := .tmp 54) (lo := none) (hi := some <| .tmp 55) Tryz.underlying9 (l := rest) (i := 0) (j := K)] <;> first | rfl | omega | exact .inl ⟨rfl, rfl⟩ | exact .inr ⟨_, _, rfl, rfl⟩
     simp only [g_S, Act.put]
     refine rg_t 3 hS ?_
     simp only [g_S, Act.put]
     refine rg_t 4 hS ?_
     simp only [g_S, Act.put]
     refine rg_take 5 (v := ?_) rfl (by kernel_rfl) (by kernel_rfl) (by kernel_rfl) hS rfl ?_ ?_
     rotate_left
     ·intro wS hSw; rw [exec_cutS (x := .tmp 57) (lo := some <| .tmp 58) (hi := none) Tryz.underlying9 (l := rest) (i := K) (j := rest.length)] <;> first | rfl | omega | exact .inl ⟨rfl, rfl⟩ | exact .inr ⟨_, _, rfl, rfl⟩
     simp only [g_S, Act.put]
     simp only [List.drop_zero, List.take_length]
     obtain ⟨PC, hPC⟩ : ∃ q, q = rest.take K := ⟨_, rfl⟩
     obtain ⟨RS, hRS⟩ : ∃ q, q = rest.drop K := ⟨_, rfl⟩
     rw [← hPC, ← hRS]
     have hRSl : RS.length = R - K := by rw [hRS, List.length_drop, ← HRL.out]
     have HPC := Lib.hid hPC
     have HRS := Lib.hid hRS
     clear hPC hRS
     refine rg_t 6 hS ?_
     simp only [g_S, Act.put]
     refine rg_one 7 rfl (by kernel_rfl) rfl (fun K1 hKK => ?_)
     refine op_box (g := fb) (j := 7) (v := .string (str PC)) (vs := [.string (str PC)]) rfl rfl rfl hF7 rfl (by kernel_rfl) (by simp) (by simp [Value.oneCell']) #[.bool b1, .bool b2, .bool bg, .bool fi, .int .u8 (s.ty : Int), .int .u8 (tr : Int), .int .u16 (ch : Int), .string (str PC)] (by simp) ?_
     intro w8 hF8 hg8 hzz
     clear hzz
     have hX8 := hX7.grown hg8 (sne (by omega))
     have hO8 := own_stays hO7 hg8 (fun g hg e => by injection e with e; exact hAf g hg e.symm)
     have hB8 : Below w.heap.size w w8 := hB7.grown hg8 hB7.size (fun g hg => by injection hg with hg; omega)
     refine hKK _ _ hS ?_
     clear hKK K1 hS hX7 hF7 hO7 hB7 hg8
     try simp only [g_S, Act.put]
     have hS : True := trivial
     refine rg_t 8 hS ?_
     simp only [g_S, Act.put]
     refine rg_end (by kernel_rfl) ?_
     clear w7
     obtain ⟨fin, hfin⟩ : ∃ q, q = decide (R ≤ M) := ⟨_, rfl⟩
     have hq : (str RS).toList.isEmpty = fin := by
      rw [str_toList, hfin, Bool.eq_iff_iff]
      have := HK.out
      cases RS with
      | nil => simp at hRSl ⊢; omega
      | cons x r => simp at hRSl ⊢; omega
     have HFIN := Lib.hid hfin
     clear hfin
     go_wp2_with (with_reducible refine h_B ?_)
     refine unhold (wp_box (j := 3) (v := .bool fin) (vs := [.bool fin]) rfl rfl rfl rfl hF8 rfl (by kernel_rfl) (by simp) (by simp [Value.oneCell']) #[.bool b1, .bool b2, .bool bg, .bool fin, .int .u8 (s.ty : Int), .int .u8 (tr : Int), .int .u16 (ch : Int), .string (str PC)] (by simp) ?_)
     intro w9 hF9 hg9 hzz
     clear hzz
     have hX9 := hX8.grown hg9 (sne (by omega))
     have hO9 := own_stays hO8 hg9 (fun g hg e => by injection e with e; exact hAf g hg e.symm)
     have hB9 : Below w.heap.size w w9 := hB8.grown hg9 hB8.size (fun g hg => by injection hg with hg; omega)
     clear hX8 hO8 hB8 hF8 hg9
     clear w8
     have f0 := hF9.c0
     have f1 := hF9.c1
     have f2 := hF9.c2
     have f3 := hF9.c3
     have f4 := hF9.c4
     have f5 := hF9.c5
     have f6 := hF9.c6
     have f7 := hF9.c7
     have hlt9 := hF9.lt
     go_wp2_with (with_reducible refine h_B ?_)
     refine unhold (wp_rec frShape slF Tryz.underlying65 rfl rfl rfl rfl rfl (⟨b1, b2, bg, fin, s.ty, tr, ch, PC⟩ : Fr) rfl hO9 (by omega) (by omega) (by have := hX9.lt; omega) ?_)
     intro A3 c3 wa hOa hga hA3 _
     have hAa : ∀ g, blk A3 = some g → g ≠ fb := fun g hg => by
      rcases hA3 with e | e
      ·exact hAf g (by rw [← e]; exact hg)
      ·have := e g hg; omega
     have hXa := hX9.grown hga (fun e => by have := (hO9.blk_lt e.symm).1; omega)
     have hFa := hF9.grown hga (fun e => hAf _ e.symm rfl)
     have hBa : Below w.heap.size w wa := hB9.grown hga hB9.size (fun g hg => by have := (hO9.blk_lt hg).1; omega)
     have HDa : Hid ((D ++ [(⟨b1, b2, bg, fin, s.ty, tr, ch, PC⟩ : Fr)]).length = N + 1) := Lib.hid (by have := HD.out; simp; omega)
     have hN1 : N + 1 ≤ 16388 := by
      have h1 := HD.out
      have h2 := congrArg List.length HC.out
      have h3 := HM.out
      have h4 : 1 ≤ (cutN M ⟨b1, b2, bg, false, s.ty, tr, ch, []⟩ rest).length := by
       have := cutS_ne M rest.length ⟨b1, b2, bg, false, s.ty, tr, ch, []⟩ rest
       unfold cutN
       exact List.length_pos_iff.2 this
      simp only [List.length_append] at h2
      omega
     clear hX9 hO9 hF9 hB9 hga hA3 hAf f0 f1 f2 f3 f4 f5 f6 f7
     have f3 := hFa.c3
     cases fin with
     | true =>
      have HE : Hid (FS = (D ++ [(⟨b1, b2, bg, true, s.ty, tr, ch, PC⟩ : Fr)]) ++ cutL M ch tr n (i + 1) (l.drop (i + 1))) := Lib.hid (by
       have hle : R ≤ M := by simpa using HFIN.out.symm
       have e1 : PC = rest := by rw [HPC.out, List.take_of_length_le]; have := HK.out; omega
       rw [HC.out, cutN_end (by rw [← HRL.out]; exact hle), ← HT.out, e1]
       simp)
      go_wp2_with (with_reducible refine h_B ?_)
      exact ⟨⟨i + 1, N + 1, c3, A3, _, by omega, rfl, by go_num, hN1, HDa, HE, hOa, hXa, hBa⟩, by simp [RowKit.intOf]; omega⟩
     | false =>
      have hgt : M < R := by have := HFIN.out; simpa using this
      have HE : Hid (FS = (D ++ [(⟨b1, b2, bg, false, s.ty, tr, ch, PC⟩ : Fr)]) ++ (cutN M ⟨b1, b2, false, false, s.ty, tr, ch, []⟩ RS ++ T)) := Lib.hid (by
       have hKM : K = M := by have := HK.out; omega
       rw [HC.out, cutN_more hM1 (by rw [← HRL.out]; exact hgt), HPC.out, HRS.out, hKM]
       simp)
      go_wp2_with (with_reducible refine h_B ?_)
      refine unhold (wp_box (j := 2) (v := .bool false) (vs := [.bool false]) rfl rfl rfl rfl hFa rfl (by kernel_rfl) (by simp) (by simp [Value.oneCell']) #[.bool b1, .bool b2, .bool false, .bool false, .int .u8 (s.ty : Int), .int .u8 (tr : Int), .int .u16 (ch : Int), .string (str PC)] (by simp) ?_)
      intro wb hFb hgb hzz
      clear hzz
      have hXb := hXa.grown hgb (sne (by omega))
      have hOb := own_stays hOa hgb (fun g hg e => by injection e with e; exact hAa g hg e.symm)
      have hBb : Below w.heap.size w wb := hBa.grown hgb hBa.size (fun g hg => by injection hg with hg; omega)
      go_wp2_with (with_reducible refine h_B ?_)
      have hms : strLenV (.string (str RS)) < strLenV (.string (str rest)) := by
       show (str RS).size < (str rest).size
       rw [str_size, str_size, ← HRL.out]
       have := HK.out
       omega
      first
       | exact ⟨⟨N + 1, c3, A3, _, RS, false, false, PC, rfl, rfl, hN1, by omega, HDa, HE, hOb, hAa, hXb, hFb, hBb⟩, hms⟩
       | (refine ⟨?_, hms⟩; (repeat apply Exists.intro); exact ⟨⟨N + 1, c3, A3, _, RS, false, false, PC, rfl, rfl, hN1, by omega, HDa, HE, hOb, hAa, hXb, hFb, hBb⟩, rfl⟩)
   ·have g1 : ¬ (i : Int) < (n : Int) := by omega
    have HE : Hid (FS = D) := Lib.hid (by rw [HC.out, List.drop_eq_nil_of_le (by have := HN.out; omega)]; simp [cutL])
    have hlN := HD.out
    rw [← HE.out] at hO hlN
    have HLN := Lib.hid hlN
    clear hlN HD HC hel
    go_wp2_with (with_reducible refine h_A ?_)
    go_ret2
    rw [HLN.out]
    exact ⟨A2, c2, rfl, hO.base_le (by omega), hBr⟩
end Go.PH
end
section
/- The walk of link's bytes. -/
namespace Go.PH
open Go.RowKit Go.Proofs

def putAll (l : List Fr) : List UInt8 := l.flatMap Fr.put
def asBytes (most : Int) (a : As) : List UInt8 := putAll (cutF most a)
theorem put_len (f : Fr) : f.put.length ≤ 4096 := by
 unfold Fr.put
 split
 ·rename_i h
  have : f.bytes.length = 12 + f.load.length := by simp [Fr.bytes, be_length]; omega
  simp [Fr.ok] at h
  omega
 ·simp
theorem putAll_len (l : List Fr) : (putAll l).length ≤ 4096 * l.length := by
 induction l with
 | nil => simp [putAll]
 | cons f r ih =>
  have := put_len f
  have e : putAll (f :: r) = f.put ++ putAll r := rfl
  rw [e, List.length_append, List.length_cons]
  omega
theorem putAll_take {l : List Fr} {i : Nat} (h : i < l.length) : putAll (l.take (i + 1)) = putAll (l.take i) ++ l[i].put := by
 unfold putAll
 rw [List.take_succ_eq_append_getElem h, List.flatMap_append, List.flatMap_singleton]
theorem cutS_wf (most : Nat) : ∀ (k : Nat) (f : Fr) (s : List UInt8), f.wf → s.length ≤ 16384 → ∀ x ∈ cutS most k f s, x.wf ∧ x.load.length ≤ 16384
 | 0, f, s, hf, hs, x, hx => by simp [cutS] at hx; subst hx; exact ⟨hf, hs⟩
 | k + 1, f, s, hf, hs, x, hx => by
  rw [cutS] at hx
  split at hx
  ·simp at hx; subst hx; exact ⟨hf, hs⟩
  ·rcases List.mem_cons.1 hx with rfl | hx
   ·exact ⟨hf, by simp; omega⟩
   ·exact cutS_wf most k ⟨f.first, f.last, false, false, f.ty, f.track, f.chan, []⟩ (s.drop most) hf (by simp; omega) x hx
theorem cutF_wf {most : Int} {a : As} (hw : a.wf) : ∀ x ∈ cutF most a, x.wf ∧ x.load.length ≤ 16384 := by
 intro x hx
 unfold cutF at hx
 split at hx
 ·rename_i h
  have hok : asOk a = true := by
   unfold cutErr at h
   split at h
   ·omega
   ·split at h
    ·assumption
    ·omega
  obtain ⟨_, hs, _⟩ := asOk_few hok
  have key : ∀ (l : List Sg) (i : Nat), (∀ s ∈ l, s.ty < 256 ∧ s.load.length ≤ 16384) → ∀ x ∈ cutL most.toNat a.chan a.track a.segs.length i l, x.wf ∧ x.load.length ≤ 16384 := by
   intro l
   induction l with
   | nil => intro i _ x hx; simp [cutL] at hx
   | cons s r ih =>
    intro i hl x hx
    rw [cutL] at hx
    rcases List.mem_append.1 hx with hx | hx
    ·have := hl s (by simp)
     exact cutS_wf _ _ _ _ ⟨this.1, hw.2.1, hw.1⟩ this.2 x hx
    ·exact ih _ (fun s hs => hl s (by simp [hs])) x hx
  exact key _ _ (fun s hs' => ⟨hw.2.2 s hs', Nat.le_trans (sgLen_mem hs') hs⟩) x hx
 ·cases hx
theorem cutF_len (most : Int) (a : As) : (cutF most a).length ≤ 16388 := by
 unfold cutF
 split
 ·rename_i h
  unfold cutErr at h
  split at h
  ·omega
  ·split at h
   ·rename_i h1 h2
    exact cutAs_len (by omega) h2
   ·omega
 ·simp
theorem bplB : BPl 59 2 0 := ⟨by kernel_rfl, by omega⟩
set_option maxRecDepth 20000 in
set_option maxHeartbeats 4000000 in
theorem lbytes_any (lb sz : Nat) (a : As) (A : Option Addr) (n c : Nat) (w : World) (h4 : w.cell? ⟨lb, 4, none⟩ = some (.int .u64 (sz : Int))) (hsz : sz ≤ 1000000) (hr : RdG w w.heap.size A n c a.segs) (hw : a.wf) (hs : ∀ s ∈ a.segs, s.load.length ≤ 140737488351232) (hn : n ≤ 140737488351232) :
  Calls Tryz.prog 31 #[.pointer (some ⟨lb, 0, none⟩), .agg (asV a.chan a.track A n c)] w fun e w' => e = .returned (.tuple #[.string (str (asBytes ((sz : Int) - 12) a)), .int .i64 (cutErr ((sz : Int) - 12) a : Int)]) ∧ Below w.heap.size w w' := by
 have hct := fun (W : World) (h : Below w.heap.size w W) => gcut_any a ((sz : Int) - 12) A n c w.heap.size W (hr.below h) h.size hw hs hn
 have hlw : lb < w.heap.size := World.block_lt_of_cell? _ _ h4
 obtain ⟨xb, w0, hqb, hqv, hX, hB0⟩ := alloc_stepG w (asV a.chan a.track A n c) 42
 have HWF := Lib.hid (cutF_wf (most := (sz : Int) - 12) hw)
 have hfl := cutF_len ((sz : Int) - 12) a
 unfold asBytes
 generalize cutF ((sz : Int) - 12) a = FS at *
 generalize cutErr ((sz : Int) - 12) a = ER at *
 have hw12 : IntKind.i64.wrap ((sz : Int) - 12) = (sz : Int) - 12 := IntWalk.i64_in _ ⟨by omega, by omega⟩
 have hwz : IntKind.i64.wrap (sz : Int) = (sz : Int) := IntWalk.i64_in _ ⟨by omega, by omega⟩
 clear hr hw hs
 unfold asV at *
 go_enter Tryz.func31, Tryz.ntmps31
 go_upto_region 1 with fail
 rw [← hqb, ← hqv]
 have hxw : w.heap.size ≤ xb := by omega
 clear hqb hqv
 have k4 : w0.cell? ⟨lb, 4, none⟩ = some (.int .u64 (sz : Int)) := (hB0.cell (p := ⟨lb, 4, none⟩) hlw).trans h4
 refine rg_start (fun W : World => Below w0.heap.size w0 W) (by kernel_rfl) ?_
 have hS : Below w0.heap.size w0 w0.drew := below_drewN (Below.refl _ _) 1
 have hk4 := fun (wS : World) (hSw : Below w0.heap.size w0 wS) => (hSw.cell (p := ⟨lb, 4, none⟩) (World.block_lt_of_cell? _ _ k4)).trans k4
 have hct2 := hct w0.drew (below_drewN hB0 1)
 have hB1 : Below w.heap.size w w0.drew := below_drewN hB0 1
 clear hct h4 k4
 generalize w0.drew = wd at *
 refine rg_take 0 (v := ?_) rfl (by kernel_rfl) (by kernel_rfl) (by kernel_rfl) hS rfl ?_ ?_
 rotate_left
 ·intro wS hSw; have k0 := (hX.below hSw).cell (j := 0) rfl; have k1 := (hX.below hSw).cell (j := 1) rfl; have k2 := (hX.below hSw).cell (j := 2) rfl; go_simp; (with_reducible rfl)
 simp only [List.getElem_toArray, List.getElem_cons_zero, Act.put, List.setIfInBounds_toArray, List.set_cons_zero, List.set_cons_succ]
 refine rg_t 1 hS ?_
 simp only [g_S, Act.put]
 refine rg_t 2 hS ?_
 simp only [g_S, Act.put]
 refine rg_t 3 hS ?_
 simp only [g_S, Act.put]
 refine rg_take 4 (v := ?_) rfl (by kernel_rfl) (by kernel_rfl) (by kernel_rfl) hS rfl ?_ ?_
 rotate_left
 ·intro wS hSw; have k0 := hk4 _ hSw; go_simp; (with_reducible rfl)
 simp only [g_S, Act.put]
 refine rg_t 5 hS ?_
 simp only [g_S, Act.put]
 refine rg_t 6 hS ?_
 simp only [g_S, Act.put]
 refine rg_one 7 rfl (by kernel_rfl) rfl (fun K hK => ?_)
 go_simp
 (with_reducible refine hct2.mono ?_)
 rintro e w1 ⟨A2, c2, rfl, hO, hB2⟩
 have hS1 : Below w0.heap.size w0 w1 := hS.trans (hB2.mono hS.size)
 refine hK _ _ hS1 ?_
 clear hK K
 try simp only [g_S, Act.put]
 refine rg_t 8 hS1 ?_
 simp only [g_S, Act.put]
 refine rg_t 9 hS1 ?_
 simp only [g_S, Act.put]
 refine rg_t 10 hS1 ?_
 simp only [g_S, Act.put]
 refine rg_t 11 hS1 ?_
 simp only [g_S, Act.put]
 refine rg_t 12 hS1 ?_
 simp only [g_S, Act.put]
 refine rg_end (by kernel_rfl) ?_
 replace hB2 := hB1.trans (hB2.mono hB1.size)
 clear hS hS1 hct2 hk4 hB1 hX hB0
 clear w0
 obtain ⟨bb, w2, hqb, hqv, hBb, hB12⟩ := alloc_stepG w1 #[.pointer none, .slice none 0 0] 59
 have hO2 := own_below hO hB12
 have hbw : w1.heap.size ≤ bb := by omega
 have hB3 := hB2.trans (hB12.mono hB2.size)
 have hwb : w.heap.size ≤ bb := by have := hB2.size; omega
 have hAb : ∀ g, blk A2 = some g → g < bb := fun g hg => by have := (hO.blk_lt hg).2; omega
 go_upto_region 3 with fail
 rw [← hqb, ← hqv]
 clear hqb hqv
 have hn2 := rec_length frShape hO2.rd
 obtain ⟨N, hN⟩ : ∃ N, N = FS.length := ⟨_, rfl⟩
 rw [← hN] at hO2 hfl ⊢
 have HN := Lib.hid hN
 have hrF := fun (W : World) (h : Below w2.heap.size w2 W) {i : Nat} (hi : i < N) => rec_at frShape (hO2.rd.below h) hi
 have hlt2 := hBb.lt
 have hOn : Own w2 (bb + 1) 5 1 none 0 0 (([] : List UInt8).map u8v) := Own.none_ _ _ _ _
 have hNm : (N : Int) ≤ 16388 := by omega
 clear hn2 hN hO
 go_wp2_with (with_reducible refine h_B ?_)
 go_loopw [26] (fun s26 wr => ∃ (i m c3 : Nat) (p : Value) (A3 : Option Addr), i ≤ N ∧ s26 = .int .i64 (i : Int) ∧ Hid (m = (putAll (FS.take i)).length) ∧ Box wr bb 59 #[p, .slice A3 m c3] ∧ (p = .pointer none ∨ p = bPtr bb 0) ∧ Own wr (bb + 1) 5 1 A3 m c3 ((putAll (FS.take i)).map u8v) ∧ KeepF (fun g => bb ≤ g) w2 wr) (fun s26 _ => N - (RowKit.intOf s26).toNat)
 case atStart => exact ⟨0, 0, 0, .pointer none, none, by omega, rfl, Lib.hid rfl, hBb, .inl rfl, hOn, .refl _ _⟩
 case round =>
  clear hOn hBb
  obtain ⟨i, m, c3, p, A3, hi, rfl, HM, hBb, hp, hO3, hK3⟩ := hrel
  have hFr : OwnF wr wd.heap.size A2 N c2 FS := own_keep hO2 (fun g hg => hK3.2.1 g (by have := (hO2.blk_lt hg).2; exact this) (by have := hAb g hg; omega))
  have hBr : Below w.heap.size w wr := hB3.trans (hK3.toBelow (by have := hB3.size; omega) (fun g hg => by omega))
  have hne3 : blk A3 ≠ some bb := fun e => by have := (hO3.blk_lt e).1; omega
  by_cases hlt : i < N
  ·have g1 : (i : Int) < (N : Int) := by omega
   obtain ⟨b, off, rfl, hbB, hkl, hcl⟩ := rec_at frShape hFr.rd hlt
   have k0 := hcl 0 _ rfl
   have k1 := hcl 1 _ rfl
   have k2 := hcl 2 _ rfl
   have k3 := hcl 3 _ rfl
   have k4 := hcl 4 _ rfl
   have k5 := hcl 5 _ rfl
   have k6 := hcl 6 _ rfl
   have k7 := hcl 7 _ rfl
   have hwf := HWF.out _ (List.getElem_mem hkl)
   have HT := Lib.hid (putAll_take hkl)
   clear hcl hrF
   generalize FS[i] = f at *
   simp only [Nat.add_zero] at k0
   obtain ⟨fb, w4, hqb, hqv, hF, hB4⟩ := alloc_stepG wr #[.bool false, .bool false, .bool false, .bool false, .int .u8 0, .int .u8 0, .int .u16 0, .string ⟨#[]⟩] 97
   go_wp2_with (with_reducible refine h_B ?_)
   rw [← hqb, ← hqv]
   have hfb : bb < fb := by rw [hqb]; exact hBb.lt
   have hfw : wr.heap.size ≤ fb := by rw [hqb]; exact Nat.le_refl _
   clear hqb hqv
   refine unhold (wp_box (v := .agg #[.bool f.first, .bool f.last, .bool f.beg, .bool f.fin, .int .u8 (f.ty : Int), .int .u8 (f.track : Int), .int .u16 (f.chan : Int), .string (str f.load)]) (vs := [.bool f.first, .bool f.last, .bool f.beg, .bool f.fin, .int .u8 (f.ty : Int), .int .u8 (f.track : Int), .int .u16 (f.chan : Int), .string (str f.load)]) rfl rfl rfl rfl hF rfl (by kernel_rfl) (by simp) (by simp [Value.oneCell']) #[.bool f.first, .bool f.last, .bool f.beg, .bool f.fin, .int .u8 (f.ty : Int), .int .u8 (f.track : Int), .int .u16 (f.chan : Int), .string (str f.load)] (by simp) ?_)
   intro w5 hF5 hg5 hzz
   clear hzz
   have hBb5 := (hBb.below hB4).grown hg5 (sne (by omega))
   have hO5 := own_stays (own_below hO3 hB4) hg5 (fun g hg e => by injection e with e; have := (hO3.blk_lt hg).2; omega)
   have hK5 : KeepF (fun g => bb ≤ g) w2 w5 := hK3.trans ((KeepF.below (F := fun g => bb ≤ g) hB4).trans (.grown (F := fun g => bb ≤ g) hg5 (fun g hg => .inl (by injection hg with hg; omega))) (fun g hg => .inl hg)) (fun g hg => .inl hg)
   have hsz5 : bb + 1 ≤ w5.heap.size := hBb5.lt
   clear hF hg5 hB4 hO3 hBb hK3 k0 k1 k2 k3 k4 k5 k6 k7 hFr hfw
   clear w4
   have f0 := hF5.c0
   have f1 := hF5.c1
   have f2 := hF5.c2
   have f3 := hF5.c3
   have f4 := hF5.c4
   have f5 := hF5.c5
   have f6 := hF5.c6
   have f7 := hF5.c7
   have hfp := fput_any f w5 hwf.1 (by have := hwf.2; omega)
   unfold frV at hfp
   have hpl := put_len f
   have hml : m ≤ 67125248 := by
    have h1 := HM.out
    have h2 := putAll_len (FS.take i)
    have h3 : (FS.take i).length ≤ i := List.length_take_le _ _
    omega
   go_wp2_with (with_reducible refine h_B ?_)
   refine hfp.mono ?_
   rintro e w6 ⟨A6, c6, rfl, hO6, hB6⟩
   have hBb6 := hBb5.below hB6
   have hO6' := own_below hO5 hB6
   have hK6 : KeepF (fun g => bb ≤ g) w2 w6 := hK5.trans (KeepF.below (F := fun g => bb ≤ g) hB6) (fun g hg => .inl hg)
   have hwr := wbytes_any bplB w6 #[p, .slice A3 m c3] hBb6 rfl p rfl hp A3 A6 (putAll (FS.take i)) f.put rfl hO6' hne3 (by have := hB6.size; omega) hO6.rd (fun e => by have := (hO6.blk_lt e).1; omega) (by omega)
   clear hfp f0 f1 f2 f3 f4 f5 f6 f7 hF5 hO5 hBb5 hK5
   go_wp2_with (with_reducible refine h_B ?_)
   refine hwr.mono ?_
   rintro e w7 ⟨rfl, hW⟩
   clear hwr
   obtain ⟨⟨A7, c7, hBb7, hO7, hne7, hA7⟩, hk7⟩ := hW
   have hK7 : KeepF (fun g => bb ≤ g) w2 w7 := hK6.trans (hk7.weak (G := fun g => bb ≤ g) (fun g hg => by rcases hg with hg | hg; exact .inl (by omega); exact .inl (by have := (hO6'.blk_lt hg).1; omega))) (fun g hg => .inl hg)
   have HM7 : Hid ((putAll (FS.take i) ++ f.put).length = (putAll (FS.take (i + 1))).length) := Lib.hid (by rw [HT.out])
   rw [← HT.out] at hO7 hBb7
   go_wp2_with (with_reducible refine h_B ?_)
   exact ⟨⟨i + 1, _, c7, bPtr bb 0, A7, by omega, by go_num, Lib.hid rfl, hBb7, .inr rfl, hO7, hK7⟩, by simp [RowKit.intOf]; omega⟩
  ·have g1 : ¬ (i : Int) < (N : Int) := by omega
   have HF : Hid (putAll (FS.take i) = putAll FS) := Lib.hid (by rw [List.take_of_length_le (by have := HN.out; omega)])
   have hst := bstr_any (off := 0) (n := m) (c := c3) wr #[p, .slice A3 m c3] hBb A3 (putAll (FS.take i)) rfl hO3
   rw [HF.out] at hst
   clear hrF
   go_wp2_with (with_reducible refine h_B ?_)
   refine hst.mono ?_
   rintro e w4 ⟨rfl, hK4⟩
   have hB4 : Below w.heap.size w w4 := hBr.trans (hK4.toBelow hBr.size (fun g hg => by have := (hO3.blk_lt hg).1; omega))
   go_wp2_with (with_reducible refine h_B ?_)
   go_ret2
   exact ⟨rfl, hB4⟩
end Go.PH
end
section
/- The tables of methods, as plain lists: the program's and the document's. (Printed by wip/genmdtab.py.) -/
namespace Go.PH

/-- a row: its code, its word, its arguments' kinds -/
structure MRow where
 code : Nat
 word : List UInt8
 kinds : List UInt8
deriving DecidableEq
/-- a class's word, its rows as one text, its rows -/
def clsWord : Nat → List UInt8
 | 1 => [99, 111, 110, 110, 101, 99, 116, 105, 111, 110]
 | 2 => [115, 101, 115, 115, 105, 111, 110]
 | 3 => [101, 120, 101, 99, 117, 116, 105, 111, 110]
 | 4 => [109, 101, 115, 115, 97, 103, 101]
 | 5 => [116, 120]
 | 6 => [100, 116, 120]
 | 8 => [113, 117, 101, 117, 101]
 | _ => []
def clsText : Nat → List UInt8
 | 1 => [49, 32, 115, 116, 97, 114, 116, 32, 116, 59, 50, 32, 115, 116, 97, 114, 116, 45, 111, 107, 32, 116, 59, 53, 32, 116, 117, 110, 101, 32, 119, 119, 59, 54, 32, 116, 117, 110, 101, 45, 111, 107, 32, 119, 119, 59, 55, 32, 111, 112, 101, 110, 32, 115, 59, 56, 32, 111, 112, 101, 110, 45, 111, 107, 32, 59, 49, 49, 32, 99, 108, 111, 115, 101, 32, 119, 115, 59, 49, 50, 32, 99, 108, 111, 115, 101, 45, 111, 107, 32]
 | 2 => [49, 32, 97, 116, 116, 97, 99, 104, 32, 116, 98, 59, 50, 32, 97, 116, 116, 97, 99, 104, 101, 100, 32, 116, 59, 51, 32, 100, 101, 116, 97, 99, 104, 32, 116, 59, 52, 32, 100, 101, 116, 97, 99, 104, 101, 100, 32, 116, 110, 59, 55, 32, 112, 111, 105, 110, 116, 32, 100, 59, 49, 48, 32, 99, 111, 109, 112, 108, 101, 116, 101, 100, 32, 114, 59, 49, 49, 32, 107, 110, 111, 119, 110, 32, 114, 59, 49, 50, 32, 102, 108, 117, 115, 104, 32]
 | 3 => [49, 32, 115, 121, 110, 99, 32, 59, 50, 32, 114, 101, 115, 117, 108, 116, 32, 100, 118, 59, 51, 32, 101, 120, 99, 101, 112, 116, 105, 111, 110, 32, 119, 100, 116]
 | 4 => [49, 32, 116, 114, 97, 110, 115, 102, 101, 114, 32, 115, 110, 59, 50, 32, 97, 99, 99, 101, 112, 116, 32, 114, 59, 51, 32, 114, 101, 106, 101, 99, 116, 32, 114, 119, 115, 59, 52, 32, 114, 101, 108, 101, 97, 115, 101, 32, 114, 98, 59, 55, 32, 115, 117, 98, 115, 99, 114, 105, 98, 101, 32, 115, 115, 59, 56, 32, 99, 97, 110, 99, 101, 108, 32, 115, 59, 49, 48, 32, 102, 108, 111, 119, 32, 115, 100, 59, 49, 50, 32, 115, 116, 111, 112, 32, 115]
 | 5 => [49, 32, 115, 101, 108, 101, 99, 116, 32, 59, 50, 32, 99, 111, 109, 109, 105, 116, 32, 59, 51, 32, 114, 111, 108, 108, 98, 97, 99, 107, 32]
 | 6 => [49, 32, 115, 101, 108, 101, 99, 116, 32, 59, 50, 32, 115, 116, 97, 114, 116, 32, 120, 98, 98, 59, 51, 32, 101, 110, 100, 32, 120, 98, 98, 59, 52, 32, 99, 111, 109, 109, 105, 116, 32, 120, 98, 59, 53, 32, 102, 111, 114, 103, 101, 116, 32, 120, 59, 54, 32, 103, 101, 116, 45, 116, 105, 109, 101, 111, 117, 116, 32, 120, 59, 55, 32, 112, 114, 101, 112, 97, 114, 101, 32, 120, 59, 56, 32, 114, 101, 99, 111, 118, 101, 114, 32, 59, 57, 32, 114, 111, 108, 108, 98, 97, 99, 107, 32, 120, 59, 49, 48, 32, 115, 101, 116, 45, 116, 105, 109, 101, 111, 117, 116, 32, 120, 100]
 | 8 => [49, 32, 100, 101, 99, 108, 97, 114, 101, 32, 115, 98, 100, 59, 50, 32, 100, 101, 108, 101, 116, 101, 32, 115, 98, 59, 51, 32, 112, 117, 114, 103, 101, 32, 115, 59, 52, 32, 113, 117, 101, 114, 121, 32, 115]
 | _ => []
def clsRows : Nat → List MRow
 | 1 => [⟨1, [115, 116, 97, 114, 116], [116]⟩, ⟨2, [115, 116, 97, 114, 116, 45, 111, 107], [116]⟩, ⟨5, [116, 117, 110, 101], [119, 119]⟩, ⟨6, [116, 117, 110, 101, 45, 111, 107], [119, 119]⟩, ⟨7, [111, 112, 101, 110], [115]⟩, ⟨8, [111, 112, 101, 110, 45, 111, 107], []⟩, ⟨11, [99, 108, 111, 115, 101], [119, 115]⟩, ⟨12, [99, 108, 111, 115, 101, 45, 111, 107], []⟩]
 | 2 => [⟨1, [97, 116, 116, 97, 99, 104], [116, 98]⟩, ⟨2, [97, 116, 116, 97, 99, 104, 101, 100], [116]⟩, ⟨3, [100, 101, 116, 97, 99, 104], [116]⟩, ⟨4, [100, 101, 116, 97, 99, 104, 101, 100], [116, 110]⟩, ⟨7, [112, 111, 105, 110, 116], [100]⟩, ⟨10, [99, 111, 109, 112, 108, 101, 116, 101, 100], [114]⟩, ⟨11, [107, 110, 111, 119, 110], [114]⟩, ⟨12, [102, 108, 117, 115, 104], []⟩]
 | 3 => [⟨1, [115, 121, 110, 99], []⟩, ⟨2, [114, 101, 115, 117, 108, 116], [100, 118]⟩, ⟨3, [101, 120, 99, 101, 112, 116, 105, 111, 110], [119, 100, 116]⟩]
 | 4 => [⟨1, [116, 114, 97, 110, 115, 102, 101, 114], [115, 110]⟩, ⟨2, [97, 99, 99, 101, 112, 116], [114]⟩, ⟨3, [114, 101, 106, 101, 99, 116], [114, 119, 115]⟩, ⟨4, [114, 101, 108, 101, 97, 115, 101], [114, 98]⟩, ⟨7, [115, 117, 98, 115, 99, 114, 105, 98, 101], [115, 115]⟩, ⟨8, [99, 97, 110, 99, 101, 108], [115]⟩, ⟨10, [102, 108, 111, 119], [115, 100]⟩, ⟨12, [115, 116, 111, 112], [115]⟩]
 | 5 => [⟨1, [115, 101, 108, 101, 99, 116], []⟩, ⟨2, [99, 111, 109, 109, 105, 116], []⟩, ⟨3, [114, 111, 108, 108, 98, 97, 99, 107], []⟩]
 | 6 => [⟨1, [115, 101, 108, 101, 99, 116], []⟩, ⟨2, [115, 116, 97, 114, 116], [120, 98, 98]⟩, ⟨3, [101, 110, 100], [120, 98, 98]⟩, ⟨4, [99, 111, 109, 109, 105, 116], [120, 98]⟩, ⟨5, [102, 111, 114, 103, 101, 116], [120]⟩, ⟨6, [103, 101, 116, 45, 116, 105, 109, 101, 111, 117, 116], [120]⟩, ⟨7, [112, 114, 101, 112, 97, 114, 101], [120]⟩, ⟨8, [114, 101, 99, 111, 118, 101, 114], []⟩, ⟨9, [114, 111, 108, 108, 98, 97, 99, 107], [120]⟩, ⟨10, [115, 101, 116, 45, 116, 105, 109, 101, 111, 117, 116], [120, 100]⟩]
 | 8 => [⟨1, [100, 101, 99, 108, 97, 114, 101], [115, 98, 100]⟩, ⟨2, [100, 101, 108, 101, 116, 101], [115, 98]⟩, ⟨3, [112, 117, 114, 103, 101], [115]⟩, ⟨4, [113, 117, 101, 114, 121], [115]⟩]
 | _ => []
def findM (c k : Nat) : Option MRow := (clsRows c).find? fun r => decide (r.code = k)
theorem cls_of {c : Nat} (h : clsRows c ≠ []) : c = 1 ∨ c = 2 ∨ c = 3 ∨ c = 4 ∨ c = 5 ∨ c = 6 ∨ c = 8 := by
 unfold clsRows at h
 split at h <;> simp_all
end Go.PH
end
section
/- Rows of methods as one text: how it is cut, how a code is read. -/
namespace Go.PH

/-- a text cut at a sign -/
def cutsB (d : UInt8) : List UInt8 → List (List UInt8)
 | [] => [[]]
 | c :: r => if c = d then [] :: cutsB d r else
  match cutsB d r with
  | h :: t => (c :: h) :: t
  | [] => [[c]]
theorem cutsB_one {d : UInt8} : ∀ {a : List UInt8}, d ∉ a → cutsB d a = [a]
 | [], _ => rfl
 | c :: a, h => by
  have hc : c ≠ d := fun e => h (by simp [e])
  have ih := cutsB_one (a := a) (fun e => h (List.mem_cons_of_mem _ e))
  rw [cutsB, if_neg hc, ih]
theorem cutsB_more {d : UInt8} : ∀ {a : List UInt8} (r : List UInt8), d ∉ a → cutsB d (a ++ d :: r) = a :: cutsB d r
 | [], r, _ => by simp [cutsB]
 | c :: a, r, h => by
  have hc : c ≠ d := fun e => h (by simp [e])
  have ih := cutsB_more (a := a) r (fun e => h (List.mem_cons_of_mem _ e))
  rw [List.cons_append, cutsB, if_neg hc, ih]
theorem indexByte_atd : ∀ {a : List UInt8} {c : UInt8} (r : List UInt8), c ∉ a → Lib.indexByte (a ++ c :: r) c = (a.length : Int)
 | [], c, r, _ => by simp [Lib.indexByte]
 | b :: a, c, r, h => by
  have hb : (b == c) = false := by simp; exact fun e => h (by simp [e])
  have ih := indexByte_atd (a := a) (c := c) r (fun e => h (by simp [e]))
  rw [List.cons_append, Lib.indexByte, hb, ih]
  have : ((a.length : Int) == -1) = false := by rw [beq_eq_false_iff_ne]; omega
  simp [this]
def sepS (d : UInt8) : ByteArray := ⟨#[d]⟩
theorem split_cuts {d : UInt8} : ∀ (k : Nat) (l : List UInt8), l.count d = k → (Lib.splitB (sepS d) 0 k (str l)).map (fun b => b.data.toList) = cutsB d l
 | 0, l, h => by
  rw [Lib.splitB_zero, cutsB_one (List.count_eq_zero.1 h)]; rfl
 | k + 1, l, h => by
  have hm : d ∈ l := List.count_pos_iff.1 (by omega)
  obtain ⟨a, r, rfl, ha⟩ := List.eq_append_cons_of_mem hm
  have hc : r.count d = k := by
   rw [List.count_append, List.count_cons_self, List.count_eq_zero.2 ha] at h; omega
  have hi : Lib.indexB (str (a ++ d :: r)) (sepS d) = (a.length : Int) := by
   show Lib.index (a ++ d :: r) [d] = _
   rw [Lib.index_one, indexByte_atd r ha]
  rw [Lib.splitB_hit (sepS d) 0 k _ a.length hi, List.map_cons, cutsB_more r ha]
  have e1 : (str (a ++ d :: r)).extract (a.length + (sepS d).size) (str (a ++ d :: r)).size = str r := by
   rw [str_size, str_extract]
   congr 1
   rw [List.take_of_length_le (Nat.le_refl _)]
   show (a ++ d :: r).drop (a.length + 1) = r
   rw [← List.drop_drop, List.drop_left]
   rfl
  have e2 : ((str (a ++ d :: r)).extract 0 (a.length + 0)).data.toList = a := by
   rw [str_extract, Nat.add_zero, List.take_left, List.drop_zero]; rfl
  rw [e1, e2, split_cuts k r hc]
theorem count_cuts {d : UInt8} (l : List UInt8) : Lib.countB (str l) (sepS d) = l.count d := by
 show Lib.count l [d] = _
 exact Lib.count_one d l
theorem cuts_len {d : UInt8} (l : List UInt8) : (cutsB d l).length = l.count d + 1 := by
 rw [← split_cuts _ l rfl, List.length_map]
 exact Lib.splitB_all (sepS d) (by show 1 ≤ 1; omega) 0 _ _ (count_cuts l)
theorem split_cellsd {d : UInt8} (l : List UInt8) : (Lib.splitB (sepS d) 0 (Lib.countB (str l) (sepS d)) (str l)).map Value.string = (cutsB d l).map (fun p => Value.string (str p)) := by
 rw [count_cuts, ← split_cuts _ l rfl, List.map_map]
 rfl

/-- a code's digits, read as the program does, in eight bits -/
def codeM (l : List UInt8) : Nat := l.foldl (fun n c => (10 * n + c.toNat + 208) % 256) 0
def pieceM (p : List UInt8) : Option MRow := match cutsB 32 p with
 | [a, b, c] => some ⟨codeM a, b, c⟩
 | _ => none
/-- the first piece that is of a code -/
def findP (k : Nat) : List (List UInt8) → Option MRow
 | [] => none
 | p :: l => match pieceM p with
  | some r => if r.code = k then some r else findP k l
  | none => findP k l
theorem findP_app (k : Nat) (a b : List (List UInt8)) : findP k (a ++ b) = match findP k a with
 | some r => some r
 | none => findP k b := by
 induction a with
 | nil => rfl
 | cons p a ih =>
  simp only [List.cons_append, findP]
  cases pieceM p with
  | none => exact ih
  | some r =>
   simp only
   by_cases h : r.code = k
   ·rw [if_pos h, if_pos h]
   ·rw [if_neg h, if_neg h]; exact ih
theorem pieces_of (k : Nat) : ∀ l : List (List UInt8), findP k l = (l.filterMap pieceM).find? fun r => decide (r.code = k)
 | [] => rfl
 | p :: l => by
  have ih := pieces_of k l
  rw [findP, List.filterMap_cons]
  cases pieceM p with
  | none => exact ih
  | some r =>
   by_cases h : r.code = k
   ·simp [h]
   ·simp only [h, if_false, List.find?_cons, decide_false]
    exact ih
theorem cls_pieces (c : Nat) : (cutsB 59 (clsText c)).filterMap pieceM = clsRows c := by
 by_cases h : c = 1 ∨ c = 2 ∨ c = 3 ∨ c = 4 ∨ c = 5 ∨ c = 6 ∨ c = 8
 ·rcases h with rfl | rfl | rfl | rfl | rfl | rfl | rfl <;> decide +kernel
 ·have h1 : clsRows c = [] := by
   cases hc : clsRows c with
   | nil => rfl
   | cons _ _ => exact absurd (cls_of (by rw [hc]; simp)) h
  have h2 : clsText c = [] := by
   unfold clsText
   split
   all_goals first | rfl | (exfalso; apply h; simp)
  rw [h1, h2]
  decide +kernel
theorem findP_cls (c k : Nat) : findP k (cutsB 59 (clsText c)) = findM c k := by rw [pieces_of, cls_pieces]; rfl
theorem codeM_lt (l : List UInt8) : codeM l < 256 := by
 unfold codeM
 rcases List.eq_nil_or_concat l with rfl | ⟨m, x, rfl⟩
 ·decide
 ·rw [List.concat_eq_append, List.foldl_append]
  exact Nat.mod_lt _ (by decide)
theorem codeM_snoc (l : List UInt8) (c : UInt8) : codeM (l ++ [c]) = (10 * codeM l + c.toNat + 208) % 256 := by simp [codeM]
theorem clsText_len (c : Nat) : (clsText c).length ≤ 200 ∧ (clsWord c).length ≤ 20 := by
 unfold clsText clsWord
 constructor <;> split <;> decide +kernel
theorem cutsB_le (d : UInt8) : ∀ (l : List UInt8), ∀ p ∈ cutsB d l, p.length ≤ l.length
 | [], p, hp => by simp [cutsB] at hp; subst hp; simp
 | c :: r, p, hp => by
  have ih := cutsB_le d r
  rw [cutsB] at hp
  split at hp
  ·rcases List.mem_cons.1 hp with rfl | hp
   ·simp
   ·have := ih p hp; simp; omega
  ·cases hd : cutsB d r with
   | nil => rw [hd] at hp; simp at hp; subst hp; simp
   | cons h t =>
    rw [hd] at hp ih
    rcases List.mem_cons.1 hp with rfl | hp
    ·have := ih h (List.mem_cons_self ..); simp; omega
    ·have := ih p (List.mem_cons_of_mem _ hp); simp; omega
end Go.PH
end

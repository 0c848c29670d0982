/- Texts laid together: GaCut, FrAll. -/
import Derived.Deep.CutRange
import Derived.WalkMore
import Derived.Test.YtfbkameikhgciaaGreatDoorMg02
import Derived.Test.YtfbkameikhgciaaGreatDoorMg03
import Derived.Test.YtfbkameikhgciaaGreatDoorMg05
import Derived.Test.YtfbkameikhgciaaGreatDoorMg08
set_option linter.all false
set_option linter.unusedSimpArgs false
set_option linter.unusedVariables false
set_option maxRecDepth 20000
set_option maxHeartbeats 8000000
section
namespace Go.PH
open Go.RowKit Go.Proofs
def Yq : Value → Nat
 | .string z => z.size
 | _ => 0
def cutF (most : Int) (a : As) : List Fr := if xL most a = 0 then vn most.toNat a else []
theorem JZ (a : As) (most : Int) (A : Option Addr) (n c : Nat) (B : Nat) (w : World) (hr : RdG w B A n c a.segs) (hB : B ≤ w.heap.size) (hw : a.wf) (hs : ∀ s ∈ a.segs, s.load.length ≤ 140737488351232) (hn : n ≤ 140737488351232) :
  Calls Tryz.prog 44 #[.agg (asV a.chan a.track A n c), .int .i64 most] w fun e w' => ∃ A2 c2, e = .returned (.tuple #[.slice A2 (cutF most a).length c2, .int .i64 (xL most a : Int)]) ∧ OwnF w' w.heap.size A2 (cutF most a).length c2 (cutF most a) ∧ Below w.heap.size w w' := by
 have hck := fun (W : World) (h : Below w.heap.size w W) => Xx a A n c w.heap.size W ((hr.more hB).below h) h.size hw hs hn
 obtain ⟨xb, w0, hqb, hqv, hX, hB0⟩ := zr w (asV a.chan a.track A n c) 42
 have hxw : w.heap.size ≤ xb := by omega
 by_cases c1 : most < 1
 ·have e1 : xL most a = 2 := by simp [xL, c1]
  have e2 : cutF most a = [] := by simp [cutF, e1]
  rw [e1, e2]
  clear e1 e2 hck hX
  unfold asV at *
  go_enter Tryz.func44, Tryz.ntmps44
  go_wp2_with (with_reducible refine h_A ?_)
  go_step3
  go_wp2_with (with_reducible refine h_A ?_)
  rw [Exit.noGoto_ret]
  go_ret2
  exact ⟨none, 0, rfl, Own.none_ _ _ _ _, by rw [← hqv]; exact hB0⟩
 have d1 : decide (most < 1) = false := by simp; omega
 by_cases c2 : 4084 < most
 ·have e1 : xL most a = 2 := by simp [xL, c2]
  have e2 : cutF most a = [] := by simp [cutF, e1]
  rw [e1, e2]
  clear e1 e2 hck hX
  unfold asV at *
  go_enter Tryz.func44, Tryz.ntmps44
  go_wp2_with (with_reducible refine h_A ?_)
  go_step3
  go_wp2_with (with_reducible refine h_A ?_)
  rw [Exit.noGoto_ret]
  go_ret2
  exact ⟨none, 0, rfl, Own.none_ _ _ _ _, by rw [← hqv]; exact hB0⟩
 have d2 : decide (4084 < most) = false := by simp; omega
 obtain ⟨M, rfl⟩ : ∃ M : Nat, most = (M : Int) := ⟨most.toNat, by omega⟩
 have hM1 : 1 ≤ M := by omega
 have hM2 : M ≤ 4084 := by omega
 cases hok : asOk a
 ·have e1 : xL (M : Int) a = 70 := by simp [xL, c1, c2, hok]
  have e2 : cutF (M : Int) a = [] := by simp [cutF, e1]
  have e3 : xD a = 70 := by simp [xD, hok]
  rw [e1, e2]
  rw [e3] at hck
  clear e1 e2 e3 hok
  unfold asV at *
  go_enter Tryz.func44, Tryz.ntmps44
  go_wp2_with (with_reducible refine h_A ?_)
  rw [← hqb, ← hqv]
  go_step3
  clear hqb hqv
  have x0 := hX.c0
  have x1 := hX.c1
  have x2 := hX.c2
  go_wp2_with (with_reducible refine h_A ?_)
  refine (hck _ hB0).mono ?_
  rintro e w1 ⟨rfl, hB1⟩
  have hB2 := hB0.trans (hB1.mono hB0.size)
  go_wp2_with (with_reducible refine h_A ?_)
  rw [Exit.noGoto_ret]
  go_ret2
  exact ⟨none, 0, rfl, Own.none_ _ _ _ _, hB2⟩
 ·have e1 : xL (M : Int) a = 0 := by simp [xL, c1, c2, hok]
  have e2 : cutF (M : Int) a = vn M a := by simp [cutF, e1]
  have e3 : xD a = 0 := by simp [xD, hok]
  rw [e1, e2]
  rw [e3] at hck
  have hmost := ZH hM1 hok
  obtain ⟨hn4, hsum, hne⟩ := vR hok
  have hnl := yw xK hr
  have hel := fun {i : Nat} (hi : i < n) => xW xK hr hi
  obtain ⟨FS, hFS⟩ : ∃ l, l = vn M a := ⟨_, rfl⟩
  rw [← hFS] at hmost ⊢
  have HST : Hid (FS = [] ++ cutL M a.chan a.track n 0 (a.segs.drop 0)) := Lib.hid (by rw [hFS, vn, hnl]; rfl)
  have HM := Lib.hid hmost
  have HN := Lib.hid hnl
  have HSM := Lib.hid hsum
  have HTY := Lib.hid hw.2.2
  obtain ⟨hch, htr, _⟩ := hw
  clear e1 e2 e3 hok hFS hne hmost hsum hnl hs hr c1 c2
  obtain ⟨ch, tr, l⟩ := a
  simp only at *
  unfold asV at *
  go_enter Tryz.func44, Tryz.ntmps44
  go_wp2_with (with_reducible refine h_A ?_)
  rw [← hqb, ← hqv]
  go_step3
  clear hqb hqv
  have x0 := hX.c0
  have x1 := hX.c1
  have x2 := hX.c2
  go_wp2_with (with_reducible refine h_A ?_)
  refine (hck _ hB0).mono ?_
  rintro e w1 ⟨rfl, hB1⟩
  have hX1 := hX.below hB1
  have hB2 := hB0.trans (hB1.mono hB0.size)
  clear hck hX hB1 hB0 x0 x1 x2
  clear w0
  have x0 := hX1.c0
  have x1 := hX1.c1
  have x2 := hX1.c2
  go_wp2_with (with_reducible refine h_A ?_)
  go_step3
  go_wp2_with (with_reducible refine h_A ?_)
  go_loopw [7, 27] (fun s7 s27 wr => ∃ (i N c2 : Nat) (A2 : Option Addr) (D : List Fr), i ≤ n ∧ s7 = .slice A2 N c2 ∧ s27 = .int .i64 (i : Int) ∧ N ≤ 16388 ∧ Hid (D.length = N) ∧ Hid (FS = D ++ cutL M ch tr n i (l.drop i)) ∧ OwnF wr (xb + 1) A2 N c2 D ∧ Box wr xb 42 #[.int .u16 (ch : Int), .int .u8 (tr : Int), .slice A n c] ∧ Below w.heap.size w wr) (fun _ s27 _ => n - (RowKit.intOf s27).toNat)
  case atStart => exact ⟨0, 0, 0, none, [], by omega, rfl, rfl, by omega, Lib.hid rfl, HST, Own.none_ _ _ _ _, hX1, hB2⟩
  case round =>
   clear HST x0 x1 x2 hX1 hB2 w1
   obtain ⟨i, N, c2, A2, D, hi, rfl, rfl, hN, HD, HC, hO, hX, hBr⟩ := hrel
   have x0 := hX.c0
   have x1 := hX.c1
   have x2 := hX.c2
   by_cases hlt : i < n
   ·have g1 : (i : Int) < (n : Int) := by omega
    obtain ⟨b, off, rfl, hbB, hkl, hcl⟩ := hel hlt
    have hbw : b < w.heap.size := by omega
    have k0 : wr.cell? ⟨b, off + i * 2, none⟩ = some (.int .u8 (l[i].ty : Int)) := (hBr.cell (p := ⟨b, off + i * 2, none⟩) hbw).trans (hcl 0 _ rfl)
    have k1 : wr.cell? ⟨b, off + i * 2 + 1, none⟩ = some (.string (str l[i].load)) := (hBr.cell (p := ⟨b, off + i * 2 + 1, none⟩) hbw).trans (hcl 1 _ rfl)
    have hty := HTY.out _ (List.getElem_mem hkl)
    have hsl := Nat.le_trans (kq (List.getElem_mem hkl)) HSM.out
    have HC2 : Hid (FS = D ++ (cutN M ⟨decide (i = 0), decide (i + 1 = n), true, false, l[i].ty, tr, ch, []⟩ l[i].load ++ cutL M ch tr n (i + 1) (l.drop (i + 1)))) := Lib.hid (by rw [HC.out, List.drop_eq_getElem_cons hkl, ZG])
    clear hcl HC
    generalize l[i] = s at *
    obtain ⟨T, hT⟩ : ∃ T, T = cutL M ch tr n (i + 1) (l.drop (i + 1)) := ⟨_, rfl⟩
    rw [← hT] at HC2
    have HT := Lib.hid hT
    clear hT
    obtain ⟨b1, hb1⟩ : ∃ b, b = decide (i = 0) := ⟨_, rfl⟩
    obtain ⟨b2, hb2⟩ : ∃ b, b = decide (i + 1 = n) := ⟨_, rfl⟩
    rw [← hb1, ← hb2] at HC2
    have q1 : ((i : Int) == 0) = b1 := by rw [hb1, Bool.eq_iff_iff]; simp
    have q2 : ((i : Int) == (n : Int) - 1) = b2 := by rw [hb2, Bool.eq_iff_iff]; simp; omega
    clear hb1 hb2
    obtain ⟨sb, w2, hqb, hqv, hS, hB2⟩ := zr wr #[.int .u8 0, .string ⟨#[]⟩] 84
    go_wp2_with (with_reducible refine h_B ?_)
    rw [← hqb, ← hqv]
    have hsw : xb < sb := by rw [hqb]; exact hX.lt
    have hsb : wr.heap.size ≤ sb := by rw [hqb]; exact Nat.le_refl _
    clear hqb hqv
    refine zc (zm (v := .agg #[.int .u8 (s.ty : Int), .string (str s.load)]) (vs := [.int .u8 (s.ty : Int), .string (str s.load)]) rfl rfl rfl rfl hS rfl (by kernel_rfl) (by simp) (by simp [Value.oneCell']) #[.int .u8 (s.ty : Int), .string (str s.load)] (by simp) ?_)
    intro w3 hS3 hg3 hzz
    clear hzz
    have hX3 := (hX.below hB2).grown hg3 (sne (by omega))
    have hO3 := zf (zg hO hB2) hg3 (fun g hg e => by injection e with e; have := (hO.blk_lt hg).2; omega)
    have hB3 : Below w.heap.size w w3 := (hBr.trans (hB2.mono hBr.size)).grown hg3 (Nat.le_trans hBr.size hB2.size) (fun g hg => by injection hg with hg; omega)
    clear hS hg3 hB2 hO x0 x1 x2 k0 k1 hBr hX hsb
    have x0 := hX3.c0
    have x1 := hX3.c1
    have x2 := hX3.c2
    have s0 := hS3.c0
    have s1 := hS3.c1
    obtain ⟨fb, w4, hqb, hqv, hF, hB4⟩ := zr w3 #[.bool false, .bool false, .bool false, .bool false, .int .u8 0, .int .u8 0, .int .u16 0, .string ⟨#[]⟩] 97
    go_wp2_with (with_reducible refine h_B ?_)
    rw [← hqb, ← hqv]
    have hfx : xb < fb := by rw [hqb]; exact hX3.lt
    have hfs : sb < fb := by rw [hqb]; exact hS3.lt
    have hfw : w3.heap.size ≤ fb := by rw [hqb]; exact Nat.le_refl _
    clear hqb hqv
    refine zc (zm (v := .agg #[.bool b1, .bool b2, .bool true, .bool false, .int .u8 (s.ty : Int), .int .u8 (tr : Int), .int .u16 (ch : Int), .string ⟨#[]⟩]) (vs := [.bool b1, .bool b2, .bool true, .bool false, .int .u8 (s.ty : Int), .int .u8 (tr : Int), .int .u16 (ch : Int), .string ⟨#[]⟩]) rfl rfl rfl rfl hF rfl (by kernel_rfl) (by simp) (by simp [Value.oneCell']) #[.bool b1, .bool b2, .bool true, .bool false, .int .u8 (s.ty : Int), .int .u8 (tr : Int), .int .u16 (ch : Int), .string ⟨#[]⟩] (by simp) ?_)
    intro w5 hF5 hg5 hzz
    clear hzz
    have hX5 := (hX3.below hB4).grown hg5 (sne (by omega))
    have hS5 := (hS3.below hB4).grown hg5 (sne (by omega))
    have hO5 := zf (zg hO3 hB4) hg5 (fun g hg e => by injection e with e; have := (hO3.blk_lt hg).2; omega)
    have hAf : ∀ g, blk A2 = some g → g ≠ fb := fun g hg e => by have := (hO3.blk_lt hg).2; omega
    have hB5 : Below w.heap.size w w5 := (hB3.trans (hB4.mono hB3.size)).grown hg5 (Nat.le_trans hB3.size hB4.size) (fun g hg => by injection hg with hg; omega)
    clear hF hg5 hB4 hO3 x0 x1 x2 s0 s1 hB3 hX3 hS3
    clear hfw
    have s1 := hS5.c1
    go_wp2_with (with_reducible refine h_B ?_)
    have hO6 := hO5
    have hN' := hN
    go_loopw [7, 11] (fun s7 s11 wr => ∃ (N c2 : Nat) (A2 : Option Addr) (D : List Fr) (rest : List UInt8) (bg fi : Bool) (pl : List UInt8), s7 = .slice A2 N c2 ∧ s11 = .string (str rest) ∧ N ≤ 16388 ∧ rest.length ≤ 16384 ∧ Hid (D.length = N) ∧ Hid (FS = D ++ (cutN M ⟨b1, b2, bg, false, s.ty, tr, ch, []⟩ rest ++ T)) ∧ OwnF wr (xb + 1) A2 N c2 D ∧ (∀ g, blk A2 = some g → g ≠ fb) ∧
     Box wr xb 42 #[.int .u16 (ch : Int), .int .u8 (tr : Int), .slice (some ⟨b, off, none⟩) n c] ∧ Box wr fb 97 #[.bool b1, .bool b2, .bool bg, .bool fi, .int .u8 (s.ty : Int), .int .u8 (tr : Int), .int .u16 (ch : Int), .string (str pl)] ∧ Below w.heap.size w wr) (fun _ s11 _ => Yq s11)
    case atStart => exact ⟨N, c2, A2, D, s.load, true, false, [], rfl, rfl, hN, hsl, HD, HC2, hO6, hAf, hX5, hF5, hB5⟩
    case round =>
     clear hO6 hO5 hN' hN HD HC2 hAf hX5 hF5 hB5 hS5 s1 hsl hsw hfs
     obtain ⟨N, c2, A2, D, rest, bg, fi, pl, rfl, rfl, hN, hrl, HD, HC, hO, hAf, hX, hF, hBr⟩ := hrel
     obtain ⟨R, hR⟩ : ∃ R, R = rest.length := ⟨_, rfl⟩
     have hss : (str rest).size = R := by rw [hR]; exact zj rest
     have hRm : R ≤ 16384 := by omega
     obtain ⟨K, hK⟩ : ∃ K, K = min M R := ⟨_, rfl⟩
     have hmin : (if R < M then (R : Int) else (M : Int)) = (K : Int) := by split <;> omega
     have hmin2 : min (M : Int) (R : Int) = (K : Int) := by omega
     have hKR : K ≤ R := by omega
     have hRl : R ≤ rest.length := by omega
     have hRl2 : rest.length ≤ R := by omega
     have HK := Lib.hid hK
     have HRL := Lib.hid hR
     clear hR hK
     go_upto_region 14 with fail
     refine zD (fun W : World => True) (by kernel_rfl) ?_
     have hS : True := trivial
     have hX7 : Box wr.drew xb 42 #[.int .u16 (ch : Int), .int .u8 (tr : Int), .slice (some ⟨b, off, none⟩) n c] := hX
     have hF7 : Box wr.drew fb 97 #[.bool b1, .bool b2, .bool bg, .bool fi, .int .u8 (s.ty : Int), .int .u8 (tr : Int), .int .u16 (ch : Int), .string (str pl)] := hF
     have hO7 : OwnF wr.drew (xb + 1) A2 N c2 D := hO
     have hB7 : Below w.heap.size w wr.drew := za hBr 1
     clear hX hF hO hBr
     generalize wr.drew = w7 at *
     refine rg_t 0 hS ?_
     simp only [List.getElem_toArray, List.getElem_cons_zero, Act.put, List.setIfInBounds_toArray, List.set_cons_zero, List.set_cons_succ]
     refine rg_t 1 hS ?_
     simp only [g_S, Act.put]
     refine zv 2 (v := ?_) rfl (by kernel_rfl) (by kernel_rfl) (by kernel_rfl) hS rfl ?_ ?_
     rotate_left
     ·intro wS hSw; rw [qF (x := .tmp 54) (lo := none) (hi := some <| .tmp 55) Tryz.underlying9 (l := rest) (i := 0) (j := K)] <;> first | rfl | omega | exact .inl ⟨rfl, rfl⟩ | exact .inr ⟨_, _, rfl, rfl⟩
     simp only [g_S, Act.put]
     refine rg_t 3 hS ?_
     simp only [g_S, Act.put]
     refine rg_t 4 hS ?_
     simp only [g_S, Act.put]
     refine zv 5 (v := ?_) rfl (by kernel_rfl) (by kernel_rfl) (by kernel_rfl) hS rfl ?_ ?_
     rotate_left
     ·intro wS hSw; rw [qF (x := .tmp 57) (lo := some <| .tmp 58) (hi := none) Tryz.underlying9 (l := rest) (i := K) (j := rest.length)] <;> first | rfl | omega | exact .inl ⟨rfl, rfl⟩ | exact .inr ⟨_, _, rfl, rfl⟩
     simp only [g_S, Act.put]
     simp only [List.drop_zero, List.take_length]
     obtain ⟨PC, hPC⟩ : ∃ q, q = rest.take K := ⟨_, rfl⟩
     obtain ⟨RS, hRS⟩ : ∃ q, q = rest.drop K := ⟨_, rfl⟩
     rw [← hPC, ← hRS]
     have hRSl : RS.length = R - K := by rw [hRS, List.length_drop, ← HRL.out]
     have HPC := Lib.hid hPC
     have HRS := Lib.hid hRS
     clear hPC hRS
     refine rg_t 6 hS ?_
     simp only [g_S, Act.put]
     refine zi 7 rfl (by kernel_rfl) rfl (fun K1 hKK => ?_)
     refine zM (g := fb) (j := 7) (v := .string (str PC)) (vs := [.string (str PC)]) rfl rfl rfl hF7 rfl (by kernel_rfl) (by simp) (by simp [Value.oneCell']) #[.bool b1, .bool b2, .bool bg, .bool fi, .int .u8 (s.ty : Int), .int .u8 (tr : Int), .int .u16 (ch : Int), .string (str PC)] (by simp) ?_
     intro w8 hF8 hg8 hzz
     clear hzz
     have hX8 := hX7.grown hg8 (sne (by omega))
     have hO8 := zf hO7 hg8 (fun g hg e => by injection e with e; exact hAf g hg e.symm)
     have hB8 : Below w.heap.size w w8 := hB7.grown hg8 hB7.size (fun g hg => by injection hg with hg; omega)
     refine hKK _ _ hS ?_
     clear hKK K1 hS hX7 hF7 hO7 hB7 hg8
     try simp only [g_S, Act.put]
     have hS : True := trivial
     refine rg_t 8 hS ?_
     simp only [g_S, Act.put]
     refine zK (by kernel_rfl) ?_
     clear w7
     obtain ⟨fin, hfin⟩ : ∃ q, q = decide (R ≤ M) := ⟨_, rfl⟩
     have hq : (str RS).toList.isEmpty = fin := by
      rw [zt, hfin, Bool.eq_iff_iff]
      have := HK.out
      cases RS with
      | nil => simp at hRSl ⊢; omega
      | cons x r => simp at hRSl ⊢; omega
     have HFIN := Lib.hid hfin
     clear hfin
     go_wp2_with (with_reducible refine h_B ?_)
     refine zc (zm (j := 3) (v := .bool fin) (vs := [.bool fin]) rfl rfl rfl rfl hF8 rfl (by kernel_rfl) (by simp) (by simp [Value.oneCell']) #[.bool b1, .bool b2, .bool bg, .bool fin, .int .u8 (s.ty : Int), .int .u8 (tr : Int), .int .u16 (ch : Int), .string (str PC)] (by simp) ?_)
     intro w9 hF9 hg9 hzz
     clear hzz
     have hX9 := hX8.grown hg9 (sne (by omega))
     have hO9 := zf hO8 hg9 (fun g hg e => by injection e with e; exact hAf g hg e.symm)
     have hB9 : Below w.heap.size w w9 := hB8.grown hg9 hB8.size (fun g hg => by injection hg with hg; omega)
     clear hX8 hO8 hB8 hF8 hg9
     clear w8
     have f0 := hF9.c0
     have f1 := hF9.c1
     have f2 := hF9.c2
     have f3 := hF9.c3
     have f4 := hF9.c4
     have f5 := hF9.c5
     have f6 := hF9.c6
     have f7 := hF9.c7
     have hlt9 := hF9.lt
     go_wp2_with (with_reducible refine h_B ?_)
     refine zc (Qw jG slF Tryz.underlying65 rfl rfl rfl rfl rfl (⟨b1, b2, bg, fin, s.ty, tr, ch, PC⟩ : Fr) rfl hO9 (by omega) (by omega) (by have := hX9.lt; omega) ?_)
     intro A3 c3 wa hOa hga hA3 _
     have hAa : ∀ g, blk A3 = some g → g ≠ fb := fun g hg => by
      rcases hA3 with e | e
      ·exact hAf g (by rw [← e]; exact hg)
      ·have := e g hg; omega
     have hXa := hX9.grown hga (fun e => by have := (hO9.blk_lt e.symm).1; omega)
     have hFa := hF9.grown hga (fun e => hAf _ e.symm rfl)
     have hBa : Below w.heap.size w wa := hB9.grown hga hB9.size (fun g hg => by have := (hO9.blk_lt hg).1; omega)
     have HDa : Hid ((D ++ [(⟨b1, b2, bg, fin, s.ty, tr, ch, PC⟩ : Fr)]).length = N + 1) := Lib.hid (by have := HD.out; simp; omega)
     have hN1 : N + 1 ≤ 16388 := by
      have h1 := HD.out
      have h2 := congrArg List.length HC.out
      have h3 := HM.out
      have h4 : 1 ≤ (cutN M ⟨b1, b2, bg, false, s.ty, tr, ch, []⟩ rest).length := by
       have := Vb M rest.length ⟨b1, b2, bg, false, s.ty, tr, ch, []⟩ rest
       unfold cutN
       exact List.length_pos_iff.2 this
      simp only [List.length_append] at h2
      omega
     clear hX9 hO9 hF9 hB9 hga hA3 hAf f0 f1 f2 f3 f4 f5 f6 f7
     have f3 := hFa.c3
     cases fin with
     | true =>
      have HE : Hid (FS = (D ++ [(⟨b1, b2, bg, true, s.ty, tr, ch, PC⟩ : Fr)]) ++ cutL M ch tr n (i + 1) (l.drop (i + 1))) := Lib.hid (by
       have hle : R ≤ M := by simpa using HFIN.out.symm
       have e1 : PC = rest := by rw [HPC.out, List.take_of_length_le]; have := HK.out; omega
       rw [HC.out, vP (by rw [← HRL.out]; exact hle), ← HT.out, e1]
       simp)
      go_wp2_with (with_reducible refine h_B ?_)
      exact ⟨⟨i + 1, N + 1, c3, A3, _, by omega, rfl, by go_num, hN1, HDa, HE, hOa, hXa, hBa⟩, by simp [RowKit.intOf]; omega⟩
     | false =>
      have hgt : M < R := by have := HFIN.out; simpa using this
      have HE : Hid (FS = (D ++ [(⟨b1, b2, bg, false, s.ty, tr, ch, PC⟩ : Fr)]) ++ (cutN M ⟨b1, b2, false, false, s.ty, tr, ch, []⟩ RS ++ T)) := Lib.hid (by
       have hKM : K = M := by have := HK.out; omega
       rw [HC.out, ZF hM1 (by rw [← HRL.out]; exact hgt), HPC.out, HRS.out, hKM]
       simp)
      go_wp2_with (with_reducible refine h_B ?_)
      refine zc (zm (j := 2) (v := .bool false) (vs := [.bool false]) rfl rfl rfl rfl hFa rfl (by kernel_rfl) (by simp) (by simp [Value.oneCell']) #[.bool b1, .bool b2, .bool false, .bool false, .int .u8 (s.ty : Int), .int .u8 (tr : Int), .int .u16 (ch : Int), .string (str PC)] (by simp) ?_)
      intro wb hFb hgb hzz
      clear hzz
      have hXb := hXa.grown hgb (sne (by omega))
      have hOb := zf hOa hgb (fun g hg e => by injection e with e; exact hAa g hg e.symm)
      have hBb : Below w.heap.size w wb := hBa.grown hgb hBa.size (fun g hg => by injection hg with hg; omega)
      go_wp2_with (with_reducible refine h_B ?_)
      have hms : Yq (.string (str RS)) < Yq (.string (str rest)) := by
       show (str RS).size < (str rest).size
       rw [zj, zj, ← HRL.out]
       have := HK.out
       omega
      first
       | exact ⟨⟨N + 1, c3, A3, _, RS, false, false, PC, rfl, rfl, hN1, by omega, HDa, HE, hOb, hAa, hXb, hFb, hBb⟩, hms⟩
       | (refine ⟨?_, hms⟩; (repeat apply Exists.intro); exact ⟨⟨N + 1, c3, A3, _, RS, false, false, PC, rfl, rfl, hN1, by omega, HDa, HE, hOb, hAa, hXb, hFb, hBb⟩, rfl⟩)
   ·have g1 : ¬ (i : Int) < (n : Int) := by omega
    have HE : Hid (FS = D) := Lib.hid (by rw [HC.out, List.drop_eq_nil_of_le (by have := HN.out; omega)]; simp [cutL])
    have hlN := HD.out
    rw [← HE.out] at hO hlN
    have HLN := Lib.hid hlN
    clear hlN HD HC hel
    go_wp2_with (with_reducible refine h_A ?_)
    go_ret2
    rw [HLN.out]
    exact ⟨A2, c2, rfl, hO.base_le (by omega), hBr⟩
end Go.PH
end
section
namespace Go.PH
open Go.RowKit Go.Proofs
def yN (l : List Fr) : List UInt8 := l.flatMap Fr.put
theorem QD (f : Fr) : f.put.length ≤ 4096 := by
 unfold Fr.put
 split
 ·rename_i h
  have : f.bytes.length = 12 + f.load.length := by simp [Fr.bytes, zn]; omega
  simp [Fr.ok] at h
  omega
 ·simp
theorem vy (l : List Fr) : (yN l).length ≤ 4096 * l.length := by
 induction l with
 | nil => simp [yN]
 | cons f r ih =>
  have := QD f
  have e : yN (f :: r) = f.put ++ yN r := rfl
  rw [e, List.length_append, List.length_cons]
  omega
theorem Yp {l : List Fr} {i : Nat} (h : i < l.length) : yN (l.take (i + 1)) = yN (l.take i) ++ l[i].put := by
 unfold yN
 rw [List.take_succ_eq_append_getElem h, List.flatMap_append, List.flatMap_singleton]
theorem QE (most : Nat) : ∀ (k : Nat) (f : Fr) (s : List UInt8), f.wf → s.length ≤ 16384 → ∀ x ∈ cutS most k f s, x.wf ∧ x.load.length ≤ 16384
 | 0, f, s, hf, hs, x, hx => by simp [cutS] at hx; subst hx; exact ⟨hf, hs⟩
 | k + 1, f, s, hf, hs, x, hx => by
  rw [cutS] at hx
  split at hx
  ·simp at hx; subst hx; exact ⟨hf, hs⟩
  ·rcases List.mem_cons.1 hx with rfl | hx
   ·exact ⟨hf, by simp; omega⟩
   ·exact QE most k ⟨f.first, f.last, false, false, f.ty, f.track, f.chan, []⟩ (s.drop most) hf (by simp; omega) x hx
theorem Vn {most : Int} {a : As} (hw : a.wf) : ∀ x ∈ cutF most a, x.wf ∧ x.load.length ≤ 16384 := by
 intro x hx
 unfold cutF at hx
 split at hx
 ·rename_i h
  have hok : asOk a = true := by
   unfold xL at h
   split at h
   ·omega
   ·split at h
    ·assumption
    ·omega
  obtain ⟨_, hs, _⟩ := vR hok
  have key : ∀ (l : List Sg) (i : Nat), (∀ s ∈ l, s.ty < 256 ∧ s.load.length ≤ 16384) → ∀ x ∈ cutL most.toNat a.chan a.track a.segs.length i l, x.wf ∧ x.load.length ≤ 16384 := by
   intro l
   induction l with
   | nil => intro i _ x hx; simp [cutL] at hx
   | cons s r ih =>
    intro i hl x hx
    rw [cutL] at hx
    rcases List.mem_append.1 hx with hx | hx
    ·have := hl s (by simp)
     exact QE _ _ _ _ ⟨this.1, hw.2.1, hw.1⟩ this.2 x hx
    ·exact ih _ (fun s hs => hl s (by simp [hs])) x hx
  exact key _ _ (fun s hs' => ⟨hw.2.2 s hs', Nat.le_trans (kq hs') hs⟩) x hx
 ·cases hx
theorem YY (most : Int) (a : As) : (cutF most a).length ≤ 16388 := by
 unfold cutF
 split
 ·rename_i h
  unfold xL at h
  split at h
  ·omega
  ·split at h
   ·rename_i h1 h2
    exact ZH (by omega) h2
   ·omega
 ·simp
end Go.PH
end

/- Texts laid together: GaRefCut, LkBytes. -/
import Derived.Test.YtfbkameikhgciaaGreatDoorMg05
import Derived.Test.YtfbkameikhgciaaGreatDoorMg08
import Derived.Test.YtfbkameikhgciaaGreatDoorMg11
set_option linter.all false
set_option linter.unusedSimpArgs false
set_option linter.unusedVariables false
section
/- The walk of the document's Cut of assemblies. -/
namespace Go.PH
open Go.RowKit Go.Proofs

set_option maxRecDepth 20000 in
set_option maxHeartbeats 4000000 in
theorem rgcut_any (a : As) (most : Int) (A : Option Addr) (n c : Nat) (B : Nat) (w : World) (hr : RdG w B A n c a.segs) (hB : B ≤ w.heap.size) (hw : a.wf) (hs : ∀ s ∈ a.segs, s.load.length ≤ 140737488351232) (hn : n ≤ 140737488351232) :
  Calls Tryz.prog 47 #[.agg (asV a.chan a.track A n c), .int .i64 most] w fun e w' => ∃ A2 c2, e = .returned (.tuple #[.slice A2 (cutF most a).length c2, .int .i64 (cutErr most a : Int)]) ∧ OwnF w' w.heap.size A2 (cutF most a).length c2 (cutF most a) ∧ Below w.heap.size w w' := by
 have hck := fun (W : World) (h : Below w.heap.size w W) => rgcheck_any a A n c w.heap.size W ((hr.more hB).below h) h.size hw hs hn
 obtain ⟨xb, w0, hqb, hqv, hX, hB0⟩ := alloc_stepG w (asV a.chan a.track A n c) 42
 have hxw : w.heap.size ≤ xb := by omega
 by_cases c1 : most < 1
 ·have e1 : cutErr most a = 2 := by simp [cutErr, c1]
  have e2 : cutF most a = [] := by simp [cutF, e1]
  rw [e1, e2]
  clear e1 e2 hck hX
  unfold asV at *
  go_enter Tryz.func47, Tryz.ntmps47
  go_wp2_with (with_reducible refine h_A ?_)
  go_ret2
  exact ⟨none, 0, rfl, Own.none_ _ _ _ _, by rw [← hqv]; exact hB0⟩
 have d1 : decide (most < 1) = false := by simp; omega
 by_cases c2 : 4084 < most
 ·have e1 : cutErr most a = 2 := by simp [cutErr, c2]
  have e2 : cutF most a = [] := by simp [cutF, e1]
  rw [e1, e2]
  clear e1 e2 hck hX
  unfold asV at *
  go_enter Tryz.func47, Tryz.ntmps47
  go_wp2_with (with_reducible refine h_A ?_)
  go_ret2
  exact ⟨none, 0, rfl, Own.none_ _ _ _ _, by rw [← hqv]; exact hB0⟩
 have d2 : decide (4084 < most) = false := by simp; omega
 obtain ⟨M, rfl⟩ : ∃ M : Nat, most = (M : Int) := ⟨most.toNat, by omega⟩
 have hM1 : 1 ≤ M := by omega
 have hM2 : M ≤ 4084 := by omega
 have x0 := hX.c0
 have x1 := hX.c1
 have x2 := hX.c2
 cases hok : asOk a
 ·have e1 : cutErr (M : Int) a = 70 := by simp [cutErr, c1, c2, hok]
  have e2 : cutF (M : Int) a = [] := by simp [cutF, e1]
  have e3 : asErr a = 70 := by simp [asErr, hok]
  rw [e1, e2]
  rw [e3] at hck
  clear e1 e2 e3 hok
  unfold asV at *
  go_enter Tryz.func47, Tryz.ntmps47
  go_upto_region 1 with fail
  rw [← hqb, ← hqv]
  clear hqb hqv
  go_wp2_with (with_reducible refine h_A ?_)
  refine (hck _ hB0).mono ?_
  rintro e w1 ⟨rfl, hB1⟩
  have hB2 := hB0.trans (hB1.mono hB0.size)
  go_wp2_with (with_reducible refine h_A ?_)
  go_ret2
  exact ⟨none, 0, rfl, Own.none_ _ _ _ _, hB2⟩
 ·have e1 : cutErr (M : Int) a = 0 := by simp [cutErr, c1, c2, hok]
  have e2 : cutF (M : Int) a = cutAs M a := by simp [cutF, e1]
  have e3 : asErr a = 0 := by simp [asErr, hok]
  rw [e1, e2]
  rw [e3] at hck
  have hmost := cutAs_len hM1 hok
  obtain ⟨hn4, hsum, hne⟩ := asOk_few hok
  have hnl := rec_length sgShape hr
  have hel := fun {i : Nat} (hi : i < n) => rec_at sgShape hr hi
  obtain ⟨FS, hFS⟩ : ∃ l, l = cutAs M a := ⟨_, rfl⟩
  rw [← hFS] at hmost ⊢
  have HST : Hid (FS = [] ++ cutL M a.chan a.track n 0 (a.segs.drop 0)) := Lib.hid (by rw [hFS, cutAs, hnl]; rfl)
  have HM := Lib.hid hmost
  have HN := Lib.hid hnl
  have HSM := Lib.hid hsum
  have HTY := Lib.hid hw.2.2
  obtain ⟨hch, htr, _⟩ := hw
  have hn4' : n ≤ 4 := by omega
  clear e1 e2 e3 hok hFS hne hmost hsum hnl hs hr c1 c2 hn4
  obtain ⟨ch, tr, l⟩ := a
  simp only at *
  unfold asV at *
  go_enter Tryz.func47, Tryz.ntmps47
  go_upto_region 1 with fail
  rw [← hqb, ← hqv]
  clear hqb hqv
  go_wp2_with (with_reducible refine h_A ?_)
  refine (hck _ hB0).mono ?_
  rintro e w1 ⟨rfl, hB1⟩
  have hX1 := hX.below hB1
  have hB2 := hB0.trans (hB1.mono hB0.size)
  clear hck hX hB1 hB0 x0 x1 x2
  clear w0
  have x2 := hX1.c2
  go_wp2_with (with_reducible refine h_A ?_)
  go_loopw [6, 7] (fun s6 s7 wr => ∃ (i N c2 : Nat) (A2 : Option Addr) (D : List Fr), i ≤ n ∧ s6 = .slice A2 N c2 ∧ s7 = .int .i64 (i : Int) ∧ N ≤ 16388 ∧ Hid (D.length = N) ∧ Hid (FS = D ++ cutL M ch tr n i (l.drop i)) ∧ OwnF wr (xb + 1) A2 N c2 D ∧ Box wr xb 42 #[.int .u16 (ch : Int), .int .u8 (tr : Int), .slice A n c] ∧ Below w.heap.size w wr) (fun _ s7 _ => n - (RowKit.intOf s7).toNat)
  case atStart => exact ⟨0, 0, 0, none, [], by omega, rfl, rfl, by omega, Lib.hid rfl, HST, Own.none_ _ _ _ _, hX1, hB2⟩
  case round =>
   clear HST x2 hX1 hB2 w1
   obtain ⟨i, N, c2, A2, D, hi, rfl, rfl, hN, HD, HC, hO, hX, hBr⟩ := hrel
   have x2 := hX.c2
   by_cases hlt : i < n
   ·have g1 : (i : Int) < (n : Int) := by omega
    obtain ⟨b, off, rfl, hbB, hkl, hcl⟩ := hel hlt
    have hbw : b < w.heap.size := by omega
    have hk0 : ∀ W, Below w.heap.size w W → W.cell? ⟨b, off + i * 2, none⟩ = some (.int .u8 (l[i].ty : Int)) := fun W hW => (hW.cell (p := ⟨b, off + i * 2, none⟩) hbw).trans (hcl 0 _ rfl)
    have k1 : wr.cell? ⟨b, off + i * 2 + 1, none⟩ = some (.string (str l[i].load)) := (hBr.cell (p := ⟨b, off + i * 2 + 1, none⟩) hbw).trans (hcl 1 _ rfl)
    have hty := HTY.out _ (List.getElem_mem hkl)
    have hsl := Nat.le_trans (sgLen_mem (List.getElem_mem hkl)) HSM.out
    have HC2 : Hid (FS = D ++ (cutN M ⟨decide (i = 0), decide (i + 1 = n), true, false, l[i].ty, tr, ch, []⟩ l[i].load ++ cutL M ch tr n (i + 1) (l.drop (i + 1)))) := Lib.hid (by rw [HC.out, List.drop_eq_getElem_cons hkl, cutL_cons])
    clear hcl HC
    generalize l[i].ty = ty at *
    generalize l[i].load = s at *
    obtain ⟨T, hT⟩ : ∃ T, T = cutL M ch tr n (i + 1) (l.drop (i + 1)) := ⟨_, rfl⟩
    rw [← hT] at HC2
    have HT := Lib.hid hT
    clear hT
    obtain ⟨b1, hb1⟩ : ∃ b, b = decide (i = 0) := ⟨_, rfl⟩
    obtain ⟨b2, hb2⟩ : ∃ b, b = decide (i + 1 = n) := ⟨_, rfl⟩
    rw [← hb1, ← hb2] at HC2
    have q1 : ((i : Int) == 0) = b1 := by rw [hb1, Bool.eq_iff_iff]; simp
    have q2 : ((i : Int) == (n : Int) - 1) = b2 := by rw [hb2, Bool.eq_iff_iff]; simp; omega
    clear hb1 hb2
    have hss := str_size s
    obtain ⟨LL, hLL⟩ : ∃ x, x = s.length := ⟨_, rfl⟩
    rw [← hLL] at hsl hss
    have hl1 : LL ≤ s.length := by omega
    have hl2 : s.length ≤ LL := by omega
    have HLL := Lib.hid hLL
    clear hLL
    go_wp2_with (with_reducible refine h_A ?_)
    go_loopw [6, 9] (fun s6 s9 wr => ∃ (N c2 fr : Nat) (A2 : Option Addr) (D : List Fr), s6 = .slice A2 N c2 ∧ s9 = .int .i64 (fr : Int) ∧ fr ≤ LL + M ∧ N ≤ 16388 ∧ Hid (D.length = N) ∧ Hid (FS = D ++ ((if fr = 0 ∨ fr < LL then cutN M ⟨b1, b2, decide (fr = 0), false, ty, tr, ch, []⟩ (s.drop fr) else []) ++ T)) ∧ OwnF wr (xb + 1) A2 N c2 D ∧
     Box wr xb 42 #[.int .u16 (ch : Int), .int .u8 (tr : Int), .slice (some ⟨b, off, none⟩) n c] ∧ Below w.heap.size w wr) (fun _ s9 _ => LL + M + 1 - (RowKit.intOf s9).toNat)
    case atStart => exact ⟨N, c2, 0, A2, D, rfl, rfl, by omega, hN, HD, by rw [if_pos (.inl rfl)]; simpa using HC2, hO, hX, hBr⟩
    case round =>
     clear HC2 HD hN hO hX hBr x2 k1
     obtain ⟨N, c2, fr, A2, D, rfl, rfl, hfr, hN, HD, HC, hO, hX, hBr⟩ := hrel
     by_cases hgo : fr = 0 ∨ fr < LL
     ·obtain ⟨to_, hto⟩ : ∃ x, x = min (fr + M) LL := ⟨_, rfl⟩
      have hmin : (if (LL : Int) < (fr : Int) + (M : Int) then (LL : Int) else (fr : Int) + (M : Int)) = (to_ : Int) := by split <;> omega
      have hmin2 : min ((fr : Int) + (M : Int)) (LL : Int) = (to_ : Int) := by omega
      have hft : fr ≤ to_ := by omega
      have htl : to_ ≤ LL := by omega
      obtain ⟨fi, hfi⟩ : ∃ b, b = decide (to_ = LL) := ⟨_, rfl⟩
      have hgb : ((to_ : Int) == (LL : Int)) = fi := by rw [hfi, Bool.eq_iff_iff]; simp; omega
      obtain ⟨b3, hb3⟩ : ∃ b, b = decide (fr = 0) := ⟨_, rfl⟩
      have hga : ((fr : Int) == 0) = b3 := by rw [hb3, Bool.eq_iff_iff]; simp
      have HFI := Lib.hid hfi
      have HB3 := Lib.hid hb3
      have HTO := Lib.hid hto
      have HC' : Hid (FS = D ++ (cutN M ⟨b1, b2, b3, false, ty, tr, ch, []⟩ (s.drop fr) ++ T)) := Lib.hid (by rw [HC.out, if_pos hgo, hb3])
      clear HC
      have HC := HC'
      clear HC' hto hfi hb3
      have hx2 := hX.c2
      have hwn : IntKind.i64.wrap ((n : Int) - 1) = (n : Int) - 1 := IntWalk.i64_in _ ⟨by omega, by omega⟩
      cases hb3c : b3
      ·have hf0 : ¬ fr = 0 := by have := HB3.out; rw [hb3c] at this; simpa using this
       have g2 : (fr : Int) < (LL : Int) := by omega
       have HGO := Lib.hid hgo
       clear hgo hf0
       subst hb3c
       go_upto_region 14 with fail
       refine rg_start (fun W : World => Box W xb 42 #[.int .u16 (ch : Int), .int .u8 (tr : Int), .slice (some ⟨b, off, none⟩) n c] ∧ W.cell? ⟨b, off + i * 2, none⟩ = some (.int .u8 (ty : Int))) (by kernel_rfl) ?_
       have hB7 : Below w.heap.size w wr.drew := below_drewN hBr 1
       have hS : Box wr.drew xb 42 #[.int .u16 (ch : Int), .int .u8 (tr : Int), .slice (some ⟨b, off, none⟩) n c] ∧ wr.drew.cell? ⟨b, off + i * 2, none⟩ = some (.int .u8 (ty : Int)) := ⟨hX, hk0 _ hB7⟩
       have hO7 : OwnF wr.drew (xb + 1) A2 N c2 D := hO
       have hxs := hX.lt
       clear hX hO hBr hx2
       generalize wr.drew = w7 at *
       refine rg_t 0 hS ?_
       simp only [List.getElem_toArray, List.getElem_cons_zero, Act.put, List.setIfInBounds_toArray, List.set_cons_zero, List.set_cons_succ]
       refine rg_t 1 hS ?_
       simp only [g_S, Act.put]
       refine rg_t 2 hS ?_
       simp only [g_S, Act.put]
       refine rg_t 3 hS ?_
       simp only [g_S, Act.put]
       refine rg_t 4 hS ?_
       simp only [g_S, Act.put]
       refine rg_take 5 (v := ?_) rfl (by kernel_rfl) (by kernel_rfl) (by kernel_rfl) hS rfl ?_ ?_
       rotate_left
       ·intro wS hSw; have k := hSw.1.cell (j := 2) rfl; go_simp; (with_reducible rfl)
       simp only [g_S, Act.put]
       refine rg_t 6 hS ?_
       simp only [g_S, Act.put]
       refine rg_t 7 hS ?_
       simp only [g_S, Act.put]
       refine rg_t 8 hS ?_
       simp only [g_S, Act.put]
       refine rg_t 9 hS ?_
       simp only [g_S, Act.put]
       refine rg_t 10 hS ?_
       simp only [g_S, Act.put]
       refine rg_t 11 hS ?_
       simp only [g_S, Act.put]
       refine rg_t 12 hS ?_
       simp only [g_S, Act.put]
       refine rg_t 13 hS ?_
       simp only [g_S, Act.put]
       refine rg_t 14 hS ?_
       simp only [g_S, Act.put]
       refine rg_t 15 hS ?_
       simp only [g_S, Act.put]
       refine rg_take 16 (v := ?_) rfl (by kernel_rfl) (by kernel_rfl) (by kernel_rfl) hS rfl ?_ ?_
       rotate_left
       ·intro wS hSw; have k := hSw.1.cell (j := 2) rfl; go_simp; (with_reducible rfl)
       simp only [g_S, Act.put]
       refine rg_t 17 hS ?_
       simp only [g_S, Act.put]
       refine rg_t 18 hS ?_
       simp only [g_S, Act.put]
       refine rg_t 19 hS ?_
       simp only [g_S, Act.put]
       refine rg_take 20 (v := ?_) rfl (by kernel_rfl) (by kernel_rfl) (by kernel_rfl) hS rfl ?_ ?_
       rotate_left
       ·intro wS hSw; have k := hSw.2; go_simp; (with_reducible rfl)
       simp only [g_S, Act.put]
       refine rg_t 21 hS ?_
       simp only [g_S, Act.put]
       refine rg_take 22 (v := ?_) rfl (by kernel_rfl) (by kernel_rfl) (by kernel_rfl) hS rfl ?_ ?_
       rotate_left
       ·intro wS hSw; have k := hSw.1.cell (j := 1) rfl; go_simp; (with_reducible rfl)
       simp only [g_S, Act.put]
       refine rg_t 23 hS ?_
       simp only [g_S, Act.put]
       refine rg_take 24 (v := ?_) rfl (by kernel_rfl) (by kernel_rfl) (by kernel_rfl) hS rfl ?_ ?_
       rotate_left
       ·intro wS hSw; have k := hSw.1.cell (j := 0) rfl; go_simp; (with_reducible rfl)
       simp only [g_S, Act.put]
       refine rg_t 25 hS ?_
       simp only [g_S, Act.put]
       refine rg_t 26 hS ?_
       simp only [g_S, Act.put]
       refine rg_t 27 hS ?_
       simp only [g_S, Act.put]
       refine rg_take 28 (v := ?_) rfl (by kernel_rfl) (by kernel_rfl) (by kernel_rfl) hS rfl ?_ ?_
       rotate_left
       ·intro wS hSw; rw [exec_cutS (x := .tmp 75) (lo := some <| .tmp 76) (hi := some <| .tmp 77) Tryz.underlying9 (l := s) (i := fr) (j := to_)] <;> first | rfl | omega | exact .inl ⟨rfl, rfl⟩ | exact .inr ⟨_, _, rfl, rfl⟩
       simp only [g_S, Act.put]
       refine rg_t 29 hS ?_
       simp only [g_S, Act.put]
       obtain ⟨PC, hPC⟩ : ∃ q, q = (s.take to_).drop fr := ⟨_, rfl⟩
       rw [← hPC]
       have HPC := Lib.hid hPC
       clear hPC
       refine rg_one 30 rfl (by kernel_rfl) rfl (fun K hK => ?_)
       go_simp
       refine hK _ _ ⟨hS.1.alloc _, hk0 _ (hB7.alloc hB7.size _)⟩ ?_
       clear hK K
       try simp only [g_S, Act.put]
       refine rg_one 31 rfl (by kernel_rfl) rfl (fun K hK => ?_)
       refine op_rec (W := w7) frShape slF Tryz.underlying65 rfl rfl rfl rfl (⟨b1, b2, false, fi, ty, tr, ch, PC⟩ : Fr) rfl hO7 (by omega) (by omega) (by have := hS.1.lt; omega) ?_
       intro A3 c3 w8 hO8 hg8 hA8 hBb8
       have hX8 := hS.1.grown hg8 (fun e => by have := (hO7.blk_lt e.symm).1; omega)
       have hB8 : Below w.heap.size w w8 := hB7.grown hg8 hB7.size (fun g hg => by have := (hO7.blk_lt hg).1; omega)
       refine hK _ _ ⟨hX8, hk0 _ hB8⟩ ?_
       have hS := hk0 _ hB8
       clear hK K hO7 hg8 hA8 hBb8 hB7
       try simp only [g_S, Act.put]
       refine rg_take 32 (v := ?_) rfl (by kernel_rfl) (by kernel_rfl) (by kernel_rfl) ⟨hX8, hS⟩ rfl ?_ ?_
       rotate_left
       ·intro wS hSw; go_simp; (with_reducible rfl)
       simp only [g_S, Act.put]
       refine rg_end (by kernel_rfl) ?_
       have HDa : Hid ((D ++ [(⟨b1, b2, false, fi, ty, tr, ch, PC⟩ : Fr)]).length = N + 1) := Lib.hid (by have := HD.out; simp; omega)
       have HE : Hid (FS = (D ++ [(⟨b1, b2, false, fi, ty, tr, ch, PC⟩ : Fr)]) ++ ((if fr + M = 0 ∨ fr + M < LL then cutN M ⟨b1, b2, decide (fr + M = 0), false, ty, tr, ch, []⟩ (s.drop (fr + M)) else []) ++ T)) := Lib.hid (by
        have h1 := HTO.out
        have h2 := HLL.out
        have h0 := HGO.out
        have hfe := HFI.out
        have hdl : (s.drop fr).length = LL - fr := by rw [List.length_drop, ← h2]
        have hpc := HPC.out
        have hdt : (s.take to_).drop fr = (s.drop fr).take (to_ - fr) := by rw [List.drop_take]
        rw [HC.out, decide_eq_false (by omega : ¬ fr + M = 0)]
        by_cases hle : LL - fr ≤ M
        ·have hto : to_ = LL := by omega
         rw [cutN_end (by omega), if_neg (by omega), hpc, hdt, hto, List.take_of_length_le (by omega), hfe, decide_eq_true hto]
         simp
        ·have hto : to_ = fr + M := by omega
         rw [cutN_more hM1 (by omega), if_pos (by omega), hpc, hdt, hto, hfe, decide_eq_false (by omega), List.drop_drop]
         simp)
       have hN1 : N + 1 ≤ 16388 := by
        have h1 := HDa.out
        have h2 := congrArg List.length HE.out
        have h3 := HM.out
        simp only [List.length_append] at h1 h2
        omega
       clear HC HGO HFI HTO HB3 hS hmin hmin2
       go_wp2_with (with_reducible refine h_A ?_)
       exact ⟨⟨N + 1, c3, fr + M, A3, _, rfl, by go_num, by omega, hN1, HDa, HE, hO8, hX8, hB8⟩, by simp [RowKit.intOf]; omega⟩
      ·have hf0 : fr = 0 := by have := HB3.out; rw [hb3c] at this; simpa using this
       have HGO := Lib.hid hgo
       clear hgo hf0
       subst hb3c
       go_upto_region 14 with fail
       refine rg_start (fun W : World => Box W xb 42 #[.int .u16 (ch : Int), .int .u8 (tr : Int), .slice (some ⟨b, off, none⟩) n c] ∧ W.cell? ⟨b, off + i * 2, none⟩ = some (.int .u8 (ty : Int))) (by kernel_rfl) ?_
       have hB7 : Below w.heap.size w wr.drew := below_drewN hBr 1
       have hS : Box wr.drew xb 42 #[.int .u16 (ch : Int), .int .u8 (tr : Int), .slice (some ⟨b, off, none⟩) n c] ∧ wr.drew.cell? ⟨b, off + i * 2, none⟩ = some (.int .u8 (ty : Int)) := ⟨hX, hk0 _ hB7⟩
       have hO7 : OwnF wr.drew (xb + 1) A2 N c2 D := hO
       have hxs := hX.lt
       clear hX hO hBr hx2
       generalize wr.drew = w7 at *
       refine rg_t 0 hS ?_
       simp only [List.getElem_toArray, List.getElem_cons_zero, Act.put, List.setIfInBounds_toArray, List.set_cons_zero, List.set_cons_succ]
       refine rg_t 1 hS ?_
       simp only [g_S, Act.put]
       refine rg_t 2 hS ?_
       simp only [g_S, Act.put]
       refine rg_t 3 hS ?_
       simp only [g_S, Act.put]
       refine rg_t 4 hS ?_
       simp only [g_S, Act.put]
       refine rg_take 5 (v := ?_) rfl (by kernel_rfl) (by kernel_rfl) (by kernel_rfl) hS rfl ?_ ?_
       rotate_left
       ·intro wS hSw; have k := hSw.1.cell (j := 2) rfl; go_simp; (with_reducible rfl)
       simp only [g_S, Act.put]
       refine rg_t 6 hS ?_
       simp only [g_S, Act.put]
       refine rg_t 7 hS ?_
       simp only [g_S, Act.put]
       refine rg_t 8 hS ?_
       simp only [g_S, Act.put]
       refine rg_t 9 hS ?_
       simp only [g_S, Act.put]
       refine rg_t 10 hS ?_
       simp only [g_S, Act.put]
       refine rg_t 11 hS ?_
       simp only [g_S, Act.put]
       refine rg_t 12 hS ?_
       simp only [g_S, Act.put]
       refine rg_t 13 hS ?_
       simp only [g_S, Act.put]
       refine rg_t 14 hS ?_
       simp only [g_S, Act.put]
       refine rg_t 15 hS ?_
       simp only [g_S, Act.put]
       refine rg_take 16 (v := ?_) rfl (by kernel_rfl) (by kernel_rfl) (by kernel_rfl) hS rfl ?_ ?_
       rotate_left
       ·intro wS hSw; have k := hSw.1.cell (j := 2) rfl; go_simp; (with_reducible rfl)
       simp only [g_S, Act.put]
       refine rg_t 17 hS ?_
       simp only [g_S, Act.put]
       refine rg_t 18 hS ?_
       simp only [g_S, Act.put]
       refine rg_t 19 hS ?_
       simp only [g_S, Act.put]
       refine rg_take 20 (v := ?_) rfl (by kernel_rfl) (by kernel_rfl) (by kernel_rfl) hS rfl ?_ ?_
       rotate_left
       ·intro wS hSw; have k := hSw.2; go_simp; (with_reducible rfl)
       simp only [g_S, Act.put]
       refine rg_t 21 hS ?_
       simp only [g_S, Act.put]
       refine rg_take 22 (v := ?_) rfl (by kernel_rfl) (by kernel_rfl) (by kernel_rfl) hS rfl ?_ ?_
       rotate_left
       ·intro wS hSw; have k := hSw.1.cell (j := 1) rfl; go_simp; (with_reducible rfl)
       simp only [g_S, Act.put]
       refine rg_t 23 hS ?_
       simp only [g_S, Act.put]
       refine rg_take 24 (v := ?_) rfl (by kernel_rfl) (by kernel_rfl) (by kernel_rfl) hS rfl ?_ ?_
       rotate_left
       ·intro wS hSw; have k := hSw.1.cell (j := 0) rfl; go_simp; (with_reducible rfl)
       simp only [g_S, Act.put]
       refine rg_t 25 hS ?_
       simp only [g_S, Act.put]
       refine rg_t 26 hS ?_
       simp only [g_S, Act.put]
       refine rg_t 27 hS ?_
       simp only [g_S, Act.put]
       refine rg_take 28 (v := ?_) rfl (by kernel_rfl) (by kernel_rfl) (by kernel_rfl) hS rfl ?_ ?_
       rotate_left
       ·intro wS hSw; rw [exec_cutS (x := .tmp 75) (lo := some <| .tmp 76) (hi := some <| .tmp 77) Tryz.underlying9 (l := s) (i := fr) (j := to_)] <;> first | rfl | omega | exact .inl ⟨rfl, rfl⟩ | exact .inr ⟨_, _, rfl, rfl⟩
       simp only [g_S, Act.put]
       refine rg_t 29 hS ?_
       simp only [g_S, Act.put]
       obtain ⟨PC, hPC⟩ : ∃ q, q = (s.take to_).drop fr := ⟨_, rfl⟩
       rw [← hPC]
       have HPC := Lib.hid hPC
       clear hPC
       refine rg_one 30 rfl (by kernel_rfl) rfl (fun K hK => ?_)
       go_simp
       refine hK _ _ ⟨hS.1.alloc _, hk0 _ (hB7.alloc hB7.size _)⟩ ?_
       clear hK K
       try simp only [g_S, Act.put]
       refine rg_one 31 rfl (by kernel_rfl) rfl (fun K hK => ?_)
       refine op_rec (W := w7) frShape slF Tryz.underlying65 rfl rfl rfl rfl (⟨b1, b2, true, fi, ty, tr, ch, PC⟩ : Fr) rfl hO7 (by omega) (by omega) (by have := hS.1.lt; omega) ?_
       intro A3 c3 w8 hO8 hg8 hA8 hBb8
       have hX8 := hS.1.grown hg8 (fun e => by have := (hO7.blk_lt e.symm).1; omega)
       have hB8 : Below w.heap.size w w8 := hB7.grown hg8 hB7.size (fun g hg => by have := (hO7.blk_lt hg).1; omega)
       refine hK _ _ ⟨hX8, hk0 _ hB8⟩ ?_
       have hS := hk0 _ hB8
       clear hK K hO7 hg8 hA8 hBb8 hB7
       try simp only [g_S, Act.put]
       refine rg_take 32 (v := ?_) rfl (by kernel_rfl) (by kernel_rfl) (by kernel_rfl) ⟨hX8, hS⟩ rfl ?_ ?_
       rotate_left
       ·intro wS hSw; go_simp; (with_reducible rfl)
       simp only [g_S, Act.put]
       refine rg_end (by kernel_rfl) ?_
       have HDa : Hid ((D ++ [(⟨b1, b2, true, fi, ty, tr, ch, PC⟩ : Fr)]).length = N + 1) := Lib.hid (by have := HD.out; simp; omega)
       have HE : Hid (FS = (D ++ [(⟨b1, b2, true, fi, ty, tr, ch, PC⟩ : Fr)]) ++ ((if fr + M = 0 ∨ fr + M < LL then cutN M ⟨b1, b2, decide (fr + M = 0), false, ty, tr, ch, []⟩ (s.drop (fr + M)) else []) ++ T)) := Lib.hid (by
        have h1 := HTO.out
        have h2 := HLL.out
        have h0 := HGO.out
        have hfe := HFI.out
        have hdl : (s.drop fr).length = LL - fr := by rw [List.length_drop, ← h2]
        have hpc := HPC.out
        have hdt : (s.take to_).drop fr = (s.drop fr).take (to_ - fr) := by rw [List.drop_take]
        rw [HC.out, decide_eq_false (by omega : ¬ fr + M = 0)]
        by_cases hle : LL - fr ≤ M
        ·have hto : to_ = LL := by omega
         rw [cutN_end (by omega), if_neg (by omega), hpc, hdt, hto, List.take_of_length_le (by omega), hfe, decide_eq_true hto]
         simp
        ·have hto : to_ = fr + M := by omega
         rw [cutN_more hM1 (by omega), if_pos (by omega), hpc, hdt, hto, hfe, decide_eq_false (by omega), List.drop_drop]
         simp)
       have hN1 : N + 1 ≤ 16388 := by
        have h1 := HDa.out
        have h2 := congrArg List.length HE.out
        have h3 := HM.out
        simp only [List.length_append] at h1 h2
        omega
       clear HC HGO HFI HTO HB3 hS hmin hmin2
       go_wp2_with (with_reducible refine h_A ?_)
       exact ⟨⟨N + 1, c3, fr + M, A3, _, rfl, by go_num, by omega, hN1, HDa, HE, hO8, hX8, hB8⟩, by simp [RowKit.intOf]; omega⟩
     ·have HE : Hid (FS = D ++ cutL M ch tr n (i + 1) (l.drop (i + 1))) := Lib.hid (by rw [HC.out, if_neg hgo, ← HT.out, List.nil_append])
      have g2 : ¬ (fr : Int) = 0 := by omega
      have g3 : ¬ (fr : Int) < (LL : Int) := by omega
      clear HC hgo
      go_wp2_with (with_reducible refine h_A ?_)
      exact ⟨⟨i + 1, N, c2, A2, D, by omega, rfl, by go_num, hN, HD, HE, hO, hX, hBr⟩, by simp [RowKit.intOf]; omega⟩
   ·have g1 : ¬ (i : Int) < (n : Int) := by omega
    have HE : Hid (FS = D) := Lib.hid (by rw [HC.out, List.drop_eq_nil_of_le (by have := HN.out; omega)]; simp [cutL])
    have hlN := HD.out
    rw [← HE.out] at hO hlN
    have HLN := Lib.hid hlN
    clear hlN HD HC hel
    go_wp2_with (with_reducible refine h_A ?_)
    go_ret2
    rw [HLN.out]
    exact ⟨A2, c2, rfl, Own.base_le hO (by omega), hBr⟩
end Go.PH
end
section
/- The walk of link's bytes. -/
namespace Go.PH
open Go.RowKit Go.Proofs

def putAll (l : List Fr) : List UInt8 := l.flatMap Fr.put
def asBytes (most : Int) (a : As) : List UInt8 := putAll (cutF most a)
theorem put_len (f : Fr) : f.put.length ≤ 4096 := by
 unfold Fr.put
 split
 ·rename_i h
  have : f.bytes.length = 12 + f.load.length := by simp [Fr.bytes, be_length]; omega
  simp [Fr.ok] at h
  omega
 ·simp
theorem putAll_len (l : List Fr) : (putAll l).length ≤ 4096 * l.length := by
 induction l with
 | nil => simp [putAll]
 | cons f r ih =>
  have := put_len f
  have e : putAll (f :: r) = f.put ++ putAll r := rfl
  rw [e, List.length_append, List.length_cons]
  omega
theorem putAll_take {l : List Fr} {i : Nat} (h : i < l.length) : putAll (l.take (i + 1)) = putAll (l.take i) ++ l[i].put := by
 unfold putAll
 rw [List.take_succ_eq_append_getElem h, List.flatMap_append, List.flatMap_singleton]
theorem cutS_wf (most : Nat) : ∀ (k : Nat) (f : Fr) (s : List UInt8), f.wf → s.length ≤ 16384 → ∀ x ∈ cutS most k f s, x.wf ∧ x.load.length ≤ 16384
 | 0, f, s, hf, hs, x, hx => by simp [cutS] at hx; subst hx; exact ⟨hf, hs⟩
 | k + 1, f, s, hf, hs, x, hx => by
  rw [cutS] at hx
  split at hx
  ·simp at hx; subst hx; exact ⟨hf, hs⟩
  ·rcases List.mem_cons.1 hx with rfl | hx
   ·exact ⟨hf, by simp; omega⟩
   ·exact cutS_wf most k ⟨f.first, f.last, false, false, f.ty, f.track, f.chan, []⟩ (s.drop most) hf (by simp; omega) x hx
theorem cutF_wf {most : Int} {a : As} (hw : a.wf) : ∀ x ∈ cutF most a, x.wf ∧ x.load.length ≤ 16384 := by
 intro x hx
 unfold cutF at hx
 split at hx
 ·rename_i h
  have hok : asOk a = true := by
   unfold cutErr at h
   split at h
   ·omega
   ·split at h
    ·assumption
    ·omega
  obtain ⟨_, hs, _⟩ := asOk_few hok
  have key : ∀ (l : List Sg) (i : Nat), (∀ s ∈ l, s.ty < 256 ∧ s.load.length ≤ 16384) → ∀ x ∈ cutL most.toNat a.chan a.track a.segs.length i l, x.wf ∧ x.load.length ≤ 16384 := by
   intro l
   induction l with
   | nil => intro i _ x hx; simp [cutL] at hx
   | cons s r ih =>
    intro i hl x hx
    rw [cutL] at hx
    rcases List.mem_append.1 hx with hx | hx
    ·have := hl s (by simp)
     exact cutS_wf _ _ _ _ ⟨this.1, hw.2.1, hw.1⟩ this.2 x hx
    ·exact ih _ (fun s hs => hl s (by simp [hs])) x hx
  exact key _ _ (fun s hs' => ⟨hw.2.2 s hs', Nat.le_trans (sgLen_mem hs') hs⟩) x hx
 ·cases hx
theorem cutF_len (most : Int) (a : As) : (cutF most a).length ≤ 16388 := by
 unfold cutF
 split
 ·rename_i h
  unfold cutErr at h
  split at h
  ·omega
  ·split at h
   ·rename_i h1 h2
    exact cutAs_len (by omega) h2
   ·omega
 ·simp
theorem bplB : BPl 59 2 0 := ⟨by kernel_rfl, by omega⟩
set_option maxRecDepth 20000 in
set_option maxHeartbeats 4000000 in
theorem lbytes_any (lb sz : Nat) (a : As) (A : Option Addr) (n c : Nat) (w : World) (h4 : w.cell? ⟨lb, 4, none⟩ = some (.int .u64 (sz : Int))) (hsz : sz ≤ 1000000) (hr : RdG w w.heap.size A n c a.segs) (hw : a.wf) (hs : ∀ s ∈ a.segs, s.load.length ≤ 140737488351232) (hn : n ≤ 140737488351232) :
  Calls Tryz.prog 31 #[.pointer (some ⟨lb, 0, none⟩), .agg (asV a.chan a.track A n c)] w fun e w' => e = .returned (.tuple #[.string (str (asBytes ((sz : Int) - 12) a)), .int .i64 (cutErr ((sz : Int) - 12) a : Int)]) ∧ Below w.heap.size w w' := by
 have hct := fun (W : World) (h : Below w.heap.size w W) => gcut_any a ((sz : Int) - 12) A n c w.heap.size W (hr.below h) h.size hw hs hn
 have hlw : lb < w.heap.size := World.block_lt_of_cell? _ _ h4
 obtain ⟨xb, w0, hqb, hqv, hX, hB0⟩ := alloc_stepG w (asV a.chan a.track A n c) 42
 have HWF := Lib.hid (cutF_wf (most := (sz : Int) - 12) hw)
 have hfl := cutF_len ((sz : Int) - 12) a
 unfold asBytes
 generalize cutF ((sz : Int) - 12) a = FS at *
 generalize cutErr ((sz : Int) - 12) a = ER at *
 have hw12 : IntKind.i64.wrap ((sz : Int) - 12) = (sz : Int) - 12 := IntWalk.i64_in _ ⟨by omega, by omega⟩
 have hwz : IntKind.i64.wrap (sz : Int) = (sz : Int) := IntWalk.i64_in _ ⟨by omega, by omega⟩
 clear hr hw hs
 unfold asV at *
 go_enter Tryz.func31, Tryz.ntmps31
 go_upto_region 1 with fail
 rw [← hqb, ← hqv]
 have hxw : w.heap.size ≤ xb := by omega
 clear hqb hqv
 have k4 : w0.cell? ⟨lb, 4, none⟩ = some (.int .u64 (sz : Int)) := (hB0.cell (p := ⟨lb, 4, none⟩) hlw).trans h4
 refine rg_start (fun W : World => Below w0.heap.size w0 W) (by kernel_rfl) ?_
 have hS : Below w0.heap.size w0 w0.drew := below_drewN (Below.refl _ _) 1
 have hk4 := fun (wS : World) (hSw : Below w0.heap.size w0 wS) => (hSw.cell (p := ⟨lb, 4, none⟩) (World.block_lt_of_cell? _ _ k4)).trans k4
 have hct2 := hct w0.drew (below_drewN hB0 1)
 have hB1 : Below w.heap.size w w0.drew := below_drewN hB0 1
 clear hct h4 k4
 generalize w0.drew = wd at *
 refine rg_take 0 (v := ?_) rfl (by kernel_rfl) (by kernel_rfl) (by kernel_rfl) hS rfl ?_ ?_
 rotate_left
 ·intro wS hSw; have k0 := (hX.below hSw).cell (j := 0) rfl; have k1 := (hX.below hSw).cell (j := 1) rfl; have k2 := (hX.below hSw).cell (j := 2) rfl; go_simp; (with_reducible rfl)
 simp only [List.getElem_toArray, List.getElem_cons_zero, Act.put, List.setIfInBounds_toArray, List.set_cons_zero, List.set_cons_succ]
 refine rg_t 1 hS ?_
 simp only [g_S, Act.put]
 refine rg_t 2 hS ?_
 simp only [g_S, Act.put]
 refine rg_t 3 hS ?_
 simp only [g_S, Act.put]
 refine rg_take 4 (v := ?_) rfl (by kernel_rfl) (by kernel_rfl) (by kernel_rfl) hS rfl ?_ ?_
 rotate_left
 ·intro wS hSw; have k0 := hk4 _ hSw; go_simp; (with_reducible rfl)
 simp only [g_S, Act.put]
 refine rg_t 5 hS ?_
 simp only [g_S, Act.put]
 refine rg_t 6 hS ?_
 simp only [g_S, Act.put]
 refine rg_one 7 rfl (by kernel_rfl) rfl (fun K hK => ?_)
 go_simp
 (with_reducible refine hct2.mono ?_)
 rintro e w1 ⟨A2, c2, rfl, hO, hB2⟩
 have hS1 : Below w0.heap.size w0 w1 := hS.trans (hB2.mono hS.size)
 refine hK _ _ hS1 ?_
 clear hK K
 try simp only [g_S, Act.put]
 refine rg_t 8 hS1 ?_
 simp only [g_S, Act.put]
 refine rg_t 9 hS1 ?_
 simp only [g_S, Act.put]
 refine rg_t 10 hS1 ?_
 simp only [g_S, Act.put]
 refine rg_t 11 hS1 ?_
 simp only [g_S, Act.put]
 refine rg_t 12 hS1 ?_
 simp only [g_S, Act.put]
 refine rg_end (by kernel_rfl) ?_
 replace hB2 := hB1.trans (hB2.mono hB1.size)
 clear hS hS1 hct2 hk4 hB1 hX hB0
 clear w0
 obtain ⟨bb, w2, hqb, hqv, hBb, hB12⟩ := alloc_stepG w1 #[.pointer none, .slice none 0 0] 59
 have hO2 := own_below hO hB12
 have hbw : w1.heap.size ≤ bb := by omega
 have hB3 := hB2.trans (hB12.mono hB2.size)
 have hwb : w.heap.size ≤ bb := by have := hB2.size; omega
 have hAb : ∀ g, blk A2 = some g → g < bb := fun g hg => by have := (hO.blk_lt hg).2; omega
 go_upto_region 3 with fail
 rw [← hqb, ← hqv]
 clear hqb hqv
 have hn2 := rec_length frShape hO2.rd
 obtain ⟨N, hN⟩ : ∃ N, N = FS.length := ⟨_, rfl⟩
 rw [← hN] at hO2 hfl ⊢
 have HN := Lib.hid hN
 have hrF := fun (W : World) (h : Below w2.heap.size w2 W) {i : Nat} (hi : i < N) => rec_at frShape (hO2.rd.below h) hi
 have hlt2 := hBb.lt
 have hOn : Own w2 (bb + 1) 5 1 none 0 0 (([] : List UInt8).map u8v) := Own.none_ _ _ _ _
 have hNm : (N : Int) ≤ 16388 := by omega
 clear hn2 hN hO
 go_wp2_with (with_reducible refine h_B ?_)
 go_loopw [26] (fun s26 wr => ∃ (i m c3 : Nat) (p : Value) (A3 : Option Addr), i ≤ N ∧ s26 = .int .i64 (i : Int) ∧ Hid (m = (putAll (FS.take i)).length) ∧ Box wr bb 59 #[p, .slice A3 m c3] ∧ (p = .pointer none ∨ p = bPtr bb 0) ∧ Own wr (bb + 1) 5 1 A3 m c3 ((putAll (FS.take i)).map u8v) ∧ KeepF (fun g => bb ≤ g) w2 wr) (fun s26 _ => N - (RowKit.intOf s26).toNat)
 case atStart => exact ⟨0, 0, 0, .pointer none, none, by omega, rfl, Lib.hid rfl, hBb, .inl rfl, hOn, .refl _ _⟩
 case round =>
  clear hOn hBb
  obtain ⟨i, m, c3, p, A3, hi, rfl, HM, hBb, hp, hO3, hK3⟩ := hrel
  have hFr : OwnF wr wd.heap.size A2 N c2 FS := own_keep hO2 (fun g hg => hK3.2.1 g (by have := (hO2.blk_lt hg).2; exact this) (by have := hAb g hg; omega))
  have hBr : Below w.heap.size w wr := hB3.trans (hK3.toBelow (by have := hB3.size; omega) (fun g hg => by omega))
  have hne3 : blk A3 ≠ some bb := fun e => by have := (hO3.blk_lt e).1; omega
  by_cases hlt : i < N
  ·have g1 : (i : Int) < (N : Int) := by omega
   obtain ⟨b, off, rfl, hbB, hkl, hcl⟩ := rec_at frShape hFr.rd hlt
   have k0 := hcl 0 _ rfl
   have k1 := hcl 1 _ rfl
   have k2 := hcl 2 _ rfl
   have k3 := hcl 3 _ rfl
   have k4 := hcl 4 _ rfl
   have k5 := hcl 5 _ rfl
   have k6 := hcl 6 _ rfl
   have k7 := hcl 7 _ rfl
   have hwf := HWF.out _ (List.getElem_mem hkl)
   have HT := Lib.hid (putAll_take hkl)
   clear hcl hrF
   generalize FS[i] = f at *
   simp only [Nat.add_zero] at k0
   obtain ⟨fb, w4, hqb, hqv, hF, hB4⟩ := alloc_stepG wr #[.bool false, .bool false, .bool false, .bool false, .int .u8 0, .int .u8 0, .int .u16 0, .string ⟨#[]⟩] 97
   go_wp2_with (with_reducible refine h_B ?_)
   rw [← hqb, ← hqv]
   have hfb : bb < fb := by rw [hqb]; exact hBb.lt
   have hfw : wr.heap.size ≤ fb := by rw [hqb]; exact Nat.le_refl _
   clear hqb hqv
   refine unhold (wp_box (v := .agg #[.bool f.first, .bool f.last, .bool f.beg, .bool f.fin, .int .u8 (f.ty : Int), .int .u8 (f.track : Int), .int .u16 (f.chan : Int), .string (str f.load)]) (vs := [.bool f.first, .bool f.last, .bool f.beg, .bool f.fin, .int .u8 (f.ty : Int), .int .u8 (f.track : Int), .int .u16 (f.chan : Int), .string (str f.load)]) rfl rfl rfl rfl hF rfl (by kernel_rfl) (by simp) (by simp [Value.oneCell']) #[.bool f.first, .bool f.last, .bool f.beg, .bool f.fin, .int .u8 (f.ty : Int), .int .u8 (f.track : Int), .int .u16 (f.chan : Int), .string (str f.load)] (by simp) ?_)
   intro w5 hF5 hg5 hzz
   clear hzz
   have hBb5 := (hBb.below hB4).grown hg5 (sne (by omega))
   have hO5 := own_stays (own_below hO3 hB4) hg5 (fun g hg e => by injection e with e; have := (hO3.blk_lt hg).2; omega)
   have hK5 : KeepF (fun g => bb ≤ g) w2 w5 := hK3.trans ((KeepF.below (F := fun g => bb ≤ g) hB4).trans (.grown (F := fun g => bb ≤ g) hg5 (fun g hg => .inl (by injection hg with hg; omega))) (fun g hg => .inl hg)) (fun g hg => .inl hg)
   have hsz5 : bb + 1 ≤ w5.heap.size := hBb5.lt
   clear hF hg5 hB4 hO3 hBb hK3 k0 k1 k2 k3 k4 k5 k6 k7 hFr hfw
   clear w4
   have f0 := hF5.c0
   have f1 := hF5.c1
   have f2 := hF5.c2
   have f3 := hF5.c3
   have f4 := hF5.c4
   have f5 := hF5.c5
   have f6 := hF5.c6
   have f7 := hF5.c7
   have hfp := fput_any f w5 hwf.1 (by have := hwf.2; omega)
   unfold frV at hfp
   have hpl := put_len f
   have hml : m ≤ 67125248 := by
    have h1 := HM.out
    have h2 := putAll_len (FS.take i)
    have h3 : (FS.take i).length ≤ i := List.length_take_le _ _
    omega
   go_wp2_with (with_reducible refine h_B ?_)
   refine hfp.mono ?_
   rintro e w6 ⟨A6, c6, rfl, hO6, hB6⟩
   have hBb6 := hBb5.below hB6
   have hO6' := own_below hO5 hB6
   have hK6 : KeepF (fun g => bb ≤ g) w2 w6 := hK5.trans (KeepF.below (F := fun g => bb ≤ g) hB6) (fun g hg => .inl hg)
   have hwr := wbytes_any bplB w6 #[p, .slice A3 m c3] hBb6 rfl p rfl hp A3 A6 (putAll (FS.take i)) f.put rfl hO6' hne3 (by have := hB6.size; omega) hO6.rd (fun e => by have := (hO6.blk_lt e).1; omega) (by omega)
   clear hfp f0 f1 f2 f3 f4 f5 f6 f7 hF5 hO5 hBb5 hK5
   go_wp2_with (with_reducible refine h_B ?_)
   refine hwr.mono ?_
   rintro e w7 ⟨rfl, hW⟩
   clear hwr
   obtain ⟨⟨A7, c7, hBb7, hO7, hne7, hA7⟩, hk7⟩ := hW
   have hK7 : KeepF (fun g => bb ≤ g) w2 w7 := hK6.trans (hk7.weak (G := fun g => bb ≤ g) (fun g hg => by rcases hg with hg | hg; exact .inl (by omega); exact .inl (by have := (hO6'.blk_lt hg).1; omega))) (fun g hg => .inl hg)
   have HM7 : Hid ((putAll (FS.take i) ++ f.put).length = (putAll (FS.take (i + 1))).length) := Lib.hid (by rw [HT.out])
   rw [← HT.out] at hO7 hBb7
   go_wp2_with (with_reducible refine h_B ?_)
   exact ⟨⟨i + 1, _, c7, bPtr bb 0, A7, by omega, by go_num, Lib.hid rfl, hBb7, .inr rfl, hO7, hK7⟩, by simp [RowKit.intOf]; omega⟩
  ·have g1 : ¬ (i : Int) < (N : Int) := by omega
   have HF : Hid (putAll (FS.take i) = putAll FS) := Lib.hid (by rw [List.take_of_length_le (by have := HN.out; omega)])
   have hst := bstr_any (off := 0) (n := m) (c := c3) wr #[p, .slice A3 m c3] hBb A3 (putAll (FS.take i)) rfl hO3
   rw [HF.out] at hst
   clear hrF
   go_wp2_with (with_reducible refine h_B ?_)
   refine hst.mono ?_
   rintro e w4 ⟨rfl, hK4⟩
   have hB4 : Below w.heap.size w w4 := hBr.trans (hK4.toBelow hBr.size (fun g hg => by have := (hO3.blk_lt hg).1; omega))
   go_wp2_with (with_reducible refine h_B ?_)
   go_ret2
   exact ⟨rfl, hB4⟩
end Go.PH
end

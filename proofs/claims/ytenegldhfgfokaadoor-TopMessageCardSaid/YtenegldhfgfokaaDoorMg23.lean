/- Texts laid together: TmLaw. -/
import Derived.Deep.CutRange
import Derived.Deep.CutBlock
import Derived.WalkMore
import Derived.Test.YtenegldhfgfokaaDoorMg05
import Derived.Test.YtenegldhfgfokaaDoorMg07
import Derived.Test.YtenegldhfgfokaaDoorMg08
import Derived.Test.YtenegldhfgfokaaDoorMg10
import Derived.Test.YtenegldhfgfokaaDoorMg11
import Derived.Test.YtenegldhfgfokaaDoorMg20
import Derived.Test.YtenegldhfgfokaaDoorMg22
set_option linter.all false
set_option linter.unusedSimpArgs false
set_option linter.unusedVariables false
section
/- TopMessage: the walk. -/
namespace Go.PH
open Go.RowKit Go.Proofs

theorem own_fed2 {w w' : World} {F F' : Nat → Prop} {base e sz n c : Nat} {A : Option Addr} {xs : List Value} (hO : Own w base e sz A n c xs) (hn : ∀ k, blk A = some k → ¬ F k) (hK : KeepF F w w') (hF' : ∀ k, F' k → F k ∨ w.heap.size ≤ k) : Own w' base e sz A n c xs ∧ ∀ k, blk A = some k → ¬ F' k :=
 ⟨own_keepF hO hK hn, fun k hk h => by
  rcases hF' k h with h | h
  ·exact hn k hk h
  ·have := (hO.blk_lt hk).2; omega⟩
/-- what loop 1 holds: the bytes so far; the gatherer from which a frame is kept -/
def TmB (wc wr : World) (FS : List Fr) (M : Nat) (a : As) (lst : Bool) (pp : Nat) (Fp : Nat → Prop) (i : Nat) (s15 : Value) : Prop := ∃ (na ca : Nat) (Aa : Option Addr) (F : Nat → Prop) (g : GS) (n : Nat), s15 = .slice Aa na ca ∧ Hid (na = (putAll (FS.take i)).length) ∧
 Own wr wc.heap.size 5 1 Aa na ca ((putAll (FS.take i)).map u8v) ∧ Ga wr F pp n g ∧ n ≤ i ∧ Hid (PartI M a lst i g) ∧ (∀ k, F k → Fp k ∨ wc.heap.size ≤ k) ∧ (∀ k, blk Aa = some k → ¬ F k) ∧ KeepF Fp wc wr
/-- what loop 2 holds: the gatherer that gets all -/
def TmF (wd wr : World) (M : Nat) (a : As) (gp : Nat) (F0 : Nat → Prop) (N i : Nat) : Prop := ∃ (F : Nat → Prop) (g : GS) (n : Nat), Ga wr F gp n g ∧ n ≤ i ∧ Hid (i < N → FedI M [a] 0 i g) ∧ g.Inv ∧ (∀ k, F k → F0 k ∨ wd.heap.size ≤ k) ∧ KeepF F0 wd wr
set_option maxRecDepth 20000 in
set_option maxHeartbeats 8000000 in
theorem law_TopMessage (p : Pr) (h : VH) (bd : List UInt8) (ch sz : Nat) (lst : Bool) (w : World) (hT : UTabs w) (ht : TabAt w) (hg0 : 0 < w.heap.size) (hp : PrW w p h) (hbd : bd.length ≤ 140737488351232) (hch : ch < 65536) (hsz : sz < 65536) :
  Calls Tryd.prog 3 #[.agg (prV p h), .string (str bd), .agg #[.int .u16 (ch : Int), .int .u16 (sz : Int), .bool lst]] w fun e w' => e = .returned (.bool true) ∧ Below w.heap.size w w' := by
 have HAW := Lib.hid fun (W : World) (hW : Below w.heap.size w W) => awake_any W (ht.below hW hg0) (by have := hW.size; omega)
 have HTW := Lib.hid hT
 have HPW := Lib.hid hp
 obtain ⟨pb, w1, hpb, hpv, hP, hB1⟩ := alloc_stepV w (prV p h) 29
 obtain ⟨xb, w2, hxb, hxv, hX, hB2⟩ := alloc_stepV w1 #[.int .u16 (ch : Int), .int .u16 (sz : Int), .bool lst] 32
 have e1 : xb = w.heap.size + 1 := by rw [hxb, hpv]; simp
 have hP2 := hP.below hB2
 have hB := hB1.trans (hB2.mono hB1.size)
 have hput := prput_any p h w2 (hp.up hB) (hT.on hB)
 have hpw : w.heap.size ≤ pb := by omega
 have hxp : pb < xb := by omega
 have hbs := str_size bd
 obtain ⟨H, hH⟩ : ∃ H, H = putP p := ⟨_, rfl⟩
 obtain ⟨E, hE⟩ : ∃ E, E = errP p := ⟨_, rfl⟩
 rw [← hH, ← hE] at hput
 have HH := Lib.hid hH
 have HE := Lib.hid hE
 have hhs := str_size H
 have hHl : H.length ≤ 1001000 := by
  rw [hH]
  unfold putP
  split
  ·rename_i ho; exact bytesP_len ho
  ·simp
 unfold prV at *
 clear hT ht hp hP hB1 hB2 hH hE
 go_enter Tryd.func3, Tryd.ntmps3
 go_upto_region 1 with fail
 rw [← e1, ← hpb, ← hpv, ← hxv]
 clear e1 hpb hpv hxb hxv
 have x0 := (hP2).c0
 have x1 := (hP2).c1
 have x2 := (hP2).c2
 have x3 := (hP2).c3
 have x4 := (hP2).c4
 have x5 := (hP2).c5
 have x6 := (hP2).c6
 have x7 := (hP2).c7
 have x8 := (hP2).c8
 go_wp2_with (with_reducible refine h_A ?_)
 refine hput.mono ?_
 rintro e w3 ⟨rfl, hB3⟩
 have hPc := hP2.below hB3
 have hXc := hX.below hB3
 replace hB3 := hB.trans (hB3.mono hB.size)
 clear hput x0 x1 x2 x3 x4 x5 x6 x7 x8 hP2 hX hB
 by_cases hok : okP p = true
 ·have HE2 : Hid (E = 0) := Lib.hid (by rw [HE.out]; unfold errP; rw [if_pos hok])
  obtain rfl := HE2.out
  have HB : Hid (H = bytesP p) := Lib.hid (by rw [HH.out]; unfold putP; rw [if_pos hok])
  have HOK := Lib.hid hok
  clear hok HE HE2
  by_cases q1 : 4000 < H.length
  ·have d1 : (4000 : Int) < ((str H).size : Int) := by omega
   have d1' : decide ((4000 : Int) < ((str H).size : Int)) = true := by simp; omega
   clear q1
   go_wp2_with (with_reducible refine h_A ?_)
   refine (HAW.out _ hB3).mono ?_
   rintro e wZ ⟨rfl, hBZ⟩
   go_wp2_with (with_reducible refine h_A ?_)
   go_ret
   exact ⟨rfl, (hB3).trans (hBZ.mono (Below.size hB3))⟩
  ·have d1 : ¬ (4000 : Int) < ((str H).size : Int) := by omega
   have d1' : decide ((4000 : Int) < ((str H).size : Int)) = false := by simp; omega
   by_cases q2 : 4000 < bd.length
   ·have d2 : (4000 : Int) < ((str bd).size : Int) := by omega
    have d2' : decide ((4000 : Int) < ((str bd).size : Int)) = true := by simp; omega
    clear q1 q2
    go_wp2_with (with_reducible refine h_A ?_)
    refine (HAW.out _ hB3).mono ?_
    rintro e wZ ⟨rfl, hBZ⟩
    go_wp2_with (with_reducible refine h_A ?_)
    go_ret
    exact ⟨rfl, (hB3).trans (hBZ.mono (Below.size hB3))⟩
   ·have d2 : ¬ (4000 : Int) < ((str bd).size : Int) := by omega
    have d2' : decide ((4000 : Int) < ((str bd).size : Int)) = false := by simp; omega
    go_upto_region 4 with fail
    clear d1 d1' d2 d2'
    have hH4 : H.length ≤ 4000 := by omega
    have hb4 : bd.length ≤ 4000 := by omega
    clear q1 q2 hHl hbd
    obtain ⟨sb, w4, hsb, hsv, hSB, hB4⟩ := alloc_stepV w3 #[.int .u8 1, .string ⟨#[120]⟩, .int .u8 2, .string (str H), .int .u8 3, .string (str bd)] 38
    obtain ⟨ab, w5, hab, hav, hAB, hB5⟩ := alloc_stepV w4 #[.int .u16 (ch : Int), .int .u8 1, .slice (some ⟨sb, 0, none⟩) 3 3] 41
    have e2 : ab = w3.heap.size + 1 := by rw [hab, hsv]; simp
    have x0 := hXc.c0
    have hrg : RdG w4 w4.heap.size (some ⟨sb, 0, none⟩) 3 3 (tmA ch H bd).segs := by
     rw [hsb, hsv]
     exact rd_new w3 #[.int .u8 1, .string ⟨#[120]⟩, .int .u8 2, .string (str H), .int .u8 3, .string (str bd)] 38 (0, 0) 3 3 rfl (by omega) (by simp [maxLen])
    have hr5 := (hrg.below hB5).more hB5.size
    have hX5 := (hXc.below hB4).below hB5
    have hP5 := (hPc.below hB4).below hB5
    have hB35 := hB3.trans ((hB4.mono hB3.size).trans (hB5.mono (Nat.le_trans hB3.size hB4.size)))
    obtain ⟨r, hr⟩ : ∃ r, r = sz % 200 := ⟨_, rfl⟩
    have hr2 : r < 200 := by omega
    have d3 : (sz : Int) % 200 = (r : Int) := by omega
    have d3' : (sz : Int).tmod 200 = (r : Int) := by rw [Int.tmod_eq_emod_of_nonneg (by omega)]; exact d3
    obtain ⟨M, hM⟩ : ∃ M, M = 1 + r := ⟨_, rfl⟩
    have d4 : (1 : Int) + (r : Int) = (M : Int) := by omega
    have hM1 : 1 ≤ M := by omega
    have hM2 : M ≤ 4084 := by omega
    have w0 : IntKind.i64.wrap (sz : Int) = (sz : Int) := IntWalk.i64_in _ ⟨by omega, by omega⟩
    clear hr hM hSB hB3 hB4 hB5 hXc hPc hrg
    have HQ := Lib.hid (And.intro hsb (And.intro hsv (And.intro e2 hav)))
    clear hsb hsv hab hav e2
    go_upto_region 5 with fail
    obtain ⟨hsb, hsv, e2, hav⟩ := HQ.out
    rw [← e2, ← hsb, ← hsv, ← hav]
    clear hsb hsv hav e2 x0 HQ
    obtain ⟨hce, hcf⟩ := cutF_tm (ch := ch) hH4 hb4 hM1 hM2
    have hgc := gcut_any (tmA ch H bd) (M : Int) (some ⟨sb, 0, none⟩) 3 3 w5.heap.size w5 hr5 (Nat.le_refl _) (tm_wf hch) (by intro s hs; simp [tmA] at hs; rcases hs with rfl | rfl | rfl <;> simp <;> omega) (by omega)
    rw [hce, hcf] at hgc
    have hN3 := tm_three (ch := ch) (h := H) (b := bd) hM1
    have hNl := cutF_len (M : Int) (tmA ch H bd)
    rw [hcf] at hNl
    have HAS := Lib.hid (tm_ok (ch := ch) hH4 hb4)
    have HFR := Lib.hid (tm_frs hch hH4 hb4 hM1 hM2)
    have HPI := Lib.hid (PartI.start hM1 hM2 (tm_ok (ch := ch) hH4 hb4) lst)
    have HFD := Lib.hid (FedI.start (AS := [tmA ch H bd]) hM1 hM2 (by simpa using tm_ok (ch := ch) hH4 hb4))
    obtain ⟨FS, hFS⟩ : ∃ l, l = cutAs M (tmA ch H bd) := ⟨_, rfl⟩
    rw [← hFS] at hgc hN3 hNl HFR
    obtain ⟨N, hN⟩ : ∃ N, N = FS.length := ⟨_, rfl⟩
    rw [← hN] at hgc hN3 hNl
    replace hgc : Calls Tryd.prog 6 #[.agg #[.int .u16 (ch : Int), .int .u8 1, .slice (some ⟨sb, 0, none⟩) 3 3], .int .i64 (M : Int)] w5 fun e w' => ∃ A2 c2, e = .returned (.tuple #[.slice A2 N c2, .int .i64 0]) ∧ OwnF w' w5.heap.size A2 N c2 FS ∧ Below w5.heap.size w5 w' := hgc
    have HFS := Lib.hid hFS
    have HN := Lib.hid hN
    have hab2 := hAB.lt
    have x0 := hAB.c0
    have x1 := hAB.c1
    have x2 := hAB.c2
    have y1 := hX5.c1
    clear hce hcf hFS hN hr5 hAB
    go_wp2_with (with_reducible refine h_A ?_)
    refine hgc.mono ?_
    rintro e w6 ⟨A2, c2, rfl, hO6, hB6⟩
    have hP6 := hP5.below hB6
    have hX6 := hX5.below hB6
    replace hO6 := hO6.base_le hB35.size
    replace hB6 := hB35.trans (hB6.mono hB35.size)
    have g3 : ¬ (N : Int) < 3 := by omega
    clear hgc x0 x1 x2 y1 hP5 hX5 hB35 d3 d3' d4 w0
    have hgn : ∀ W : World, Calls Tryd.prog 7 #[] W fun e w' => ∃ (F : Nat → Prop) (pp : Nat), e = .returned (.pointer (some ⟨pp, 0, none⟩)) ∧ Ga w' F pp 0 GS.new ∧ (∀ k, F k → W.heap.size ≤ k) ∧ Below W.heap.size W w' := fun W => (gnew_any W).mono (by
     rintro e w' ⟨h1, h2, h3, _⟩
     exact ⟨_, _, h1, h2, (fun k hk => by rcases hk with hk | hk <;> omega), h3⟩)
    have HGN := Lib.hid hgn
    clear hgn
    go_upto_region 8 with fail
    go_wp2_with (with_reducible refine h_A ?_)
    refine (HGN.out _).mono ?_
    rintro e w7 ⟨F0, gp, rfl, hG7, hF0, hB7⟩
    go_wp2_with (with_reducible refine h_A ?_)
    refine (HGN.out _).mono ?_
    rintro e w8 ⟨Fp, pp, rfl, hQ8, hFp, hB8⟩
    have hP8 := (hP6.below hB7).below hB8
    have hX8 := (hX6.below hB7).below hB8
    have hO8 := own_below (own_below hO6 hB7) hB8
    have hG8 := hG7.below hB8
    have hB08 := hB6.trans ((hB7.mono hB6.size).trans (hB8.mono (Nat.le_trans hB6.size hB7.size)))
    have hpl := hP6.lt
    have hxl := hX6.lt
    have hA2l : ∀ g, blk A2 = some g → g < w6.heap.size := fun g hg => (hO6.blk_lt hg).2
    have hF0l := hG7.lt
    have hs7 := hB7.size
    have hs8 := hB8.size
    have hw6 := hB6.size
    have hpF : ¬ Fp pb := fun e => by have := hFp pb e; omega
    have hxF : ¬ Fp xb := fun e => by have := hFp xb e; omega
    have hpF0 : ¬ F0 pb := fun e => by have := hF0 pb e; omega
    have hxF0 : ¬ F0 xb := fun e => by have := hF0 xb e; omega
    have hAF : ∀ g, blk A2 = some g → ¬ Fp g := fun g hg e => by have := hFp g e; have := hA2l g hg; omega
    have hGF : ∀ k, F0 k → ¬ Fp k := fun k hk e => by have := hFp k e; have := hF0l k hk; omega
    have hFw : ∀ k, Fp k → w.heap.size ≤ k := fun k hk => by have := hFp k hk; omega
    have hF0w : ∀ k, F0 k → w.heap.size ≤ k := fun k hk => by have := hF0 k hk; omega
    clear hP6 hX6 hO6 hB6 hG7 hB7 hB8 hpl hxl hF0l hs7 hs8 hFp hF0 hA2l
    have x2 := hX8.c2
    go_upto_if 77 with fail
    go_cut [14] from 76 (fun s14 wx => s14 = .int .i64 ((outT lst N : Nat) : Int) ∧ w8 = wx)
    case first =>
     as_aux_lemma =>
     cases lst
     ·go_wp2_with (with_reducible refine h_A ?_)
      go_meet
      exact ⟨rfl, rfl⟩
     ·go_wp2_with (with_reducible refine h_A ?_)
      go_meet
      exact ⟨by unfold outT; rw [if_pos rfl]; go_num, rfl⟩
    case rest =>
     obtain ⟨rfl, rfl⟩ := hcut
     clear x2
     go_upto_block 0 with fail
     go_cut [15] from 16 (fun s15 wx => TmB w8 wx FS M (tmA ch H bd) lst pp Fp N s15)
     case first =>
      as_aux_lemma =>
      go_wp2_with fail
      go_loopw [16, 15] (fun s16 s15 wr => ∃ i : Nat, i ≤ N ∧ s16 = .int .i64 (i : Int) ∧ TmB w8 wr FS M (tmA ch H bd) lst pp Fp i s15) (fun s16 _ _ => N - (RowKit.intOf s16).toNat)
      case atStart =>
       exact ⟨0, by omega, rfl, 0, 0, none, Fp, GS.new, 0, rfl, Lib.hid (by rw [List.take_zero]; rfl), by rw [List.take_zero]; exact Own.none_ _ _ _ _, hQ8, Nat.le_refl _, Lib.hid HPI.out, fun k hk => .inl hk, (fun k h => by cases h), KeepF.refl _ _⟩
      case round =>
       clear hQ8 hG8 hP8 hX8
       obtain ⟨i, hi, rfl, hS⟩ := hrel
       by_cases hlt : i < N
       ·have g1 : (i : Int) < (N : Int) := by omega
        obtain ⟨na, ca, Aa, F, g, n, rfl, HNA, hOa, hG, hn, HPG, hF, hnF, hK⟩ := hS
        have hOl := own_keepF hO8 hK hAF
        obtain ⟨b, off, hbe, hbB, hkl, hcl⟩ := rec_at frShape hOl.rd hlt
        subst hbe
        have k0 := hcl 0 _ rfl
        have k1 := hcl 1 _ rfl
        have k2 := hcl 2 _ rfl
        have k3 := hcl 3 _ rfl
        have k4 := hcl 4 _ rfl
        have k5 := hcl 5 _ rfl
        have k6 := hcl 6 _ rfl
        have k7 := hcl 7 _ rfl
        simp only [Nat.add_zero] at k0
        have hfo := HFR.out _ (List.getElem_mem hkl)
        have HTK : Hid (putAll (FS.take (i + 1)) = putAll (FS.take i) ++ FS[i].put) := Lib.hid (putAll_take hkl)
        have HST : Hid (i ≠ outT lst N → g.out FS[i] = none ∧ PartI M (tmA ch H bd) lst (i + 1) (g.next FS[i])) := Lib.hid (by
         intro hne
         have e1 := HFS.out
         subst e1
         exact PartI.feed hM1 hM2 hch hH4 hb4 HPG.out hkl (by rw [← HN.out]; exact hne))
        have HSK : Hid (i = outT lst N → PartI M (tmA ch H bd) lst (i + 1) g) := Lib.hid (by
         intro hne
         have e1 := HFS.out
         subst e1
         exact HPG.out.skip (by rw [← HN.out]; exact hne) hkl)
        have hbb : b < w8.heap.size := (hO8.blk_lt (g := b) rfl).2
        have hbF : ¬ Fp b := hAF b rfl
        have HCL : Hid (∀ W, KeepF Fp w8 W → ∀ j u, (frC FS[i])[j]? = some u → W.cell? ⟨b, off + i * 8 + j, none⟩ = some u) := Lib.hid (fun W hW j u hu => by
         have h1 := hcl j u hu
         have h2 := hK.2.1 b hbb hbF
         have h3 := hW.2.1 b hbb hbF
         unfold World.cell? at h1 ⊢
         rw [h3, ← h2]
         exact h1)
        clear hcl
        generalize FS[i] = f at *
        have hfp := fput_any f wr hfo.2.1 (by have := hfo.2.2; omega)
        have he0 : f.err = 0 := by simp [Fr.err, hfo.1]
        rw [he0] at hfp
        unfold frV at hfp
        have hpl := put_len f
        have hna : na ≤ 67125248 := by
         have := putAll_len (FS.take i)
         rw [List.length_take] at this
         rw [HNA.out]; omega
        clear he0
        go_wp2_with (with_reducible refine h_A ?_)
        refine hfp.mono ?_
        rintro e w9 ⟨A6, c6, rfl, hO6, hB9⟩
        clear hfp k0 k1 k2 k3 k4 k5 k6 k7
        have hw8 : w8.heap.size ≤ w9.heap.size := Nat.le_trans hK.1 hB9.size
        go_wp2_with (with_reducible refine h_A ?_)
        refine unhold (wp_app slB rfl rfl rfl rfl (own_below hOa hB9) hO6.rd (map_one _) (by omega) (by simp [maxLen]; omega) hw8 ?_)
        intro A7 c7 wa hO7 hga hA7
        rw [← List.map_append, ← HTK.out] at hO7
        have HNA2 : Hid (na + f.put.length = (putAll (FS.take (i + 1))).length) := Lib.hid (by rw [HTK.out, List.length_append, ← HNA.out])
        have hGa := (hG.below hB9).keepF (KeepF.grown (F := fun k => blk Aa = some k) hga (fun k hk => .inl hk)) (fun k hk e => hnF k e hk)
        have hKa : KeepF Fp w8 wa := (hK.trans (KeepF.below (F := Fp) hB9) (fun k hk => .inl hk)).trans (KeepF.grown (F := fun k => blk Aa = some k) hga (fun k hk => .inl hk)) (fun k hk => .inr ((hOa.blk_lt hk).1))
        have hn7 : ∀ k, blk A7 = some k → ¬ F k := fun k hk e => by
         rcases hA7 with h7 | h7
         ·exact hnF k (h7.symm.trans hk) e
         ·rw [hk] at h7; injection h7 with h7; have := hG.lt k e; have := hB9.size; omega
        clear hO6 hOl hOa hG hK hnF hga hA7 hB9 hw8 HTK HNA
        have hcc := HCL.out wa hKa
        have k0 := hcc 0 _ rfl
        have k1 := hcc 1 _ rfl
        have k2 := hcc 2 _ rfl
        have k3 := hcc 3 _ rfl
        have k4 := hcc 4 _ rfl
        have k5 := hcc 5 _ rfl
        have k6 := hcc 6 _ rfl
        have k7 := hcc 7 _ rfl
        simp only [Nat.add_zero] at k0
        clear hcc
        by_cases hio : i = outT lst N
        ·have HPG2 := Lib.hid (HSK.out hio)
         have d5 : (i : Int) = ((outT lst N : Nat) : Int) := by omega
         clear hio k0 k1 k2 k3 k4 k5 k6 k7
         go_wp2_with (with_reducible refine h_A ?_)
         exact ⟨⟨i + 1, by omega, by go_num, na + f.put.length, c7, A7, F, g, n, rfl, HNA2, hO7, hGa, by omega, HPG2, hF, hn7, hKa⟩, by simp [RowKit.intOf]; omega⟩
        ·obtain ⟨hno, hpn⟩ := HST.out hio
         have HPG2 := Lib.hid hpn
         have d5 : ¬ (i : Int) = ((outT lst N : Nat) : Int) := by omega
         have hfd := gfeed_any F pp n g f wa hGa HPG.out.inv hfo.2.1 (by have := hfo.2.2; omega) (by omega)
         unfold frV at hfd
         clear hpn hio
         go_wp2_with (with_reducible refine h_A ?_)
         refine hfd.mono ?_
         rintro e wb ⟨F', hF', hGb, hKb, hcs⟩
         obtain ⟨-, rfl⟩ : g.out f = none ∧ e = .returned (.tuple #[.agg asZ, .bool false, .int .i64 (g.err f : Int)]) := by
          rcases hcs with hcs | ⟨a, A, c, ho, _⟩
          ·exact hcs
          ·rw [hno] at ho; cases ho
         have HE3 : ∃ er : Nat, er = g.err f := ⟨_, rfl⟩
         obtain ⟨er, her⟩ := HE3
         rw [← her]
         clear hcs hno her hfd k0 k1 k2 k3 k4 k5 k6 k7
         obtain ⟨hO7b, hn7b⟩ := own_fed2 hO7 hn7 hKb hF'
         have hKwb : KeepF Fp w8 wb := hKa.trans hKb hF
         have hFb : ∀ k, F' k → Fp k ∨ w8.heap.size ≤ k := fun k hk => by
          rcases hF' k hk with h1 | h1
          ·exact hF k h1
          ·exact .inr (Nat.le_trans hKa.1 h1)
         unfold asZ
         obtain ⟨zb, wc, hzb, hzv, hZB, hBc⟩ := alloc_stepV wb #[.int .u16 0, .int .u8 0, .slice none 0 0] 41
         have hO7c := own_below hO7b hBc
         have hGc := hGb.below hBc
         have hKc : KeepF Fp w8 wc := hKwb.trans (KeepF.below (F := Fp) hBc) (fun k hk => .inl hk)
         clear hO7b hGb hKwb hKb hKa hO7 hGa hn7 hF' hF hZB hBc
         go_wp2_with (with_reducible refine h_A ?_)
         rw [← hzv]
         clear hzv hzb
         exact ⟨⟨i + 1, by omega, by go_num, na + f.put.length, c7, A7, F', g.next f, n + 1, rfl, HNA2, hO7c, hGc, by omega, HPG2, hFb, hn7b, hKc⟩, by simp [RowKit.intOf]; omega⟩
       ·obtain rfl : i = N := by omega
        go_wp2_with (with_reducible refine h_A ?_)
        go_meet
        exact hS
     case rest =>
      as_aux_lemma =>
      obtain ⟨na, ca, Aa, F, g, n, rfl, HNA, hOa, -, -, -, -, -, hKc⟩ := hcut
      have hTN : FS.take N = FS := List.take_of_length_le (by rw [← HN.out]; exact Nat.le_refl _)
      rw [hTN] at HNA hOa
      have hna : na ≤ 67125248 := by
       have := putAll_len FS
       rw [← HN.out] at this
       rw [HNA.out]; omega
      have hsc := scan_any Aa na ca (putAll FS) wc hOa.rd (by omega)
      rw [scan_putAll (fun f hf => (HFR.out f hf).1) (fun f hf => (HFR.out f hf).2.1)] at hsc
      simp only at hsc
      rw [← HN.out, ← HNA.out] at hsc
      rw [show ((0 : Nat) : Int) = 0 from rfl] at hsc
      have hOk : ∀ k, Fp k → k < w8.heap.size := hQ8.lt
      have hPc := box_keepF hP8 hKc hpF
      have hXc := box_keepF hX8 hKc hxF
      have hGc := hG8.keepF hKc hGF
      have hBc := hB08.trans (hKc.toBelow hB08.size hFw)
      clear hQ8 hP8 hX8 hO8 hG8 hKc hB08 hTN F g n
      go_wp2_with (with_reducible refine h_A ?_)
      refine hsc.mono ?_
      rintro e w9 ⟨A6, c6, rfl, hO6, hB9⟩
      have hP9 := hPc.below hB9
      have hX9 := hXc.below hB9
      have hG9 := hGc.below hB9
      have hBw9 := hBc.trans (hB9.mono hBc.size)
      have hF0c : ∀ k, F0 k → k < wc.heap.size := hGc.lt
      have hA6F : ∀ g, blk A6 = some g → ¬ F0 g := fun g hg e => by have := hF0c g e; have := (hO6.blk_lt hg).1; omega
      clear hsc hPc hXc hGc hBc hB9 hOa hF0c
      go_upto_block 2 with fail
      go_wp2_with fail
      go_loopw [24] (fun s24 wr => ∃ i : Nat, i ≤ N ∧ s24 = .int .i64 (i : Int) ∧ TmF w9 wr M (tmA ch H bd) gp F0 N i) (fun s24 _ => N - (RowKit.intOf s24).toNat)
      case atStart =>
       exact ⟨0, by omega, rfl, F0, GS.new, 0, hG9, Nat.le_refl _, Lib.hid (fun _ => HFD.out), GS.inv_new, fun k hk => .inl hk, KeepF.refl _ _⟩
      case round =>
       clear hG9
       obtain ⟨i, hi, rfl, hS⟩ := hrel
       obtain ⟨F, g, n, hG, hn, HFE, hIn, hF, hK⟩ := hS
       by_cases hlt : i < N
       ·have g1 : (i : Int) < (N : Int) := by omega
        have hOl := own_keepF hO6 hK hA6F
        obtain ⟨b, off, hbe, hbB, hkl, hcl⟩ := rec_at frShape hOl.rd hlt
        subst hbe
        have k0 := hcl 0 _ rfl
        have k1 := hcl 1 _ rfl
        have k2 := hcl 2 _ rfl
        have k3 := hcl 3 _ rfl
        have k4 := hcl 4 _ rfl
        have k5 := hcl 5 _ rfl
        have k6 := hcl 6 _ rfl
        have k7 := hcl 7 _ rfl
        simp only [Nat.add_zero] at k0
        have hfo := HFR.out _ (List.getElem_mem hkl)
        have HST : Hid (g.err FS[i] = 0 ∧ g.out FS[i] = (if i + 1 = N then some (tmA ch H bd) else none) ∧ (i + 1 < N → FedI M [tmA ch H bd] 0 (i + 1) (g.next FS[i])) ∧ (g.next FS[i]).Inv) := Lib.hid (by
         have e0 := HN.out
         have e1 := HFS.out
         subst e1
         rw [e0]
         exact fed_one hM1 hM2 HAS.out (tm_wf hch) hkl (HFE.out hlt))
        clear hcl
        generalize FS[i] = f at *
        have hfd := gfeed_any F gp n g f wr hG hIn hfo.2.1 (by have := hfo.2.2; omega) (by omega)
        unfold frV at hfd
        go_wp2_with (with_reducible refine h_A ?_)
        refine hfd.mono ?_
        rintro e wb ⟨F', hF', hGb, hKb, hcs⟩
        clear hfd k0 k1 k2 k3 k4 k5 k6 k7 hOl
        obtain ⟨he0, hout, hnx, hin2⟩ := HST.out
        have hKwb : KeepF F0 w9 wb := hK.trans hKb hF
        have hFb : ∀ k, F' k → F0 k ∨ w9.heap.size ≤ k := fun k hk => by
         rcases hF' k hk with h1 | h1
         ·exact hF k h1
         ·exact .inr (Nat.le_trans hK.1 h1)
        by_cases hl : i + 1 = N
        ·rw [if_pos hl] at hout
         obtain ⟨A, c, rfl, hOg⟩ : ∃ A c, e = .returned (.tuple #[.agg (asV (tmA ch H bd).chan (tmA ch H bd).track A (tmA ch H bd).segs.length c), .bool true, .int .i64 0]) ∧ OwnG wb 0 A (tmA ch H bd).segs.length c (tmA ch H bd).segs := by
          rcases hcs with ⟨ho, _⟩ | ⟨a, A, c, ho, he, hO, _⟩
          ·rw [hout] at ho; cases ho
          ·rw [hout] at ho
           injection ho with ho
           subst ho
           exact ⟨A, c, he, hO⟩
         rw [show asV (tmA ch H bd).chan (tmA ch H bd).track A (tmA ch H bd).segs.length c = #[.int .u16 (ch : Int), .int .u8 1, .slice A 3 c] from rfl]
         have hOg3 : OwnG wb 0 A 3 c (tmA ch H bd).segs := hOg
         obtain ⟨gb, goff, hge, hgbB, hgl1, hg1⟩ := rec_at sgShape hOg3.rd (show 1 < 3 by omega)
         obtain ⟨gb2, goff2, hge2, hgbB2, hgl2, hg2⟩ := rec_at sgShape hOg3.rd (show 2 < 3 by omega)
         subst hge
         obtain ⟨rfl, rfl⟩ : gb = gb2 ∧ goff = goff2 := by injection hge2 with hge2; injection hge2 with h1 h2 _; exact ⟨h1, h2⟩
         have s1 : wb.cell? ⟨gb, goff + 1 * 2 + 1, none⟩ = some (.string (str H)) := hg1 1 _ rfl
         have s2 : wb.cell? ⟨gb, goff + 2 * 2 + 1, none⟩ = some (.string (str bd)) := hg2 1 _ rfl
         obtain ⟨zb, wz, hzb, hzv, hZ, hBz⟩ := alloc_stepV wb #[.int .u16 (ch : Int), .int .u8 1, .slice (some ⟨gb, goff, none⟩) 3 c] 41
         have hzl : wb.heap.size ≤ zb := by omega
         have hGz := hGb.below hBz
         have hKz : KeepF F0 w9 wz := hKwb.trans (KeepF.below (F := F0) hBz) (fun k hk => .inl hk)
         have s1z := (hBz.cell (p := ⟨gb, goff + 1 * 2 + 1, none⟩) hgbB).trans s1
         have s2z := (hBz.cell (p := ⟨gb, goff + 2 * 2 + 1, none⟩) hgbB).trans s2
         have z0 := hZ.c0
         have z2 := hZ.c2
         have d5 : (i : Int) + 1 = (N : Int) := by omega
         clear hcs hout he0 hnx hGb hKb hKwb hF' hF HST s1 s2 hg1 hg2 hge2 hOg hOg3 hgl1 hgl2
         go_upto_region 36 with fail
         rw [← hzv, ← hzb]
         clear hzv hzb d5
         have hBwz := hBw9.trans (hKz.toBelow hBw9.size hF0w)
         have hgt := prget_any p h w wz HOK.out HPW.out (HTW.out.on hBwz)
         rw [← HB.out] at hgt
         have hPz := box_keepF hP9 hKz hpF0
         have hXz := box_keepF hX9 hKz hxF0
         have hgz : gb < wz.heap.size := Nat.lt_of_lt_of_le hgbB hBz.size
         have s1y : wz.cell? ⟨gb, goff + 2 + 1, none⟩ = some (.string (str H)) := s1z
         have s2y : wz.cell? ⟨gb, goff + 4 + 1, none⟩ = some (.string (str bd)) := s2z
         have s1x : wz.cell? ⟨gb, goff + 3, none⟩ = some (.string (str H)) := s1z
         clear hBz hgbB hgbB2
         go_wp2_with (with_reducible refine h_A ?_)
         refine hgt.mono ?_
         rintro e wy ⟨h2, rfl, hV2, hBy⟩
         clear hgt s1z s1y s1x z0 z2
         unfold prV
         obtain ⟨qb, wx, hqb, hqv, hQ, hBx⟩ := alloc_stepV wy #[.string (str p.key), .bool p.dur, .bool p.red, .string (str p.id), .int .u8 (p.app.kind : Int), .int .u64 (p.app.n : Int), .string (str p.app.s), .slice h2.A1 p.app.keys.length h2.c1, .slice h2.A2 p.app.list.length h2.c2] 29
         have hBzx := hBy.trans (hBx.mono hBy.size)
         have hBwx := hBwz.trans (hBzx.mono hBwz.size)
         have hPx := hPz.below hBzx
         have hXx := hXz.below hBzx
         have hZx := hZ.below hBzx
         have hGx := hGz.below hBzx
         have hKx : KeepF F0 w9 wx := hKz.trans (KeepF.below (F := F0) hBzx) (fun k hk => .inl hk)
         have s2x := (hBzx.cell (p := ⟨gb, goff + 2 * 2 + 1, none⟩) hgz).trans s2z
         have hgx : gb < wx.heap.size := Nat.lt_of_lt_of_le hgz hBzx.size
         have hsm := psame_any p h h2 wx (HPW.out.app.up hBwx) (hV2.up hBx)
         unfold prV at hsm
         clear hBwz hPz hXz hZ hGz hKz s2z s2y hV2 hBy hBx hBzx hgz
         go_upto_region 37 with fail
         rw [← hqv, ← hqb]
         clear hqv hqb
         have x0 := (hPx).c0
         have x1 := (hPx).c1
         have x2 := (hPx).c2
         have x3 := (hPx).c3
         have x4 := (hPx).c4
         have x5 := (hPx).c5
         have x6 := (hPx).c6
         have x7 := (hPx).c7
         have x8 := (hPx).c8
         have y0 := hQ.c0
         have y1 := hQ.c1
         have y2 := hQ.c2
         have y3 := hQ.c3
         have y4 := hQ.c4
         have y5 := hQ.c5
         have y6 := hQ.c6
         have y7 := hQ.c7
         have y8 := hQ.c8
         go_wp2_with (with_reducible refine h_A ?_)
         refine hsm.mono ?_
         rintro e wv ⟨rfl, hBv⟩
         have hXv := hXx.below hBv
         have hZv := hZx.below hBv
         have hGv := hGx.below hBv
         have hKv : KeepF F0 w9 wv := hKx.trans (KeepF.below (F := F0) hBv) (fun k hk => .inl hk)
         have s2v := (hBv.cell (p := ⟨gb, goff + 2 * 2 + 1, none⟩) hgx).trans s2x
         have s2u : wv.cell? ⟨gb, goff + 4 + 1, none⟩ = some (.string (str bd)) := s2v
         have s2t : wv.cell? ⟨gb, goff + 5, none⟩ = some (.string (str bd)) := s2v
         have v0 := hXv.c0
         have z0 := hZv.c0
         have z2 := hZv.c2
         clear hsm hPx hXx hZx hGx hKx s2x hQ x0 x1 x2 x3 x4 x5 x6 x7 x8 y0 y1 y2 y3 y4 y5 y6 y7 y8 hBv hgx
         have HFE2 : Hid (i + 1 < N → FedI M [tmA ch H bd] 0 (i + 1) (g.next f)) := Lib.hid (fun h => by omega)
         go_wp2_with (with_reducible refine h_A ?_)
         exact ⟨⟨i + 1, by omega, by go_num, F', g.next f, n + 1, hGv, by omega, HFE2, hin2, hFb, hKv⟩, by simp [RowKit.intOf]; omega⟩
        ·rw [if_neg hl] at hout
         obtain ⟨-, rfl⟩ : g.out f = none ∧ e = .returned (.tuple #[.agg asZ, .bool false, .int .i64 (g.err f : Int)]) := by
          rcases hcs with hcs | ⟨a, A, c, ho, _⟩
          ·exact hcs
          ·rw [hout] at ho; cases ho
         rw [he0]
         rw [show ((0 : Nat) : Int) = 0 from rfl]
         unfold asZ
         obtain ⟨zb, wz, hzb, hzv, hZB, hBz⟩ := alloc_stepV wb #[.int .u16 0, .int .u8 0, .slice none 0 0] 41
         have hGz := hGb.below hBz
         have hKz : KeepF F0 w9 wz := hKwb.trans (KeepF.below (F := F0) hBz) (fun k hk => .inl hk)
         have HFE2 : Hid (i + 1 < N → FedI M [tmA ch H bd] 0 (i + 1) (g.next f)) := Lib.hid hnx
         have d5 : ¬ (i : Int) + 1 = (N : Int) := by omega
         clear hcs hout he0 hnx hGb hKb hKwb hF' hF hZB hBz HST hl
         go_wp2_with (with_reducible refine h_A ?_)
         rw [← hzv]
         clear hzv hzb
         exact ⟨⟨i + 1, by omega, by go_num, F', g.next f, n + 1, hGz, by omega, HFE2, hin2, hFb, hKz⟩, by simp [RowKit.intOf]; omega⟩
       ·obtain rfl : i = N := by omega
        have hBe := hBw9.trans (hK.toBelow hBw9.size hF0w)
        clear hK hG HFE hF
        go_wp2_with (with_reducible refine h_A ?_)
        refine (HAW.out _ hBe).mono ?_
        rintro e wZ ⟨rfl, hBZ⟩
        go_wp2_with (with_reducible refine h_A ?_)
        go_ret
        exact ⟨rfl, (hBe).trans (hBZ.mono (Below.size hBe))⟩
 ·have HE2 : Hid (E = 90) := Lib.hid (by rw [HE.out]; unfold errP; rw [if_neg hok])
  obtain rfl := HE2.out
  clear hok HE HE2
  go_wp2_with (with_reducible refine h_A ?_)
  refine (HAW.out _ hB3).mono ?_
  rintro e wZ ⟨rfl, hBZ⟩
  go_wp2_with (with_reducible refine h_A ?_)
  go_ret
  exact ⟨rfl, (hB3).trans (hBZ.mono (Below.size hB3))⟩
end Go.PH
end

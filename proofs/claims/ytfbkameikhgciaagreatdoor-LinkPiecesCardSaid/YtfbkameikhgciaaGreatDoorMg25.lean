/- Texts laid together: LkMem3, LkFrames. -/
import Derived.Test.YtfbkameikhgciaaGreatDoorMg23
import Derived.Test.YtfbkameikhgciaaGreatDoorMg24
set_option linter.all false
set_option linter.unusedSimpArgs false
set_option linter.unusedVariables false
set_option maxRecDepth 20000
set_option maxHeartbeats 8000000
section
namespace Go.PH
open Go.RowKit Go.Proofs
def LS.goes (ctl : LS → As → LS) : LS → List Fr → LS
 | L, [] => L
 | L, f :: l => if L.st = 5 then L else LS.goes ctl (L.take ctl f) l
def LS.frames (ctl : LS → As → LS) (L : LS) (l : List Fr) (e : Nat) : LS :=
 if e ≠ 0 ∧ (L.goes ctl l).st ≠ 5 then (L.goes ctl l).close 501 yW else L.goes ctl l
theorem LS.goes_closed {ctl : LS → As → LS} {L : LS} (h : L.st = 5) : ∀ l, L.goes ctl l = L
 | [] => rfl
 | _ :: _ => by unfold LS.goes; rw [if_pos h]
theorem LkM.setRest {w : World} {B : Nat} {U T : Nat → Prop} {lb n : Nat} {RA : Option Addr} {rn rc : Nat} {L : LS} (h : LkM w B U T lb n RA rn rc L) (A : Option Addr) (m c : Nat) : LkM (w.setCell ⟨lb, 1, none⟩ (.slice A m c)) B U T lb n A m c L := by
 have hg := yv w lb 1 (.slice A m c)
 have hk : KeepF (fun k => k = lb) w (w.setCell ⟨lb, 1, none⟩ (.slice A m c)) := .grown hg (fun g e => .inl (by injection e with e; exact e.symm))
 obtain ⟨gp, p, SA, sc, TT, tc, th, F, h1, h2, h3, h4, h5, h6, h7, h8, h9, h10, h11⟩ := h.ex
 exact ⟨⟨gp, p, SA, sc, TT, tc, th, F, xt h1 _, h2, zq h3 hk (fun b e => (h9 b e).2.1), zq h4 hk (fun b e => (h10 b e).2.1), h5, fun x hx => ⟨zq (h6 x hx).1 hk (fun b e e2 => h.ut b ((h6 x hx).2 b e) (e2 ▸ h.lb)), (h6 x hx).2⟩,
   h7.keep (fun k hF => hk.2.1 k (h7.lt k hF) (fun e => h11 (e ▸ hF))) hk.1, h8, h9, h10, h11⟩, h.lb, Nat.le_trans h.size hk.1, fun b hb => ⟨(h.uB b hb).1, Nat.lt_of_lt_of_le (h.uB b hb).2 hk.1⟩, fun b hb => Nat.lt_of_lt_of_le (h.tB b hb) hk.1, h.ut⟩
theorem LkM.thaw {w : World} {B : Nat} {U T : Nat → Prop} {lb n : Nat} {RA : Option Addr} {rn rc : Nat} {L : LS} (h : LkM w B U T lb n RA rn rc L) (j : Nat) : w.frozen? ⟨lb, j, none⟩ = false := by
 obtain ⟨gp, p, SA, sc, TT, tc, th, F, h1, _⟩ := h.ex
 exact h1.thaw j
theorem xn {w w' : World} {B size n c : Nat} {A : Option Addr} {xs : List Value} {F : Nat → Prop} (h : Rd w B size A n c xs) (hk : KeepF F w w') (hB : B ≤ w.heap.size) (hF : ∀ g, blk A = some g → ¬ F g) : Rd w' B size A n c xs :=
 ⟨h.len, h.cap, h.max, fun hn => by
  obtain ⟨b, off, e, hb, hx⟩ := h.at_ hn
  refine ⟨b, off, e, hb, fun j u hj => ?_⟩
  have h0 := hx j u hj
  have h1 := hk.2.1 b (by omega) (hF b (by rw [e]; rfl))
  unfold World.cell? at h0 ⊢
  rw [h1]
  exact h0⟩
end Go.PH
end
section
namespace Go.PH
open Go.RowKit Go.Proofs
theorem LS.goes_cons (ctl : LS → As → LS) (L : LS) (f : Fr) (l : List Fr) (h : ¬ L.st = 5) : L.goes ctl (f :: l) = (L.take ctl f).goes ctl l := by
 rw [LS.goes, if_neg h]
theorem LS.goes_append (ctl : LS → As → LS) : ∀ (l m : List Fr) (L : LS), L.goes ctl (l ++ m) = (L.goes ctl l).goes ctl m
 | [], _, _ => rfl
 | f :: l, m, L => by
  by_cases h : L.st = 5
  ·rw [LS.goes_closed h, LS.goes_closed h, LS.goes_closed h]
  ·rw [List.cons_append, LS.goes_cons ctl L f _ h, LS.goes_cons ctl L f _ h, LS.goes_append ctl l m]
theorem LS.goes_snoc {ctl : LS → As → LS} {L : LS} {l : List Fr} {i : Nat} (hi : i < l.length) (h : (L.goes ctl (l.take i)).st ≠ 5) : L.goes ctl (l.take (i + 1)) = (L.goes ctl (l.take i)).take ctl l[i] := by
 rw [List.take_succ_eq_append_getElem hi, LS.goes_append, LS.goes_cons ctl _ _ _ h]
 rfl
theorem LS.goes_stop {ctl : LS → As → LS} {L : LS} {l : List Fr} {i : Nat} (h : (L.goes ctl (l.take i)).st = 5) : L.goes ctl l = L.goes ctl (l.take i) := by
 have := LS.goes_append ctl (l.take i) (l.drop i) L
 rw [List.take_append_drop, LS.goes_closed h] at this
 exact this
theorem K8 {w : World} {B rb off n c u : Nat} {b : List UInt8} (h : RdB w B (some ⟨rb, off, none⟩) n c b) (hu : u ≤ n) : RdB w B (some ⟨rb, off + u, none⟩) (n - u) (n - u) (b.drop u) :=
 ⟨by have := h.length; simp; omega, Nat.le_refl _, by have := h.cap; have := h.max; omega, fun hn => by
  obtain ⟨b1, o1, e, hb, hx⟩ := Rd.at_ h (by omega)
  injection e with e
  injection e with e1 e2 _
  subst e1 e2
  refine ⟨rb, off + u, rfl, hb, fun j v hj => ?_⟩
  rw [List.map_drop, List.getElem?_drop] at hj
  have := hx (u + j) v hj
  rwa [← Nat.add_assoc] at this⟩
theorem LStep.mono {w w' : World} {B : Nat} {U T : Nat → Prop} {lb n m : Nat} {RA : Option Addr} {rn rc : Nat} {L : LS} (h : LStep w B U T lb n RA rn rc L w') (hn : n ≤ m) : LStep w B U T lb m RA rn rc L w' := by
 obtain ⟨U', T', h1, h2⟩ := h
 exact ⟨U', T', h1.mono hn, h2⟩
theorem Yh (ctl : LS → As → LS) (P : Nat → LS → Prop) (b : List UInt8) {w : World} {B : Nat} {U T : Nat → Prop} {lb n : Nat} {RA : Option Addr} {rn rc : Nat} {L : LS} (h : LkM w B U T lb n RA rn rc L) (hr : RdB w w.heap.size RA rn rc b) (hrU : ∀ g, blk RA = some g → ¬ U g) (hn : rn ≤ 1000000000)
  (hu : (zk b).2.1 ≤ rn) (hnn : n + (zk b).1.length < 1000000000) (he : MEnv w) (hgl : 0 < B)
  (hP : ∀ k M, P k M → M.g.Inv ∧ M.sz ≤ 1000000 ∧ M.ch < 65536 ∧ M.sent.length ≤ 10000000000 ∧ M.told.length ≤ 1000000000)
  (hPs : ∀ k M f, k < (zk b).1.length → f ∈ (zk b).1 → P k M → P (k + 1) (M.take ctl f)) (hP0 : P 0 L) (hfw : ∀ f ∈ (zk b).1, f.wf ∧ f.load.length ≤ 1000000)
  (hctl : ∀ k M f a A c W U' T' m RA' rn' rc', f ∈ (zk b).1 → P k M → M.g.out f = some a → a.chan = 0 → LkM W B U' T' lb m RA' rn' rc' { M with g := M.g.next f } → OwnG W 0 A a.segs.length c a.segs → (∀ b, blk A = some b → T' b) → MEnv W → Below B w W →
   Calls Tryz.prog 56 #[.pointer (some ⟨lb, 0, none⟩), .agg (asV a.chan a.track A a.segs.length c)] W fun e w' => e = .returned (.tuple #[]) ∧ LStep W B U' T' lb m RA' rn' rc' (ctl { M with g := M.g.next f } a) w') :
  Calls Tryz.prog 26 #[.pointer (some ⟨lb, 0, none⟩)] w fun e w' => e = .returned (.tuple #[]) ∧ ∃ RA', LStep w B U T lb (n + (zk b).1.length) RA' (rn - (zk b).2.1) (rn - (zk b).2.1) (L.frames ctl (zk b).1 (zk b).2.2) w' ∧ RdB w' w'.heap.size RA' (rn - (zk b).2.1) (rn - (zk b).2.1) (b.drop (zk b).2.1) ∧ (blk RA' = blk RA ∨ blk RA' = none) := by
 have hs := Y7 RA rn rc b w hr hn
 have x1 := h.c1
 have hrc := hr.cap
 have hrm := hr.max
 have hnm : rn ≤ maxLen := by omega
 generalize (zk b).1 = FS at *
 generalize (zk b).2.1 = u at *
 generalize (zk b).2.2 = er at *
 obtain ⟨N, hN⟩ : ∃ N, N = FS.length := ⟨_, rfl⟩
 rw [← hN] at hs hnn ⊢
 have HN := Lib.hid hN
 clear hN
 have hgU : ¬ U 0 := fun e => by have := (h.uB _ e).1; omega
 go_enter Tryz.func26, Tryz.ntmps26
 go_wp2_with (with_reducible refine h_A ?_)
 refine hs.mono ?_
 rintro e w1 ⟨A1, c1, rfl, hO1, hB1⟩
 have h1 := h.below hB1
 have hr1 : RdB w1.drew w.heap.size RA rn rc b := hr.below (za hB1 1)
 have k1 : w1.drew.cell? ⟨lb, 1, none⟩ = some (.slice RA rn rc) := h1.c1
 have hfz : w1.drew.frozen? ⟨lb, 1, none⟩ = false := h1.thaw 1
 have hm1 := h1.setRest
 have hwl := h.blt
 have hks : ∀ (A : Option Addr) (m c : Nat), KeepF (fun k => k = lb) w1 (w1.setCell ⟨lb, 1, none⟩ (.slice A m c)).drew := fun A m c => (KeepF.grown (F := fun k => k = lb) (yv w1 lb 1 (.slice A m c)) (fun g e => .inl (by injection e with e; exact e.symm))).trans (KeepF.below (F := fun k => k = lb) (za (Below.refl _ _) 1)) (fun g e => .inl e)
 have hr0 := hr
 clear hs x1 hr
 go_upto_region 1 with fail
 go_cut [2, 4] from 16 to 34 (fun s2 s4 wx => s2 = .slice A1 N c1 ∧ s4 = .int .i64 (er : Int) ∧ ∃ RA', LkM wx B U T lb n RA' (rn - u) (rn - u) L ∧ KeepF (fun k => k = lb) w1 wx ∧ RdB wx wx.heap.size RA' (rn - u) (rn - u) (b.drop u) ∧ (blk RA' = blk RA ∨ blk RA' = none))
 case first =>
  by_cases h0 : u < rn
  ·obtain ⟨rb, off, rfl⟩ : ∃ rb off, RA = some ⟨rb, off, none⟩ := by
    obtain ⟨b1, o1, e1, _⟩ := hr1.at_ (by omega)
    exact ⟨b1, o1, e1⟩
   have hr2 := K8 (u := u) (hr0.below hB1) (by omega)
   go_region
   all_goals
    go_wp2_with fail
    go_meet
   all_goals exact ⟨rfl, rfl, some ⟨rb, off + u, none⟩, (hm1 _ _ _).below (za (Below.refl _ _) 1), hks _ _ _, Rd.more (xn hr2 (hks _ _ _) hB1.size (fun g e e2 => hrU g e (e2 ▸ h.lb))) (Nat.le_trans hB1.size (hks _ _ _).1), .inl rfl⟩
  ·obtain rfl : u = rn := by omega
   go_region
   all_goals
    go_wp2_with fail
    go_meet
   all_goals
    simp only [Nat.sub_self]
    exact ⟨trivial, trivial, RA, (hm1 _ _ _).below (za (Below.refl _ _) 1), hks _ _ _, by rw [List.drop_eq_nil_of_le (by have := hr0.length; omega)]; exact Rd.nil _ _ _ _ (by simp [maxLen]) _, .inl rfl⟩
 case rest =>
  obtain ⟨rfl, rfl, RA', hM, hK1, hR1, hbl⟩ := hcut
  have hz1 := hB1.size
  have hlw1 := h1.blt
  have hUw : ∀ k, U k → k < w.heap.size := fun k e => (h.uB k e).2
  have hUB : ∀ k, U k → B ≤ k := fun k e => (h.uB k e).1
  have hBs := h.size
  have hK2 : KeepF U w wc := (KeepF.below hB1).trans (hK1.weak (G := U) (fun g e => .inl (e ▸ h.lb))) (fun g e => .inl e)
  have hO2 : OwnF wc w.heap.size A1 N c1 FS := zq hO1 hK1 (fun g e e2 => by have := (hO1.blk_lt e).1; omega)
  clear hks hm1 hfz k1 hr1 hr0 hK1 hO1 hB1
  have hzw := hK2.1
  have hFb : ∀ g, blk RA' = some g → ¬ U g := fun g e => by rcases hbl with e2 | e2; exact hrU g (e2 ▸ e); rw [e2] at e; cases e
  clear hwl
  go_wp2_with (with_reducible refine h_B ?_)
  go_loopw [37] (fun s wr => ∃ i, i ≤ N ∧ s = .int .i64 (i : Int) ∧ LStep wc B U T lb (n + i) RA' (rn - u) (rn - u) (L.goes ctl (FS.take i)) wr ∧ P i (L.goes ctl (FS.take i))) (fun s _ => N - (RowKit.intOf s).toNat)
  case atStart => exact ⟨0, by omega, rfl, LStep.refl hM, hP0⟩
  case round =>
   obtain ⟨i, hi, rfl, hst, hPi⟩ := hrel
   obtain ⟨M, hMd⟩ : ∃ M, M = L.goes ctl (FS.take i) := ⟨_, rfl⟩
   rw [← hMd] at hst hPi
   have HM := Lib.hid hMd
   clear hMd
   have hst0 := hst
   obtain ⟨U', T', hM', hk', hU', hT'⟩ := hst
   have c0 := hM'.c0
   by_cases hlt : i < N
   ·have g1 : (i : Int) < (N : Int) := by omega
    have hFr : OwnF wr w.heap.size A1 N c1 FS := zq hO2 hk' (fun g e e2 => by have := (hO2.blk_lt e).1; have := hUw g e2; omega)
    obtain ⟨b1, off, rfl, hbB, hkl, hcl⟩ := xW jG hFr.rd hlt
    have k0 := hcl 0 _ rfl
    have k1 := hcl 1 _ rfl
    have k2 := hcl 2 _ rfl
    have k3 := hcl 3 _ rfl
    have k4 := hcl 4 _ rfl
    have k5 := hcl 5 _ rfl
    have k6 := hcl 6 _ rfl
    have k7 := hcl 7 _ rfl
    have hwf := hfw _ (List.getElem_mem hkl)
    have HSN := fun h => Lib.hid (LS.goes_snoc (ctl := ctl) (L := L) hkl h)
    have HST := fun h => Lib.hid (LS.goes_stop (ctl := ctl) (L := L) (l := FS) (i := i) h)
    have hmem := List.getElem_mem hkl
    clear hcl
    generalize FS[i] = f at *
    simp only [Nat.add_zero] at k0
    obtain ⟨fb, w4, hqb, hqv, hF, hB4⟩ := zr wr #[.bool false, .bool false, .bool false, .bool false, .int .u8 0, .int .u8 0, .int .u16 0, .string ⟨#[]⟩] 97
    go_wp2_with (with_reducible refine h_B ?_)
    rw [← hqb, ← hqv]
    have hfb : wr.heap.size ≤ fb := by rw [hqb]; exact Nat.le_refl _
    clear hqb hqv
    refine zc (zm (v := .agg #[.bool f.first, .bool f.last, .bool f.beg, .bool f.fin, .int .u8 (f.ty : Int), .int .u8 (f.track : Int), .int .u16 (f.chan : Int), .string (str f.load)]) (vs := [.bool f.first, .bool f.last, .bool f.beg, .bool f.fin, .int .u8 (f.ty : Int), .int .u8 (f.track : Int), .int .u16 (f.chan : Int), .string (str f.load)]) rfl rfl rfl rfl hF rfl (by kernel_rfl) (by simp) (by simp [Value.oneCell']) #[.bool f.first, .bool f.last, .bool f.beg, .bool f.fin, .int .u8 (f.ty : Int), .int .u8 (f.track : Int), .int .u16 (f.chan : Int), .string (str f.load)] (by simp) ?_)
    intro w5 hF5 hg5 hzz
    clear hzz
    have hB5 : Below wr.heap.size wr w5 := hB4.grown hg5 hB4.size (fun g e => by injection e with e; omega)
    have hM5 := hM'.below hB5
    have hk5 : KeepF U wc w5 := hk'.trans (KeepF.below (F := U) hB5) (fun g e => .inl e)
    have he5 : MEnv w5 := (he.onK hK2 hgU).onK hk5 hgU
    have hst5 : LStep wc B U T lb (n + i) RA' (rn - u) (rn - u) M w5 := LStep.of hk5 hU' hT' (LStep.refl hM5)
    clear hF hg5 hB4 c0 k0 k1 k2 k3 k4 k5 k6 k7 hFr hst0 hM' w4
    have c0 := hM5.c0
    by_cases h5 : M.st = 5
    ·have h6 : ((M.st : Nat) : Int) = 5 := by omega
     have HG := Lib.hid (show L.goes ctl FS = M from (HST (by rw [← HM.out]; exact h5)).out.trans HM.out.symm)
     rw [h6] at c0
     clear hctl h6 hPs
     go_wp2_with (with_reducible refine h_B ?_)
     refine bodyPost_ret (results_none rfl _ _ _) rfl ?_
     have hFS : L.frames ctl FS er = M := by unfold LS.frames; rw [HG.out, if_neg (fun e => e.2 h5)]
     exact ⟨rfl, RA', by rw [hFS]; exact (LStep.of hK2 (fun _ e => .inl e) (fun _ e => .inl e) hst5).mono (by omega), Rd.more (xn hR1 hk5 (Nat.le_refl _) hFb) hk5.1, (by first | exact hbl | simpa using hbl)⟩
    ·have h6 : ¬ ((M.st : Nat) : Int) = 5 := by omega
     have HG := Lib.hid (show L.goes ctl (FS.take (i + 1)) = M.take ctl f from (HSN (by rw [← HM.out]; exact h5)).out.trans (by rw [← HM.out]))
     obtain ⟨p1, p2, p3, p4, p5⟩ := hP _ _ hPi
     have htk := Qm ctl f hM5 p1 hwf.1 hwf.2 (by omega) he5 hgl p2 p3 p4 p5 (fun a A c W U1 T1 e1 e2 e3 e4 e5 e6 e7 => hctl i M f a A c W U1 T1 _ _ _ _ hmem hPi e1 e2 e3 e4 e5 e6 (((hK2.toBelow hBs hUB).trans (hk5.toBelow (Nat.le_trans hBs hK2.1) hUB)).trans e7))
     unfold frV at htk
     have f0 := hF5.c0
     have f1 := hF5.c1
     have f2 := hF5.c2
     have f3 := hF5.c3
     have f4 := hF5.c4
     have f5 := hF5.c5
     have f6 := hF5.c6
     have f7 := hF5.c7
     clear hctl HSN HST
     go_wp2_with (with_reducible refine h_B ?_)
     refine htk.mono ?_
     rintro e w6 ⟨rfl, hst6⟩
     go_wp2_with (with_reducible refine h_B ?_)
     refine ⟨⟨i + 1, by omega, by go_num, ?_, ?_⟩, by simp [RowKit.intOf]; omega⟩
     ·rw [HG.out]; exact LStep.of hk5 hU' hT' hst6
     ·rw [HG.out]; exact hPs _ _ _ (by rw [← HN.out]; exact hlt) hmem hPi
   ·obtain rfl : i = N := by omega
    have HG := Lib.hid (show L.goes ctl FS = M by rw [HM.out, HN.out, List.take_length])
    obtain ⟨p1, p2, p3, p4, p5⟩ := hP _ _ hPi
    have her0 : ¬ (i : Int) < (i : Int) := by omega
    have heR : MEnv wr := (he.onK hK2 hgU).onK hk' hgU
    clear hctl hPs
    by_cases h0 : er = 0
    ·subst h0
     go_wp2_with (with_reducible refine h_B ?_)
     go_end0
     have hFS : L.frames ctl FS 0 = M := by unfold LS.frames; rw [HG.out, if_neg (fun e => e.1 rfl)]
     exact ⟨rfl, RA', by rw [hFS]; exact LStep.of hK2 (fun _ e => .inl e) (fun _ e => .inl e) hst0, Rd.more (xn hR1 hk' (Nat.le_refl _) hFb) hk'.1, (by first | exact hbl | simpa using hbl)⟩
    ·have h1 : ¬ (er : Int) = 0 := by omega
     by_cases h5 : M.st = 5
     ·have h6 : ((M.st : Nat) : Int) = 5 := by omega
      rw [h6] at c0
      clear h6
      go_wp2_with (with_reducible refine h_B ?_)
      go_end0
      have hFS : L.frames ctl FS er = M := by unfold LS.frames; rw [HG.out, if_neg (fun e => e.2 h5)]
      exact ⟨rfl, RA', by rw [hFS]; exact LStep.of hK2 (fun _ e => .inl e) (fun _ e => .inl e) hst0, Rd.more (xn hR1 hk' (Nat.le_refl _) hFb) hk'.1, (by first | exact hbl | simpa using hbl)⟩
     ·have h6 : ¬ ((M.st : Nat) : Int) = 5 := by omega
      have hen := qB 501 yW (by decide) (by decide) hM' heR p2 p4
      rw [show ((501 : Nat) : Int) = 501 from rfl, show str yW = (⟨#[102, 114, 97, 109, 101]⟩ : ByteArray) from rfl] at hen
      have h7 : ((er : Int) != 0) = true := by simp; omega
      have h8 : (((M.st : Nat) : Int) != 5) = true := by simp; omega
      go_wp2_with (with_reducible refine h_B ?_)
      refine hen.mono ?_
      rintro e w9 ⟨rfl, hst9⟩
      clear hen
      go_wp2_with (with_reducible refine h_B ?_)
      go_end0
      have hFS : L.frames ctl FS er = M.close 501 yW := by unfold LS.frames; rw [HG.out, if_pos ⟨h0, h5⟩]
      have hst10 := LStep.of hk' hU' hT' hst9
      have hk10 := hst10.choose_spec.choose_spec.2.1
      exact ⟨rfl, RA', by rw [hFS]; exact LStep.of hK2 (fun _ e => .inl e) (fun _ e => .inl e) hst10, Rd.more (xn hR1 hk10 (Nat.le_refl _) hFb) hk10.1, (by first | exact hbl | simpa using hbl)⟩
end Go.PH
end

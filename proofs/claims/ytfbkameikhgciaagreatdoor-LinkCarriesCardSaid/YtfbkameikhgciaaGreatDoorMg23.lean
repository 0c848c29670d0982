/- Texts laid together: LkFrames, LkFeed. -/
import Derived.Test.YtfbkameikhgciaaGreatDoorMg01
import Derived.Test.YtfbkameikhgciaaGreatDoorMg09
import Derived.Test.YtfbkameikhgciaaGreatDoorMg20
import Derived.Test.YtfbkameikhgciaaGreatDoorMg22
set_option linter.all false
set_option linter.unusedSimpArgs false
set_option linter.unusedVariables false
section
/- The walk of link's frames. -/
namespace Go.PH
open Go.RowKit Go.Proofs

theorem LS.goes_cons (ctl : LS → As → LS) (L : LS) (f : Fr) (l : List Fr) (h : ¬ L.st = 5) : L.goes ctl (f :: l) = (L.take ctl f).goes ctl l := by
 rw [LS.goes, if_neg h]
theorem LS.goes_append (ctl : LS → As → LS) : ∀ (l m : List Fr) (L : LS), L.goes ctl (l ++ m) = (L.goes ctl l).goes ctl m
 | [], _, _ => rfl
 | f :: l, m, L => by
  by_cases h : L.st = 5
  ·rw [LS.goes_closed h, LS.goes_closed h, LS.goes_closed h]
  ·rw [List.cons_append, LS.goes_cons ctl L f _ h, LS.goes_cons ctl L f _ h, LS.goes_append ctl l m]
theorem LS.goes_snoc {ctl : LS → As → LS} {L : LS} {l : List Fr} {i : Nat} (hi : i < l.length) (h : (L.goes ctl (l.take i)).st ≠ 5) : L.goes ctl (l.take (i + 1)) = (L.goes ctl (l.take i)).take ctl l[i] := by
 rw [List.take_succ_eq_append_getElem hi, LS.goes_append, LS.goes_cons ctl _ _ _ h]
 rfl
theorem LS.goes_stop {ctl : LS → As → LS} {L : LS} {l : List Fr} {i : Nat} (h : (L.goes ctl (l.take i)).st = 5) : L.goes ctl l = L.goes ctl (l.take i) := by
 have := LS.goes_append ctl (l.take i) (l.drop i) L
 rw [List.take_append_drop, LS.goes_closed h] at this
 exact this
theorem rd_drop {w : World} {B rb off n c u : Nat} {b : List UInt8} (h : RdB w B (some ⟨rb, off, none⟩) n c b) (hu : u ≤ n) : RdB w B (some ⟨rb, off + u, none⟩) (n - u) (n - u) (b.drop u) :=
 ⟨by have := h.length; simp; omega, Nat.le_refl _, by have := h.cap; have := h.max; omega, fun hn => by
  obtain ⟨b1, o1, e, hb, hx⟩ := Rd.at_ h (by omega)
  injection e with e
  injection e with e1 e2 _
  subst e1 e2
  refine ⟨rb, off + u, rfl, hb, fun j v hj => ?_⟩
  rw [List.map_drop, List.getElem?_drop] at hj
  have := hx (u + j) v hj
  rwa [← Nat.add_assoc] at this⟩
theorem LStep.mono {w w' : World} {B : Nat} {U T : Nat → Prop} {lb n m : Nat} {RA : Option Addr} {rn rc : Nat} {L : LS} (h : LStep w B U T lb n RA rn rc L w') (hn : n ≤ m) : LStep w B U T lb m RA rn rc L w' := by
 obtain ⟨U', T', h1, h2⟩ := h
 exact ⟨U', T', h1.mono hn, h2⟩
set_option maxRecDepth 20000 in
set_option maxHeartbeats 4000000 in
theorem lframes_any (ctl : LS → As → LS) (P : Nat → LS → Prop) (b : List UInt8) {w : World} {B : Nat} {U T : Nat → Prop} {lb n : Nat} {RA : Option Addr} {rn rc : Nat} {L : LS} (h : LkM w B U T lb n RA rn rc L) (hr : RdB w w.heap.size RA rn rc b) (hrU : ∀ g, blk RA = some g → ¬ U g) (hn : rn ≤ 1000000000)
  (hu : (frScan b).2.1 ≤ rn) (hnn : n + (frScan b).1.length < 1000000000) (he : MEnv w) (hgl : 0 < B)
  (hP : ∀ k M, P k M → M.g.Inv ∧ M.sz ≤ 1000000 ∧ M.ch < 65536 ∧ M.sent.length ≤ 10000000000 ∧ M.told.length ≤ 1000000000)
  (hPs : ∀ k M f, k < (frScan b).1.length → f ∈ (frScan b).1 → P k M → P (k + 1) (M.take ctl f)) (hP0 : P 0 L) (hfw : ∀ f ∈ (frScan b).1, f.wf ∧ f.load.length ≤ 1000000)
  (hctl : ∀ k M f a A c W U' T' m RA' rn' rc', f ∈ (frScan b).1 → P k M → M.g.out f = some a → a.chan = 0 → LkM W B U' T' lb m RA' rn' rc' { M with g := M.g.next f } → OwnG W 0 A a.segs.length c a.segs → (∀ b, blk A = some b → T' b) → MEnv W →
   Calls Tryz.prog 56 #[.pointer (some ⟨lb, 0, none⟩), .agg (asV a.chan a.track A a.segs.length c)] W fun e w' => e = .returned (.tuple #[]) ∧ LStep W B U' T' lb m RA' rn' rc' (ctl { M with g := M.g.next f } a) w') :
  Calls Tryz.prog 26 #[.pointer (some ⟨lb, 0, none⟩)] w fun e w' => e = .returned (.tuple #[]) ∧ ∃ RA', LStep w B U T lb (n + (frScan b).1.length) RA' (rn - (frScan b).2.1) (rn - (frScan b).2.1) (L.frames ctl (frScan b).1 (frScan b).2.2) w' ∧ RdB w' w'.heap.size RA' (rn - (frScan b).2.1) (rn - (frScan b).2.1) (b.drop (frScan b).2.1) ∧ (blk RA' = blk RA ∨ blk RA' = none) := by
 have hs := scan_any RA rn rc b w hr hn
 have x1 := h.c1
 have hrc := hr.cap
 have hrm := hr.max
 have hnm : rn ≤ maxLen := by omega
 generalize (frScan b).1 = FS at *
 generalize (frScan b).2.1 = u at *
 generalize (frScan b).2.2 = er at *
 obtain ⟨N, hN⟩ : ∃ N, N = FS.length := ⟨_, rfl⟩
 rw [← hN] at hs hnn ⊢
 have HN := Lib.hid hN
 clear hN
 have hgU : ¬ U 0 := fun e => by have := (h.uB _ e).1; omega
 go_enter Tryz.func26, Tryz.ntmps26
 go_wp2_with (with_reducible refine h_A ?_)
 refine hs.mono ?_
 rintro e w1 ⟨A1, c1, rfl, hO1, hB1⟩
 have h1 := h.below hB1
 have hr1 : RdB w1.drew w.heap.size RA rn rc b := hr.below (below_drewN hB1 1)
 have k1 : w1.drew.cell? ⟨lb, 1, none⟩ = some (.slice RA rn rc) := h1.c1
 have hfz : w1.drew.frozen? ⟨lb, 1, none⟩ = false := h1.thaw 1
 have hm1 := h1.setRest
 have hwl := h.blt
 have hks : ∀ (A : Option Addr) (m c : Nat), KeepF (fun k => k = lb) w1 (w1.setCell ⟨lb, 1, none⟩ (.slice A m c)).drew := fun A m c => (KeepF.grown (F := fun k => k = lb) (grown_set w1 lb 1 (.slice A m c)) (fun g e => .inl (by injection e with e; exact e.symm))).trans (KeepF.below (F := fun k => k = lb) (below_drewN (Below.refl _ _) 1)) (fun g e => .inl e)
 have hr0 := hr
 clear hs x1 hr
 go_upto_region 1 with fail
 go_cut [2, 4] from 16 to 34 (fun s2 s4 wx => s2 = .slice A1 N c1 ∧ s4 = .int .i64 (er : Int) ∧ ∃ RA', LkM wx B U T lb n RA' (rn - u) (rn - u) L ∧ KeepF (fun k => k = lb) w1 wx ∧ RdB wx wx.heap.size RA' (rn - u) (rn - u) (b.drop u) ∧ (blk RA' = blk RA ∨ blk RA' = none))
 case first =>
  by_cases h0 : u < rn
  ·obtain ⟨rb, off, rfl⟩ : ∃ rb off, RA = some ⟨rb, off, none⟩ := by
    obtain ⟨b1, o1, e1, _⟩ := hr1.at_ (by omega)
    exact ⟨b1, o1, e1⟩
   have hr2 := rd_drop (u := u) (hr0.below hB1) (by omega)
   go_region
   all_goals
    go_wp2_with fail
    go_meet
   all_goals exact ⟨rfl, rfl, some ⟨rb, off + u, none⟩, (hm1 _ _ _).below (below_drewN (Below.refl _ _) 1), hks _ _ _, Rd.more (rd_keepF hr2 (hks _ _ _) hB1.size (fun g e e2 => hrU g e (e2 ▸ h.lb))) (Nat.le_trans hB1.size (hks _ _ _).1), .inl rfl⟩
  ·obtain rfl : u = rn := by omega
   go_region
   all_goals
    go_wp2_with fail
    go_meet
   all_goals
    simp only [Nat.sub_self]
    exact ⟨trivial, trivial, RA, (hm1 _ _ _).below (below_drewN (Below.refl _ _) 1), hks _ _ _, by rw [List.drop_eq_nil_of_le (by have := hr0.length; omega)]; exact Rd.nil _ _ _ _ (by simp [maxLen]) _, .inl rfl⟩
 case rest =>
  obtain ⟨rfl, rfl, RA', hM, hK1, hR1, hbl⟩ := hcut
  have hz1 := hB1.size
  have hlw1 := h1.blt
  have hUw : ∀ k, U k → k < w.heap.size := fun k e => (h.uB k e).2
  have hK2 : KeepF U w wc := (KeepF.below hB1).trans (hK1.weak (G := U) (fun g e => .inl (e ▸ h.lb))) (fun g e => .inl e)
  have hO2 : OwnF wc w.heap.size A1 N c1 FS := own_keepF hO1 hK1 (fun g e e2 => by have := (hO1.blk_lt e).1; omega)
  clear hks hm1 hfz k1 hr1 hr0 hK1 hO1 hB1
  have hzw := hK2.1
  have hFb : ∀ g, blk RA' = some g → ¬ U g := fun g e => by rcases hbl with e2 | e2; exact hrU g (e2 ▸ e); rw [e2] at e; cases e
  clear hwl
  go_wp2_with (with_reducible refine h_B ?_)
  go_loopw [37] (fun s wr => ∃ i, i ≤ N ∧ s = .int .i64 (i : Int) ∧ LStep wc B U T lb (n + i) RA' (rn - u) (rn - u) (L.goes ctl (FS.take i)) wr ∧ P i (L.goes ctl (FS.take i))) (fun s _ => N - (RowKit.intOf s).toNat)
  case atStart => exact ⟨0, by omega, rfl, LStep.refl hM, hP0⟩
  case round =>
   obtain ⟨i, hi, rfl, hst, hPi⟩ := hrel
   obtain ⟨M, hMd⟩ : ∃ M, M = L.goes ctl (FS.take i) := ⟨_, rfl⟩
   rw [← hMd] at hst hPi
   have HM := Lib.hid hMd
   clear hMd
   have hst0 := hst
   obtain ⟨U', T', hM', hk', hU', hT'⟩ := hst
   have c0 := hM'.c0
   by_cases hlt : i < N
   ·have g1 : (i : Int) < (N : Int) := by omega
    have hFr : OwnF wr w.heap.size A1 N c1 FS := own_keepF hO2 hk' (fun g e e2 => by have := (hO2.blk_lt e).1; have := hUw g e2; omega)
    obtain ⟨b1, off, rfl, hbB, hkl, hcl⟩ := rec_at frShape hFr.rd hlt
    have k0 := hcl 0 _ rfl
    have k1 := hcl 1 _ rfl
    have k2 := hcl 2 _ rfl
    have k3 := hcl 3 _ rfl
    have k4 := hcl 4 _ rfl
    have k5 := hcl 5 _ rfl
    have k6 := hcl 6 _ rfl
    have k7 := hcl 7 _ rfl
    have hwf := hfw _ (List.getElem_mem hkl)
    have HSN := fun h => Lib.hid (LS.goes_snoc (ctl := ctl) (L := L) hkl h)
    have HST := fun h => Lib.hid (LS.goes_stop (ctl := ctl) (L := L) (l := FS) (i := i) h)
    have hmem := List.getElem_mem hkl
    clear hcl
    generalize FS[i] = f at *
    simp only [Nat.add_zero] at k0
    obtain ⟨fb, w4, hqb, hqv, hF, hB4⟩ := alloc_stepG wr #[.bool false, .bool false, .bool false, .bool false, .int .u8 0, .int .u8 0, .int .u16 0, .string ⟨#[]⟩] 97
    go_wp2_with (with_reducible refine h_B ?_)
    rw [← hqb, ← hqv]
    have hfb : wr.heap.size ≤ fb := by rw [hqb]; exact Nat.le_refl _
    clear hqb hqv
    refine unhold (wp_box (v := .agg #[.bool f.first, .bool f.last, .bool f.beg, .bool f.fin, .int .u8 (f.ty : Int), .int .u8 (f.track : Int), .int .u16 (f.chan : Int), .string (str f.load)]) (vs := [.bool f.first, .bool f.last, .bool f.beg, .bool f.fin, .int .u8 (f.ty : Int), .int .u8 (f.track : Int), .int .u16 (f.chan : Int), .string (str f.load)]) rfl rfl rfl rfl hF rfl (by kernel_rfl) (by simp) (by simp [Value.oneCell']) #[.bool f.first, .bool f.last, .bool f.beg, .bool f.fin, .int .u8 (f.ty : Int), .int .u8 (f.track : Int), .int .u16 (f.chan : Int), .string (str f.load)] (by simp) ?_)
    intro w5 hF5 hg5 hzz
    clear hzz
    have hB5 : Below wr.heap.size wr w5 := hB4.grown hg5 hB4.size (fun g e => by injection e with e; omega)
    have hM5 := hM'.below hB5
    have hk5 : KeepF U wc w5 := hk'.trans (KeepF.below (F := U) hB5) (fun g e => .inl e)
    have he5 : MEnv w5 := (he.onK hK2 hgU).onK hk5 hgU
    have hst5 : LStep wc B U T lb (n + i) RA' (rn - u) (rn - u) M w5 := LStep.of hk5 hU' hT' (LStep.refl hM5)
    clear hF hg5 hB4 c0 k0 k1 k2 k3 k4 k5 k6 k7 hFr hst0 hM' w4
    have c0 := hM5.c0
    by_cases h5 : M.st = 5
    ·have h6 : ((M.st : Nat) : Int) = 5 := by omega
     have HG := Lib.hid (show L.goes ctl FS = M from (HST (by rw [← HM.out]; exact h5)).out.trans HM.out.symm)
     rw [h6] at c0
     clear hctl h6 hPs
     go_wp2_with (with_reducible refine h_B ?_)
     refine bodyPost_ret (results_none rfl _ _ _) rfl ?_
     have hFS : L.frames ctl FS er = M := by unfold LS.frames; rw [HG.out, if_neg (fun e => e.2 h5)]
     exact ⟨rfl, RA', by rw [hFS]; exact (LStep.of hK2 (fun _ e => .inl e) (fun _ e => .inl e) hst5).mono (by omega), Rd.more (rd_keepF hR1 hk5 (Nat.le_refl _) hFb) hk5.1, (by first | exact hbl | simpa using hbl)⟩
    ·have h6 : ¬ ((M.st : Nat) : Int) = 5 := by omega
     have HG := Lib.hid (show L.goes ctl (FS.take (i + 1)) = M.take ctl f from (HSN (by rw [← HM.out]; exact h5)).out.trans (by rw [← HM.out]))
     obtain ⟨p1, p2, p3, p4, p5⟩ := hP _ _ hPi
     have htk := ltake_any ctl f hM5 p1 hwf.1 hwf.2 (by omega) he5 hgl p2 p3 p4 p5 (fun a A c W U1 T1 e1 e2 e3 e4 e5 e6 => hctl i M f a A c W U1 T1 _ _ _ _ hmem hPi e1 e2 e3 e4 e5 e6)
     unfold frV at htk
     have f0 := hF5.c0
     have f1 := hF5.c1
     have f2 := hF5.c2
     have f3 := hF5.c3
     have f4 := hF5.c4
     have f5 := hF5.c5
     have f6 := hF5.c6
     have f7 := hF5.c7
     clear hctl HSN HST
     go_wp2_with (with_reducible refine h_B ?_)
     refine htk.mono ?_
     rintro e w6 ⟨rfl, hst6⟩
     go_wp2_with (with_reducible refine h_B ?_)
     refine ⟨⟨i + 1, by omega, by go_num, ?_, ?_⟩, by simp [RowKit.intOf]; omega⟩
     ·rw [HG.out]; exact LStep.of hk5 hU' hT' hst6
     ·rw [HG.out]; exact hPs _ _ _ (by rw [← HN.out]; exact hlt) hmem hPi
   ·obtain rfl : i = N := by omega
    have HG := Lib.hid (show L.goes ctl FS = M by rw [HM.out, HN.out, List.take_length])
    obtain ⟨p1, p2, p3, p4, p5⟩ := hP _ _ hPi
    have her0 : ¬ (i : Int) < (i : Int) := by omega
    have heR : MEnv wr := (he.onK hK2 hgU).onK hk' hgU
    clear hctl hPs
    by_cases h0 : er = 0
    ·subst h0
     go_wp2_with (with_reducible refine h_B ?_)
     go_end0
     have hFS : L.frames ctl FS 0 = M := by unfold LS.frames; rw [HG.out, if_neg (fun e => e.1 rfl)]
     exact ⟨rfl, RA', by rw [hFS]; exact LStep.of hK2 (fun _ e => .inl e) (fun _ e => .inl e) hst0, Rd.more (rd_keepF hR1 hk' (Nat.le_refl _) hFb) hk'.1, (by first | exact hbl | simpa using hbl)⟩
    ·have h1 : ¬ (er : Int) = 0 := by omega
     by_cases h5 : M.st = 5
     ·have h6 : ((M.st : Nat) : Int) = 5 := by omega
      rw [h6] at c0
      clear h6
      go_wp2_with (with_reducible refine h_B ?_)
      go_end0
      have hFS : L.frames ctl FS er = M := by unfold LS.frames; rw [HG.out, if_neg (fun e => e.2 h5)]
      exact ⟨rfl, RA', by rw [hFS]; exact LStep.of hK2 (fun _ e => .inl e) (fun _ e => .inl e) hst0, Rd.more (rd_keepF hR1 hk' (Nat.le_refl _) hFb) hk'.1, (by first | exact hbl | simpa using hbl)⟩
     ·have h6 : ¬ ((M.st : Nat) : Int) = 5 := by omega
      have hen := lk_end 501 frameB (by decide) (by decide) hM' heR p2 p4
      rw [show ((501 : Nat) : Int) = 501 from rfl, show str frameB = (⟨#[102, 114, 97, 109, 101]⟩ : ByteArray) from rfl] at hen
      have h7 : ((er : Int) != 0) = true := by simp; omega
      have h8 : (((M.st : Nat) : Int) != 5) = true := by simp; omega
      go_wp2_with (with_reducible refine h_B ?_)
      refine hen.mono ?_
      rintro e w9 ⟨rfl, hst9⟩
      clear hen
      go_wp2_with (with_reducible refine h_B ?_)
      go_end0
      have hFS : L.frames ctl FS er = M.close 501 frameB := by unfold LS.frames; rw [HG.out, if_pos ⟨h0, h5⟩]
      have hst10 := LStep.of hk' hU' hT' hst9
      have hk10 := hst10.choose_spec.choose_spec.2.1
      exact ⟨rfl, RA', by rw [hFS]; exact LStep.of hK2 (fun _ e => .inl e) (fun _ e => .inl e) hst10, Rd.more (rd_keepF hR1 hk10 (Nat.le_refl _) hFb) hk10.1, (by first | exact hbl | simpa using hbl)⟩
end Go.PH
end
section
/- The walk of link's Feed. -/
namespace Go.PH
open Go.RowKit Go.Proofs

/-- the header is looked for -/
def LS.beginL (L : LS) (b : List UInt8) : LS × List UInt8 :=
 if b.take 8 = hdrB then ({ L with st := 1, sent := L.sent ++ hdrB ++ ctlB L.sz startB }, b.drop 8)
 else if b.length < 8 ∧ b = hdrB.take b.length then (L, b) else ({ L with st := 5, sent := L.sent ++ hdrB }, b)
/-- a link ahead of the frames of what comes -/
def LS.pre (L : LS) (b s : List UInt8) : LS × List UInt8 := if L.st = 0 then LS.beginL { L with sent := [], told := [] } (b ++ s) else ({ L with sent := [], told := [] }, b ++ s)
def LS.post (ctl : LS → As → LS) (p : LS × List UInt8) : LS × List UInt8 := if p.1.st = 0 ∨ p.1.st = 5 then p else (p.1.frames ctl (frScan p.2).1 (frScan p.2).2.2, p.2.drop (frScan p.2).2.1)
/-- what comes is done -/
def LS.feed (ctl : LS → As → LS) (L : LS) (b s : List UInt8) : LS × List UInt8 := if L.st = 5 then ({ L with sent := [], told := [] }, b) else LS.post ctl (L.pre b s)
/-- a link between two calls: what it says and tells is no more its own -/
structure LkI (w : World) (B : Nat) (V : Nat → Prop) (lb n : Nat) (b : List UInt8) (L : LS) : Prop where
 ex : ∃ (gp : Nat) (p q r : Value) (RA : Option Addr) (rn rc : Nat) (F : Nat → Prop),
  Box w lb 61 #[.int .u8 (L.st : Int), .slice RA rn rc, .pointer (some ⟨gp, 0, none⟩), .int .u64 (L.ch : Int), .int .u64 (L.sz : Int), p, q, r] ∧ Ga w F gp n L.g ∧ ¬ F lb ∧ (∀ k, F k → V k) ∧
  RdB w w.heap.size RA rn rc b ∧ (L.st = 0 → Own w B 5 1 RA rn rc (b.map u8v)) ∧ (L.st ≠ 0 → L.st ≠ 5 → rc = rn) ∧ ∀ g, blk RA = some g → V g ∧ g ≠ lb ∧ ¬ F g
 lb : V lb
 v : ∀ k, V k → B ≤ k ∧ k < w.heap.size
/-- what is behind the bytes that come, ahead of their frames -/
def LMid (w : World) (B : Nat) (V : Nat → Prop) (lb n : Nat) (p : LS × List UInt8) (wx : World) : Prop :=
 ∃ (U T : Nat → Prop) (RA : Option Addr) (rn rc : Nat), LkM wx B U T lb n RA rn rc p.1 ∧ RdB wx wx.heap.size RA rn rc p.2 ∧ (p.1.st = 0 → Own wx B 5 1 RA rn rc (p.2.map u8v)) ∧
  (∀ g, blk RA = some g → (B ≤ g ∧ g < wx.heap.size) ∧ ¬ U g ∧ ¬ T g ∧ (V g ∨ w.heap.size ≤ g)) ∧ KeepF V w wx ∧ ∀ k, U k → V k ∨ w.heap.size ≤ k
/-- what Feed answers -/
def LFeedR (w : World) (B : Nat) (V : Nat → Prop) (lb n : Nat) (p : LS × List UInt8) (e : Ending) (w' : World) : Prop :=
 ∃ (V' : Nat → Prop) (TT : Option Addr) (tc : Nat) (th : List TAs), e = .returned (.tuple #[.string (str p.1.sent), .slice TT p.1.told.length tc]) ∧ LkI w' B V' lb n p.2 p.1 ∧ KeepF V w w' ∧ (∀ k, V' k → V k ∨ w.heap.size ≤ k) ∧
  p.1.told = th.map (·.a) ∧ OwnT w' B TT p.1.told.length tc th ∧ (∀ g, blk TT = some g → ¬ V' g) ∧ ∀ x ∈ th, OwnG w' 0 x.A x.a.segs.length x.c x.a.segs ∧ ∀ g, blk x.A = some g → ¬ V' g
theorem LkM.start {w : World} {B lb n gp : Nat} {p : Value} {SA : Option Addr} {sc : Nat} {RA : Option Addr} {rn rc : Nat} {L : LS} {F : Nat → Prop} (hL : L.told = [])
  (hb : Box w lb 61 #[.int .u8 (L.st : Int), .slice RA rn rc, .pointer (some ⟨gp, 0, none⟩), .int .u64 (L.ch : Int), .int .u64 (L.sz : Int), p, .slice SA L.sent.length sc, .slice none 0 0]) (hp : p = .pointer none ∨ p = bPtr lb 5)
  (hs : Own w B 5 1 SA L.sent.length sc (L.sent.map u8v)) (hg : Ga w F gp n L.g) (hSA : ∀ b, blk SA = some b → b ≠ lb ∧ ¬ F b) (hFl : ¬ F lb) (hF : ∀ k, F k → B ≤ k) (hlb : B ≤ lb) : LkM w B (fun k => k = lb ∨ F k ∨ blk SA = some k) (fun _ => False) lb n RA rn rc L where
 ex := ⟨gp, p, SA, sc, none, 0, [], F, by rw [hL]; exact hb, hp, hs, by rw [hL]; exact Own.none_ _ _ _ _, by rw [hL]; rfl, (fun x hx => by cases hx), hg, fun b hb => .inr (.inl hb), fun b hb => ⟨.inr (.inr hb), (hSA b hb).1, (hSA b hb).2, by simp⟩, (fun b hb => by cases hb), hFl⟩
 lb := .inl rfl
 size := Nat.le_trans hlb (Nat.le_of_lt hb.lt)
 uB := fun b hb2 => by
  rcases hb2 with rfl | h | h
  ·exact ⟨hlb, hb.lt⟩
  ·exact ⟨hF b h, hg.lt b h⟩
  ·exact hs.blk_lt h
 tB := fun b h => h.elim
 ut := fun b h => h.elim
theorem LkI.keep {w w' : World} {B : Nat} {V G : Nat → Prop} {lb n : Nat} {b : List UInt8} {L : LS} (h : LkI w B V lb n b L) (hk : KeepF G w w') (hG : ∀ k, V k → ¬ G k) : LkI w' B V lb n b L where
 ex := by
  obtain ⟨gp, p, q, r, RA, rn, rc, F, h1, h2, h3, h4, h5, h6, h7, h8⟩ := h.ex
  exact ⟨gp, p, q, r, RA, rn, rc, F, box_keepF h1 hk (hG _ h.lb), h2.keepF hk (fun k hk' => hG k (h4 k hk')), h3, h4, (rd_keepF h5 hk (Nat.le_refl _) (fun g hg => hG g (h8 g hg).1)).more hk.1, fun e => own_keepF (h6 e) hk (fun g hg => hG g (h8 g hg).1), h7, h8⟩
 lb := h.lb
 v := fun k hk' => ⟨(h.v k hk').1, Nat.lt_of_lt_of_le (h.v k hk').2 hk.1⟩
/-- a link that has done what came -/
theorem LkM.idle {w : World} {B : Nat} {U T : Nat → Prop} {lb n : Nat} {RA : Option Addr} {rn rc : Nat} {L : LS} {b : List UInt8} (h : LkM w B U T lb n RA rn rc L) (hr : RdB w w.heap.size RA rn rc b) (h0 : L.st = 0 → Own w B 5 1 RA rn rc (b.map u8v)) (h5 : L.st ≠ 0 → L.st ≠ 5 → rc = rn)
  (hB : ∀ g, blk RA = some g → (B ≤ g ∧ g < w.heap.size) ∧ ¬ U g ∧ ¬ T g) :
  ∃ (V' : Nat → Prop) (TT : Option Addr) (tc : Nat) (th : List TAs) (p : Value) (SA : Option Addr) (sc : Nat) (cs : Array Value), LkI w B V' lb n b L ∧ (∀ k, V' k → U k ∨ blk RA = some k) ∧ L.told = th.map (·.a) ∧ OwnT w B TT L.told.length tc th ∧ (∀ g, blk TT = some g → U g ∧ ¬ V' g) ∧ (∀ x ∈ th, OwnG w 0 x.A x.a.segs.length x.c x.a.segs ∧ ∀ g, blk x.A = some g → T g ∧ ¬ V' g) ∧
   Box w lb 61 cs ∧ cs[6]? = some (.slice SA L.sent.length sc) ∧ cs[7]? = some (.slice TT L.told.length tc) ∧ Own w B 5 1 SA L.sent.length sc (L.sent.map u8v) ∧ ∀ g, blk SA = some g → U g ∧ ¬ V' g ∧ blk TT ≠ some g := by
 obtain ⟨gp, p, SA, sc, TT, tc, th, F, h1, h2, h3, h4, h5', h6, h7, h8, h9, h10, h11⟩ := h.ex
 refine ⟨fun k => k = lb ∨ F k ∨ blk RA = some k, TT, tc, th, p, SA, sc, _, ⟨⟨gp, p, _, _, RA, rn, rc, F, h1, h7, h11, fun k hk => .inr (.inl hk), hr, h0, h5, fun g hg => ⟨.inr (.inr hg), fun e => (hB g hg).2.1 (e ▸ h.lb), fun e => (hB g hg).2.1 (h8 g e)⟩⟩, .inl rfl, fun k hk => ?_⟩, fun k hk => ?_, h5', h4, fun g hg => ⟨(h10 g hg).1, fun e => ?_⟩, fun x hx => ⟨(h6 x hx).1, fun g hg => ⟨(h6 x hx).2 g hg, fun e => ?_⟩⟩, h1, rfl, rfl, h3, fun g hg => ⟨(h9 g hg).1, fun e => ?_, (h9 g hg).2.2.2⟩⟩
 ·rcases hk with rfl | e | e
  ·exact h.uB _ h.lb
  ·exact h.uB _ (h8 k e)
  ·exact (hB k e).1
 ·rcases hk with rfl | e | e
  ·exact .inl h.lb
  ·exact .inl (h8 k e)
  ·exact .inr e
 ·rcases e with e | e | e
  ·exact (h10 g hg).2.1 e
  ·exact (h10 g hg).2.2 e
  ·exact (hB g e).2.1 (h10 g hg).1
 ·have ht := (h6 x hx).2 g hg
  rcases e with e | e | e
  ·exact h.ut g ht (e ▸ h.lb)
  ·exact h.ut g ht (h8 g e)
  ·exact (hB g e).2.2 ht
 ·rcases e with e | e | e
  ·exact (h9 g hg).2.1 e
  ·exact (h9 g hg).2.2.1 e
  ·exact (hB g e).2.1 (h9 g hg).1
theorem frames_st {ctl : LS → As → LS} {P : Nat → LS → Prop} {l : List Fr} {L : LS} {e : Nat} (hst : ∀ k M, P k M → M.st ≠ 0) (hs : ∀ k M f, k < l.length → f ∈ l → P k M → P (k + 1) (M.take ctl f)) (h0 : P 0 L) : (L.frames ctl l e).st ≠ 0 := by
 have hg : ∀ (r : List Fr) (k : Nat) (L : LS), k + r.length ≤ l.length → (∀ f ∈ r, f ∈ l) → P k L → (L.goes ctl r).st ≠ 0 := by
  intro r
  induction r with
  | nil => intro k L _ _ h; exact hst k L h
  | cons f r ih =>
   intro k L hk hm h
   by_cases h5 : L.st = 5
   ·rw [LS.goes_closed h5, h5]; decide
   ·rw [LS.goes_cons ctl L f r h5]
    rw [List.length_cons] at hk
    exact ih (k + 1) _ (by omega) (fun g hg => hm g (List.mem_cons_of_mem _ hg)) (hs k L f (by omega) (hm f (List.mem_cons_self ..)) h)
 unfold LS.frames
 split
 ·show (5 : Nat) ≠ 0; decide
 ·exact hg l 0 L (by omega) (fun _ h => h) h0
set_option maxRecDepth 20000 in
set_option maxHeartbeats 4000000 in
theorem lfeed_any (ctl : LS → As → LS) (P : Nat → LS → Prop) (s b : List UInt8) {w : World} {B : Nat} {V : Nat → Prop} {lb n : Nat} {L : LS} (h : LkI w B V lb n b L) (he : MEnv w) (hgl : 0 < B) (hsz : L.sz ≤ 1000000) (hbl : b.length ≤ 100000000) (hsl : s.length ≤ 100000000) (hst5 : L.st < 256)
  (hnn : n + (frScan (L.pre b s).2).1.length < 1000000000)
  (hPst : ∀ k M, P k M → M.st ≠ 0) (hP : ∀ k M, P k M → M.g.Inv ∧ M.sz ≤ 1000000 ∧ M.ch < 65536 ∧ M.sent.length ≤ 10000000000 ∧ M.told.length ≤ 1000000000)
  (hPs : ∀ k M f, k < (frScan (L.pre b s).2).1.length → f ∈ (frScan (L.pre b s).2).1 → P k M → P (k + 1) (M.take ctl f)) (hP0 : (L.pre b s).1.st ≠ 0 → (L.pre b s).1.st ≠ 5 → P 0 (L.pre b s).1) (hfw : ∀ f ∈ (frScan (L.pre b s).2).1, f.wf ∧ f.load.length ≤ 1000000)
  (hctl : ∀ k M f a A c W U' T' m RA' rn' rc', f ∈ (frScan (L.pre b s).2).1 → P k M → M.g.out f = some a → a.chan = 0 → LkM W B U' T' lb m RA' rn' rc' { M with g := M.g.next f } → OwnG W 0 A a.segs.length c a.segs → (∀ b, blk A = some b → T' b) → MEnv W →
   Calls Tryz.prog 56 #[.pointer (some ⟨lb, 0, none⟩), .agg (asV a.chan a.track A a.segs.length c)] W fun e w' => e = .returned (.tuple #[]) ∧ LStep W B U' T' lb m RA' rn' rc' (ctl { M with g := M.g.next f } a) w') :
  Calls Tryz.prog 12 #[.pointer (some ⟨lb, 0, none⟩), .string (str s)] w (LFeedR w B V lb (n + (frScan (L.pre b s).2).1.length) (L.feed ctl b s)) := by
 obtain ⟨gp, p, q, r, RA, rn, rc, F, hb, hga, hFl, hFV, hr, ho, hfull, hRA⟩ := h.ex
 have hlb := h.lb
 have hV := h.v
 have c0 := hb.c0
 have c2 := hb.c2
 have hst := lstate_any lb L.st gp w c0 c2
 have hrl := hr.length
 by_cases h5 : L.st = 5
 ·have HF : L.feed ctl b s = ({ L with sent := [], told := [] }, b) := by unfold LS.feed; rw [if_pos h5]
  rw [HF]
  rw [h5] at hst
  rw [show ((5 : Nat) : Int) = 5 from rfl] at hst
  have hI : LkI w B V lb (n + (frScan (L.pre b s).2).1.length) b { L with sent := [], told := [] } := ⟨⟨gp, p, q, r, RA, rn, rc, F, hb, hga.mono (by omega), hFl, hFV, hr, ho, hfull, hRA⟩, hlb, hV⟩
  clear hctl hPs hP hPst hP0 c0 c2 hb h5
  go_enter Tryz.func12, Tryz.ntmps12
  go_wp2_with (with_reducible refine h_A ?_)
  refine hst.mono ?_
  rintro e w1 ⟨rfl, rfl⟩
  go_wp2_with (with_reducible refine h_A ?_)
  go_ret2
  exact ⟨V, none, 0, [], rfl, hI, KeepF.refl _ _, fun k hk => .inl hk, rfl, Own.none_ _ _ _ _, (fun g hg => by cases hg), (fun x hx => by cases hx)⟩
 have HF : L.feed ctl b s = LS.post ctl (L.pre b s) := by unfold LS.feed; rw [if_neg h5]
 rw [HF]
 clear HF
 obtain ⟨pr, hpr⟩ : ∃ p, p = L.pre b s := ⟨_, rfl⟩
 rw [← hpr] at hnn hPs hP0 hfw hctl ⊢
 have HPR := Lib.hid hpr
 have HCTL := Lib.hid hctl
 have HPS := Lib.hid hPs
 have HP := Lib.hid hP
 have HPST := Lib.hid hPst
 clear hpr hctl hPs hP hPst
 obtain ⟨Q, hq⟩ : ∃ q, q = LS.post ctl pr := ⟨_, rfl⟩
 rw [← hq]
 have HQ := Lib.hid hq
 clear hq
 obtain ⟨m, hm⟩ : ∃ m, m = n + (frScan pr.2).1.length := ⟨_, rfl⟩
 rw [← hm]
 have HM := Lib.hid hm
 clear hm
 have hrs := reset_any (off := 5) w _ hb (by simp)
 have hss := str_size s
 have g5 : ¬ (L.st : Int) = 5 := by omega
 go_enter Tryz.func12, Tryz.ntmps12
 go_wp2_with (with_reducible refine h_B ?_)
 refine hst.mono ?_
 rintro e w1 ⟨rfl, rfl⟩
 clear hst
 go_wp2_with (with_reducible refine h_B ?_)
 refine hrs.mono ?_
 rintro e w1 ⟨rfl, hb1, hg1, hz1⟩
 clear hrs c0 c2 hz1
 replace hb1 : Box w1 lb 61 #[.int .u8 (L.st : Int), .slice RA rn rc, .pointer (some ⟨gp, 0, none⟩), .int .u64 (L.ch : Int), .int .u64 (L.sz : Int), .pointer none, .slice none 0 0, r] := hb1
 go_wp2_with (with_reducible refine h_B ?_)
 refine unhold (wp_boxAt rfl rfl rfl rfl hb1 (j := 7) (v := .slice none 0 0) rfl (by kernel_rfl) (by simp) ?_)
 intro w2 hb2 hg2 hz2
 clear hz2
 replace hb2 : Box w2 lb 61 #[.int .u8 (L.st : Int), .slice RA rn rc, .pointer (some ⟨gp, 0, none⟩), .int .u64 (L.ch : Int), .int .u64 (L.sz : Int), .pointer none, .slice none 0 0, .slice none 0 0] := hb2
 have c1 := hb2.c1
 have hkl : KeepF (fun k => k = lb) w w2 := (KeepF.grown (F := fun k => k = lb) hg1 (fun g hg => .inl (by injection hg with hg; exact hg.symm))).trans (KeepF.grown (F := fun k => k = lb) hg2 (fun g hg => .inl (by injection hg with hg; exact hg.symm))) (fun k hk => .inl hk)
 have hK2 : KeepF V w w2 := hkl.weak (fun g hg => .inl (hg ▸ hlb))
 have hga2 : Ga w2 F gp n L.g := hga.keepF hkl (fun k hk e => hFl (e ▸ hk))
 clear hg1 hg2 hb hb1
 have hor : Own w2 B 5 1 RA rn rc (b.map u8v) ∨ rc = rn ∧ Rd w2 w.heap.size 1 RA rn rn (b.map u8v) := by
  by_cases h0 : L.st = 0
  ·exact .inl (own_keepF (ho h0) hkl (fun g hg e => (hRA g hg).2.1 e))
  ·have hrc : rc = rn := hfull h0 h5
   subst hrc
   exact .inr ⟨rfl, rd_keepF hr hkl (Nat.le_refl _) (fun g hg e => (hRA g hg).2.1 e)⟩
 have hown2 := fun (h0 : L.st = 0) => own_keepF (ho h0) hkl (fun g hg e => (hRA g hg).2.1 e)
 go_wp2_with (with_reducible refine h_B ?_)
 refine unhold (wp_app_rest (base := B) slB Tryz.underlying9 rfl rfl rfl rfl hor hkl.1 (by have := (hV _ hlb).1; have := hb2.lt; omega) (by omega) (fun g hg => ⟨(hV g (hRA g hg).1).1, Nat.lt_of_lt_of_le (hV g (hRA g hg).1).2 hkl.1⟩) ?_)
 intro A2 c2 w3 hr3 hO3 hg3 hA3 hbd3
 have hne2 : ∀ g, blk A2 = some g → g ≠ lb ∧ ¬ F g ∧ (V g ∨ w.heap.size ≤ g) := fun g hg => by
  refine ⟨?_, ?_, ?_⟩
  ·rcases hA3 with e | e
   ·rw [e] at hg; exact (hRA g hg).2.1
   ·have := e g hg; have := hb2.lt; omega
  ·rcases hA3 with e | e
   ·rw [e] at hg; exact (hRA g hg).2.2
   ·intro hF; have := e g hg; have := hga2.lt g hF; omega
  ·rcases hA3 with e | e
   ·rw [e] at hg; exact .inl (hRA g hg).1
   ·have := e g hg; have := hK2.1; exact .inr (by omega)
 have hb3 := hb2.grown hg3 (fun e => (hRA lb e.symm).2.1 rfl)
 clear c1
 have c1 := hb3.c1
 go_wp2_with (with_reducible refine h_B ?_)
 refine unhold (wp_boxAt rfl rfl rfl rfl hb3 (j := 1) (v := .slice A2 (rn + s.length) c2) rfl (by kernel_rfl) (by simp) ?_)
 intro w4 hb4 hg4 hz4
 clear hz4 c1
 replace hb4 : Box w4 lb 61 #[.int .u8 (L.st : Int), .slice A2 (rn + s.length) c2, .pointer (some ⟨gp, 0, none⟩), .int .u64 (L.ch : Int), .int .u64 (L.sz : Int), .pointer none, .slice none 0 0, .slice none 0 0] := hb4
 have hk34 : KeepF (fun k => k = lb) w3 w4 := KeepF.grown hg4 (fun g hg => .inl (by injection hg with hg; exact hg.symm))
 have hK4 : KeepF V w w4 := (hK2.trans (KeepF.grown (F := V) hg3 (fun g hg => .inl (hRA g hg).1)) (fun k hk => .inl hk)).trans (hk34.weak (G := V) (fun g hg => .inl (hg ▸ hlb))) (fun k hk => .inl hk)
 have hO4 : L.st = 0 → Own w4 B 5 1 A2 (rn + s.length) c2 ((b ++ s).map u8v) := fun h0 => by
  have := own_keepF (hO3 (hown2 h0)) hk34 (fun g hg => (hne2 g hg).1)
  rwa [← List.map_append] at this
 have hr4 : RdB w4 w4.heap.size A2 (rn + s.length) c2 (b ++ s) := by
  have := (rd_keepF hr3 hk34 (Nat.le_refl _) (fun g hg => (hne2 g hg).1)).more hk34.1
  rwa [← List.map_append] at this
 have hga4 : Ga w4 F gp n L.g := (hga2.keepF (KeepF.grown (F := fun k => blk RA = some k) hg3 (fun g hg => .inl hg)) (fun k hk e => (hRA k e).2.2 hk)).keepF hk34 (fun k hk e => hFl (e ▸ hk))
 have hne4 : ∀ g, blk A2 = some g → (B ≤ g ∧ g < w4.heap.size) ∧ g ≠ lb ∧ ¬ F g ∧ (V g ∨ w.heap.size ≤ g) := fun g hg => ⟨⟨(hbd3 g hg).1, Nat.lt_of_lt_of_le (hbd3 g hg).2 hk34.1⟩, hne2 g hg⟩
 have hlB : B ≤ lb := (hV _ hlb).1
 have hFB : ∀ k, F k → B ≤ k := fun k hk => (hV k (hFV k hk)).1
 have hgV : ¬ V 0 := fun e => by have := (hV _ e).1; omega
 have he4 : MEnv w4 := he.onK hK4 (fun e => by have := (hV _ e).1; omega)
 have hbs : (b ++ s).length = rn + s.length := by rw [List.length_append, hrl]
 have hlB' : rn + s.length ≤ 200000000 := by omega
 clear hb2 hb3 hO3 hg3 hA3 hg4 hga2 hne2 hga hkl hK2 hr ho hfull hor hown2 hr3 hk34 hbd3 hRA hV
 have c0 := hb4.c0
 go_upto_if 29 with fail
 have hpl : pr.2.length ≤ 200000000 := by
  rw [HPR.out]
  unfold LS.pre LS.beginL
  split
  ·split
   ·show ((b ++ s).drop 8).length ≤ _; rw [List.length_drop]; omega
   ·split <;> (show (b ++ s).length ≤ _; omega)
  ·show (b ++ s).length ≤ _; omega
 generalize rn + s.length = N at *
 go_cut [] from 6 (fun wx => LMid w B V lb n pr wx)
 case first =>
  have hb5 := hb4
  clear hP0 hfw HCTL HPS HP HPST hnn HQ HM
  by_cases h0 : L.st = 0
  ·have HPB : Hid (pr = LS.beginL { L with sent := [], told := [] } (b ++ s)) := Lib.hid (by rw [HPR.out]; unfold LS.pre; rw [if_pos h0])
   rw [h0] at hb5 c0
   rw [show ((0 : Nat) : Int) = 0 from rfl] at hb5 c0
   have hOw := hO4 h0
   have hnl : 0 ≠ lb := by omega
   have hrm := hr4.max
   have hrc := hr4.cap
   clear HPR hO4 g5 h5
   generalize b ++ s = r0 at *
   by_cases q1 : r0.take 8 = hdrB
   ·have hbg := lbegin_full lb L.sz B 0 0 N c2 w4.heap.size _ _ _ (.pointer none) A2 none [] r0 w4 he4 hb5 hr4 (Nat.le_refl _) hsz (.inl rfl) (Own.none_ w4 B 5 1) (by intro e; cases e) (by have := hb4.lt; omega) (by omega) (by omega) hnl hgl q1
    have HP1 : Hid (pr = ({ L with st := 1, sent := [] ++ hdrB ++ ctlB L.sz startB, told := [] }, r0.drop 8)) := Lib.hid (by rw [HPB.out]; unfold LS.beginL; rw [if_pos q1])
    clear HPB hb5 q1 hOw
    go_wp2_with (with_reducible refine h_A ?_)
    refine hbg.mono ?_
    rintro e w5 ⟨rfl, hN8, ⟨A3, c3, hb6, hO6, hn6, hA6⟩, hK5⟩
    clear hbg
    go_wp2_with (with_reducible refine h_A ?_)
    go_meet
    rw [HP1.out]
    have hA6' : ∀ k, blk A3 = some k → w4.heap.size ≤ k := fun k hk => by
     rcases hA6 with e | e
     ·rw [e] at hk; cases hk
     ·exact e k hk
    have hfb := hb4.lt
    have hgl4 := hga4.lt
    have hF5 : Ga w5 F gp n L.g := hga4.keepF hK5 (fun k hk e => by rcases e with e | e; exact hFl (e ▸ hk); cases e)
    have hM := LkM.start (L := { L with st := 1, sent := [] ++ hdrB ++ ctlB L.sz startB, told := [] }) rfl hb6 (.inr rfl) hO6 hF5 (fun k hk => ⟨fun e => hn6 (e ▸ hk), fun e => by have := hA6' k hk; have := hgl4 k e; omega⟩) hFl hFB hlB
    have hr5 : RdB w5 w5.heap.size (cutA A2 1 8 c2) (N - 8) (c2 - 8) (r0.drop 8) := by
     have h1 := RdB.cut (lo := 8) (k := N - 8) hr4 (by omega)
     rw [List.take_of_length_le (by rw [List.length_drop]; omega)] at h1
     exact (rd_keepF h1 hK5 (Nat.le_refl _) (fun g hg e => by rw [cutA_blk] at hg; rcases e with e | e; exact (hne4 g hg).2.1 e; cases e)).more hK5.1
    refine ⟨_, _, _, _, _, hM, hr5, (fun e => by cases e), fun g hg => ?_, hK4.trans hK5 (fun k hk => by rcases hk with e | e; exact .inl (e ▸ hlb); cases e), fun k hk => ?_⟩
    ·rw [cutA_blk] at hg
     have h1 := hne4 g hg
     refine ⟨⟨h1.1.1, Nat.lt_of_lt_of_le h1.1.2 hK5.1⟩, fun e => ?_, fun e => e, h1.2.2.2⟩
     rcases e with e | e | e
     ·exact h1.2.1 e
     ·exact h1.2.2.1 e
     ·have := hA6' g e; omega
    ·rcases hk with e | e | e
     ·exact .inl (e ▸ hlb)
     ·exact .inl (hFV k e)
     ·have := hA6' k e; have := hK4.1; exact .inr (by omega)
   ·by_cases q2 : r0.length < 8 ∧ r0 = hdrB.take r0.length
    ·have hbg := lbegin_part lb L.sz B 0 0 N c2 w4.heap.size _ _ _ (.pointer none) A2 none [] r0 w4 he4 hb5 hr4 (Nat.le_refl _) hsz (.inl rfl) (Own.none_ w4 B 5 1) (by intro e; cases e) (by have := hb4.lt; omega) (by omega) (by omega) hnl hgl (by omega) (by rw [← hbs]; exact q2.2)
     have HP1 : Hid (pr = ({ L with sent := [], told := [] }, r0)) := Lib.hid (by rw [HPB.out]; unfold LS.beginL; rw [if_neg q1, if_pos q2])
     clear HPB hb5 q1 q2
     go_wp2_with (with_reducible refine h_A ?_)
     refine hbg.mono ?_
     rintro e w5 ⟨rfl, hB5⟩
     clear hbg
     go_wp2_with (with_reducible refine h_A ?_)
     go_meet
     rw [HP1.out]
     have hM := LkM.start (L := { L with sent := [], told := [] }) rfl (hb4.below hB5) (.inl rfl) (Own.none_ _ _ _ _) (hga4.below hB5) (fun k hk => by cases hk) hFl hFB hlB
     have hk5 : KeepF V w4 w5 := .below hB5
     refine ⟨_, _, _, _, _, hM, (hr4.below hB5).more hB5.size, fun _ => own_below hOw hB5, fun g hg => ?_, hK4.trans hk5 (fun k hk => .inl hk), fun k hk => ?_⟩
     ·have h1 := hne4 g hg
      refine ⟨⟨h1.1.1, Nat.lt_of_lt_of_le h1.1.2 hB5.size⟩, fun e => ?_, fun e => e, h1.2.2.2⟩
      rcases e with e | e | e
      ·exact h1.2.1 e
      ·exact h1.2.2.1 e
      ·cases e
     ·rcases hk with e | e | e
      ·exact .inl (e ▸ hlb)
      ·exact .inl (hFV k e)
      ·cases e
    ·have hbg := lbegin_bad lb L.sz B 0 0 N c2 w4.heap.size _ _ _ (.pointer none) A2 none [] r0 w4 he4 hb5 hr4 (Nat.le_refl _) hsz (.inl rfl) (Own.none_ w4 B 5 1) (by intro e; cases e) (by have := hb4.lt; omega) (by omega) (by omega) hnl hgl (fun e => by
      by_cases h8 : N < 8
      ·exact q2 ⟨by omega, by rw [hbs, ← e, List.take_of_length_le (by omega)]⟩
      ·exact q1 (by rw [e, List.take_of_length_le (by have : hdrB.length = 8 := rfl; omega)]))
     have HP1 : Hid (pr = ({ L with st := 5, sent := [] ++ hdrB, told := [] }, r0)) := Lib.hid (by rw [HPB.out]; unfold LS.beginL; rw [if_neg q1, if_neg q2])
     clear HPB hb5 q1 q2 hOw
     go_wp2_with (with_reducible refine h_A ?_)
     refine hbg.mono ?_
     rintro e w5 ⟨rfl, ⟨A3, c3, hb6, hO6, hn6, hA6⟩, hK5⟩
     clear hbg
     go_wp2_with (with_reducible refine h_A ?_)
     go_meet
     rw [HP1.out]
     have hA6' : ∀ k, blk A3 = some k → w4.heap.size ≤ k := fun k hk => by
      rcases hA6 with e | e
      ·rw [e] at hk; cases hk
      ·exact e k hk
     have hfb := hb4.lt
     have hgl4 := hga4.lt
     have hF5 : Ga w5 F gp n L.g := hga4.keepF hK5 (fun k hk e => by rcases e with e | e; exact hFl (e ▸ hk); cases e)
     have hM := LkM.start (L := { L with st := 5, sent := [] ++ hdrB, told := [] }) rfl hb6 (.inr rfl) hO6 hF5 (fun k hk => ⟨fun e => hn6 (e ▸ hk), fun e => by have := hA6' k hk; have := hgl4 k e; omega⟩) hFl hFB hlB
     refine ⟨_, _, _, _, _, hM, (rd_keepF hr4 hK5 (Nat.le_refl _) (fun g hg e => by rcases e with e | e; exact (hne4 g hg).2.1 e; cases e)).more hK5.1, (fun e => by cases e), fun g hg => ?_, hK4.trans hK5 (fun k hk => by rcases hk with e | e; exact .inl (e ▸ hlb); cases e), fun k hk => ?_⟩
     ·have h1 := hne4 g hg
      refine ⟨⟨h1.1.1, Nat.lt_of_lt_of_le h1.1.2 hK5.1⟩, fun e => ?_, fun e => e, h1.2.2.2⟩
      rcases e with e | e | e
      ·exact h1.2.1 e
      ·exact h1.2.2.1 e
      ·have := hA6' g e; omega
     ·rcases hk with e | e | e
      ·exact .inl (e ▸ hlb)
      ·exact .inl (hFV k e)
      ·have := hA6' k e; have := hK4.1; exact .inr (by omega)
  ·have HP1 : Hid (pr = ({ L with sent := [], told := [] }, b ++ s)) := Lib.hid (by rw [HPR.out]; unfold LS.pre; rw [if_neg h0])
   have g0 : ¬ (L.st : Int) = 0 := by omega
   clear HPR
   go_wp2_with (with_reducible refine h_A ?_)
   go_meet
   rw [HP1.out]
   have hM := LkM.start (L := { L with sent := [], told := [] }) rfl hb4 (.inl rfl) (Own.none_ _ _ _ _) hga4 (fun k hk => by cases hk) hFl hFB hlB
   refine ⟨_, _, _, _, _, hM, hr4, hO4, fun g hg => ?_, hK4, fun k hk => ?_⟩
   ·have h1 := hne4 g hg
    refine ⟨h1.1, fun e => ?_, fun e => e, h1.2.2.2⟩
    rcases e with e | e | e
    ·exact h1.2.1 e
    ·exact h1.2.2.1 e
    ·cases e
   ·rcases hk with e | e | e
    ·exact .inl (e ▸ hlb)
    ·exact .inl (hFV k e)
    ·cases e
 case rest =>
  clear hb4 c0 hga4 hne4 hO4 hr4 he4 hbs hlB' hK4 hFB hFV hFl
  obtain ⟨U, T, RB, rm, rd, hM, hr5, hO5, hne5, hK5, hU5⟩ := hcut
  have c0 := hM.c0
  have hrl5 := hr5.length
  go_upto_region 8 with fail
  obtain ⟨go, hgo⟩ : ∃ x, x = decide (¬ pr.1.st = 0 ∧ ¬ pr.1.st = 5) := ⟨_, rfl⟩
  have HGO := Lib.hid hgo
  clear hgo
  go_cut [43] from 6 (fun s43 wx => s43 = .bool go ∧ wc = wx)
  case first =>
   clear HPR HP HPS HPST HCTL HQ HM hP0 hfw hnn hr5 hO5 hM
   by_cases p0 : pr.1.st = 0
   ·obtain rfl : go = false := by rw [HGO.out]; simp [p0]
    rw [p0] at c0
    rw [show ((0 : Nat) : Int) = 0 from rfl] at c0
    clear p0 HGO
    go_wp2_with (with_reducible refine h_A ?_)
    go_meet
    case rel => exact ⟨rfl, rfl⟩
   ·have d0 : ((pr.1.st : Int) != 0) = true := by simp; omega
    by_cases p5 : pr.1.st = 5
    ·obtain rfl : go = false := by rw [HGO.out]; simp [p5]
     rw [p5] at c0
     rw [show ((5 : Nat) : Int) = 5 from rfl] at c0
     clear p0 p5 HGO
     go_wp2_with (with_reducible refine h_A ?_)
     go_meet
     case rel => exact ⟨rfl, rfl⟩
    ·obtain rfl : go = true := by rw [HGO.out]; simp [p0, p5]
     have d5 : ((pr.1.st : Int) != 5) = true := by simp; omega
     clear p0 p5 HGO
     go_wp2_with (with_reducible refine h_A ?_)
     go_meet
     case rel => exact ⟨rfl, rfl⟩
  case rest =>
  obtain ⟨rfl, rfl⟩ := hcut
  clear c0
  go_upto_if 43 with fail
  go_cut [] from 6 (fun wx => ∃ (U T : Nat → Prop) (RA : Option Addr) (rn rc : Nat), LkM wx B U T lb m RA rn rc Q.1 ∧ RdB wx wx.heap.size RA rn rc Q.2 ∧ (Q.1.st = 0 → Own wx B 5 1 RA rn rc (Q.2.map u8v)) ∧ (Q.1.st ≠ 0 → Q.1.st ≠ 5 → rc = rn) ∧
   (∀ g, blk RA = some g → (B ≤ g ∧ g < wx.heap.size) ∧ ¬ U g ∧ ¬ T g ∧ (V g ∨ w.heap.size ≤ g)) ∧ KeepF V w wx ∧ ∀ k, U k → V k ∨ w.heap.size ≤ k)
  case first =>
   by_cases p0 : pr.1.st = 0
   ·have HQ2 : Hid (Q = pr) := Lib.hid (by rw [HQ.out]; unfold LS.post; rw [if_pos (.inl p0)])
    obtain rfl : go = false := by rw [HGO.out]; simp [p0]
    go_wp2_with (with_reducible refine h_A ?_)
    go_meet
    rw [HQ2.out]
    exact ⟨U, T, RB, rm, rd, hM.mono (by have := HM.out; omega), hr5, hO5, fun e => absurd p0 e, hne5, hK5, hU5⟩
   ·by_cases p5 : pr.1.st = 5
    ·have HQ2 : Hid (Q = pr) := Lib.hid (by rw [HQ.out]; unfold LS.post; rw [if_pos (.inr p5)])
     obtain rfl : go = false := by rw [HGO.out]; simp [p5]
     go_wp2_with (with_reducible refine h_A ?_)
     go_meet
     rw [HQ2.out]
     exact ⟨U, T, RB, rm, rd, hM.mono (by have := HM.out; omega), hr5, hO5, fun _ e => absurd p5 e, hne5, hK5, hU5⟩
    ·have HQ2 : Hid (Q = (pr.1.frames ctl (frScan pr.2).1 (frScan pr.2).2.2, pr.2.drop (frScan pr.2).2.1)) := Lib.hid (by rw [HQ.out]; unfold LS.post; rw [if_neg (by omega)])
     have hfr := lframes_any ctl P pr.2 hM hr5 (fun g hg => (hne5 g hg).2.1) (by omega) (by have := (frScan_le pr.2).2; omega) hnn (he.onK hK5 hgV) hgl HP.out HPS.out (hP0 p0 p5) hfw HCTL.out
     obtain rfl : go = true := by rw [HGO.out]; simp [p0, p5]
     have HST : Hid (pr.1.st ≠ 0 → pr.1.st ≠ 5 → (pr.1.frames ctl (frScan pr.2).1 (frScan pr.2).2.2).st ≠ 0) := Lib.hid (fun p0 p5 => frames_st HPST.out HPS.out (hP0 p0 p5))
     clear HP HPS HCTL hP0 hfw HPST
     go_wp2_with (with_reducible refine h_A ?_)
     refine hfr.mono ?_
     rintro e w6 ⟨rfl, RA', ⟨U', T', hM', hk', hU', hT'⟩, hR', hbl⟩
     clear hfr
     go_wp2_with (with_reducible refine h_A ?_)
     go_meet
     rw [HQ2.out]
     refine ⟨U', T', RA', _, _, by rw [HM.out]; exact hM', hR', fun e => ?_, fun _ _ => rfl, fun g hg => ?_, hK5.trans hk' hU5, fun k hk => ?_⟩
     ·exact absurd e (HST.out p0 p5)
     ·have h1 := hne5 g (by rcases hbl with e | e; rw [← e]; exact hg; rw [e] at hg; cases hg)
      have hz := hk'.1
      refine ⟨⟨h1.1.1, Nat.lt_of_lt_of_le h1.1.2 hz⟩, fun e => ?_, fun e => ?_, h1.2.2.2⟩
      ·rcases hU' g e with e | e
       ·exact h1.2.1 e
       ·omega
      ·rcases hT' g e with e | e | e
       ·exact h1.2.2.1 e
       ·exact h1.2.1 e
       ·omega
     ·have hz := hK5.1
      rcases hU' k hk with e | e
      ·exact hU5 k e
      ·exact .inr (by omega)
  case rest =>
   clear hM hr5 hO5 hne5 hK5 hU5 HPR HP HPS HPST HCTL hP0 hfw hpl hrl5 hnn
   obtain ⟨U, T, RA, rn, rc, hM, hr6, hO6, hf6, hne6, hK6, hU6⟩ := hcut
   obtain ⟨V', TT, tc, th, p, SA, sc, cs, hI, hV', htd, hOT, hTT, hth, hbx, e6, e7, hOS, hSA⟩ := hM.idle hr6 hO6 hf6 (fun g hg => ⟨(hne6 g hg).1, (hne6 g hg).2.1, (hne6 g hg).2.2.1⟩)
   have hUT := hM.ut
   have HTD := Lib.hid htd
   clear htd hM hr6 hO6 hf6
   go_wp2
   refine rg_start (fun W : World => Box W lb 61 cs) (by kernel_rfl) ?_
   have hS : Box wc.drew lb 61 cs := hbx
   have hO7 : Own wc.drew B 5 1 SA Q.1.sent.length sc (Q.1.sent.map u8v) := hOS
   have hbd : KeepF V wc wc.drew := .below (below_drewN (Below.refl _ _) 1)
   have hI7 : LkI wc.drew B V' lb m Q.2 Q.1 := hI.keep (G := fun _ => False) (.below (below_drewN (Below.refl _ _) 1)) (fun _ _ e => e)
   have hOT7 : OwnT wc.drew B TT Q.1.told.length tc th := hOT
   have hth7 : ∀ x ∈ th, OwnG wc.drew 0 x.A x.a.segs.length x.c x.a.segs ∧ ∀ g, blk x.A = some g → T g ∧ ¬ V' g := hth
   have hK7 := hK6.trans hbd (fun k hk => .inl hk)
   have hzc : w.heap.size ≤ wc.drew.heap.size := hK7.1
   clear hbx hOS hbd hI hOT hth hK6
   generalize wc.drew = w7 at *
   have hstr := bstr_any (off := 5) (n := Q.1.sent.length) (c := sc) w7 cs hS SA Q.1.sent e6 hO7
   refine rg_t 0 hS ?_
   simp only [List.getElem_toArray, List.getElem_cons_zero, Act.put, List.setIfInBounds_toArray, List.set_cons_zero, List.set_cons_succ]
   refine rg_t 1 hS ?_
   simp only [g_S, Act.put]
   refine rg_t 2 hS ?_
   simp only [g_S, Act.put]
   refine rg_t 4 hS ?_
   simp only [g_S, Act.put]
   refine rg_t 5 hS ?_
   simp only [g_S, Act.put]
   refine rg_t 6 hS ?_
   simp only [g_S, Act.put]
   refine rg_take 7 (v := ?_) rfl (by kernel_rfl) (by kernel_rfl) (by kernel_rfl) hS rfl ?_ ?_
   rotate_left
   ·intro wS hSw; have k0 := hSw.cell e7; go_simp; (with_reducible rfl)
   simp only [g_S, Act.put]
   refine rg_one 3 rfl (by kernel_rfl) rfl (fun K hK => ?_)
   go_simp
   (with_reducible refine hstr.mono ?_)
   rintro e w8 ⟨rfl, hK8⟩
   have hSV : ∀ k, V' k → ¬ blk SA = some k := fun k hk e => (hSA k e).2.1 hk
   have hS8 := box_keepF hS hK8 (hSV _ hI7.lb)
   refine hK _ _ hS8 ?_
   clear hK K
   try simp only [g_S, Act.put]
   refine rg_t 8 hS8 ?_
   simp only [g_S, Act.put]
   refine rg_t 9 hS8 ?_
   simp only [g_S, Act.put]
   refine rg_end (by kernel_rfl) ?_
   go_wp2_with (with_reducible refine h_B ?_)
   go_ret2
   refine ⟨V', TT, tc, th, rfl, hI7.keep hK8 hSV, hK7.trans hK8 (fun k hk => hU6 k (hSA k hk).1), fun k hk => ?_, HTD.out, own_keepF hOT7 hK8 (fun g hg e => (hSA g e).2.2 hg), fun g hg => (hTT g hg).2, fun x hx => ⟨own_keepF (hth7 x hx).1 hK8 (fun g hg e => hUT g ((hth7 x hx).2 g hg).1 (hSA g e).1), fun g hg => ((hth7 x hx).2 g hg).2⟩⟩
   rcases hV' k hk with e | e
   ·exact hU6 k e
   ·exact (hne6 k e).2.2.2
end Go.PH
end

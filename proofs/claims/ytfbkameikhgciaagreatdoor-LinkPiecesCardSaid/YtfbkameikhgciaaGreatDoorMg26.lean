/- Texts laid together: LkFeed, LkInit, LpSame, MdGet0, MdHead. -/
import Derived.Test.YtfbkameikhgciaaGreatDoorMg01
import Derived.Test.YtfbkameikhgciaaGreatDoorMg02
import Derived.Test.YtfbkameikhgciaaGreatDoorMg06
import Derived.Test.YtfbkameikhgciaaGreatDoorMg07
import Derived.Test.YtfbkameikhgciaaGreatDoorMg22
import Derived.Test.YtfbkameikhgciaaGreatDoorMg23
import Derived.Test.YtfbkameikhgciaaGreatDoorMg24
import Derived.Test.YtfbkameikhgciaaGreatDoorMg25
set_option linter.all false
set_option linter.unusedSimpArgs false
set_option linter.unusedVariables false
set_option maxRecDepth 20000
set_option maxHeartbeats 8000000
section
namespace Go.PH
open Go.RowKit Go.Proofs
def LS.beginL (L : LS) (b : List UInt8) : LS × List UInt8 :=
 if b.take 8 = hdrB then ({ L with st := 1, sent := L.sent ++ hdrB ++ ctlB L.sz startB }, b.drop 8)
 else if b.length < 8 ∧ b = hdrB.take b.length then (L, b) else ({ L with st := 5, sent := L.sent ++ hdrB }, b)
def LS.pre (L : LS) (b s : List UInt8) : LS × List UInt8 := if L.st = 0 then LS.beginL { L with sent := [], told := [] } (b ++ s) else ({ L with sent := [], told := [] }, b ++ s)
def LS.post (ctl : LS → As → LS) (p : LS × List UInt8) : LS × List UInt8 := if p.1.st = 0 ∨ p.1.st = 5 then p else (p.1.frames ctl (zk p.2).1 (zk p.2).2.2, p.2.drop (zk p.2).2.1)
def LS.feed (ctl : LS → As → LS) (L : LS) (b s : List UInt8) : LS × List UInt8 := if L.st = 5 then ({ L with sent := [], told := [] }, b) else LS.post ctl (L.pre b s)
structure LkI (w : World) (B : Nat) (V : Nat → Prop) (lb n : Nat) (b : List UInt8) (L : LS) : Prop where
 ex : ∃ (gp : Nat) (p q r : Value) (RA : Option Addr) (rn rc : Nat) (F : Nat → Prop),
  Box w lb 61 #[.int .u8 (L.st : Int), .slice RA rn rc, .pointer (some ⟨gp, 0, none⟩), .int .u64 (L.ch : Int), .int .u64 (L.sz : Int), p, q, r] ∧ Ga w F gp n L.g ∧ ¬ F lb ∧ (∀ k, F k → V k) ∧
  RdB w w.heap.size RA rn rc b ∧ (L.st = 0 → Own w B 5 1 RA rn rc (b.map u8v)) ∧ (L.st ≠ 0 → L.st ≠ 5 → rc = rn) ∧ ∀ g, blk RA = some g → V g ∧ g ≠ lb ∧ ¬ F g
 lb : V lb
 v : ∀ k, V k → B ≤ k ∧ k < w.heap.size
def LMid (w : World) (B : Nat) (V : Nat → Prop) (lb n : Nat) (p : LS × List UInt8) (wx : World) : Prop :=
 ∃ (U T : Nat → Prop) (RA : Option Addr) (rn rc : Nat), LkM wx B U T lb n RA rn rc p.1 ∧ RdB wx wx.heap.size RA rn rc p.2 ∧ (p.1.st = 0 → Own wx B 5 1 RA rn rc (p.2.map u8v)) ∧
  (∀ g, blk RA = some g → (B ≤ g ∧ g < wx.heap.size) ∧ ¬ U g ∧ ¬ T g ∧ (V g ∨ w.heap.size ≤ g)) ∧ KeepF V w wx ∧ (∀ k, U k → V k ∨ w.heap.size ≤ k) ∧ ∀ k, T k → V k ∨ w.heap.size ≤ k
def KV (w : World) (B : Nat) (V : Nat → Prop) (lb n : Nat) (p : LS × List UInt8) (e : Ending) (w' : World) : Prop :=
 ∃ (V' : Nat → Prop) (TT : Option Addr) (tc : Nat) (th : List TAs), e = .returned (.tuple #[.string (str p.1.sent), .slice TT p.1.told.length tc]) ∧ LkI w' B V' lb n p.2 p.1 ∧ KeepF V w w' ∧ (∀ k, V' k → V k ∨ w.heap.size ≤ k) ∧
  p.1.told = th.map (·.a) ∧ OwnT w' B TT p.1.told.length tc th ∧ (∀ g, blk TT = some g → ¬ V' g ∧ (V g ∨ w.heap.size ≤ g)) ∧ ∀ x ∈ th, OwnG w' 0 x.A x.a.segs.length x.c x.a.segs ∧ ∀ g, blk x.A = some g → ¬ V' g ∧ (V g ∨ w.heap.size ≤ g)
theorem LkM.start {w : World} {B lb n gp : Nat} {p : Value} {SA : Option Addr} {sc : Nat} {RA : Option Addr} {rn rc : Nat} {L : LS} {F : Nat → Prop} (hL : L.told = [])
  (hb : Box w lb 61 #[.int .u8 (L.st : Int), .slice RA rn rc, .pointer (some ⟨gp, 0, none⟩), .int .u64 (L.ch : Int), .int .u64 (L.sz : Int), p, .slice SA L.sent.length sc, .slice none 0 0]) (hp : p = .pointer none ∨ p = bPtr lb 5)
  (hs : Own w B 5 1 SA L.sent.length sc (L.sent.map u8v)) (hg : Ga w F gp n L.g) (hSA : ∀ b, blk SA = some b → b ≠ lb ∧ ¬ F b) (hFl : ¬ F lb) (hF : ∀ k, F k → B ≤ k) (hlb : B ≤ lb) : LkM w B (fun k => k = lb ∨ F k ∨ blk SA = some k) (fun _ => False) lb n RA rn rc L where
 ex := ⟨gp, p, SA, sc, none, 0, [], F, by rw [hL]; exact hb, hp, hs, by rw [hL]; exact Own.none_ _ _ _ _, by rw [hL]; rfl, (fun x hx => by cases hx), hg, fun b hb => .inr (.inl hb), fun b hb => ⟨.inr (.inr hb), (hSA b hb).1, (hSA b hb).2, by simp⟩, (fun b hb => by cases hb), hFl⟩
 lb := .inl rfl
 size := Nat.le_trans hlb (Nat.le_of_lt hb.lt)
 uB := fun b hb2 => by
  rcases hb2 with rfl | h | h
  ·exact ⟨hlb, hb.lt⟩
  ·exact ⟨hF b h, hg.lt b h⟩
  ·exact hs.blk_lt h
 tB := fun b h => h.elim
 ut := fun b h => h.elim
theorem LkI.keep {w w' : World} {B : Nat} {V G : Nat → Prop} {lb n : Nat} {b : List UInt8} {L : LS} (h : LkI w B V lb n b L) (hk : KeepF G w w') (hG : ∀ k, V k → ¬ G k) : LkI w' B V lb n b L where
 ex := by
  obtain ⟨gp, p, q, r, RA, rn, rc, F, h1, h2, h3, h4, h5, h6, h7, h8⟩ := h.ex
  exact ⟨gp, p, q, r, RA, rn, rc, F, ym h1 hk (hG _ h.lb), h2.keepF hk (fun k hk' => hG k (h4 k hk')), h3, h4, (xn h5 hk (Nat.le_refl _) (fun g hg => hG g (h8 g hg).1)).more hk.1, fun e => zq (h6 e) hk (fun g hg => hG g (h8 g hg).1), h7, h8⟩
 lb := h.lb
 v := fun k hk' => ⟨(h.v k hk').1, Nat.lt_of_lt_of_le (h.v k hk').2 hk.1⟩
theorem LkM.idle {w : World} {B : Nat} {U T : Nat → Prop} {lb n : Nat} {RA : Option Addr} {rn rc : Nat} {L : LS} {b : List UInt8} (h : LkM w B U T lb n RA rn rc L) (hr : RdB w w.heap.size RA rn rc b) (h0 : L.st = 0 → Own w B 5 1 RA rn rc (b.map u8v)) (h5 : L.st ≠ 0 → L.st ≠ 5 → rc = rn)
  (hB : ∀ g, blk RA = some g → (B ≤ g ∧ g < w.heap.size) ∧ ¬ U g ∧ ¬ T g) :
  ∃ (V' : Nat → Prop) (TT : Option Addr) (tc : Nat) (th : List TAs) (p : Value) (SA : Option Addr) (sc : Nat) (cs : Array Value), LkI w B V' lb n b L ∧ (∀ k, V' k → U k ∨ blk RA = some k) ∧ L.told = th.map (·.a) ∧ OwnT w B TT L.told.length tc th ∧ (∀ g, blk TT = some g → U g ∧ ¬ V' g) ∧ (∀ x ∈ th, OwnG w 0 x.A x.a.segs.length x.c x.a.segs ∧ ∀ g, blk x.A = some g → T g ∧ ¬ V' g) ∧
   Box w lb 61 cs ∧ cs[6]? = some (.slice SA L.sent.length sc) ∧ cs[7]? = some (.slice TT L.told.length tc) ∧ Own w B 5 1 SA L.sent.length sc (L.sent.map u8v) ∧ ∀ g, blk SA = some g → U g ∧ ¬ V' g ∧ blk TT ≠ some g := by
 obtain ⟨gp, p, SA, sc, TT, tc, th, F, h1, h2, h3, h4, h5', h6, h7, h8, h9, h10, h11⟩ := h.ex
 refine ⟨fun k => k = lb ∨ F k ∨ blk RA = some k, TT, tc, th, p, SA, sc, _, ⟨⟨gp, p, _, _, RA, rn, rc, F, h1, h7, h11, fun k hk => .inr (.inl hk), hr, h0, h5, fun g hg => ⟨.inr (.inr hg), fun e => (hB g hg).2.1 (e ▸ h.lb), fun e => (hB g hg).2.1 (h8 g e)⟩⟩, .inl rfl, fun k hk => ?_⟩, fun k hk => ?_, h5', h4, fun g hg => ⟨(h10 g hg).1, fun e => ?_⟩, fun x hx => ⟨(h6 x hx).1, fun g hg => ⟨(h6 x hx).2 g hg, fun e => ?_⟩⟩, h1, rfl, rfl, h3, fun g hg => ⟨(h9 g hg).1, fun e => ?_, (h9 g hg).2.2.2⟩⟩
 ·rcases hk with rfl | e | e
  ·exact h.uB _ h.lb
  ·exact h.uB _ (h8 k e)
  ·exact (hB k e).1
 ·rcases hk with rfl | e | e
  ·exact .inl h.lb
  ·exact .inl (h8 k e)
  ·exact .inr e
 ·rcases e with e | e | e
  ·exact (h10 g hg).2.1 e
  ·exact (h10 g hg).2.2 e
  ·exact (hB g e).2.1 (h10 g hg).1
 ·have ht := (h6 x hx).2 g hg
  rcases e with e | e | e
  ·exact h.ut g ht (e ▸ h.lb)
  ·exact h.ut g ht (h8 g e)
  ·exact (hB g e).2.2 ht
 ·rcases e with e | e | e
  ·exact (h9 g hg).2.1 e
  ·exact (h9 g hg).2.2.1 e
  ·exact (hB g e).2.1 (h9 g hg).1
theorem Qk {ctl : LS → As → LS} {P : Nat → LS → Prop} {l : List Fr} {L : LS} {e : Nat} (hst : ∀ k M, P k M → M.st ≠ 0) (hs : ∀ k M f, k < l.length → f ∈ l → P k M → P (k + 1) (M.take ctl f)) (h0 : P 0 L) : (L.frames ctl l e).st ≠ 0 := by
 have hg : ∀ (r : List Fr) (k : Nat) (L : LS), k + r.length ≤ l.length → (∀ f ∈ r, f ∈ l) → P k L → (L.goes ctl r).st ≠ 0 := by
  intro r
  induction r with
  | nil => intro k L _ _ h; exact hst k L h
  | cons f r ih =>
   intro k L hk hm h
   by_cases h5 : L.st = 5
   ·rw [LS.goes_closed h5, h5]; decide
   ·rw [LS.goes_cons ctl L f r h5]
    rw [List.length_cons] at hk
    exact ih (k + 1) _ (by omega) (fun g hg => hm g (List.mem_cons_of_mem _ hg)) (hs k L f (by omega) (hm f (List.mem_cons_self ..)) h)
 unfold LS.frames
 split
 ·show (5 : Nat) ≠ 0; decide
 ·exact hg l 0 L (by omega) (fun _ h => h) h0
theorem Ql (ctl : LS → As → LS) (P : Nat → LS → Prop) (s b : List UInt8) {w : World} {B : Nat} {V : Nat → Prop} {lb n : Nat} {L : LS} (h : LkI w B V lb n b L) (he : MEnv w) (hgl : 0 < B) (hsz : L.sz ≤ 1000000) (hbl : b.length ≤ 100000000) (hsl : s.length ≤ 100000000) (hst5 : L.st < 256)
  (hnn : n + (zk (L.pre b s).2).1.length < 1000000000)
  (hPst : ∀ k M, P k M → M.st ≠ 0) (hP : ∀ k M, P k M → M.g.Inv ∧ M.sz ≤ 1000000 ∧ M.ch < 65536 ∧ M.sent.length ≤ 10000000000 ∧ M.told.length ≤ 1000000000)
  (hPs : ∀ k M f, k < (zk (L.pre b s).2).1.length → f ∈ (zk (L.pre b s).2).1 → P k M → P (k + 1) (M.take ctl f)) (hP0 : (L.pre b s).1.st ≠ 0 → (L.pre b s).1.st ≠ 5 → P 0 (L.pre b s).1) (hfw : ∀ f ∈ (zk (L.pre b s).2).1, f.wf ∧ f.load.length ≤ 1000000)
  (hctl : ∀ k M f a A c W U' T' m RA' rn' rc', f ∈ (zk (L.pre b s).2).1 → P k M → M.g.out f = some a → a.chan = 0 → LkM W B U' T' lb m RA' rn' rc' { M with g := M.g.next f } → OwnG W 0 A a.segs.length c a.segs → (∀ b, blk A = some b → T' b) → MEnv W → Below B w W →
   Calls Tryz.prog 56 #[.pointer (some ⟨lb, 0, none⟩), .agg (asV a.chan a.track A a.segs.length c)] W fun e w' => e = .returned (.tuple #[]) ∧ LStep W B U' T' lb m RA' rn' rc' (ctl { M with g := M.g.next f } a) w') :
  Calls Tryz.prog 12 #[.pointer (some ⟨lb, 0, none⟩), .string (str s)] w (KV w B V lb (n + (zk (L.pre b s).2).1.length) (L.feed ctl b s)) := by
 obtain ⟨gp, p, q, r, RA, rn, rc, F, hb, hga, hFl, hFV, hr, ho, hfull, hRA⟩ := h.ex
 have hlb := h.lb
 have hV := h.v
 have c0 := hb.c0
 have c2 := hb.c2
 have hst := xi lb L.st gp w c0 c2
 have hrl := hr.length
 by_cases h5 : L.st = 5
 ·have HF : L.feed ctl b s = ({ L with sent := [], told := [] }, b) := by unfold LS.feed; rw [if_pos h5]
  rw [HF]
  rw [h5] at hst
  rw [show ((5 : Nat) : Int) = 5 from rfl] at hst
  have hI : LkI w B V lb (n + (zk (L.pre b s).2).1.length) b { L with sent := [], told := [] } := ⟨⟨gp, p, q, r, RA, rn, rc, F, hb, hga.mono (by omega), hFl, hFV, hr, ho, hfull, hRA⟩, hlb, hV⟩
  clear hctl hPs hP hPst hP0 c0 c2 hb h5
  go_enter Tryz.func12, Tryz.ntmps12
  go_wp2_with (with_reducible refine h_A ?_)
  refine hst.mono ?_
  rintro e w1 ⟨rfl, rfl⟩
  go_wp2_with (with_reducible refine h_A ?_)
  go_ret2
  exact ⟨V, none, 0, [], rfl, hI, KeepF.refl _ _, fun k hk => .inl hk, rfl, Own.none_ _ _ _ _, (fun g hg => by cases hg), (fun x hx => by cases hx)⟩
 have HF : L.feed ctl b s = LS.post ctl (L.pre b s) := by unfold LS.feed; rw [if_neg h5]
 rw [HF]
 clear HF
 obtain ⟨pr, hpr⟩ : ∃ p, p = L.pre b s := ⟨_, rfl⟩
 rw [← hpr] at hnn hPs hP0 hfw hctl ⊢
 have HPR := Lib.hid hpr
 have HCTL := Lib.hid hctl
 have HPS := Lib.hid hPs
 have HP := Lib.hid hP
 have HPST := Lib.hid hPst
 clear hpr hctl hPs hP hPst
 obtain ⟨Q, hq⟩ : ∃ q, q = LS.post ctl pr := ⟨_, rfl⟩
 rw [← hq]
 have HQ := Lib.hid hq
 clear hq
 obtain ⟨m, hm⟩ : ∃ m, m = n + (zk pr.2).1.length := ⟨_, rfl⟩
 rw [← hm]
 have HM := Lib.hid hm
 clear hm
 have hrs := kD (off := 5) w _ hb (by simp)
 have hss := zj s
 have g5 : ¬ (L.st : Int) = 5 := by omega
 go_enter Tryz.func12, Tryz.ntmps12
 go_wp2_with (with_reducible refine h_B ?_)
 refine hst.mono ?_
 rintro e w1 ⟨rfl, rfl⟩
 clear hst
 go_wp2_with (with_reducible refine h_B ?_)
 refine hrs.mono ?_
 rintro e w1 ⟨rfl, hb1, hg1, hz1⟩
 clear hrs c0 c2 hz1
 replace hb1 : Box w1 lb 61 #[.int .u8 (L.st : Int), .slice RA rn rc, .pointer (some ⟨gp, 0, none⟩), .int .u64 (L.ch : Int), .int .u64 (L.sz : Int), .pointer none, .slice none 0 0, r] := hb1
 go_wp2_with (with_reducible refine h_B ?_)
 refine zc (yz rfl rfl rfl rfl hb1 (j := 7) (v := .slice none 0 0) rfl (by kernel_rfl) (by simp) ?_)
 intro w2 hb2 hg2 hz2
 clear hz2
 replace hb2 : Box w2 lb 61 #[.int .u8 (L.st : Int), .slice RA rn rc, .pointer (some ⟨gp, 0, none⟩), .int .u64 (L.ch : Int), .int .u64 (L.sz : Int), .pointer none, .slice none 0 0, .slice none 0 0] := hb2
 have c1 := hb2.c1
 have hkl : KeepF (fun k => k = lb) w w2 := (KeepF.grown (F := fun k => k = lb) hg1 (fun g hg => .inl (by injection hg with hg; exact hg.symm))).trans (KeepF.grown (F := fun k => k = lb) hg2 (fun g hg => .inl (by injection hg with hg; exact hg.symm))) (fun k hk => .inl hk)
 have hK2 : KeepF V w w2 := hkl.weak (fun g hg => .inl (hg ▸ hlb))
 have hga2 : Ga w2 F gp n L.g := hga.keepF hkl (fun k hk e => hFl (e ▸ hk))
 clear hg1 hg2 hb hb1
 have hor : Own w2 B 5 1 RA rn rc (b.map u8v) ∨ rc = rn ∧ Rd w2 w.heap.size 1 RA rn rn (b.map u8v) := by
  by_cases h0 : L.st = 0
  ·exact .inl (zq (ho h0) hkl (fun g hg e => (hRA g hg).2.1 e))
  ·have hrc : rc = rn := hfull h0 h5
   subst hrc
   exact .inr ⟨rfl, xn hr hkl (Nat.le_refl _) (fun g hg e => (hRA g hg).2.1 e)⟩
 have hown2 := fun (h0 : L.st = 0) => zq (ho h0) hkl (fun g hg e => (hRA g hg).2.1 e)
 go_wp2_with (with_reducible refine h_B ?_)
 refine zc (Yv (base := B) slB Tryz.underlying9 rfl rfl rfl rfl hor hkl.1 (by have := (hV _ hlb).1; have := hb2.lt; omega) (by omega) (fun g hg => ⟨(hV g (hRA g hg).1).1, Nat.lt_of_lt_of_le (hV g (hRA g hg).1).2 hkl.1⟩) ?_)
 intro A2 c2 w3 hr3 hO3 hg3 hA3 hbd3
 have hne2 : ∀ g, blk A2 = some g → g ≠ lb ∧ ¬ F g ∧ (V g ∨ w.heap.size ≤ g) := fun g hg => by
  refine ⟨?_, ?_, ?_⟩
  ·rcases hA3 with e | e
   ·rw [e] at hg; exact (hRA g hg).2.1
   ·have := e g hg; have := hb2.lt; omega
  ·rcases hA3 with e | e
   ·rw [e] at hg; exact (hRA g hg).2.2
   ·intro hF; have := e g hg; have := hga2.lt g hF; omega
  ·rcases hA3 with e | e
   ·rw [e] at hg; exact .inl (hRA g hg).1
   ·have := e g hg; have := hK2.1; exact .inr (by omega)
 have hb3 := hb2.grown hg3 (fun e => (hRA lb e.symm).2.1 rfl)
 clear c1
 have c1 := hb3.c1
 go_wp2_with (with_reducible refine h_B ?_)
 refine zc (yz rfl rfl rfl rfl hb3 (j := 1) (v := .slice A2 (rn + s.length) c2) rfl (by kernel_rfl) (by simp) ?_)
 intro w4 hb4 hg4 hz4
 clear hz4 c1
 replace hb4 : Box w4 lb 61 #[.int .u8 (L.st : Int), .slice A2 (rn + s.length) c2, .pointer (some ⟨gp, 0, none⟩), .int .u64 (L.ch : Int), .int .u64 (L.sz : Int), .pointer none, .slice none 0 0, .slice none 0 0] := hb4
 have hk34 : KeepF (fun k => k = lb) w3 w4 := KeepF.grown hg4 (fun g hg => .inl (by injection hg with hg; exact hg.symm))
 have hK4 : KeepF V w w4 := (hK2.trans (KeepF.grown (F := V) hg3 (fun g hg => .inl (hRA g hg).1)) (fun k hk => .inl hk)).trans (hk34.weak (G := V) (fun g hg => .inl (hg ▸ hlb))) (fun k hk => .inl hk)
 have hO4 : L.st = 0 → Own w4 B 5 1 A2 (rn + s.length) c2 ((b ++ s).map u8v) := fun h0 => by
  have := zq (hO3 (hown2 h0)) hk34 (fun g hg => (hne2 g hg).1)
  rwa [← List.map_append] at this
 have hr4 : RdB w4 w4.heap.size A2 (rn + s.length) c2 (b ++ s) := by
  have := (xn hr3 hk34 (Nat.le_refl _) (fun g hg => (hne2 g hg).1)).more hk34.1
  rwa [← List.map_append] at this
 have hga4 : Ga w4 F gp n L.g := (hga2.keepF (KeepF.grown (F := fun k => blk RA = some k) hg3 (fun g hg => .inl hg)) (fun k hk e => (hRA k e).2.2 hk)).keepF hk34 (fun k hk e => hFl (e ▸ hk))
 have hne4 : ∀ g, blk A2 = some g → (B ≤ g ∧ g < w4.heap.size) ∧ g ≠ lb ∧ ¬ F g ∧ (V g ∨ w.heap.size ≤ g) := fun g hg => ⟨⟨(hbd3 g hg).1, Nat.lt_of_lt_of_le (hbd3 g hg).2 hk34.1⟩, hne2 g hg⟩
 have hlB : B ≤ lb := (hV _ hlb).1
 have hFB : ∀ k, F k → B ≤ k := fun k hk => (hV k (hFV k hk)).1
 have hVB : ∀ g, V g → B ≤ g := fun g e => (hV g e).1
 have hBw : B ≤ w.heap.size := by have := hV _ hlb; omega
 have hgV : ¬ V 0 := fun e => by have := (hV _ e).1; omega
 have he4 : MEnv w4 := he.onK hK4 (fun e => by have := (hV _ e).1; omega)
 have hbs : (b ++ s).length = rn + s.length := by rw [List.length_append, hrl]
 have hlB' : rn + s.length ≤ 200000000 := by omega
 clear hb2 hb3 hO3 hg3 hA3 hg4 hga2 hne2 hga hkl hK2 hr ho hfull hor hown2 hr3 hk34 hbd3 hRA hV
 have c0 := hb4.c0
 go_upto_if 29 with fail
 have hpl : pr.2.length ≤ 200000000 := by
  rw [HPR.out]
  unfold LS.pre LS.beginL
  split
  ·split
   ·show ((b ++ s).drop 8).length ≤ _; rw [List.length_drop]; omega
   ·split <;> (show (b ++ s).length ≤ _; omega)
  ·show (b ++ s).length ≤ _; omega
 generalize rn + s.length = N at *
 go_cut [] from 6 (fun wx => LMid w B V lb n pr wx)
 case first =>
  have hb5 := hb4
  clear hP0 hfw HCTL HPS HP HPST hnn HQ HM
  by_cases h0 : L.st = 0
  ·have HPB : Hid (pr = LS.beginL { L with sent := [], told := [] } (b ++ s)) := Lib.hid (by rw [HPR.out]; unfold LS.pre; rw [if_pos h0])
   rw [h0] at hb5 c0
   rw [show ((0 : Nat) : Int) = 0 from rfl] at hb5 c0
   have hOw := hO4 h0
   have hnl : 0 ≠ lb := by omega
   have hrm := hr4.max
   have hrc := hr4.cap
   clear HPR hO4 g5 h5
   generalize b ++ s = r0 at *
   by_cases q1 : r0.take 8 = hdrB
   ·have hbg := kB lb L.sz B 0 0 N c2 w4.heap.size _ _ _ (.pointer none) A2 none [] r0 w4 he4 hb5 hr4 (Nat.le_refl _) hsz (.inl rfl) (Own.none_ w4 B 5 1) (by intro e; cases e) (by have := hb4.lt; omega) (by omega) (by omega) hnl hgl q1
    have HP1 : Hid (pr = ({ L with st := 1, sent := [] ++ hdrB ++ ctlB L.sz startB, told := [] }, r0.drop 8)) := Lib.hid (by rw [HPB.out]; unfold LS.beginL; rw [if_pos q1])
    clear HPB hb5 q1 hOw
    go_wp2_with (with_reducible refine h_A ?_)
    refine hbg.mono ?_
    rintro e w5 ⟨rfl, hN8, ⟨A3, c3, hb6, hO6, hn6, hA6⟩, hK5⟩
    clear hbg
    go_wp2_with (with_reducible refine h_A ?_)
    go_meet
    rw [HP1.out]
    have hA6' : ∀ k, blk A3 = some k → w4.heap.size ≤ k := fun k hk => by
     rcases hA6 with e | e
     ·rw [e] at hk; cases hk
     ·exact e k hk
    have hfb := hb4.lt
    have hgl4 := hga4.lt
    have hF5 : Ga w5 F gp n L.g := hga4.keepF hK5 (fun k hk e => by rcases e with e | e; exact hFl (e ▸ hk); cases e)
    have hM := LkM.start (L := { L with st := 1, sent := [] ++ hdrB ++ ctlB L.sz startB, told := [] }) rfl hb6 (.inr rfl) hO6 hF5 (fun k hk => ⟨fun e => hn6 (e ▸ hk), fun e => by have := hA6' k hk; have := hgl4 k e; omega⟩) hFl hFB hlB
    have hr5 : RdB w5 w5.heap.size (cutA A2 1 8 c2) (N - 8) (c2 - 8) (r0.drop 8) := by
     have h1 := RdB.cut (lo := 8) (k := N - 8) hr4 (by omega)
     rw [List.take_of_length_le (by rw [List.length_drop]; omega)] at h1
     exact (xn h1 hK5 (Nat.le_refl _) (fun g hg e => by rw [qN] at hg; rcases e with e | e; exact (hne4 g hg).2.1 e; cases e)).more hK5.1
    refine ⟨_, _, _, _, _, hM, hr5, (fun e => by cases e), fun g hg => ?_, hK4.trans hK5 (fun k hk => by rcases hk with e | e; exact .inl (e ▸ hlb); cases e), fun k hk => ?_, fun k e => e.elim⟩
    ·rw [qN] at hg
     have h1 := hne4 g hg
     refine ⟨⟨h1.1.1, Nat.lt_of_lt_of_le h1.1.2 hK5.1⟩, fun e => ?_, fun e => e, h1.2.2.2⟩
     rcases e with e | e | e
     ·exact h1.2.1 e
     ·exact h1.2.2.1 e
     ·have := hA6' g e; omega
    ·rcases hk with e | e | e
     ·exact .inl (e ▸ hlb)
     ·exact .inl (hFV k e)
     ·have := hA6' k e; have := hK4.1; exact .inr (by omega)
   ·by_cases q2 : r0.length < 8 ∧ r0 = hdrB.take r0.length
    ·have hbg := Yo lb L.sz B 0 0 N c2 w4.heap.size _ _ _ (.pointer none) A2 none [] r0 w4 he4 hb5 hr4 (Nat.le_refl _) hsz (.inl rfl) (Own.none_ w4 B 5 1) (by intro e; cases e) (by have := hb4.lt; omega) (by omega) (by omega) hnl hgl (by omega) (by rw [← hbs]; exact q2.2)
     have HP1 : Hid (pr = ({ L with sent := [], told := [] }, r0)) := Lib.hid (by rw [HPB.out]; unfold LS.beginL; rw [if_neg q1, if_pos q2])
     clear HPB hb5 q1 q2
     go_wp2_with (with_reducible refine h_A ?_)
     refine hbg.mono ?_
     rintro e w5 ⟨rfl, hB5⟩
     clear hbg
     go_wp2_with (with_reducible refine h_A ?_)
     go_meet
     rw [HP1.out]
     have hM := LkM.start (L := { L with sent := [], told := [] }) rfl (hb4.below hB5) (.inl rfl) (Own.none_ _ _ _ _) (hga4.below hB5) (fun k hk => by cases hk) hFl hFB hlB
     have hk5 : KeepF V w4 w5 := .below hB5
     refine ⟨_, _, _, _, _, hM, (hr4.below hB5).more hB5.size, fun _ => zg hOw hB5, fun g hg => ?_, hK4.trans hk5 (fun k hk => .inl hk), fun k hk => ?_, fun k e => e.elim⟩
     ·have h1 := hne4 g hg
      refine ⟨⟨h1.1.1, Nat.lt_of_lt_of_le h1.1.2 hB5.size⟩, fun e => ?_, fun e => e, h1.2.2.2⟩
      rcases e with e | e | e
      ·exact h1.2.1 e
      ·exact h1.2.2.1 e
      ·cases e
     ·rcases hk with e | e | e
      ·exact .inl (e ▸ hlb)
      ·exact .inl (hFV k e)
      ·cases e
    ·have hbg := vx lb L.sz B 0 0 N c2 w4.heap.size _ _ _ (.pointer none) A2 none [] r0 w4 he4 hb5 hr4 (Nat.le_refl _) hsz (.inl rfl) (Own.none_ w4 B 5 1) (by intro e; cases e) (by have := hb4.lt; omega) (by omega) (by omega) hnl hgl (fun e => by
      by_cases h8 : N < 8
      ·exact q2 ⟨by omega, by rw [hbs, ← e, List.take_of_length_le (by omega)]⟩
      ·exact q1 (by rw [e, List.take_of_length_le (by have : hdrB.length = 8 := rfl; omega)]))
     have HP1 : Hid (pr = ({ L with st := 5, sent := [] ++ hdrB, told := [] }, r0)) := Lib.hid (by rw [HPB.out]; unfold LS.beginL; rw [if_neg q1, if_neg q2])
     clear HPB hb5 q1 q2 hOw
     go_wp2_with (with_reducible refine h_A ?_)
     refine hbg.mono ?_
     rintro e w5 ⟨rfl, ⟨A3, c3, hb6, hO6, hn6, hA6⟩, hK5⟩
     clear hbg
     go_wp2_with (with_reducible refine h_A ?_)
     go_meet
     rw [HP1.out]
     have hA6' : ∀ k, blk A3 = some k → w4.heap.size ≤ k := fun k hk => by
      rcases hA6 with e | e
      ·rw [e] at hk; cases hk
      ·exact e k hk
     have hfb := hb4.lt
     have hgl4 := hga4.lt
     have hF5 : Ga w5 F gp n L.g := hga4.keepF hK5 (fun k hk e => by rcases e with e | e; exact hFl (e ▸ hk); cases e)
     have hM := LkM.start (L := { L with st := 5, sent := [] ++ hdrB, told := [] }) rfl hb6 (.inr rfl) hO6 hF5 (fun k hk => ⟨fun e => hn6 (e ▸ hk), fun e => by have := hA6' k hk; have := hgl4 k e; omega⟩) hFl hFB hlB
     refine ⟨_, _, _, _, _, hM, (xn hr4 hK5 (Nat.le_refl _) (fun g hg e => by rcases e with e | e; exact (hne4 g hg).2.1 e; cases e)).more hK5.1, (fun e => by cases e), fun g hg => ?_, hK4.trans hK5 (fun k hk => by rcases hk with e | e; exact .inl (e ▸ hlb); cases e), fun k hk => ?_, fun k e => e.elim⟩
     ·have h1 := hne4 g hg
      refine ⟨⟨h1.1.1, Nat.lt_of_lt_of_le h1.1.2 hK5.1⟩, fun e => ?_, fun e => e, h1.2.2.2⟩
      rcases e with e | e | e
      ·exact h1.2.1 e
      ·exact h1.2.2.1 e
      ·have := hA6' g e; omega
     ·rcases hk with e | e | e
      ·exact .inl (e ▸ hlb)
      ·exact .inl (hFV k e)
      ·have := hA6' k e; have := hK4.1; exact .inr (by omega)
  ·have HP1 : Hid (pr = ({ L with sent := [], told := [] }, b ++ s)) := Lib.hid (by rw [HPR.out]; unfold LS.pre; rw [if_neg h0])
   have g0 : ¬ (L.st : Int) = 0 := by omega
   clear HPR
   go_wp2_with (with_reducible refine h_A ?_)
   go_meet
   rw [HP1.out]
   have hM := LkM.start (L := { L with sent := [], told := [] }) rfl hb4 (.inl rfl) (Own.none_ _ _ _ _) hga4 (fun k hk => by cases hk) hFl hFB hlB
   refine ⟨_, _, _, _, _, hM, hr4, hO4, fun g hg => ?_, hK4, fun k hk => ?_, fun k e => e.elim⟩
   ·have h1 := hne4 g hg
    refine ⟨h1.1, fun e => ?_, fun e => e, h1.2.2.2⟩
    rcases e with e | e | e
    ·exact h1.2.1 e
    ·exact h1.2.2.1 e
    ·cases e
   ·rcases hk with e | e | e
    ·exact .inl (e ▸ hlb)
    ·exact .inl (hFV k e)
    ·cases e
 case rest =>
  clear hb4 c0 hga4 hne4 hO4 hr4 he4 hbs hlB' hK4 hFB hFV hFl
  obtain ⟨U, T, RB, rm, rd, hM, hr5, hO5, hne5, hK5, hU5, hT5⟩ := hcut
  have c0 := hM.c0
  have hrl5 := hr5.length
  go_upto_region 8 with fail
  obtain ⟨go, hgo⟩ : ∃ x, x = decide (¬ pr.1.st = 0 ∧ ¬ pr.1.st = 5) := ⟨_, rfl⟩
  have HGO := Lib.hid hgo
  clear hgo
  go_cut [43] from 6 (fun s43 wx => s43 = .bool go ∧ wc = wx)
  case first =>
   clear HPR HP HPS HPST HCTL HQ HM hP0 hfw hnn hr5 hO5 hM
   by_cases p0 : pr.1.st = 0
   ·obtain rfl : go = false := by rw [HGO.out]; simp [p0]
    rw [p0] at c0
    rw [show ((0 : Nat) : Int) = 0 from rfl] at c0
    clear p0 HGO
    go_wp2_with (with_reducible refine h_A ?_)
    go_meet
    case rel => exact ⟨rfl, rfl⟩
   ·have d0 : ((pr.1.st : Int) != 0) = true := by simp; omega
    by_cases p5 : pr.1.st = 5
    ·obtain rfl : go = false := by rw [HGO.out]; simp [p5]
     rw [p5] at c0
     rw [show ((5 : Nat) : Int) = 5 from rfl] at c0
     clear p0 p5 HGO
     go_wp2_with (with_reducible refine h_A ?_)
     go_meet
     case rel => exact ⟨rfl, rfl⟩
    ·obtain rfl : go = true := by rw [HGO.out]; simp [p0, p5]
     have d5 : ((pr.1.st : Int) != 5) = true := by simp; omega
     clear p0 p5 HGO
     go_wp2_with (with_reducible refine h_A ?_)
     go_meet
     case rel => exact ⟨rfl, rfl⟩
  case rest =>
  obtain ⟨rfl, rfl⟩ := hcut
  clear c0
  go_upto_if 43 with fail
  go_cut [] from 6 (fun wx => ∃ (U T : Nat → Prop) (RA : Option Addr) (rn rc : Nat), LkM wx B U T lb m RA rn rc Q.1 ∧ RdB wx wx.heap.size RA rn rc Q.2 ∧ (Q.1.st = 0 → Own wx B 5 1 RA rn rc (Q.2.map u8v)) ∧ (Q.1.st ≠ 0 → Q.1.st ≠ 5 → rc = rn) ∧
   (∀ g, blk RA = some g → (B ≤ g ∧ g < wx.heap.size) ∧ ¬ U g ∧ ¬ T g ∧ (V g ∨ w.heap.size ≤ g)) ∧ KeepF V w wx ∧ (∀ k, U k → V k ∨ w.heap.size ≤ k) ∧ ∀ k, T k → V k ∨ w.heap.size ≤ k)
  case first =>
   by_cases p0 : pr.1.st = 0
   ·have HQ2 : Hid (Q = pr) := Lib.hid (by rw [HQ.out]; unfold LS.post; rw [if_pos (.inl p0)])
    obtain rfl : go = false := by rw [HGO.out]; simp [p0]
    go_wp2_with (with_reducible refine h_A ?_)
    go_meet
    rw [HQ2.out]
    exact ⟨U, T, RB, rm, rd, hM.mono (by have := HM.out; omega), hr5, hO5, fun e => absurd p0 e, hne5, hK5, hU5, hT5⟩
   ·by_cases p5 : pr.1.st = 5
    ·have HQ2 : Hid (Q = pr) := Lib.hid (by rw [HQ.out]; unfold LS.post; rw [if_pos (.inr p5)])
     obtain rfl : go = false := by rw [HGO.out]; simp [p5]
     go_wp2_with (with_reducible refine h_A ?_)
     go_meet
     rw [HQ2.out]
     exact ⟨U, T, RB, rm, rd, hM.mono (by have := HM.out; omega), hr5, hO5, fun _ e => absurd p5 e, hne5, hK5, hU5, hT5⟩
    ·have HQ2 : Hid (Q = (pr.1.frames ctl (zk pr.2).1 (zk pr.2).2.2, pr.2.drop (zk pr.2).2.1)) := Lib.hid (by rw [HQ.out]; unfold LS.post; rw [if_neg (by omega)])
     have hfr := Yh ctl P pr.2 hM hr5 (fun g hg => (hne5 g hg).2.1) (by omega) (by have := (jv pr.2).2; omega) hnn (he.onK hK5 hgV) hgl HP.out HPS.out (hP0 p0 p5) hfw (fun k M f a A c W U' T' m RA' rn' rc' e1 e2 e3 e4 e5 e6 e7 e8 e9 => HCTL.out k M f a A c W U' T' m RA' rn' rc' e1 e2 e3 e4 e5 e6 e7 e8 ((hK5.toBelow hBw hVB).trans e9))
     obtain rfl : go = true := by rw [HGO.out]; simp [p0, p5]
     have HST : Hid (pr.1.st ≠ 0 → pr.1.st ≠ 5 → (pr.1.frames ctl (zk pr.2).1 (zk pr.2).2.2).st ≠ 0) := Lib.hid (fun p0 p5 => Qk HPST.out HPS.out (hP0 p0 p5))
     clear HP HPS HCTL hP0 hfw HPST
     go_wp2_with (with_reducible refine h_A ?_)
     refine hfr.mono ?_
     rintro e w6 ⟨rfl, RA', ⟨U', T', hM', hk', hU', hT'⟩, hR', hbl⟩
     clear hfr
     go_wp2_with (with_reducible refine h_A ?_)
     go_meet
     rw [HQ2.out]
     refine ⟨U', T', RA', _, _, by rw [HM.out]; exact hM', hR', fun e => ?_, fun _ _ => rfl, fun g hg => ?_, hK5.trans hk' hU5, fun k hk => ?_, fun k hk => ?_⟩
     ·exact absurd e (HST.out p0 p5)
     ·have h1 := hne5 g (by rcases hbl with e | e; rw [← e]; exact hg; rw [e] at hg; cases hg)
      have hz := hk'.1
      refine ⟨⟨h1.1.1, Nat.lt_of_lt_of_le h1.1.2 hz⟩, fun e => ?_, fun e => ?_, h1.2.2.2⟩
      ·rcases hU' g e with e | e
       ·exact h1.2.1 e
       ·omega
      ·rcases hT' g e with e | e | e
       ·exact h1.2.2.1 e
       ·exact h1.2.1 e
       ·omega
     ·have hz := hK5.1
      rcases hU' k hk with e | e
      ·exact hU5 k e
      ·exact .inr (by omega)
     ·have hz := hK5.1
      rcases hT' k hk with e | e | e
      ·exact hT5 k e
      ·exact hU5 k e
      ·exact .inr (by omega)
  case rest =>
   clear hM hr5 hO5 hne5 hK5 hU5 hT5 HPR HP HPS HPST HCTL hP0 hfw hpl hrl5 hnn
   obtain ⟨U, T, RA, rn, rc, hM, hr6, hO6, hf6, hne6, hK6, hU6, hT6⟩ := hcut
   obtain ⟨V', TT, tc, th, p, SA, sc, cs, hI, hV', htd, hOT, hTT, hth, hbx, e6, e7, hOS, hSA⟩ := hM.idle hr6 hO6 hf6 (fun g hg => ⟨(hne6 g hg).1, (hne6 g hg).2.1, (hne6 g hg).2.2.1⟩)
   have hUT := hM.ut
   have HTD := Lib.hid htd
   clear htd hM hr6 hO6 hf6
   go_wp2
   refine zD (fun W : World => Box W lb 61 cs) (by kernel_rfl) ?_
   have hS : Box wc.drew lb 61 cs := hbx
   have hO7 : Own wc.drew B 5 1 SA Q.1.sent.length sc (Q.1.sent.map u8v) := hOS
   have hbd : KeepF V wc wc.drew := .below (za (Below.refl _ _) 1)
   have hI7 : LkI wc.drew B V' lb m Q.2 Q.1 := hI.keep (G := fun _ => False) (.below (za (Below.refl _ _) 1)) (fun _ _ e => e)
   have hOT7 : OwnT wc.drew B TT Q.1.told.length tc th := hOT
   have hth7 : ∀ x ∈ th, OwnG wc.drew 0 x.A x.a.segs.length x.c x.a.segs ∧ ∀ g, blk x.A = some g → T g ∧ ¬ V' g := hth
   have hK7 := hK6.trans hbd (fun k hk => .inl hk)
   have hzc : w.heap.size ≤ wc.drew.heap.size := hK7.1
   clear hbx hOS hbd hI hOT hth hK6
   generalize wc.drew = w7 at *
   have hstr := ka (off := 5) (n := Q.1.sent.length) (c := sc) w7 cs hS SA Q.1.sent e6 hO7
   refine rg_t 0 hS ?_
   simp only [List.getElem_toArray, List.getElem_cons_zero, Act.put, List.setIfInBounds_toArray, List.set_cons_zero, List.set_cons_succ]
   refine rg_t 1 hS ?_
   simp only [g_S, Act.put]
   refine rg_t 2 hS ?_
   simp only [g_S, Act.put]
   refine rg_t 4 hS ?_
   simp only [g_S, Act.put]
   refine rg_t 5 hS ?_
   simp only [g_S, Act.put]
   refine rg_t 6 hS ?_
   simp only [g_S, Act.put]
   refine zv 7 (v := ?_) rfl (by kernel_rfl) (by kernel_rfl) (by kernel_rfl) hS rfl ?_ ?_
   rotate_left
   ·intro wS hSw; have k0 := hSw.cell e7; go_simp; (with_reducible rfl)
   simp only [g_S, Act.put]
   refine zi 3 rfl (by kernel_rfl) rfl (fun K hK => ?_)
   go_simp
   (with_reducible refine hstr.mono ?_)
   rintro e w8 ⟨rfl, hK8⟩
   have hSV : ∀ k, V' k → ¬ blk SA = some k := fun k hk e => (hSA k e).2.1 hk
   have hS8 := ym hS hK8 (hSV _ hI7.lb)
   refine hK _ _ hS8 ?_
   clear hK K
   try simp only [g_S, Act.put]
   refine rg_t 8 hS8 ?_
   simp only [g_S, Act.put]
   refine rg_t 9 hS8 ?_
   simp only [g_S, Act.put]
   refine zK (by kernel_rfl) ?_
   go_wp2_with (with_reducible refine h_B ?_)
   go_ret2
   refine ⟨V', TT, tc, th, rfl, hI7.keep hK8 hSV, hK7.trans hK8 (fun k hk => hU6 k (hSA k hk).1), fun k hk => ?_, HTD.out, zq hOT7 hK8 (fun g hg e => (hSA g e).2.2 hg), fun g hg => ⟨(hTT g hg).2, hU6 g (hTT g hg).1⟩, fun x hx => ⟨zq (hth7 x hx).1 hK8 (fun g hg e => hUT g ((hth7 x hx).2 g hg).1 (hSA g e).1), fun g hg => ⟨((hth7 x hx).2 g hg).2, hT6 g ((hth7 x hx).2 g hg).1⟩⟩⟩
   rcases hV' k hk with e | e
   ·exact hU6 k e
   ·exact (hne6 k e).2.2.2
end Go.PH
end
section
namespace Go.PH
open Go.RowKit Go.Proofs
theorem JH {w : World} {B lb gp : Nat} {F : Nat → Prop} (hb : Box w lb 61 (lk0 gp)) (hga : Ga w F gp 0 GS.new) (hFl : ¬ F lb) (hF : ∀ k, F k → B ≤ k) (hlb : B ≤ lb) : LkI w B (fun k => k = lb ∨ F k) lb 0 [] ⟨0, 255, 4096, GS.new, [], []⟩ where
 ex := ⟨gp, _, _, _, none, 0, 0, F, hb, hga, hFl, fun k h => .inr h, Rd.nil _ _ _ _ (by simp [maxLen]) _, fun _ => Own.none_ _ _ _ _, fun h => absurd rfl h, fun g hg => by cases hg⟩
 lb := .inl rfl
 v := fun k hk => by
  rcases hk with rfl | h
  ·exact ⟨hlb, hb.lt⟩
  ·exact ⟨hF k h, hga.lt k h⟩
end Go.PH
end
section
namespace Go.PH
open Go.RowKit Go.Proofs
theorem YM (th th' : List TAs) (A : Option Addr) (n c : Nat) (A' : Option Addr) (n' c' : Nat) (w : World) (hr : Rd w w.heap.size 3 A n c (rowC taC th)) (hr' : Rd w w.heap.size 3 A' n' c' (rowC taC th'))
  (hE : ∀ x ∈ th, RdG w w.heap.size x.A x.a.segs.length x.c x.a.segs) (hE' : ∀ x ∈ th', RdG w w.heap.size x.A x.a.segs.length x.c x.a.segs) (hs : th.map (·.a) = th'.map (·.a)) (hn : n ≤ 140737488351232) :
  Calls Tryz.prog 14 #[.slice A n c, .slice A' n' c'] w fun e w' => e = .returned (.bool true) ∧ Below w.heap.size w w' := by
 have hl := yw taShape hr
 have hl' := yw taShape hr'
 obtain rfl : n' = n := by have := congrArg List.length hs; simp only [List.length_map] at this; omega
 have HR := Lib.hid hr
 have HR' := Lib.hid hr'
 have HE := Lib.hid hE
 have HE' := Lib.hid hE'
 have HS := Lib.hid hs
 clear hr hr' hE hE' hs
 go_enter Tryz.func14, Tryz.ntmps14
 go_wp2_with (with_reducible refine h_A ?_)
 go_loopw [5] (fun s wr => ∃ k : Nat, k ≤ n' ∧ s = .int .i64 (k : Int) ∧ Below w.heap.size w wr) (fun s _ => n' - (RowKit.intOf s).toNat)
 case atStart => exact ⟨0, by omega, rfl, Below.refl _ _⟩
 case round =>
  obtain ⟨k, hk, rfl, hB⟩ := hrel
  by_cases hlt : k < n'
  ·have g1 : (k : Int) < (n' : Int) := by omega
   obtain ⟨b, off, rfl, hbB, hkl, hcl⟩ := xW taShape HR.out hlt
   obtain ⟨b', off', rfl, hbB', hkl', hcl'⟩ := xW taShape HR'.out hlt
   have he : th[k].a = th'[k].a := by
    have h1 : (th.map (·.a))[k]? = (th'.map (·.a))[k]? := by rw [HS.out]
    simpa [hkl, hkl'] using h1
   have hx := HE.out _ (List.getElem_mem hkl)
   have hx' := HE'.out _ (List.getElem_mem hkl')
   generalize th[k] = x at *
   generalize th'[k] = y at *
   have hcc : ∀ W, Below w.heap.size w W → W.cell? ⟨b, off + k * 3, none⟩ = some (.int .u16 (x.a.chan : Int)) ∧ W.cell? ⟨b, off + k * 3 + 1, none⟩ = some (.int .u8 (x.a.track : Int)) ∧ W.cell? ⟨b, off + k * 3 + 2, none⟩ = some (.slice x.A x.a.segs.length x.c) :=
    fun W hW => ⟨(hW.cell (p := ⟨b, off + k * 3, none⟩) hbB).trans (hcl 0 _ rfl), (hW.cell (p := ⟨b, off + k * 3 + 1, none⟩) hbB).trans (hcl 1 _ rfl), (hW.cell (p := ⟨b, off + k * 3 + 2, none⟩) hbB).trans (hcl 2 _ rfl)⟩
   have hcd : ∀ W, Below w.heap.size w W → W.cell? ⟨b', off' + k * 3, none⟩ = some (.int .u16 (y.a.chan : Int)) ∧ W.cell? ⟨b', off' + k * 3 + 1, none⟩ = some (.int .u8 (y.a.track : Int)) ∧ W.cell? ⟨b', off' + k * 3 + 2, none⟩ = some (.slice y.A y.a.segs.length y.c) :=
    fun W hW => ⟨(hW.cell (p := ⟨b', off' + k * 3, none⟩) hbB').trans (hcl' 0 _ rfl), (hW.cell (p := ⟨b', off' + k * 3 + 1, none⟩) hbB').trans (hcl' 1 _ rfl), (hW.cell (p := ⟨b', off' + k * 3 + 2, none⟩) hbB').trans (hcl' 2 _ rfl)⟩
   have HCC := Lib.hid hcc
   have HCD := Lib.hid hcd
   clear hcl hcl' hcc hcd
   go_upto_region 6 with fail
   refine zD (fun W : World => Below w.heap.size w W) (by kernel_rfl) ?_
   have hS : Below w.heap.size w wr.drew := za hB 1
   generalize wr.drew = wd at *
   refine rg_t 0 hS ?_
   simp only [List.getElem_toArray, List.getElem_cons_zero, Act.put, List.setIfInBounds_toArray, List.set_cons_zero, List.set_cons_succ]
   refine rg_t 1 hS ?_
   simp only [g_S, Act.put]
   refine rg_t 2 hS ?_
   simp only [g_S, Act.put]
   refine rg_t 4 hS ?_
   simp only [g_S, Act.put]
   refine rg_t 5 hS ?_
   simp only [g_S, Act.put]
   refine rg_t 6 hS ?_
   simp only [g_S, Act.put]
   refine zv 3 (v := ?_) rfl (by kernel_rfl) (by kernel_rfl) (by kernel_rfl) hS rfl ?_ ?_
   rotate_left
   ·intro wS hSw; obtain ⟨y0, y1, y2⟩ := HCC.out wS hSw; go_simp; (with_reducible rfl)
   simp only [g_S, Act.put]
   refine zv 7 (v := ?_) rfl (by kernel_rfl) (by kernel_rfl) (by kernel_rfl) hS rfl ?_ ?_
   rotate_left
   ·intro wS hSw; obtain ⟨y0, y1, y2⟩ := HCD.out wS hSw; go_simp; (with_reducible rfl)
   simp only [g_S, Act.put]
   have hsm := X9 x.a y.a x.A x.c y.A y.c w.heap.size wd (Rd.below hx hS) (Rd.below hx' hS) hS.size (by have h1 := hx.cap; have h2 := hx.max; simp [maxLen] at h2; omega) (by have h1 := hx'.cap; have h2 := hx'.max; simp [maxLen] at h2; omega)
   rw [he] at hsm
   rw [show decide (y.a = y.a) = true by simp] at hsm
   unfold asV at hsm
   refine zi 8 rfl (by kernel_rfl) rfl (fun K hK => ?_)
   go_simp
   (with_reducible refine hsm.mono ?_)
   rintro e w2 ⟨rfl, hB2⟩
   have hB02 := hS.trans (hB2.mono hS.size)
   refine hK _ _ hB02 ?_
   clear hK K hsm
   try simp only [g_S, Act.put]
   refine rg_t 9 hB02 ?_
   simp only [g_S, Act.put]
   refine zK (by kernel_rfl) ?_
   go_wp2_with (with_reducible refine h_A ?_)
   exact ⟨⟨k + 1, by omega, by go_num, hB02⟩, by simp [RowKit.intOf]; omega⟩
  ·obtain rfl : k = n' := by omega
   go_wp2_with (with_reducible refine h_A ?_)
   go_ret
   exact ⟨rfl, hB⟩
end Go.PH
end
section
namespace Go.PH
open Go.RowKit Go.Proofs
theorem vp (A : Option Addr) (n c : Nat) (l : List UInt8) (A' : Option Addr) (n' c' : Nat) (l' : List UInt8) (B B' : Nat) (w : World) (hr : RdB w B A n c l) (hr' : RdB w B' A' n' c' l') (hn : n ≤ 140737488351240) (hn' : n' ≤ 140737488351240) :
  Calls Tryz.prog 110 #[.slice A n c, .slice A' n' c'] w fun e w' => e = .returned (.bool (decide (l = l'))) ∧ w = w' := by
 have h1 := jg (P := Tryz.prog) Tryz.underlying55 Tryz.underlying9 Tryz.underlying5 hr
 have h2 := jg (P := Tryz.prog) Tryz.underlying55 Tryz.underlying9 Tryz.underlying5 hr'
 by_cases h : l = l'
 ·have hq : ((str l).toList == (str l').toList) = true := by rw [zt, zt]; simpa using h
  rw [decide_eq_true h]
  clear h
  go_enter Tryz.func110, Tryz.ntmps110
  go_wp2_with (with_reducible refine h_A ?_)
  go_ret
  exact ⟨rfl, rfl⟩
 ·have hq : ((str l).toList == (str l').toList) = false := by rw [zt, zt]; simpa using h
  rw [decide_eq_false h]
  clear h
  go_enter Tryz.func110, Tryz.ntmps110
  go_wp2_with (with_reducible refine h_A ?_)
  go_ret
  exact ⟨rfl, rfl⟩
theorem xS (w : World) (cs : Array Value) (t : TypeId) : ∃ (b : Nat) (v : World), b = w.heap.size ∧ v = w.alloc (.cells cs t) ∧ Box v b t cs ∧ Below w.heap.size w v :=
 ⟨_, _, rfl, rfl, Box.new w cs t, (Below.refl _ _).alloc (Nat.le_refl _) _⟩
theorem jy {a b : Int} {s : Bool} {A : Option Addr} {n c : Nat} : ∀ u ∈ [Value.int .u8 a, .int .u8 b, .bool s, .slice A n c], u.oneCell' = true := by
 intro u hu
 simp at hu; rcases hu with rfl | rfl | rfl | rfl <;> rfl
end Go.PH
end
section
namespace Go.PH
open Go.RowKit Go.Proofs
end Go.PH
end

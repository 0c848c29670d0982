/- Texts laid together: LkTake, LkMem3. -/
import Derived.BigQuiet
import Derived.Test.YtfbkameikhgciaaGreatDoorMg21
set_option linter.all false
set_option linter.unusedSimpArgs false
set_option linter.unusedVariables false
section
/- The walk of link's take: a frame. -/
namespace Go.PH
open Go.RowKit Go.Proofs

def frameB : List UInt8 := [102, 114, 97, 109, 101]
/-- what a frame makes of a link -/
def LS.take (ctl : LS → As → LS) (L : LS) (f : Fr) : LS :=
 if L.sz < f.load.length + 12 ∨ L.ch < f.chan then L.close 501 frameB
 else match L.g.out f with
  | none => if L.g.err f = 0 then { L with g := L.g.next f } else LS.close { L with g := L.g.next f } 501 frameB
  | some a => if a.chan = 0 then ctl { L with g := L.g.next f } a else if L.st = 4 then { L with g := L.g.next f, told := L.told ++ [a] } else LS.close { L with g := L.g.next f } 501 frameB
theorem LkM.mono {w : World} {B : Nat} {U T : Nat → Prop} {lb n m : Nat} {RA : Option Addr} {rn rc : Nat} {L : LS} (h : LkM w B U T lb n RA rn rc L) (hn : n ≤ m) : LkM w B U T lb m RA rn rc L where
 ex := by
  obtain ⟨gp, p, SA, sc, TT, tc, th, F, k1, k2, k3, k4, k5, k6, k7, k8⟩ := h.ex
  exact ⟨gp, p, SA, sc, TT, tc, th, F, k1, k2, k3, k4, k5, k6, k7.mono hn, k8⟩
 lb := h.lb
 size := h.size
 uB := h.uB
 tB := h.tB
 ut := h.ut
/-- what the gathering answers, and how the link lies behind it -/
def LTakeR (w : World) (B : Nat) (U T : Nat → Prop) (lb n : Nat) (RA : Option Addr) (rn rc : Nat) (L : LS) (f : Fr) (o : Option Nat) (cs : Array Value) (s5 s6 : Value) (wx : World) : Prop :=
 ∃ U' T', (∀ b, o = some b → ¬ U' b) ∧ LkM wx B U' T' lb (n + 1) RA rn rc { L with g := L.g.next f } ∧ KeepF U w wx ∧ (∀ k, U' k → U k ∨ w.heap.size ≤ k) ∧ (∀ k, T' k → T k ∨ U k ∨ w.heap.size ≤ k) ∧
  ((L.g.out f = none ∧ s5 = .bool false ∧ s6 = .int .i64 (L.g.err f : Int) ∧ cs = asZ) ∨
   (∃ a A c, L.g.out f = some a ∧ s5 = .bool true ∧ s6 = .int .i64 0 ∧ cs = asV a.chan a.track A a.segs.length c ∧ OwnG wx 0 A a.segs.length c a.segs ∧ ∀ b, blk A = some b → T' b))
theorem LTakeR.done {v vz v' w6 : World} {B : Nat} {U T : Nat → Prop} {lb n : Nat} {RA : Option Addr} {rn rc : Nat} {L : LS} {f : Fr} {cs : Array Value} {s5 s6 : Value} {G : Nat → Prop} {o : Option Nat} (h : LTakeR vz B U T lb n RA rn rc L f o cs s5 s6 v') (hU : ∀ k, U k → k < v.heap.size) (hT : ∀ k, T k → k < v.heap.size) (hB : Below v.heap.size v vz) (hk : KeepF G v' w6)
  (hG : ∀ k, G k → v.heap.size ≤ k ∧ (k < vz.heap.size ∨ v'.heap.size ≤ k)) (tb : Nat) (ht : v.heap.size ≤ tb ∧ (tb < vz.heap.size ∨ v'.heap.size ≤ tb)) : LTakeR v B U T lb n RA rn rc L f (some tb) cs s5 s6 w6 := by
 obtain ⟨U', T', _, h1, h2, h3, h4, h5⟩ := h
 have hz := hB.size
 have hz2 := h2.1
 have gU : ∀ k, U' k → ¬ G k := fun k hk' hg => by
  have := hG k hg
  have := (h1.uB k hk').2
  rcases h3 k hk' with e | e
  ·have := hU k e; omega
  ·omega
 have gT : ∀ k, T' k → ¬ G k := fun k hk' hg => by
  have := hG k hg
  have := h1.tB k hk'
  rcases h4 k hk' with e | e | e
  ·have := hT k e; omega
  ·have := hU k e; omega
  ·omega
 have gt : ¬ U' tb := fun e => by
  have := (h1.uB tb e).2
  rcases h3 tb e with e | e
  ·have := hU tb e; omega
  ·omega
 refine ⟨U', T', fun b e => by injection e with e; rw [← e]; exact gt, h1.keep hk gU gT, ((KeepF.below hB).trans h2 (fun g hg => .inl hg)).trans hk (fun g hg => .inr (hG g hg).1), fun k hk' => ?_, fun k hk' => ?_, ?_⟩
 ·rcases h3 k hk' with e | e
  ·exact .inl e
  ·exact .inr (by omega)
 ·rcases h4 k hk' with e | e | e
  ·exact .inl e
  ·exact .inr (.inl e)
  ·exact .inr (.inr (by omega))
 ·rcases h5 with h5 | ⟨a, A, c, e1, e2, e3, e4, e5, e6⟩
  ·exact .inl h5
  ·exact .inr ⟨a, A, c, e1, e2, e3, e4, own_keepF e5 hk (fun b hb => gT b (e6 b hb)), e6⟩
theorem feed_take {v v' : World} {B : Nat} {U T : Nat → Prop} {lb n gp : Nat} {RA : Option Addr} {rn rc : Nat} {L : LS} {f : Fr} {F : Nat → Prop} {e : Ending} (h : LkM v B U T lb n RA rn rc L) (hFU : ∀ b, F b → U b)
  (hnext : ∀ w' F' g', (∀ k, F' k → F k ∨ v.heap.size ≤ k) → Ga w' F' gp (n + 1) g' → KeepF F v w' → LkM w' B (fun k => (U k ∧ ¬ F k) ∨ F' k) T lb (n + 1) RA rn rc { L with g := g' })
  (hR : FeedR v F gp n L.g f e v') : ∃ cs s5 s6, e = .returned (.tuple #[.agg cs, s5, s6]) ∧ LTakeR v B U T lb n RA rn rc L f none cs s5 s6 v' := by
 obtain ⟨F', hF', hga, hk, hor⟩ := hR
 have hM := hnext v' F' _ hF' hga hk
 have hkU : KeepF U v v' := hk.weak (fun g hg => .inl (hFU g hg))
 have hU' : ∀ k, (U k ∧ ¬ F k) ∨ F' k → U k ∨ v.heap.size ≤ k := fun k e => by
  rcases e with e | e
  ·exact .inl e.1
  ·rcases hF' k e with e | e
   ·exact .inl (hFU k e)
   ·exact .inr e
 rcases hor with ⟨ho, rfl⟩ | ⟨a, A, c, ho, rfl, hG, hA⟩
 ·exact ⟨_, _, _, rfl, _, T, (fun b e => by cases e), hM, hkU, hU', fun k e => .inl e, .inl ⟨ho, rfl, rfl, rfl⟩⟩
 ·refine ⟨_, _, _, rfl, _, fun k => T k ∨ blk A = some k, (fun b e => by cases e), hM.more (fun k e => .inl e) (fun k e => ?_), hkU, hU', fun k e => ?_, .inr ⟨a, A, c, ho, rfl, rfl, rfl, hG, fun b e => .inr e⟩⟩
  ·rcases e with e | e
   ·refine ⟨hM.tB k e, hM.ut k e⟩
   ·refine ⟨(hG.blk_lt e).2, fun e2 => ?_⟩
    have hh := hA k e
    rcases e2 with e2 | e2
    ·rcases hh.2 with e3 | e3
     ·exact e2.2 e3
     ·have := (h.uB k e2.1).2; omega
    ·exact hh.1 e2
  ·rcases e with e | e
   ·exact .inl e
   ·rcases (hA k e).2 with e3 | e3
    ·exact .inr (.inl (hFU k e3))
    ·exact .inr (.inr e3)
theorem feed_take_size {w : World} {B : Nat} {U T : Nat → Prop} {lb n : Nat} {RA : Option Addr} {rn rc : Nat} {L : LS} {f : Fr} {cs : Array Value} {s5 s6 : Value} {wx : World} {o : Option Nat} (h : LTakeR w B U T lb n RA rn rc L f o cs s5 s6 wx) : ∃ x0 x1 x2, cs = #[x0, x1, x2] ∧ x0.oneCell' = true ∧ x1.oneCell' = true ∧ x2.oneCell' = true := by
 obtain ⟨U', T', _, _, _, _, _, h5⟩ := h
 rcases h5 with ⟨_, _, _, rfl⟩ | ⟨a, A, c, _, _, _, rfl, _⟩
 ·exact ⟨_, _, _, rfl, rfl, rfl, rfl⟩
 ·exact ⟨_, _, _, rfl, rfl, rfl, rfl⟩
set_option maxRecDepth 20000 in
set_option maxHeartbeats 4000000 in
theorem ltake_any (ctl : LS → As → LS) (f : Fr) {w : World} {B : Nat} {U T : Nat → Prop} {lb n : Nat} {RA : Option Addr} {rn rc : Nat} {L : LS} (h : LkM w B U T lb n RA rn rc L) (hi : L.g.Inv) (hf : f.wf) (hl : f.load.length ≤ 1000000) (hn : n < 1000000000) (he : MEnv w) (hgl : 0 < B) (hsz : L.sz ≤ 1000000) (hch : L.ch < 65536) (hs : L.sent.length ≤ 10000000000) (htl : L.told.length ≤ 1000000000)
  (hctl : ∀ a A c W U' T', L.g.out f = some a → a.chan = 0 → LkM W B U' T' lb (n + 1) RA rn rc { L with g := L.g.next f } → OwnG W 0 A a.segs.length c a.segs → (∀ b, blk A = some b → T' b) → MEnv W →
   Calls Tryz.prog 56 #[.pointer (some ⟨lb, 0, none⟩), .agg (asV a.chan a.track A a.segs.length c)] W fun e w' => e = .returned (.tuple #[]) ∧ LStep W B U' T' lb (n + 1) RA rn rc (ctl { L with g := L.g.next f } a) w') :
  Calls Tryz.prog 39 #[.pointer (some ⟨lb, 0, none⟩), .agg (frV f)] w fun e w' => e = .returned (.tuple #[]) ∧ LStep w B U T lb (n + 1) RA rn rc (L.take ctl f) w' := by
 have hlw := h.blt
 obtain ⟨fb, w0, hqf, hvf, hBf, hB0⟩ := alloc_stepG w (frV f) 97
 have hfw : w.heap.size ≤ fb := by omega
 have h0 := h.below hB0
 have he0 := he.on hB0
 have hfc : f.chan < 65536 := hf.2.2
 have c3 := h0.c3
 have c4 := h0.c4
 have hss := str_size f.load
 unfold frV at hvf hBf ⊢
 have f6 := hBf.c6
 have f7 := hBf.c7
 go_enter Tryz.func39, Tryz.ntmps39
 go_upto_region 1 with fail
 rw [← hqf, ← hvf]
 clear hqf hvf
 by_cases q1 : L.sz < f.load.length + 12
 ·have d1 : decide ((L.sz : Int) < (f.load.length : Int) + 12) = true := by simp; omega
  have HR := Lib.hid (show L.take ctl f = L.close 501 frameB by unfold LS.take; rw [if_pos (.inl q1)])
  try simp only [Act.put]
  go_quiet (fail)
  clear c3 c4 f6 f7 d1
  have hx := (h0.below (below_drewN (Below.refl _ _) nq)).mono (Nat.le_succ n)
  have hex := he0.on (below_drewN (Below.refl w0.heap.size w0) nq)
  clear hctl h0 he0 hBf
  have hen := lk_end 501 frameB (by decide) (by decide) (hx) (hex) hsz hs
  rw [show ((501 : Nat) : Int) = 501 from rfl, show str frameB = (⟨#[102, 114, 97, 109, 101]⟩ : ByteArray) from rfl] at hen
  go_wp2_with (with_reducible refine h_A ?_)
  refine hen.mono ?_
  rintro e w9 ⟨rfl, hst⟩
  clear hen
  go_wp2_with (with_reducible refine h_A ?_)
  refine bodyPost_ret (results_none rfl _ _ _) rfl ?_
  exact ⟨rfl, by rw [HR.out]; exact LStep.from (below_drewN hB0 _) hst⟩
 ·have d1 : decide ((L.sz : Int) < (f.load.length : Int) + 12) = false := by simp; omega
  by_cases q2 : L.ch < f.chan
  ·have d2 : (L.ch : Int) < (f.chan : Int) := by omega
   have HR := Lib.hid (show L.take ctl f = L.close 501 frameB by unfold LS.take; rw [if_pos (.inr q2)])
   try simp only [Act.put]
   go_quiet (fail)
   clear c3 c4 f6 f7 d1 d2
   have hx := (h0.below (below_drewN (Below.refl _ _) nq)).mono (Nat.le_succ n)
   have hex := he0.on (below_drewN (Below.refl w0.heap.size w0) nq)
   clear hctl h0 he0 hBf
   have hen := lk_end 501 frameB (by decide) (by decide) (hx) (hex) hsz hs
   rw [show ((501 : Nat) : Int) = 501 from rfl, show str frameB = (⟨#[102, 114, 97, 109, 101]⟩ : ByteArray) from rfl] at hen
   go_wp2_with (with_reducible refine h_A ?_)
   refine hen.mono ?_
   rintro e w9 ⟨rfl, hst⟩
   clear hen
   go_wp2_with (with_reducible refine h_A ?_)
   refine bodyPost_ret (results_none rfl _ _ _) rfl ?_
   exact ⟨rfl, by rw [HR.out]; exact LStep.from (below_drewN hB0 _) hst⟩
  ·have d2 : ¬ (L.ch : Int) < (f.chan : Int) := by omega
   have HR := Lib.hid (show L.take ctl f = match L.g.out f with
    | none => if L.g.err f = 0 then { L with g := L.g.next f } else LS.close { L with g := L.g.next f } 501 frameB
    | some a => if a.chan = 0 then ctl { L with g := L.g.next f } a else if L.st = 4 then { L with g := L.g.next f, told := L.told ++ [a] } else LS.close { L with g := L.g.next f } 501 frameB by unfold LS.take; rw [if_neg (by omega)])
   try simp only [Act.put]
   go_quiet (fail)
   clear c3 c4 f6 f7 d1 d2
   have h1 := h0.below (below_drewN (Below.refl _ _) nq)
   have hBf1 := hBf.below (below_drewN (Below.refl _ _) nq)
   have hB1 := below_drewN hB0 nq
   have he1 := he0.on (below_drewN (Below.refl w0.heap.size w0) nq)
   clear h0 he0 hBf hss
   go_upto_region 3 with fail
   have hfb0 : lb ≠ fb := by omega
   have hUf : ∀ k, U k → k ≠ fb := fun k hk => by have := (h.uB k hk).2; omega
   clear hB0 hfw
   generalize w0.drewN nq = wq at *
   go_cut [4, 5, 6] from 29 to 38 (fun s4 s5 s6 wx => ∃ tb cs, s4 = .pointer (some ⟨tb, 0, none⟩) ∧ Box wx tb 42 cs ∧ LTakeR wq B U T lb n RA rn rc L f (some tb) cs s5 s6 wx)
   case first =>
    have hUv : ∀ k, U k → k < wq.heap.size := fun k hk => (h1.uB k hk).2
    have hTv : ∀ k, T k → k < wq.heap.size := h1.tB
    have hBd : Below wq.heap.size wq wq.drew := below_drewN (Below.refl _ wq) 1
    have h2 := h1.below hBd
    obtain ⟨gp, F, hc2, hga, hFU, hFl, hnext⟩ := h2.gath
    have hFf : ¬ F fb := fun e => hUf _ (hFU _ e) rfl
    refine rg_start (fun W : World => W.cell? ⟨lb, 2, none⟩ = some (.pointer (some ⟨gp, 0, none⟩)) ∧ Box W fb 97 #[.bool f.first, .bool f.last, .bool f.beg, .bool f.fin, .int .u8 (f.ty : Int), .int .u8 (f.track : Int), .int .u16 (f.chan : Int), .string (str f.load)]) (by kernel_rfl) ?_
    have hS : wq.drew.cell? ⟨lb, 2, none⟩ = some (.pointer (some ⟨gp, 0, none⟩)) ∧ Box wq.drew fb 97 #[.bool f.first, .bool f.last, .bool f.beg, .bool f.fin, .int .u8 (f.ty : Int), .int .u8 (f.track : Int), .int .u16 (f.chan : Int), .string (str f.load)] := ⟨hc2, hBf1.below hBd⟩
    have hBf2 := hBf1.lt
    clear hctl h h1 hBf1
    refine rg_t 0 hS ?_
    simp only [List.getElem_toArray, List.getElem_cons_zero, Act.put, List.setIfInBounds_toArray, List.set_cons_zero, List.set_cons_succ]
    refine rg_t 1 hS ?_
    simp only [g_S, Act.put]
    refine rg_t 2 hS ?_
    simp only [g_S, Act.put]
    refine rg_take 3 (v := ?_) rfl (by kernel_rfl) (by kernel_rfl) (by kernel_rfl) hS rfl ?_ ?_
    rotate_left
    ·intro wS hSw; have k0 := hSw.1; go_simp; (with_reducible rfl)
    simp only [g_S, Act.put]
    refine rg_take 4 (v := ?_) rfl (by kernel_rfl) (by kernel_rfl) (by kernel_rfl) hS rfl ?_ ?_
    rotate_left
    ·intro wS hSw; have k := hSw.2; have q0 := k.cell (j := 0) rfl; have q1 := k.cell (j := 1) rfl; have q2 := k.cell (j := 2) rfl; have q3 := k.cell (j := 3) rfl; have q4 := k.cell (j := 4) rfl; have q5 := k.cell (j := 5) rfl; have q6 := k.cell (j := 6) rfl; have q7 := k.cell (j := 7) rfl; go_simp; (with_reducible rfl)
    simp only [g_S, Act.put]
    refine rg_two 5 10 rfl rfl (by kernel_rfl) rfl rfl (fun K hK => ?_) (fun K hK => ?_)
    ·go_simp
     refine (gfeed_any F gp n L.g f wq.drew hga hi hf (by omega) hn).mono ?_
     rintro e v1 hR
     have hkF := hR.choose_spec.2.2.1
     obtain ⟨cs, s5, s6, rfl, hTk⟩ := feed_take h2 hFU hnext hR
     obtain ⟨x0, x1, x2, rfl, y0, y1, y2⟩ := feed_take_size hTk
     have hS1 : v1.cell? ⟨lb, 2, none⟩ = some (.pointer (some ⟨gp, 0, none⟩)) ∧ Box v1 fb 97 #[.bool f.first, .bool f.last, .bool f.beg, .bool f.fin, .int .u8 (f.ty : Int), .int .u8 (f.track : Int), .int .u16 (f.chan : Int), .string (str f.load)] := ⟨by have hx := hkF.2.1 lb h2.blt hFl; unfold World.cell? at hc2 ⊢; rw [hx]; exact hc2, box_keepF hS.2 hkF hFf⟩
     clear hR hnext hga h2 hkF
     refine hK _ _ hS1 ?_
     clear hK K
     refine rg_t 6 hS1 ?_
     simp only [g_S, Act.put]
     refine rg_t 7 hS1 ?_
     simp only [g_S, Act.put]
     refine rg_t 8 hS1 ?_
     simp only [g_S, Act.put]
     refine rg_t 9 hS1 ?_
     simp only [g_S, Act.put]
     have hz := Box.new v1 #[.int .u16 0, .int .u8 0, .slice none 0 0] 42
     obtain ⟨v2, hv2⟩ : ∃ v, v = v1.alloc (.cells #[.int .u16 0, .int .u8 0, .slice none 0 0] 42) := ⟨_, rfl⟩
     have hB2 : Below v1.heap.size v1 v2 := by rw [hv2]; exact (Below.refl _ _).alloc (Nat.le_refl _) _
     have hS2 : v2.cell? ⟨lb, 2, none⟩ = some (.pointer (some ⟨gp, 0, none⟩)) ∧ Box v2 fb 97 #[.bool f.first, .bool f.last, .bool f.beg, .bool f.fin, .int .u8 (f.ty : Int), .int .u8 (f.track : Int), .int .u16 (f.chan : Int), .string (str f.load)] := ⟨(hB2.cell (p := ⟨lb, 2, none⟩) (World.block_lt_of_cell? _ _ hS1.1)).trans hS1.1, hS1.2.below hB2⟩
     rw [← hv2] at hz
     refine rg_one 10 rfl (by kernel_rfl) rfl (fun K hK => ?_)
     go_simp
     rw [← hv2]
     refine hK _ _ hS2 ?_
     clear hK K
     obtain ⟨tb, htb⟩ : ∃ b, b = v1.heap.size := ⟨_, rfl⟩
     rw [← htb] at hz
     rw [← htb]
     refine rg_one 11 rfl (by kernel_rfl) rfl (fun K hK => ?_)
     refine op_box (v := .agg #[x0, x1, x2]) (vs := [x0, x1, x2]) rfl rfl rfl hz rfl (by kernel_rfl) (by simp) (by simp [y0, y1, y2]) #[x0, x1, x2] (by simp) ?_
     intro v3 hb3 hg3 hz3
     clear hz3
     have hB3 : Below v1.heap.size v1 v3 := hB2.grown hg3 hB2.size (fun g e => by injection e with e; omega)
     have hS3 : v3.cell? ⟨lb, 2, none⟩ = some (.pointer (some ⟨gp, 0, none⟩)) ∧ Box v3 fb 97 #[.bool f.first, .bool f.last, .bool f.beg, .bool f.fin, .int .u8 (f.ty : Int), .int .u8 (f.track : Int), .int .u16 (f.chan : Int), .string (str f.load)] := ⟨(hB3.cell (p := ⟨lb, 2, none⟩) (World.block_lt_of_cell? _ _ hS1.1)).trans hS1.1, hS1.2.below hB3⟩
     refine hK _ _ hS3 ?_
     clear hK K
     refine rg_one 12 rfl (by kernel_rfl) rfl (fun K hK => ?_)
     go_simp
     refine hK _ _ hS3 ?_
     clear hK K
     refine rg_one 13 rfl (by kernel_rfl) rfl (fun K hK => ?_)
     go_simp
     refine hK _ _ hS3 ?_
     clear hK K
     refine rg_end (by kernel_rfl) ?_
     go_wp2_with fail
     go_meet
     exact ⟨tb, #[x0, x1, x2], by rw [htb], hb3, hTk.done hUv hTv hBd (KeepF.below (F := fun _ => False) hB3) (fun k e => e.elim) tb ⟨by have := hTk.choose_spec.choose_spec.2.2.1.1; have := hBd.size; omega, .inr (by omega)⟩⟩
    ·clear hnext hga
     have hz := Box.new wq.drew #[.int .u16 0, .int .u8 0, .slice none 0 0] 42
     obtain ⟨v0, hv0⟩ : ∃ v, v = wq.drew.alloc (.cells #[.int .u16 0, .int .u8 0, .slice none 0 0] 42) := ⟨_, rfl⟩
     have hB0 : Below wq.drew.heap.size wq.drew v0 := by rw [hv0]; exact (Below.refl _ _).alloc (Nat.le_refl _) _
     rw [← hv0] at hz
     have hS0 : v0.cell? ⟨lb, 2, none⟩ = some (.pointer (some ⟨gp, 0, none⟩)) ∧ Box v0 fb 97 #[.bool f.first, .bool f.last, .bool f.beg, .bool f.fin, .int .u8 (f.ty : Int), .int .u8 (f.track : Int), .int .u16 (f.chan : Int), .string (str f.load)] := ⟨(hB0.cell (p := ⟨lb, 2, none⟩) (World.block_lt_of_cell? _ _ hS.1)).trans hS.1, hS.2.below hB0⟩
     obtain ⟨tb, htb⟩ : ∃ b, b = wq.drew.heap.size := ⟨_, rfl⟩
     rw [← htb] at hz
     have htq : tb = wq.heap.size := htb
     go_simp
     rw [show (wq.alloc (.cells #[.int .u16 0, .int .u8 0, .slice none 0 0] 42)).drew = v0 from hv0.symm, ← htq]
     refine hK _ _ hS0 ?_
     clear hK K
     have hBq : Below wq.heap.size wq v0 := hBd.trans (hB0.mono hBd.size)
     have htv := hz.lt
     have h3 := h2.below hB0
     have htq1 : wq.heap.size ≤ tb := by omega
     have htq2 : tb ≤ wq.heap.size := by omega
     clear htq
     clear hv0 htb h2 hFU hFl hFf F
     obtain ⟨gq, F, hcq, hga, hFU, hFl, hnext⟩ := h3.gath
     obtain rfl : gp = gq := by have e := hS0.1.symm.trans hcq; injection e with e; injection e with e; injection e with e; injection e
     have hFf : ¬ F fb := fun e => hUf _ (hFU _ e) rfl
     have hFt : ¬ F tb := fun e => by have := hUv _ (hFU _ e); omega
     refine rg_one 5 rfl (by kernel_rfl) rfl (fun K hK => ?_)
     go_simp
     refine (gfeed_any F gp n L.g f v0 hga hi hf (by omega) hn).mono ?_
     rintro e v1 hR
     have hkF := hR.choose_spec.2.2.1
     obtain ⟨cs, s5, s6, rfl, hTk⟩ := feed_take h3 hFU hnext hR
     obtain ⟨x0, x1, x2, rfl, y0, y1, y2⟩ := feed_take_size hTk
     have hS1 : v1.cell? ⟨lb, 2, none⟩ = some (.pointer (some ⟨gp, 0, none⟩)) ∧ Box v1 fb 97 #[.bool f.first, .bool f.last, .bool f.beg, .bool f.fin, .int .u8 (f.ty : Int), .int .u8 (f.track : Int), .int .u16 (f.chan : Int), .string (str f.load)] := ⟨by have hx := hkF.2.1 lb h3.blt hFl; unfold World.cell? at hcq ⊢; rw [hx]; exact hcq, box_keepF hS0.2 hkF hFf⟩
     have hz1 := box_keepF hz hkF hFt
     clear hR hnext hga hkF hz
     refine hK _ _ hS1 ?_
     clear hK K
     refine rg_t 6 hS1 ?_
     simp only [g_S, Act.put]
     refine rg_t 7 hS1 ?_
     simp only [g_S, Act.put]
     refine rg_t 8 hS1 ?_
     simp only [g_S, Act.put]
     refine rg_t 9 hS1 ?_
     simp only [g_S, Act.put]
     refine rg_one 11 rfl (by kernel_rfl) rfl (fun K hK => ?_)
     refine op_box (v := .agg #[x0, x1, x2]) (vs := [x0, x1, x2]) rfl rfl rfl hz1 rfl (by kernel_rfl) (by simp) (by simp [y0, y1, y2]) #[x0, x1, x2] (by simp) ?_
     intro v3 hb3 hg3 hz3
     clear hz3
     have hlt : lb ≠ tb := by have := h3.blt; have := hUv _ h3.lb; omega
     have hft : fb ≠ tb := by have := hBf2; omega
     have hk3 : KeepF (fun k => k = tb) v1 v3 := .grown hg3 (fun g e => .inl (by injection e with e; exact e.symm))
     have hS3 : v3.cell? ⟨lb, 2, none⟩ = some (.pointer (some ⟨gp, 0, none⟩)) ∧ Box v3 fb 97 #[.bool f.first, .bool f.last, .bool f.beg, .bool f.fin, .int .u8 (f.ty : Int), .int .u8 (f.track : Int), .int .u16 (f.chan : Int), .string (str f.load)] := ⟨by have hx := hk3.2.1 lb (World.block_lt_of_cell? _ _ hS1.1) hlt; have hc := hS1.1; unfold World.cell? at hc ⊢; rw [hx]; exact hc, box_keepF hS1.2 hk3 hft⟩
     refine hK _ _ hS3 ?_
     clear hK K
     refine rg_one 12 rfl (by kernel_rfl) rfl (fun K hK => ?_)
     go_simp
     refine hK _ _ hS3 ?_
     clear hK K
     refine rg_one 13 rfl (by kernel_rfl) rfl (fun K hK => ?_)
     go_simp
     refine hK _ _ hS3 ?_
     clear hK K
     refine rg_end (by kernel_rfl) ?_
     go_wp2_with fail
     go_meet
     exact ⟨tb, #[x0, x1, x2], rfl, hb3, hTk.done hUv hTv hBq hk3 (fun k e => by subst e; exact ⟨by omega, .inl htv⟩) tb ⟨by omega, .inl htv⟩⟩
   case rest =>
    obtain ⟨tb, cs, rfl, hbt, U', T', htU, hM, hKU, hU', hT', hor⟩ := hcut
    have hz1 := hB1.size
    have hK : KeepF U w wc := (KeepF.below hB1).trans hKU (fun g hg => .inl hg)
    have hUw : ∀ k, U' k → U k ∨ w.heap.size ≤ k := fun k e => (hU' k e).imp id (fun e => by omega)
    have hTw : ∀ k, T' k → T k ∨ U k ∨ w.heap.size ≤ k := fun k e => (hT' k e).imp id (fun e => e.imp id (fun e => by omega))
    have hgU : ¬ U 0 := fun e => by have := (h.uB _ e).1; omega
    have heM := he1.onK hKU hgU
    have hfin : ∀ {w9 : World} {M : LS}, LStep wc B U' T' lb (n + 1) RA rn rc M w9 → LStep w B U T lb (n + 1) RA rn rc M w9 := fun hst => LStep.of hK hUw hTw hst
    have k0 := hM.c0
    clear hKU hU' hT' hz1 hK hUw hTw hgU he1 hB1 h1 hBf1 h hUf hfb0
    rcases hor with ⟨ho, rfl, rfl, rfl⟩ | ⟨a, A, c, ho, rfl, rfl, rfl, hG, hA⟩
    ·rw [ho] at HR
     have HQ := Lib.hid HR.out
     clear HR hctl k0 hbt
     obtain ⟨er, her⟩ : ∃ er, er = L.g.err f := ⟨_, rfl⟩
     rw [← her] at HQ ⊢
     by_cases h0 : er = 0
     ·subst h0
      clear her
      go_wp2_with (with_reducible refine h_A ?_)
      go_end0
      exact ⟨rfl, by rw [HQ.out]; exact hfin (LStep.refl hM)⟩
     ·have h1 : ¬ (er : Int) = 0 := by omega
      have HQ2 := Lib.hid (HQ.out.trans (if_neg h0))
      clear HQ h0 her
      have hen := lk_end 501 frameB (by decide) (by decide) (hM) (heM) hsz hs
      rw [show ((501 : Nat) : Int) = 501 from rfl, show str frameB = (⟨#[102, 114, 97, 109, 101]⟩ : ByteArray) from rfl] at hen
      go_wp2_with (with_reducible refine h_A ?_)
      refine hen.mono ?_
      rintro e w9 ⟨rfl, hst⟩
      clear hen
      go_wp2_with (with_reducible refine h_A ?_)
      go_end0
      exact ⟨rfl, by rw [HQ2.out]; exact hfin hst⟩
    ·rw [ho] at HR
     have HQ := Lib.hid HR.out
     clear HR
     unfold asV at hbt
     have b0 := hbt.c0
     have b1 := hbt.c1
     have b2 := hbt.c2
     by_cases h0 : a.chan = 0
     ·have hc := hctl a A c wc U' T' ho h0 hM hG hA heM
      have HQ2 := Lib.hid (HQ.out.trans (if_pos h0))
      unfold asV at hc
      clear HQ hctl ho hM hG hA heM k0
      have h1 : (a.chan : Int) = 0 := by omega
      rw [h1] at hc b0
      go_wp2_with (with_reducible refine h_A ?_)
      refine hc.mono ?_
      rintro e w9 ⟨rfl, hst⟩
      clear hc
      go_wp2_with (with_reducible refine h_A ?_)
      go_end0
      exact ⟨rfl, by rw [HQ2.out]; exact hfin hst⟩
     ·have HQ2 := Lib.hid (HQ.out.trans (if_neg h0))
      have h1 : ¬ (a.chan : Int) = 0 := by omega
      clear HQ hctl ho h0
      by_cases h4 : L.st = 4
      ·have HQ3 := Lib.hid (HQ2.out.trans (if_pos h4))
       have k4 : ((L.st : Nat) : Int) = 4 := by omega
       change wc.cell? ⟨lb, 0, none⟩ = some (.int .u8 (L.st : Int)) at k0
       rw [k4] at k0
       clear HQ2 h4 k4
       go_upto_region 11 with fail
       have htb : ¬ U' tb := htU tb rfl
       have hBd : Below wc.heap.size wc wc.drew := below_drewN (Below.refl _ wc) 1
       have hMd := hM.below hBd
       have hGd : OwnG wc.drew 0 A a.segs.length c a.segs := own_below hG hBd
       have hbd := hbt.below hBd
       clear b0 b1 b2 k0 hbt hG hM heM htU hgl
       obtain ⟨TT, tc, th, cs, hbL, hcs, h7, hO, hTne, hnx⟩ := hMd.tells
       have hbt := hbd.lt
       have hlt : lb ≠ tb := fun e => htb (e ▸ hMd.lb)
       have hUT : ∀ b, blk TT = some b → b ≠ tb := fun b e e2 => htb (e2 ▸ (hTne b e).1)
       have hbs := hMd.size
       clear hMd
       have k7 := hbL.cell h7
       have k0 := hbd.c0
       have k1 := hbd.c1
       have k2 := hbd.c2
       clear k0 k1 k2
       refine rg_start (fun W : World => Box W tb 42 #[.int .u16 (a.chan : Int), .int .u8 (a.track : Int), .slice A a.segs.length c]) (by kernel_rfl) ?_
       have hS := hbd
       generalize wc.drew = wd at *
       refine rg_t 0 hS ?_
       simp only [List.getElem_toArray, List.getElem_cons_zero, Act.put, List.setIfInBounds_toArray, List.set_cons_zero, List.set_cons_succ]
       refine rg_t 1 hS ?_
       simp only [g_S, Act.put]
       refine rg_t 2 hS ?_
       simp only [g_S, Act.put]
       refine rg_t 3 hS ?_
       simp only [g_S, Act.put]
       refine rg_take 5 (v := ?_) rfl (by kernel_rfl) (by kernel_rfl) (by kernel_rfl) hS rfl ?_ ?_
       rotate_left
       ·intro wS hSw; have k0 := hSw.cell (j := 0) rfl; have k1 := hSw.cell (j := 1) rfl; have k2 := hSw.cell (j := 2) rfl; go_simp; (with_reducible rfl)
       simp only [g_S, Act.put]
       refine rg_two 4 6 rfl rfl (by kernel_rfl) rfl rfl (fun K hK => ?_) (fun K hK => ?_)
       ·go_simp
        refine hK _ _ hS ?_
        clear hK K
        try simp only [g_S, Act.put]
        refine rg_one 6 rfl (by kernel_rfl) rfl (fun K hK => ?_)
        go_simp
        refine hK _ _ (hS.alloc _) ?_
        clear hK K
        try simp only [g_S, Act.put]
        refine rg_one 7 rfl (by kernel_rfl) rfl (fun K hK => ?_)
        refine op_rec (W := wd) taShape slTA Tryz.underlying29 rfl rfl rfl rfl (⟨a, A, c⟩ : TAs) rfl hO (show (L.told.length + 1) * 32 ≤ 140737488355328 by omega) (show L.told.length ≤ 1000000000 by omega) hbs ?_
        intro A2 c2 w2 hO2 hg2 hA2 hB2
        have hbL2 := hbL.grown hg2 (fun e => (hTne lb e.symm).2 rfl)
        have hS2 := hS.grown hg2 (fun e => hUT tb e.symm rfl)
        refine hK _ _ hS2 ?_
        clear hK K
        try simp only [g_S, Act.put]
        refine rg_t 8 hS2 ?_
        simp only [g_S, Act.put]
        refine rg_t 9 hS2 ?_
        simp only [g_S, Act.put]
        have k8 := hbL2.cell h7
        have k9 := hbL2.thaw 7
        refine rg_one 10 rfl (by kernel_rfl) rfl (fun K hK => ?_)
        go_simp
        refine hK _ _ (hS2.grown (grown_set w2 lb 7 (.slice A2 (L.told.length + 1) c2)) (fun e => hlt (by injection e with e; exact e.symm))) ?_
        clear hK K k7 k8 k9
        refine rg_end (by kernel_rfl) ?_
        go_wp2_with (with_reducible refine h_A ?_)
        go_end0
        exact ⟨rfl, by rw [HQ3.out]; exact hfin (LStep.from hBd (hnx a A c w2 _ A2 c2 hGd hA hO2 hg2 hA2 (box_setAt hbL2 _) (grown_set w2 lb 7 _)))⟩
       ·go_simp
        refine hK _ _ (hS.alloc _) ?_
        clear hK K
        try simp only [g_S, Act.put]
        have k8 := (hbL.alloc (.cells #[.int .u16 (a.chan : Int), .int .u8 (a.track : Int), .slice A a.segs.length c] 42)).cell h7
        refine rg_one 4 rfl (by kernel_rfl) rfl (fun K hK => ?_)
        go_simp
        refine hK _ _ (hS.alloc _) ?_
        clear hK K k8
        try simp only [g_S, Act.put]
        refine rg_one 7 rfl (by kernel_rfl) rfl (fun K hK => ?_)
        refine op_rec (W := wd) taShape slTA Tryz.underlying29 rfl rfl rfl rfl (⟨a, A, c⟩ : TAs) rfl hO (show (L.told.length + 1) * 32 ≤ 140737488355328 by omega) (show L.told.length ≤ 1000000000 by omega) hbs ?_
        intro A2 c2 w2 hO2 hg2 hA2 hB2
        have hbL2 := hbL.grown hg2 (fun e => (hTne lb e.symm).2 rfl)
        have hS2 := hS.grown hg2 (fun e => hUT tb e.symm rfl)
        refine hK _ _ hS2 ?_
        clear hK K
        try simp only [g_S, Act.put]
        refine rg_t 8 hS2 ?_
        simp only [g_S, Act.put]
        refine rg_t 9 hS2 ?_
        simp only [g_S, Act.put]
        have k8 := hbL2.cell h7
        have k9 := hbL2.thaw 7
        refine rg_one 10 rfl (by kernel_rfl) rfl (fun K hK => ?_)
        go_simp
        refine hK _ _ (hS2.grown (grown_set w2 lb 7 (.slice A2 (L.told.length + 1) c2)) (fun e => hlt (by injection e with e; exact e.symm))) ?_
        clear hK K k7 k8 k9
        refine rg_end (by kernel_rfl) ?_
        go_wp2_with (with_reducible refine h_A ?_)
        go_end0
        exact ⟨rfl, by rw [HQ3.out]; exact hfin (LStep.from hBd (hnx a A c w2 _ A2 c2 hGd hA hO2 hg2 hA2 (box_setAt hbL2 _) (grown_set w2 lb 7 _)))⟩
      ·have HQ3 := Lib.hid (HQ2.out.trans (if_neg h4))
       have k4 : ¬ ((L.st : Nat) : Int) = 4 := by omega
       change wc.cell? ⟨lb, 0, none⟩ = some (.int .u8 (L.st : Int)) at k0
       clear HQ2 h4
       have hen := lk_end 501 frameB (by decide) (by decide) (hM) (heM) hsz hs
       rw [show ((501 : Nat) : Int) = 501 from rfl, show str frameB = (⟨#[102, 114, 97, 109, 101]⟩ : ByteArray) from rfl] at hen
       go_wp2_with (with_reducible refine h_A ?_)
       refine hen.mono ?_
       rintro e w9 ⟨rfl, hst⟩
       clear hen
       go_wp2_with (with_reducible refine h_A ?_)
       go_end0
       exact ⟨rfl, by rw [HQ3.out]; exact hfin hst⟩
end Go.PH
end
section
/- The rest of a link set anew; frames one after another, as plain mathematics. -/
namespace Go.PH
open Go.RowKit Go.Proofs

/-- frame after frame, until the link is closed -/
def LS.goes (ctl : LS → As → LS) : LS → List Fr → LS
 | L, [] => L
 | L, f :: l => if L.st = 5 then L else LS.goes ctl (L.take ctl f) l
def LS.frames (ctl : LS → As → LS) (L : LS) (l : List Fr) (e : Nat) : LS :=
 if e ≠ 0 ∧ (L.goes ctl l).st ≠ 5 then (L.goes ctl l).close 501 frameB else L.goes ctl l
theorem LS.goes_closed {ctl : LS → As → LS} {L : LS} (h : L.st = 5) : ∀ l, L.goes ctl l = L
 | [] => rfl
 | _ :: _ => by unfold LS.goes; rw [if_pos h]
theorem LkM.setRest {w : World} {B : Nat} {U T : Nat → Prop} {lb n : Nat} {RA : Option Addr} {rn rc : Nat} {L : LS} (h : LkM w B U T lb n RA rn rc L) (A : Option Addr) (m c : Nat) : LkM (w.setCell ⟨lb, 1, none⟩ (.slice A m c)) B U T lb n A m c L := by
 have hg := grown_set w lb 1 (.slice A m c)
 have hk : KeepF (fun k => k = lb) w (w.setCell ⟨lb, 1, none⟩ (.slice A m c)) := .grown hg (fun g e => .inl (by injection e with e; exact e.symm))
 obtain ⟨gp, p, SA, sc, TT, tc, th, F, h1, h2, h3, h4, h5, h6, h7, h8, h9, h10, h11⟩ := h.ex
 exact ⟨⟨gp, p, SA, sc, TT, tc, th, F, box_setAt h1 _, h2, own_keepF h3 hk (fun b e => (h9 b e).2.1), own_keepF h4 hk (fun b e => (h10 b e).2.1), h5, fun x hx => ⟨own_keepF (h6 x hx).1 hk (fun b e e2 => h.ut b ((h6 x hx).2 b e) (e2 ▸ h.lb)), (h6 x hx).2⟩,
   h7.keep (fun k hF => hk.2.1 k (h7.lt k hF) (fun e => h11 (e ▸ hF))) hk.1, h8, h9, h10, h11⟩, h.lb, Nat.le_trans h.size hk.1, fun b hb => ⟨(h.uB b hb).1, Nat.lt_of_lt_of_le (h.uB b hb).2 hk.1⟩, fun b hb => Nat.lt_of_lt_of_le (h.tB b hb) hk.1, h.ut⟩
theorem LkM.thaw {w : World} {B : Nat} {U T : Nat → Prop} {lb n : Nat} {RA : Option Addr} {rn rc : Nat} {L : LS} (h : LkM w B U T lb n RA rn rc L) (j : Nat) : w.frozen? ⟨lb, j, none⟩ = false := by
 obtain ⟨gp, p, SA, sc, TT, tc, th, F, h1, _⟩ := h.ex
 exact h1.thaw j
theorem rd_keepF {w w' : World} {B size n c : Nat} {A : Option Addr} {xs : List Value} {F : Nat → Prop} (h : Rd w B size A n c xs) (hk : KeepF F w w') (hB : B ≤ w.heap.size) (hF : ∀ g, blk A = some g → ¬ F g) : Rd w' B size A n c xs :=
 ⟨h.len, h.cap, h.max, fun hn => by
  obtain ⟨b, off, e, hb, hx⟩ := h.at_ hn
  refine ⟨b, off, e, hb, fun j u hj => ?_⟩
  have h0 := hx j u hj
  have h1 := hk.2.1 b (by omega) (hF b (by rw [e]; rfl))
  unfold World.cell? at h0 ⊢
  rw [h1]
  exact h0⟩
end Go.PH
end

/- Texts laid together: LkHead, LkMem, LkMem2. -/
import Derived.Test.YtfbkameikhgciaaGreatDoorMg12
import Derived.Test.YtfbkameikhgciaaGreatDoorMg20
set_option linter.all false
set_option linter.unusedSimpArgs false
set_option linter.unusedVariables false
section
/- The laws' head of link. -/
namespace Go.PH
open Go.RowKit Go.Proofs

theorem ctl_len : (ctlB 4096 startB).length = 27 := by kernel_rfl
set_option maxRecDepth 20000 in
set_option maxHeartbeats 2000000 in
theorem lkhead_any (w : World) (he : MEnv w) : Calls Tryz.prog 9 #[] w fun e w' => e = .returned (.bool true) ∧ Below w.heap.size w w' := by
 have hgw := he.lt
 have hn1 := lnew_any w
 have hol : (hdrB ++ ctlB 4096 startB).length = 35 := by rw [List.length_append, ctl_len]; rfl
 have hot : ((str ((hdrB ++ ctlB 4096 startB).take 8)).toList == [65, 77, 81, 80, 1, 1, 0, 10]) = true := by rw [str_toList]; simp [hdrB]
 obtain ⟨OUT, hOUT⟩ : ∃ o, o = hdrB ++ ctlB 4096 startB := ⟨_, rfl⟩
 rw [← hOUT] at hol hot
 have HOUT := Lib.hid hOUT
 clear hOUT
 have hss := str_size OUT
 go_enter Tryz.func9, Tryz.ntmps9
 go_wp2_with (with_reducible refine h_A ?_)
 refine hn1.mono ?_
 rintro e w1 ⟨rfl, hG1, hb1, hB1⟩
 clear hn1
 have he1 := he.on hB1
 obtain ⟨lb, hlb⟩ : ∃ b, b = w.heap.size + 2 := ⟨_, rfl⟩
 rw [← hlb] at hb1
 have hlw : w.heap.size ≤ lb := by omega
 have hf1 := lfeed_hdr lb _ w1 he1 hb1 (by omega)
 rw [← HOUT.out] at hf1
 go_wp2_with (with_reducible refine h_A ?_)
 rw [← hlb]
 clear hlb
 rw [show str hdrB = (⟨#[65, 77, 81, 80, 1, 1, 0, 10]⟩ : ByteArray) from rfl] at hf1
 (with_reducible refine hf1.mono ?_)
 rintro e w2 ⟨rfl, hc0, hc2, hK2⟩
 clear hf1
 have hB2 : Below w.heap.size w w2 := hB1.trans (hK2.toBelow hB1.size (fun g hg => by omega))
 have hn2 := lnew_any w2
 go_wp2_with (with_reducible refine h_A ?_)
 refine hn2.mono ?_
 rintro e w3 ⟨rfl, hG3, hb3, hB3⟩
 clear hn2
 have hB3' := hB2.trans (hB3.mono hB2.size)
 have he3 := he.on hB3'
 obtain ⟨mb, hmb⟩ : ∃ b, b = w2.heap.size + 2 := ⟨_, rfl⟩
 rw [← hmb] at hb3
 have hmw : w2.heap.size ≤ mb := by omega
 have hlm : lb < w2.heap.size := World.block_lt_of_cell? _ _ hc0
 have hsz2 := hB2.size
 have hf2 := lfeed_amx mb _ w3 he3 hb3 (by omega)
 have d0 : w3.cell? ⟨lb, 0, none⟩ = some (.int .u8 1) := (hB3.cell (p := ⟨lb, 0, none⟩) hlm).trans hc0
 have d2 := (hB3.cell (p := ⟨lb, 2, none⟩) hlm).trans hc2
 clear hc0 hc2
 go_wp2_with (with_reducible refine h_A ?_)
 rw [← hmb]
 clear hmb
 rw [show str amxB = (⟨#[65, 77, 88]⟩ : ByteArray) from rfl, show str hdrB = (⟨#[65, 77, 81, 80, 1, 1, 0, 10]⟩ : ByteArray) from rfl] at hf2
 (with_reducible refine hf2.mono ?_)
 rintro e w4 ⟨rfl, hm0, hm2, hK4⟩
 clear hf2
 have hB4 : Below w.heap.size w w4 := hB3'.trans (hK4.toBelow hB3'.size (fun g hg => by omega))
 have hlb4 : ∀ o, w4.cell? ⟨lb, o, none⟩ = w3.cell? ⟨lb, o, none⟩ := fun o => by
  have := hK4.2.1 lb (Nat.lt_of_lt_of_le hlm hB3.size) (by omega)
  simp only [World.cell?, this]
 have d0' := (hlb4 0).trans d0
 have d2' := (hlb4 2).trans d2
 clear hlb4 d0 d2
 have hs1 := lstate_any lb 1 _ w4 d0' d2'
 have hs2 := lstate_any mb 5 _ w4 hm0 hm2
 rw [show (((1 : Nat)) : Int) = 1 from rfl] at hs1
 rw [show (((5 : Nat)) : Int) = 5 from rfl] at hs2
 have hcs := run_cutS (P := Tryz.prog) Tryz.underlying9 w4 (l := OUT) (lo := none) (hi := some (.int .i64 8)) 0 8 (.inl ⟨rfl, rfl⟩) (.inr ⟨_, _, rfl, rfl⟩) (by omega) (by omega)
 go_wp2_with (with_reducible refine h_A ?_)
 (with_reducible refine hs1.mono ?_)
 rintro e w5 ⟨rfl, rfl⟩
 go_wp2_with (with_reducible refine h_A ?_)
 (with_reducible refine hs2.mono ?_)
 rintro e w6 ⟨rfl, rfl⟩
 go_wp2_with (with_reducible refine h_A ?_)
 go_ret
 exact ⟨rfl, hB4⟩
end Go.PH
end
section
/- The link in memory; what it does, as plain mathematics. -/
namespace Go.PH
open Go.RowKit Go.Proofs

/-- a link: its state, what is agreed on, its gathering, what it sends and tells -/
structure LS where
 st : Nat
 ch : Nat
 sz : Nat
 g : GS
 sent : List UInt8
 told : List As
def LS.close (L : LS) (code : Nat) (text : List UInt8) : LS := { L with st := 5, sent := L.sent ++ ctlB L.sz (closeB code text) }
def LS.send (L : LS) (bs : List UInt8) : LS := { L with sent := L.sent ++ ctlB L.sz bs }
/-- an assembly that was told, as it lies -/
structure TAs where
 a : As
 A : Option Addr
 c : Nat
def taC (x : TAs) : List Value := [.int .u16 (x.a.chan : Int), .int .u8 (x.a.track : Int), .slice x.A x.a.segs.length x.c]
theorem taShape : RecShape taC 3 := ⟨fun _ => rfl, fun a u h => by simp [taC] at h; rcases h with rfl | rfl | rfl <;> rfl, by omega⟩
theorem slTA : SlT Tryz.prog 29 42 3 32 (.agg #[.int .u16 0, .int .u8 0, .slice none 0 0]) := SlT.mk' Tryz.underlying29 (by kernel_rfl) rfl (by omega)
abbrev OwnT (w : World) (base : Nat) (A : Option Addr) (n c : Nat) (l : List TAs) : Prop := Own w base 42 3 A n c (rowC taC l)

structure LkM (w : World) (B : Nat) (U T : Nat → Prop) (lb n : Nat) (RA : Option Addr) (rn rc : Nat) (L : LS) : Prop where
 ex : ∃ (gp : Nat) (p : Value) (SA : Option Addr) (sc : Nat) (TT : Option Addr) (tc : Nat) (th : List TAs) (F : Nat → Prop),
  Box w lb 61 #[.int .u8 (L.st : Int), .slice RA rn rc, .pointer (some ⟨gp, 0, none⟩), .int .u64 (L.ch : Int), .int .u64 (L.sz : Int), p, .slice SA L.sent.length sc, .slice TT L.told.length tc] ∧
  (p = .pointer none ∨ p = bPtr lb 5) ∧ Own w B 5 1 SA L.sent.length sc (L.sent.map u8v) ∧ OwnT w B TT L.told.length tc th ∧ L.told = th.map (·.a) ∧
  (∀ x ∈ th, OwnG w 0 x.A x.a.segs.length x.c x.a.segs ∧ ∀ b, blk x.A = some b → T b) ∧ Ga w F gp n L.g ∧
  (∀ b, F b → U b) ∧ (∀ b, blk SA = some b → U b ∧ b ≠ lb ∧ ¬ F b ∧ blk TT ≠ some b) ∧ (∀ b, blk TT = some b → U b ∧ b ≠ lb ∧ ¬ F b) ∧ ¬ F lb
 lb : U lb
 size : B ≤ w.heap.size
 uB : ∀ b, U b → B ≤ b ∧ b < w.heap.size
 tB : ∀ b, T b → b < w.heap.size
 ut : ∀ b, T b → ¬ U b
theorem LkM.keep {w w' : World} {B : Nat} {U T : Nat → Prop} {lb n : Nat} {RA : Option Addr} {rn rc : Nat} {L : LS} (h : LkM w B U T lb n RA rn rc L) {G : Nat → Prop} (hk : KeepF G w w') (hU : ∀ k, U k → ¬ G k) (hT : ∀ k, T k → ¬ G k) : LkM w' B U T lb n RA rn rc L where
 ex := by
  obtain ⟨gp, p, SA, sc, TT, tc, th, F, h1, h2, h3, h4, h5, h6, h7, h8, h9, h10, h11⟩ := h.ex
  exact ⟨gp, p, SA, sc, TT, tc, th, F, box_keepF h1 hk (hU _ h.lb), h2, own_keepF h3 hk (fun b e => hU _ (h9 b e).1), own_keepF h4 hk (fun b e => hU _ (h10 b e).1), h5, fun x hx => ⟨own_keepF (h6 x hx).1 hk (fun b e => hT _ ((h6 x hx).2 b e)), (h6 x hx).2⟩,
   h7.keep (fun k hF => hk.2.1 k (h7.lt k hF) (hU _ (h8 k hF))) hk.1, h8, h9, h10, h11⟩
 lb := h.lb
 size := Nat.le_trans h.size hk.1
 uB := fun b hb => ⟨(h.uB b hb).1, Nat.lt_of_lt_of_le (h.uB b hb).2 hk.1⟩
 tB := fun b hb => Nat.lt_of_lt_of_le (h.tB b hb) hk.1
 ut := h.ut
theorem LkM.below {w w' : World} {B : Nat} {U T : Nat → Prop} {lb n : Nat} {RA : Option Addr} {rn rc : Nat} {L : LS} (h : LkM w B U T lb n RA rn rc L) (hB : Below w.heap.size w w') : LkM w' B U T lb n RA rn rc L :=
 h.keep (KeepF.below (F := fun _ => False) hB) (fun _ _ e => e) (fun _ _ e => e)
/-- a step of a link -/
def LStep (w : World) (B : Nat) (U T : Nat → Prop) (lb n : Nat) (RA : Option Addr) (rn rc : Nat) (L : LS) (w' : World) : Prop :=
 ∃ U' T', LkM w' B U' T' lb n RA rn rc L ∧ KeepF U w w' ∧ (∀ k, U' k → U k ∨ w.heap.size ≤ k) ∧ (∀ k, T' k → T k ∨ U k ∨ w.heap.size ≤ k)
theorem LStep.refl {w : World} {B : Nat} {U T : Nat → Prop} {lb n : Nat} {RA : Option Addr} {rn rc : Nat} {L : LS} (h : LkM w B U T lb n RA rn rc L) : LStep w B U T lb n RA rn rc L w := ⟨U, T, h, .refl _ _, fun _ h => .inl h, fun _ h => .inl h⟩
theorem LStep.of {w w1 w2 : World} {B : Nat} {U U1 T T1 : Nat → Prop} {lb n : Nat} {RA : Option Addr} {rn rc : Nat} {L : LS} (hk : KeepF U w w1) (hU : ∀ k, U1 k → U k ∨ w.heap.size ≤ k) (hT : ∀ k, T1 k → T k ∨ U k ∨ w.heap.size ≤ k) (h : LStep w1 B U1 T1 lb n RA rn rc L w2) : LStep w B U T lb n RA rn rc L w2 := by
 obtain ⟨U', T', h1, h2, h3, h4⟩ := h
 have hz := hk.1
 refine ⟨U', T', h1, hk.trans h2 hU, fun k hk' => ?_, fun k hk' => ?_⟩
 ·rcases h3 k hk' with e | e
  ·exact hU k e
  ·exact .inr (by omega)
 ·rcases h4 k hk' with e | e | e
  ·exact hT k e
  ·exact .inr (hU k e)
  ·exact .inr (.inr (by omega))
theorem LStep.from {w w1 w2 : World} {B : Nat} {U T : Nat → Prop} {lb n : Nat} {RA : Option Addr} {rn rc : Nat} {L : LS} (hB : Below w.heap.size w w1) (h : LStep w1 B U T lb n RA rn rc L w2) : LStep w B U T lb n RA rn rc L w2 :=
 .of (.below hB) (fun _ h => .inl h) (fun _ h => .inl h) h
/-- what was written into the link's builder, and its state -/
theorem LkM.wrote {w w' : World} {B : Nat} {U T : Nat → Prop} {lb n : Nat} {RA : Option Addr} {rn rc : Nat} {L L' : LS} (h : LkM w B U T lb n RA rn rc L) (hch : L'.ch = L.ch) (hsz : L'.sz = L.sz) (hg : L'.g = L.g) (htl : L'.told = L.told)
  (hw : ∀ (cs : Array Value) (p : Value) (SA : Option Addr) (sc : Nat), Box w lb 61 cs → cs.size = 8 → cs[4]? = some (.int .u64 (L.sz : Int)) → cs[5]? = some p → (p = .pointer none ∨ p = bPtr lb 5) → cs[6]? = some (.slice SA L.sent.length sc) → Own w B 5 1 SA L.sent.length sc (L.sent.map u8v) → blk SA ≠ some lb →
   cs[0]? = some (.int .u8 (L.st : Int)) →
   (∃ A2 c2, Box w' lb 61 (((cs.setIfInBounds 5 (bPtr lb 5)).setIfInBounds 6 (.slice A2 L'.sent.length c2)).setIfInBounds 0 (.int .u8 (L'.st : Int))) ∧ Own w' B 5 1 A2 L'.sent.length c2 (L'.sent.map u8v) ∧ blk A2 ≠ some lb ∧ (blk A2 = blk SA ∨ ∀ k, blk A2 = some k → w.heap.size ≤ k)) ∧ KeepF (fun k => k = lb ∨ blk SA = some k) w w') :
  LStep w B U T lb n RA rn rc L' w' := by
 obtain ⟨gp, p, SA, sc, TT, tc, th, F, h1, h2, h3, h4, h5, h6, h7, h8, h9, h10, h11⟩ := h.ex
 obtain ⟨⟨A2, c2, k1, k2, k3, k4⟩, hk⟩ := hw _ p SA sc h1 rfl rfl rfl h2 rfl h3 (fun e => (h9 lb e).2.1 rfl) rfl
 have hU : ∀ k, k = lb ∨ blk SA = some k → U k := fun k e => by rcases e with rfl | e; exact h.lb; exact (h9 k e).1
 have hT : ∀ k, T k → ¬ (k = lb ∨ blk SA = some k) := fun k hk e => h.ut k hk (hU k e)
 have hzz := hk.1
 refine ⟨fun k => U k ∨ (w.heap.size ≤ k ∧ blk A2 = some k), T, ⟨⟨gp, bPtr lb 5, A2, c2, TT, tc, th, F, ?_, .inr rfl, k2, ?_, ?_, ?_, ?_, fun b hb => .inl (h8 b hb), fun b hb => ?_, fun b hb => ⟨.inl (h10 b hb).1, (h10 b hb).2⟩, h11⟩, .inl h.lb, Nat.le_trans h.size hzz, fun b hb => ?_, fun b hb => Nat.lt_of_lt_of_le (h.tB b hb) hzz, fun b hb e => ?_⟩, hk.weak (fun g hg => .inl (hU g hg)), fun k hk => by rcases hk with e | e; exact .inl e; exact .inr e.1, fun k hk => .inl hk⟩
 ·rw [hch, hsz, htl]; exact k1
 ·rw [htl]; exact own_keepF h4 hk (fun b hb e => by rcases e with e | e; exact (h10 b hb).2.1 e; exact (h9 b e).2.2.2 hb)
 ·rw [htl]; exact h5
 ·exact fun x hx => ⟨own_keepF (h6 x hx).1 hk (fun b e => hT _ ((h6 x hx).2 b e)), (h6 x hx).2⟩
 ·rw [hg]; exact h7.keep (fun k hF => hk.2.1 k (h7.lt k hF) (fun e => by rcases e with e | e; exact h11 (e ▸ hF); exact (h9 k e).2.2.1 hF)) hk.1
 ·rcases k4 with e | e
  ·rw [e] at hb
   exact ⟨.inl (h9 b hb).1, (h9 b hb).2⟩
  ·have hb2 := e b hb
   exact ⟨.inr ⟨hb2, hb⟩, fun e2 => k3 (e2 ▸ hb), fun hF => by have := h7.lt b hF; omega, fun e2 => by have := (h4.blk_lt e2).2; omega⟩
 ·rcases hb with hb | hb
  ·exact ⟨(h.uB b hb).1, Nat.lt_of_lt_of_le (h.uB b hb).2 hzz⟩
  ·exact k2.blk_lt hb.2
 ·rcases e with e | e
  ·exact h.ut b hb e
  ·have := h.tB b hb; omega
theorem lk_end (code : Nat) (text : List UInt8) (hcode : code < 65536) (htext : text.length < 256) {w : World} {B : Nat} {U T : Nat → Prop} {lb n : Nat} {RA : Option Addr} {rn rc : Nat} {L : LS} (h : LkM w B U T lb n RA rn rc L) (he : MEnv w) (hsz : L.sz ≤ 1000000) (hs : L.sent.length ≤ 10000000000) :
  Calls Tryz.prog 33 #[.pointer (some ⟨lb, 0, none⟩), .int .u64 (code : Int), .string (str text)] w fun e w' => e = .returned (.tuple #[]) ∧ LStep w B U T lb n RA rn rc (L.close code text) w' := by
 obtain ⟨gp, p, SA, sc, TT, tc, th, F, h1, h2, h3, h4, h5, h6, h7, h8, h9, h10, h11⟩ := h.ex
 refine (lend_any code text hcode htext lb L.sz B L.sent.length sc _ p SA L.sent w he h1 rfl rfl hsz rfl h2 rfl h3 (fun e => (h9 lb e).2.1 rfl) h.size hs).mono ?_
 rintro e w' ⟨rfl, hW⟩
 refine ⟨rfl, h.wrote rfl rfl rfl rfl fun cs q SB sd k1 k2 k3 k4 k5 k6 k7 k8 k9 => ?_⟩
 have e1 := k1
 unfold Box at e1 h1
 rw [h1] at e1
 injection e1 with e1
 injection e1 with e1 _ _
 subst e1
 injection k6 with k6
 injection k6 with e2 _ _
 subst e2
 exact ⟨hW.ex, hW.keep⟩
theorem lk_send (code : Nat) (S : List SA) (bs : List UInt8) (hctl : CtlC code S bs) (hbs : bs.length ≤ 10000) (A : Option Addr) (m c : Nat) {w : World} {B : Nat} {U T : Nat → Prop} {lb n : Nat} {RA : Option Addr} {rn rc : Nat} {L : LS} (h : LkM w B U T lb n RA rn rc L) (he : MEnv w) (hr : Rd w w.heap.size 12 A m c (rowC saC S)) (hsz : L.sz ≤ 1000000) (hs : L.sent.length ≤ 10000000000) :
  Calls Tryz.prog 36 #[.pointer (some ⟨lb, 0, none⟩), .int .u8 (code : Int), .slice A m c] w fun e w' => e = .returned (.tuple #[]) ∧ LStep w B U T lb n RA rn rc (L.send bs) w' := by
 obtain ⟨gp, p, SA, sc, TT, tc, th, F, h1, h2, h3, h4, h5, h6, h7, h8, h9, h10, h11⟩ := h.ex
 refine (lsend_any code S bs hctl hbs lb L.sz B L.sent.length sc _ p SA L.sent A m c w he hr h1 rfl rfl hsz rfl h2 rfl h3 (fun e => (h9 lb e).2.1 rfl) h.size hs).mono ?_
 rintro e w' ⟨rfl, hW⟩
 refine ⟨rfl, h.wrote rfl rfl rfl rfl fun cs q SB sd k1 k2 k3 k4 k5 k6 k7 k8 k9 => ?_⟩
 have e1 := k1
 unfold Box at e1 h1
 rw [h1] at e1
 injection e1 with e1
 injection e1 with e1 _ _
 subst e1
 injection k6 with k6
 injection k6 with e2 _ _
 subst e2
 exact ⟨hW.ex, hW.keep⟩
end Go.PH
end
section
/- What is read of a link in memory; what a frame, and what is told, makes of it. -/
namespace Go.PH
open Go.RowKit Go.Proofs

section
variable {w : World} {B : Nat} {U T : Nat → Prop} {lb n : Nat} {RA : Option Addr} {rn rc : Nat} {L : LS}
theorem LkM.c0 (h : LkM w B U T lb n RA rn rc L) : w.cell? ⟨lb, 0, none⟩ = some (.int .u8 (L.st : Int)) := by
 obtain ⟨gp, p, SA, sc, TT, tc, th, F, h1, _⟩ := h.ex
 exact h1.c0
theorem LkM.c1 (h : LkM w B U T lb n RA rn rc L) : w.cell? ⟨lb, 1, none⟩ = some (.slice RA rn rc) := by
 obtain ⟨gp, p, SA, sc, TT, tc, th, F, h1, _⟩ := h.ex
 exact h1.c1
theorem LkM.c3 (h : LkM w B U T lb n RA rn rc L) : w.cell? ⟨lb, 3, none⟩ = some (.int .u64 (L.ch : Int)) := by
 obtain ⟨gp, p, SA, sc, TT, tc, th, F, h1, _⟩ := h.ex
 exact h1.c3
theorem LkM.c4 (h : LkM w B U T lb n RA rn rc L) : w.cell? ⟨lb, 4, none⟩ = some (.int .u64 (L.sz : Int)) := by
 obtain ⟨gp, p, SA, sc, TT, tc, th, F, h1, _⟩ := h.ex
 exact h1.c4
theorem LkM.blt (h : LkM w B U T lb n RA rn rc L) : lb < w.heap.size := (h.uB _ h.lb).2
/-- more blocks of what was told -/
theorem LkM.more (h : LkM w B U T lb n RA rn rc L) {T2 : Nat → Prop} (h1 : ∀ k, T k → T2 k) (h2 : ∀ k, T2 k → k < w.heap.size ∧ ¬ U k) : LkM w B U T2 lb n RA rn rc L where
 ex := by
  obtain ⟨gp, p, SA, sc, TT, tc, th, F, k1, k2, k3, k4, k5, k6, k7⟩ := h.ex
  exact ⟨gp, p, SA, sc, TT, tc, th, F, k1, k2, k3, k4, k5, fun x hx => ⟨(k6 x hx).1, fun b e => h1 b ((k6 x hx).2 b e)⟩, k7⟩
 lb := h.lb
 size := h.size
 uB := h.uB
 tB := fun b hb => (h2 b hb).1
 ut := fun b hb => (h2 b hb).2
/-- the gathering -/
theorem LkM.gath (h : LkM w B U T lb n RA rn rc L) : ∃ gp F, w.cell? ⟨lb, 2, none⟩ = some (.pointer (some ⟨gp, 0, none⟩)) ∧ Ga w F gp n L.g ∧ (∀ b, F b → U b) ∧ ¬ F lb ∧
  ∀ w' F' g', (∀ k, F' k → F k ∨ w.heap.size ≤ k) → Ga w' F' gp (n + 1) g' → KeepF F w w' → LkM w' B (fun k => (U k ∧ ¬ F k) ∨ F' k) T lb (n + 1) RA rn rc { L with g := g' } := by
 obtain ⟨gp, p, SA, sc, TT, tc, th, F, h1, h2, h3, h4, h5, h6, h7, h8, h9, h10, h11⟩ := h.ex
 refine ⟨gp, F, h1.cell (j := 2) rfl, h7, h8, h11, fun w' F' g' hF hga hk => ⟨⟨gp, p, SA, sc, TT, tc, th, F', box_keepF h1 hk h11, h2, own_keepF h3 hk (fun b e => (h9 b e).2.2.1), own_keepF h4 hk (fun b e => (h10 b e).2.2), h5, fun x hx => ⟨own_keepF (h6 x hx).1 hk (fun b e hb => h.ut b ((h6 x hx).2 b e) (h8 b hb)), (h6 x hx).2⟩, hga, fun b hb => .inr hb, fun b hb => ?_, fun b hb => ?_, fun e => ?_⟩, .inl ⟨h.lb, h11⟩, Nat.le_trans h.size hk.1, fun b hb => ?_, fun b hb => Nat.lt_of_lt_of_le (h.tB b hb) hk.1, fun b hb e => ?_⟩⟩
 ·refine ⟨.inl ⟨(h9 b hb).1, (h9 b hb).2.2.1⟩, (h9 b hb).2.1, fun e => ?_, (h9 b hb).2.2.2⟩
  rcases hF b e with e | e
  ·exact (h9 b hb).2.2.1 e
  ·have := (h3.blk_lt hb).2; omega
 ·refine ⟨.inl ⟨(h10 b hb).1, (h10 b hb).2.2⟩, (h10 b hb).2.1, fun e => ?_⟩
  rcases hF b e with e | e
  ·exact (h10 b hb).2.2 e
  ·have := (h4.blk_lt hb).2; omega
 ·rcases hF lb e with e | e
  ·exact h11 e
  ·have := h.blt; omega
 ·have hs := h.size
  have hkz := hk.1
  rcases hb with hb | hb
  ·exact ⟨(h.uB b hb.1).1, Nat.lt_of_lt_of_le (h.uB b hb.1).2 hk.1⟩
  ·refine ⟨?_, hga.lt b hb⟩
   rcases hF b hb with e | e
   ·exact (h.uB b (h8 b e)).1
   ·omega
 ·rcases e with e | e
  ·exact h.ut b hb e.1
  ·rcases hF b e with e | e
   ·exact h.ut b hb (h8 b e)
   ·have := h.tB b hb; omega
/-- what is told -/
theorem LkM.tells (h : LkM w B U T lb n RA rn rc L) : ∃ TT tc th cs, Box w lb 61 cs ∧ cs.size = 8 ∧ cs[7]? = some (.slice TT L.told.length tc) ∧ OwnT w B TT L.told.length tc th ∧ (∀ b, blk TT = some b → U b ∧ b ≠ lb) ∧
  ∀ (a : As) (A : Option Addr) (c : Nat) w2 w3 TT2 tc2, OwnG w 0 A a.segs.length c a.segs → (∀ b, blk A = some b → T b) → OwnT w2 B TT2 (L.told.length + 1) tc2 (th ++ [⟨a, A, c⟩]) → w.grownBy w2 (blk TT) → (blk TT2 = blk TT ∨ ∀ k, blk TT2 = some k → w.heap.size ≤ k) →
   Box w3 lb 61 (cs.setIfInBounds 7 (.slice TT2 (L.told.length + 1) tc2)) → w2.grownBy w3 (some lb) → LStep w B U T lb n RA rn rc { L with told := L.told ++ [a] } w3 := by
 obtain ⟨gp, p, SA, sc, TT, tc, th, F, h1, h2, h3, h4, h5, h6, h7, h8, h9, h10, h11⟩ := h.ex
 refine ⟨TT, tc, th, _, h1, rfl, rfl, h4, fun b e => ⟨(h10 b e).1, (h10 b e).2.1⟩, fun a A c w2 w3 TT2 tc2 hG hA hO hg2 hT2 hb3 hg3 => ?_⟩
 have hk2 : KeepF (fun k => blk TT = some k) w w2 := .grown hg2 (fun g hg => .inl hg)
 have hk3 : KeepF (fun k => k = lb) w2 w3 := .grown hg3 (fun g hg => .inl (by injection hg with hg; exact hg.symm))
 have hk : KeepF (fun k => k = lb ∨ blk TT = some k) w w3 := (hk2.weak (fun g hg => .inl (.inr hg))).trans (hk3.weak (G := fun k => k = lb ∨ blk TT = some k) (fun g hg => .inl (.inl hg))) (fun g hg => .inl hg)
 have hne2 : ∀ b, blk TT2 = some b → b ≠ lb := fun b e e2 => by
  rcases hT2 with e3 | e3
  ·rw [e3] at e; exact (h10 b e).2.1 e2
  ·have := e3 b e; have := h.blt; omega
 have hO3 := own_keepF hO hk3 hne2
 have hU : ∀ k, k = lb ∨ blk TT = some k → U k := fun k e => by rcases e with rfl | e; exact h.lb; exact (h10 k e).1
 have hT : ∀ k, T k → ¬ (k = lb ∨ blk TT = some k) := fun k hk e => h.ut k hk (hU k e)
 have hzz := hk.1
 refine ⟨fun k => U k ∨ (w.heap.size ≤ k ∧ blk TT2 = some k), T, ⟨⟨gp, p, SA, sc, TT2, tc2, th ++ [⟨a, A, c⟩], F, ?_, h2, ?_, ?_, ?_, ?_, ?_, fun b hb => .inl (h8 b hb), fun b hb => ?_, fun b hb => ?_, h11⟩, .inl h.lb, Nat.le_trans h.size hzz, fun b hb => ?_, fun b hb => Nat.lt_of_lt_of_le (h.tB b hb) hzz, fun b hb e => ?_⟩, hk.weak (fun g hg => .inl (hU g hg)), fun k hk => by rcases hk with e | e; exact .inl e; exact .inr e.1, fun k hk => .inl hk⟩
 ·rw [List.length_append]; exact hb3
 ·exact own_keepF h3 hk (fun b hb e => by rcases e with e | e; exact (h9 b hb).2.1 e; exact (h9 b hb).2.2.2 e)
 ·rw [List.length_append]; exact hO3
 ·rw [List.map_append, ← h5]; rfl
 ·intro x hx
  rcases List.mem_append.1 hx with hx | hx
  ·exact ⟨own_keepF (h6 x hx).1 hk (fun b e => hT _ ((h6 x hx).2 b e)), (h6 x hx).2⟩
  ·obtain rfl : x = ⟨a, A, c⟩ := by simpa using hx
   exact ⟨own_keepF hG hk (fun b e => hT _ (hA b e)), hA⟩
 ·exact h7.keep (fun k hF => hk.2.1 k (h7.lt k hF) (fun e => by rcases e with e | e; exact h11 (e ▸ hF); exact (h10 k e).2.2 hF)) hk.1
 ·refine ⟨.inl (h9 b hb).1, (h9 b hb).2.1, (h9 b hb).2.2.1, fun e => ?_⟩
  rcases hT2 with e2 | e2
  ·rw [e2] at e; exact (h9 b hb).2.2.2 e
  ·have := e2 b e; have := (h3.blk_lt hb).2; omega
 ·rcases hT2 with e2 | e2
  ·rw [e2] at hb; exact ⟨.inl (h10 b hb).1, (h10 b hb).2⟩
  ·exact ⟨.inr ⟨e2 b hb, hb⟩, hne2 b hb, fun hF => by have := h7.lt b hF; have := e2 b hb; omega⟩
 ·rcases hb with hb | hb
  ·exact ⟨(h.uB b hb).1, Nat.lt_of_lt_of_le (h.uB b hb).2 hzz⟩
  ·exact hO3.blk_lt hb.2
 ·rcases e with e | e
  ·exact h.ut b hb e
  ·have := h.tB b hb; omega
end
end Go.PH
end

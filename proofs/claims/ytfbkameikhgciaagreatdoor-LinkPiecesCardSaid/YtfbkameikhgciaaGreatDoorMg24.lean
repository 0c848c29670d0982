/- Texts laid together: LkMem, LkMem2, LkTake. -/
import Derived.BigQuiet
import Derived.Test.YtfbkameikhgciaaGreatDoorMg10
import Derived.Test.YtfbkameikhgciaaGreatDoorMg23
set_option linter.all false
set_option linter.unusedSimpArgs false
set_option linter.unusedVariables false
set_option maxRecDepth 20000
set_option maxHeartbeats 8000000
section
namespace Go.PH
open Go.RowKit Go.Proofs
structure LS where
 st : Nat
 ch : Nat
 sz : Nat
 g : GS
 sent : List UInt8
 told : List As
def LS.close (L : LS) (code : Nat) (text : List UInt8) : LS := { L with st := 5, sent := L.sent ++ ctlB L.sz (qG code text) }
def LS.send (L : LS) (bs : List UInt8) : LS := { L with sent := L.sent ++ ctlB L.sz bs }
structure TAs where
 a : As
 A : Option Addr
 c : Nat
def taC (x : TAs) : List Value := [.int .u16 (x.a.chan : Int), .int .u8 (x.a.track : Int), .slice x.A x.a.segs.length x.c]
theorem taShape : RecShape taC 3 := ⟨fun _ => rfl, fun a u h => by simp [taC] at h; rcases h with rfl | rfl | rfl <;> rfl, by omega⟩
theorem slTA : SlT Tryz.prog 29 42 3 32 (.agg #[.int .u16 0, .int .u8 0, .slice none 0 0]) := SlT.mk' Tryz.underlying29 (by kernel_rfl) rfl (by omega)
abbrev OwnT (w : World) (base : Nat) (A : Option Addr) (n c : Nat) (l : List TAs) : Prop := Own w base 42 3 A n c (rowC taC l)
structure LkM (w : World) (B : Nat) (U T : Nat → Prop) (lb n : Nat) (RA : Option Addr) (rn rc : Nat) (L : LS) : Prop where
 ex : ∃ (gp : Nat) (p : Value) (SA : Option Addr) (sc : Nat) (TT : Option Addr) (tc : Nat) (th : List TAs) (F : Nat → Prop),
  Box w lb 61 #[.int .u8 (L.st : Int), .slice RA rn rc, .pointer (some ⟨gp, 0, none⟩), .int .u64 (L.ch : Int), .int .u64 (L.sz : Int), p, .slice SA L.sent.length sc, .slice TT L.told.length tc] ∧
  (p = .pointer none ∨ p = bPtr lb 5) ∧ Own w B 5 1 SA L.sent.length sc (L.sent.map u8v) ∧ OwnT w B TT L.told.length tc th ∧ L.told = th.map (·.a) ∧
  (∀ x ∈ th, OwnG w 0 x.A x.a.segs.length x.c x.a.segs ∧ ∀ b, blk x.A = some b → T b) ∧ Ga w F gp n L.g ∧
  (∀ b, F b → U b) ∧ (∀ b, blk SA = some b → U b ∧ b ≠ lb ∧ ¬ F b ∧ blk TT ≠ some b) ∧ (∀ b, blk TT = some b → U b ∧ b ≠ lb ∧ ¬ F b) ∧ ¬ F lb
 lb : U lb
 size : B ≤ w.heap.size
 uB : ∀ b, U b → B ≤ b ∧ b < w.heap.size
 tB : ∀ b, T b → b < w.heap.size
 ut : ∀ b, T b → ¬ U b
theorem LkM.keep {w w' : World} {B : Nat} {U T : Nat → Prop} {lb n : Nat} {RA : Option Addr} {rn rc : Nat} {L : LS} (h : LkM w B U T lb n RA rn rc L) {G : Nat → Prop} (hk : KeepF G w w') (hU : ∀ k, U k → ¬ G k) (hT : ∀ k, T k → ¬ G k) : LkM w' B U T lb n RA rn rc L where
 ex := by
  obtain ⟨gp, p, SA, sc, TT, tc, th, F, h1, h2, h3, h4, h5, h6, h7, h8, h9, h10, h11⟩ := h.ex
  exact ⟨gp, p, SA, sc, TT, tc, th, F, ym h1 hk (hU _ h.lb), h2, zq h3 hk (fun b e => hU _ (h9 b e).1), zq h4 hk (fun b e => hU _ (h10 b e).1), h5, fun x hx => ⟨zq (h6 x hx).1 hk (fun b e => hT _ ((h6 x hx).2 b e)), (h6 x hx).2⟩,
   h7.keep (fun k hF => hk.2.1 k (h7.lt k hF) (hU _ (h8 k hF))) hk.1, h8, h9, h10, h11⟩
 lb := h.lb
 size := Nat.le_trans h.size hk.1
 uB := fun b hb => ⟨(h.uB b hb).1, Nat.lt_of_lt_of_le (h.uB b hb).2 hk.1⟩
 tB := fun b hb => Nat.lt_of_lt_of_le (h.tB b hb) hk.1
 ut := h.ut
theorem LkM.below {w w' : World} {B : Nat} {U T : Nat → Prop} {lb n : Nat} {RA : Option Addr} {rn rc : Nat} {L : LS} (h : LkM w B U T lb n RA rn rc L) (hB : Below w.heap.size w w') : LkM w' B U T lb n RA rn rc L :=
 h.keep (KeepF.below (F := fun _ => False) hB) (fun _ _ e => e) (fun _ _ e => e)
def LStep (w : World) (B : Nat) (U T : Nat → Prop) (lb n : Nat) (RA : Option Addr) (rn rc : Nat) (L : LS) (w' : World) : Prop :=
 ∃ U' T', LkM w' B U' T' lb n RA rn rc L ∧ KeepF U w w' ∧ (∀ k, U' k → U k ∨ w.heap.size ≤ k) ∧ (∀ k, T' k → T k ∨ U k ∨ w.heap.size ≤ k)
theorem LStep.refl {w : World} {B : Nat} {U T : Nat → Prop} {lb n : Nat} {RA : Option Addr} {rn rc : Nat} {L : LS} (h : LkM w B U T lb n RA rn rc L) : LStep w B U T lb n RA rn rc L w := ⟨U, T, h, .refl _ _, fun _ h => .inl h, fun _ h => .inl h⟩
theorem LStep.of {w w1 w2 : World} {B : Nat} {U U1 T T1 : Nat → Prop} {lb n : Nat} {RA : Option Addr} {rn rc : Nat} {L : LS} (hk : KeepF U w w1) (hU : ∀ k, U1 k → U k ∨ w.heap.size ≤ k) (hT : ∀ k, T1 k → T k ∨ U k ∨ w.heap.size ≤ k) (h : LStep w1 B U1 T1 lb n RA rn rc L w2) : LStep w B U T lb n RA rn rc L w2 := by
 obtain ⟨U', T', h1, h2, h3, h4⟩ := h
 have hz := hk.1
 refine ⟨U', T', h1, hk.trans h2 hU, fun k hk' => ?_, fun k hk' => ?_⟩
 ·rcases h3 k hk' with e | e
  ·exact hU k e
  ·exact .inr (by omega)
 ·rcases h4 k hk' with e | e | e
  ·exact hT k e
  ·exact .inr (hU k e)
  ·exact .inr (.inr (by omega))
theorem LStep.from {w w1 w2 : World} {B : Nat} {U T : Nat → Prop} {lb n : Nat} {RA : Option Addr} {rn rc : Nat} {L : LS} (hB : Below w.heap.size w w1) (h : LStep w1 B U T lb n RA rn rc L w2) : LStep w B U T lb n RA rn rc L w2 :=
 .of (.below hB) (fun _ h => .inl h) (fun _ h => .inl h) h
theorem LkM.wrote {w w' : World} {B : Nat} {U T : Nat → Prop} {lb n : Nat} {RA : Option Addr} {rn rc : Nat} {L L' : LS} (h : LkM w B U T lb n RA rn rc L) (hch : L'.ch = L.ch) (hsz : L'.sz = L.sz) (hg : L'.g = L.g) (htl : L'.told = L.told)
  (hw : ∀ (cs : Array Value) (p : Value) (SA : Option Addr) (sc : Nat), Box w lb 61 cs → cs.size = 8 → cs[4]? = some (.int .u64 (L.sz : Int)) → cs[5]? = some p → (p = .pointer none ∨ p = bPtr lb 5) → cs[6]? = some (.slice SA L.sent.length sc) → Own w B 5 1 SA L.sent.length sc (L.sent.map u8v) → blk SA ≠ some lb →
   cs[0]? = some (.int .u8 (L.st : Int)) →
   (∃ A2 c2, Box w' lb 61 (((cs.setIfInBounds 5 (bPtr lb 5)).setIfInBounds 6 (.slice A2 L'.sent.length c2)).setIfInBounds 0 (.int .u8 (L'.st : Int))) ∧ Own w' B 5 1 A2 L'.sent.length c2 (L'.sent.map u8v) ∧ blk A2 ≠ some lb ∧ (blk A2 = blk SA ∨ ∀ k, blk A2 = some k → w.heap.size ≤ k)) ∧ KeepF (fun k => k = lb ∨ blk SA = some k) w w') :
  LStep w B U T lb n RA rn rc L' w' := by
 obtain ⟨gp, p, SA, sc, TT, tc, th, F, h1, h2, h3, h4, h5, h6, h7, h8, h9, h10, h11⟩ := h.ex
 obtain ⟨⟨A2, c2, k1, k2, k3, k4⟩, hk⟩ := hw _ p SA sc h1 rfl rfl rfl h2 rfl h3 (fun e => (h9 lb e).2.1 rfl) rfl
 have hU : ∀ k, k = lb ∨ blk SA = some k → U k := fun k e => by rcases e with rfl | e; exact h.lb; exact (h9 k e).1
 have hT : ∀ k, T k → ¬ (k = lb ∨ blk SA = some k) := fun k hk e => h.ut k hk (hU k e)
 have hzz := hk.1
 refine ⟨fun k => U k ∨ (w.heap.size ≤ k ∧ blk A2 = some k), T, ⟨⟨gp, bPtr lb 5, A2, c2, TT, tc, th, F, ?_, .inr rfl, k2, ?_, ?_, ?_, ?_, fun b hb => .inl (h8 b hb), fun b hb => ?_, fun b hb => ⟨.inl (h10 b hb).1, (h10 b hb).2⟩, h11⟩, .inl h.lb, Nat.le_trans h.size hzz, fun b hb => ?_, fun b hb => Nat.lt_of_lt_of_le (h.tB b hb) hzz, fun b hb e => ?_⟩, hk.weak (fun g hg => .inl (hU g hg)), fun k hk => by rcases hk with e | e; exact .inl e; exact .inr e.1, fun k hk => .inl hk⟩
 ·rw [hch, hsz, htl]; exact k1
 ·rw [htl]; exact zq h4 hk (fun b hb e => by rcases e with e | e; exact (h10 b hb).2.1 e; exact (h9 b e).2.2.2 hb)
 ·rw [htl]; exact h5
 ·exact fun x hx => ⟨zq (h6 x hx).1 hk (fun b e => hT _ ((h6 x hx).2 b e)), (h6 x hx).2⟩
 ·rw [hg]; exact h7.keep (fun k hF => hk.2.1 k (h7.lt k hF) (fun e => by rcases e with e | e; exact h11 (e ▸ hF); exact (h9 k e).2.2.1 hF)) hk.1
 ·rcases k4 with e | e
  ·rw [e] at hb
   exact ⟨.inl (h9 b hb).1, (h9 b hb).2⟩
  ·have hb2 := e b hb
   exact ⟨.inr ⟨hb2, hb⟩, fun e2 => k3 (e2 ▸ hb), fun hF => by have := h7.lt b hF; omega, fun e2 => by have := (h4.blk_lt e2).2; omega⟩
 ·rcases hb with hb | hb
  ·exact ⟨(h.uB b hb).1, Nat.lt_of_lt_of_le (h.uB b hb).2 hzz⟩
  ·exact k2.blk_lt hb.2
 ·rcases e with e | e
  ·exact h.ut b hb e
  ·have := h.tB b hb; omega
theorem qB (code : Nat) (text : List UInt8) (hcode : code < 65536) (htext : text.length < 256) {w : World} {B : Nat} {U T : Nat → Prop} {lb n : Nat} {RA : Option Addr} {rn rc : Nat} {L : LS} (h : LkM w B U T lb n RA rn rc L) (he : MEnv w) (hsz : L.sz ≤ 1000000) (hs : L.sent.length ≤ 10000000000) :
  Calls Tryz.prog 33 #[.pointer (some ⟨lb, 0, none⟩), .int .u64 (code : Int), .string (str text)] w fun e w' => e = .returned (.tuple #[]) ∧ LStep w B U T lb n RA rn rc (L.close code text) w' := by
 obtain ⟨gp, p, SA, sc, TT, tc, th, F, h1, h2, h3, h4, h5, h6, h7, h8, h9, h10, h11⟩ := h.ex
 refine (JY code text hcode htext lb L.sz B L.sent.length sc _ p SA L.sent w he h1 rfl rfl hsz rfl h2 rfl h3 (fun e => (h9 lb e).2.1 rfl) h.size hs).mono ?_
 rintro e w' ⟨rfl, hW⟩
 refine ⟨rfl, h.wrote rfl rfl rfl rfl fun cs q SB sd k1 k2 k3 k4 k5 k6 k7 k8 k9 => ?_⟩
 have e1 := k1
 unfold Box at e1 h1
 rw [h1] at e1
 injection e1 with e1
 injection e1 with e1 _ _
 subst e1
 injection k6 with k6
 injection k6 with e2 _ _
 subst e2
 exact ⟨hW.ex, hW.keep⟩
theorem Yi (code : Nat) (S : List SA) (bs : List UInt8) (hctl : CtlC code S bs) (hbs : bs.length ≤ 10000) (A : Option Addr) (m c : Nat) {w : World} {B : Nat} {U T : Nat → Prop} {lb n : Nat} {RA : Option Addr} {rn rc : Nat} {L : LS} (h : LkM w B U T lb n RA rn rc L) (he : MEnv w) (hr : Rd w w.heap.size 12 A m c (rowC saC S)) (hsz : L.sz ≤ 1000000) (hs : L.sent.length ≤ 10000000000) :
  Calls Tryz.prog 36 #[.pointer (some ⟨lb, 0, none⟩), .int .u8 (code : Int), .slice A m c] w fun e w' => e = .returned (.tuple #[]) ∧ LStep w B U T lb n RA rn rc (L.send bs) w' := by
 obtain ⟨gp, p, SA, sc, TT, tc, th, F, h1, h2, h3, h4, h5, h6, h7, h8, h9, h10, h11⟩ := h.ex
 refine (kC code S bs hctl hbs lb L.sz B L.sent.length sc _ p SA L.sent A m c w he hr h1 rfl rfl hsz rfl h2 rfl h3 (fun e => (h9 lb e).2.1 rfl) h.size hs).mono ?_
 rintro e w' ⟨rfl, hW⟩
 refine ⟨rfl, h.wrote rfl rfl rfl rfl fun cs q SB sd k1 k2 k3 k4 k5 k6 k7 k8 k9 => ?_⟩
 have e1 := k1
 unfold Box at e1 h1
 rw [h1] at e1
 injection e1 with e1
 injection e1 with e1 _ _
 subst e1
 injection k6 with k6
 injection k6 with e2 _ _
 subst e2
 exact ⟨hW.ex, hW.keep⟩
end Go.PH
end
section
namespace Go.PH
open Go.RowKit Go.Proofs
section
variable {w : World} {B : Nat} {U T : Nat → Prop} {lb n : Nat} {RA : Option Addr} {rn rc : Nat} {L : LS}
theorem LkM.c0 (h : LkM w B U T lb n RA rn rc L) : w.cell? ⟨lb, 0, none⟩ = some (.int .u8 (L.st : Int)) := by
 obtain ⟨gp, p, SA, sc, TT, tc, th, F, h1, _⟩ := h.ex
 exact h1.c0
theorem LkM.c1 (h : LkM w B U T lb n RA rn rc L) : w.cell? ⟨lb, 1, none⟩ = some (.slice RA rn rc) := by
 obtain ⟨gp, p, SA, sc, TT, tc, th, F, h1, _⟩ := h.ex
 exact h1.c1
theorem LkM.c3 (h : LkM w B U T lb n RA rn rc L) : w.cell? ⟨lb, 3, none⟩ = some (.int .u64 (L.ch : Int)) := by
 obtain ⟨gp, p, SA, sc, TT, tc, th, F, h1, _⟩ := h.ex
 exact h1.c3
theorem LkM.c4 (h : LkM w B U T lb n RA rn rc L) : w.cell? ⟨lb, 4, none⟩ = some (.int .u64 (L.sz : Int)) := by
 obtain ⟨gp, p, SA, sc, TT, tc, th, F, h1, _⟩ := h.ex
 exact h1.c4
theorem LkM.blt (h : LkM w B U T lb n RA rn rc L) : lb < w.heap.size := (h.uB _ h.lb).2
theorem LkM.more (h : LkM w B U T lb n RA rn rc L) {T2 : Nat → Prop} (h1 : ∀ k, T k → T2 k) (h2 : ∀ k, T2 k → k < w.heap.size ∧ ¬ U k) : LkM w B U T2 lb n RA rn rc L where
 ex := by
  obtain ⟨gp, p, SA, sc, TT, tc, th, F, k1, k2, k3, k4, k5, k6, k7⟩ := h.ex
  exact ⟨gp, p, SA, sc, TT, tc, th, F, k1, k2, k3, k4, k5, fun x hx => ⟨(k6 x hx).1, fun b e => h1 b ((k6 x hx).2 b e)⟩, k7⟩
 lb := h.lb
 size := h.size
 uB := h.uB
 tB := fun b hb => (h2 b hb).1
 ut := fun b hb => (h2 b hb).2
theorem LkM.gath (h : LkM w B U T lb n RA rn rc L) : ∃ gp F, w.cell? ⟨lb, 2, none⟩ = some (.pointer (some ⟨gp, 0, none⟩)) ∧ Ga w F gp n L.g ∧ (∀ b, F b → U b) ∧ ¬ F lb ∧
  ∀ w' F' g', (∀ k, F' k → F k ∨ w.heap.size ≤ k) → Ga w' F' gp (n + 1) g' → KeepF F w w' → LkM w' B (fun k => (U k ∧ ¬ F k) ∨ F' k) T lb (n + 1) RA rn rc { L with g := g' } := by
 obtain ⟨gp, p, SA, sc, TT, tc, th, F, h1, h2, h3, h4, h5, h6, h7, h8, h9, h10, h11⟩ := h.ex
 refine ⟨gp, F, h1.cell (j := 2) rfl, h7, h8, h11, fun w' F' g' hF hga hk => ⟨⟨gp, p, SA, sc, TT, tc, th, F', ym h1 hk h11, h2, zq h3 hk (fun b e => (h9 b e).2.2.1), zq h4 hk (fun b e => (h10 b e).2.2), h5, fun x hx => ⟨zq (h6 x hx).1 hk (fun b e hb => h.ut b ((h6 x hx).2 b e) (h8 b hb)), (h6 x hx).2⟩, hga, fun b hb => .inr hb, fun b hb => ?_, fun b hb => ?_, fun e => ?_⟩, .inl ⟨h.lb, h11⟩, Nat.le_trans h.size hk.1, fun b hb => ?_, fun b hb => Nat.lt_of_lt_of_le (h.tB b hb) hk.1, fun b hb e => ?_⟩⟩
 ·refine ⟨.inl ⟨(h9 b hb).1, (h9 b hb).2.2.1⟩, (h9 b hb).2.1, fun e => ?_, (h9 b hb).2.2.2⟩
  rcases hF b e with e | e
  ·exact (h9 b hb).2.2.1 e
  ·have := (h3.blk_lt hb).2; omega
 ·refine ⟨.inl ⟨(h10 b hb).1, (h10 b hb).2.2⟩, (h10 b hb).2.1, fun e => ?_⟩
  rcases hF b e with e | e
  ·exact (h10 b hb).2.2 e
  ·have := (h4.blk_lt hb).2; omega
 ·rcases hF lb e with e | e
  ·exact h11 e
  ·have := h.blt; omega
 ·have hs := h.size
  have hkz := hk.1
  rcases hb with hb | hb
  ·exact ⟨(h.uB b hb.1).1, Nat.lt_of_lt_of_le (h.uB b hb.1).2 hk.1⟩
  ·refine ⟨?_, hga.lt b hb⟩
   rcases hF b hb with e | e
   ·exact (h.uB b (h8 b e)).1
   ·omega
 ·rcases e with e | e
  ·exact h.ut b hb e.1
  ·rcases hF b e with e | e
   ·exact h.ut b hb (h8 b e)
   ·have := h.tB b hb; omega
theorem LkM.tells (h : LkM w B U T lb n RA rn rc L) : ∃ TT tc th cs, Box w lb 61 cs ∧ cs.size = 8 ∧ cs[7]? = some (.slice TT L.told.length tc) ∧ OwnT w B TT L.told.length tc th ∧ (∀ b, blk TT = some b → U b ∧ b ≠ lb) ∧
  ∀ (a : As) (A : Option Addr) (c : Nat) w2 w3 TT2 tc2, OwnG w 0 A a.segs.length c a.segs → (∀ b, blk A = some b → T b) → OwnT w2 B TT2 (L.told.length + 1) tc2 (th ++ [⟨a, A, c⟩]) → w.grownBy w2 (blk TT) → (blk TT2 = blk TT ∨ ∀ k, blk TT2 = some k → w.heap.size ≤ k) →
   Box w3 lb 61 (cs.setIfInBounds 7 (.slice TT2 (L.told.length + 1) tc2)) → w2.grownBy w3 (some lb) → LStep w B U T lb n RA rn rc { L with told := L.told ++ [a] } w3 := by
 obtain ⟨gp, p, SA, sc, TT, tc, th, F, h1, h2, h3, h4, h5, h6, h7, h8, h9, h10, h11⟩ := h.ex
 refine ⟨TT, tc, th, _, h1, rfl, rfl, h4, fun b e => ⟨(h10 b e).1, (h10 b e).2.1⟩, fun a A c w2 w3 TT2 tc2 hG hA hO hg2 hT2 hb3 hg3 => ?_⟩
 have hk2 : KeepF (fun k => blk TT = some k) w w2 := .grown hg2 (fun g hg => .inl hg)
 have hk3 : KeepF (fun k => k = lb) w2 w3 := .grown hg3 (fun g hg => .inl (by injection hg with hg; exact hg.symm))
 have hk : KeepF (fun k => k = lb ∨ blk TT = some k) w w3 := (hk2.weak (fun g hg => .inl (.inr hg))).trans (hk3.weak (G := fun k => k = lb ∨ blk TT = some k) (fun g hg => .inl (.inl hg))) (fun g hg => .inl hg)
 have hne2 : ∀ b, blk TT2 = some b → b ≠ lb := fun b e e2 => by
  rcases hT2 with e3 | e3
  ·rw [e3] at e; exact (h10 b e).2.1 e2
  ·have := e3 b e; have := h.blt; omega
 have hO3 := zq hO hk3 hne2
 have hU : ∀ k, k = lb ∨ blk TT = some k → U k := fun k e => by rcases e with rfl | e; exact h.lb; exact (h10 k e).1
 have hT : ∀ k, T k → ¬ (k = lb ∨ blk TT = some k) := fun k hk e => h.ut k hk (hU k e)
 have hzz := hk.1
 refine ⟨fun k => U k ∨ (w.heap.size ≤ k ∧ blk TT2 = some k), T, ⟨⟨gp, p, SA, sc, TT2, tc2, th ++ [⟨a, A, c⟩], F, ?_, h2, ?_, ?_, ?_, ?_, ?_, fun b hb => .inl (h8 b hb), fun b hb => ?_, fun b hb => ?_, h11⟩, .inl h.lb, Nat.le_trans h.size hzz, fun b hb => ?_, fun b hb => Nat.lt_of_lt_of_le (h.tB b hb) hzz, fun b hb e => ?_⟩, hk.weak (fun g hg => .inl (hU g hg)), fun k hk => by rcases hk with e | e; exact .inl e; exact .inr e.1, fun k hk => .inl hk⟩
 ·rw [List.length_append]; exact hb3
 ·exact zq h3 hk (fun b hb e => by rcases e with e | e; exact (h9 b hb).2.1 e; exact (h9 b hb).2.2.2 e)
 ·rw [List.length_append]; exact hO3
 ·rw [List.map_append, ← h5]; rfl
 ·intro x hx
  rcases List.mem_append.1 hx with hx | hx
  ·exact ⟨zq (h6 x hx).1 hk (fun b e => hT _ ((h6 x hx).2 b e)), (h6 x hx).2⟩
  ·obtain rfl : x = ⟨a, A, c⟩ := by simpa using hx
   exact ⟨zq hG hk (fun b e => hT _ (hA b e)), hA⟩
 ·exact h7.keep (fun k hF => hk.2.1 k (h7.lt k hF) (fun e => by rcases e with e | e; exact h11 (e ▸ hF); exact (h10 k e).2.2 hF)) hk.1
 ·refine ⟨.inl (h9 b hb).1, (h9 b hb).2.1, (h9 b hb).2.2.1, fun e => ?_⟩
  rcases hT2 with e2 | e2
  ·rw [e2] at e; exact (h9 b hb).2.2.2 e
  ·have := e2 b e; have := (h3.blk_lt hb).2; omega
 ·rcases hT2 with e2 | e2
  ·rw [e2] at hb; exact ⟨.inl (h10 b hb).1, (h10 b hb).2⟩
  ·exact ⟨.inr ⟨e2 b hb, hb⟩, hne2 b hb, fun hF => by have := h7.lt b hF; have := e2 b hb; omega⟩
 ·rcases hb with hb | hb
  ·exact ⟨(h.uB b hb).1, Nat.lt_of_lt_of_le (h.uB b hb).2 hzz⟩
  ·exact hO3.blk_lt hb.2
 ·rcases e with e | e
  ·exact h.ut b hb e
  ·have := h.tB b hb; omega
end
end Go.PH
end
section
namespace Go.PH
open Go.RowKit Go.Proofs
def yW : List UInt8 := [102, 114, 97, 109, 101]
def LS.take (ctl : LS → As → LS) (L : LS) (f : Fr) : LS :=
 if L.sz < f.load.length + 12 ∨ L.ch < f.chan then L.close 501 yW
 else match L.g.out f with
  | none => if L.g.err f = 0 then { L with g := L.g.next f } else LS.close { L with g := L.g.next f } 501 yW
  | some a => if a.chan = 0 then ctl { L with g := L.g.next f } a else if L.st = 4 then { L with g := L.g.next f, told := L.told ++ [a] } else LS.close { L with g := L.g.next f } 501 yW
theorem LkM.mono {w : World} {B : Nat} {U T : Nat → Prop} {lb n m : Nat} {RA : Option Addr} {rn rc : Nat} {L : LS} (h : LkM w B U T lb n RA rn rc L) (hn : n ≤ m) : LkM w B U T lb m RA rn rc L where
 ex := by
  obtain ⟨gp, p, SA, sc, TT, tc, th, F, k1, k2, k3, k4, k5, k6, k7, k8⟩ := h.ex
  exact ⟨gp, p, SA, sc, TT, tc, th, F, k1, k2, k3, k4, k5, k6, k7.mono hn, k8⟩
 lb := h.lb
 size := h.size
 uB := h.uB
 tB := h.tB
 ut := h.ut
def LTakeR (w : World) (B : Nat) (U T : Nat → Prop) (lb n : Nat) (RA : Option Addr) (rn rc : Nat) (L : LS) (f : Fr) (o : Option Nat) (cs : Array Value) (s5 s6 : Value) (wx : World) : Prop :=
 ∃ U' T', (∀ b, o = some b → ¬ U' b) ∧ LkM wx B U' T' lb (n + 1) RA rn rc { L with g := L.g.next f } ∧ KeepF U w wx ∧ (∀ k, U' k → U k ∨ w.heap.size ≤ k) ∧ (∀ k, T' k → T k ∨ U k ∨ w.heap.size ≤ k) ∧
  ((L.g.out f = none ∧ s5 = .bool false ∧ s6 = .int .i64 (L.g.err f : Int) ∧ cs = asZ) ∨
   (∃ a A c, L.g.out f = some a ∧ s5 = .bool true ∧ s6 = .int .i64 0 ∧ cs = asV a.chan a.track A a.segs.length c ∧ OwnG wx 0 A a.segs.length c a.segs ∧ ∀ b, blk A = some b → T' b))
theorem LTakeR.done {v vz v' w6 : World} {B : Nat} {U T : Nat → Prop} {lb n : Nat} {RA : Option Addr} {rn rc : Nat} {L : LS} {f : Fr} {cs : Array Value} {s5 s6 : Value} {G : Nat → Prop} {o : Option Nat} (h : LTakeR vz B U T lb n RA rn rc L f o cs s5 s6 v') (hU : ∀ k, U k → k < v.heap.size) (hT : ∀ k, T k → k < v.heap.size) (hB : Below v.heap.size v vz) (hk : KeepF G v' w6)
  (hG : ∀ k, G k → v.heap.size ≤ k ∧ (k < vz.heap.size ∨ v'.heap.size ≤ k)) (tb : Nat) (ht : v.heap.size ≤ tb ∧ (tb < vz.heap.size ∨ v'.heap.size ≤ tb)) : LTakeR v B U T lb n RA rn rc L f (some tb) cs s5 s6 w6 := by
 obtain ⟨U', T', _, h1, h2, h3, h4, h5⟩ := h
 have hz := hB.size
 have hz2 := h2.1
 have gU : ∀ k, U' k → ¬ G k := fun k hk' hg => by
  have := hG k hg
  have := (h1.uB k hk').2
  rcases h3 k hk' with e | e
  ·have := hU k e; omega
  ·omega
 have gT : ∀ k, T' k → ¬ G k := fun k hk' hg => by
  have := hG k hg
  have := h1.tB k hk'
  rcases h4 k hk' with e | e | e
  ·have := hT k e; omega
  ·have := hU k e; omega
  ·omega
 have gt : ¬ U' tb := fun e => by
  have := (h1.uB tb e).2
  rcases h3 tb e with e | e
  ·have := hU tb e; omega
  ·omega
 refine ⟨U', T', fun b e => by injection e with e; rw [← e]; exact gt, h1.keep hk gU gT, ((KeepF.below hB).trans h2 (fun g hg => .inl hg)).trans hk (fun g hg => .inr (hG g hg).1), fun k hk' => ?_, fun k hk' => ?_, ?_⟩
 ·rcases h3 k hk' with e | e
  ·exact .inl e
  ·exact .inr (by omega)
 ·rcases h4 k hk' with e | e | e
  ·exact .inl e
  ·exact .inr (.inl e)
  ·exact .inr (.inr (by omega))
 ·rcases h5 with h5 | ⟨a, A, c, e1, e2, e3, e4, e5, e6⟩
  ·exact .inl h5
  ·exact .inr ⟨a, A, c, e1, e2, e3, e4, zq e5 hk (fun b hb => gT b (e6 b hb)), e6⟩
theorem Zv {v v' : World} {B : Nat} {U T : Nat → Prop} {lb n gp : Nat} {RA : Option Addr} {rn rc : Nat} {L : LS} {f : Fr} {F : Nat → Prop} {e : Ending} (h : LkM v B U T lb n RA rn rc L) (hFU : ∀ b, F b → U b)
  (hnext : ∀ w' F' g', (∀ k, F' k → F k ∨ v.heap.size ≤ k) → Ga w' F' gp (n + 1) g' → KeepF F v w' → LkM w' B (fun k => (U k ∧ ¬ F k) ∨ F' k) T lb (n + 1) RA rn rc { L with g := g' })
  (hR : Qp v F gp n L.g f e v') : ∃ cs s5 s6, e = .returned (.tuple #[.agg cs, s5, s6]) ∧ LTakeR v B U T lb n RA rn rc L f none cs s5 s6 v' := by
 obtain ⟨F', hF', hga, hk, hor⟩ := hR
 have hM := hnext v' F' _ hF' hga hk
 have hkU : KeepF U v v' := hk.weak (fun g hg => .inl (hFU g hg))
 have hU' : ∀ k, (U k ∧ ¬ F k) ∨ F' k → U k ∨ v.heap.size ≤ k := fun k e => by
  rcases e with e | e
  ·exact .inl e.1
  ·rcases hF' k e with e | e
   ·exact .inl (hFU k e)
   ·exact .inr e
 rcases hor with ⟨ho, rfl⟩ | ⟨a, A, c, ho, rfl, hG, hA⟩
 ·exact ⟨_, _, _, rfl, _, T, (fun b e => by cases e), hM, hkU, hU', fun k e => .inl e, .inl ⟨ho, rfl, rfl, rfl⟩⟩
 ·refine ⟨_, _, _, rfl, _, fun k => T k ∨ blk A = some k, (fun b e => by cases e), hM.more (fun k e => .inl e) (fun k e => ?_), hkU, hU', fun k e => ?_, .inr ⟨a, A, c, ho, rfl, rfl, rfl, hG, fun b e => .inr e⟩⟩
  ·rcases e with e | e
   ·refine ⟨hM.tB k e, hM.ut k e⟩
   ·refine ⟨(hG.blk_lt e).2, fun e2 => ?_⟩
    have hh := hA k e
    rcases e2 with e2 | e2
    ·rcases hh.2 with e3 | e3
     ·exact e2.2 e3
     ·have := (h.uB k e2.1).2; omega
    ·exact hh.1 e2
  ·rcases e with e | e
   ·exact .inl e
   ·rcases (hA k e).2 with e3 | e3
    ·exact .inr (.inl (hFU k e3))
    ·exact .inr (.inr e3)
theorem qW {w : World} {B : Nat} {U T : Nat → Prop} {lb n : Nat} {RA : Option Addr} {rn rc : Nat} {L : LS} {f : Fr} {cs : Array Value} {s5 s6 : Value} {wx : World} {o : Option Nat} (h : LTakeR w B U T lb n RA rn rc L f o cs s5 s6 wx) : ∃ x0 x1 x2, cs = #[x0, x1, x2] ∧ x0.oneCell' = true ∧ x1.oneCell' = true ∧ x2.oneCell' = true := by
 obtain ⟨U', T', _, _, _, _, _, h5⟩ := h
 rcases h5 with ⟨_, _, _, rfl⟩ | ⟨a, A, c, _, _, _, rfl, _⟩
 ·exact ⟨_, _, _, rfl, rfl, rfl, rfl⟩
 ·exact ⟨_, _, _, rfl, rfl, rfl, rfl⟩
theorem Qm (ctl : LS → As → LS) (f : Fr) {w : World} {B : Nat} {U T : Nat → Prop} {lb n : Nat} {RA : Option Addr} {rn rc : Nat} {L : LS} (h : LkM w B U T lb n RA rn rc L) (hi : L.g.Inv) (hf : f.wf) (hl : f.load.length ≤ 1000000) (hn : n < 1000000000) (he : MEnv w) (hgl : 0 < B) (hsz : L.sz ≤ 1000000) (hch : L.ch < 65536) (hs : L.sent.length ≤ 10000000000) (htl : L.told.length ≤ 1000000000)
  (hctl : ∀ a A c W U' T', L.g.out f = some a → a.chan = 0 → LkM W B U' T' lb (n + 1) RA rn rc { L with g := L.g.next f } → OwnG W 0 A a.segs.length c a.segs → (∀ b, blk A = some b → T' b) → MEnv W → Below B w W →
   Calls Tryz.prog 56 #[.pointer (some ⟨lb, 0, none⟩), .agg (asV a.chan a.track A a.segs.length c)] W fun e w' => e = .returned (.tuple #[]) ∧ LStep W B U' T' lb (n + 1) RA rn rc (ctl { L with g := L.g.next f } a) w') :
  Calls Tryz.prog 39 #[.pointer (some ⟨lb, 0, none⟩), .agg (frV f)] w fun e w' => e = .returned (.tuple #[]) ∧ LStep w B U T lb (n + 1) RA rn rc (L.take ctl f) w' := by
 have hlw := h.blt
 obtain ⟨fb, w0, hqf, hvf, hBf, hB0⟩ := zr w (frV f) 97
 have hfw : w.heap.size ≤ fb := by omega
 have h0 := h.below hB0
 have he0 := he.on hB0
 have hfc : f.chan < 65536 := hf.2.2
 have c3 := h0.c3
 have c4 := h0.c4
 have hss := zj f.load
 unfold frV at hvf hBf ⊢
 have f6 := hBf.c6
 have f7 := hBf.c7
 go_enter Tryz.func39, Tryz.ntmps39
 go_upto_region 1 with fail
 rw [← hqf, ← hvf]
 clear hqf hvf
 by_cases q1 : L.sz < f.load.length + 12
 ·have d1 : decide ((L.sz : Int) < (f.load.length : Int) + 12) = true := by simp; omega
  have HR := Lib.hid (show L.take ctl f = L.close 501 yW by unfold LS.take; rw [if_pos (.inl q1)])
  try simp only [Act.put]
  go_quiet (fail)
  clear c3 c4 f6 f7 d1
  have hx := (h0.below (za (Below.refl _ _) nq)).mono (Nat.le_succ n)
  have hex := he0.on (za (Below.refl w0.heap.size w0) nq)
  clear hctl h0 he0 hBf
  have hen := qB 501 yW (by decide) (by decide) (hx) (hex) hsz hs
  rw [show ((501 : Nat) : Int) = 501 from rfl, show str yW = (⟨#[102, 114, 97, 109, 101]⟩ : ByteArray) from rfl] at hen
  go_wp2_with (with_reducible refine h_A ?_)
  refine hen.mono ?_
  rintro e w9 ⟨rfl, hst⟩
  clear hen
  go_wp2_with (with_reducible refine h_A ?_)
  refine bodyPost_ret (results_none rfl _ _ _) rfl ?_
  exact ⟨rfl, by rw [HR.out]; exact LStep.from (za hB0 _) hst⟩
 ·have d1 : decide ((L.sz : Int) < (f.load.length : Int) + 12) = false := by simp; omega
  by_cases q2 : L.ch < f.chan
  ·have d2 : (L.ch : Int) < (f.chan : Int) := by omega
   have HR := Lib.hid (show L.take ctl f = L.close 501 yW by unfold LS.take; rw [if_pos (.inr q2)])
   try simp only [Act.put]
   go_quiet (fail)
   clear c3 c4 f6 f7 d1 d2
   have hx := (h0.below (za (Below.refl _ _) nq)).mono (Nat.le_succ n)
   have hex := he0.on (za (Below.refl w0.heap.size w0) nq)
   clear hctl h0 he0 hBf
   have hen := qB 501 yW (by decide) (by decide) (hx) (hex) hsz hs
   rw [show ((501 : Nat) : Int) = 501 from rfl, show str yW = (⟨#[102, 114, 97, 109, 101]⟩ : ByteArray) from rfl] at hen
   go_wp2_with (with_reducible refine h_A ?_)
   refine hen.mono ?_
   rintro e w9 ⟨rfl, hst⟩
   clear hen
   go_wp2_with (with_reducible refine h_A ?_)
   refine bodyPost_ret (results_none rfl _ _ _) rfl ?_
   exact ⟨rfl, by rw [HR.out]; exact LStep.from (za hB0 _) hst⟩
  ·have d2 : ¬ (L.ch : Int) < (f.chan : Int) := by omega
   have HR := Lib.hid (show L.take ctl f = match L.g.out f with
    | none => if L.g.err f = 0 then { L with g := L.g.next f } else LS.close { L with g := L.g.next f } 501 yW
    | some a => if a.chan = 0 then ctl { L with g := L.g.next f } a else if L.st = 4 then { L with g := L.g.next f, told := L.told ++ [a] } else LS.close { L with g := L.g.next f } 501 yW by unfold LS.take; rw [if_neg (by omega)])
   try simp only [Act.put]
   go_quiet (fail)
   clear c3 c4 f6 f7 d1 d2
   have h1 := h0.below (za (Below.refl _ _) nq)
   have hBf1 := hBf.below (za (Below.refl _ _) nq)
   have hB1 := za hB0 nq
   have he1 := he0.on (za (Below.refl w0.heap.size w0) nq)
   clear h0 he0 hBf hss
   go_upto_region 3 with fail
   have hfb0 : lb ≠ fb := by omega
   have hUf : ∀ k, U k → k ≠ fb := fun k hk => by have := (h.uB k hk).2; omega
   clear hB0 hfw
   generalize w0.drewN nq = wq at *
   go_cut [4, 5, 6] from 29 to 38 (fun s4 s5 s6 wx => ∃ tb cs, s4 = .pointer (some ⟨tb, 0, none⟩) ∧ Box wx tb 42 cs ∧ LTakeR wq B U T lb n RA rn rc L f (some tb) cs s5 s6 wx)
   case first =>
    have hUv : ∀ k, U k → k < wq.heap.size := fun k hk => (h1.uB k hk).2
    have hTv : ∀ k, T k → k < wq.heap.size := h1.tB
    have hBd : Below wq.heap.size wq wq.drew := za (Below.refl _ wq) 1
    have h2 := h1.below hBd
    obtain ⟨gp, F, hc2, hga, hFU, hFl, hnext⟩ := h2.gath
    have hFf : ¬ F fb := fun e => hUf _ (hFU _ e) rfl
    refine zD (fun W : World => W.cell? ⟨lb, 2, none⟩ = some (.pointer (some ⟨gp, 0, none⟩)) ∧ Box W fb 97 #[.bool f.first, .bool f.last, .bool f.beg, .bool f.fin, .int .u8 (f.ty : Int), .int .u8 (f.track : Int), .int .u16 (f.chan : Int), .string (str f.load)]) (by kernel_rfl) ?_
    have hS : wq.drew.cell? ⟨lb, 2, none⟩ = some (.pointer (some ⟨gp, 0, none⟩)) ∧ Box wq.drew fb 97 #[.bool f.first, .bool f.last, .bool f.beg, .bool f.fin, .int .u8 (f.ty : Int), .int .u8 (f.track : Int), .int .u16 (f.chan : Int), .string (str f.load)] := ⟨hc2, hBf1.below hBd⟩
    have hBf2 := hBf1.lt
    clear hctl h h1 hBf1
    refine rg_t 0 hS ?_
    simp only [List.getElem_toArray, List.getElem_cons_zero, Act.put, List.setIfInBounds_toArray, List.set_cons_zero, List.set_cons_succ]
    refine rg_t 1 hS ?_
    simp only [g_S, Act.put]
    refine rg_t 2 hS ?_
    simp only [g_S, Act.put]
    refine zv 3 (v := ?_) rfl (by kernel_rfl) (by kernel_rfl) (by kernel_rfl) hS rfl ?_ ?_
    rotate_left
    ·intro wS hSw; have k0 := hSw.1; go_simp; (with_reducible rfl)
    simp only [g_S, Act.put]
    refine zv 4 (v := ?_) rfl (by kernel_rfl) (by kernel_rfl) (by kernel_rfl) hS rfl ?_ ?_
    rotate_left
    ·intro wS hSw; have k := hSw.2; have q0 := k.cell (j := 0) rfl; have q1 := k.cell (j := 1) rfl; have q2 := k.cell (j := 2) rfl; have q3 := k.cell (j := 3) rfl; have q4 := k.cell (j := 4) rfl; have q5 := k.cell (j := 5) rfl; have q6 := k.cell (j := 6) rfl; have q7 := k.cell (j := 7) rfl; go_simp; (with_reducible rfl)
    simp only [g_S, Act.put]
    refine xc 5 10 rfl rfl (by kernel_rfl) rfl rfl (fun K hK => ?_) (fun K hK => ?_)
    ·go_simp
     refine (Zw F gp n L.g f wq.drew hga hi hf (by omega) hn).mono ?_
     rintro e v1 hR
     have hkF := hR.choose_spec.2.2.1
     obtain ⟨cs, s5, s6, rfl, hTk⟩ := Zv h2 hFU hnext hR
     obtain ⟨x0, x1, x2, rfl, y0, y1, y2⟩ := qW hTk
     have hS1 : v1.cell? ⟨lb, 2, none⟩ = some (.pointer (some ⟨gp, 0, none⟩)) ∧ Box v1 fb 97 #[.bool f.first, .bool f.last, .bool f.beg, .bool f.fin, .int .u8 (f.ty : Int), .int .u8 (f.track : Int), .int .u16 (f.chan : Int), .string (str f.load)] := ⟨by have hx := hkF.2.1 lb h2.blt hFl; unfold World.cell? at hc2 ⊢; rw [hx]; exact hc2, ym hS.2 hkF hFf⟩
     clear hR hnext hga h2 hkF
     refine hK _ _ hS1 ?_
     clear hK K
     refine rg_t 6 hS1 ?_
     simp only [g_S, Act.put]
     refine rg_t 7 hS1 ?_
     simp only [g_S, Act.put]
     refine rg_t 8 hS1 ?_
     simp only [g_S, Act.put]
     refine rg_t 9 hS1 ?_
     simp only [g_S, Act.put]
     have hz := Box.new v1 #[.int .u16 0, .int .u8 0, .slice none 0 0] 42
     obtain ⟨v2, hv2⟩ : ∃ v, v = v1.alloc (.cells #[.int .u16 0, .int .u8 0, .slice none 0 0] 42) := ⟨_, rfl⟩
     have hB2 : Below v1.heap.size v1 v2 := by rw [hv2]; exact (Below.refl _ _).alloc (Nat.le_refl _) _
     have hS2 : v2.cell? ⟨lb, 2, none⟩ = some (.pointer (some ⟨gp, 0, none⟩)) ∧ Box v2 fb 97 #[.bool f.first, .bool f.last, .bool f.beg, .bool f.fin, .int .u8 (f.ty : Int), .int .u8 (f.track : Int), .int .u16 (f.chan : Int), .string (str f.load)] := ⟨(hB2.cell (p := ⟨lb, 2, none⟩) (World.block_lt_of_cell? _ _ hS1.1)).trans hS1.1, hS1.2.below hB2⟩
     rw [← hv2] at hz
     refine zi 10 rfl (by kernel_rfl) rfl (fun K hK => ?_)
     go_simp
     rw [← hv2]
     refine hK _ _ hS2 ?_
     clear hK K
     obtain ⟨tb, htb⟩ : ∃ b, b = v1.heap.size := ⟨_, rfl⟩
     rw [← htb] at hz
     rw [← htb]
     refine zi 11 rfl (by kernel_rfl) rfl (fun K hK => ?_)
     refine zM (v := .agg #[x0, x1, x2]) (vs := [x0, x1, x2]) rfl rfl rfl hz rfl (by kernel_rfl) (by simp) (by simp [y0, y1, y2]) #[x0, x1, x2] (by simp) ?_
     intro v3 hb3 hg3 hz3
     clear hz3
     have hB3 : Below v1.heap.size v1 v3 := hB2.grown hg3 hB2.size (fun g e => by injection e with e; omega)
     have hS3 : v3.cell? ⟨lb, 2, none⟩ = some (.pointer (some ⟨gp, 0, none⟩)) ∧ Box v3 fb 97 #[.bool f.first, .bool f.last, .bool f.beg, .bool f.fin, .int .u8 (f.ty : Int), .int .u8 (f.track : Int), .int .u16 (f.chan : Int), .string (str f.load)] := ⟨(hB3.cell (p := ⟨lb, 2, none⟩) (World.block_lt_of_cell? _ _ hS1.1)).trans hS1.1, hS1.2.below hB3⟩
     refine hK _ _ hS3 ?_
     clear hK K
     refine zi 12 rfl (by kernel_rfl) rfl (fun K hK => ?_)
     go_simp
     refine hK _ _ hS3 ?_
     clear hK K
     refine zi 13 rfl (by kernel_rfl) rfl (fun K hK => ?_)
     go_simp
     refine hK _ _ hS3 ?_
     clear hK K
     refine zK (by kernel_rfl) ?_
     go_wp2_with fail
     go_meet
     exact ⟨tb, #[x0, x1, x2], by rw [htb], hb3, hTk.done hUv hTv hBd (KeepF.below (F := fun _ => False) hB3) (fun k e => e.elim) tb ⟨by have := hTk.choose_spec.choose_spec.2.2.1.1; have := hBd.size; omega, .inr (by omega)⟩⟩
    ·clear hnext hga
     have hz := Box.new wq.drew #[.int .u16 0, .int .u8 0, .slice none 0 0] 42
     obtain ⟨v0, hv0⟩ : ∃ v, v = wq.drew.alloc (.cells #[.int .u16 0, .int .u8 0, .slice none 0 0] 42) := ⟨_, rfl⟩
     have hB0 : Below wq.drew.heap.size wq.drew v0 := by rw [hv0]; exact (Below.refl _ _).alloc (Nat.le_refl _) _
     rw [← hv0] at hz
     have hS0 : v0.cell? ⟨lb, 2, none⟩ = some (.pointer (some ⟨gp, 0, none⟩)) ∧ Box v0 fb 97 #[.bool f.first, .bool f.last, .bool f.beg, .bool f.fin, .int .u8 (f.ty : Int), .int .u8 (f.track : Int), .int .u16 (f.chan : Int), .string (str f.load)] := ⟨(hB0.cell (p := ⟨lb, 2, none⟩) (World.block_lt_of_cell? _ _ hS.1)).trans hS.1, hS.2.below hB0⟩
     obtain ⟨tb, htb⟩ : ∃ b, b = wq.drew.heap.size := ⟨_, rfl⟩
     rw [← htb] at hz
     have htq : tb = wq.heap.size := htb
     go_simp
     rw [show (wq.alloc (.cells #[.int .u16 0, .int .u8 0, .slice none 0 0] 42)).drew = v0 from hv0.symm, ← htq]
     refine hK _ _ hS0 ?_
     clear hK K
     have hBq : Below wq.heap.size wq v0 := hBd.trans (hB0.mono hBd.size)
     have htv := hz.lt
     have h3 := h2.below hB0
     have htq1 : wq.heap.size ≤ tb := by omega
     have htq2 : tb ≤ wq.heap.size := by omega
     clear htq
     clear hv0 htb h2 hFU hFl hFf F
     obtain ⟨gq, F, hcq, hga, hFU, hFl, hnext⟩ := h3.gath
     obtain rfl : gp = gq := by have e := hS0.1.symm.trans hcq; injection e with e; injection e with e; injection e with e; injection e
     have hFf : ¬ F fb := fun e => hUf _ (hFU _ e) rfl
     have hFt : ¬ F tb := fun e => by have := hUv _ (hFU _ e); omega
     refine zi 5 rfl (by kernel_rfl) rfl (fun K hK => ?_)
     go_simp
     refine (Zw F gp n L.g f v0 hga hi hf (by omega) hn).mono ?_
     rintro e v1 hR
     have hkF := hR.choose_spec.2.2.1
     obtain ⟨cs, s5, s6, rfl, hTk⟩ := Zv h3 hFU hnext hR
     obtain ⟨x0, x1, x2, rfl, y0, y1, y2⟩ := qW hTk
     have hS1 : v1.cell? ⟨lb, 2, none⟩ = some (.pointer (some ⟨gp, 0, none⟩)) ∧ Box v1 fb 97 #[.bool f.first, .bool f.last, .bool f.beg, .bool f.fin, .int .u8 (f.ty : Int), .int .u8 (f.track : Int), .int .u16 (f.chan : Int), .string (str f.load)] := ⟨by have hx := hkF.2.1 lb h3.blt hFl; unfold World.cell? at hcq ⊢; rw [hx]; exact hcq, ym hS0.2 hkF hFf⟩
     have hz1 := ym hz hkF hFt
     clear hR hnext hga hkF hz
     refine hK _ _ hS1 ?_
     clear hK K
     refine rg_t 6 hS1 ?_
     simp only [g_S, Act.put]
     refine rg_t 7 hS1 ?_
     simp only [g_S, Act.put]
     refine rg_t 8 hS1 ?_
     simp only [g_S, Act.put]
     refine rg_t 9 hS1 ?_
     simp only [g_S, Act.put]
     refine zi 11 rfl (by kernel_rfl) rfl (fun K hK => ?_)
     refine zM (v := .agg #[x0, x1, x2]) (vs := [x0, x1, x2]) rfl rfl rfl hz1 rfl (by kernel_rfl) (by simp) (by simp [y0, y1, y2]) #[x0, x1, x2] (by simp) ?_
     intro v3 hb3 hg3 hz3
     clear hz3
     have hlt : lb ≠ tb := by have := h3.blt; have := hUv _ h3.lb; omega
     have hft : fb ≠ tb := by have := hBf2; omega
     have hk3 : KeepF (fun k => k = tb) v1 v3 := .grown hg3 (fun g e => .inl (by injection e with e; exact e.symm))
     have hS3 : v3.cell? ⟨lb, 2, none⟩ = some (.pointer (some ⟨gp, 0, none⟩)) ∧ Box v3 fb 97 #[.bool f.first, .bool f.last, .bool f.beg, .bool f.fin, .int .u8 (f.ty : Int), .int .u8 (f.track : Int), .int .u16 (f.chan : Int), .string (str f.load)] := ⟨by have hx := hk3.2.1 lb (World.block_lt_of_cell? _ _ hS1.1) hlt; have hc := hS1.1; unfold World.cell? at hc ⊢; rw [hx]; exact hc, ym hS1.2 hk3 hft⟩
     refine hK _ _ hS3 ?_
     clear hK K
     refine zi 12 rfl (by kernel_rfl) rfl (fun K hK => ?_)
     go_simp
     refine hK _ _ hS3 ?_
     clear hK K
     refine zi 13 rfl (by kernel_rfl) rfl (fun K hK => ?_)
     go_simp
     refine hK _ _ hS3 ?_
     clear hK K
     refine zK (by kernel_rfl) ?_
     go_wp2_with fail
     go_meet
     exact ⟨tb, #[x0, x1, x2], rfl, hb3, hTk.done hUv hTv hBq hk3 (fun k e => by subst e; exact ⟨by omega, .inl htv⟩) tb ⟨by omega, .inl htv⟩⟩
   case rest =>
    obtain ⟨tb, cs, rfl, hbt, U', T', htU, hM, hKU, hU', hT', hor⟩ := hcut
    have hz1 := hB1.size
    have hK : KeepF U w wc := (KeepF.below hB1).trans hKU (fun g hg => .inl hg)
    have hUw : ∀ k, U' k → U k ∨ w.heap.size ≤ k := fun k e => (hU' k e).imp id (fun e => by omega)
    have hTw : ∀ k, T' k → T k ∨ U k ∨ w.heap.size ≤ k := fun k e => (hT' k e).imp id (fun e => e.imp id (fun e => by omega))
    have hgU : ¬ U 0 := fun e => by have := (h.uB _ e).1; omega
    have heM := he1.onK hKU hgU
    have hfin : ∀ {w9 : World} {M : LS}, LStep wc B U' T' lb (n + 1) RA rn rc M w9 → LStep w B U T lb (n + 1) RA rn rc M w9 := fun hst => LStep.of hK hUw hTw hst
    have k0 := hM.c0
    have hBB : Below B w wc := (hB1.mono h.size).trans (hKU.toBelow (Nat.le_trans h.size hz1) (fun g hg => (h.uB g hg).1))
    clear hKU hU' hT' hz1 hK hUw hTw hgU he1 hB1 h1 hBf1 h hUf hfb0
    rcases hor with ⟨ho, rfl, rfl, rfl⟩ | ⟨a, A, c, ho, rfl, rfl, rfl, hG, hA⟩
    ·rw [ho] at HR
     have HQ := Lib.hid HR.out
     clear HR hctl k0 hbt
     obtain ⟨er, her⟩ : ∃ er, er = L.g.err f := ⟨_, rfl⟩
     rw [← her] at HQ ⊢
     by_cases h0 : er = 0
     ·subst h0
      clear her
      go_wp2_with (with_reducible refine h_A ?_)
      go_end0
      exact ⟨rfl, by rw [HQ.out]; exact hfin (LStep.refl hM)⟩
     ·have h1 : ¬ (er : Int) = 0 := by omega
      have HQ2 := Lib.hid (HQ.out.trans (if_neg h0))
      clear HQ h0 her
      have hen := qB 501 yW (by decide) (by decide) (hM) (heM) hsz hs
      rw [show ((501 : Nat) : Int) = 501 from rfl, show str yW = (⟨#[102, 114, 97, 109, 101]⟩ : ByteArray) from rfl] at hen
      go_wp2_with (with_reducible refine h_A ?_)
      refine hen.mono ?_
      rintro e w9 ⟨rfl, hst⟩
      clear hen
      go_wp2_with (with_reducible refine h_A ?_)
      go_end0
      exact ⟨rfl, by rw [HQ2.out]; exact hfin hst⟩
    ·rw [ho] at HR
     have HQ := Lib.hid HR.out
     clear HR
     unfold asV at hbt
     have b0 := hbt.c0
     have b1 := hbt.c1
     have b2 := hbt.c2
     by_cases h0 : a.chan = 0
     ·have hc := hctl a A c wc U' T' ho h0 hM hG hA heM hBB
      have HQ2 := Lib.hid (HQ.out.trans (if_pos h0))
      unfold asV at hc
      clear HQ hctl ho hM hG hA heM k0
      have h1 : (a.chan : Int) = 0 := by omega
      rw [h1] at hc b0
      go_wp2_with (with_reducible refine h_A ?_)
      refine hc.mono ?_
      rintro e w9 ⟨rfl, hst⟩
      clear hc
      go_wp2_with (with_reducible refine h_A ?_)
      go_end0
      exact ⟨rfl, by rw [HQ2.out]; exact hfin hst⟩
     ·have HQ2 := Lib.hid (HQ.out.trans (if_neg h0))
      have h1 : ¬ (a.chan : Int) = 0 := by omega
      clear HQ hctl ho h0
      by_cases h4 : L.st = 4
      ·have HQ3 := Lib.hid (HQ2.out.trans (if_pos h4))
       have k4 : ((L.st : Nat) : Int) = 4 := by omega
       change wc.cell? ⟨lb, 0, none⟩ = some (.int .u8 (L.st : Int)) at k0
       rw [k4] at k0
       clear HQ2 h4 k4
       go_upto_region 11 with fail
       have htb : ¬ U' tb := htU tb rfl
       have hBd : Below wc.heap.size wc wc.drew := za (Below.refl _ wc) 1
       have hMd := hM.below hBd
       have hGd : OwnG wc.drew 0 A a.segs.length c a.segs := zg hG hBd
       have hbd := hbt.below hBd
       clear b0 b1 b2 k0 hbt hG hM heM htU hgl
       obtain ⟨TT, tc, th, cs, hbL, hcs, h7, hO, hTne, hnx⟩ := hMd.tells
       have hbt := hbd.lt
       have hlt : lb ≠ tb := fun e => htb (e ▸ hMd.lb)
       have hUT : ∀ b, blk TT = some b → b ≠ tb := fun b e e2 => htb (e2 ▸ (hTne b e).1)
       have hbs := hMd.size
       clear hMd
       have k7 := hbL.cell h7
       have k0 := hbd.c0
       have k1 := hbd.c1
       have k2 := hbd.c2
       clear k0 k1 k2
       refine zD (fun W : World => Box W tb 42 #[.int .u16 (a.chan : Int), .int .u8 (a.track : Int), .slice A a.segs.length c]) (by kernel_rfl) ?_
       have hS := hbd
       generalize wc.drew = wd at *
       refine rg_t 0 hS ?_
       simp only [List.getElem_toArray, List.getElem_cons_zero, Act.put, List.setIfInBounds_toArray, List.set_cons_zero, List.set_cons_succ]
       refine rg_t 1 hS ?_
       simp only [g_S, Act.put]
       refine rg_t 2 hS ?_
       simp only [g_S, Act.put]
       refine rg_t 3 hS ?_
       simp only [g_S, Act.put]
       refine zv 5 (v := ?_) rfl (by kernel_rfl) (by kernel_rfl) (by kernel_rfl) hS rfl ?_ ?_
       rotate_left
       ·intro wS hSw; have k0 := hSw.cell (j := 0) rfl; have k1 := hSw.cell (j := 1) rfl; have k2 := hSw.cell (j := 2) rfl; go_simp; (with_reducible rfl)
       simp only [g_S, Act.put]
       refine xc 4 6 rfl rfl (by kernel_rfl) rfl rfl (fun K hK => ?_) (fun K hK => ?_)
       ·go_simp
        refine hK _ _ hS ?_
        clear hK K
        try simp only [g_S, Act.put]
        refine zi 6 rfl (by kernel_rfl) rfl (fun K hK => ?_)
        go_simp
        refine hK _ _ (hS.alloc _) ?_
        clear hK K
        try simp only [g_S, Act.put]
        refine zi 7 rfl (by kernel_rfl) rfl (fun K hK => ?_)
        refine YT (W := wd) taShape slTA Tryz.underlying29 rfl rfl rfl rfl (⟨a, A, c⟩ : TAs) rfl hO (show (L.told.length + 1) * 32 ≤ 140737488355328 by omega) (show L.told.length ≤ 1000000000 by omega) hbs ?_
        intro A2 c2 w2 hO2 hg2 hA2 hB2
        have hbL2 := hbL.grown hg2 (fun e => (hTne lb e.symm).2 rfl)
        have hS2 := hS.grown hg2 (fun e => hUT tb e.symm rfl)
        refine hK _ _ hS2 ?_
        clear hK K
        try simp only [g_S, Act.put]
        refine rg_t 8 hS2 ?_
        simp only [g_S, Act.put]
        refine rg_t 9 hS2 ?_
        simp only [g_S, Act.put]
        have k8 := hbL2.cell h7
        have k9 := hbL2.thaw 7
        refine zi 10 rfl (by kernel_rfl) rfl (fun K hK => ?_)
        go_simp
        refine hK _ _ (hS2.grown (yv w2 lb 7 (.slice A2 (L.told.length + 1) c2)) (fun e => hlt (by injection e with e; exact e.symm))) ?_
        clear hK K k7 k8 k9
        refine zK (by kernel_rfl) ?_
        go_wp2_with (with_reducible refine h_A ?_)
        go_end0
        exact ⟨rfl, by rw [HQ3.out]; exact hfin (LStep.from hBd (hnx a A c w2 _ A2 c2 hGd hA hO2 hg2 hA2 (xt hbL2 _) (yv w2 lb 7 _)))⟩
       ·go_simp
        refine hK _ _ (hS.alloc _) ?_
        clear hK K
        try simp only [g_S, Act.put]
        have k8 := (hbL.alloc (.cells #[.int .u16 (a.chan : Int), .int .u8 (a.track : Int), .slice A a.segs.length c] 42)).cell h7
        refine zi 4 rfl (by kernel_rfl) rfl (fun K hK => ?_)
        go_simp
        refine hK _ _ (hS.alloc _) ?_
        clear hK K k8
        try simp only [g_S, Act.put]
        refine zi 7 rfl (by kernel_rfl) rfl (fun K hK => ?_)
        refine YT (W := wd) taShape slTA Tryz.underlying29 rfl rfl rfl rfl (⟨a, A, c⟩ : TAs) rfl hO (show (L.told.length + 1) * 32 ≤ 140737488355328 by omega) (show L.told.length ≤ 1000000000 by omega) hbs ?_
        intro A2 c2 w2 hO2 hg2 hA2 hB2
        have hbL2 := hbL.grown hg2 (fun e => (hTne lb e.symm).2 rfl)
        have hS2 := hS.grown hg2 (fun e => hUT tb e.symm rfl)
        refine hK _ _ hS2 ?_
        clear hK K
        try simp only [g_S, Act.put]
        refine rg_t 8 hS2 ?_
        simp only [g_S, Act.put]
        refine rg_t 9 hS2 ?_
        simp only [g_S, Act.put]
        have k8 := hbL2.cell h7
        have k9 := hbL2.thaw 7
        refine zi 10 rfl (by kernel_rfl) rfl (fun K hK => ?_)
        go_simp
        refine hK _ _ (hS2.grown (yv w2 lb 7 (.slice A2 (L.told.length + 1) c2)) (fun e => hlt (by injection e with e; exact e.symm))) ?_
        clear hK K k7 k8 k9
        refine zK (by kernel_rfl) ?_
        go_wp2_with (with_reducible refine h_A ?_)
        go_end0
        exact ⟨rfl, by rw [HQ3.out]; exact hfin (LStep.from hBd (hnx a A c w2 _ A2 c2 hGd hA hO2 hg2 hA2 (xt hbL2 _) (yv w2 lb 7 _)))⟩
      ·have HQ3 := Lib.hid (HQ2.out.trans (if_neg h4))
       have k4 : ¬ ((L.st : Nat) : Int) = 4 := by omega
       change wc.cell? ⟨lb, 0, none⟩ = some (.int .u8 (L.st : Int)) at k0
       clear HQ2 h4
       have hen := qB 501 yW (by decide) (by decide) (hM) (heM) hsz hs
       rw [show ((501 : Nat) : Int) = 501 from rfl, show str yW = (⟨#[102, 114, 97, 109, 101]⟩ : ByteArray) from rfl] at hen
       go_wp2_with (with_reducible refine h_A ?_)
       refine hen.mono ?_
       rintro e w9 ⟨rfl, hst⟩
       clear hen
       go_wp2_with (with_reducible refine h_A ?_)
       go_end0
       exact ⟨rfl, by rw [HQ3.out]; exact hfin hst⟩
end Go.PH
end

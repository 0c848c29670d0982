/- Texts laid together: LkLawCar. -/
import Derived.BigQuiet
import Derived.Test.YtfbkameikhgciaaGreatDoorMg08
import Derived.Test.YtfbkameikhgciaaGreatDoorMg10
import Derived.Test.YtfbkameikhgciaaGreatDoorMg21
import Derived.Test.YtfbkameikhgciaaGreatDoorMg37
set_option linter.all false
set_option linter.unusedSimpArgs false
set_option linter.unusedVariables false
section
/- The law LinkCarries. -/
namespace Go.PH
open Go.RowKit Go.Proofs

/-- what is told, as it stays with the caller -/
structure ToldI (w : World) (V : Nat → Prop) (B : Nat) (TT : Option Addr) (m tc : Nat) (th : List TAs) : Prop where
 row : OwnT w B TT m tc th
 nr : ∀ g, blk TT = some g → ¬ V g
 el : ∀ x ∈ th, OwnG w 0 x.A x.a.segs.length x.c x.a.segs ∧ ∀ g, blk x.A = some g → ¬ V g
theorem ToldI.keep {w w' : World} {V G : Nat → Prop} {B : Nat} {TT : Option Addr} {m tc : Nat} {th : List TAs} (h : ToldI w V B TT m tc th) (hk : KeepF G w w') (hG : ∀ k, G k → V k) : ToldI w' V B TT m tc th where
 row := own_keepF h.row hk (fun g e e2 => h.nr g e (hG g e2))
 nr := h.nr
 el := fun x hx => ⟨own_keepF (h.el x hx).1 hk (fun g e e2 => (h.el x hx).2 g e (hG g e2)), (h.el x hx).2⟩
theorem ta_one {th : List TAs} : ∀ u ∈ rowC taC th, u.oneCell' = true := fun u hu => by
 unfold rowC at hu
 obtain ⟨x, _, hx⟩ := List.mem_flatMap.1 hu
 exact taShape.one x u hx
/-- bytes come to a link that carries an assembly -/
theorem car_feed {w : World} {B : Nat} {V : Nat → Prop} {lb n : Nat} {b s : List UInt8} {L : LS} {FS : List Fr} {ch : Nat} (h : LkI w B V lb n b L) (he : MEnv w) (hgl : 0 < B) (h4 : L.st = 4) (hsz : L.sz ≤ 4096) (hch : L.ch ≤ 255) (hi : L.g.Inv)
  (hbl : b.length ≤ 100000000) (hsl : s.length ≤ 100000000) (hn : n ≤ 100000) (hlen : (frScan (b ++ s)).1.length ≤ FS.length) (hmem : ∀ f ∈ (frScan (b ++ s)).1, f ∈ FS) (hFS : FS.length ≤ 20000) (hw : ∀ f ∈ FS, f.wf ∧ f.load.length ≤ 16384) (hc : ∀ f ∈ FS, f.chan = ch) (hc0 : ch ≠ 0) :
  Calls Tryz.prog 12 #[.pointer (some ⟨lb, 0, none⟩), .string (str s)] w fun e w' => ∃ n', n' ≤ n + 20000 ∧ LFeedR w B V lb n' (L.feed (fun M _ => M) b s) e w' := by
 have hp := pre_up (by omega : L.st ≠ 0) b s
 have hfd := lfeed_any (fun M _ => M) (LB 0 FS.length) s b h he hgl (by omega) hbl hsl (by omega)
  (by rw [hp]; simp only; omega) (fun k M hM => hM.st) (fun k M hM => hM.bounds (by omega) (by omega))
  (fun k M f hk hf hM => by
   rw [hp] at hk hf
   exact hM.take (by simp only at hk; omega) (hw f (hmem f hf)).1 _ (fun M a hM' => hM'.more (by simp only at hk; omega)))
  (fun _ _ => by rw [hp]; exact ⟨by omega, hi, hsz, hch, by show L.st ≠ 0; omega, by show L.st < 256; omega, by simp, by simp⟩)
  (fun f hf => by
   rw [hp] at hf
   exact ⟨(hw f (hmem f hf)).1, by have := (hw f (hmem f hf)).2; omega⟩)
  (fun k M f a A c W U' T' m' RA' rn' rc' hf hM hout hac => by
   rw [hp] at hf
   have hcc := hc f (hmem f hf)
   unfold GS.out at hout
   split at hout
   ·injection hout with hout
    rw [← hout] at hac
    simp only at hac
    omega
   ·cases hout)
 refine hfd.mono ?_
 intro e w' hR
 refine ⟨_, ?_, hR⟩
 rw [hp]
 simp only
 omega
set_option maxRecDepth 20000 in
set_option maxHeartbeats 8000000 in
theorem law_LinkCarries (a : As) (A : Option Addr) (n c more cut : Nat) (w : World) (he : MEnv w) (hm : more < 65536) (hcu : cut < 65536) (hr : RdG w w.heap.size A n c a.segs) (hw : a.wf) (hs : ∀ s ∈ a.segs, s.load.length ≤ 140737488351232) (hn : n ≤ 140737488351232) :
  Calls Tryz.prog 5 #[.agg (asV a.chan a.track A n c), .int .u16 (more : Int), .int .u16 (cut : Int)] w fun e w' => e = .returned (.bool true) ∧ Below w.heap.size w w' := by
 obtain ⟨xb, w0, hqb, hqv, hX, hB0⟩ := alloc_stepG w (asV a.chan a.track A n c) 42
 have hxw : w.heap.size ≤ xb := by omega
 have hX0 := hX.lt
 have he0 := he.on hB0
 have hgl := he.lt
 obtain ⟨size, hsize⟩ : ∃ x, x = 256 + more % 3841 := ⟨_, rfl⟩
 have hz1 : 256 ≤ size := by omega
 have hz2 : size ≤ 4096 := by omega
 have hsz : (256 : Int) + (more : Int) % 3841 = (size : Int) := by omega
 clear hsize
 unfold asV at *
 go_enter Tryz.func5, Tryz.ntmps5
 go_upto_region 1 with fail
 rw [← hqb, ← hqv]
 clear hqb hqv
 have x2 := hX.c2
 by_cases hn10 : 10 < n
 ·have g1 : (10 : Int) < (n : Int) := by omega
  have hh := lkhead_any w0 he0
  go_wp2_with (with_reducible refine h_A ?_)
  refine hh.mono ?_
  rintro e w4 ⟨rfl, hB4⟩
  go_wp2_with (with_reducible refine h_A ?_)
  go_ret
  exact ⟨rfl, hB0.trans (hB4.mono hB0.size)⟩
 have g1 : ¬ (10 : Int) < (n : Int) := by omega
 have hu1 := lup_any size hz1 hz2 w0 he0
 go_wp2_with (with_reducible refine h_A ?_)
 (with_reducible refine hu1.mono ?_)
 rintro e w1 ⟨lb1, V1, n1, L1, rfl, hI1, p1, p2, p3, p4, p5, p6, hB1⟩
 have hB01 := hB0.trans (hB1.mono hB0.size)
 have hX1 := hX.below hB1
 have hx1 := hX1.lt
 have hu2 := lup_any size hz1 hz2 w1 (he.on hB01)
 clear hu1 x2 hX
 go_wp2_with (with_reducible refine h_A ?_)
 (with_reducible refine hu2.mono ?_)
 rintro e w2 ⟨lb2, V2, n2, L2, rfl, hI2, q1, q2, q3, q4, q5, q6, hB2⟩
 have hB02 := hB01.trans (hB2.mono hB01.size)
 have hX2 := hX1.below hB2
 have hI12 := hI1.keep (G := fun _ => False) (.below hB2) (fun _ _ e => e)
 clear hu2 hX1 hI1 hB1 hB2
 have x0 := hX2.c0
 have x1 := hX2.c1
 have x2 := hX2.c2
 obtain ⟨gp, _, _, _, _, _, _, _, hb1, _⟩ := hI12.ex
 have hsd := lsendA_any L1 lb1 gp a A n c w2 (hb1.cell (j := 0) rfl) (hb1.cell (j := 2) rfl) (hb1.cell (j := 3) rfl) (hb1.cell (j := 4) rfl) (by omega) (by omega) ((hr.below hB02).more hB02.size) hw hs hn
 have hsa : L1.sendA a = if a.chan = 0 ∨ 255 < a.chan then ([], 2) else (asBytes ((size : Int) - 12) a, cutErr ((size : Int) - 12) a) := by
  unfold LS.sendA
  rw [if_neg (by omega), p2, p3]
 obtain ⟨SB, hSB⟩ : ∃ x, x = (L1.sendA a).1 := ⟨_, rfl⟩
 obtain ⟨EB, hEB⟩ : ∃ x, x = (L1.sendA a).2 := ⟨_, rfl⟩
 rw [← hSB, ← hEB] at hsd
 rw [hsa] at hSB hEB
 have HSB := Lib.hid hSB
 have HEB := Lib.hid hEB
 unfold asV at hsd
 clear hsa hSB hEB hb1 p1 p2 p3 p4 p5 p6 hI12
 go_wp2_with (with_reducible refine h_A ?_)
 (with_reducible refine hsd.mono ?_)
 rintro e w3 ⟨rfl, hB3⟩
 have hB03 := hB02.trans (hB3.mono hB02.size)
 have hX3 := hX2.below hB3
 have hI3 := hI2.keep (G := fun _ => False) (.below hB3) (fun _ _ e => e)
 clear hsd hX2 hI2 x0 x1 x2
 have x0 := hX3.c0
 have x1 := hX3.c1
 have x2 := hX3.c2
 have hck := rgcheck_any a A n c w.heap.size w3 (hr.below hB03) hB03.size hw hs hn
 unfold asV at hck
 have dS : (str ([] : List UInt8)).toList = [] := by rw [str_toList]
 by_cases b0 : a.chan = 0
 ·obtain rfl : SB = [] := by rw [HSB.out, if_pos (.inl b0)]
  obtain rfl : EB = 2 := by rw [HEB.out, if_pos (.inl b0)]
  rw [b0] at x0
  rw [show ((0 : Nat) : Int) = 0 from rfl] at x0
  have hh := lkhead_any w3 (he.on hB03)
  clear b0 hck
  go_wp2_with (with_reducible refine h_A ?_)
  refine hh.mono ?_
  rintro e w9 ⟨rfl, hB9⟩
  go_wp2_with (with_reducible refine h_A ?_)
  go_ret
  exact ⟨rfl, (hB03).trans (hB9.mono (hB03).size)⟩
 ·by_cases b1 : 255 < a.chan
  ·obtain rfl : SB = [] := by rw [HSB.out, if_pos (.inr b1)]
   obtain rfl : EB = 2 := by rw [HEB.out, if_pos (.inr b1)]
   have d0 : ¬ (a.chan : Int) = 0 := by omega
   have d1 : (255 : Int) < (a.chan : Int) := by omega
   have hh := lkhead_any w3 (he.on hB03)
   clear b0 b1 hck
   go_wp2_with (with_reducible refine h_A ?_)
   refine hh.mono ?_
   rintro e w9 ⟨rfl, hB9⟩
   go_wp2_with (with_reducible refine h_A ?_)
   go_ret
   exact ⟨rfl, (hB03).trans (hB9.mono (hB03).size)⟩
  ·have d0 : ¬ (a.chan : Int) = 0 := by omega
   have d1 : ¬ (255 : Int) < (a.chan : Int) := by omega
   cases b2 : asOk a
   ·have e70 : cutErr ((size : Int) - 12) a = 70 := by unfold cutErr; rw [if_neg (by omega), b2]; rfl
    obtain rfl : SB = [] := by rw [HSB.out, if_neg (by omega)]; show asBytes _ _ = []; unfold asBytes cutF; rw [e70]; rfl
    obtain rfl : EB = 70 := by rw [HEB.out, if_neg (by omega)]; exact e70
    have e71 : asErr a = 70 := by unfold asErr; rw [b2]; rfl
    rw [e71] at hck
    clear e70 e71 b0 b1 b2
    go_wp2_with (with_reducible refine h_A ?_)
    (with_reducible refine hck.mono ?_)
    rintro e w4 ⟨rfl, hB4⟩
    have hB04 := hB03.trans (hB4.mono hB03.size)
    have hh := lkhead_any w4 (he.on hB04)
    clear hck
    go_wp2_with (with_reducible refine h_A ?_)
    refine hh.mono ?_
    rintro e w9 ⟨rfl, hB9⟩
    go_wp2_with (with_reducible refine h_A ?_)
    go_ret
    exact ⟨rfl, (hB04).trans (hB9.mono (hB04).size)⟩
   ·obtain ⟨most, hmo⟩ : ∃ x, x = size - 12 := ⟨_, rfl⟩
    have hmi : (size : Int) - 12 = (most : Int) := by omega
    have e0 : cutErr (most : Int) a = 0 := by unfold cutErr; rw [if_neg (by omega), if_pos b2]
    have eF : cutF (most : Int) a = cutAs most a := by unfold cutF; rw [if_pos e0]; rfl
    obtain rfl : EB = 0 := by rw [HEB.out, if_neg (by omega), hmi]; exact e0
    have hSB : SB = putAll (cutAs most a) := by rw [HSB.out, if_neg (by omega), hmi]; show asBytes _ _ = _; unfold asBytes; rw [eF]
    have e71 : asErr a = 0 := by unfold asErr; rw [b2]; rfl
    rw [e71] at hck
    have hfl := cutF_len (most : Int) a
    rw [eF] at hfl
    have hFl : (cutAs most a).length ≤ 20000 := by omega
    have hSl : SB.length ≤ 67125248 := by have := putAll_len (cutAs most a); rw [hSB]; omega
    obtain ⟨hfd, hne, hcm⟩ := cutAs_feeds (by omega : 1 ≤ most) (by omega) b2
    have hwF : ∀ f ∈ cutAs most a, f.wf ∧ f.load.length ≤ 16384 := fun f hf => cutF_wf (most := (most : Int)) hw f (by rw [eF]; exact hf)
    obtain ⟨SL, hSL⟩ : ∃ x, x = SB.length := ⟨_, rfl⟩
    have hss := str_size SB
    rw [← hSL] at hSl hss
    obtain ⟨k, hk⟩ : ∃ x, x = cut % (SL + 1) := ⟨_, rfl⟩
    have hkS : k ≤ SL := by rw [hk]; have := Nat.mod_lt cut (by omega : SL + 1 > 0); omega
    have hki : (cut : Int) % ((SL : Int) + 1) = (k : Int) := by rw [hk]; push_cast; rfl
    have hcr := car_all (ctl := fun M _ => M) (by omega : 1 ≤ most) (by omega) b2 hw (L0 := L2) (by omega) (by omega) b0 q1 q4 k
    rw [← hSB] at hcr
    have hc1 := fun W => run_cutS (P := Tryz.prog) Tryz.underlying9 W (l := SB) (lo := none) (hi := some (.int .i64 (k : Int))) 0 k (.inl ⟨rfl, rfl⟩) (.inr ⟨_, _, rfl, rfl⟩) (by omega) (by omega)
    have hc2 := fun W => run_cutS (P := Tryz.prog) Tryz.underlying9 W (l := SB) (lo := some (.int .i64 (k : Int))) (hi := none) k SB.length (.inr ⟨_, _, rfl, rfl⟩) (.inl ⟨rfl, rfl⟩) (by omega) (by omega)
    simp only [List.drop_zero, List.take_length] at hc1 hc2
    obtain ⟨S1, hS1⟩ : ∃ x, x = SB.take k := ⟨_, rfl⟩
    obtain ⟨S2, hS2⟩ : ∃ x, x = SB.drop k := ⟨_, rfl⟩
    have hl1 : S1.length ≤ SL := by rw [hS1, hSL, List.length_take]; omega
    have hl2 : S2.length ≤ SL := by rw [hS2, hSL, List.length_drop]; omega
    rw [← hS1] at hc1 hcr
    rw [← hS2] at hc2 hcr
    have hk1 : (k : Int) ≤ (SL : Int) := by omega
    have HFS := Lib.hid hwF
    have HCM := Lib.hid hcm
    obtain ⟨f1, f2, t1, rl, u1, iv, tl⟩ := hcr
    have hinv := iv q5 (fun _ _ => rfl)
    obtain ⟨P1, hP1⟩ : ∃ x, x = L2.feed (fun M _ => M) [] S1 := ⟨_, rfl⟩
    rw [← hP1] at f2 t1 rl u1 tl hinv
    obtain ⟨P2, hP2⟩ : ∃ x, x = P1.1.feed (fun M _ => M) P1.2 S2 := ⟨_, rfl⟩
    rw [← hP2] at u1 tl
    obtain ⟨t1, t2, t3, t4⟩ := t1
    obtain ⟨u1, u2⟩ := u1
    have HTL := Lib.hid tl
    have HT4 := Lib.hid (show str P1.1.sent = (⟨#[]⟩ : ByteArray) by rw [t4]; rfl)
    have HU2 := Lib.hid (show str P2.1.sent = (⟨#[]⟩ : ByteArray) by rw [u2]; rfl)
    have HU1 := Lib.hid u1
    clear e0 eF hSB e71 hfd hne hwF hcm hmi hmo hfl hS1 hS2 hk hSL b0 b1 b2 HSB HEB iv tl t4 u2 u1
    have d2 : ((a.chan : Int) == 0) = false := by simp; omega
    have d3 : decide (255 < (a.chan : Int)) = false := by simp; omega
    go_wp2_with (with_reducible refine h_A ?_)
    (with_reducible refine hck.mono ?_)
    rintro e w4 ⟨rfl, hB4⟩
    have hB04 := hB03.trans (hB4.mono hB03.size)
    have hX4 := hX3.below hB4
    have hI4 := hI3.keep (G := fun _ => False) (.below hB4) (fun _ _ e => e)
    have hgl1 : 0 < w1.heap.size := by have := hB01.size; omega
    have hf1 := car_feed (b := []) (s := S1) (FS := cutAs most a) (ch := a.chan) hI4 (he.on hB04) hgl1 q1 (by omega) (by omega) q5 (by simp) (by omega) (by omega) (by simpa using f1.1) (by simpa using f1.2) hFl HFS.out (fun f hf => (HCM.out f hf).1) (by omega)
    rw [← hP1] at hf1
    clear hck hX3 hI3 hB4 f1 x0 x1 x2 hP1
    go_wp2_with (with_reducible refine h_A ?_)
    (with_reducible refine hf1.mono ?_)
    rintro e w5 ⟨n5, hn5, V5, TT, tc, th, rfl, hI5, hK5, hV5, htd, hOT, hTT, hth⟩
    rw [HT4.out]
    have hK05 : KeepF (fun k => w.heap.size ≤ k) w w5 := (KeepF.below (F := fun k => w.heap.size ≤ k) hB04).trans hK5 (fun k hk => .inl (by have := (hI4.v k hk).1; have := hB01.size; omega))
    have hX5 := hX4
    have hxV : ¬ V2 xb := fun e => by have := (hI4.v xb e).1; omega
    have hX5 := box_keepF hX4 hK5 hxV
    have hxV5 : ¬ V5 xb := fun e => by
     rcases hV5 xb e with e | e
     ·exact hxV e
     ·have := hX4.lt; omega
    obtain ⟨m1, hm1⟩ : ∃ x, x = P1.1.told.length := ⟨_, rfl⟩
    rw [← hm1] at hOT ⊢
    have hT5 : ToldI w5 V5 w1.heap.size TT m1 tc th := ⟨hOT, hTT, hth⟩
    have HTD := Lib.hid htd
    have hm1l := own_len taShape hOT
    have hgU : ¬ (w.heap.size ≤ 0) := by omega
    have hf2 := car_feed (b := P1.2) (s := S2) (FS := cutAs most a) (ch := a.chan) hI5 (he.onK hK05 hgU) hgl1 t1 (by omega) (by omega) hinv (by omega) (by omega) (by omega) f2.1 f2.2 hFl HFS.out (fun f hf => (HCM.out f hf).1) (by omega)
    rw [← hP2] at hf2
    clear hf1 hI4 hK5 hV5 htd hOT hTT hth hX4 hm1 f2 hP2 hinv rl hxV
    go_wp2_with (with_reducible refine h_A ?_)
    (with_reducible refine hf2.mono ?_)
    rintro e w6 ⟨n6, hn6, V6, TU, td, ti, rfl, hI6, hK6, hV6, htd2, hOT2, hTT2, hth2⟩
    rw [HU2.out]
    have hK06 := hK05.trans hK6 (fun k hk => .inl (by have := (hI5.v k hk).1; have := hB01.size; omega))
    have hX6 := box_keepF hX5 hK6 hxV5
    have hT6 := hT5.keep hK6 (fun _ e => e)
    obtain ⟨m2, hm2⟩ : ∃ x, x = P2.1.told.length := ⟨_, rfl⟩
    rw [← hm2] at hOT2 ⊢
    have HTD2 := Lib.hid htd2
    have hm2l := own_len taShape hOT2
    have hI6' := hI6
    have hel : ∀ x ∈ th ++ ti, OwnG w6 0 x.A x.a.segs.length x.c x.a.segs := fun x hx => by
     rcases List.mem_append.1 hx with h | h
     ·exact (hT6.el x h).1
     ·exact (hth2 x h).1
    have hall : (th ++ ti).map (·.a) = [a] := by rw [List.map_append, ← HTD.out, ← HTD2.out]; exact HTL.out
    obtain ⟨x, hx⟩ : ∃ x, th ++ ti = [x] := by
     match hq : th ++ ti with
     | [] => rw [hq] at hall; cases hall
     | [x] => exact ⟨x, rfl⟩
     | x :: y :: r => rw [hq] at hall; simp at hall
    have hxa : x.a = a := by rw [hx] at hall; simpa using hall
    have hm12 : m1 + m2 = 1 := by
     have := congrArg List.length hx
     rw [List.length_append] at this
     simp at this
     omega
    have hrow : rowC taC th ++ rowC taC ti = rowC taC [x] := by rw [← rowC_app, hx]
    have hGx : OwnG w6 0 x.A x.a.segs.length x.c x.a.segs := hel x (by rw [hx]; simp)
    have hR1 := hT6.row.rd
    have hR2 := hOT2.rd
    clear hf2 hI5 hK6 hV6 htd2 hTT2 hth2 hX5 hT5 hT6 hOT2 hm2 hI6 hel hall hx hK05 HTD HTD2
    have hwz6 : w.heap.size ≤ w6.heap.size := hK06.1
    go_wp2_with (with_reducible refine h_A ?_)
    refine unhold (wp_app (base := w6.heap.size) slTA rfl rfl rfl rfl (Own.none_ w6 w6.heap.size 42 3) hR1 ta_one (by omega) (by unfold maxLen; omega) (Nat.le_refl _) ?_)
    intro A3 c3 w7 hO7 hg7 hA7
    simp only [Nat.zero_add, List.nil_append] at hO7 ⊢
    have hB67 : Below w6.heap.size w6 w7 := (Below.refl _ _).grown hg7 (Nat.le_refl _) (fun g hg => by cases hg)
    have hR27 := hR2.below' hB67 (Nat.le_refl _)
    go_wp2_with (with_reducible refine h_A ?_)
    refine unhold (wp_app (base := w6.heap.size) slTA rfl rfl rfl rfl hO7 hR27 ta_one (by omega) (by unfold maxLen; omega) hB67.size ?_)
    intro A4 c4 w8 hO8 hg8 hA8
    rw [hrow, hm12] at hO8
    have hB68 : Below w6.heap.size w6 w8 := hB67.grown hg8 hB67.size (fun g hg => (hO7.blk_lt hg).1)
    have hwz8 := hB68.size
    have hwz8' : w.heap.size ≤ w8.heap.size := Nat.le_trans hwz6 hwz8
    obtain ⟨rb, off, rfl, hrb, _, hcl⟩ := rec_at taShape hO8.rd (k := 0) (by omega)
    have hX8 := hX6.below hB68
    have hI8 := hI6'.keep (G := fun _ => False) (.below hB68) (fun _ _ e => e)
    have hG8 := own_below hGx hB68
    have hK08 := hK06.trans (KeepF.below (F := fun _ => False) hB68) (fun _ e => e.elim)
    have he8 := he.onK hK08 hgU
    have hxs : ∀ s ∈ x.a.segs, True := fun _ _ => trivial
    obtain ⟨gp2, _, _, _, _, _, _, _, hb8, _⟩ := hI8.ex
    rw [HU1.out] at hb8
    have hrz : Rd w8 w8.heap.size 3 _ 1 _ (rowC taC [x]) := hO8.rd
    have hxl : x.a.segs.length = n := by rw [hxa]; exact rec_length sgShape hr
    have hnl : n = a.segs.length := (rec_length sgShape hr).symm
    have hB08 := hK08.toBelow (Nat.le_refl _) (fun _ h => h)
    have hsm : ∀ W, Below w8.heap.size w8 W → Calls Tryz.prog 19 #[.agg #[.int .u16 (x.a.chan : Int), .int .u8 (x.a.track : Int), .slice x.A x.a.segs.length x.c], .agg #[.int .u16 (a.chan : Int), .int .u8 (a.track : Int), .slice A n c]] W fun e w' => e = .returned (.bool true) ∧ Below W.heap.size W w' := fun W hW => by
     have h := rgsame_any x.a a x.A x.c A c w8.heap.size W (hG8.rd.below hW) (by rw [← hnl]; exact ((hr.below hB08).more hwz8').below hW) hW.size (by rw [hxl]; exact hn) (by rw [← hnl]; exact hn)
     unfold asV at h
     rw [decide_eq_true hxa, ← hnl] at h
     exact h
    have hk0 : ∀ W, Below w8.heap.size w8 W → W.cell? ⟨rb, off, none⟩ = some (.int .u16 (x.a.chan : Int)) ∧ W.cell? ⟨rb, off + 1, none⟩ = some (.int .u8 (x.a.track : Int)) ∧ W.cell? ⟨rb, off + 2, none⟩ = some (.slice x.A x.a.segs.length x.c) := fun W hW => by
     have k0 := hcl 0 _ rfl
     have k1 := hcl 1 _ rfl
     have k2 := hcl 2 _ rfl
     simp only [Nat.zero_mul, Nat.add_zero, List.getElem_cons_zero] at k0 k1 k2
     exact ⟨(hW.cell (p := ⟨rb, off, none⟩) hrb).trans k0, (hW.cell (p := ⟨rb, off + 1, none⟩) hrb).trans k1, (hW.cell (p := ⟨rb, off + 2, none⟩) hrb).trans k2⟩
    have hst : ∀ W, Below w8.heap.size w8 W → Calls Tryz.prog 15 #[.pointer (some ⟨lb2, 0, none⟩)] W fun e w' => e = .returned (.int .u8 4) ∧ W = w' := fun W hW => lstate_any lb2 4 gp2 W ((hb8.below hW).cell (j := 0) rfl) ((hb8.below hW).cell (j := 2) rfl)
    have hhd : ∀ W, Below w8.heap.size w8 W → Calls Tryz.prog 9 #[] W fun e w' => e = .returned (.bool true) ∧ Below W.heap.size W w' := fun W hW => lkhead_any W (he8.on hW)
    have dE : (⟨#[]⟩ : ByteArray).toList = [] := dS
    clear hO7 hg7 hA7 hg8 hA8 hB67 hR1 hR2 hR27 hX6 hI6' hGx hrow hO8 HTL hK06 hxs hcl hb8 hI8 hG8 hxl hxa hnl hrz
    go_wp2_with (with_reducible refine h_A ?_)
    refine rg_start (fun W : World => Below w8.heap.size w8 W) (by kernel_rfl) ?_
    have hS : Below w8.heap.size w8 w8.drew := below_drewN (Below.refl _ _) 1
    generalize w8.drew = wd at *
    refine rg_t 0 hS ?_
    simp only [List.getElem_toArray, List.getElem_cons_zero, Act.put, List.setIfInBounds_toArray, List.set_cons_zero, List.set_cons_succ]
    refine rg_t 1 hS ?_
    simp only [g_S, Act.put]
    refine rg_t 2 hS ?_
    simp only [g_S, Act.put]
    refine rg_t 3 hS ?_
    simp only [g_S, Act.put]
    refine rg_t 4 hS ?_
    simp only [g_S, Act.put]
    refine rg_t 5 hS ?_
    simp only [g_S, Act.put]
    refine rg_t 6 hS ?_
    simp only [g_S, Act.put]
    refine rg_t 7 hS ?_
    simp only [g_S, Act.put]
    refine rg_t 8 hS ?_
    simp only [g_S, Act.put]
    refine rg_t 9 hS ?_
    simp only [g_S, Act.put]
    refine rg_t 10 hS ?_
    simp only [g_S, Act.put]
    refine rg_t 11 hS ?_
    simp only [g_S, Act.put]
    refine rg_t 12 hS ?_
    simp only [g_S, Act.put]
    refine rg_t 13 hS ?_
    simp only [g_S, Act.put]
    refine rg_t 14 hS ?_
    simp only [g_S, Act.put]
    refine rg_t 15 hS ?_
    simp only [g_S, Act.put]
    refine rg_t 16 hS ?_
    simp only [g_S, Act.put]
    refine rg_t 17 hS ?_
    simp only [g_S, Act.put]
    refine rg_take 18 (v := ?_) rfl (by kernel_rfl) (by kernel_rfl) (by kernel_rfl) hS rfl ?_ ?_
    rotate_left
    ·intro wS hSw; obtain ⟨k0, k1, k2⟩ := hk0 _ hSw; go_simp; (with_reducible rfl)
    simp only [g_S, Act.put]
    refine rg_take 19 (v := ?_) rfl (by kernel_rfl) (by kernel_rfl) (by kernel_rfl) hS rfl ?_ ?_
    rotate_left
    ·intro wS hSw; have k := hX8.below hSw; have k0 := k.cell (j := 0) rfl; have k1 := k.cell (j := 1) rfl; have k2 := k.cell (j := 2) rfl; go_simp; (with_reducible rfl)
    simp only [g_S, Act.put]
    refine rg_one 20 rfl (by kernel_rfl) rfl (fun K hK => ?_)
    go_simp
    (with_reducible refine (hsm _ hS).mono ?_)
    rintro e w9 ⟨rfl, hB9⟩
    have hS9 := hS.trans (hB9.mono hS.size)
    refine hK _ _ hS9 ?_
    clear hK K
    try simp only [g_S, Act.put]
    refine rg_t 21 hS9 ?_
    simp only [g_S, Act.put]
    refine rg_t 22 hS9 ?_
    simp only [g_S, Act.put]
    refine rg_t 23 hS9 ?_
    simp only [g_S, Act.put]
    refine rg_one 24 rfl (by kernel_rfl) rfl (fun K hK => ?_)
    go_simp
    (with_reducible refine (hst _ hS9).mono ?_)
    rintro e wa ⟨rfl, rfl⟩
    refine hK _ _ hS9 ?_
    clear hK K
    try simp only [g_S, Act.put]
    refine rg_t 25 hS9 ?_
    simp only [g_S, Act.put]
    refine rg_t 26 hS9 ?_
    simp only [g_S, Act.put]
    refine rg_t 27 hS9 ?_
    simp only [g_S, Act.put]
    refine rg_one 28 rfl (by kernel_rfl) rfl (fun K hK => ?_)
    go_simp
    (with_reducible refine (hhd _ hS9).mono ?_)
    rintro e wb ⟨rfl, hBb⟩
    have hSb := hS9.trans (hBb.mono hS9.size)
    refine hK _ _ hSb ?_
    clear hK K
    try simp only [g_S, Act.put]
    refine rg_t 29 hSb ?_
    simp only [g_S, Act.put]
    refine rg_t 30 hSb ?_
    simp only [g_S, Act.put]
    refine rg_end (by kernel_rfl) ?_
    go_wp2_with (with_reducible refine h_A ?_)
    go_ret
    exact ⟨rfl, hB08.trans (hSb.mono hB08.size)⟩
end Go.PH
end

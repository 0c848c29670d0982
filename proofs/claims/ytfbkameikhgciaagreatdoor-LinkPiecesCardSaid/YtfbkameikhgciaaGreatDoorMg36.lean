/- Texts laid together: LpFeed, LpLaw. -/
import Derived.Deep.CutRange
import Derived.Test.YtfbkameikhgciaaGreatDoorMg02
import Derived.Test.YtfbkameikhgciaaGreatDoorMg07
import Derived.Test.YtfbkameikhgciaaGreatDoorMg12
import Derived.Test.YtfbkameikhgciaaGreatDoorMg23
import Derived.Test.YtfbkameikhgciaaGreatDoorMg26
import Derived.Test.YtfbkameikhgciaaGreatDoorMg35
set_option linter.all false
set_option linter.unusedSimpArgs false
set_option linter.unusedVariables false
set_option maxRecDepth 20000
set_option maxHeartbeats 8000000
section
namespace Go.PH
open Go.RowKit Go.Proofs
theorem V5 {L : LS} (h : LG L) (b s : List UInt8) : LG (L.pre b s).1 ∧ (L.pre b s).1.told = [] ∧ (L.pre b s).1.sent.length ≤ 1000 ∧ (L.pre b s).2.length ≤ b.length + s.length := by
 by_cases h0 : L.st = 0
 ·have hp : L.pre b s = LS.beginL L.core (b ++ s) := by unfold LS.pre; rw [if_pos h0]; rfl
  rw [hp]
  unfold LS.beginL
  split
  ·refine ⟨⟨h.inv, h.sz, h.ch, by show (1 : Nat) < 256; decide⟩, rfl, ?_, by simp⟩
   have := Zr L.sz
   have e : startB.length ≤ 50 := by decide +kernel
   show ([] ++ hdrB ++ ctlB L.sz startB).length ≤ 1000
   simp only [List.length_append, List.length_nil]
   have e2 : hdrB.length = 8 := rfl
   omega
  ·split
   ·exact ⟨⟨h.inv, h.sz, h.ch, h.st⟩, rfl, by simp [LS.core], by simp⟩
   ·refine ⟨⟨h.inv, h.sz, h.ch, by show (5 : Nat) < 256; decide⟩, rfl, ?_, by simp⟩
    show ([] ++ hdrB).length ≤ 1000
    decide
 ·have hp : L.pre b s = (L.core, b ++ s) := by unfold LS.pre; rw [if_neg h0]; rfl
  rw [hp]
  exact ⟨⟨h.inv, h.sz, h.ch, h.st⟩, rfl, by simp [LS.core], by simp⟩
theorem Qa {w0 w : World} {V : Nat → Prop} {lb n : Nat} {b s : List UInt8} {L : LS} (hw0 : Below w0.heap.size w0 w) (hT : UTabs w0) (he0 : MEnv w0) (h : LkI w w0.heap.size V lb n b L) (hg : LG L) (hbl : b.length + s.length ≤ 1000000) (hn : n ≤ 100000000) :
  Calls Tryz.prog 12 #[.pointer (some ⟨lb, 0, none⟩), .string (str s)] w fun e w' => ∃ n', n' ≤ n + b.length + s.length ∧ KV w w0.heap.size V lb n' (L.feed ctlG b s) e w' := by
 obtain ⟨p1, p2, p3, p4⟩ := V5 hg b s
 have hle := jv (L.pre b s).2
 have hfd := Ql ctlG (LB 1000 (zk (L.pre b s).2).1.length) s b h (he0.on hw0) he0.lt (by have := hg.sz; omega) (by omega) (by omega) hg.st
  (by omega) (fun k M hM => hM.st) (fun k M hM => hM.bounds (by omega) (by omega))
  (fun k M f hk hf hM => hM.take hk (jk _ f hf).1 ctlG (fun M a hM' => Qf hM' hk a))
  (fun h0 h5 => ⟨by omega, p1.inv, p1.sz, p1.ch, h0, p1.st, by omega, by rw [p2]; simp⟩)
  (fun f hf => ⟨(jk _ f hf).1, by have := (jk _ f hf).2; omega⟩)
  (fun k M f a A c W U' T' m' RA' rn' rc' hf hM hout hac hLM hG hT' hE hBW => by
   obtain ⟨sg, rest, hsg, hld⟩ := Qe hM.inv hout
   have hbd := hM.bounds (by omega) (by omega)
   have hlo : Xm a = sg.load := by unfold Xm; rw [hsg]
   exact ZT a sg rest hsg (getP (Xm a)).1 (getP (Xm a)).2 (by rw [hlo]; exact JJ sg.load (by omega) W (hT.on (hw0.trans hBW))) (JI _) A c hLM hG (by omega) hE hM.st' hbd.2.1 hbd.2.2.2.1)
 refine hfd.mono ?_
 intro e w' hR
 exact ⟨_, by omega, hR⟩
def sumL (l : List (List UInt8)) : Nat := (l.map List.length).sum
theorem Zp (l : List (List UInt8)) (x : List UInt8) : sumL (l ++ [x]) = sumL l + x.length := by simp [sumL]
theorem Zq (l : List (List UInt8)) : l.flatten.length = sumL l := by rw [List.length_flatten]; rfl
def V6 (n : Nat) (L : List (List UInt8)) (e : Ending) : Prop := ∃ g : Bool, e = .returned (.bool g) ∧ (g = false → n ≤ 60 ∧ sumL L ≤ 20000)
theorem Qb (A : Option Addr) (n c : Nat) (L : List (List UInt8)) (w : World) (hr : Rd w w.heap.size 1 A n c (L.map txV)) (hl : ∀ x ∈ L, x.length ≤ 140737488351232) (hn : n ≤ 140737488351232) :
  Calls Tryz.prog 8 #[.slice A n c] w fun e w' => V6 n L e ∧ w = w' := by
 have hL : L.length = n := by have := hr.len; simpa using this
 have HL := Lib.hid hL
 have HR := Lib.hid hr
 have HLL := Lib.hid hl
 clear hL hr hl
 go_enter Tryz.func8, Tryz.ntmps8
 go_wp2_with (with_reducible refine h_A ?_)
 go_loop [4, 3] (fun s4 s3 => ∃ k m : Nat, k ≤ n ∧ k ≤ 60 ∧ s4 = .int .i64 (k : Int) ∧ s3 = .int .i64 (m : Int) ∧ m ≤ 6000 * k ∧ Hid (m = sumL (L.take k))) (fun s4 _ => n - (RowKit.intOf s4).toNat)
 case atStart => exact ⟨0, 0, by omega, by omega, rfl, rfl, by omega, Lib.hid rfl⟩
 case round =>
  obtain ⟨k, m, hk, hk6, rfl, rfl, hm, HM⟩ := hrel
  by_cases hlt : k < n ∧ k < 60
  ·have g1 : (k : Int) < (n : Int) := by omega
   have g2 : (k : Int) < 60 := by omega
   obtain ⟨b, off, u, rfl, hb, hu, hc⟩ := HR.out.at_k hlt.1
   have hkl : k < L.length := by rw [HL.out]; exact hlt.1
   obtain rfl : u = .string (str L[k]) := by rw [List.getElem?_map, List.getElem?_eq_getElem hkl] at hu; exact (Option.some.inj hu).symm
   have hxl := HLL.out _ (List.getElem_mem hkl)
   have HT : Hid (sumL (L.take (k + 1)) = sumL (L.take k) + L[k].length) := Lib.hid (by rw [List.take_succ_eq_append_getElem hkl, Zp])
   clear hu
   generalize L[k] = x at *
   have hxs := zj x
   by_cases hx6 : 6000 < x.length
   ·have d1 : (6000 : Int) < ((str x).size : Int) := by omega
    go_wp2_with (with_reducible refine h_A ?_)
    go_ret
    exact ⟨⟨true, rfl, (fun e => by cases e)⟩, rfl⟩
   ·have d1 : ¬ (6000 : Int) < ((str x).size : Int) := by omega
    have HM2 : Hid (m + x.length = sumL (L.take (k + 1))) := Lib.hid (by rw [HT.out, HM.out])
    go_wp2_with (with_reducible refine h_A ?_)
    exact ⟨⟨k + 1, m + x.length, by omega, by omega, by go_num, by go_num, by omega, HM2⟩, by simp [RowKit.intOf]; omega⟩
  ·by_cases hn6 : 60 < n
   ·have g3 : (60 : Int) < (n : Int) := by omega
    obtain rfl : k = 60 := by omega
    have g1 : ((60 : Nat) : Int) < (n : Int) := by omega
    have g2 : ¬ ((60 : Nat) : Int) < 60 := by omega
    go_wp2_with (with_reducible refine h_A ?_)
    go_ret
    exact ⟨⟨true, rfl, (fun e => by cases e)⟩, rfl⟩
   ·obtain rfl : k = n := by omega
    have g3 : ¬ (60 : Int) < (k : Int) := by omega
    have g1 : ¬ (k : Int) < (k : Int) := by omega
    have HM2 : Hid (m = sumL L) := Lib.hid (by rw [HM.out, List.take_of_length_le (by rw [HL.out]; exact Nat.le_refl _)])
    go_wp2_with (with_reducible refine h_A ?_)
    go_ret
    refine ⟨⟨_, rfl, fun e => ⟨by omega, ?_⟩⟩, rfl⟩
    rw [← HM2.out]
    have := of_decide_eq_false e
    omega
end Go.PH
end
section
namespace Go.PH
open Go.RowKit Go.Proofs
structure LpT (w : World) (B : Nat) (V : Nat → Prop) (TT : Option Addr) (m tc : Nat) (th : List TAs) : Prop where
 row : OwnT w B TT m tc th
 nr : ∀ g, blk TT = some g → ¬ V g
 el : ∀ x ∈ th, OwnG w 0 x.A x.a.segs.length x.c x.a.segs ∧ ∀ g, blk x.A = some g → ¬ V g
 ap : ∀ x ∈ th, ∀ g, blk x.A = some g → blk TT ≠ some g
theorem LpT.keep {w w' : World} {V V' G : Nat → Prop} {B : Nat} {TT : Option Addr} {m tc : Nat} {th : List TAs} (h : LpT w B V TT m tc th) (hk : KeepF G w w') (hG : ∀ k, G k → V k) (hV : ∀ k, V' k → V k ∨ w.heap.size ≤ k) : LpT w' B V' TT m tc th where
 row := zq h.row hk (fun g e e2 => h.nr g e (hG g e2))
 nr := fun g e e2 => by
  rcases hV g e2 with e3 | e3
  ·exact h.nr g e e3
  ·have := (h.row.blk_lt e).2; omega
 el := fun x hx => ⟨zq (h.el x hx).1 hk (fun g e e2 => (h.el x hx).2 g e (hG g e2)), fun g e e2 => by
  rcases hV g e2 with e3 | e3
  ·exact (h.el x hx).2 g e e3
  ·have := ((h.el x hx).1.blk_lt e).2; omega⟩
 ap := h.ap
theorem ta_one' {th : List TAs} : ∀ u ∈ rowC taC th, u.oneCell' = true := fun u hu => by
 unfold rowC at hu
 obtain ⟨x, _, hx⟩ := List.mem_flatMap.1 hu
 exact taShape.one x u hx
def LS0 : LS := ⟨0, 255, 4096, GS.new, [], []⟩
theorem KU : LG LS0 := ⟨GS.inv_new, by show (4096 : Nat) ≤ 4096; omega, by show (255 : Nat) ≤ 255; omega, by show (0 : Nat) < 256; omega⟩
theorem Zo (l : List (List UInt8)) (i : Nat) : sumL (l.take i) ≤ sumL l := by
 have h : ∀ a b : List (List UInt8), sumL (a ++ b) = sumL a + sumL b := fun a b => by simp [sumL]
 have h2 := h (l.take i) (l.drop i)
 rw [List.take_append_drop] at h2
 omega
def LpB (w wr : World) (Vy : Nat → Prop) (xb yb : Nat) (L : List (List UInt8)) (i : Nat) (s5 s6 s7 : Value) : Prop := ∃ (C S b : List UInt8) (M : LS) (Vx : Nat → Prop) (nx m tc : Nat) (TT : Option Addr) (th : List TAs), s5 = .string (str C) ∧ s6 = .string (str S) ∧ s7 = .slice TT m tc ∧
 Hid (C = (L.take i).flatten) ∧ Hid (LpI (ctl := ctlG) LS0 C S (th.map (·.a)) M b) ∧ LG M ∧ b.length ≤ sumL (L.take i) ∧ S.length ≤ 900000000 * i ∧ m ≤ 50000 * i ∧ nx ≤ 50000 * i ∧ LkI wr w.heap.size Vx xb nx b M ∧ LkI wr w.heap.size Vy yb 0 [] LS0 ∧ (∀ k, Vx k → ¬ Vy k) ∧ LpT wr w.heap.size (fun k => Vx k ∨ Vy k) TT m tc th ∧ Below w.heap.size w wr
theorem vk (A : Option Addr) (n c : Nat) (L : List (List UInt8)) (w : World) (he : MEnv w) (hT : UTabs w) (hr : Rd w w.heap.size 1 A n c (L.map txV)) (hl : ∀ x ∈ L, x.length ≤ 140737488351232) (hn : n ≤ 140737488351232) :
  Calls Tryz.prog 4 #[.slice A n c] w fun e w' => e = .returned (.bool true) ∧ Below w.heap.size w w' := by
 have hgr := Qb A n c L w hr hl hn
 have HR := Lib.hid hr
 have HL : Hid (L.length = n) := Lib.hid (by have := hr.len; simpa using this)
 have HE := Lib.hid he
 have HT := Lib.hid hT
 clear hr hl
 go_enter Tryz.func4, Tryz.ntmps4
 go_wp2_with (with_reducible refine h_A ?_)
 refine hgr.mono ?_
 rintro e w' ⟨⟨g, rfl, hg⟩, rfl⟩
 clear hgr
 cases g
 ·obtain ⟨hn6, hsum⟩ := hg rfl
  clear hg
  have hn1 := ke w
  go_wp2_with (with_reducible refine h_A ?_)
  refine hn1.mono ?_
  rintro e w1 ⟨rfl, hG1, hb1, hB1⟩
  clear hn1
  obtain ⟨xb, hxb⟩ : ∃ b, b = w.heap.size + 2 := ⟨_, rfl⟩
  rw [← hxb] at hb1
  have hI1 := JH (B := w.heap.size) hb1 hG1 (by omega) (fun k hk => by omega) (by omega)
  have hn2 := ke w1
  go_wp2_with (with_reducible refine h_A ?_)
  rw [← hxb]
  clear hxb
  refine hn2.mono ?_
  rintro e w2 ⟨rfl, hG2, hb2, hB2⟩
  clear hn2
  obtain ⟨yb, hyb⟩ : ∃ b, b = w1.heap.size + 2 := ⟨_, rfl⟩
  rw [← hyb] at hb2
  have hs1 := hB1.size
  have hI2 := JH (B := w.heap.size) hb2 hG2 (by omega) (fun k hk => by omega) (by omega)
  have hI12 := hI1.keep (G := fun _ => False) (.below hB2) (fun _ _ e => e)
  have hB02 := hB1.trans (hB2.mono hB1.size)
  have hv1 := hI1.v
  obtain ⟨Vx0, hVx0⟩ : ∃ V : Nat → Prop, V = fun k => k = xb ∨ (k = w.heap.size ∨ k = w.heap.size + 1) := ⟨_, rfl⟩
  obtain ⟨Vy, hVy⟩ : ∃ V : Nat → Prop, V = fun k => k = yb ∨ (k = w1.heap.size ∨ k = w1.heap.size + 1) := ⟨_, rfl⟩
  have hdj : ∀ k, Vx0 k → ¬ Vy k := fun k hk hk2 => by
   rw [hVx0] at hk
   rw [hVy] at hk2
   have := hv1 k hk
   omega
  rw [← hVx0] at hI12
  rw [← hVy] at hI2
  go_upto_block 0 with fail
  rw [← hyb]
  clear hyb hVx0 hVy hI1 hG1 hb1 hG2 hb2 hv1 hs1 hB1 hB2
  go_cut [5, 6, 7] from 8 (fun s5 s6 s7 wx => LpB w wx Vy xb yb L n s5 s6 s7)
  case first =>
   as_aux_lemma =>
   go_wp2_with fail
   go_loopw [8, 5, 6, 7] (fun s8 s5 s6 s7 wr => ∃ i : Nat, i ≤ n ∧ s8 = .int .i64 (i : Int) ∧ LpB w wr Vy xb yb L i s5 s6 s7) (fun s8 _ _ _ _ => n - (RowKit.intOf s8).toNat)
   case atStart =>
    exact ⟨0, by omega, rfl, [], [], [], LS0, Vx0, 0, 0, 0, none, [], rfl, rfl, rfl, Lib.hid rfl, Lib.hid (LpI.start LS0 rfl), KU, by simp, by simp, by omega, by omega, hI12, hI2, hdj, ⟨Own.none_ _ _ _ _, (fun g e => by cases e), (fun x hx => by cases hx), (fun x hx => by cases hx)⟩, hB02⟩
   case round =>
    clear hI12 hI2 hdj hB02
    obtain ⟨i, hi, rfl, hS⟩ := hrel
    obtain ⟨C, S, b, M, Vx, nx, m, tc, TT, th, rfl, rfl, rfl, HC, HP, hM, hbl, hSl, hm, hnx, hI, hJ, hdj, hTT, hB⟩ := hS
    by_cases hlt : i < n
    ·have g1 : (i : Int) < (n : Int) := by omega
     obtain ⟨tb, toff, u, rfl, htb, hu, hct⟩ := HR.out.at_k hlt
     have hkl : i < L.length := by rw [HL.out]; exact hlt
     obtain rfl : u = .string (str L[i]) := by rw [List.getElem?_map, List.getElem?_eq_getElem hkl] at hu; exact (Option.some.inj hu).symm
     have hT1 : sumL (L.take (i + 1)) = sumL (L.take i) + L[i].length := by rw [List.take_succ_eq_append_getElem hkl, Zp]
     have hT2 := Zo L (i + 1)
     have HC2 : Hid (C ++ L[i] = (L.take (i + 1)).flatten) := Lib.hid (by rw [HC.out, List.take_succ_eq_append_getElem hkl, List.flatten_append]; simp only [List.flatten_cons, List.flatten_nil, List.append_nil])
     clear hu
     generalize L[i] = x at *
     have k0 := (hB.cell (p := ⟨tb, toff + i, none⟩) htb).trans hct
     obtain ⟨f1, f2, f3, f4⟩ := K6 hM b x
     have HP2 := Lib.hid (HP.out.more K5 x)
     have hfd := Qa (s := x) hB HT.out HE.out hI hM (by omega) (by omega)
     obtain ⟨Q, hQ⟩ : ∃ q, q = LS.feed ctlG M b x := ⟨_, rfl⟩
     rw [← hQ] at f1 f2 f3 f4 HP2 hfd
     clear hQ
     obtain ⟨SN, hSN⟩ : ∃ y, y = Q.1.sent := ⟨_, rfl⟩
     obtain ⟨MN, hMN⟩ : ∃ y, y = Q.1.told.length := ⟨_, rfl⟩
     rw [← hSN] at HP2 f3
     rw [← hMN] at f4
     have HSN := Lib.hid hSN
     have HMN := Lib.hid hMN
     clear hSN hMN
     have hCl : C.length ≤ 20000 := by rw [HC.out, Zq]; omega
     have z1 := zj C
     have z2 := zj x
     have z3 := zj S
     have z4 := zj SN
     go_wp2_with (with_reducible refine h_A ?_)
     refine hfd.mono ?_
     rintro e w4 ⟨n', hn', V', TU, tu, ti, rfl, hI4, hK4, hV4, htd, hOT, hTU, hti⟩
     rw [← HSN.out, ← HMN.out]
     rw [← HMN.out] at hOT
     clear hfd k0
     have hVl := hI.v
     have hVyl := hJ.v
     have hJ4 := hJ.keep hK4 (fun k hk e => hdj k e hk)
     have hdj4 : ∀ k, V' k → ¬ Vy k := fun k hk e => by
      rcases hV4 k hk with e2 | e2
      ·exact hdj k e2 e
      ·have := (hVyl k e).2; omega
     have hTT4 : LpT w4 w.heap.size (fun k => V' k ∨ Vy k) TT m tc th := hTT.keep hK4 (fun k hk => .inl hk) (fun k hk => by
      rcases hk with e | e
      ·rcases hV4 k e with e2 | e2
       ·exact .inl (.inl e2)
       ·exact .inr e2
      ·exact .inl (.inr e))
     have hB4 := hB.trans (hK4.toBelow hB.size (fun k hk => (hVl k hk).1))
     have hmi := vU taShape hOT
     go_wp2_with (with_reducible refine h_A ?_)
     refine zc (yn slTA rfl rfl rfl rfl hTT4.row hOT.rd ta_one' (by omega) (by simp [maxLen]; omega) hB4.size ?_)
     intro A2 c2 w5 hO5 hg5 hA5
     rw [← yR] at hO5
     have hGK : KeepF (fun k => blk TT = some k) w4 w5 := KeepF.grown hg5 (fun g e => .inl e)
     have hI5 := hI4.keep hGK (fun k hk e => hTT4.nr k e (.inl hk))
     have hJ5 := hJ4.keep hGK (fun k hk e => hTT4.nr k e (.inr hk))
     have hB5 := hB4.grown hg5 hB4.size (fun g e => (hTT4.row.blk_lt e).1)
     have hV4l := hI4.v
     have hVy4 := hJ4.v
     have hTx : ∀ g, blk TT = some g → ¬ Vx g := fun g e e2 => hTT.nr g e (.inl e2)
     have hTlt : ∀ g, blk TT = some g → g < wr.heap.size := fun g e => (hTT.row.blk_lt e).2
     have hap : ∀ x ∈ ti, ∀ g, blk x.A = some g → blk TT ≠ some g := fun x hx g e e2 => by
      rcases ((hti x hx).2 g e).2 with h1 | h1
      ·exact hTx g e2 h1
      ·have := hTlt g e2; omega
     have hel : ∀ x ∈ th ++ ti, OwnG w5 0 x.A x.a.segs.length x.c x.a.segs ∧ ∀ g, blk x.A = some g → ¬ (V' g ∨ Vy g) := fun x hx => by
      rcases List.mem_append.1 hx with h1 | h1
      ·exact ⟨zq (hTT4.el x h1).1 hGK (fun g e e2 => hTT4.ap x h1 g e e2), (hTT4.el x h1).2⟩
      ·refine ⟨zq (hti x h1).1 hGK (fun g e e2 => hap x h1 g e e2), fun g e e2 => ?_⟩
       rcases e2 with e2 | e2
       ·exact ((hti x h1).2 g e).1 e2
       ·rcases ((hti x h1).2 g e).2 with e3 | e3
        ·exact hdj g e3 e2
        ·have := (hVyl g e2).2; omega
     have hlt4 : ∀ x ∈ th ++ ti, ∀ g, blk x.A = some g → g < w4.heap.size ∧ blk TT ≠ some g := fun x hx g e => by
      rcases List.mem_append.1 hx with h1 | h1
      ·exact ⟨((hTT4.el x h1).1.blk_lt e).2, hTT4.ap x h1 g e⟩
      ·exact ⟨((hti x h1).1.blk_lt e).2, hap x h1 g e⟩
     have hTT5 : LpT w5 w.heap.size (fun k => V' k ∨ Vy k) A2 (m + MN) c2 (th ++ ti) := ⟨hO5, fun g e e2 => by
      rcases hA5 with h1 | h1
      ·exact hTT4.nr g (h1.symm.trans e) e2
      ·rw [e] at h1
       injection h1 with h1
       rcases e2 with e2 | e2
       ·have := (hV4l g e2).2; omega
       ·have := (hVy4 g e2).2; omega, hel, fun x hx g e e2 => by
      have h2 := hlt4 x hx g e
      rcases hA5 with h1 | h1
      ·exact h2.2 (h1.symm.trans e2)
      ·rw [e2] at h1
       injection h1 with h1
       omega⟩
     rw [htd, ← List.map_append] at HP2
     clear hTT hTT4 hI hI4 hJ hJ4 hK4 hV4 htd hOT hTU hti hVl hVyl hdj hB hB4 hmi hO5 hg5 hA5 hGK hV4l hVy4 hTx hTlt hap hel hlt4 hct HC HP
     rw [Yn, Yn]
     go_wp2_with (with_reducible refine h_A ?_)
     exact ⟨⟨i + 1, by omega, by go_num, C ++ x, S ++ SN, Q.2, Q.1, V', n', m + MN, c2, A2, th ++ ti, rfl, rfl, rfl, HC2, HP2, f1, by omega, by rw [List.length_append]; omega, by omega, by omega, hI5, hJ5, hdj4, hTT5, hB5⟩, by simp [RowKit.intOf]; omega⟩
    ·obtain rfl : i = n := by omega
     go_wp2_with (with_reducible refine h_A ?_)
     go_meet
     exact ⟨C, S, b, M, Vx, nx, m, tc, TT, th, rfl, rfl, rfl, HC, HP, hM, hbl, hSl, hm, hnx, hI, hJ, hdj, hTT, hB⟩
  case rest =>
   as_aux_lemma =>
   clear hI12 hI2 hdj hB02
   obtain ⟨C, S, b, M, Vx, nx, m, tc, TT, th, rfl, rfl, rfl, HC, HP, hM, hbl, hSl, hm, hnx, hI, hJ, hdj, hTT, hB⟩ := hcut
   have hT2 := Zo L n
   have hCl : C.length ≤ 20000 := by rw [HC.out, Zq]; omega
   have hfd := Qa (s := C) hB HT.out HE.out hJ KU (by simp; omega) (by omega)
   have hall := HP.out.all
   obtain ⟨Q, hQ⟩ : ∃ q, q = LS.feed ctlG LS0 [] C := ⟨_, rfl⟩
   rw [← hQ] at hfd hall
   have hsent : Q.1.sent = S := by rw [hall]; simp [LS.lead, LS.core]
   have htold : Q.1.told = th.map (·.a) := by rw [hall]; simp [LS.lead, LS.core]
   have hst : Q.1.st = M.st := by rw [hall]; rfl
   have hml := vU taShape hTT.row
   have htl : Q.1.told.length = m := by rw [htold, List.length_map, hml]
   have z1 := zj C
   have z3 := zj S
   have HTD := Lib.hid htold
   have HTL := Lib.hid htl
   have HSE := Lib.hid hsent
   have HST := Lib.hid hst
   clear hQ hall hT2 HP HC hsent htold hst htl hml
   go_wp2_with (with_reducible refine h_A ?_)
   refine hfd.mono ?_
   rintro e w4 ⟨n', hn', V', TU, tu, ti, rfl, hI4, hK4, hV4, htd, hOT, hTU, hti⟩
   rw [HSE.out, HTL.out]
   rw [HTL.out] at hOT
   rw [HTD.out] at htd
   have hVyl := hJ.v
   have hIx := hI.keep hK4 (fun k hk e => hdj k hk e)
   have hT4 : LpT w4 w.heap.size (fun k => Vx k ∨ Vy k) TT m tc th := hTT.keep hK4 (fun k hk => .inr hk) (fun k hk => .inl hk)
   have hB4 := hB.trans (hK4.toBelow hB.size (fun k hk => (hVyl k hk).1))
   have hsm := YM ti th TU m tu TT m tc w4 hOT.rd hT4.row.rd (fun x hx => (hti x hx).1.rd) (fun x hx => (hT4.el x hx).1.rd) htd.symm (by omega)
   have hcx : ∀ W, Below w4.heap.size w4 W → Calls Tryz.prog 15 #[.pointer (some ⟨xb, 0, none⟩)] W fun e w' => e = .returned (.int .u8 (M.st : Int)) ∧ W = w' := fun W hW => by
    obtain ⟨gp, _, _, _, _, _, _, _, hb1, _⟩ := hIx.ex
    exact xi xb M.st gp W ((hb1.below hW).cell (j := 0) rfl) ((hb1.below hW).cell (j := 2) rfl)
   have hcy : ∀ W, Below w4.heap.size w4 W → Calls Tryz.prog 15 #[.pointer (some ⟨yb, 0, none⟩)] W fun e w' => e = .returned (.int .u8 (M.st : Int)) ∧ W = w' := fun W hW => by
    obtain ⟨gp, _, _, _, _, _, _, _, hb1, _⟩ := hI4.ex
    have := xi yb Q.1.st gp W ((hb1.below hW).cell (j := 0) rfl) ((hb1.below hW).cell (j := 2) rfl)
    rw [HST.out] at this
    exact this
   have HCX := Lib.hid hcx
   have HCY := Lib.hid hcy
   clear hcx hcy hfd hI hJ hdj hTT hB hI4 hK4 hV4 htd hOT hTU hti hVyl hIx hT4 hM hbl hSl hm hnx
   go_wp2_with (with_reducible refine h_A ?_)
   refine hsm.mono ?_
   rintro e w5 ⟨rfl, hB5⟩
   clear hsm
   go_wp2_with (with_reducible refine h_A ?_)
   refine (HCX.out w5 hB5).mono ?_
   rintro e w' ⟨rfl, rfl⟩
   go_wp2_with (with_reducible refine h_A ?_)
   refine (HCY.out w5 hB5).mono ?_
   rintro e w' ⟨rfl, rfl⟩
   have hB05 := hB4.trans (hB5.mono hB4.size)
   have hh := vN w5 (HE.out.on hB05)
   go_wp2_with (with_reducible refine h_A ?_)
   refine hh.mono ?_
   rintro e w6 ⟨rfl, hB6⟩
   go_wp2_with (with_reducible refine h_A ?_)
   go_ret
   exact ⟨rfl, hB05.trans (hB6.mono hB05.size)⟩
 ·have hh := vN w HE.out
  go_wp2_with (with_reducible refine h_A ?_)
  refine hh.mono ?_
  rintro e w3 ⟨rfl, hB3⟩
  go_wp2_with (with_reducible refine h_A ?_)
  go_ret
  exact ⟨rfl, hB3⟩
end Go.PH
end

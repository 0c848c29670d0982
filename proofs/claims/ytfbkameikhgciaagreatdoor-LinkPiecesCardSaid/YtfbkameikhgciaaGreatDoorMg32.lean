/- Texts laid together: MdOneMath, MdGetMath, MdGetMath2, MdSameM, MdSameR, MdSameMR, MdSmall, MdCopy, MdTake, MdOctets. -/
import Derived.Test.YtfbkameikhgciaaGreatDoorMg01
import Derived.Test.YtfbkameikhgciaaGreatDoorMg02
import Derived.Test.YtfbkameikhgciaaGreatDoorMg06
import Derived.Test.YtfbkameikhgciaaGreatDoorMg12
import Derived.Test.YtfbkameikhgciaaGreatDoorMg13
import Derived.Test.YtfbkameikhgciaaGreatDoorMg15
import Derived.Test.YtfbkameikhgciaaGreatDoorMg16
import Derived.Test.YtfbkameikhgciaaGreatDoorMg19
import Derived.Test.YtfbkameikhgciaaGreatDoorMg28
import Derived.Test.YtfbkameikhgciaaGreatDoorMg29
import Derived.Test.YtfbkameikhgciaaGreatDoorMg31
set_option linter.all false
set_option linter.unusedSimpArgs false
set_option linter.unusedVariables false
set_option maxRecDepth 20000
set_option maxHeartbeats 8000000
section
namespace Go.PH
theorem ve : ∀ (l l' : List Sp) (R S : List UInt8), l.length = l'.length → spOK 4294967296 l → spOK 4294967296 l' → zQ l ++ R = zQ l' ++ S → l = l' ∧ R = S
 | [], [], R, S, _, _, _, h => ⟨rfl, h⟩
 | [], _ :: _, _, _, hl, _, _, _ => by simp at hl
 | _ :: _, [], _, _, hl, _, _, _ => by simp at hl
 | a :: l, b :: l', R, S, hl, h1, h2, h => by
  have e1 : zQ (a :: l) = be 4 a.1 ++ be 4 a.2 ++ zQ l := rfl
  have e2 : zQ (b :: l') = be 4 b.1 ++ be 4 b.2 ++ zQ l' := rfl
  rw [e1, e2] at h
  simp only [List.append_assoc] at h
  have ha := h1 a (List.mem_cons_self ..)
  have hb := h2 b (List.mem_cons_self ..)
  obtain ⟨p1, h⟩ := jb (i := 4) ha.1 hb.1 h
  obtain ⟨p2, h⟩ := jb (i := 4) ha.2 hb.2 h
  obtain ⟨p3, p4⟩ := ve l l' R S (by simpa using hl) (fun x hx => h1 x (List.mem_cons_of_mem _ hx)) (fun x hx => h2 x (List.mem_cons_of_mem _ hx)) h
  exact ⟨by rw [p3, show a = b from Prod.ext p1 p2], p4⟩
theorem JD {l l' : List Sp} {R S : List UInt8} (e : yd l = 0) (e' : yd l' = 0) (h1 : spOK 4294967296 l) (h2 : spOK 4294967296 l') (h : yQ l ++ R = yQ l' ++ S) : l = l' ∧ R = S := by
 have g : ∀ {m : List Sp}, yd m = 0 → yQ m = be 2 (8 * m.length) ++ zQ m ∧ m.length ≤ 1000 := by
  intro m hm
  unfold yd at hm
  split at hm
  ·rename_i hr
   split at hm
   ·rename_i hl
    exact ⟨by unfold yQ; rw [if_pos ⟨hr, hl⟩], hl⟩
   ·omega
  ·omega
 obtain ⟨g1, g2⟩ := g e
 obtain ⟨g3, g4⟩ := g e'
 rw [g1, g3, List.append_assoc, List.append_assoc] at h
 obtain ⟨p1, h⟩ := jb (i := 2) (by omega) (by omega) h
 exact ve l l' R S (by omega) h1 h2 h
theorem JE {x y : Xd} {R S : List UInt8} (hx : x.fmt < 4294967296) (hy : y.fmt < 4294967296) (kx : x.err = 0) (ky : y.err = 0) (h : x.put ++ R = y.put ++ S) : x = y ∧ R = S := by
 have g : ∀ {z : Xd}, z.err = 0 → z.ok = true := by
  intro z hz
  unfold Xd.err at hz
  split at hz
  ·rename_i h; exact h
  ·omega
 have ox := g kx
 have oy := g ky
 rw [Xd.put_ok ox, Xd.put_ok oy] at h
 have h1 := jP hx ox R
 have h2 := jP hy oy S
 rw [h, h2] at h1
 simp only [Prod.mk.injEq] at h1
 exact ⟨h1.1.symm, h1.2.1.symm⟩
structure AB (a : Ag) : Prop where
 n : a.n < 18446744073709551616
 x : a.x.fmt < 4294967296
 q : spOK 4294967296 a.q
 v : VB a.v
theorem RA.ab {w : World} {F : Nat → Prop} {a : Ag} {h : AH} (ha : RA w F a h) : AB a := ⟨ha.n, ha.x.1, ha.ok, ha.v.vb⟩
theorem vf {s : List UInt8} {i : Nat} (hi : i = 1 ∨ i = 2) (h : zw s.length (i : Int) = 0) : s.length < 256 ^ i ∧ zF [] s (i : Int) = be i s.length ++ s := by
 refine ⟨?_, by rw [yp h]; simp⟩
 unfold zw at h
 rcases hi with rfl | rfl <;> simp at h <;> exact h
theorem VZ {kd : UInt8} (hk : kd ∈ jO) {a b : Ag} {R S : List UInt8} (ba : AB a) (bb : AB b) (ha : okA kd a = true) (hb : okA kd b = true) (his : a.is = b.is) (h : byA kd a ++ R = byA kd b ++ S) : a = b ∧ R = S := by
 unfold jO at hk
 simp only [List.mem_cons, List.not_mem_nil, or_false] at hk
 rcases hk with rfl | rfl | rfl | rfl | rfl | rfl | rfl | rfl | rfl
 ·have ea := (zJ _ _).1 (show zI a (ag0 a.is) = true from ha)
  have eb := (zJ _ _).1 (show zI b (ag0 b.is) = true from hb)
  exact ⟨by rw [ea, eb, his], h⟩
 ·obtain ⟨na, ea⟩ := Bool.and_eq_true _ _ ▸ (show (decide (a.n < 256) && zI a (agN a)) = true from ha)
  obtain ⟨nb, eb⟩ := Bool.and_eq_true _ _ ▸ (show (decide (b.n < 256) && zI b (agN b)) = true from hb)
  obtain ⟨e, h2⟩ := jb (i := 1) (by simpa using na) (by simpa using nb) (show be 1 a.n ++ R = be 1 b.n ++ S from h)
  exact ⟨by rw [(zJ _ _).1 ea, (zJ _ _).1 eb]; unfold agN; simp [e], h2⟩
 ·obtain ⟨na, ea⟩ := Bool.and_eq_true _ _ ▸ (show (decide (a.n < 65536) && zI a (agN a)) = true from ha)
  obtain ⟨nb, eb⟩ := Bool.and_eq_true _ _ ▸ (show (decide (b.n < 65536) && zI b (agN b)) = true from hb)
  obtain ⟨e, h2⟩ := jb (i := 2) (by simpa using na) (by simpa using nb) (show be 2 a.n ++ R = be 2 b.n ++ S from h)
  exact ⟨by rw [(zJ _ _).1 ea, (zJ _ _).1 eb]; unfold agN; simp [e], h2⟩
 ·obtain ⟨na, ea⟩ := Bool.and_eq_true _ _ ▸ (show (decide (a.n < 4294967296) && zI a (agN a)) = true from ha)
  obtain ⟨nb, eb⟩ := Bool.and_eq_true _ _ ▸ (show (decide (b.n < 4294967296) && zI b (agN b)) = true from hb)
  obtain ⟨e, h2⟩ := jb (i := 4) (by simpa using na) (by simpa using nb) (show be 4 a.n ++ R = be 4 b.n ++ S from h)
  exact ⟨by rw [(zJ _ _).1 ea, (zJ _ _).1 eb]; unfold agN; simp [e], h2⟩
 ·obtain ⟨na, ea⟩ := Bool.and_eq_true _ _ ▸ (show (decide (zw a.s.length 1 = 0) && zI a (agS a)) = true from ha)
  obtain ⟨nb, eb⟩ := Bool.and_eq_true _ _ ▸ (show (decide (zw b.s.length 1 = 0) && zI b (agS b)) = true from hb)
  obtain ⟨l1, t1⟩ := vf (i := 1) (Or.inl rfl) (of_decide_eq_true na)
  obtain ⟨l2, t2⟩ := vf (i := 1) (Or.inl rfl) (of_decide_eq_true nb)
  have h' : zF [] a.s ((1 : Nat) : Int) ++ R = zF [] b.s ((1 : Nat) : Int) ++ S := h
  rw [t1, t2] at h'
  obtain ⟨e, h2⟩ := kf l1 l2 h'
  exact ⟨by rw [(zJ _ _).1 ea, (zJ _ _).1 eb]; unfold agS; simp [e], h2⟩
 ·obtain ⟨na, ea⟩ := Bool.and_eq_true _ _ ▸ (show (decide (zw a.s.length 2 = 0) && zI a (agS a)) = true from ha)
  obtain ⟨nb, eb⟩ := Bool.and_eq_true _ _ ▸ (show (decide (zw b.s.length 2 = 0) && zI b (agS b)) = true from hb)
  obtain ⟨l1, t1⟩ := vf (i := 2) (Or.inr rfl) (of_decide_eq_true na)
  obtain ⟨l2, t2⟩ := vf (i := 2) (Or.inr rfl) (of_decide_eq_true nb)
  have h' : zF [] a.s ((2 : Nat) : Int) ++ R = zF [] b.s ((2 : Nat) : Int) ++ S := h
  rw [t1, t2] at h'
  obtain ⟨e, h2⟩ := kf l1 l2 h'
  exact ⟨by rw [(zJ _ _).1 ea, (zJ _ _).1 eb]; unfold agS; simp [e], h2⟩
 ·obtain ⟨na, ea⟩ := Bool.and_eq_true _ _ ▸ (show (decide (((a.x.err : Nat) : Int) = 0) && zI a (agX a)) = true from ha)
  obtain ⟨nb, eb⟩ := Bool.and_eq_true _ _ ▸ (show (decide (((b.x.err : Nat) : Int) = 0) && zI b (agX b)) = true from hb)
  obtain ⟨e, h2⟩ := JE ba.x bb.x (by have := of_decide_eq_true na; omega) (by have := of_decide_eq_true nb; omega) (show a.x.put ++ R = b.x.put ++ S from h)
  exact ⟨by rw [(zJ _ _).1 ea, (zJ _ _).1 eb]; unfold agX; simp [e], h2⟩
 ·obtain ⟨na, ea⟩ := Bool.and_eq_true _ _ ▸ (show (decide (((yd a.q : Nat) : Int) = 0) && zI a (agQ a)) = true from ha)
  obtain ⟨nb, eb⟩ := Bool.and_eq_true _ _ ▸ (show (decide (((yd b.q : Nat) : Int) = 0) && zI b (agQ b)) = true from hb)
  obtain ⟨e, h2⟩ := JD (by have := of_decide_eq_true na; omega) (by have := of_decide_eq_true nb; omega) ba.q bb.q (show yQ a.q ++ R = yQ b.q ++ S from h)
  exact ⟨by rw [(zJ _ _).1 ea, (zJ _ _).1 eb]; unfold agQ; simp [e], h2⟩
 ·obtain ⟨na, ea⟩ := Bool.and_eq_true _ _ ▸ (show (decide (errV a.v = 0) && zI a (agX2 a)) = true from ha)
  obtain ⟨nb, eb⟩ := Bool.and_eq_true _ _ ▸ (show (decide (errV b.v = 0) && zI b (agX2 b)) = true from hb)
  have na' := of_decide_eq_true na
  have nb' := of_decide_eq_true nb
  have h' : vlP a.v ++ R = vlP b.v ++ S := h
  unfold vlP at h'
  rw [if_pos na', if_pos nb'] at h'
  obtain ⟨c1, m1⟩ := kR na'
  obtain ⟨c2, m2⟩ := kR nb'
  obtain ⟨e, h2⟩ := VV a.v m1 ba.v ⟨200, Int.le_refl _, c1⟩ b.v R S m2 bb.v ⟨200, Int.le_refl _, c2⟩ h'
  exact ⟨by rw [(zJ _ _).1 ea, (zJ _ _).1 eb]; unfold agX2; simp [e], h2⟩
theorem Yf : ∀ (l l' : List Ag), l.length = l'.length → zy (l.map toSA) = zy (l'.map toSA) → ∀ i (h : i < l.length) (h' : i < l'.length), l[i].is = l'[i].is
 | [], [], _, _, i, h, _ => by simp at h
 | [], _ :: _, hl, _, _, _, _ => by simp at hl
 | _ :: _, [], hl, _, _, _, _ => by simp at hl
 | a :: l, b :: l', hl, h, i, hi, hi' => by
  simp only [List.map_cons, zy] at h
  have e1 : (toSA a).is = a.is := rfl
  have e2 : (toSA b).is = b.is := rfl
  rw [e1, e2] at h
  have hh : a.is = b.is ∧ zy (l.map toSA) = zy (l'.map toSA) := by
   cases ha : a.is <;> cases hb : b.is <;> rw [ha, hb] at h <;> simp at h <;> first | exact ⟨rfl, by omega⟩ | (exfalso; omega)
  cases i with
  | zero => exact hh.1
  | succ i => exact Yf l l' (by simpa using hl) hh.2 i (by simpa using hi) (by simpa using hi')
theorem KO (kd : List UInt8) (hk : ∀ x ∈ kd, x ∈ jO) : ∀ (n i : Nat) (l l' : List Ag) (R S : List UInt8), l.length = kd.length → l'.length = kd.length → n + i = kd.length → (∀ a ∈ l, AB a) → (∀ a ∈ l', AB a) →
  (∀ j (h : j < l.length) (h' : j < l'.length), l[j].is = l'[j].is) → (∀ j (h : j < kd.length) (h1 : j < l.length) (h2 : j < l'.length), okA kd[j] l[j] = true ∧ okA kd[j] l'[j] = true) →
  ((List.range' i n).flatMap (fun j => match kd[j]?, l[j]? with | some k, some a => byA k a | _, _ => [])) ++ R = ((List.range' i n).flatMap (fun j => match kd[j]?, l'[j]? with | some k, some a => byA k a | _, _ => [])) ++ S → l.drop i = l'.drop i ∧ R = S := by
 intro n
 induction n with
 | zero =>
  intro i l l' R S h1 h2 h3 _ _ _ _ h
  refine ⟨by rw [List.drop_eq_nil_of_le (by omega), List.drop_eq_nil_of_le (by omega)], by simpa using h⟩
 | succ n ih =>
  intro i l l' R S h1 h2 h3 b1 b2 his hok h
  rw [List.range'_succ, List.flatMap_cons, List.flatMap_cons, List.append_assoc, List.append_assoc] at h
  have g0 : i < kd.length := by omega
  have g1 : i < l.length := by omega
  have g2 : i < l'.length := by omega
  rw [List.getElem?_eq_getElem g0, List.getElem?_eq_getElem g1, List.getElem?_eq_getElem g2] at h
  simp only at h
  obtain ⟨e, h⟩ := VZ (hk _ (List.getElem_mem g0)) (b1 _ (List.getElem_mem g1)) (b2 _ (List.getElem_mem g2)) (hok i g0 g1 g2).1 (hok i g0 g1 g2).2 (his i g1 g2) h
  obtain ⟨e2, h4⟩ := ih (i + 1) l l' R S h1 h2 (by omega) b1 b2 his hok h
  exact ⟨by rw [List.drop_eq_getElem_cons g1, List.drop_eq_getElem_cons g2, e, e2], h4⟩
theorem KQ {a b : Mt} (ha : xC a = true) (hb : xC b = true) (ba : a.cls < 256 ∧ a.code < 256 ∧ ∀ x ∈ a.args, AB x) (bb : b.cls < 256 ∧ b.code < 256 ∧ ∀ x ∈ b.args, AB x) (h : putM a = putM b) : a = b := by
 unfold putM at h
 rw [if_pos ha, if_pos hb] at h
 unfold xC Zm at ha hb
 simp only [Bool.and_eq_true, decide_eq_true_eq, List.all_eq_true, List.mem_range] at ha hb
 obtain ⟨⟨⟨_, la⟩, sa⟩, oa⟩ := ha
 obtain ⟨⟨⟨_, lb⟩, sb⟩, ob⟩ := hb
 obtain ⟨a1, a2, a3⟩ := ba
 obtain ⟨b1, b2, b3⟩ := bb
 unfold qV at h
 simp only [List.append_assoc, List.cons_append, List.nil_append, List.cons.injEq] at h
 obtain ⟨c1, c2, h⟩ := h
 have d1 : a.cls = b.cls := by
  have := congrArg UInt8.toNat c1
  simp only [UInt8.toNat_ofNat'] at this
  omega
 have d2 : a.code = b.code := by
  have := congrArg UInt8.toNat c2
  simp only [UInt8.toNat_ofNat'] at this
  omega
 have hkd : xz a = xz b := by unfold xz; rw [d1, d2]
 have hk3 := (qe b.cls b.code).2
 have hko := (qe b.cls b.code).1
 have hf : a.sync = b.sync ∧ be 2 (zy (a.args.map toSA)) ++ (List.range a.args.length).flatMap (byI a) = be 2 (zy (b.args.map toSA)) ++ (List.range b.args.length).flatMap (byI b) := by
  rw [d1] at h sa
  by_cases hc : b.cls ≤ 2
  ·rw [if_pos hc, if_pos hc] at h
   rw [decide_eq_true hc] at sa sb
   simp at sa sb
   exact ⟨by rw [sa, sb], by simpa using h⟩
  ·rw [if_neg hc, if_neg hc] at h
   simp only [List.cons_append, List.nil_append, List.cons.injEq, true_and] at h
   refine ⟨?_, h.2⟩
   have := h.1
   cases hsa : a.sync <;> cases hsb : b.sync <;> rw [hsa, hsb] at this <;> first | rfl | (exact absurd this (by decide))
 obtain ⟨d3, h⟩ := hf
 have ll : a.args.length = b.args.length := by rw [la, lb, hkd]
 have f1 := xP (a.args.map toSA)
 have f2 := xP (b.args.map toSA)
 rw [List.length_map] at f1 f2
 have hl3 : b.args.length ≤ 3 := by rw [lb]; exact hk3
 have p1 : (2 : Nat) ^ a.args.length ≤ 2 ^ 3 := Nat.pow_le_pow_right (by omega) (by omega)
 have p2 : (2 : Nat) ^ b.args.length ≤ 2 ^ 3 := Nat.pow_le_pow_right (by omega) hl3
 obtain ⟨e1, h⟩ := jb (i := 2) (by omega) (by omega) h
 have his := Yf a.args b.args ll e1
 rw [ll] at h
 have hb' : ∀ m : Mt, byI m = fun j => match (xz m)[j]?, m.args[j]? with | some k, some a => byA k a | _, _ => [] := fun m => by funext j; rfl
 rw [hb', hb', hkd, List.range_eq_range'] at h
 have := KO (xz b) hko b.args.length 0 a.args b.args [] [] (by rw [la, hkd]) lb (by rw [lb]; omega) a3 b3 his (fun j h0 h1 h2 => by
  have q1 := oa j h1
  have q2 := ob j h2
  unfold okI at q1 q2
  rw [hkd] at q1
  rw [List.getElem?_eq_getElem h0, List.getElem?_eq_getElem h1] at q1
  rw [List.getElem?_eq_getElem h0, List.getElem?_eq_getElem h2] at q2
  exact ⟨q1, q2⟩) (by rw [List.append_nil, List.append_nil]; exact h)
 have e5 : a.args = b.args := by simpa using this.1
 cases a; cases b
 simp only at d1 d2 d3 e5
 rw [d1, d2, d3, e5]
end Go.PH
end
section
namespace Go.PH
def mt0 : Mt := ⟨0, 0, false, []⟩
def MB (m : Mt) : Prop := m.cls < 256 ∧ m.code < 256 ∧ ∀ x ∈ m.args, AB x
def GetM (b : List UInt8) (m : Mt) (er : Int) : Prop :=
 (b.length < 2 ∧ er = 4 ∧ m = mt0) ∨
 (2 ≤ b.length ∧ zZ (b.getD 0 0).toNat (b.getD 1 0).toNat = none ∧ er = 80 ∧ m = mt0) ∨
 (2 ≤ b.length ∧ (zZ (b.getD 0 0).toNat (b.getD 1 0).toNat).isSome = true ∧ ((er = 0 ∧ MB m ∧ xC m = true ∧ putM m = b) ∨ (er = 5 ∧ m = mt0 ∧ ∀ m', xC m' = true → MB m' → putM m' ≠ b)))
theorem GetM.uniq {b : List UInt8} {m n : Mt} {e f : Int} (h : GetM b m e) (k : GetM b n f) : m = n ∧ e = f := by
 rcases h with ⟨h1, h2, h3⟩ | ⟨h1, h2, h3, h4⟩ | ⟨h1, h2, h3⟩
 ·rcases k with ⟨k1, k2, k3⟩ | ⟨k1, _⟩ | ⟨k1, _⟩
  ·exact ⟨by rw [h3, k3], by rw [h2, k2]⟩
  ·omega
  ·omega
 ·rcases k with ⟨k1, k2, k3⟩ | ⟨k1, k2, k3, k4⟩ | ⟨k1, k2, _⟩
  ·omega
  ·exact ⟨by rw [h4, k4], by rw [h3, k3]⟩
  ·rw [h2] at k2; cases k2
 ·rcases k with ⟨k1, k2, k3⟩ | ⟨k1, k2, k3, k4⟩ | ⟨k1, k2, k3⟩
  ·omega
  ·rw [k2] at h2; cases h2
  ·rcases h3 with ⟨e1, hb, hg, hp⟩ | ⟨e1, e2, hno⟩
   ·rcases k3 with ⟨f1, kb, kg, kp⟩ | ⟨f1, f2, kno⟩
    ·exact ⟨KQ hg kg hb kb (by rw [hp, kp]), by rw [e1, f1]⟩
    ·exact absurd hp (kno m hg hb)
   ·rcases k3 with ⟨f1, kb, kg, kp⟩ | ⟨f1, f2, kno⟩
    ·exact absurd kp (hno n kg kb)
    ·exact ⟨by rw [e2, f2], by rw [e1, f1]⟩
theorem vj {m : Mt} {b : List UInt8} (hg : xC m = true) (hb : MB m) (hp : putM m = b) :
  2 ≤ b.length ∧ (b.getD 0 0).toNat = m.cls ∧ (b.getD 1 0).toNat = m.code ∧ (zZ m.cls m.code).isSome = true ∧ m.args.length = (yg (zZ m.cls m.code)).length ∧
  (m.cls ≤ 2 → m.sync = false ∧ b.drop 2 = be 2 (zy (m.args.map toSA)) ++ (List.range m.args.length).flatMap (byI m)) ∧
  (¬ m.cls ≤ 2 → 4 ≤ b.length ∧ b.getD 3 0 = (if m.sync then 1 else 0) ∧ b.drop 4 = be 2 (zy (m.args.map toSA)) ++ (List.range m.args.length).flatMap (byI m)) := by
 have hf : Zm m = true := by
  unfold xC at hg
  rw [Bool.and_eq_true] at hg
  exact hg.1
 unfold Zm xz at hf
 simp only [Bool.and_eq_true, decide_eq_true_eq] at hf
 obtain ⟨⟨h1, h2⟩, h3⟩ := hf
 unfold putM at hp
 rw [if_pos hg] at hp
 unfold qV at hp
 have hc : (UInt8.ofNat m.cls).toNat = m.cls := by rw [UInt8.toNat_ofNat']; exact Nat.mod_eq_of_lt hb.1
 have hd : (UInt8.ofNat m.code).toNat = m.code := by rw [UInt8.toNat_ofNat']; exact Nat.mod_eq_of_lt hb.2.1
 generalize (List.range m.args.length).flatMap (byI m) = Y at *
 generalize be 2 (zy (m.args.map toSA)) = X at *
 subst hp
 refine ⟨by simp, by simpa using hc, by simpa using hd, h1, h2, fun h => ?_, fun h => ?_⟩
 ·refine ⟨?_, by rw [if_pos h]; simp⟩
  cases hs : m.sync
  ·rfl
  ·rw [hs] at h3; simp [h] at h3
 ·rw [if_neg h]
  exact ⟨by simp, by simp, by simp⟩
theorem vM : ∀ (l : List SA) (i : Nat) (hi : i < l.length), zy l / 2 ^ i % 2 = if l[i].is then 1 else 0
 | [], i, hi => by simp at hi
 | a :: l, 0, hi => by
  rw [zy, Nat.pow_zero, Nat.div_one]
  simp only [List.getElem_cons_zero]
  split <;> omega
 | a :: l, i + 1, hi => by
  rw [zy, Nat.pow_succ, Nat.mul_comm (2 ^ i) 2, ← Nat.div_div_eq_div_mul]
  have e : ((if a.is = true then 1 else 0) + 2 * zy l) / 2 = zy l := by split <;> omega
  rw [e]
  simp only [List.getElem_cons_succ]
  exact vM l i (by simpa using hi)
theorem JF {n i : Nat} (f : Nat → List UInt8) (hi : i < n) : ((List.range n).drop i).flatMap f = f i ++ ((List.range n).drop (i + 1)).flatMap f := by
 rw [List.drop_eq_getElem_cons (by simpa using hi), List.flatMap_cons, List.getElem_range]
theorem zav {m : Mt} (hg : xC m = true) {i : Nat} (hi : i < m.args.length) (h' : i < (yg (zZ m.cls m.code)).length) : okA (yg (zZ m.cls m.code))[i] m.args[i] = true ∧ byI m i = byA (yg (zZ m.cls m.code))[i] m.args[i] := by
 unfold xC at hg
 rw [Bool.and_eq_true] at hg
 have h1 := List.all_eq_true.1 hg.2 i (List.mem_range.2 hi)
 unfold okI xz at h1
 rw [List.getElem?_eq_getElem h', List.getElem?_eq_getElem hi] at h1
 refine ⟨h1, ?_⟩
 unfold byI xz
 rw [List.getElem?_eq_getElem h', List.getElem?_eq_getElem hi]
end Go.PH
end
section
namespace Go.PH
def atM (x : Nat) : Nat := if x ≤ 2 then 2 else 4
def vg (x : Nat) (b : List UInt8) : Bool := !decide (x ≤ 2) && (b[3]? == some 1)
structure Told (b : List UInt8) (m : Mt) : Prop where
 good : xC m = true
 mb : MB m
 put : putM m = b
theorem X7 (l : List SA) (h : l.length ≤ 3) : zy l < 65536 := by
 have h1 := xP l
 have h2 : 2 ^ l.length ≤ 2 ^ 3 := Nat.pow_le_pow_right (by omega) h
 omega
theorem vi {b : List UInt8} {m : Mt} (h : Told b m) : m.args.length = (yg (zZ m.cls m.code)).length ∧ m.args.length ≤ 3 := by
 obtain ⟨_, _, _, _, h5, _, _⟩ := vj h.good h.mb h.put
 exact ⟨h5, by rw [h5]; exact (qe _ _).2⟩
theorem qL {x y : UInt8} {r b : List UInt8} (hb : b = x :: y :: r) {m : Mt} (h : Told b m) : m.cls = x.toNat ∧ m.code = y.toNat ∧ m.sync = vg x.toNat b ∧ atM x.toNat + 2 ≤ b.length ∧
  mnum (b.drop (atM x.toNat)) false 2 = (zy (m.args.map toSA), (List.range m.args.length).flatMap (byI m), false) := by
 obtain ⟨h1, h2, h3, h4, h5, h6, h7⟩ := vj h.good h.mb h.put
 have e1 : m.cls = x.toNat := by rw [← h2, hb]; rfl
 have e2 : m.code = y.toNat := by rw [← h3, hb]; rfl
 have hfl : zy (m.args.map toSA) < 65536 := X7 _ (by rw [List.length_map]; exact (vi h).2)
 have hnum : ∀ Y, mnum (be 2 (zy (m.args.map toSA)) ++ Y) false 2 = (zy (m.args.map toSA), Y, false) := fun Y => qg 2 (.inr (.inl rfl)) _ (by omega) Y
 by_cases hc : m.cls ≤ 2
 ·obtain ⟨a1, a2⟩ := h6 hc
  have hat : atM x.toNat = 2 := by unfold atM; rw [if_pos (by omega)]
  have hl := congrArg List.length a2
  simp only [List.length_drop, List.length_append, zn] at hl
  refine ⟨e1, e2, ?_, by rw [hat]; omega, ?_⟩
  ·rw [a1]; unfold vg; rw [decide_eq_true (by omega)]; rfl
  ·rw [hat, a2, hnum]
 ·obtain ⟨a0, a1, a2⟩ := h7 hc
  have hat : atM x.toNat = 4 := by unfold atM; rw [if_neg (by omega)]
  have hl := congrArg List.length a2
  simp only [List.length_drop, List.length_append, zn] at hl
  refine ⟨e1, e2, ?_, by rw [hat]; omega, ?_⟩
  ·unfold vg
   rw [decide_eq_false (by omega)]
   have h3 : b[3]? = some (b.getD 3 0) := by
    rw [List.getD_eq_getElem?_getD, List.getElem?_eq_getElem (by omega)]; rfl
   rw [h3, a1]
   cases m.sync <;> rfl
  ·rw [hat, a2, hnum]
def ReadTo (b : List UInt8) (i : Nat) (gs : List Ag) (l : List UInt8) (bad : Bool) : Prop := ∀ m, Told b m → gs = m.args.take i ∧ l = ((List.range m.args.length).drop i).flatMap (byI m) ∧ bad = false
theorem ReadTo.start {x y : UInt8} {r b : List UInt8} (hb : b = x :: y :: r) {l : List UInt8} {fl : Nat} {bad : Bool} (h : mnum (b.drop (atM x.toNat)) false 2 = (fl, l, bad)) : ReadTo b 0 [] l false := fun m hm => by
 obtain ⟨_, _, _, _, h5⟩ := qL hb hm
 rw [h] at h5
 injection h5 with h5 h6
 injection h6 with h6 h7
 exact ⟨by simp, by rw [h6]; simp, rfl⟩
theorem ReadTo.step {x y : UInt8} {r b : List UInt8} (hb : b = x :: y :: r) {kd : List UInt8} (hk : kd = yg (zZ x.toNat y.toNat)) {i : Nat} {gs : List Ag} {l l' : List UInt8} {bad bad' : Bool} {a : Ag} {is : Bool} (h : ReadTo b i gs l bad) (hi : i < kd.length)
  (his : ∀ m, Told b m → ∀ (h : i < m.args.length), m.args[i].is = is)
  (ha : ∀ (a' : Ag) (rest : List UInt8), bad = false → l = byA kd[i] a' ++ rest → okA kd[i] a' = true → AB a' → a'.is = is → a = a' ∧ l' = rest ∧ bad' = false) : ReadTo b (i + 1) (gs ++ [a]) l' bad' := fun m hm => by
 obtain ⟨h1, h2, h3⟩ := h m hm
 obtain ⟨e1, e2, _⟩ := qL hb hm
 have hl := (vi hm).1
 have hkl : yg (zZ m.cls m.code) = kd := by rw [hk, e1, e2]
 have hil : i < m.args.length := by rw [hl, hkl]; exact hi
 have hik : i < (yg (zZ m.cls m.code)).length := by rw [hkl]; exact hi
 obtain ⟨g1, g2⟩ := zav hm.good hil hik
 simp only [hkl] at g1 g2
 rw [JF _ (by simpa using hil), g2] at h2
 obtain ⟨q1, q2, q3⟩ := ha m.args[i] _ h3 h2 g1 (hm.mb.2.2 _ (List.getElem_mem hil)) (his m hm hil)
 exact ⟨by rw [List.take_succ_eq_append_getElem hil, h1, q1], q2, q3⟩
theorem ReadTo.all {x y : UInt8} {r b : List UInt8} (hb : b = x :: y :: r) {kd : List UInt8} (hk : kd = yg (zZ x.toNat y.toNat)) {gs : List Ag} {l : List UInt8} {bad : Bool} (h : ReadTo b kd.length gs l bad) {m : Mt} (hm : Told b m) : m = ⟨x.toNat, y.toNat, vg x.toNat b, gs⟩ ∧ bad = false := by
 obtain ⟨h1, h2, h3⟩ := h m hm
 obtain ⟨e1, e2, e3, _⟩ := qL hb hm
 have hl := (vi hm).1
 rw [e1, e2, ← hk] at hl
 rw [← hl, List.take_of_length_le (Nat.le_refl _)] at h1
 refine ⟨?_, h3⟩
 obtain ⟨c, d, s, g⟩ := m
 simp only at e1 e2 e3 h1
 rw [e1, e2, e3, h1]
theorem V2 {x y : UInt8} {r b : List UInt8} (hb : b = x :: y :: r) {l : List UInt8} {fl : Nat} {bad : Bool} (h : mnum (b.drop (atM x.toNat)) false 2 = (fl, l, bad)) {i : Nat} {m : Mt} (hm : Told b m) (hi : i < m.args.length) : m.args[i].is = decide (fl / 2 ^ i % 2 = 1) := by
 obtain ⟨_, _, _, _, h5⟩ := qL hb hm
 rw [h] at h5
 injection h5 with h5 _
 have h6 := vM (m.args.map toSA) i (by simpa using hi)
 rw [← h5] at h6
 rw [h6]
 have e : ((m.args.map toSA)[i]'(by simpa using hi)).is = m.args[i].is := by rw [List.getElem_map]; rfl
 rw [e]
 cases m.args[i].is <;> simp
end Go.PH
end
section
namespace Go.PH
open Go.RowKit Go.Proofs
theorem RM.len {w : World} {F : Nat → Prop} {m : Mt} {A : Option Addr} {c : Nat} (h : RM w F m A c) : m.args.length ≤ 140737488351232 := by
 exact h.c
end Go.PH
end
section
namespace Go.PH
open Go.RowKit Go.Proofs
end Go.PH
end
section
namespace Go.PH
open Go.RowKit Go.Proofs
end Go.PH
end
section
namespace Go.PH
open Go.RowKit Go.Proofs
end Go.PH
end
section
namespace Go.PH
open Go.RowKit Go.Proofs
theorem slAg : SlT Tryz.prog 82 80 12 176 (.agg #[.bool false, .int .u64 0, .string ⟨#[]⟩, .int .u32 0, .string ⟨#[]⟩, .string ⟨#[]⟩, .slice none 0 0, .int .u8 0, .int .u64 0, .string ⟨#[]⟩, .slice none 0 0, .slice none 0 0]) := SlT.mk' Tryz.underlying82 (by kernel_rfl) rfl (by omega)
structure MpS (wr : World) (base : Nat) (A : Option Addr) (c : Nat) (xs : List (Ag × AH)) : Prop where
 own : Own wr base 80 12 A xs.length c (rowC agC xs)
 el : ∀ p ∈ xs, RA wr (FB base A wr) p.1 p.2
theorem MpS.on {wr wr' : World} {base : Nat} {A : Option Addr} {c : Nat} {xs : List (Ag × AH)} (h : MpS wr base A c xs) (hk : ∀ g, base ≤ g → g < wr.heap.size → wr'.heap[g]? = wr.heap[g]?) (hs : wr.heap.size ≤ wr'.heap.size) : MpS wr' base A c xs := by
 have hF : ∀ g, FB base A wr g → FB base A wr' g := fun g hg => ⟨hg.1, Nat.lt_of_lt_of_le hg.2.1 hs, hg.2.2⟩
 refine ⟨?_, fun p hp => ((h.el p hp).keep (fun g hg => hk g hg.1 hg.2.1) hs).mono hF⟩
 have ho := h.own
 unfold Own World.ownsRow at ho ⊢
 obtain ⟨hl, h1⟩ := ho
 refine ⟨hl, h1.imp id ?_⟩
 rintro ⟨g, cap, cur, hv, hb, hh, hr⟩
 exact ⟨g, cap, cur, hv, hb, (hk g hb (Array.getElem?_eq_some_iff.1 hh).1).trans hh, hr⟩
theorem MpS.below {wr wr' : World} {base : Nat} {A : Option Addr} {c : Nat} {xs : List (Ag × AH)} (h : MpS wr base A c xs) (hB : Below wr.heap.size wr wr') : MpS wr' base A c xs := h.on (fun g _ hg => hB.block g hg) hB.size
theorem MpS.box {wr wr' : World} {base b : Nat} {A : Option Addr} {c : Nat} {xs : List (Ag × AH)} (h : MpS wr base A c xs) (hg : wr.grownBy wr' (some b)) (hb : b < base) : MpS wr' base A c xs :=
 h.on (fun g hg1 hg2 => hg.block g hg2 (fun e => by injection e with e; omega)) hg.size
theorem MpS.push {w5 w6 : World} {base : Nat} {A A2 : Option Addr} {c c2 : Nat} {xs : List (Ag × AH)} {x : Ag} {hx : AH} (h : MpS w5 base A c xs) (hv : RA w5 (FB base A w5) x hx)
  (ho : Own w6 base 80 12 A2 (xs.length + 1) c2 (rowC agC (xs ++ [(x, hx)]))) (hg : w5.grownBy w6 (blk A)) (hA : blk A2 = blk A ∨ ∀ g, blk A2 = some g → w5.heap.size ≤ g) : MpS w6 base A2 c2 (xs ++ [(x, hx)]) := by
 have hF : ∀ g, FB base A w5 g → FB base A2 w6 g := fun g hg1 => ⟨hg1.1, Nat.lt_of_lt_of_le hg1.2.1 hg.size, by
  rcases hA with e | e
  ·rw [e]; exact hg1.2.2
  ·intro e2; have := e g e2; have := hg1.2.1; omega⟩
 have hk : ∀ g, FB base A w5 g → w6.heap[g]? = w5.heap[g]? := fun g hg1 => hg.block g hg1.2.1 (fun e => hg1.2.2 e.symm)
 refine ⟨by rw [List.length_append]; exact ho, fun p hp => ?_⟩
 rcases List.mem_append.1 hp with hp | hp
 ·exact ((h.el p hp).keep hk hg.size).mono hF
 ·obtain rfl := List.mem_singleton.1 hp
  exact (hv.keep hk hg.size).mono hF
end Go.PH
end
section
namespace Go.PH
open Go.RowKit Go.Proofs
def MRd (w : World) (B rb : Nat) (l : List UInt8) (bad : Bool) : Prop := ∃ A n c, Box w rb 194 #[.slice A n c, .bool bad] ∧ RdB w B A n c l ∧ n ≤ 140737488351232
theorem MRd.kp {w w' : World} {B rb x y : Nat} {l : List UInt8} {bad : Bool} (h : MRd w B rb l bad) (hK : KP B x y w w') (h1 : rb ≠ x) (h2 : rb ≠ y) : MRd w' B rb l bad := by
 obtain ⟨A, n, c, hb, hr, hn⟩ := h
 exact ⟨A, n, c, hK.box hb h1 h2, hr.below hK.1, hn⟩
theorem kZ {w : World} {B rb : Nat} {l : List UInt8} {bad : Bool} (h : MRd w B rb l bad) (hB : B ≤ rb) (k e : Int) (hb : bad = true ∨ e ≠ 0) :
  Calls Tryz.prog 160 #[.pointer (some ⟨rb, 0, none⟩), .int .i64 k, .int .i64 e] w fun e' w' => e' = .returned (.tuple #[]) ∧ MRd w' B rb l true ∧ w.grownBy w' (some rb) := by
 obtain ⟨A, n, c, hbx, hr, hn⟩ := h
 have c1 := hbx.c1
 have hbw := hbx.lt
 cases bad
 ·have ge : (e != 0) = true := by simpa using hb
  go_enter Tryz.func160, Tryz.ntmps160
  go_wp2_with (with_reducible refine h_B ?_)
  refine zc (zm (v := .bool true) (vs := [.bool true]) rfl rfl rfl rfl hbx rfl (by kernel_rfl) (by simp) (by simp; rfl) #[.slice A n c, .bool true] (by simp) ?_)
  intro w2 hb2 hg2 _
  have c1 := hb2.c1
  go_wp2_with (with_reducible refine h_A ?_)
  go_end0
  exact ⟨rfl, ⟨A, n, c, hb2, hr.grown hg2 (by omega) (fun g hg => by injection hg with hg; omega), hn⟩, hg2⟩
 ·clear hb
  go_enter Tryz.func160, Tryz.ntmps160
  go_wp2_with (with_reducible refine h_B ?_)
  refine zc (zm (v := .bool true) (vs := [.bool true]) rfl rfl rfl rfl hbx rfl (by kernel_rfl) (by simp) (by simp; rfl) #[.slice A n c, .bool true] (by simp) ?_)
  intro w2 hb2 hg2 _
  have c1 := hb2.c1
  go_wp2_with (with_reducible refine h_A ?_)
  go_end0
  exact ⟨rfl, ⟨A, n, c, hb2, hr.grown hg2 (by omega) (fun g hg => by injection hg with hg; omega), hn⟩, hg2⟩
theorem Xf {w : World} {B rb : Nat} {l : List UInt8} (h : MRd w B rb l false) (hB : B ≤ rb) (k : Nat) (hk : k ≤ l.length) :
  Calls Tryz.prog 160 #[.pointer (some ⟨rb, 0, none⟩), .int .i64 (k : Int), .int .i64 0] w fun e' w' => e' = .returned (.tuple #[]) ∧ MRd w' B rb (l.drop k) false ∧ w.grownBy w' (some rb) := by
 obtain ⟨A, n, c, hbx, hr, hn⟩ := h
 have hln : l.length = n := RdB.length hr
 have c1 := hbx.c1
 have hbw := hbx.lt
 go_enter Tryz.func160, Tryz.ntmps160
 go_wp2_with (with_reducible refine h_B ?_)
 refine zc (zm (v := .bool false) (vs := [.bool false]) rfl rfl rfl rfl hbx rfl (by kernel_rfl) (by simp) (by simp; rfl) #[.slice A n c, .bool false] (by simp) ?_)
 intro w2 hb2 hg2 _
 have hr2 : RdB w2 B A n c l := hr.grown hg2 (by omega) (fun g hg => by injection hg with hg; omega)
 have c0 := hb2.c0
 have c1 := hb2.c1
 go_wp2_with (with_reducible refine h_S ?_)
 refine zc (kw slB rfl rfl rfl hr2 k n c (.inr ⟨_, _, rfl, rfl⟩) (.inl ⟨rfl, rfl⟩) (.inl ⟨rfl, rfl⟩) (by intro h; cases h) (by omega) (by have := hr2.cap; omega) (Nat.le_refl _) (Nat.le_refl _) ?_)
 intro A2 hr3 _
 have e3 : ((l.map u8v).take (n * 1)).drop (k * 1) = (l.drop k).map u8v := by rw [Nat.mul_one, Nat.mul_one, List.take_of_length_le (by simp; omega), List.map_drop]
 rw [e3] at hr3
 clear e3
 go_wp2_with (with_reducible refine h_B ?_)
 refine zc (zm (v := .slice A2 (n - k) (c - k)) (vs := [.slice A2 (n - k) (c - k)]) rfl rfl rfl rfl hb2 rfl (by kernel_rfl) (by simp) (by simp; rfl) #[.slice A2 (n - k) (c - k), .bool false] (by simp) ?_)
 intro w3 hb3 hg3 _
 go_wp2_with (with_reducible refine h_A ?_)
 go_end0
 have hg23 : w.grownBy w3 (some rb) := hg2.trans hg3
 refine ⟨rfl, ⟨A2, n - k, c - k, hb3, ?_, by omega⟩, hg23⟩
 have hr4 : RdB w2 B A2 (n - k) (c - k) (l.drop k) := hr3
 exact hr4.grown hg3 (by have := hb2.lt; omega) (fun g hg => by injection hg with hg; omega)
end Go.PH
end
section
namespace Go.PH
open Go.RowKit Go.Proofs
theorem KP.wide {B rb ab vb : Nat} {w W W' : World} (h : KP B rb ab w W) (k : KP B ab vb W W') (hv : w.heap.size ≤ vb) : KP B rb ab w W' :=
 ⟨h.1.trans k.1, fun g hg h1 h2 => (k.2 g (Nat.lt_of_lt_of_le hg h.size) h2 (by omega)).trans (h.2 g hg h1 h2)⟩
def OctR (w : World) (B rb ab : Nat) (l : List UInt8) (bad : Bool) (cells : Array Value) (e : Ending) (w' : World) : Prop := e = .returned (.tuple #[]) ∧ Box w' ab 80 cells ∧ MRd w' B rb l bad ∧ KP B rb ab w w'
theorem ql (Fn : FuncId) (cap : Array Value) (hcf : ∀ (args : Array Value) (w : World), (callFunc Fn args).run Tryz.prog w = .ok (.enter Fn args) w) {w : World} {B rb ab : Nat} {l : List UInt8} {bad : Bool} (h : MRd w B rb l bad) (hB : B ≤ rb) (cells cells' : Array Value) (ha : Box w ab 80 cells) (hab : B ≤ ab) (hne : ab ≠ rb) (l2 : List UInt8) (b2 : Bool) (hl2 : l2.length ≤ l.length)
  (hcl : ∀ (W : World) (o vb : Nat) (F : Nat → Prop), Below w.heap.size w W → Rdr F W (.pointer (some ⟨o, 0, none⟩)) (some vb) l false → (∀ g, F g → w.heap.size ≤ g ∧ g < W.heap.size) → Box W ab 80 cells →
   Calls Tryz.prog Fn (#[.pointer (some ⟨o, 0, none⟩)] ++ cap) W fun e W' => e = .returned (.tuple #[]) ∧ Rdr F W' (.pointer (some ⟨o, 0, none⟩)) (some vb) l2 b2 ∧ Box W' ab 80 cells' ∧ KP B ab vb W W') :
  Calls Tryz.prog 152 #[.pointer (some ⟨rb, 0, none⟩), .func (.func Fn) #[] cap] w (OctR w B rb ab (if (bad || b2) = true then l else l.drop (l.length - l2.length)) (bad || b2) cells') := by
 obtain ⟨lr, hlr⟩ : ∃ x, x = (if (bad || b2) = true then l else l.drop (l.length - l2.length)) := ⟨_, rfl⟩
 obtain ⟨br, hbr⟩ : ∃ x, x = (bad || b2) := ⟨_, rfl⟩
 rw [← hlr, ← hbr]
 have HLR := Lib.hid hlr
 have HBR := Lib.hid hbr
 clear hlr hbr
 obtain ⟨A, n, c, hbx, hr, hn⟩ := h
 have hln : l.length = n := RdB.length hr
 have hbw := hbx.lt
 have haw := ha.lt
 have hBw : B ≤ w.heap.size := by omega
 have hopen := xj A n c l w (jQ hr hBw) (by omega)
 have c0 := hbx.c0
 have HCL := Lib.hid hcl
 clear hcl
 go_enter Tryz.func152, Tryz.ntmps152
 go_wp2_with (with_reducible refine h_A ?_)
 refine hopen.mono ?_
 rintro e w2 ⟨o, vb, rfl, ho, hv, hrd, hB2⟩
 have ha2 := ha.below hB2
 have hb2 := hbx.below hB2
 have hr2 := hr.below (hB2.mono hBw)
 have hK2 := (KP.refl B rb ab w).below hBw hB2
 have hvw := hrd.inF rfl
 have hc2 := HCL.out w2 o vb _ hB2 hrd (fun g hg => hg) ha2
 clear hopen c0 HCL ha hbx hr
 go_wp2_with (with_reducible refine h_A ?_)
 refine hc2.mono ?_
 rintro e w3 ⟨rfl, hrd3, ha3, hK3⟩
 have hb3 := hK3.box hb2 (Ne.symm hne) (by omega)
 have hr3 := hr2.below hK3.1
 have hK := hK2.wide hK3 hv
 clear hc2 hb2 hr2 ha2 hK3 hK2
 have c1 := hb3.c1
 have hbl := hb3.lt
 go_upto_region 2 with fail
 cases bad
 ·have hbd := zY hrd3
  cases b2
  ·go_wp2_with (with_reducible refine h_B ?_)
   refine hbd.mono ?_
   rintro e w4 ⟨rfl, rfl⟩
   clear hbd
   go_wp2_with (with_reducible refine h_B ?_)
   refine zc (zm (v := .bool false) (vs := [.bool false]) rfl rfl rfl rfl hb3 rfl (by kernel_rfl) (by simp) (by simp; rfl) #[.slice A n c, .bool false] (by simp) ?_)
   intro w5 hb5 hg5 _
   have ha5 := ha3.grown hg5 (sne (by omega))
   have hr5 := hr3.grown hg5 (by omega) (fun g hg => by injection hg with hg; omega)
   have hrd5 := hrd3.kept hg5 (fun g hg hFg => by injection hg with hg; have := hFg.1; omega)
   have hK5 := hK.grown hBw hg5 (fun g hg => by injection hg with hg; exact ⟨by omega, .inl hg.symm⟩)
   clear hb3 ha3 hr3 hrd3 hK hg5 c1
   go_upto_region 3 with fail
   refine zD (fun _ : World => True) (by kernel_rfl) ?_
   replace hb5 : Box w5.drew rb 194 #[.slice A n c, .bool false] := hb5
   replace ha5 : Box w5.drew ab 80 cells' := ha5
   replace hr5 : RdB w5.drew B A n c l := hr5.drew
   replace hrd5 := hrd5.drew
   replace hK5 := hK5.drew
   have hsub : IntKind.i64.wrap ((n : Int) - (l2.length : Int)) = ((n - l2.length : Nat) : Int) := by rw [IntWalk.i64_in _ ⟨by omega, by omega⟩]; omega
   generalize w5.drew = wd at *
   refine rg_t 0 trivial ?_
   simp only [List.getElem_toArray, List.getElem_cons_zero, Act.put, List.setIfInBounds_toArray, List.set_cons_zero, List.set_cons_succ]
   refine rg_t 1 trivial ?_
   simp only [g_S, Act.put]
   refine rg_t 2 trivial ?_
   simp only [g_S, Act.put]
   refine rg_t 3 trivial ?_
   simp only [g_S, Act.put]
   refine rg_t 6 trivial ?_
   simp only [g_S, Act.put]
   have y0 := hb5.c0
   have hr6 : MRd wd B rb l false := ⟨A, n, c, hb5, hr5, hn⟩
   have hlf := yh hrd5
   have htk := Xf hr6 hB (n - l2.length) (by omega)
   refine xc 4 7 rfl rfl (by kernel_rfl) rfl rfl (fun K hK => ?_) (fun K hK => ?_)
   ·go_simp
    refine hK _ _ trivial ?_; clear hK K
    clear y0
    try simp only [g_S, Act.put]
    refine rg_t 5 trivial ?_
    simp only [g_S, Act.put]
    refine zi 7 rfl (by kernel_rfl) rfl (fun K hK => ?_)
    go_simp
    refine hlf.mono ?_
    rintro e w6 ⟨rfl, rfl⟩
    refine hK _ _ trivial ?_; clear hK K
    try simp only [g_S, Act.put]
    refine rg_t 8 trivial ?_
    simp only [g_S, Act.put]
    refine zi 9 rfl (by kernel_rfl) rfl (fun K hK => ?_)
    go_simp
    refine htk.mono ?_
    rintro e w7 ⟨rfl, hM7, hg7⟩
    have ha7 := ha5.grown hg7 (sne (by omega))
    have hK7 := hK5.grown hBw hg7 (fun g hg => by injection hg with hg; exact ⟨by omega, .inl hg.symm⟩)
    refine hK _ _ trivial ?_; clear hK K
    refine zK (by kernel_rfl) ?_
    go_wp2_with (with_reducible refine h_A ?_)
    go_end0
    rw [HLR.out, HBR.out]
    exact ⟨rfl, ha7, by simpa [hln] using hM7, hK7⟩
   ·go_simp
    refine hlf.mono ?_
    rintro e w6 ⟨rfl, rfl⟩
    refine hK _ _ trivial ?_; clear hK K
    try simp only [g_S, Act.put]
    refine zi 4 rfl (by kernel_rfl) rfl (fun K hK => ?_)
    go_simp
    refine hK _ _ trivial ?_; clear hK K
    clear y0
    try simp only [g_S, Act.put]
    refine rg_t 5 trivial ?_
    simp only [g_S, Act.put]
    refine rg_t 8 trivial ?_
    simp only [g_S, Act.put]
    refine zi 9 rfl (by kernel_rfl) rfl (fun K hK => ?_)
    go_simp
    refine htk.mono ?_
    rintro e w7 ⟨rfl, hM7, hg7⟩
    have ha7 := ha5.grown hg7 (sne (by omega))
    have hK7 := hK5.grown hBw hg7 (fun g hg => by injection hg with hg; exact ⟨by omega, .inl hg.symm⟩)
    refine hK _ _ trivial ?_; clear hK K
    refine zK (by kernel_rfl) ?_
    go_wp2_with (with_reducible refine h_A ?_)
    go_end0
    rw [HLR.out, HBR.out]
    exact ⟨rfl, ha7, by simpa [hln] using hM7, hK7⟩
  ·go_wp2_with (with_reducible refine h_B ?_)
   refine hbd.mono ?_
   rintro e w4 ⟨rfl, rfl⟩
   clear hbd
   go_wp2_with (with_reducible refine h_B ?_)
   refine zc (zm (v := .bool true) (vs := [.bool true]) rfl rfl rfl rfl hb3 rfl (by kernel_rfl) (by simp) (by simp; rfl) #[.slice A n c, .bool true] (by simp) ?_)
   intro w5 hb5 hg5 _
   have ha5 := ha3.grown hg5 (sne (by omega))
   have hr5 := hr3.grown hg5 (by omega) (fun g hg => by injection hg with hg; omega)
   have hrd5 := hrd3.kept hg5 (fun g hg hFg => by injection hg with hg; have := hFg.1; omega)
   have hK5 := hK.grown hBw hg5 (fun g hg => by injection hg with hg; exact ⟨by omega, .inl hg.symm⟩)
   clear hb3 ha3 hr3 hrd3 hK hg5 c1
   go_upto_region 3 with fail
   refine zD (fun _ : World => True) (by kernel_rfl) ?_
   replace hb5 : Box w5.drew rb 194 #[.slice A n c, .bool true] := hb5
   replace ha5 : Box w5.drew ab 80 cells' := ha5
   replace hr5 : RdB w5.drew B A n c l := hr5.drew
   replace hrd5 := hrd5.drew
   replace hK5 := hK5.drew
   have hsub : IntKind.i64.wrap ((n : Int) - (l2.length : Int)) = ((n - l2.length : Nat) : Int) := by rw [IntWalk.i64_in _ ⟨by omega, by omega⟩]; omega
   generalize w5.drew = wd at *
   refine rg_t 0 trivial ?_
   simp only [List.getElem_toArray, List.getElem_cons_zero, Act.put, List.setIfInBounds_toArray, List.set_cons_zero, List.set_cons_succ]
   refine rg_t 1 trivial ?_
   simp only [g_S, Act.put]
   refine rg_t 2 trivial ?_
   simp only [g_S, Act.put]
   refine rg_t 3 trivial ?_
   simp only [g_S, Act.put]
   refine rg_t 6 trivial ?_
   simp only [g_S, Act.put]
   have y0 := hb5.c0
   have hr6 : MRd wd B rb l true := ⟨A, n, c, hb5, hr5, hn⟩
   have hlf := yh hrd5
   have htk := kZ hr6 hB ((n - l2.length : Nat) : Int) 0 (.inl rfl)
   refine xc 4 7 rfl rfl (by kernel_rfl) rfl rfl (fun K hK => ?_) (fun K hK => ?_)
   ·go_simp
    refine hK _ _ trivial ?_; clear hK K
    clear y0
    try simp only [g_S, Act.put]
    refine rg_t 5 trivial ?_
    simp only [g_S, Act.put]
    refine zi 7 rfl (by kernel_rfl) rfl (fun K hK => ?_)
    go_simp
    refine hlf.mono ?_
    rintro e w6 ⟨rfl, rfl⟩
    refine hK _ _ trivial ?_; clear hK K
    try simp only [g_S, Act.put]
    refine rg_t 8 trivial ?_
    simp only [g_S, Act.put]
    refine zi 9 rfl (by kernel_rfl) rfl (fun K hK => ?_)
    go_simp
    refine htk.mono ?_
    rintro e w7 ⟨rfl, hM7, hg7⟩
    have ha7 := ha5.grown hg7 (sne (by omega))
    have hK7 := hK5.grown hBw hg7 (fun g hg => by injection hg with hg; exact ⟨by omega, .inl hg.symm⟩)
    refine hK _ _ trivial ?_; clear hK K
    refine zK (by kernel_rfl) ?_
    go_wp2_with (with_reducible refine h_A ?_)
    go_end0
    rw [HLR.out, HBR.out]
    exact ⟨rfl, ha7, by simpa [hln] using hM7, hK7⟩
   ·go_simp
    refine hlf.mono ?_
    rintro e w6 ⟨rfl, rfl⟩
    refine hK _ _ trivial ?_; clear hK K
    try simp only [g_S, Act.put]
    refine zi 4 rfl (by kernel_rfl) rfl (fun K hK => ?_)
    go_simp
    refine hK _ _ trivial ?_; clear hK K
    clear y0
    try simp only [g_S, Act.put]
    refine rg_t 5 trivial ?_
    simp only [g_S, Act.put]
    refine rg_t 8 trivial ?_
    simp only [g_S, Act.put]
    refine zi 9 rfl (by kernel_rfl) rfl (fun K hK => ?_)
    go_simp
    refine htk.mono ?_
    rintro e w7 ⟨rfl, hM7, hg7⟩
    have ha7 := ha5.grown hg7 (sne (by omega))
    have hK7 := hK5.grown hBw hg7 (fun g hg => by injection hg with hg; exact ⟨by omega, .inl hg.symm⟩)
    refine hK _ _ trivial ?_; clear hK K
    refine zK (by kernel_rfl) ?_
    go_wp2_with (with_reducible refine h_A ?_)
    go_end0
    rw [HLR.out, HBR.out]
    exact ⟨rfl, ha7, by simpa [hln] using hM7, hK7⟩
 ·go_wp2_with (with_reducible refine h_B ?_)
  refine zc (zm (v := .bool true) (vs := [.bool true]) rfl rfl rfl rfl hb3 rfl (by kernel_rfl) (by simp) (by simp; rfl) #[.slice A n c, .bool true] (by simp) ?_)
  intro w5 hb5 hg5 _
  have ha5 := ha3.grown hg5 (sne (by omega))
  have hr5 := hr3.grown hg5 (by omega) (fun g hg => by injection hg with hg; omega)
  have hrd5 := hrd3.kept hg5 (fun g hg hFg => by injection hg with hg; have := hFg.1; omega)
  have hK5 := hK.grown hBw hg5 (fun g hg => by injection hg with hg; exact ⟨by omega, .inl hg.symm⟩)
  clear hb3 ha3 hr3 hrd3 hK hg5 c1
  go_upto_region 3 with fail
  refine zD (fun _ : World => True) (by kernel_rfl) ?_
  replace hb5 : Box w5.drew rb 194 #[.slice A n c, .bool true] := hb5
  replace ha5 : Box w5.drew ab 80 cells' := ha5
  replace hr5 : RdB w5.drew B A n c l := hr5.drew
  replace hrd5 := hrd5.drew
  replace hK5 := hK5.drew
  have hsub : IntKind.i64.wrap ((n : Int) - (l2.length : Int)) = ((n - l2.length : Nat) : Int) := by rw [IntWalk.i64_in _ ⟨by omega, by omega⟩]; omega
  generalize w5.drew = wd at *
  refine rg_t 0 trivial ?_
  simp only [List.getElem_toArray, List.getElem_cons_zero, Act.put, List.setIfInBounds_toArray, List.set_cons_zero, List.set_cons_succ]
  refine rg_t 1 trivial ?_
  simp only [g_S, Act.put]
  refine rg_t 2 trivial ?_
  simp only [g_S, Act.put]
  refine rg_t 3 trivial ?_
  simp only [g_S, Act.put]
  refine rg_t 6 trivial ?_
  simp only [g_S, Act.put]
  have y0 := hb5.c0
  have hr6 : MRd wd B rb l true := ⟨A, n, c, hb5, hr5, hn⟩
  have hlf := yh hrd5
  have htk := kZ hr6 hB ((n - l2.length : Nat) : Int) 0 (.inl rfl)
  refine xc 4 7 rfl rfl (by kernel_rfl) rfl rfl (fun K hK => ?_) (fun K hK => ?_)
  ·go_simp
   refine hK _ _ trivial ?_; clear hK K
   clear y0
   try simp only [g_S, Act.put]
   refine rg_t 5 trivial ?_
   simp only [g_S, Act.put]
   refine zi 7 rfl (by kernel_rfl) rfl (fun K hK => ?_)
   go_simp
   refine hlf.mono ?_
   rintro e w6 ⟨rfl, rfl⟩
   refine hK _ _ trivial ?_; clear hK K
   try simp only [g_S, Act.put]
   refine rg_t 8 trivial ?_
   simp only [g_S, Act.put]
   refine zi 9 rfl (by kernel_rfl) rfl (fun K hK => ?_)
   go_simp
   refine htk.mono ?_
   rintro e w7 ⟨rfl, hM7, hg7⟩
   have ha7 := ha5.grown hg7 (sne (by omega))
   have hK7 := hK5.grown hBw hg7 (fun g hg => by injection hg with hg; exact ⟨by omega, .inl hg.symm⟩)
   refine hK _ _ trivial ?_; clear hK K
   refine zK (by kernel_rfl) ?_
   go_wp2_with (with_reducible refine h_A ?_)
   go_end0
   rw [HLR.out, HBR.out]
   exact ⟨rfl, ha7, by simpa [hln] using hM7, hK7⟩
  ·go_simp
   refine hlf.mono ?_
   rintro e w6 ⟨rfl, rfl⟩
   refine hK _ _ trivial ?_; clear hK K
   try simp only [g_S, Act.put]
   refine zi 4 rfl (by kernel_rfl) rfl (fun K hK => ?_)
   go_simp
   refine hK _ _ trivial ?_; clear hK K
   clear y0
   try simp only [g_S, Act.put]
   refine rg_t 5 trivial ?_
   simp only [g_S, Act.put]
   refine rg_t 8 trivial ?_
   simp only [g_S, Act.put]
   refine zi 9 rfl (by kernel_rfl) rfl (fun K hK => ?_)
   go_simp
   refine htk.mono ?_
   rintro e w7 ⟨rfl, hM7, hg7⟩
   have ha7 := ha5.grown hg7 (sne (by omega))
   have hK7 := hK5.grown hBw hg7 (fun g hg => by injection hg with hg; exact ⟨by omega, .inl hg.symm⟩)
   refine hK _ _ trivial ?_; clear hK K
   refine zK (by kernel_rfl) ?_
   go_wp2_with (with_reducible refine h_A ?_)
   go_end0
   rw [HLR.out, HBR.out]
   exact ⟨rfl, ha7, by simpa [hln] using hM7, hK7⟩
end Go.PH
end

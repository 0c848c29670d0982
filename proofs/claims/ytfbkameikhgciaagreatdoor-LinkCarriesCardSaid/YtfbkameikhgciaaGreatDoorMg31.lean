/- Texts laid together: MdOneMath, MdGetMath, MdGetMath2, MdSameM, MdSameR, MdArgR0, MdArgR1. -/
import Derived.Test.YtfbkameikhgciaaGreatDoorMg10
import Derived.Test.YtfbkameikhgciaaGreatDoorMg11
import Derived.Test.YtfbkameikhgciaaGreatDoorMg16
import Derived.Test.YtfbkameikhgciaaGreatDoorMg24
import Derived.Test.YtfbkameikhgciaaGreatDoorMg25
import Derived.Test.YtfbkameikhgciaaGreatDoorMg26
import Derived.Test.YtfbkameikhgciaaGreatDoorMg27
import Derived.Test.YtfbkameikhgciaaGreatDoorMg30
set_option linter.all false
set_option linter.unusedSimpArgs false
set_option linter.unusedVariables false
section
/- Methods that may be are told by their bytes: plain mathematics. -/
namespace Go.PH

theorem spBytes_cut : ∀ (l l' : List Sp) (R S : List UInt8), l.length = l'.length → spOK 4294967296 l → spOK 4294967296 l' → spBytes l ++ R = spBytes l' ++ S → l = l' ∧ R = S
 | [], [], R, S, _, _, _, h => ⟨rfl, h⟩
 | [], _ :: _, _, _, hl, _, _, _ => by simp at hl
 | _ :: _, [], _, _, hl, _, _, _ => by simp at hl
 | a :: l, b :: l', R, S, hl, h1, h2, h => by
  have e1 : spBytes (a :: l) = be 4 a.1 ++ be 4 a.2 ++ spBytes l := rfl
  have e2 : spBytes (b :: l') = be 4 b.1 ++ be 4 b.2 ++ spBytes l' := rfl
  rw [e1, e2] at h
  simp only [List.append_assoc] at h
  have ha := h1 a (List.mem_cons_self ..)
  have hb := h2 b (List.mem_cons_self ..)
  obtain ⟨p1, h⟩ := be_cut (i := 4) ha.1 hb.1 h
  obtain ⟨p2, h⟩ := be_cut (i := 4) ha.2 hb.2 h
  obtain ⟨p3, p4⟩ := spBytes_cut l l' R S (by simpa using hl) (fun x hx => h1 x (List.mem_cons_of_mem _ hx)) (fun x hx => h2 x (List.mem_cons_of_mem _ hx)) h
  exact ⟨by rw [p3, show a = b from Prod.ext p1 p2], p4⟩
theorem spPut_cut {l l' : List Sp} {R S : List UInt8} (e : spPutErr l = 0) (e' : spPutErr l' = 0) (h1 : spOK 4294967296 l) (h2 : spOK 4294967296 l') (h : spPut l ++ R = spPut l' ++ S) : l = l' ∧ R = S := by
 have g : ∀ {m : List Sp}, spPutErr m = 0 → spPut m = be 2 (8 * m.length) ++ spBytes m ∧ m.length ≤ 1000 := by
  intro m hm
  unfold spPutErr at hm
  split at hm
  ·rename_i hr
   split at hm
   ·rename_i hl
    exact ⟨by unfold spPut; rw [if_pos ⟨hr, hl⟩], hl⟩
   ·omega
  ·omega
 obtain ⟨g1, g2⟩ := g e
 obtain ⟨g3, g4⟩ := g e'
 rw [g1, g3, List.append_assoc, List.append_assoc] at h
 obtain ⟨p1, h⟩ := be_cut (i := 2) (by omega) (by omega) h
 exact spBytes_cut l l' R S (by omega) h1 h2 h
theorem xdput_cut {x y : Xd} {R S : List UInt8} (hx : x.fmt < 4294967296) (hy : y.fmt < 4294967296) (kx : x.err = 0) (ky : y.err = 0) (h : x.put ++ R = y.put ++ S) : x = y ∧ R = S := by
 have g : ∀ {z : Xd}, z.err = 0 → z.ok = true := by
  intro z hz
  unfold Xd.err at hz
  split at hz
  ·rename_i h; exact h
  ·omega
 have ox := g kx
 have oy := g ky
 rw [Xd.put_ok ox, Xd.put_ok oy] at h
 have h1 := getX_bytes hx ox R
 have h2 := getX_bytes hy oy S
 rw [h, h2] at h1
 simp only [Prod.mk.injEq] at h1
 exact ⟨h1.1.symm, h1.2.1.symm⟩
/-- what lies in an argument lies within its kinds -/
structure AB (a : Ag) : Prop where
 n : a.n < 18446744073709551616
 x : a.x.fmt < 4294967296
 q : spOK 4294967296 a.q
 v : VB a.v
theorem RA.ab {w : World} {F : Nat → Prop} {a : Ag} {h : AH} (ha : RA w F a h) : AB a := ⟨ha.n, ha.x.1, ha.ok, ha.v.vb⟩
theorem text_ok {s : List UInt8} {i : Nat} (hi : i = 1 ∨ i = 2) (h : textErr s.length (i : Int) = 0) : s.length < 256 ^ i ∧ putsText [] s (i : Int) = be i s.length ++ s := by
 refine ⟨?_, by rw [putsText_ok h]; simp⟩
 unfold textErr at h
 rcases hi with rfl | rfl <;> simp at h <;> exact h
theorem byA_cut {kd : UInt8} (hk : kd ∈ kindL) {a b : Ag} {R S : List UInt8} (ba : AB a) (bb : AB b) (ha : okA kd a = true) (hb : okA kd b = true) (his : a.is = b.is) (h : byA kd a ++ R = byA kd b ++ S) : a = b ∧ R = S := by
 unfold kindL at hk
 simp only [List.mem_cons, List.not_mem_nil, or_false] at hk
 rcases hk with rfl | rfl | rfl | rfl | rfl | rfl | rfl | rfl | rfl
 ·have ea := (sameA_iff _ _).1 (show sameA a (ag0 a.is) = true from ha)
  have eb := (sameA_iff _ _).1 (show sameA b (ag0 b.is) = true from hb)
  exact ⟨by rw [ea, eb, his], h⟩
 ·obtain ⟨na, ea⟩ := Bool.and_eq_true _ _ ▸ (show (decide (a.n < 256) && sameA a (agN a)) = true from ha)
  obtain ⟨nb, eb⟩ := Bool.and_eq_true _ _ ▸ (show (decide (b.n < 256) && sameA b (agN b)) = true from hb)
  obtain ⟨e, h2⟩ := be_cut (i := 1) (by simpa using na) (by simpa using nb) (show be 1 a.n ++ R = be 1 b.n ++ S from h)
  exact ⟨by rw [(sameA_iff _ _).1 ea, (sameA_iff _ _).1 eb]; unfold agN; simp [e], h2⟩
 ·obtain ⟨na, ea⟩ := Bool.and_eq_true _ _ ▸ (show (decide (a.n < 65536) && sameA a (agN a)) = true from ha)
  obtain ⟨nb, eb⟩ := Bool.and_eq_true _ _ ▸ (show (decide (b.n < 65536) && sameA b (agN b)) = true from hb)
  obtain ⟨e, h2⟩ := be_cut (i := 2) (by simpa using na) (by simpa using nb) (show be 2 a.n ++ R = be 2 b.n ++ S from h)
  exact ⟨by rw [(sameA_iff _ _).1 ea, (sameA_iff _ _).1 eb]; unfold agN; simp [e], h2⟩
 ·obtain ⟨na, ea⟩ := Bool.and_eq_true _ _ ▸ (show (decide (a.n < 4294967296) && sameA a (agN a)) = true from ha)
  obtain ⟨nb, eb⟩ := Bool.and_eq_true _ _ ▸ (show (decide (b.n < 4294967296) && sameA b (agN b)) = true from hb)
  obtain ⟨e, h2⟩ := be_cut (i := 4) (by simpa using na) (by simpa using nb) (show be 4 a.n ++ R = be 4 b.n ++ S from h)
  exact ⟨by rw [(sameA_iff _ _).1 ea, (sameA_iff _ _).1 eb]; unfold agN; simp [e], h2⟩
 ·obtain ⟨na, ea⟩ := Bool.and_eq_true _ _ ▸ (show (decide (textErr a.s.length 1 = 0) && sameA a (agS a)) = true from ha)
  obtain ⟨nb, eb⟩ := Bool.and_eq_true _ _ ▸ (show (decide (textErr b.s.length 1 = 0) && sameA b (agS b)) = true from hb)
  obtain ⟨l1, t1⟩ := text_ok (i := 1) (Or.inl rfl) (of_decide_eq_true na)
  obtain ⟨l2, t2⟩ := text_ok (i := 1) (Or.inl rfl) (of_decide_eq_true nb)
  have h' : putsText [] a.s ((1 : Nat) : Int) ++ R = putsText [] b.s ((1 : Nat) : Int) ++ S := h
  rw [t1, t2] at h'
  obtain ⟨e, h2⟩ := text_cut l1 l2 h'
  exact ⟨by rw [(sameA_iff _ _).1 ea, (sameA_iff _ _).1 eb]; unfold agS; simp [e], h2⟩
 ·obtain ⟨na, ea⟩ := Bool.and_eq_true _ _ ▸ (show (decide (textErr a.s.length 2 = 0) && sameA a (agS a)) = true from ha)
  obtain ⟨nb, eb⟩ := Bool.and_eq_true _ _ ▸ (show (decide (textErr b.s.length 2 = 0) && sameA b (agS b)) = true from hb)
  obtain ⟨l1, t1⟩ := text_ok (i := 2) (Or.inr rfl) (of_decide_eq_true na)
  obtain ⟨l2, t2⟩ := text_ok (i := 2) (Or.inr rfl) (of_decide_eq_true nb)
  have h' : putsText [] a.s ((2 : Nat) : Int) ++ R = putsText [] b.s ((2 : Nat) : Int) ++ S := h
  rw [t1, t2] at h'
  obtain ⟨e, h2⟩ := text_cut l1 l2 h'
  exact ⟨by rw [(sameA_iff _ _).1 ea, (sameA_iff _ _).1 eb]; unfold agS; simp [e], h2⟩
 ·obtain ⟨na, ea⟩ := Bool.and_eq_true _ _ ▸ (show (decide (((a.x.err : Nat) : Int) = 0) && sameA a (agX a)) = true from ha)
  obtain ⟨nb, eb⟩ := Bool.and_eq_true _ _ ▸ (show (decide (((b.x.err : Nat) : Int) = 0) && sameA b (agX b)) = true from hb)
  obtain ⟨e, h2⟩ := xdput_cut ba.x bb.x (by have := of_decide_eq_true na; omega) (by have := of_decide_eq_true nb; omega) (show a.x.put ++ R = b.x.put ++ S from h)
  exact ⟨by rw [(sameA_iff _ _).1 ea, (sameA_iff _ _).1 eb]; unfold agX; simp [e], h2⟩
 ·obtain ⟨na, ea⟩ := Bool.and_eq_true _ _ ▸ (show (decide (((spPutErr a.q : Nat) : Int) = 0) && sameA a (agQ a)) = true from ha)
  obtain ⟨nb, eb⟩ := Bool.and_eq_true _ _ ▸ (show (decide (((spPutErr b.q : Nat) : Int) = 0) && sameA b (agQ b)) = true from hb)
  obtain ⟨e, h2⟩ := spPut_cut (by have := of_decide_eq_true na; omega) (by have := of_decide_eq_true nb; omega) ba.q bb.q (show spPut a.q ++ R = spPut b.q ++ S from h)
  exact ⟨by rw [(sameA_iff _ _).1 ea, (sameA_iff _ _).1 eb]; unfold agQ; simp [e], h2⟩
 ·obtain ⟨na, ea⟩ := Bool.and_eq_true _ _ ▸ (show (decide (errV a.v = 0) && sameA a (agX2 a)) = true from ha)
  obtain ⟨nb, eb⟩ := Bool.and_eq_true _ _ ▸ (show (decide (errV b.v = 0) && sameA b (agX2 b)) = true from hb)
  have na' := of_decide_eq_true na
  have nb' := of_decide_eq_true nb
  have h' : vlP a.v ++ R = vlP b.v ++ S := h
  unfold vlP at h'
  rw [if_pos na', if_pos nb'] at h'
  obtain ⟨c1, m1⟩ := errV_ok na'
  obtain ⟨c2, m2⟩ := errV_ok nb'
  obtain ⟨e, h2⟩ := vlB_cut a.v m1 ba.v ⟨200, Int.le_refl _, c1⟩ b.v R S m2 bb.v ⟨200, Int.le_refl _, c2⟩ h'
  exact ⟨by rw [(sameA_iff _ _).1 ea, (sameA_iff _ _).1 eb]; unfold agX2; simp [e], h2⟩
theorem flags_cut : ∀ (l l' : List Ag), l.length = l'.length → flagsM (l.map toSA) = flagsM (l'.map toSA) → ∀ i (h : i < l.length) (h' : i < l'.length), l[i].is = l'[i].is
 | [], [], _, _, i, h, _ => by simp at h
 | [], _ :: _, hl, _, _, _, _ => by simp at hl
 | _ :: _, [], hl, _, _, _, _ => by simp at hl
 | a :: l, b :: l', hl, h, i, hi, hi' => by
  simp only [List.map_cons, flagsM] at h
  have e1 : (toSA a).is = a.is := rfl
  have e2 : (toSA b).is = b.is := rfl
  rw [e1, e2] at h
  have hh : a.is = b.is ∧ flagsM (l.map toSA) = flagsM (l'.map toSA) := by
   cases ha : a.is <;> cases hb : b.is <;> rw [ha, hb] at h <;> simp at h <;> first | exact ⟨rfl, by omega⟩ | (exfalso; omega)
  cases i with
  | zero => exact hh.1
  | succ i => exact flags_cut l l' (by simpa using hl) hh.2 i (by simpa using hi) (by simpa using hi')
theorem args_cut (kd : List UInt8) (hk : ∀ x ∈ kd, x ∈ kindL) : ∀ (n i : Nat) (l l' : List Ag) (R S : List UInt8), l.length = kd.length → l'.length = kd.length → n + i = kd.length → (∀ a ∈ l, AB a) → (∀ a ∈ l', AB a) →
  (∀ j (h : j < l.length) (h' : j < l'.length), l[j].is = l'[j].is) → (∀ j (h : j < kd.length) (h1 : j < l.length) (h2 : j < l'.length), okA kd[j] l[j] = true ∧ okA kd[j] l'[j] = true) →
  ((List.range' i n).flatMap (fun j => match kd[j]?, l[j]? with | some k, some a => byA k a | _, _ => [])) ++ R = ((List.range' i n).flatMap (fun j => match kd[j]?, l'[j]? with | some k, some a => byA k a | _, _ => [])) ++ S → l.drop i = l'.drop i ∧ R = S := by
 intro n
 induction n with
 | zero =>
  intro i l l' R S h1 h2 h3 _ _ _ _ h
  refine ⟨by rw [List.drop_eq_nil_of_le (by omega), List.drop_eq_nil_of_le (by omega)], by simpa using h⟩
 | succ n ih =>
  intro i l l' R S h1 h2 h3 b1 b2 his hok h
  rw [List.range'_succ, List.flatMap_cons, List.flatMap_cons, List.append_assoc, List.append_assoc] at h
  have g0 : i < kd.length := by omega
  have g1 : i < l.length := by omega
  have g2 : i < l'.length := by omega
  rw [List.getElem?_eq_getElem g0, List.getElem?_eq_getElem g1, List.getElem?_eq_getElem g2] at h
  simp only at h
  obtain ⟨e, h⟩ := byA_cut (hk _ (List.getElem_mem g0)) (b1 _ (List.getElem_mem g1)) (b2 _ (List.getElem_mem g2)) (hok i g0 g1 g2).1 (hok i g0 g1 g2).2 (his i g1 g2) h
  obtain ⟨e2, h4⟩ := ih (i + 1) l l' R S h1 h2 (by omega) b1 b2 his hok h
  exact ⟨by rw [List.drop_eq_getElem_cons g1, List.drop_eq_getElem_cons g2, e, e2], h4⟩
/-- methods that may be have the same bytes just if they are the same -/
theorem putM_inj {a b : Mt} (ha : goodM a = true) (hb : goodM b = true) (ba : a.cls < 256 ∧ a.code < 256 ∧ ∀ x ∈ a.args, AB x) (bb : b.cls < 256 ∧ b.code < 256 ∧ ∀ x ∈ b.args, AB x) (h : putM a = putM b) : a = b := by
 unfold putM at h
 rw [if_pos ha, if_pos hb] at h
 unfold goodM formM at ha hb
 simp only [Bool.and_eq_true, decide_eq_true_eq, List.all_eq_true, List.mem_range] at ha hb
 obtain ⟨⟨⟨_, la⟩, sa⟩, oa⟩ := ha
 obtain ⟨⟨⟨_, lb⟩, sb⟩, ob⟩ := hb
 obtain ⟨a1, a2, a3⟩ := ba
 obtain ⟨b1, b2, b3⟩ := bb
 unfold headM at h
 simp only [List.append_assoc, List.cons_append, List.nil_append, List.cons.injEq] at h
 obtain ⟨c1, c2, h⟩ := h
 have d1 : a.cls = b.cls := by
  have := congrArg UInt8.toNat c1
  simp only [UInt8.toNat_ofNat'] at this
  omega
 have d2 : a.code = b.code := by
  have := congrArg UInt8.toNat c2
  simp only [UInt8.toNat_ofNat'] at this
  omega
 have hkd : kindsM a = kindsM b := by unfold kindsM; rw [d1, d2]
 have hk3 := (kinds_ok b.cls b.code).2
 have hko := (kinds_ok b.cls b.code).1
 have hf : a.sync = b.sync ∧ be 2 (flagsM (a.args.map toSA)) ++ (List.range a.args.length).flatMap (byI a) = be 2 (flagsM (b.args.map toSA)) ++ (List.range b.args.length).flatMap (byI b) := by
  rw [d1] at h sa
  by_cases hc : b.cls ≤ 2
  ·rw [if_pos hc, if_pos hc] at h
   rw [decide_eq_true hc] at sa sb
   simp at sa sb
   exact ⟨by rw [sa, sb], by simpa using h⟩
  ·rw [if_neg hc, if_neg hc] at h
   simp only [List.cons_append, List.nil_append, List.cons.injEq, true_and] at h
   refine ⟨?_, h.2⟩
   have := h.1
   cases hsa : a.sync <;> cases hsb : b.sync <;> rw [hsa, hsb] at this <;> first | rfl | (exact absurd this (by decide))
 obtain ⟨d3, h⟩ := hf
 have ll : a.args.length = b.args.length := by rw [la, lb, hkd]
 have f1 := flagsM_lt (a.args.map toSA)
 have f2 := flagsM_lt (b.args.map toSA)
 rw [List.length_map] at f1 f2
 have hl3 : b.args.length ≤ 3 := by rw [lb]; exact hk3
 have p1 : (2 : Nat) ^ a.args.length ≤ 2 ^ 3 := Nat.pow_le_pow_right (by omega) (by omega)
 have p2 : (2 : Nat) ^ b.args.length ≤ 2 ^ 3 := Nat.pow_le_pow_right (by omega) hl3
 obtain ⟨e1, h⟩ := be_cut (i := 2) (by omega) (by omega) h
 have his := flags_cut a.args b.args ll e1
 rw [ll] at h
 have hb' : ∀ m : Mt, byI m = fun j => match (kindsM m)[j]?, m.args[j]? with | some k, some a => byA k a | _, _ => [] := fun m => by funext j; rfl
 rw [hb', hb', hkd, List.range_eq_range'] at h
 have := args_cut (kindsM b) hko b.args.length 0 a.args b.args [] [] (by rw [la, hkd]) lb (by rw [lb]; omega) a3 b3 his (fun j h0 h1 h2 => by
  have q1 := oa j h1
  have q2 := ob j h2
  unfold okI at q1 q2
  rw [hkd] at q1
  rw [List.getElem?_eq_getElem h0, List.getElem?_eq_getElem h1] at q1
  rw [List.getElem?_eq_getElem h0, List.getElem?_eq_getElem h2] at q2
  exact ⟨q1, q2⟩) (by rw [List.append_nil, List.append_nil]; exact h)
 have e5 : a.args = b.args := by simpa using this.1
 cases a; cases b
 simp only at d1 d2 d3 e5
 rw [d1, d2, d3, e5]
end Go.PH
end
section
/- What Get of a method answers, as plain mathematics. -/
namespace Go.PH

/-- no method -/
def mt0 : Mt := ⟨0, 0, false, []⟩
/-- a method's numbers lie within their kinds -/
def MB (m : Mt) : Prop := m.cls < 256 ∧ m.code < 256 ∧ ∀ x ∈ m.args, AB x
/-- what Get of bytes answers: the method, the error -/
def GetM (b : List UInt8) (m : Mt) (er : Int) : Prop :=
 (b.length < 2 ∧ er = 4 ∧ m = mt0) ∨
 (2 ≤ b.length ∧ findM (b.getD 0 0).toNat (b.getD 1 0).toNat = none ∧ er = 80 ∧ m = mt0) ∨
 (2 ≤ b.length ∧ (findM (b.getD 0 0).toNat (b.getD 1 0).toNat).isSome = true ∧ ((er = 0 ∧ MB m ∧ goodM m = true ∧ putM m = b) ∨ (er = 5 ∧ m = mt0 ∧ ∀ m', goodM m' = true → MB m' → putM m' ≠ b)))
/-- two that answer so answer the same -/
theorem GetM.uniq {b : List UInt8} {m n : Mt} {e f : Int} (h : GetM b m e) (k : GetM b n f) : m = n ∧ e = f := by
 rcases h with ⟨h1, h2, h3⟩ | ⟨h1, h2, h3, h4⟩ | ⟨h1, h2, h3⟩
 ·rcases k with ⟨k1, k2, k3⟩ | ⟨k1, _⟩ | ⟨k1, _⟩
  ·exact ⟨by rw [h3, k3], by rw [h2, k2]⟩
  ·omega
  ·omega
 ·rcases k with ⟨k1, k2, k3⟩ | ⟨k1, k2, k3, k4⟩ | ⟨k1, k2, _⟩
  ·omega
  ·exact ⟨by rw [h4, k4], by rw [h3, k3]⟩
  ·rw [h2] at k2; cases k2
 ·rcases k with ⟨k1, k2, k3⟩ | ⟨k1, k2, k3, k4⟩ | ⟨k1, k2, k3⟩
  ·omega
  ·rw [k2] at h2; cases h2
  ·rcases h3 with ⟨e1, hb, hg, hp⟩ | ⟨e1, e2, hno⟩
   ·rcases k3 with ⟨f1, kb, kg, kp⟩ | ⟨f1, f2, kno⟩
    ·exact ⟨putM_inj hg kg hb kb (by rw [hp, kp]), by rw [e1, f1]⟩
    ·exact absurd hp (kno m hg hb)
   ·rcases k3 with ⟨f1, kb, kg, kp⟩ | ⟨f1, f2, kno⟩
    ·exact absurd kp (hno n kg kb)
    ·exact ⟨by rw [e2, f2], by rw [e1, f1]⟩
/-- the bytes of a method that may be, part by part -/
theorem get_parts {m : Mt} {b : List UInt8} (hg : goodM m = true) (hb : MB m) (hp : putM m = b) :
  2 ≤ b.length ∧ (b.getD 0 0).toNat = m.cls ∧ (b.getD 1 0).toNat = m.code ∧ (findM m.cls m.code).isSome = true ∧ m.args.length = (kindsO (findM m.cls m.code)).length ∧
  (m.cls ≤ 2 → m.sync = false ∧ b.drop 2 = be 2 (flagsM (m.args.map toSA)) ++ (List.range m.args.length).flatMap (byI m)) ∧
  (¬ m.cls ≤ 2 → 4 ≤ b.length ∧ b.getD 3 0 = (if m.sync then 1 else 0) ∧ b.drop 4 = be 2 (flagsM (m.args.map toSA)) ++ (List.range m.args.length).flatMap (byI m)) := by
 have hf : formM m = true := by
  unfold goodM at hg
  rw [Bool.and_eq_true] at hg
  exact hg.1
 unfold formM kindsM at hf
 simp only [Bool.and_eq_true, decide_eq_true_eq] at hf
 obtain ⟨⟨h1, h2⟩, h3⟩ := hf
 unfold putM at hp
 rw [if_pos hg] at hp
 unfold headM at hp
 have hc : (UInt8.ofNat m.cls).toNat = m.cls := by rw [UInt8.toNat_ofNat']; exact Nat.mod_eq_of_lt hb.1
 have hd : (UInt8.ofNat m.code).toNat = m.code := by rw [UInt8.toNat_ofNat']; exact Nat.mod_eq_of_lt hb.2.1
 generalize (List.range m.args.length).flatMap (byI m) = Y at *
 generalize be 2 (flagsM (m.args.map toSA)) = X at *
 subst hp
 refine ⟨by simp, by simpa using hc, by simpa using hd, h1, h2, fun h => ?_, fun h => ?_⟩
 ·refine ⟨?_, by rw [if_pos h]; simp⟩
  cases hs : m.sync
  ·rfl
  ·rw [hs] at h3; simp [h] at h3
 ·rw [if_neg h]
  exact ⟨by simp, by simp, by simp⟩
/-- a flag is told by its place -/
theorem flagsM_bit : ∀ (l : List SA) (i : Nat) (hi : i < l.length), flagsM l / 2 ^ i % 2 = if l[i].is then 1 else 0
 | [], i, hi => by simp at hi
 | a :: l, 0, hi => by
  rw [flagsM, Nat.pow_zero, Nat.div_one]
  simp only [List.getElem_cons_zero]
  split <;> omega
 | a :: l, i + 1, hi => by
  rw [flagsM, Nat.pow_succ, Nat.mul_comm (2 ^ i) 2, ← Nat.div_div_eq_div_mul]
  have e : ((if a.is = true then 1 else 0) + 2 * flagsM l) / 2 = flagsM l := by split <;> omega
  rw [e]
  simp only [List.getElem_cons_succ]
  exact flagsM_bit l i (by simpa using hi)
/-- the bytes of the arguments from the i-th on -/
theorem args_cons {n i : Nat} (f : Nat → List UInt8) (hi : i < n) : ((List.range n).drop i).flatMap f = f i ++ ((List.range n).drop (i + 1)).flatMap f := by
 rw [List.drop_eq_getElem_cons (by simpa using hi), List.flatMap_cons, List.getElem_range]
/-- an argument that may be, of a method that may be -/
theorem arg_ok {m : Mt} (hg : goodM m = true) {i : Nat} (hi : i < m.args.length) (h' : i < (kindsO (findM m.cls m.code)).length) : okA (kindsO (findM m.cls m.code))[i] m.args[i] = true ∧ byI m i = byA (kindsO (findM m.cls m.code))[i] m.args[i] := by
 unfold goodM at hg
 rw [Bool.and_eq_true] at hg
 have h1 := List.all_eq_true.1 hg.2 i (List.mem_range.2 hi)
 unfold okI kindsM at h1
 rw [List.getElem?_eq_getElem h', List.getElem?_eq_getElem hi] at h1
 refine ⟨h1, ?_⟩
 unfold byI kindsM
 rw [List.getElem?_eq_getElem h', List.getElem?_eq_getElem hi]
end Go.PH
end
section
/- What Get of a method reads, step by step, as plain mathematics. -/
namespace Go.PH

/-- where a method's flags lie -/
def atM (x : Nat) : Nat := if x ≤ 2 then 2 else 4
/-- is a method's mark set -/
def syncM (x : Nat) (b : List UInt8) : Bool := !decide (x ≤ 2) && (b[3]? == some 1)
/-- what the bytes of a method that may be tell -/
structure Told (b : List UInt8) (m : Mt) : Prop where
 good : goodM m = true
 mb : MB m
 put : putM m = b
theorem flagsM_lt4 (l : List SA) (h : l.length ≤ 3) : flagsM l < 65536 := by
 have h1 := flagsM_lt l
 have h2 : 2 ^ l.length ≤ 2 ^ 3 := Nat.pow_le_pow_right (by omega) h
 omega
theorem told_args {b : List UInt8} {m : Mt} (h : Told b m) : m.args.length = (kindsO (findM m.cls m.code)).length ∧ m.args.length ≤ 3 := by
 obtain ⟨_, _, _, _, h5, _, _⟩ := get_parts h.good h.mb h.put
 exact ⟨h5, by rw [h5]; exact (kinds_ok _ _).2⟩
/-- its head -/
theorem told_head {x y : UInt8} {r b : List UInt8} (hb : b = x :: y :: r) {m : Mt} (h : Told b m) : m.cls = x.toNat ∧ m.code = y.toNat ∧ m.sync = syncM x.toNat b ∧ atM x.toNat + 2 ≤ b.length ∧
  mnum (b.drop (atM x.toNat)) false 2 = (flagsM (m.args.map toSA), (List.range m.args.length).flatMap (byI m), false) := by
 obtain ⟨h1, h2, h3, h4, h5, h6, h7⟩ := get_parts h.good h.mb h.put
 have e1 : m.cls = x.toNat := by rw [← h2, hb]; rfl
 have e2 : m.code = y.toNat := by rw [← h3, hb]; rfl
 have hfl : flagsM (m.args.map toSA) < 65536 := flagsM_lt4 _ (by rw [List.length_map]; exact (told_args h).2)
 have hnum : ∀ Y, mnum (be 2 (flagsM (m.args.map toSA)) ++ Y) false 2 = (flagsM (m.args.map toSA), Y, false) := fun Y => mnum_at 2 (.inr (.inl rfl)) _ (by omega) Y
 by_cases hc : m.cls ≤ 2
 ·obtain ⟨a1, a2⟩ := h6 hc
  have hat : atM x.toNat = 2 := by unfold atM; rw [if_pos (by omega)]
  have hl := congrArg List.length a2
  simp only [List.length_drop, List.length_append, be_length] at hl
  refine ⟨e1, e2, ?_, by rw [hat]; omega, ?_⟩
  ·rw [a1]; unfold syncM; rw [decide_eq_true (by omega)]; rfl
  ·rw [hat, a2, hnum]
 ·obtain ⟨a0, a1, a2⟩ := h7 hc
  have hat : atM x.toNat = 4 := by unfold atM; rw [if_neg (by omega)]
  have hl := congrArg List.length a2
  simp only [List.length_drop, List.length_append, be_length] at hl
  refine ⟨e1, e2, ?_, by rw [hat]; omega, ?_⟩
  ·unfold syncM
   rw [decide_eq_false (by omega)]
   have h3 : b[3]? = some (b.getD 3 0) := by
    rw [List.getD_eq_getElem?_getD, List.getElem?_eq_getElem (by omega)]; rfl
   rw [h3, a1]
   cases m.sync <;> rfl
  ·rw [hat, a2, hnum]
/-- the state of reading: so many arguments, what is left, is it bad -/
def ReadTo (b : List UInt8) (i : Nat) (gs : List Ag) (l : List UInt8) (bad : Bool) : Prop := ∀ m, Told b m → gs = m.args.take i ∧ l = ((List.range m.args.length).drop i).flatMap (byI m) ∧ bad = false
theorem ReadTo.start {x y : UInt8} {r b : List UInt8} (hb : b = x :: y :: r) {l : List UInt8} {fl : Nat} {bad : Bool} (h : mnum (b.drop (atM x.toNat)) false 2 = (fl, l, bad)) : ReadTo b 0 [] l false := fun m hm => by
 obtain ⟨_, _, _, _, h5⟩ := told_head hb hm
 rw [h] at h5
 injection h5 with h5 h6
 injection h6 with h6 h7
 exact ⟨by simp, by rw [h6]; simp, rfl⟩
theorem ReadTo.step {x y : UInt8} {r b : List UInt8} (hb : b = x :: y :: r) {kd : List UInt8} (hk : kd = kindsO (findM x.toNat y.toNat)) {i : Nat} {gs : List Ag} {l l' : List UInt8} {bad bad' : Bool} {a : Ag} {is : Bool} (h : ReadTo b i gs l bad) (hi : i < kd.length)
  (his : ∀ m, Told b m → ∀ (h : i < m.args.length), m.args[i].is = is)
  (ha : ∀ (a' : Ag) (rest : List UInt8), bad = false → l = byA kd[i] a' ++ rest → okA kd[i] a' = true → AB a' → a'.is = is → a = a' ∧ l' = rest ∧ bad' = false) : ReadTo b (i + 1) (gs ++ [a]) l' bad' := fun m hm => by
 obtain ⟨h1, h2, h3⟩ := h m hm
 obtain ⟨e1, e2, _⟩ := told_head hb hm
 have hl := (told_args hm).1
 have hkl : kindsO (findM m.cls m.code) = kd := by rw [hk, e1, e2]
 have hil : i < m.args.length := by rw [hl, hkl]; exact hi
 have hik : i < (kindsO (findM m.cls m.code)).length := by rw [hkl]; exact hi
 obtain ⟨g1, g2⟩ := arg_ok hm.good hil hik
 simp only [hkl] at g1 g2
 rw [args_cons _ (by simpa using hil), g2] at h2
 obtain ⟨q1, q2, q3⟩ := ha m.args[i] _ h3 h2 g1 (hm.mb.2.2 _ (List.getElem_mem hil)) (his m hm hil)
 exact ⟨by rw [List.take_succ_eq_append_getElem hil, h1, q1], q2, q3⟩
/-- what was read is the method -/
theorem ReadTo.all {x y : UInt8} {r b : List UInt8} (hb : b = x :: y :: r) {kd : List UInt8} (hk : kd = kindsO (findM x.toNat y.toNat)) {gs : List Ag} {l : List UInt8} {bad : Bool} (h : ReadTo b kd.length gs l bad) {m : Mt} (hm : Told b m) : m = ⟨x.toNat, y.toNat, syncM x.toNat b, gs⟩ ∧ bad = false := by
 obtain ⟨h1, h2, h3⟩ := h m hm
 obtain ⟨e1, e2, e3, _⟩ := told_head hb hm
 have hl := (told_args hm).1
 rw [e1, e2, ← hk] at hl
 rw [← hl, List.take_of_length_le (Nat.le_refl _)] at h1
 refine ⟨?_, h3⟩
 obtain ⟨c, d, s, g⟩ := m
 simp only at e1 e2 e3 h1
 rw [e1, e2, e3, h1]
/-- the flag of an argument -/
theorem told_is {x y : UInt8} {r b : List UInt8} (hb : b = x :: y :: r) {l : List UInt8} {fl : Nat} {bad : Bool} (h : mnum (b.drop (atM x.toNat)) false 2 = (fl, l, bad)) {i : Nat} {m : Mt} (hm : Told b m) (hi : i < m.args.length) : m.args[i].is = decide (fl / 2 ^ i % 2 = 1) := by
 obtain ⟨_, _, _, _, h5⟩ := told_head hb hm
 rw [h] at h5
 injection h5 with h5 _
 have h6 := flagsM_bit (m.args.map toSA) i (by simpa using hi)
 rw [← h5] at h6
 rw [h6]
 have e : ((m.args.map toSA)[i]'(by simpa using hi)).is = m.args[i].is := by rw [List.getElem_map]; rfl
 rw [e]
 cases m.args[i].is <;> simp
end Go.PH
end
section
/- '==' of methods: the walk of the program. -/
namespace Go.PH
open Go.RowKit Go.Proofs

theorem RM.len {w : World} {F : Nat → Prop} {m : Mt} {A : Option Addr} {c : Nat} (h : RM w F m A c) : m.args.length ≤ 140737488351232 := by
 exact h.c
end Go.PH
end
section
/- '==' of arguments and of methods: the walks of the document's program. -/
namespace Go.PH
open Go.RowKit Go.Proofs

end Go.PH
end
section
/- What the walks of the document's 'arg' share. -/
namespace Go.PH
open Go.RowKit Go.Proofs

theorem xid_neqA (a b : Xd) (w : World) : (binOp .neq 73 (.agg (xdV a)) (.agg (xdV b))).run Tryz.prog w = .ok (.bool (!decide (a = b))) w := by
 rw [run_neq_struct, xid_equal]
 rfl
def ArgR (w : World) (ok : Bool) (l : List UInt8) (e : Ending) (w' : World) : Prop := ∃ A2 n2 c2, e = .returned (.tuple #[.slice A2 n2 c2, .bool ok]) ∧ Below w.heap.size w w' ∧ (ok = true → n2 = l.length ∧ OwnB w' w.heap.size A2 n2 c2 l)
def argwR (k : Nat) : Option Nat := if k = 110 ∨ k = 115 then some 1 else if k = 119 ∨ k = 116 then some 2 else if k = 100 then some 4 else none
theorem rargw_any (k b : Nat) (hk : argwR k = some b) (w : World) : Calls Tryz.prog 94 #[.int .u8 (k : Int)] w fun e w' => e = .returned (.int .i64 (b : Int)) ∧ w' = w := by
 have hkk : (k = 110 ∧ b = 1) ∨ (k = 115 ∧ b = 1) ∨ (k = 119 ∧ b = 2) ∨ (k = 116 ∧ b = 2) ∨ (k = 100 ∧ b = 4) := by
  unfold argwR at hk
  split at hk
  ·injection hk; omega
  split at hk
  ·injection hk; omega
  split at hk
  ·injection hk; omega
  ·cases hk
 clear hk
 rcases hkk with ⟨rfl, rfl⟩ | ⟨rfl, rfl⟩ | ⟨rfl, rfl⟩ | ⟨rfl, rfl⟩ | ⟨rfl, rfl⟩ <;>
 ·go_enter Tryz.func94, Tryz.ntmps94
  go_wp2_with (with_reducible refine h_A ?_)
  go_ret
  exact ⟨rfl, rfl⟩
end Go.PH
end
section
/- The walks of the document's 'arg'. -/
namespace Go.PH
open Go.RowKit Go.Proofs

set_option maxRecDepth 20000 in
set_option maxHeartbeats 4000000 in
theorem rarg_w (a : Ag) (h : AH) (w : World) (ha : RAw w a h) : Calls Tryz.prog 60 #[.int .u8 119, .agg (agV a h)] w (ArgR w (okA 119 a) (byA 119 a)) := by
 unfold agV
 obtain ⟨xb, w1, hxb, hxv, hX, hB1⟩ := alloc_stepV w #[.bool a.is, .int .u64 (a.n : Int), .string (str a.s), .int .u32 (a.x.fmt : Int), .string (str a.x.glob), .string (str a.x.bran), .slice h.A a.q.length h.c, .int .u8 (a.v.kind : Int), .int .u64 (a.v.n : Int), .string (str a.v.s), .slice h.h.A1 a.v.keys.length h.h.c1, .slice h.h.A2 a.v.list.length h.h.c2] 80
 have ha1 := ha.up hB1
 have hsv := rsame_any a.v vl0 h.h ⟨none, 0, none, 0⟩ w1 ha1.v (RV.zero _ _)
 unfold SameR vlV vl0 at hsv
 obtain ⟨sv, hsvq0⟩ : ∃ s, s = sameV a.v (.mk 0 0 [] [] []) := ⟨_, rfl⟩
 rw [← hsvq0] at hsv
 have hsvq : sameV a.v vl0 = sv := hsvq0.symm
 clear hsvq0
 obtain ⟨OK, hOK⟩ : ∃ o, o = okA 119 a := ⟨_, rfl⟩
 obtain ⟨L, hL⟩ : ∃ l, l = byA 119 a := ⟨_, rfl⟩
 rw [← hOK, ← hL]
 have HOK := Lib.hid hOK
 have HL := Lib.hid hL
 clear hOK hL
 have hss := str_size a.s
 have c_0 := hX.c0
 have c_1 := hX.c1
 have c_2 := hX.c2
 have c_3 := hX.c3
 have c_4 := hX.c4
 have c_5 := hX.c5
 have c_6 := hX.c6
 have c_7 := hX.c7
 have c_8 := hX.c8
 have c_9 := hX.c9
 have c_10 := hX.c10
 have c_11 := hX.c11
 obtain ⟨is, his⟩ : ∃ i, i = a.is := ⟨_, rfl⟩
 rw [← his] at c_0
 cases is
 ·have HIS := Lib.hid his.symm
  clear his
  obtain rfl : OK = false := by rw [HOK.out]; simp [okA, sameA, ag0, agN, agS, agX, agQ, agX2, xd0, HIS.out]
  go_enter Tryz.func60, Tryz.ntmps60
  go_upto_region 1 with fail
  rw [← hxb, ← hxv]
  clear hxb hxv
  go_wp2_with (with_reducible refine h_A ?_)
  go_ret2
  exact ⟨none, _, 0, rfl, hB1, fun e => by cases e⟩
 ·have HIS := Lib.hid his.symm
  clear his
  by_cases hs : a.s = []
  ·have gs : ((str a.s).toList != []) = false := by rw [str_toList, hs]; simp
   have gs2 : (str a.s).toList.isEmpty = true := by rw [str_toList, hs]; rfl
   have HS := Lib.hid hs
   clear hs
   by_cases hx : a.x = xd0
   ·have hgd := fun x y => run_eqGuard_agg (P := Tryz.prog) w1 .neq 73 x y #[.int .u32 (a.x.fmt : Int), .string (str a.x.glob), .string (str a.x.bran)] #[.int .u32 0, .string ⟨#[]⟩, .string ⟨#[]⟩] xid_guard
    have hne : ∀ w, (binOp .neq 73 (.agg #[.int .u32 (a.x.fmt : Int), .string (str a.x.glob), .string (str a.x.bran)]) (.agg #[.int .u32 0, .string ⟨#[]⟩, .string ⟨#[]⟩])).run Tryz.prog w = .ok (.bool false) w := fun w => by
     have := xid_neqA a.x xd0 w
     rw [decide_eq_true hx] at this
     exact this
    have HX := Lib.hid hx
    clear hx
    by_cases hq : a.q.length = 0
    ·have gq : ¬ (0 : Int) < (a.q.length : Int) := by omega
     have HQ := Lib.hid (List.length_eq_zero_iff.1 hq)
     clear hq
     cases sv
     ·have HV := Lib.hid hsvq
      clear hsvq
      obtain rfl : OK = false := by rw [HOK.out]; simp [okA, sameA, ag0, agN, agS, agX, agQ, agX2, xd0, HIS.out, HS.out, HX.out, HQ.out, HV.out]
      go_enter Tryz.func60, Tryz.ntmps60
      go_upto_region 1 with fail
      rw [← hxb, ← hxv]
      clear hxb hxv
      go_wp2_with (with_reducible refine h_A ?_)
      refine hsv.mono ?_
      rintro e w2 ⟨rfl, hB2⟩
      clear hsv
      go_wp2_with (with_reducible refine h_A ?_)
      go_ret2
      exact ⟨none, _, 0, rfl, hB1.trans (hB2.mono hB1.size), fun e => by cases e⟩
     ·have HV := Lib.hid hsvq
      clear hsvq
      obtain rfl : L = be 2 a.n := by rw [HL.out]; simp [byA]
      have HK2 : Hid (OK = decide (a.n < 65536)) := Lib.hid (by rw [HOK.out]; simp [okA, sameA, ag0, agN, agS, agX, agQ, agX2, xd0, HIS.out, HS.out, HX.out, HQ.out, HV.out])
      go_enter Tryz.func60, Tryz.ntmps60
      go_upto_region 1 with fail
      rw [← hxb, ← hxv]
      clear hxb hxv
      go_wp2_with (with_reducible refine h_A ?_)
      refine hsv.mono ?_
      rintro e w2 ⟨rfl, hB2⟩
      have hX2 := hX.below hB2
      have ha2 := ha1.up hB2
      have hB12 := hB1.trans (hB2.mono hB1.size)
      have hs2 := hB12.size
      clear c_0 c_1 c_2 c_3 c_4 c_5 c_6 c_7 c_8 c_9 c_10 c_11
      clear hsv
      have c_0 := hX2.c0
      have c_1 := hX2.c1
      have c_2 := hX2.c2
      have c_3 := hX2.c3
      have c_4 := hX2.c4
      have c_5 := hX2.c5
      have c_6 := hX2.c6
      have c_7 := hX2.c7
      have c_8 := hX2.c8
      have c_9 := hX2.c9
      have c_10 := hX2.c10
      have c_11 := hX2.c11
      go_wp2_with (with_reducible refine h_A ?_)
      have hn64 := ha2.n
      have hwd := fun W => rargw_any 119 2 rfl W
      have hS : Box w2.drew xb 80 #[.bool a.is, .int .u64 (a.n : Int), .string (str a.s), .int .u32 (a.x.fmt : Int), .string (str a.x.glob), .string (str a.x.bran), .slice h.A a.q.length h.c, .int .u8 (a.v.kind : Int), .int .u64 (a.v.n : Int), .string (str a.v.s), .slice h.h.A1 a.v.keys.length h.h.c1, .slice h.h.A2 a.v.list.length h.h.c2] := hX2
      have hB3 : Below w.heap.size w w2.drew := below_drewN hB12 1
      refine rg_start (fun W : World => Box W xb 80 #[.bool a.is, .int .u64 (a.n : Int), .string (str a.s), .int .u32 (a.x.fmt : Int), .string (str a.x.glob), .string (str a.x.bran), .slice h.A a.q.length h.c, .int .u8 (a.v.kind : Int), .int .u64 (a.v.n : Int), .string (str a.v.s), .slice h.h.A1 a.v.keys.length h.h.c1, .slice h.h.A2 a.v.list.length h.h.c2]) (by kernel_rfl) ?_
      clear hX2 ha1 ha2 hB1 hB2 hB12 hX
      clear c_0 c_1 c_2 c_3 c_4 c_5 c_6 c_7 c_8 c_9 c_10 c_11
      have hs3 := hB3.size
      generalize w2.drew = w3 at *
      refine rg_take 0 (v := ?_) rfl (by kernel_rfl) (by kernel_rfl) (by kernel_rfl) hS rfl ?_ ?_
      rotate_left
      ·intro wS hSw
       have x1 := hSw.c1
       have x2 := hSw.c2
       go_simp
       (with_reducible rfl)
      try simp only [g_S, Act.put]
      refine rg_take 1 (v := ?_) rfl (by kernel_rfl) (by kernel_rfl) (by kernel_rfl) hS rfl ?_ ?_
      rotate_left
      ·intro wS hSw
       have x1 := hSw.c1
       have x2 := hSw.c2
       go_simp
       (with_reducible rfl)
      try simp only [g_S, Act.put]
      refine rg_take 2 (v := ?_) rfl (by kernel_rfl) (by kernel_rfl) (by kernel_rfl) hS rfl ?_ ?_
      rotate_left
      ·intro wS hSw
       have x1 := hSw.c1
       have x2 := hSw.c2
       go_simp
       (with_reducible rfl)
      try simp only [g_S, Act.put]
      refine rg_take 5 (v := ?_) rfl (by kernel_rfl) (by kernel_rfl) (by kernel_rfl) hS rfl ?_ ?_
      rotate_left
      ·intro wS hSw
       have x1 := hSw.c1
       have x2 := hSw.c2
       go_simp
       (with_reducible rfl)
      try simp only [g_S, Act.put]
      refine rg_take 6 (v := ?_) rfl (by kernel_rfl) (by kernel_rfl) (by kernel_rfl) hS rfl ?_ ?_
      rotate_left
      ·intro wS hSw
       have x1 := hSw.c1
       have x2 := hSw.c2
       go_simp
       (with_reducible rfl)
      try simp only [g_S, Act.put]
      refine rg_take 7 (v := ?_) rfl (by kernel_rfl) (by kernel_rfl) (by kernel_rfl) hS rfl ?_ ?_
      rotate_left
      ·intro wS hSw
       have x1 := hSw.c1
       have x2 := hSw.c2
       go_simp
       (with_reducible rfl)
      try simp only [g_S, Act.put]
      refine rg_one 3 rfl (by kernel_rfl) rfl (fun K hK => ?_)
      go_simp
      refine (hwd _).mono ?_
      rintro e w4 ⟨rfl, rfl⟩
      refine hK _ _ hS ?_; clear hK K
      try simp only [g_S, Act.put]
      refine rg_one 4 rfl (by kernel_rfl) rfl (fun K hK => ?_)
      go_simp
      refine (rnumber_any a.n 2 w4 hn64 (by omega)).mono ?_
      rintro e w5 ⟨A5, c5, rfl, ho5, hB5⟩
      have hS5 := hS.below hB5
      refine hK _ _ hS5 ?_; clear hK K
      try simp only [g_S, Act.put]
      refine rg_one 8 rfl (by kernel_rfl) rfl (fun K hK => ?_)
      go_simp
      refine (hwd _).mono ?_
      rintro e w6 ⟨rfl, rfl⟩
      refine hK _ _ hS5 ?_; clear hK K
      try simp only [g_S, Act.put]
      refine rg_take 9 (v := ?_) rfl (by kernel_rfl) (by kernel_rfl) (by kernel_rfl) hS5 rfl ?_ ?_
      rotate_left
      ·intro wS hSw
       have x1 := hSw.c1
       have x2 := hSw.c2
       go_simp
       (with_reducible rfl)
      try simp only [g_S, Act.put]
      refine rg_take 10 (v := ?_) rfl (by kernel_rfl) (by kernel_rfl) (by kernel_rfl) hS5 rfl ?_ ?_
      rotate_left
      ·intro wS hSw
       have x1 := hSw.c1
       have x2 := hSw.c2
       go_simp
       (with_reducible rfl)
      try simp only [g_S, Act.put]
      refine rg_take 11 (v := ?_) rfl (by kernel_rfl) (by kernel_rfl) (by kernel_rfl) hS5 rfl ?_ ?_
      rotate_left
      ·intro wS hSw
       have x1 := hSw.c1
       have x2 := hSw.c2
       go_simp
       (with_reducible rfl)
      try simp only [g_S, Act.put]
      refine rg_take 12 (v := ?_) rfl (by kernel_rfl) (by kernel_rfl) (by kernel_rfl) hS5 rfl ?_ ?_
      rotate_left
      ·intro wS hSw
       have x1 := hSw.c1
       have x2 := hSw.c2
       go_simp
       (with_reducible rfl)
      try simp only [g_S, Act.put]
      refine rg_take 13 (v := ?_) rfl (by kernel_rfl) (by kernel_rfl) (by kernel_rfl) hS5 rfl ?_ ?_
      rotate_left
      ·intro wS hSw
       have x1 := hSw.c1
       have x2 := hSw.c2
       go_simp
       (with_reducible rfl)
      try simp only [g_S, Act.put]
      refine rg_take 14 (v := ?_) rfl (by kernel_rfl) (by kernel_rfl) (by kernel_rfl) hS5 rfl ?_ ?_
      rotate_left
      ·intro wS hSw
       have x1 := hSw.c1
       have x2 := hSw.c2
       go_simp
       (with_reducible rfl)
      try simp only [g_S, Act.put]
      refine rg_end (by kernel_rfl) ?_
      go_wp2_with (with_reducible refine h_A ?_)
      go_ret2
      refine ⟨A5, _, c5, ?_, hB3.trans (hB5.mono hs3), fun _ => ⟨by rw [be_length], Own.base_le ho5 hs3⟩⟩
      rw [HK2.out]
      have e : decide ((a.n : Int) < IntKind.u64.wrap (2 ^ min (IntKind.u64.wrap (IntKind.i64.wrap 16)).toNat 64)) = decide (a.n < 65536) := by
       rw [show IntKind.u64.wrap (2 ^ min (IntKind.u64.wrap (IntKind.i64.wrap 16)).toNat 64) = (65536 : Int) by decide +kernel]
       apply decide_eq_decide.2
       omega
      exact congrArg (fun b => Ending.returned (.tuple #[.slice A5 2 c5, .bool b])) e
    ·have gq : (0 : Int) < (a.q.length : Int) := by omega
     have HQ : Hid (¬ a.q = []) := Lib.hid (fun e => hq (List.length_eq_zero_iff.2 e))
     clear hq
     obtain rfl : OK = false := by rw [HOK.out]; simp [okA, sameA, ag0, agN, agS, agX, agQ, agX2, xd0, HIS.out, HS.out, HX.out, HQ.out]
     go_enter Tryz.func60, Tryz.ntmps60
     go_upto_region 1 with fail
     rw [← hxb, ← hxv]
     clear hxb hxv
     go_wp2_with (with_reducible refine h_A ?_)
     go_ret2
     exact ⟨none, _, 0, rfl, hB1, fun e => by cases e⟩
   ·have hgd := fun x y => run_eqGuard_agg (P := Tryz.prog) w1 .neq 73 x y #[.int .u32 (a.x.fmt : Int), .string (str a.x.glob), .string (str a.x.bran)] #[.int .u32 0, .string ⟨#[]⟩, .string ⟨#[]⟩] xid_guard
    have hne : ∀ w, (binOp .neq 73 (.agg #[.int .u32 (a.x.fmt : Int), .string (str a.x.glob), .string (str a.x.bran)]) (.agg #[.int .u32 0, .string ⟨#[]⟩, .string ⟨#[]⟩])).run Tryz.prog w = .ok (.bool true) w := fun w => by
     have := xid_neqA a.x xd0 w
     rw [decide_eq_false hx] at this
     exact this
    have HX : Hid (¬ a.x = ⟨0, [], []⟩) := Lib.hid hx
    clear hx
    obtain rfl : OK = false := by rw [HOK.out]; simp [okA, sameA, ag0, agN, agS, agX, agQ, agX2, xd0, HIS.out, HS.out, HX.out]
    go_enter Tryz.func60, Tryz.ntmps60
    go_upto_region 1 with fail
    rw [← hxb, ← hxv]
    clear hxb hxv
    go_wp2_with (with_reducible refine h_A ?_)
    go_ret2
    exact ⟨none, _, 0, rfl, hB1, fun e => by cases e⟩
  ·have gs : ((str a.s).toList != []) = true := by rw [str_toList]; simpa using hs
   have gs2 : (str a.s).toList.isEmpty = false := by rw [str_toList]; simpa using hs
   have HS := Lib.hid hs
   clear hs
   obtain rfl : OK = false := by rw [HOK.out]; simp [okA, sameA, ag0, agN, agS, agX, agQ, agX2, xd0, HIS.out, HS.out]
   go_enter Tryz.func60, Tryz.ntmps60
   go_upto_region 1 with fail
   rw [← hxb, ← hxv]
   clear hxb hxv
   go_wp2_with (with_reducible refine h_A ?_)
   go_ret2
   exact ⟨none, _, 0, rfl, hB1, fun e => by cases e⟩
end Go.PH
end

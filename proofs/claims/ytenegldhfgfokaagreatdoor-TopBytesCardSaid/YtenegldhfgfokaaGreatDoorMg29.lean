/- Texts laid together: MdOneMath, MdGetMath, MdGetMath2, MdSameM, MdSameR, MdSameMR, MdSmall, MdCopy, MdTake. -/
import Derived.Test.YtenegldhfgfokaaGreatDoorMg01
import Derived.Test.YtenegldhfgfokaaGreatDoorMg03
import Derived.Test.YtenegldhfgfokaaGreatDoorMg07
import Derived.Test.YtenegldhfgfokaaGreatDoorMg13
import Derived.Test.YtenegldhfgfokaaGreatDoorMg14
import Derived.Test.YtenegldhfgfokaaGreatDoorMg19
import Derived.Test.YtenegldhfgfokaaGreatDoorMg26
import Derived.Test.YtenegldhfgfokaaGreatDoorMg27
import Derived.Test.YtenegldhfgfokaaGreatDoorMg28
set_option linter.all false
set_option linter.unusedSimpArgs false
set_option linter.unusedVariables false
section
/- Methods that may be are told by their bytes: plain mathematics. -/
namespace Go.PH

theorem spBytes_cut : ∀ (l l' : List Sp) (R S : List UInt8), l.length = l'.length → spOK 4294967296 l → spOK 4294967296 l' → spBytes l ++ R = spBytes l' ++ S → l = l' ∧ R = S
 | [], [], R, S, _, _, _, h => ⟨rfl, h⟩
 | [], _ :: _, _, _, hl, _, _, _ => by simp at hl
 | _ :: _, [], _, _, hl, _, _, _ => by simp at hl
 | a :: l, b :: l', R, S, hl, h1, h2, h => by
  have e1 : spBytes (a :: l) = be 4 a.1 ++ be 4 a.2 ++ spBytes l := rfl
  have e2 : spBytes (b :: l') = be 4 b.1 ++ be 4 b.2 ++ spBytes l' := rfl
  rw [e1, e2] at h
  simp only [List.append_assoc] at h
  have ha := h1 a (List.mem_cons_self ..)
  have hb := h2 b (List.mem_cons_self ..)
  obtain ⟨p1, h⟩ := be_cut (i := 4) ha.1 hb.1 h
  obtain ⟨p2, h⟩ := be_cut (i := 4) ha.2 hb.2 h
  obtain ⟨p3, p4⟩ := spBytes_cut l l' R S (by simpa using hl) (fun x hx => h1 x (List.mem_cons_of_mem _ hx)) (fun x hx => h2 x (List.mem_cons_of_mem _ hx)) h
  exact ⟨by rw [p3, show a = b from Prod.ext p1 p2], p4⟩
theorem spPut_cut {l l' : List Sp} {R S : List UInt8} (e : spPutErr l = 0) (e' : spPutErr l' = 0) (h1 : spOK 4294967296 l) (h2 : spOK 4294967296 l') (h : spPut l ++ R = spPut l' ++ S) : l = l' ∧ R = S := by
 have g : ∀ {m : List Sp}, spPutErr m = 0 → spPut m = be 2 (8 * m.length) ++ spBytes m ∧ m.length ≤ 1000 := by
  intro m hm
  unfold spPutErr at hm
  split at hm
  ·rename_i hr
   split at hm
   ·rename_i hl
    exact ⟨by unfold spPut; rw [if_pos ⟨hr, hl⟩], hl⟩
   ·omega
  ·omega
 obtain ⟨g1, g2⟩ := g e
 obtain ⟨g3, g4⟩ := g e'
 rw [g1, g3, List.append_assoc, List.append_assoc] at h
 obtain ⟨p1, h⟩ := be_cut (i := 2) (by omega) (by omega) h
 exact spBytes_cut l l' R S (by omega) h1 h2 h
theorem xdput_cut {x y : Xd} {R S : List UInt8} (hx : x.fmt < 4294967296) (hy : y.fmt < 4294967296) (kx : x.err = 0) (ky : y.err = 0) (h : x.put ++ R = y.put ++ S) : x = y ∧ R = S := by
 have g : ∀ {z : Xd}, z.err = 0 → z.ok = true := by
  intro z hz
  unfold Xd.err at hz
  split at hz
  ·rename_i h; exact h
  ·omega
 have ox := g kx
 have oy := g ky
 rw [Xd.put_ok ox, Xd.put_ok oy] at h
 have h1 := getX_bytes hx ox R
 have h2 := getX_bytes hy oy S
 rw [h, h2] at h1
 simp only [Prod.mk.injEq] at h1
 exact ⟨h1.1.symm, h1.2.1.symm⟩
/-- what lies in an argument lies within its kinds -/
structure AB (a : Ag) : Prop where
 n : a.n < 18446744073709551616
 x : a.x.fmt < 4294967296
 q : spOK 4294967296 a.q
 v : VB a.v
theorem RA.ab {w : World} {F : Nat → Prop} {a : Ag} {h : AH} (ha : RA w F a h) : AB a := ⟨ha.n, ha.x.1, ha.ok, ha.v.vb⟩
theorem text_ok {s : List UInt8} {i : Nat} (hi : i = 1 ∨ i = 2) (h : textErr s.length (i : Int) = 0) : s.length < 256 ^ i ∧ putsText [] s (i : Int) = be i s.length ++ s := by
 refine ⟨?_, by rw [putsText_ok h]; simp⟩
 unfold textErr at h
 rcases hi with rfl | rfl <;> simp at h <;> exact h
theorem byA_cut {kd : UInt8} (hk : kd ∈ kindL) {a b : Ag} {R S : List UInt8} (ba : AB a) (bb : AB b) (ha : okA kd a = true) (hb : okA kd b = true) (his : a.is = b.is) (h : byA kd a ++ R = byA kd b ++ S) : a = b ∧ R = S := by
 unfold kindL at hk
 simp only [List.mem_cons, List.not_mem_nil, or_false] at hk
 rcases hk with rfl | rfl | rfl | rfl | rfl | rfl | rfl | rfl | rfl
 ·have ea := (sameA_iff _ _).1 (show sameA a (ag0 a.is) = true from ha)
  have eb := (sameA_iff _ _).1 (show sameA b (ag0 b.is) = true from hb)
  exact ⟨by rw [ea, eb, his], h⟩
 ·obtain ⟨na, ea⟩ := Bool.and_eq_true _ _ ▸ (show (decide (a.n < 256) && sameA a (agN a)) = true from ha)
  obtain ⟨nb, eb⟩ := Bool.and_eq_true _ _ ▸ (show (decide (b.n < 256) && sameA b (agN b)) = true from hb)
  obtain ⟨e, h2⟩ := be_cut (i := 1) (by simpa using na) (by simpa using nb) (show be 1 a.n ++ R = be 1 b.n ++ S from h)
  exact ⟨by rw [(sameA_iff _ _).1 ea, (sameA_iff _ _).1 eb]; unfold agN; simp [e], h2⟩
 ·obtain ⟨na, ea⟩ := Bool.and_eq_true _ _ ▸ (show (decide (a.n < 65536) && sameA a (agN a)) = true from ha)
  obtain ⟨nb, eb⟩ := Bool.and_eq_true _ _ ▸ (show (decide (b.n < 65536) && sameA b (agN b)) = true from hb)
  obtain ⟨e, h2⟩ := be_cut (i := 2) (by simpa using na) (by simpa using nb) (show be 2 a.n ++ R = be 2 b.n ++ S from h)
  exact ⟨by rw [(sameA_iff _ _).1 ea, (sameA_iff _ _).1 eb]; unfold agN; simp [e], h2⟩
 ·obtain ⟨na, ea⟩ := Bool.and_eq_true _ _ ▸ (show (decide (a.n < 4294967296) && sameA a (agN a)) = true from ha)
  obtain ⟨nb, eb⟩ := Bool.and_eq_true _ _ ▸ (show (decide (b.n < 4294967296) && sameA b (agN b)) = true from hb)
  obtain ⟨e, h2⟩ := be_cut (i := 4) (by simpa using na) (by simpa using nb) (show be 4 a.n ++ R = be 4 b.n ++ S from h)
  exact ⟨by rw [(sameA_iff _ _).1 ea, (sameA_iff _ _).1 eb]; unfold agN; simp [e], h2⟩
 ·obtain ⟨na, ea⟩ := Bool.and_eq_true _ _ ▸ (show (decide (textErr a.s.length 1 = 0) && sameA a (agS a)) = true from ha)
  obtain ⟨nb, eb⟩ := Bool.and_eq_true _ _ ▸ (show (decide (textErr b.s.length 1 = 0) && sameA b (agS b)) = true from hb)
  obtain ⟨l1, t1⟩ := text_ok (i := 1) (Or.inl rfl) (of_decide_eq_true na)
  obtain ⟨l2, t2⟩ := text_ok (i := 1) (Or.inl rfl) (of_decide_eq_true nb)
  have h' : putsText [] a.s ((1 : Nat) : Int) ++ R = putsText [] b.s ((1 : Nat) : Int) ++ S := h
  rw [t1, t2] at h'
  obtain ⟨e, h2⟩ := text_cut l1 l2 h'
  exact ⟨by rw [(sameA_iff _ _).1 ea, (sameA_iff _ _).1 eb]; unfold agS; simp [e], h2⟩
 ·obtain ⟨na, ea⟩ := Bool.and_eq_true _ _ ▸ (show (decide (textErr a.s.length 2 = 0) && sameA a (agS a)) = true from ha)
  obtain ⟨nb, eb⟩ := Bool.and_eq_true _ _ ▸ (show (decide (textErr b.s.length 2 = 0) && sameA b (agS b)) = true from hb)
  obtain ⟨l1, t1⟩ := text_ok (i := 2) (Or.inr rfl) (of_decide_eq_true na)
  obtain ⟨l2, t2⟩ := text_ok (i := 2) (Or.inr rfl) (of_decide_eq_true nb)
  have h' : putsText [] a.s ((2 : Nat) : Int) ++ R = putsText [] b.s ((2 : Nat) : Int) ++ S := h
  rw [t1, t2] at h'
  obtain ⟨e, h2⟩ := text_cut l1 l2 h'
  exact ⟨by rw [(sameA_iff _ _).1 ea, (sameA_iff _ _).1 eb]; unfold agS; simp [e], h2⟩
 ·obtain ⟨na, ea⟩ := Bool.and_eq_true _ _ ▸ (show (decide (((a.x.err : Nat) : Int) = 0) && sameA a (agX a)) = true from ha)
  obtain ⟨nb, eb⟩ := Bool.and_eq_true _ _ ▸ (show (decide (((b.x.err : Nat) : Int) = 0) && sameA b (agX b)) = true from hb)
  obtain ⟨e, h2⟩ := xdput_cut ba.x bb.x (by have := of_decide_eq_true na; omega) (by have := of_decide_eq_true nb; omega) (show a.x.put ++ R = b.x.put ++ S from h)
  exact ⟨by rw [(sameA_iff _ _).1 ea, (sameA_iff _ _).1 eb]; unfold agX; simp [e], h2⟩
 ·obtain ⟨na, ea⟩ := Bool.and_eq_true _ _ ▸ (show (decide (((spPutErr a.q : Nat) : Int) = 0) && sameA a (agQ a)) = true from ha)
  obtain ⟨nb, eb⟩ := Bool.and_eq_true _ _ ▸ (show (decide (((spPutErr b.q : Nat) : Int) = 0) && sameA b (agQ b)) = true from hb)
  obtain ⟨e, h2⟩ := spPut_cut (by have := of_decide_eq_true na; omega) (by have := of_decide_eq_true nb; omega) ba.q bb.q (show spPut a.q ++ R = spPut b.q ++ S from h)
  exact ⟨by rw [(sameA_iff _ _).1 ea, (sameA_iff _ _).1 eb]; unfold agQ; simp [e], h2⟩
 ·obtain ⟨na, ea⟩ := Bool.and_eq_true _ _ ▸ (show (decide (errV a.v = 0) && sameA a (agX2 a)) = true from ha)
  obtain ⟨nb, eb⟩ := Bool.and_eq_true _ _ ▸ (show (decide (errV b.v = 0) && sameA b (agX2 b)) = true from hb)
  have na' := of_decide_eq_true na
  have nb' := of_decide_eq_true nb
  have h' : vlP a.v ++ R = vlP b.v ++ S := h
  unfold vlP at h'
  rw [if_pos na', if_pos nb'] at h'
  obtain ⟨c1, m1⟩ := errV_ok na'
  obtain ⟨c2, m2⟩ := errV_ok nb'
  obtain ⟨e, h2⟩ := vlB_cut a.v m1 ba.v ⟨200, Int.le_refl _, c1⟩ b.v R S m2 bb.v ⟨200, Int.le_refl _, c2⟩ h'
  exact ⟨by rw [(sameA_iff _ _).1 ea, (sameA_iff _ _).1 eb]; unfold agX2; simp [e], h2⟩
theorem flags_cut : ∀ (l l' : List Ag), l.length = l'.length → flagsM (l.map toSA) = flagsM (l'.map toSA) → ∀ i (h : i < l.length) (h' : i < l'.length), l[i].is = l'[i].is
 | [], [], _, _, i, h, _ => by simp at h
 | [], _ :: _, hl, _, _, _, _ => by simp at hl
 | _ :: _, [], hl, _, _, _, _ => by simp at hl
 | a :: l, b :: l', hl, h, i, hi, hi' => by
  simp only [List.map_cons, flagsM] at h
  have e1 : (toSA a).is = a.is := rfl
  have e2 : (toSA b).is = b.is := rfl
  rw [e1, e2] at h
  have hh : a.is = b.is ∧ flagsM (l.map toSA) = flagsM (l'.map toSA) := by
   cases ha : a.is <;> cases hb : b.is <;> rw [ha, hb] at h <;> simp at h <;> first | exact ⟨rfl, by omega⟩ | (exfalso; omega)
  cases i with
  | zero => exact hh.1
  | succ i => exact flags_cut l l' (by simpa using hl) hh.2 i (by simpa using hi) (by simpa using hi')
theorem args_cut (kd : List UInt8) (hk : ∀ x ∈ kd, x ∈ kindL) : ∀ (n i : Nat) (l l' : List Ag) (R S : List UInt8), l.length = kd.length → l'.length = kd.length → n + i = kd.length → (∀ a ∈ l, AB a) → (∀ a ∈ l', AB a) →
  (∀ j (h : j < l.length) (h' : j < l'.length), l[j].is = l'[j].is) → (∀ j (h : j < kd.length) (h1 : j < l.length) (h2 : j < l'.length), okA kd[j] l[j] = true ∧ okA kd[j] l'[j] = true) →
  ((List.range' i n).flatMap (fun j => match kd[j]?, l[j]? with | some k, some a => byA k a | _, _ => [])) ++ R = ((List.range' i n).flatMap (fun j => match kd[j]?, l'[j]? with | some k, some a => byA k a | _, _ => [])) ++ S → l.drop i = l'.drop i ∧ R = S := by
 intro n
 induction n with
 | zero =>
  intro i l l' R S h1 h2 h3 _ _ _ _ h
  refine ⟨by rw [List.drop_eq_nil_of_le (by omega), List.drop_eq_nil_of_le (by omega)], by simpa using h⟩
 | succ n ih =>
  intro i l l' R S h1 h2 h3 b1 b2 his hok h
  rw [List.range'_succ, List.flatMap_cons, List.flatMap_cons, List.append_assoc, List.append_assoc] at h
  have g0 : i < kd.length := by omega
  have g1 : i < l.length := by omega
  have g2 : i < l'.length := by omega
  rw [List.getElem?_eq_getElem g0, List.getElem?_eq_getElem g1, List.getElem?_eq_getElem g2] at h
  simp only at h
  obtain ⟨e, h⟩ := byA_cut (hk _ (List.getElem_mem g0)) (b1 _ (List.getElem_mem g1)) (b2 _ (List.getElem_mem g2)) (hok i g0 g1 g2).1 (hok i g0 g1 g2).2 (his i g1 g2) h
  obtain ⟨e2, h4⟩ := ih (i + 1) l l' R S h1 h2 (by omega) b1 b2 his hok h
  exact ⟨by rw [List.drop_eq_getElem_cons g1, List.drop_eq_getElem_cons g2, e, e2], h4⟩
/-- methods that may be have the same bytes just if they are the same -/
theorem putM_inj {a b : Mt} (ha : goodM a = true) (hb : goodM b = true) (ba : a.cls < 256 ∧ a.code < 256 ∧ ∀ x ∈ a.args, AB x) (bb : b.cls < 256 ∧ b.code < 256 ∧ ∀ x ∈ b.args, AB x) (h : putM a = putM b) : a = b := by
 unfold putM at h
 rw [if_pos ha, if_pos hb] at h
 unfold goodM formM at ha hb
 simp only [Bool.and_eq_true, decide_eq_true_eq, List.all_eq_true, List.mem_range] at ha hb
 obtain ⟨⟨⟨_, la⟩, sa⟩, oa⟩ := ha
 obtain ⟨⟨⟨_, lb⟩, sb⟩, ob⟩ := hb
 obtain ⟨a1, a2, a3⟩ := ba
 obtain ⟨b1, b2, b3⟩ := bb
 unfold headM at h
 simp only [List.append_assoc, List.cons_append, List.nil_append, List.cons.injEq] at h
 obtain ⟨c1, c2, h⟩ := h
 have d1 : a.cls = b.cls := by
  have := congrArg UInt8.toNat c1
  simp only [UInt8.toNat_ofNat'] at this
  omega
 have d2 : a.code = b.code := by
  have := congrArg UInt8.toNat c2
  simp only [UInt8.toNat_ofNat'] at this
  omega
 have hkd : kindsM a = kindsM b := by unfold kindsM; rw [d1, d2]
 have hk3 := (kinds_ok b.cls b.code).2
 have hko := (kinds_ok b.cls b.code).1
 have hf : a.sync = b.sync ∧ be 2 (flagsM (a.args.map toSA)) ++ (List.range a.args.length).flatMap (byI a) = be 2 (flagsM (b.args.map toSA)) ++ (List.range b.args.length).flatMap (byI b) := by
  rw [d1] at h sa
  by_cases hc : b.cls ≤ 2
  ·rw [if_pos hc, if_pos hc] at h
   rw [decide_eq_true hc] at sa sb
   simp at sa sb
   exact ⟨by rw [sa, sb], by simpa using h⟩
  ·rw [if_neg hc, if_neg hc] at h
   simp only [List.cons_append, List.nil_append, List.cons.injEq, true_and] at h
   refine ⟨?_, h.2⟩
   have := h.1
   cases hsa : a.sync <;> cases hsb : b.sync <;> rw [hsa, hsb] at this <;> first | rfl | (exact absurd this (by decide))
 obtain ⟨d3, h⟩ := hf
 have ll : a.args.length = b.args.length := by rw [la, lb, hkd]
 have f1 := flagsM_lt (a.args.map toSA)
 have f2 := flagsM_lt (b.args.map toSA)
 rw [List.length_map] at f1 f2
 have hl3 : b.args.length ≤ 3 := by rw [lb]; exact hk3
 have p1 : (2 : Nat) ^ a.args.length ≤ 2 ^ 3 := Nat.pow_le_pow_right (by omega) (by omega)
 have p2 : (2 : Nat) ^ b.args.length ≤ 2 ^ 3 := Nat.pow_le_pow_right (by omega) hl3
 obtain ⟨e1, h⟩ := be_cut (i := 2) (by omega) (by omega) h
 have his := flags_cut a.args b.args ll e1
 rw [ll] at h
 have hb' : ∀ m : Mt, byI m = fun j => match (kindsM m)[j]?, m.args[j]? with | some k, some a => byA k a | _, _ => [] := fun m => by funext j; rfl
 rw [hb', hb', hkd, List.range_eq_range'] at h
 have := args_cut (kindsM b) hko b.args.length 0 a.args b.args [] [] (by rw [la, hkd]) lb (by rw [lb]; omega) a3 b3 his (fun j h0 h1 h2 => by
  have q1 := oa j h1
  have q2 := ob j h2
  unfold okI at q1 q2
  rw [hkd] at q1
  rw [List.getElem?_eq_getElem h0, List.getElem?_eq_getElem h1] at q1
  rw [List.getElem?_eq_getElem h0, List.getElem?_eq_getElem h2] at q2
  exact ⟨q1, q2⟩) (by rw [List.append_nil, List.append_nil]; exact h)
 have e5 : a.args = b.args := by simpa using this.1
 cases a; cases b
 simp only at d1 d2 d3 e5
 rw [d1, d2, d3, e5]
end Go.PH
end
section
/- What Get of a method answers, as plain mathematics. -/
namespace Go.PH

/-- no method -/
def mt0 : Mt := ⟨0, 0, false, []⟩
/-- a method's numbers lie within their kinds -/
def MB (m : Mt) : Prop := m.cls < 256 ∧ m.code < 256 ∧ ∀ x ∈ m.args, AB x
/-- what Get of bytes answers: the method, the error -/
def GetM (b : List UInt8) (m : Mt) (er : Int) : Prop :=
 (b.length < 2 ∧ er = 4 ∧ m = mt0) ∨
 (2 ≤ b.length ∧ findM (b.getD 0 0).toNat (b.getD 1 0).toNat = none ∧ er = 80 ∧ m = mt0) ∨
 (2 ≤ b.length ∧ (findM (b.getD 0 0).toNat (b.getD 1 0).toNat).isSome = true ∧ ((er = 0 ∧ MB m ∧ goodM m = true ∧ putM m = b) ∨ (er = 5 ∧ m = mt0 ∧ ∀ m', goodM m' = true → MB m' → putM m' ≠ b)))
/-- two that answer so answer the same -/
theorem GetM.uniq {b : List UInt8} {m n : Mt} {e f : Int} (h : GetM b m e) (k : GetM b n f) : m = n ∧ e = f := by
 rcases h with ⟨h1, h2, h3⟩ | ⟨h1, h2, h3, h4⟩ | ⟨h1, h2, h3⟩
 ·rcases k with ⟨k1, k2, k3⟩ | ⟨k1, _⟩ | ⟨k1, _⟩
  ·exact ⟨by rw [h3, k3], by rw [h2, k2]⟩
  ·omega
  ·omega
 ·rcases k with ⟨k1, k2, k3⟩ | ⟨k1, k2, k3, k4⟩ | ⟨k1, k2, _⟩
  ·omega
  ·exact ⟨by rw [h4, k4], by rw [h3, k3]⟩
  ·rw [h2] at k2; cases k2
 ·rcases k with ⟨k1, k2, k3⟩ | ⟨k1, k2, k3, k4⟩ | ⟨k1, k2, k3⟩
  ·omega
  ·rw [k2] at h2; cases h2
  ·rcases h3 with ⟨e1, hb, hg, hp⟩ | ⟨e1, e2, hno⟩
   ·rcases k3 with ⟨f1, kb, kg, kp⟩ | ⟨f1, f2, kno⟩
    ·exact ⟨putM_inj hg kg hb kb (by rw [hp, kp]), by rw [e1, f1]⟩
    ·exact absurd hp (kno m hg hb)
   ·rcases k3 with ⟨f1, kb, kg, kp⟩ | ⟨f1, f2, kno⟩
    ·exact absurd kp (hno n kg kb)
    ·exact ⟨by rw [e2, f2], by rw [e1, f1]⟩
/-- the bytes of a method that may be, part by part -/
theorem get_parts {m : Mt} {b : List UInt8} (hg : goodM m = true) (hb : MB m) (hp : putM m = b) :
  2 ≤ b.length ∧ (b.getD 0 0).toNat = m.cls ∧ (b.getD 1 0).toNat = m.code ∧ (findM m.cls m.code).isSome = true ∧ m.args.length = (kindsO (findM m.cls m.code)).length ∧
  (m.cls ≤ 2 → m.sync = false ∧ b.drop 2 = be 2 (flagsM (m.args.map toSA)) ++ (List.range m.args.length).flatMap (byI m)) ∧
  (¬ m.cls ≤ 2 → 4 ≤ b.length ∧ b.getD 3 0 = (if m.sync then 1 else 0) ∧ b.drop 4 = be 2 (flagsM (m.args.map toSA)) ++ (List.range m.args.length).flatMap (byI m)) := by
 have hf : formM m = true := by
  unfold goodM at hg
  rw [Bool.and_eq_true] at hg
  exact hg.1
 unfold formM kindsM at hf
 simp only [Bool.and_eq_true, decide_eq_true_eq] at hf
 obtain ⟨⟨h1, h2⟩, h3⟩ := hf
 unfold putM at hp
 rw [if_pos hg] at hp
 unfold headM at hp
 have hc : (UInt8.ofNat m.cls).toNat = m.cls := by rw [UInt8.toNat_ofNat']; exact Nat.mod_eq_of_lt hb.1
 have hd : (UInt8.ofNat m.code).toNat = m.code := by rw [UInt8.toNat_ofNat']; exact Nat.mod_eq_of_lt hb.2.1
 generalize (List.range m.args.length).flatMap (byI m) = Y at *
 generalize be 2 (flagsM (m.args.map toSA)) = X at *
 subst hp
 refine ⟨by simp, by simpa using hc, by simpa using hd, h1, h2, fun h => ?_, fun h => ?_⟩
 ·refine ⟨?_, by rw [if_pos h]; simp⟩
  cases hs : m.sync
  ·rfl
  ·rw [hs] at h3; simp [h] at h3
 ·rw [if_neg h]
  exact ⟨by simp, by simp, by simp⟩
/-- a flag is told by its place -/
theorem flagsM_bit : ∀ (l : List SA) (i : Nat) (hi : i < l.length), flagsM l / 2 ^ i % 2 = if l[i].is then 1 else 0
 | [], i, hi => by simp at hi
 | a :: l, 0, hi => by
  rw [flagsM, Nat.pow_zero, Nat.div_one]
  simp only [List.getElem_cons_zero]
  split <;> omega
 | a :: l, i + 1, hi => by
  rw [flagsM, Nat.pow_succ, Nat.mul_comm (2 ^ i) 2, ← Nat.div_div_eq_div_mul]
  have e : ((if a.is = true then 1 else 0) + 2 * flagsM l) / 2 = flagsM l := by split <;> omega
  rw [e]
  simp only [List.getElem_cons_succ]
  exact flagsM_bit l i (by simpa using hi)
/-- the bytes of the arguments from the i-th on -/
theorem args_cons {n i : Nat} (f : Nat → List UInt8) (hi : i < n) : ((List.range n).drop i).flatMap f = f i ++ ((List.range n).drop (i + 1)).flatMap f := by
 rw [List.drop_eq_getElem_cons (by simpa using hi), List.flatMap_cons, List.getElem_range]
/-- an argument that may be, of a method that may be -/
theorem arg_ok {m : Mt} (hg : goodM m = true) {i : Nat} (hi : i < m.args.length) (h' : i < (kindsO (findM m.cls m.code)).length) : okA (kindsO (findM m.cls m.code))[i] m.args[i] = true ∧ byI m i = byA (kindsO (findM m.cls m.code))[i] m.args[i] := by
 unfold goodM at hg
 rw [Bool.and_eq_true] at hg
 have h1 := List.all_eq_true.1 hg.2 i (List.mem_range.2 hi)
 unfold okI kindsM at h1
 rw [List.getElem?_eq_getElem h', List.getElem?_eq_getElem hi] at h1
 refine ⟨h1, ?_⟩
 unfold byI kindsM
 rw [List.getElem?_eq_getElem h', List.getElem?_eq_getElem hi]
end Go.PH
end
section
/- What Get of a method reads, step by step, as plain mathematics. -/
namespace Go.PH

/-- where a method's flags lie -/
def atM (x : Nat) : Nat := if x ≤ 2 then 2 else 4
/-- is a method's mark set -/
def syncM (x : Nat) (b : List UInt8) : Bool := !decide (x ≤ 2) && (b[3]? == some 1)
/-- what the bytes of a method that may be tell -/
structure Told (b : List UInt8) (m : Mt) : Prop where
 good : goodM m = true
 mb : MB m
 put : putM m = b
theorem flagsM_lt4 (l : List SA) (h : l.length ≤ 3) : flagsM l < 65536 := by
 have h1 := flagsM_lt l
 have h2 : 2 ^ l.length ≤ 2 ^ 3 := Nat.pow_le_pow_right (by omega) h
 omega
theorem told_args {b : List UInt8} {m : Mt} (h : Told b m) : m.args.length = (kindsO (findM m.cls m.code)).length ∧ m.args.length ≤ 3 := by
 obtain ⟨_, _, _, _, h5, _, _⟩ := get_parts h.good h.mb h.put
 exact ⟨h5, by rw [h5]; exact (kinds_ok _ _).2⟩
/-- its head -/
theorem told_head {x y : UInt8} {r b : List UInt8} (hb : b = x :: y :: r) {m : Mt} (h : Told b m) : m.cls = x.toNat ∧ m.code = y.toNat ∧ m.sync = syncM x.toNat b ∧ atM x.toNat + 2 ≤ b.length ∧
  mnum (b.drop (atM x.toNat)) false 2 = (flagsM (m.args.map toSA), (List.range m.args.length).flatMap (byI m), false) := by
 obtain ⟨h1, h2, h3, h4, h5, h6, h7⟩ := get_parts h.good h.mb h.put
 have e1 : m.cls = x.toNat := by rw [← h2, hb]; rfl
 have e2 : m.code = y.toNat := by rw [← h3, hb]; rfl
 have hfl : flagsM (m.args.map toSA) < 65536 := flagsM_lt4 _ (by rw [List.length_map]; exact (told_args h).2)
 have hnum : ∀ Y, mnum (be 2 (flagsM (m.args.map toSA)) ++ Y) false 2 = (flagsM (m.args.map toSA), Y, false) := fun Y => mnum_at 2 (.inr (.inl rfl)) _ (by omega) Y
 by_cases hc : m.cls ≤ 2
 ·obtain ⟨a1, a2⟩ := h6 hc
  have hat : atM x.toNat = 2 := by unfold atM; rw [if_pos (by omega)]
  have hl := congrArg List.length a2
  simp only [List.length_drop, List.length_append, be_length] at hl
  refine ⟨e1, e2, ?_, by rw [hat]; omega, ?_⟩
  ·rw [a1]; unfold syncM; rw [decide_eq_true (by omega)]; rfl
  ·rw [hat, a2, hnum]
 ·obtain ⟨a0, a1, a2⟩ := h7 hc
  have hat : atM x.toNat = 4 := by unfold atM; rw [if_neg (by omega)]
  have hl := congrArg List.length a2
  simp only [List.length_drop, List.length_append, be_length] at hl
  refine ⟨e1, e2, ?_, by rw [hat]; omega, ?_⟩
  ·unfold syncM
   rw [decide_eq_false (by omega)]
   have h3 : b[3]? = some (b.getD 3 0) := by
    rw [List.getD_eq_getElem?_getD, List.getElem?_eq_getElem (by omega)]; rfl
   rw [h3, a1]
   cases m.sync <;> rfl
  ·rw [hat, a2, hnum]
/-- the state of reading: so many arguments, what is left, is it bad -/
def ReadTo (b : List UInt8) (i : Nat) (gs : List Ag) (l : List UInt8) (bad : Bool) : Prop := ∀ m, Told b m → gs = m.args.take i ∧ l = ((List.range m.args.length).drop i).flatMap (byI m) ∧ bad = false
theorem ReadTo.start {x y : UInt8} {r b : List UInt8} (hb : b = x :: y :: r) {l : List UInt8} {fl : Nat} {bad : Bool} (h : mnum (b.drop (atM x.toNat)) false 2 = (fl, l, bad)) : ReadTo b 0 [] l false := fun m hm => by
 obtain ⟨_, _, _, _, h5⟩ := told_head hb hm
 rw [h] at h5
 injection h5 with h5 h6
 injection h6 with h6 h7
 exact ⟨by simp, by rw [h6]; simp, rfl⟩
theorem ReadTo.step {x y : UInt8} {r b : List UInt8} (hb : b = x :: y :: r) {kd : List UInt8} (hk : kd = kindsO (findM x.toNat y.toNat)) {i : Nat} {gs : List Ag} {l l' : List UInt8} {bad bad' : Bool} {a : Ag} {is : Bool} (h : ReadTo b i gs l bad) (hi : i < kd.length)
  (his : ∀ m, Told b m → ∀ (h : i < m.args.length), m.args[i].is = is)
  (ha : ∀ (a' : Ag) (rest : List UInt8), bad = false → l = byA kd[i] a' ++ rest → okA kd[i] a' = true → AB a' → a'.is = is → a = a' ∧ l' = rest ∧ bad' = false) : ReadTo b (i + 1) (gs ++ [a]) l' bad' := fun m hm => by
 obtain ⟨h1, h2, h3⟩ := h m hm
 obtain ⟨e1, e2, _⟩ := told_head hb hm
 have hl := (told_args hm).1
 have hkl : kindsO (findM m.cls m.code) = kd := by rw [hk, e1, e2]
 have hil : i < m.args.length := by rw [hl, hkl]; exact hi
 have hik : i < (kindsO (findM m.cls m.code)).length := by rw [hkl]; exact hi
 obtain ⟨g1, g2⟩ := arg_ok hm.good hil hik
 simp only [hkl] at g1 g2
 rw [args_cons _ (by simpa using hil), g2] at h2
 obtain ⟨q1, q2, q3⟩ := ha m.args[i] _ h3 h2 g1 (hm.mb.2.2 _ (List.getElem_mem hil)) (his m hm hil)
 exact ⟨by rw [List.take_succ_eq_append_getElem hil, h1, q1], q2, q3⟩
/-- what was read is the method -/
theorem ReadTo.all {x y : UInt8} {r b : List UInt8} (hb : b = x :: y :: r) {kd : List UInt8} (hk : kd = kindsO (findM x.toNat y.toNat)) {gs : List Ag} {l : List UInt8} {bad : Bool} (h : ReadTo b kd.length gs l bad) {m : Mt} (hm : Told b m) : m = ⟨x.toNat, y.toNat, syncM x.toNat b, gs⟩ ∧ bad = false := by
 obtain ⟨h1, h2, h3⟩ := h m hm
 obtain ⟨e1, e2, e3, _⟩ := told_head hb hm
 have hl := (told_args hm).1
 rw [e1, e2, ← hk] at hl
 rw [← hl, List.take_of_length_le (Nat.le_refl _)] at h1
 refine ⟨?_, h3⟩
 obtain ⟨c, d, s, g⟩ := m
 simp only at e1 e2 e3 h1
 rw [e1, e2, e3, h1]
/-- the flag of an argument -/
theorem told_is {x y : UInt8} {r b : List UInt8} (hb : b = x :: y :: r) {l : List UInt8} {fl : Nat} {bad : Bool} (h : mnum (b.drop (atM x.toNat)) false 2 = (fl, l, bad)) {i : Nat} {m : Mt} (hm : Told b m) (hi : i < m.args.length) : m.args[i].is = decide (fl / 2 ^ i % 2 = 1) := by
 obtain ⟨_, _, _, _, h5⟩ := told_head hb hm
 rw [h] at h5
 injection h5 with h5 _
 have h6 := flagsM_bit (m.args.map toSA) i (by simpa using hi)
 rw [← h5] at h6
 rw [h6]
 have e : ((m.args.map toSA)[i]'(by simpa using hi)).is = m.args[i].is := by rw [List.getElem_map]; rfl
 rw [e]
 cases m.args[i].is <;> simp
end Go.PH
end
section
/- '==' of methods: the walk of the program. -/
namespace Go.PH
open Go.RowKit Go.Proofs

theorem RM.len {w : World} {F : Nat → Prop} {m : Mt} {A : Option Addr} {c : Nat} (h : RM w F m A c) : m.args.length ≤ 140737488351232 := by
 exact h.c
set_option maxRecDepth 20000 in
set_option maxHeartbeats 1000000 in
theorem eqarg_any (v u : Mt) (A : Option Addr) (c : Nat) (A' : Option Addr) (c' : Nat) (w : World) (hv : RMw w v A c) (hu : RMw w u A' c') :
  Calls Tryz.prog 31 #[.slice A v.args.length c, .slice A' u.args.length c', .func (.func 32) #[] #[]] w fun e w' => e = .returned (.bool (sameAs v.args u.args)) ∧ Below w.heap.size w w' := by
 have hel := fun {i : Nat} (hi : i < v.args.length) => hv.elem hi
 have hfl := fun {i : Nat} (hi : i < u.args.length) => hu.elem hi
 obtain ⟨N, hN⟩ : ∃ N, N = v.args.length := ⟨_, rfl⟩
 have hNm : N ≤ 140737488351232 := by rw [hN]; exact hv.len
 obtain ⟨M, hM⟩ : ∃ M, M = u.args.length := ⟨_, rfl⟩
 have hMm : M ≤ 140737488351232 := by rw [hM]; exact hu.len
 rw [← hN, ← hM]
 have HN := Lib.hid hN
 have HM := Lib.hid hM
 clear hN hM hv hu
 by_cases hnn : N = M
 ·subst hnn
  have g0 : ((N : Int) != (N : Int)) = false := by simp
  go_enter Tryz.func31, Tryz.ntmps31
  go_wp2_with (with_reducible refine h_A ?_)
  clear g0
  go_loopw [17] (fun s wr => ∃ i : Nat, i ≤ N ∧ s = .int .i64 i ∧ Below w.heap.size w wr ∧ Hid (sameAs (v.args.drop i) (u.args.drop i) = sameAs v.args u.args)) (fun s _ => N - (RowKit.intOf s).toNat)
  case atStart => exact ⟨0, by omega, rfl, Below.refl _ _, Lib.hid rfl⟩
  case round =>
   as_aux_lemma =>
   obtain ⟨i, hi, rfl, hB, HC⟩ := hrel
   by_cases hlt : i < N
   ·have g1 : (i : Int) < (N : Int) := by omega
    have hil : i < v.args.length := by rw [← HN.out]; exact hlt
    have hil' : i < u.args.length := by rw [← HM.out]; exact hlt
    obtain ⟨b, off, hx, rfl, hvx, HX⟩ := hel hil
    obtain ⟨b', off', hy, rfl, hvy, HY⟩ := hfl hil'
    have HD : Hid (sameAs (v.args.drop i) (u.args.drop i) = (sameA v.args[i] u.args[i] && sameAs (v.args.drop (i + 1)) (u.args.drop (i + 1)))) := Lib.hid (by rw [List.drop_eq_getElem_cons hil, List.drop_eq_getElem_cons hil', sameAs_cons])
    have hrec := fun (W : World) (hW : Below w.heap.size w W) => msameA_any v.args[i] u.args[i] hx hy W (hvx.up hW) (hvy.up hW)
    clear hel hvx hfl hvy
    generalize v.args[i] = x at *
    generalize u.args[i] = y at *
    have HX1 := HX wr hB
    have k_0 := HX1 0 _ rfl
    have k_1 := HX1 1 _ rfl
    have k_2 := HX1 2 _ rfl
    have k_3 := HX1 3 _ rfl
    have k_4 := HX1 4 _ rfl
    have k_5 := HX1 5 _ rfl
    have k_6 := HX1 6 _ rfl
    have k_7 := HX1 7 _ rfl
    have k_8 := HX1 8 _ rfl
    have k_9 := HX1 9 _ rfl
    have k_10 := HX1 10 _ rfl
    have k_11 := HX1 11 _ rfl
    simp only [Nat.add_zero] at k_0
    clear HX1 HX
    obtain ⟨xb, w1, hxb, hxv, hX, hB1⟩ := alloc_stepV wr #[.bool x.is, .int .u64 (x.n : Int), .string (str x.s), .int .u32 (x.x.fmt : Int), .string (str x.x.glob), .string (str x.x.bran), .slice hx.A x.q.length hx.c, .int .u8 (x.v.kind : Int), .int .u64 (x.v.n : Int), .string (str x.v.s), .slice hx.h.A1 x.v.keys.length hx.h.c1, .slice hx.h.A2 x.v.list.length hx.h.c2] 71
    have hBx := hB.trans (hB1.mono hB.size)
    have HY1 := HY w1 hBx
    have q_0 := HY1 0 _ rfl
    have q_1 := HY1 1 _ rfl
    have q_2 := HY1 2 _ rfl
    have q_3 := HY1 3 _ rfl
    have q_4 := HY1 4 _ rfl
    have q_5 := HY1 5 _ rfl
    have q_6 := HY1 6 _ rfl
    have q_7 := HY1 7 _ rfl
    have q_8 := HY1 8 _ rfl
    have q_9 := HY1 9 _ rfl
    have q_10 := HY1 10 _ rfl
    have q_11 := HY1 11 _ rfl
    simp only [Nat.add_zero] at q_0
    clear HY1 HY
    obtain ⟨yb, w2, hyb, hyv, hY, hB2⟩ := alloc_stepV w1 #[.bool y.is, .int .u64 (y.n : Int), .string (str y.s), .int .u32 (y.x.fmt : Int), .string (str y.x.glob), .string (str y.x.bran), .slice hy.A y.q.length hy.c, .int .u8 (y.v.kind : Int), .int .u64 (y.v.n : Int), .string (str y.v.s), .slice hy.h.A1 y.v.keys.length hy.h.c1, .slice hy.h.A2 y.v.list.length hy.h.c2] 71
    have hBy := hBx.trans (hB2.mono hBx.size)
    have h1 := hrec w2 hBy
    have hX2 := hX.below hB2
    clear hrec hX
    unfold agV at h1
    have c_0 := hX2.c0
    have c_1 := hX2.c1
    have c_2 := hX2.c2
    have c_3 := hX2.c3
    have c_4 := hX2.c4
    have c_5 := hX2.c5
    have c_6 := hX2.c6
    have c_7 := hX2.c7
    have c_8 := hX2.c8
    have c_9 := hX2.c9
    have c_10 := hX2.c10
    have c_11 := hX2.c11
    have d_0 := hY.c0
    have d_1 := hY.c1
    have d_2 := hY.c2
    have d_3 := hY.c3
    have d_4 := hY.c4
    have d_5 := hY.c5
    have d_6 := hY.c6
    have d_7 := hY.c7
    have d_8 := hY.c8
    have d_9 := hY.c9
    have d_10 := hY.c10
    have d_11 := hY.c11
    go_upto_region 6 with fail
    rw [← hxb, ← hxv]
    clear hxb hxv
    clear k_0 k_1 k_2 k_3 k_4 k_5 k_6 k_7 k_8 k_9 k_10 k_11
    go_upto_region 7 with fail
    rw [← hyb, ← hyv]
    clear hyb hyv
    clear q_0 q_1 q_2 q_3 q_4 q_5 q_6 q_7 q_8 q_9 q_10 q_11
    cases hs : sameA x y
    ·have HF : Hid (sameAs v.args u.args = false) := Lib.hid (by rw [← HC.out, HD.out, hs]; rfl)
     rw [hs] at h1
     clear hs
     go_wp2_with (with_reducible refine h_A ?_)
     refine h1.mono ?_
     rintro e w3 ⟨rfl, hB3⟩
     clear h1
     clear c_0 c_1 c_2 c_3 c_4 c_5 c_6 c_7 c_8 c_9 c_10 c_11
     clear d_0 d_1 d_2 d_3 d_4 d_5 d_6 d_7 d_8 d_9 d_10 d_11
     go_wp2_with (with_reducible refine h_A ?_)
     go_ret
     rw [HF.out]
     exact ⟨rfl, hBy.trans (hB3.mono hBy.size)⟩
    ·have HC2 : Hid (sameAs (v.args.drop (i + 1)) (u.args.drop (i + 1)) = sameAs v.args u.args) := Lib.hid (by rw [← HC.out, HD.out, hs]; rfl)
     rw [hs] at h1
     clear hs
     go_wp2_with (with_reducible refine h_A ?_)
     refine h1.mono ?_
     rintro e w3 ⟨rfl, hB3⟩
     clear h1
     clear c_0 c_1 c_2 c_3 c_4 c_5 c_6 c_7 c_8 c_9 c_10 c_11
     clear d_0 d_1 d_2 d_3 d_4 d_5 d_6 d_7 d_8 d_9 d_10 d_11
     go_wp2_with (with_reducible refine h_A ?_)
     exact ⟨⟨i + 1, by omega, by go_num, hBy.trans (hB3.mono hBy.size), HC2⟩, by simp [RowKit.intOf]; omega⟩
   ·have g1 : ¬ (i : Int) < (N : Int) := by omega
    have HF : Hid (sameAs v.args u.args = true) := Lib.hid (by
     rw [← HC.out, List.drop_eq_nil_of_le (by rw [← HN.out]; omega), List.drop_eq_nil_of_le (by rw [← HM.out]; omega), sameAs])
    clear hel hfl
    go_wp2_with (with_reducible refine h_A ?_)
    go_ret
    rw [HF.out]
    exact ⟨rfl, hB⟩
 ·have g0 : ((N : Int) != (M : Int)) = true := by simp; omega
  have HF : Hid (sameAs v.args u.args = false) := Lib.hid (sameAs_len (by rw [← HN.out, ← HM.out]; exact hnn))
  clear hnn hel hfl
  go_enter Tryz.func31, Tryz.ntmps31
  go_wp2_with (with_reducible refine h_A ?_)
  go_ret
  rw [HF.out]
  exact ⟨rfl, Below.refl _ _⟩
set_option maxRecDepth 20000 in
theorem msameM_any (v u : Mt) (A : Option Addr) (c : Nat) (A' : Option Addr) (c' : Nat) (w : World) (hv : RMw w v A c) (hu : RMw w u A' c') :
  Calls Tryz.prog 12 #[.agg (mtV v A c), .agg (mtV u A' c')] w fun e w' => e = .returned (.bool (sameM v u)) ∧ Below w.heap.size w w' := by
 unfold mtV
 obtain ⟨xb, w1, hxb, hxv, hX, hB1⟩ := alloc_stepV w #[.int .u8 (v.cls : Int), .int .u8 (v.code : Int), .bool v.sync, .slice A v.args.length c] 29
 obtain ⟨yb, w2, hyb, hyv, hY, hB2⟩ := alloc_stepV w1 #[.int .u8 (u.cls : Int), .int .u8 (u.code : Int), .bool u.sync, .slice A' u.args.length c'] 29
 have hyb' : xb + 1 = yb := by rw [hyb, hxv, hxb]; simp
 have hB := hB1.trans (hB2.mono hB1.size)
 have hX2 := hX.below hB2
 have h1 := eqarg_any v u A c A' c' w2 (hv.up hB) (hu.up hB)
 have c0 := hX2.c0
 have c1 := hX2.c1
 have c2 := hX2.c2
 have c3 := hX2.c3
 have d0 := hY.c0
 have d1 := hY.c1
 have d2 := hY.c2
 have d3 := hY.c3
 have HS : Hid (sameM v u = (decide (v.cls = u.cls) && decide (v.code = u.code) && decide (v.sync = u.sync) && sameAs v.args u.args)) := Lib.hid rfl
 generalize sameAs v.args u.args = r at *
 clear hyb
 by_cases e1 : v.cls = u.cls
 ·have g1 : ((v.cls : Int) == (u.cls : Int)) = true := by simp [e1]
  by_cases e2 : v.code = u.code
  ·have g2 : ((v.code : Int) == (u.code : Int)) = true := by simp [e2]
   by_cases e3 : v.sync = u.sync
   ·have g3 : (v.sync == u.sync) = true := by simp [e3]
    have HF : Hid (sameM v u = r) := Lib.hid (by rw [HS.out]; simp [e1, e2, e3])
    clear e1 e2 e3
    go_enter Tryz.func12, Tryz.ntmps12
    go_upto_region 1 with fail
    rw [← hxb, ← hxv, hyb', ← hyv]
    clear hxb hxv hyb' hyv
    go_wp2_with (with_reducible refine h_A ?_)
    refine h1.mono ?_
    rintro e w3 ⟨rfl, hB3⟩
    clear c0 c1 c2 c3 d0 d1 d2 d3
    go_wp2_with (with_reducible refine h_A ?_)
    go_ret
    rw [HF.out]
    exact ⟨rfl, hB.trans (hB3.mono hB.size)⟩
   ·have g3 : (v.sync == u.sync) = false := by simpa using e3
    have HF : Hid (sameM v u = false) := Lib.hid (by rw [HS.out]; simp [e3])
    clear e1 e2 e3 h1
    go_enter Tryz.func12, Tryz.ntmps12
    go_upto_region 1 with fail
    rw [← hxb, ← hxv, hyb', ← hyv]
    clear hxb hxv hyb' hyv
    go_wp2_with (with_reducible refine h_A ?_)
    go_ret
    rw [HF.out]
    exact ⟨rfl, hB⟩
  ·have g2 : ((v.code : Int) == (u.code : Int)) = false := by simp; omega
   have HF : Hid (sameM v u = false) := Lib.hid (by rw [HS.out]; simp [e2])
   clear e1 e2 h1
   go_enter Tryz.func12, Tryz.ntmps12
   go_upto_region 1 with fail
   rw [← hxb, ← hxv, hyb', ← hyv]
   clear hxb hxv hyb' hyv
   go_wp2_with (with_reducible refine h_A ?_)
   go_ret
   rw [HF.out]
   exact ⟨rfl, hB⟩
 ·have g1 : ((v.cls : Int) == (u.cls : Int)) = false := by simp; omega
  have HF : Hid (sameM v u = false) := Lib.hid (by rw [HS.out]; simp [e1])
  clear e1 h1
  go_enter Tryz.func12, Tryz.ntmps12
  go_upto_region 1 with fail
  rw [← hxb, ← hxv, hyb', ← hyv]
  clear hxb hxv hyb' hyv
  go_wp2_with (with_reducible refine h_A ?_)
  go_ret
  rw [HF.out]
  exact ⟨rfl, hB⟩
end Go.PH
end
section
/- '==' of arguments and of methods: the walks of the document's program. -/
namespace Go.PH
open Go.RowKit Go.Proofs

end Go.PH
end
section
/- '==' of methods: the walk of the document's program. -/
namespace Go.PH
open Go.RowKit Go.Proofs

end Go.PH
end
section
/- Which methods can be looked at: the walk of the document's Small. -/
namespace Go.PH
open Go.RowKit Go.Proofs

end Go.PH
end
section
/- A method in memory of its own: the walk of the document's Copy. -/
namespace Go.PH
open Go.RowKit Go.Proofs

theorem slAg : SlT Tryz.prog 27 71 12 176 (.agg #[.bool false, .int .u64 0, .string ⟨#[]⟩, .int .u32 0, .string ⟨#[]⟩, .string ⟨#[]⟩, .slice none 0 0, .int .u8 0, .int .u64 0, .string ⟨#[]⟩, .slice none 0 0, .slice none 0 0]) := SlT.mk' Tryz.underlying27 (by kernel_rfl) rfl (by omega)
structure MpS (wr : World) (base : Nat) (A : Option Addr) (c : Nat) (xs : List (Ag × AH)) : Prop where
 own : Own wr base 71 12 A xs.length c (rowC agC xs)
 el : ∀ p ∈ xs, RA wr (FB base A wr) p.1 p.2
theorem MpS.on {wr wr' : World} {base : Nat} {A : Option Addr} {c : Nat} {xs : List (Ag × AH)} (h : MpS wr base A c xs) (hk : ∀ g, base ≤ g → g < wr.heap.size → wr'.heap[g]? = wr.heap[g]?) (hs : wr.heap.size ≤ wr'.heap.size) : MpS wr' base A c xs := by
 have hF : ∀ g, FB base A wr g → FB base A wr' g := fun g hg => ⟨hg.1, Nat.lt_of_lt_of_le hg.2.1 hs, hg.2.2⟩
 refine ⟨?_, fun p hp => ((h.el p hp).keep (fun g hg => hk g hg.1 hg.2.1) hs).mono hF⟩
 have ho := h.own
 unfold Own World.ownsRow at ho ⊢
 obtain ⟨hl, h1⟩ := ho
 refine ⟨hl, h1.imp id ?_⟩
 rintro ⟨g, cap, cur, hv, hb, hh, hr⟩
 exact ⟨g, cap, cur, hv, hb, (hk g hb (Array.getElem?_eq_some_iff.1 hh).1).trans hh, hr⟩
theorem MpS.below {wr wr' : World} {base : Nat} {A : Option Addr} {c : Nat} {xs : List (Ag × AH)} (h : MpS wr base A c xs) (hB : Below wr.heap.size wr wr') : MpS wr' base A c xs := h.on (fun g _ hg => hB.block g hg) hB.size
theorem MpS.box {wr wr' : World} {base b : Nat} {A : Option Addr} {c : Nat} {xs : List (Ag × AH)} (h : MpS wr base A c xs) (hg : wr.grownBy wr' (some b)) (hb : b < base) : MpS wr' base A c xs :=
 h.on (fun g hg1 hg2 => hg.block g hg2 (fun e => by injection e with e; omega)) hg.size
theorem MpS.push {w5 w6 : World} {base : Nat} {A A2 : Option Addr} {c c2 : Nat} {xs : List (Ag × AH)} {x : Ag} {hx : AH} (h : MpS w5 base A c xs) (hv : RA w5 (FB base A w5) x hx)
  (ho : Own w6 base 71 12 A2 (xs.length + 1) c2 (rowC agC (xs ++ [(x, hx)]))) (hg : w5.grownBy w6 (blk A)) (hA : blk A2 = blk A ∨ ∀ g, blk A2 = some g → w5.heap.size ≤ g) : MpS w6 base A2 c2 (xs ++ [(x, hx)]) := by
 have hF : ∀ g, FB base A w5 g → FB base A2 w6 g := fun g hg1 => ⟨hg1.1, Nat.lt_of_lt_of_le hg1.2.1 hg.size, by
  rcases hA with e | e
  ·rw [e]; exact hg1.2.2
  ·intro e2; have := e g e2; have := hg1.2.1; omega⟩
 have hk : ∀ g, FB base A w5 g → w6.heap[g]? = w5.heap[g]? := fun g hg1 => hg.block g hg1.2.1 (fun e => hg1.2.2 e.symm)
 refine ⟨by rw [List.length_append]; exact ho, fun p hp => ?_⟩
 rcases List.mem_append.1 hp with hp | hp
 ·exact ((h.el p hp).keep hk hg.size).mono hF
 ·obtain rfl := List.mem_singleton.1 hp
  exact (hv.keep hk hg.size).mono hF
end Go.PH
end
section
/- The method reader's take and octets: the walks of the program. -/
namespace Go.PH
open Go.RowKit Go.Proofs

/-- the method reader in block rb: what is left, is it bad -/
def MRd (w : World) (B rb : Nat) (l : List UInt8) (bad : Bool) : Prop := ∃ A n c, Box w rb 94 #[.slice A n c, .bool bad] ∧ RdB w B A n c l ∧ n ≤ 140737488351232
theorem MRd.kp {w w' : World} {B rb x y : Nat} {l : List UInt8} {bad : Bool} (h : MRd w B rb l bad) (hK : KP B x y w w') (h1 : rb ≠ x) (h2 : rb ≠ y) : MRd w' B rb l bad := by
 obtain ⟨A, n, c, hb, hr, hn⟩ := h
 exact ⟨A, n, c, hK.box hb h1 h2, hr.below hK.1, hn⟩
theorem mtk_bad {w : World} {B rb : Nat} {l : List UInt8} {bad : Bool} (h : MRd w B rb l bad) (hB : B ≤ rb) (k e : Int) (hb : bad = true ∨ e ≠ 0) :
  Calls Tryz.prog 82 #[.pointer (some ⟨rb, 0, none⟩), .int .i64 k, .int .i64 e] w fun e' w' => e' = .returned (.tuple #[]) ∧ MRd w' B rb l true ∧ w.grownBy w' (some rb) := by
 obtain ⟨A, n, c, hbx, hr, hn⟩ := h
 have c1 := hbx.c1
 have hbw := hbx.lt
 cases bad
 ·have ge : (e != 0) = true := by simpa using hb
  go_enter Tryz.func82, Tryz.ntmps82
  go_wp2_with (with_reducible refine h_B ?_)
  refine unhold (wp_box (v := .bool true) (vs := [.bool true]) rfl rfl rfl rfl hbx rfl (by kernel_rfl) (by simp) (by simp; rfl) #[.slice A n c, .bool true] (by simp) ?_)
  intro w2 hb2 hg2 _
  have c1 := hb2.c1
  go_wp2_with (with_reducible refine h_A ?_)
  go_end0
  exact ⟨rfl, ⟨A, n, c, hb2, hr.grown hg2 (by omega) (fun g hg => by injection hg with hg; omega), hn⟩, hg2⟩
 ·clear hb
  go_enter Tryz.func82, Tryz.ntmps82
  go_wp2_with (with_reducible refine h_B ?_)
  refine unhold (wp_box (v := .bool true) (vs := [.bool true]) rfl rfl rfl rfl hbx rfl (by kernel_rfl) (by simp) (by simp; rfl) #[.slice A n c, .bool true] (by simp) ?_)
  intro w2 hb2 hg2 _
  have c1 := hb2.c1
  go_wp2_with (with_reducible refine h_A ?_)
  go_end0
  exact ⟨rfl, ⟨A, n, c, hb2, hr.grown hg2 (by omega) (fun g hg => by injection hg with hg; omega), hn⟩, hg2⟩
theorem mtk_ok {w : World} {B rb : Nat} {l : List UInt8} (h : MRd w B rb l false) (hB : B ≤ rb) (k : Nat) (hk : k ≤ l.length) :
  Calls Tryz.prog 82 #[.pointer (some ⟨rb, 0, none⟩), .int .i64 (k : Int), .int .i64 0] w fun e' w' => e' = .returned (.tuple #[]) ∧ MRd w' B rb (l.drop k) false ∧ w.grownBy w' (some rb) := by
 obtain ⟨A, n, c, hbx, hr, hn⟩ := h
 have hln : l.length = n := RdB.length hr
 have c1 := hbx.c1
 have hbw := hbx.lt
 go_enter Tryz.func82, Tryz.ntmps82
 go_wp2_with (with_reducible refine h_B ?_)
 refine unhold (wp_box (v := .bool false) (vs := [.bool false]) rfl rfl rfl rfl hbx rfl (by kernel_rfl) (by simp) (by simp; rfl) #[.slice A n c, .bool false] (by simp) ?_)
 intro w2 hb2 hg2 _
 have hr2 : RdB w2 B A n c l := hr.grown hg2 (by omega) (fun g hg => by injection hg with hg; omega)
 have c0 := hb2.c0
 have c1 := hb2.c1
 go_wp2_with (with_reducible refine h_S ?_)
 refine unhold (wp_cutB slB rfl rfl rfl hr2 k n c (.inr ⟨_, _, rfl, rfl⟩) (.inl ⟨rfl, rfl⟩) (.inl ⟨rfl, rfl⟩) (by intro h; cases h) (by omega) (by have := hr2.cap; omega) (Nat.le_refl _) (Nat.le_refl _) ?_)
 intro A2 hr3 _
 have e3 : ((l.map u8v).take (n * 1)).drop (k * 1) = (l.drop k).map u8v := by rw [Nat.mul_one, Nat.mul_one, List.take_of_length_le (by simp; omega), List.map_drop]
 rw [e3] at hr3
 clear e3
 go_wp2_with (with_reducible refine h_B ?_)
 refine unhold (wp_box (v := .slice A2 (n - k) (c - k)) (vs := [.slice A2 (n - k) (c - k)]) rfl rfl rfl rfl hb2 rfl (by kernel_rfl) (by simp) (by simp; rfl) #[.slice A2 (n - k) (c - k), .bool false] (by simp) ?_)
 intro w3 hb3 hg3 _
 go_wp2_with (with_reducible refine h_A ?_)
 go_end0
 have hg23 : w.grownBy w3 (some rb) := hg2.trans hg3
 refine ⟨rfl, ⟨A2, n - k, c - k, hb3, ?_, by omega⟩, hg23⟩
 have hr4 : RdB w2 B A2 (n - k) (c - k) (l.drop k) := hr3
 exact hr4.grown hg3 (by have := hb2.lt; omega) (fun g hg => by injection hg with hg; omega)
end Go.PH
end

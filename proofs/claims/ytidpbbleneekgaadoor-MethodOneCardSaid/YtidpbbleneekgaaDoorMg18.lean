/- Texts laid together: VlOneMath. -/
import Derived.Test.YtidpbbleneekgaaDoorMg17
section
/- Values and arguments that may be are told by their bytes: plain mathematics. -/
set_option linter.all false
set_option linter.unusedSimpArgs false
set_option linter.unusedVariables false
namespace Go.PH

theorem be_part {i n m : Nat} {R S : List UInt8} (h : be i n ++ R = be i m ++ S) : be i n = be i m ∧ R = S := List.append_inj h (by rw [be_length, be_length])
theorem be_cut {i n m : Nat} {R S : List UInt8} (hn : n < 256 ^ i) (hm : m < 256 ^ i) (h : be i n ++ R = be i m ++ S) : n = m ∧ R = S := by
  obtain ⟨h1, h2⟩ := be_part h
  have h3 := congrArg unbe h1
  rw [unbe_be, unbe_be, Nat.mod_eq_of_lt hn, Nat.mod_eq_of_lt hm] at h3
  exact ⟨h3, h2⟩
theorem text_cut {i : Nat} {s t R S : List UInt8} (hs : s.length < 256 ^ i) (ht : t.length < 256 ^ i) (h : (be i s.length ++ s) ++ R = (be i t.length ++ t) ++ S) : s = t ∧ R = S := by
  rw [List.append_assoc, List.append_assoc] at h
  obtain ⟨h1, h2⟩ := be_cut hs ht h
  exact List.append_inj h2 h1
theorem mayF_full {k n sl KL LL : Nat} {ko pl al : Bool} (h : mayF k n sl KL LL ko pl al = true) :
    (k ≠ 168 → KL = 0) ∧ (k ≠ 168 → k ≠ 169 → LL = 0) ∧ (k ≠ 149 → k ≠ 160 → sl = 0) ∧ (k = 8 → n ≤ 1) ∧ (k = 2 → n ≤ 255) ∧ (k ≠ 8 → k ≠ 2 → k ≠ 49 → k ≠ 50 → n = 0) := by
  unfold mayF at h
  simp only [Bool.and_eq_true, Bool.or_eq_true, decide_eq_true_eq] at h
  obtain ⟨⟨⟨⟨⟨h1, h2⟩, h3⟩, h4⟩, h5⟩, h6⟩ := h
  refine ⟨fun h => by omega, fun h h' => by omega, fun h h' => by omega, fun h => ?_, fun h => ?_, fun e1 e2 e3 e4 => ?_⟩
  · subst h; simpa using h5
  · subst h; simpa using h5
  · rw [if_neg e1, if_neg e2, if_neg (by omega)] at h5
    repeat' split at h5
    all_goals simp at h5
    all_goals first | exact h5 | exact h5.2
/-- numbers of a value lie within their kinds -/
inductive VB : Vl → Prop
  | mk {v : Vl} (hk : v.kind < 256) (hn : v.n < 18446744073709551616) (hl : ∀ x ∈ v.list, VB x) : VB v
theorem VB.parts {v : Vl} (h : VB v) : v.kind < 256 ∧ v.n < 18446744073709551616 ∧ ∀ x ∈ v.list, VB x := by
  cases h with
  | mk a b c => exact ⟨a, b, c⟩
theorem RV.vb {w : World} {F : Nat → Prop} {v : Vl} {h : VH} (hv : RV w F v h) : VB v := by
  induction hv with
  | mk xs a1 a2 a3 a4 a5 a6 a7 a8 a9 _ ih =>
    refine ⟨a1, a2, fun x hx => ?_⟩
    rw [← a9] at hx
    obtain ⟨p, hp, rfl⟩ := List.mem_map.1 hx
    exact ih p hp
/-- there are at most two hundred values in it -/
def VC (v : Vl) : Prop := ∃ q : Int, q ≤ 200 ∧ 0 ≤ cntV v q
theorem cntL_lenV : ∀ (l : List Vl) (q : Int), 0 ≤ cntL l q → (l.length : Int) ≤ q ∧ ∀ x ∈ l, ∃ p : Int, p ≤ q ∧ 0 ≤ cntV x p
  | [], q, h => by rw [cntL] at h; exact ⟨by simpa using h, fun x hx => by cases hx⟩
  | y :: l, q, h => by
    by_cases h0 : q < 0
    · rw [cntL_neg _ h0] at h; omega
    rw [cntL_pos _ _ h0] at h
    obtain ⟨h1, h2⟩ := cntL_lenV l (cntV y q) h
    have h3 := cntV_le y q
    have h4 := cntL_le l (cntV y q)
    refine ⟨by simp; omega, fun x hx => ?_⟩
    rcases List.mem_cons.1 hx with rfl | hx
    · exact ⟨q, Int.le_refl _, by omega⟩
    · obtain ⟨p, hp, hp2⟩ := h2 x hx
      exact ⟨p, by omega, hp2⟩
theorem VC.parts {v : Vl} (h : VC v) : v.list.length ≤ 200 ∧ ∀ x ∈ v.list, VC x := by
  obtain ⟨q, hq, h0⟩ := h
  rw [cntV_eq] at h0
  obtain ⟨h1, h2⟩ := cntL_lenV _ _ h0
  exact ⟨by omega, fun x hx => by obtain ⟨p, hp, hp2⟩ := h2 x hx; exact ⟨p, by omega, hp2⟩⟩
def Cut (v : Vl) : Prop := ∀ (u : Vl) (R S : List UInt8), mayV utf8B u = true → VB u → VC u → vlB v ++ R = vlB u ++ S → v = u ∧ R = S
theorem many_cut (m : Bool) (l : List Vl) (hc : ∀ x ∈ l, Cut x) : ∀ (l' : List Vl) (ks ks' : List (List UInt8)) (R S : List UInt8), l.length = l'.length → (m = true → ks.length = l.length ∧ ks'.length = l'.length) → (m = true → (∀ k ∈ ks, k.length ≤ 255) ∧ ∀ k ∈ ks', k.length ≤ 255) →
    (∀ y ∈ l', mayV utf8B y = true ∧ VB y ∧ VC y) → manyB m ks l ++ R = manyB m ks' l' ++ S → (m = true → ks = ks') ∧ l = l' ∧ R = S := by
  induction l with
  | nil =>
    intro l' ks ks' R S hl hks hk hy h
    obtain rfl : l' = [] := List.length_eq_zero_iff.1 hl.symm
    rw [manyB_nil, manyB_nil] at h
    refine ⟨fun e => ?_, rfl, h⟩
    obtain ⟨h1, h2⟩ := hks e
    rw [List.length_eq_zero_iff.1 h1, List.length_eq_zero_iff.1 h2]
  | cons x l ih =>
    intro l' ks ks' R S hl hks hk hy h
    cases l' with
    | nil => simp at hl
    | cons y l' =>
      rw [manyB_cons, manyB_cons] at h
      have hyy := hy y (List.mem_cons_self ..)
      have go : ∀ (R' S' : List UInt8), (vlB x ++ manyB m ks.tail l) ++ R' = (vlB y ++ manyB m ks'.tail l') ++ S' → x = y ∧ (m = true → ks.tail = ks'.tail) ∧ l = l' ∧ R' = S' := by
        intro R' S' h'
        rw [List.append_assoc, List.append_assoc] at h'
        obtain ⟨e1, h2⟩ := hc x (List.mem_cons_self ..) y _ _ hyy.1 hyy.2.1 hyy.2.2 h'
        obtain ⟨e2, e3, e4⟩ := ih (fun z hz => hc z (List.mem_cons_of_mem _ hz)) l' ks.tail ks'.tail R' S' (by simpa using hl) (fun e => by obtain ⟨a, b⟩ := hks e; simp at a b ⊢; omega)
          (fun e => ⟨fun k hm => (hk e).1 k (List.mem_of_mem_tail hm), fun k hm => (hk e).2 k (List.mem_of_mem_tail hm)⟩) (fun z hz => hy z (List.mem_cons_of_mem _ hz)) h2
        exact ⟨e1, e2, e3, e4⟩
      cases m
      · simp only [Bool.false_eq_true, if_false, List.nil_append] at h
        obtain ⟨e1, _, e3, e4⟩ := go R S h
        exact ⟨fun e => (by cases e), by rw [e1, e3], e4⟩
      · obtain ⟨n1, n2⟩ := hks rfl
        obtain ⟨k1, k2⟩ := hk rfl
        cases ks with
        | nil => simp at n1
        | cons k ks =>
          cases ks' with
          | nil => simp at n2
          | cons k' ks' =>
            simp only [if_true, List.headD_cons, List.append_assoc] at h
            have hk1 := k1 k (List.mem_cons_self ..)
            have hk2 := k2 k' (List.mem_cons_self ..)
            obtain ⟨e0, h1⟩ := text_cut (i := 1) (s := k) (t := k') (R := vlB x ++ (manyB true ks l ++ R)) (S := vlB y ++ (manyB true ks' l' ++ S)) (by omega) (by omega) (by simpa [List.append_assoc] using h)
            obtain ⟨e1, e2, e3, e4⟩ := go R S (by simpa [List.append_assoc] using h1)
            refine ⟨fun _ => ?_, by rw [e1, e3], e4⟩
            have := e2 rfl
            simp at this
            rw [e0, this]
theorem vl_ext {v u : Vl} (h1 : v.kind = u.kind) (h2 : v.n = u.n) (h3 : v.s = u.s) (h4 : v.keys = u.keys) (h5 : v.list = u.list) : v = u := by rw [v.eta, u.eta, h1, h2, h3, h4, h5]
theorem nil_of {α : Type} {l : List α} (h : l.length = 0) : l = [] := List.length_eq_zero_iff.1 h
theorem keys_255 {v : Vl} (h : keysOk v.keys utf8B = true) : ∀ k ∈ v.keys, k.length ≤ 255 := fun k hk' => by
  rw [keysOk_eq, Bool.and_eq_true, List.all_eq_true] at h
  have h2 := h.1 _ hk'
  unfold keyOk at h2
  simp only [Bool.and_eq_true, decide_eq_true_eq] at h2
  exact h2.1.2
theorem vlB_cut (v : Vl) : mayV utf8B v = true → VB v → VC v → Cut v := by
  refine Vl.ind (P := fun v => mayV utf8B v = true → VB v → VC v → Cut v) ?_ v
  intro v ih hm hb hc u R S hm' hb' hc' h
  rw [mayV_eq] at hm hm'
  obtain ⟨k1, s1, m1, a1⟩ := mayF_parts hm
  obtain ⟨_, s2, m2, a2⟩ := mayF_parts hm'
  obtain ⟨p1, p2, p3, p4, p5, p6⟩ := mayF_full hm
  obtain ⟨q1, q2, q3, q4, q5, q6⟩ := mayF_full hm'
  obtain ⟨b1, b2, b3⟩ := hb.parts
  obtain ⟨d1, d2, d3⟩ := hb'.parts
  obtain ⟨c1, c2⟩ := hc.parts
  obtain ⟨f1, f2⟩ := hc'.parts
  clear hm hm' hb hb' hc hc'
  rw [vlB_eq, vlB_eq, List.cons_append, List.cons_append, List.cons.injEq] at h
  obtain ⟨hk, h⟩ := h
  have hkk : v.kind = u.kind := by
    have := congrArg UInt8.toNat hk
    simp only [UInt8.toNat_ofNat'] at this
    omega
  rw [hkk] at k1 m1 p1 p2 p3 p4 p5 p6 h
  have hmany : ∀ m : Bool, m = decide (u.kind = 168) → (u.kind = 168 ∨ u.kind = 169) → innB v ++ R = innB u ++ S → v = u ∧ R = S := by
    intro m hmm hk2 hin
    unfold innB at hin
    rw [hkk, ← hmm, List.append_assoc, List.append_assoc] at hin
    obtain ⟨e1, h2⟩ := be_cut (i := 4) (by omega) (by omega) hin
    obtain ⟨e2, e3, e4⟩ := many_cut m v.list (fun x hx => ih x hx (List.all_eq_true.1 a1 x hx) (b3 x hx) (c2 x hx)) u.list v.keys u.keys R S e1
      (fun e => by rw [hmm] at e; have := of_decide_eq_true e; exact ⟨(m1 this).1, (m2 this).1⟩)
      (fun e => by rw [hmm] at e; have := of_decide_eq_true e; exact ⟨keys_255 (m1 this).2, keys_255 (m2 this).2⟩)
      (fun y hy => ⟨List.all_eq_true.1 a2 y hy, d3 y hy, f2 y hy⟩) h2
    refine ⟨vl_ext hkk ?_ ?_ ?_ e3, e4⟩
    · rw [p6 (by omega) (by omega) (by omega) (by omega), q6 (by omega) (by omega) (by omega) (by omega)]
    · rw [nil_of (p3 (by omega) (by omega)), nil_of (q3 (by omega) (by omega))]
    · by_cases e : u.kind = 168
      · exact e2 (by rw [hmm, decide_eq_true e])
      · rw [nil_of (p1 e), nil_of (q1 e)]
  have hnum : ∀ i : Nat, v.n < 256 ^ i → u.n < 256 ^ i → u.kind ≠ 168 → u.kind ≠ 169 → u.kind ≠ 149 → u.kind ≠ 160 → be i v.n ++ R = be i u.n ++ S → v = u ∧ R = S := by
    intro i g1 g2 e1 e2 e3 e4 h2
    obtain ⟨h3, h4⟩ := be_cut g1 g2 h2
    exact ⟨vl_ext hkk h3 (by rw [nil_of (p3 e3 e4), nil_of (q3 e3 e4)]) (by rw [nil_of (p1 e1), nil_of (q1 e1)]) (by rw [nil_of (p2 e1 e2), nil_of (q2 e1 e2)]), h4⟩
  have htxt : ∀ i : Nat, v.s.length < 256 ^ i → u.s.length < 256 ^ i → u.kind ≠ 168 → u.kind ≠ 169 → (u.kind = 149 ∨ u.kind = 160) → (be i v.s.length ++ v.s) ++ R = (be i u.s.length ++ u.s) ++ S → v = u ∧ R = S := by
    intro i g1 g2 e1 e2 e3 h2
    obtain ⟨h3, h4⟩ := text_cut g1 g2 h2
    exact ⟨vl_ext hkk (by rw [p6 (by omega) (by omega) (by omega) (by omega), q6 (by omega) (by omega) (by omega) (by omega)]) h3 (by rw [nil_of (p1 e1), nil_of (q1 e1)]) (by rw [nil_of (p2 e1 e2), nil_of (q2 e1 e2)]), h4⟩
  rcases k1 with e | e | e | e | e | e | e | e | e
  · refine hnum 1 (by have := p4 e; omega) (by have := q4 e; omega) (by omega) (by omega) (by omega) (by omega) ?_
    unfold restB at h; rw [e] at h; simpa using h
  · refine hnum 1 (by have := p5 e; omega) (by have := q5 e; omega) (by omega) (by omega) (by omega) (by omega) ?_
    unfold restB at h; rw [e] at h; simpa using h
  · refine hnum 8 (by omega) (by omega) (by omega) (by omega) (by omega) (by omega) ?_
    unfold restB at h; rw [e] at h; simpa using h
  · refine hnum 8 (by omega) (by omega) (by omega) (by omega) (by omega) (by omega) ?_
    unfold restB at h; rw [e] at h; simpa using h
  · refine hnum 0 (by rw [p6 (by omega) (by omega) (by omega) (by omega)]; decide) (by rw [q6 (by omega) (by omega) (by omega) (by omega)]; decide) (by omega) (by omega) (by omega) (by omega) ?_
    unfold restB at h; rw [e] at h; simpa [be] using h
  · refine htxt 4 (by omega) (by omega) (by omega) (by omega) (by omega) ?_
    unfold restB at h; rw [e] at h; simpa [List.append_assoc] using h
  · refine htxt 2 (by omega) (by omega) (by omega) (by omega) (by omega) ?_
    unfold restB at h; rw [e] at h; simpa [List.append_assoc] using h
  · refine hmany true (by rw [e]; rfl) (by omega) ?_
    unfold restB at h; rw [e] at h
    simp only [List.append_assoc] at h
    exact (be_part (i := 4) (by simpa using h)).2
  · refine hmany false (by rw [e]; rfl) (by omega) ?_
    unfold restB at h; rw [e] at h
    simp only [List.append_assoc] at h
    exact (be_part (i := 4) (by simpa using h)).2
end Go.PH
end

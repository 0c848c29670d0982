/- Texts laid together: MdGet0, MdHead, VlPut, VlPut2, VlBytesR, VlOneMath, VlPutR, VlReadMath, VlGet, VlManyA, VlRead, VlGet2. -/
import Derived.Defers
import Derived.Recover
import Derived.Deep.CutRange
import Derived.Test.YtfbkameikhgciaaGreatDoorMg01
import Derived.Test.YtfbkameikhgciaaGreatDoorMg02
import Derived.Test.YtfbkameikhgciaaGreatDoorMg03
import Derived.Test.YtfbkameikhgciaaGreatDoorMg09
import Derived.Test.YtfbkameikhgciaaGreatDoorMg10
import Derived.Test.YtfbkameikhgciaaGreatDoorMg15
import Derived.Test.YtfbkameikhgciaaGreatDoorMg16
import Derived.Test.YtfbkameikhgciaaGreatDoorMg18
import Derived.Test.YtfbkameikhgciaaGreatDoorMg19
set_option linter.all false
set_option linter.unusedSimpArgs false
set_option linter.unusedVariables false
section
/- The walk of method's Get at bytes of a method that has no arguments; bytes.Equal; the readers' map. -/
namespace Go.PH
open Go.RowKit Go.Proofs

theorem bytesequal_any (A : Option Addr) (n c : Nat) (l : List UInt8) (A' : Option Addr) (n' c' : Nat) (l' : List UInt8) (B B' : Nat) (w : World) (hr : RdB w B A n c l) (hr' : RdB w B' A' n' c' l') (hn : n ≤ 140737488351240) (hn' : n' ≤ 140737488351240) :
  Calls Tryz.prog 110 #[.slice A n c, .slice A' n' c'] w fun e w' => e = .returned (.bool (decide (l = l'))) ∧ w = w' := by
 have h1 := run_str (P := Tryz.prog) Tryz.underlying55 Tryz.underlying9 Tryz.underlying5 hr
 have h2 := run_str (P := Tryz.prog) Tryz.underlying55 Tryz.underlying9 Tryz.underlying5 hr'
 by_cases h : l = l'
 ·have hq : ((str l).toList == (str l').toList) = true := by rw [str_toList, str_toList]; simpa using h
  rw [decide_eq_true h]
  clear h
  go_enter Tryz.func110, Tryz.ntmps110
  go_wp2_with (with_reducible refine h_A ?_)
  go_ret
  exact ⟨rfl, rfl⟩
 ·have hq : ((str l).toList == (str l').toList) = false := by rw [str_toList, str_toList]; simpa using h
  rw [decide_eq_false h]
  clear h
  go_enter Tryz.func110, Tryz.ntmps110
  go_wp2_with (with_reducible refine h_A ?_)
  go_ret
  exact ⟨rfl, rfl⟩
theorem alloc_stepM (w : World) (cs : Array Value) (t : TypeId) : ∃ (b : Nat) (v : World), b = w.heap.size ∧ v = w.alloc (.cells cs t) ∧ Box v b t cs ∧ Below w.heap.size w v :=
 ⟨_, _, rfl, rfl, Box.new w cs t, (Below.refl _ _).alloc (Nat.le_refl _) _⟩
theorem me_one {a b : Int} {s : Bool} {A : Option Addr} {n c : Nat} : ∀ u ∈ [Value.int .u8 a, .int .u8 b, .bool s, .slice A n c], u.oneCell' = true := by
 intro u hu
 simp at hu; rcases hu with rfl | rfl | rfl | rfl <;> rfl
end Go.PH
end
section
/- The laws' head of methods. -/
namespace Go.PH
open Go.RowKit Go.Proofs

end Go.PH
end
section
/- A value's bytes put behind others: the walk of the program. -/
namespace Go.PH
open Go.RowKit Go.Proofs

theorem mayF_parts {k n sl KL LL : Nat} {ko pl al : Bool} (h : mayF k n sl KL LL ko pl al = true) :
  (k = 8 ∨ k = 2 ∨ k = 49 ∨ k = 50 ∨ k = 240 ∨ k = 160 ∨ k = 149 ∨ k = 168 ∨ k = 169) ∧ sl ≤ 4096 ∧ (k = 168 → KL = LL ∧ ko = true) ∧ al = true := by
 unfold mayF at h
 simp only [Bool.and_eq_true, Bool.or_eq_true, decide_eq_true_eq] at h
 obtain ⟨⟨⟨⟨⟨h1, h2⟩, h3⟩, h4⟩, h5⟩, h6⟩ := h
 refine ⟨?_, h4, fun hk => ?_, h6⟩
 ·repeat' split at h5
  all_goals first | omega | (exact absurd h5 (by simp))
 ·subst hk
  simp at h5
  exact ⟨h5.1.1, h5.1.2⟩
theorem KB.on {w w3 w4 : World} {row : Option Nat} (h : KB w w3 row) (hB : Below w3.heap.size w3 w4) : KB w w4 row := ⟨Nat.le_trans h.1 hB.size, fun g hg hne => (hB.block g (Nat.lt_of_lt_of_le hg h.1)).trans (h.2 g hg hne)⟩
end Go.PH
end
section
/- How long a value's bytes are; Put of a value: the walk of the program. -/
namespace Go.PH
open Go.RowKit Go.Proofs

theorem many_len {p : List UInt8 → Bool} (m : Bool) (l : List Vl) (hx : ∀ x ∈ l, ∀ q : Int, mayV p x = true → 0 ≤ cntV x q → ((vlB x).length : Int) + 256 ≤ 5000 * (q - cntV x q)) :
  ∀ (ks : List (List UInt8)) (q : Int), (m = true → ∀ k ∈ ks, k.length ≤ 255) → l.all (mayV p) = true → 0 ≤ cntL l q → ((manyB m ks l).length : Int) ≤ 5000 * (q - cntL l q) := by
 induction l with
 | nil => intro ks q _ _ _; rw [manyB_nil, cntL]; simp
 | cons x l ih =>
  intro ks q hk ha hq
  rw [manyB_cons]
  rw [List.all_cons, Bool.and_eq_true] at ha
  by_cases h0 : q < 0
  ·rw [cntL_neg _ h0] at hq; omega
  rw [cntL_pos _ _ h0] at hq ⊢
  have h1 := cntL_le l (cntV x q)
  have h2 := hx x (List.mem_cons_self ..) q ha.1 (by omega)
  have h3 := ih (fun y hy => hx y (List.mem_cons_of_mem _ hy)) ks.tail (cntV x q) (fun e k hm => hk e k (List.mem_of_mem_tail hm)) ha.2 hq
  have h4 : ((if m = true then be 1 (ks.headD []).length ++ ks.headD [] else []) : List UInt8).length ≤ 256 := by
   split
   ·rename_i hm
    have : (ks.headD []).length ≤ 255 := by
     cases ks with
     | nil => simp
     | cons k ks => exact hk hm k (List.mem_cons_self ..)
    rw [List.length_append, be_length]
    omega
   ·simp
  rw [List.length_append, List.length_append]
  omega
theorem vlB_len {v : Vl} : ∀ q : Int, mayV utf8B v = true → 0 ≤ cntV v q → ((vlB v).length : Int) + 256 ≤ 5000 * (q - cntV v q) := by
 refine Vl.ind (P := fun v => ∀ q : Int, mayV utf8B v = true → 0 ≤ cntV v q → ((vlB v).length : Int) + 256 ≤ 5000 * (q - cntV v q)) ?_ v
 intro v ih q hm hq
 rw [mayV_eq] at hm
 obtain ⟨hk, hs, hK, ha⟩ := mayF_parts hm
 rw [vlB_eq, List.length_cons]
 rw [cntV_eq] at hq ⊢
 have hle := cntL_le v.list (q - 1)
 have hmany := many_len (decide (v.kind = 168)) v.list ih v.keys (q - 1) (fun e k hk' => by
  have h1 := (hK (of_decide_eq_true e)).2
  rw [keysOk_eq, Bool.and_eq_true, List.all_eq_true] at h1
  have h2 := h1.1 _ hk'
  unfold keyOk at h2
  simp only [Bool.and_eq_true, decide_eq_true_eq] at h2
  exact h2.1.2) ha hq
 have hr : (restB v.kind v.n v.s (innB v)).length ≤ 4100 ∨ (restB v.kind v.n v.s (innB v)).length ≤ 8 + (manyB (decide (v.kind = 168)) v.keys v.list).length := by
  unfold restB
  split
  ·left; rw [be_length]; omega
  split
  ·left; rw [be_length]; omega
  split
  ·left; rw [List.length_append, be_length]; omega
  split
  ·left; rw [List.length_append, be_length]; omega
  split
  ·right; rw [List.length_append, be_length, innB, List.length_append, be_length]; omega
  ·left; simp
 omega
/-- what Put of a value answers -/
def vlP (v : Vl) : List UInt8 := if errV v = 0 then vlB v else []
theorem errV_ok {v : Vl} (h : errV v = 0) : 0 ≤ cntV v 200 ∧ mayV utf8B v = true := by
 unfold errV at h
 split at h
 ·omega
 split at h
 ·omega
 split at h
 ·rename_i h1 h2 h3
  exact ⟨by omega, h3⟩
 ·omega
end Go.PH
end
section
/- A value's bytes: the walk of the document's program. -/
namespace Go.PH
open Go.RowKit Go.Proofs

end Go.PH
end
section
/- Values and arguments that may be are told by their bytes: plain mathematics. -/
namespace Go.PH

theorem be_part {i n m : Nat} {R S : List UInt8} (h : be i n ++ R = be i m ++ S) : be i n = be i m ∧ R = S := List.append_inj h (by rw [be_length, be_length])
theorem be_cut {i n m : Nat} {R S : List UInt8} (hn : n < 256 ^ i) (hm : m < 256 ^ i) (h : be i n ++ R = be i m ++ S) : n = m ∧ R = S := by
 obtain ⟨h1, h2⟩ := be_part h
 have h3 := congrArg unbe h1
 rw [unbe_be, unbe_be, Nat.mod_eq_of_lt hn, Nat.mod_eq_of_lt hm] at h3
 exact ⟨h3, h2⟩
theorem text_cut {i : Nat} {s t R S : List UInt8} (hs : s.length < 256 ^ i) (ht : t.length < 256 ^ i) (h : (be i s.length ++ s) ++ R = (be i t.length ++ t) ++ S) : s = t ∧ R = S := by
 rw [List.append_assoc, List.append_assoc] at h
 obtain ⟨h1, h2⟩ := be_cut hs ht h
 exact List.append_inj h2 h1
theorem mayF_full {k n sl KL LL : Nat} {ko pl al : Bool} (h : mayF k n sl KL LL ko pl al = true) :
  (k ≠ 168 → KL = 0) ∧ (k ≠ 168 → k ≠ 169 → LL = 0) ∧ (k ≠ 149 → k ≠ 160 → sl = 0) ∧ (k = 8 → n ≤ 1) ∧ (k = 2 → n ≤ 255) ∧ (k ≠ 8 → k ≠ 2 → k ≠ 49 → k ≠ 50 → n = 0) := by
 unfold mayF at h
 simp only [Bool.and_eq_true, Bool.or_eq_true, decide_eq_true_eq] at h
 obtain ⟨⟨⟨⟨⟨h1, h2⟩, h3⟩, h4⟩, h5⟩, h6⟩ := h
 refine ⟨fun h => by omega, fun h h' => by omega, fun h h' => by omega, fun h => ?_, fun h => ?_, fun e1 e2 e3 e4 => ?_⟩
 ·subst h; simpa using h5
 ·subst h; simpa using h5
 ·rw [if_neg e1, if_neg e2, if_neg (by omega)] at h5
  repeat' split at h5
  all_goals simp at h5
  all_goals first | exact h5 | exact h5.2
/-- numbers of a value lie within their kinds -/
inductive VB : Vl → Prop
 | mk {v : Vl} (hk : v.kind < 256) (hn : v.n < 18446744073709551616) (hl : ∀ x ∈ v.list, VB x) : VB v
theorem VB.parts {v : Vl} (h : VB v) : v.kind < 256 ∧ v.n < 18446744073709551616 ∧ ∀ x ∈ v.list, VB x := by
 cases h with
 | mk a b c => exact ⟨a, b, c⟩
theorem RV.vb {w : World} {F : Nat → Prop} {v : Vl} {h : VH} (hv : RV w F v h) : VB v := by
 induction hv with
 | mk xs a1 a2 a3 a4 a5 a6 a7 a8 a9 _ ih =>
  refine ⟨a1, a2, fun x hx => ?_⟩
  rw [← a9] at hx
  obtain ⟨p, hp, rfl⟩ := List.mem_map.1 hx
  exact ih p hp
/-- there are at most two hundred values in it -/
def VC (v : Vl) : Prop := ∃ q : Int, q ≤ 200 ∧ 0 ≤ cntV v q
theorem cntL_lenV : ∀ (l : List Vl) (q : Int), 0 ≤ cntL l q → (l.length : Int) ≤ q ∧ ∀ x ∈ l, ∃ p : Int, p ≤ q ∧ 0 ≤ cntV x p
 | [], q, h => by rw [cntL] at h; exact ⟨by simpa using h, fun x hx => by cases hx⟩
 | y :: l, q, h => by
  by_cases h0 : q < 0
  ·rw [cntL_neg _ h0] at h; omega
  rw [cntL_pos _ _ h0] at h
  obtain ⟨h1, h2⟩ := cntL_lenV l (cntV y q) h
  have h3 := cntV_le y q
  have h4 := cntL_le l (cntV y q)
  refine ⟨by simp; omega, fun x hx => ?_⟩
  rcases List.mem_cons.1 hx with rfl | hx
  ·exact ⟨q, Int.le_refl _, by omega⟩
  ·obtain ⟨p, hp, hp2⟩ := h2 x hx
   exact ⟨p, by omega, hp2⟩
theorem VC.parts {v : Vl} (h : VC v) : v.list.length ≤ 200 ∧ ∀ x ∈ v.list, VC x := by
 obtain ⟨q, hq, h0⟩ := h
 rw [cntV_eq] at h0
 obtain ⟨h1, h2⟩ := cntL_lenV _ _ h0
 exact ⟨by omega, fun x hx => by obtain ⟨p, hp, hp2⟩ := h2 x hx; exact ⟨p, by omega, hp2⟩⟩
def Cut (v : Vl) : Prop := ∀ (u : Vl) (R S : List UInt8), mayV utf8B u = true → VB u → VC u → vlB v ++ R = vlB u ++ S → v = u ∧ R = S
theorem many_cut (m : Bool) (l : List Vl) (hc : ∀ x ∈ l, Cut x) : ∀ (l' : List Vl) (ks ks' : List (List UInt8)) (R S : List UInt8), l.length = l'.length → (m = true → ks.length = l.length ∧ ks'.length = l'.length) → (m = true → (∀ k ∈ ks, k.length ≤ 255) ∧ ∀ k ∈ ks', k.length ≤ 255) →
  (∀ y ∈ l', mayV utf8B y = true ∧ VB y ∧ VC y) → manyB m ks l ++ R = manyB m ks' l' ++ S → (m = true → ks = ks') ∧ l = l' ∧ R = S := by
 induction l with
 | nil =>
  intro l' ks ks' R S hl hks hk hy h
  obtain rfl : l' = [] := List.length_eq_zero_iff.1 hl.symm
  rw [manyB_nil, manyB_nil] at h
  refine ⟨fun e => ?_, rfl, h⟩
  obtain ⟨h1, h2⟩ := hks e
  rw [List.length_eq_zero_iff.1 h1, List.length_eq_zero_iff.1 h2]
 | cons x l ih =>
  intro l' ks ks' R S hl hks hk hy h
  cases l' with
  | nil => simp at hl
  | cons y l' =>
   rw [manyB_cons, manyB_cons] at h
   have hyy := hy y (List.mem_cons_self ..)
   have go : ∀ (R' S' : List UInt8), (vlB x ++ manyB m ks.tail l) ++ R' = (vlB y ++ manyB m ks'.tail l') ++ S' → x = y ∧ (m = true → ks.tail = ks'.tail) ∧ l = l' ∧ R' = S' := by
    intro R' S' h'
    rw [List.append_assoc, List.append_assoc] at h'
    obtain ⟨e1, h2⟩ := hc x (List.mem_cons_self ..) y _ _ hyy.1 hyy.2.1 hyy.2.2 h'
    obtain ⟨e2, e3, e4⟩ := ih (fun z hz => hc z (List.mem_cons_of_mem _ hz)) l' ks.tail ks'.tail R' S' (by simpa using hl) (fun e => by obtain ⟨a, b⟩ := hks e; simp at a b ⊢; omega)
     (fun e => ⟨fun k hm => (hk e).1 k (List.mem_of_mem_tail hm), fun k hm => (hk e).2 k (List.mem_of_mem_tail hm)⟩) (fun z hz => hy z (List.mem_cons_of_mem _ hz)) h2
    exact ⟨e1, e2, e3, e4⟩
   cases m
   ·simp only [Bool.false_eq_true, if_false, List.nil_append] at h
    obtain ⟨e1, _, e3, e4⟩ := go R S h
    exact ⟨fun e => (by cases e), by rw [e1, e3], e4⟩
   ·obtain ⟨n1, n2⟩ := hks rfl
    obtain ⟨k1, k2⟩ := hk rfl
    cases ks with
    | nil => simp at n1
    | cons k ks =>
     cases ks' with
     | nil => simp at n2
     | cons k' ks' =>
      simp only [if_true, List.headD_cons, List.append_assoc] at h
      have hk1 := k1 k (List.mem_cons_self ..)
      have hk2 := k2 k' (List.mem_cons_self ..)
      obtain ⟨e0, h1⟩ := text_cut (i := 1) (s := k) (t := k') (R := vlB x ++ (manyB true ks l ++ R)) (S := vlB y ++ (manyB true ks' l' ++ S)) (by omega) (by omega) (by simpa [List.append_assoc] using h)
      obtain ⟨e1, e2, e3, e4⟩ := go R S (by simpa [List.append_assoc] using h1)
      refine ⟨fun _ => ?_, by rw [e1, e3], e4⟩
      have := e2 rfl
      simp at this
      rw [e0, this]
theorem vl_ext {v u : Vl} (h1 : v.kind = u.kind) (h2 : v.n = u.n) (h3 : v.s = u.s) (h4 : v.keys = u.keys) (h5 : v.list = u.list) : v = u := by rw [v.eta, u.eta, h1, h2, h3, h4, h5]
theorem nil_of {α : Type} {l : List α} (h : l.length = 0) : l = [] := List.length_eq_zero_iff.1 h
theorem keys_255 {v : Vl} (h : keysOk v.keys utf8B = true) : ∀ k ∈ v.keys, k.length ≤ 255 := fun k hk' => by
 rw [keysOk_eq, Bool.and_eq_true, List.all_eq_true] at h
 have h2 := h.1 _ hk'
 unfold keyOk at h2
 simp only [Bool.and_eq_true, decide_eq_true_eq] at h2
 exact h2.1.2
theorem vlB_cut (v : Vl) : mayV utf8B v = true → VB v → VC v → Cut v := by
 refine Vl.ind (P := fun v => mayV utf8B v = true → VB v → VC v → Cut v) ?_ v
 intro v ih hm hb hc u R S hm' hb' hc' h
 rw [mayV_eq] at hm hm'
 obtain ⟨k1, s1, m1, a1⟩ := mayF_parts hm
 obtain ⟨_, s2, m2, a2⟩ := mayF_parts hm'
 obtain ⟨p1, p2, p3, p4, p5, p6⟩ := mayF_full hm
 obtain ⟨q1, q2, q3, q4, q5, q6⟩ := mayF_full hm'
 obtain ⟨b1, b2, b3⟩ := hb.parts
 obtain ⟨d1, d2, d3⟩ := hb'.parts
 obtain ⟨c1, c2⟩ := hc.parts
 obtain ⟨f1, f2⟩ := hc'.parts
 clear hm hm' hb hb' hc hc'
 rw [vlB_eq, vlB_eq, List.cons_append, List.cons_append, List.cons.injEq] at h
 obtain ⟨hk, h⟩ := h
 have hkk : v.kind = u.kind := by
  have := congrArg UInt8.toNat hk
  simp only [UInt8.toNat_ofNat'] at this
  omega
 rw [hkk] at k1 m1 p1 p2 p3 p4 p5 p6 h
 have hmany : ∀ m : Bool, m = decide (u.kind = 168) → (u.kind = 168 ∨ u.kind = 169) → innB v ++ R = innB u ++ S → v = u ∧ R = S := by
  intro m hmm hk2 hin
  unfold innB at hin
  rw [hkk, ← hmm, List.append_assoc, List.append_assoc] at hin
  obtain ⟨e1, h2⟩ := be_cut (i := 4) (by omega) (by omega) hin
  obtain ⟨e2, e3, e4⟩ := many_cut m v.list (fun x hx => ih x hx (List.all_eq_true.1 a1 x hx) (b3 x hx) (c2 x hx)) u.list v.keys u.keys R S e1
   (fun e => by rw [hmm] at e; have := of_decide_eq_true e; exact ⟨(m1 this).1, (m2 this).1⟩)
   (fun e => by rw [hmm] at e; have := of_decide_eq_true e; exact ⟨keys_255 (m1 this).2, keys_255 (m2 this).2⟩)
   (fun y hy => ⟨List.all_eq_true.1 a2 y hy, d3 y hy, f2 y hy⟩) h2
  refine ⟨vl_ext hkk ?_ ?_ ?_ e3, e4⟩
  ·rw [p6 (by omega) (by omega) (by omega) (by omega), q6 (by omega) (by omega) (by omega) (by omega)]
  ·rw [nil_of (p3 (by omega) (by omega)), nil_of (q3 (by omega) (by omega))]
  ·by_cases e : u.kind = 168
   ·exact e2 (by rw [hmm, decide_eq_true e])
   ·rw [nil_of (p1 e), nil_of (q1 e)]
 have hnum : ∀ i : Nat, v.n < 256 ^ i → u.n < 256 ^ i → u.kind ≠ 168 → u.kind ≠ 169 → u.kind ≠ 149 → u.kind ≠ 160 → be i v.n ++ R = be i u.n ++ S → v = u ∧ R = S := by
  intro i g1 g2 e1 e2 e3 e4 h2
  obtain ⟨h3, h4⟩ := be_cut g1 g2 h2
  exact ⟨vl_ext hkk h3 (by rw [nil_of (p3 e3 e4), nil_of (q3 e3 e4)]) (by rw [nil_of (p1 e1), nil_of (q1 e1)]) (by rw [nil_of (p2 e1 e2), nil_of (q2 e1 e2)]), h4⟩
 have htxt : ∀ i : Nat, v.s.length < 256 ^ i → u.s.length < 256 ^ i → u.kind ≠ 168 → u.kind ≠ 169 → (u.kind = 149 ∨ u.kind = 160) → (be i v.s.length ++ v.s) ++ R = (be i u.s.length ++ u.s) ++ S → v = u ∧ R = S := by
  intro i g1 g2 e1 e2 e3 h2
  obtain ⟨h3, h4⟩ := text_cut g1 g2 h2
  exact ⟨vl_ext hkk (by rw [p6 (by omega) (by omega) (by omega) (by omega), q6 (by omega) (by omega) (by omega) (by omega)]) h3 (by rw [nil_of (p1 e1), nil_of (q1 e1)]) (by rw [nil_of (p2 e1 e2), nil_of (q2 e1 e2)]), h4⟩
 rcases k1 with e | e | e | e | e | e | e | e | e
 ·refine hnum 1 (by have := p4 e; omega) (by have := q4 e; omega) (by omega) (by omega) (by omega) (by omega) ?_
  unfold restB at h; rw [e] at h; simpa using h
 ·refine hnum 1 (by have := p5 e; omega) (by have := q5 e; omega) (by omega) (by omega) (by omega) (by omega) ?_
  unfold restB at h; rw [e] at h; simpa using h
 ·refine hnum 8 (by omega) (by omega) (by omega) (by omega) (by omega) (by omega) ?_
  unfold restB at h; rw [e] at h; simpa using h
 ·refine hnum 8 (by omega) (by omega) (by omega) (by omega) (by omega) (by omega) ?_
  unfold restB at h; rw [e] at h; simpa using h
 ·refine hnum 0 (by rw [p6 (by omega) (by omega) (by omega) (by omega)]; decide) (by rw [q6 (by omega) (by omega) (by omega) (by omega)]; decide) (by omega) (by omega) (by omega) (by omega) ?_
  unfold restB at h; rw [e] at h; simpa [be] using h
 ·refine htxt 4 (by omega) (by omega) (by omega) (by omega) (by omega) ?_
  unfold restB at h; rw [e] at h; simpa [List.append_assoc] using h
 ·refine htxt 2 (by omega) (by omega) (by omega) (by omega) (by omega) ?_
  unfold restB at h; rw [e] at h; simpa [List.append_assoc] using h
 ·refine hmany true (by rw [e]; rfl) (by omega) ?_
  unfold restB at h; rw [e] at h
  simp only [List.append_assoc] at h
  exact (be_part (i := 4) (by simpa using h)).2
 ·refine hmany false (by rw [e]; rfl) (by omega) ?_
  unfold restB at h; rw [e] at h
  simp only [List.append_assoc] at h
  exact (be_part (i := 4) (by simpa using h)).2
end Go.PH
end
section
/- Put of a value: the walk of the document's program. -/
namespace Go.PH
open Go.RowKit Go.Proofs

end Go.PH
end
section
/- How a value is read off bytes, as plain mathematics. No program in sight. -/
namespace Go.PH

theorem mtext_app2 (w : Nat) (hw : w = 1 ∨ w = 2 ∨ w = 4) (s rest : List UInt8) (most : Nat) (hs : s.length < 256 ^ w) (hm : s.length ≤ most) : mtext (be w s.length ++ s ++ rest) false (w : Int) (most : Int) = (s, rest, false) := by
 rw [mtext_eq (by omega), List.append_assoc, mnum_app w (wideB_yes (by omega)) s.length (s ++ rest), Nat.mod_eq_of_lt hs]
 simp only
 rw [if_neg (by simp; omega), mtake_app]
theorem mtake_len (l : List UInt8) (b : Bool) (x : Int) : (mtake l b x).2.1.length ≤ l.length := by
 unfold mtake
 split
 ·simp
 ·simp
theorem mnum_len (l : List UInt8) (b : Bool) (x : Int) : (mnum l b x).2.1.length ≤ l.length := by
 unfold mnum
 split
 ·exact mtake_len l b x
 ·simp
theorem mtext_len (l : List UInt8) (b : Bool) (x m : Int) : (mtext l b x m).2.1.length ≤ l.length := by
 unfold mtext
 split
 ·simp only
  split
  ·simp
  ·exact Nat.le_trans (mtake_len _ _ _) (mnum_len l b x)
 ·simp
theorem mtext_slen (l : List UInt8) (b : Bool) (x : Int) (m : Nat) : (mtext l b x (m : Int)).1.length ≤ m := by
 unfold mtext
 split
 ·simp only
  split
  ·simp
  ·rename_i h
   unfold mtake
   split
   ·simp
   ·simp only [List.length_take]
    omega
 ·simp
theorem mnum_at (w : Nat) (hw : w = 1 ∨ w = 2 ∨ w = 4 ∨ w = 8) (n : Nat) (hn : n < 256 ^ w) (l : List UInt8) : mnum (be w n ++ l) false (w : Int) = (n, l, false) := by
 rw [mnum_app w (wideB_yes (by omega)) n l, Nat.mod_eq_of_lt hn]
end Go.PH
end
section
/- A value off bytes: the walk of the program's Get. -/
namespace Go.PH
open Go.RowKit Go.Proofs

end Go.PH
end
section
/- The reader's 'many' of a map or a list: the walk of the program. (Made by genmanya.py.) -/
namespace Go.PH
open Go.RowKit Go.Proofs


end Go.PH
end
section
/- The reader's 'read': the walk of the program. -/
namespace Go.PH
open Go.RowKit Go.Proofs

end Go.PH
end
section
/- A value off bytes: the walk of the program's Get. -/
namespace Go.PH
open Go.RowKit Go.Proofs

/-- the deferred function -/
abbrev getD : Nat := 176
theorem rd_wide {w : World} {B B' size n c : Nat} {A : Option Addr} {xs : List Value} (h : Rd w B size A n c xs) (hB : B ≤ B') : Rd w B' size A n c xs := ⟨h.len, h.cap, h.max, fun hn => by
 obtain ⟨b, off, e, hb, hc⟩ := h.at_ hn
 exact ⟨b, off, e, Nat.lt_of_lt_of_le hb hB, hc⟩⟩
end Go.PH
end

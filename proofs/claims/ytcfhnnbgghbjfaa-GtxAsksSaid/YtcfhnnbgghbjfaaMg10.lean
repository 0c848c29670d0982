/- Texts laid together: GtTakeMath, GtQuitMath, GtSureMath, GtWithin. -/
import Derived.Test.YtcfhnnbgghbjfaaMg06
import Derived.Test.YtcfhnnbgghbjfaaMg08
section
/- The mathematics of Take: how the document goes through the parts, and that it is what the definition says. -/
set_option linter.all false
set_option linter.unusedSimpArgs false
set_option linter.unusedVariables false
namespace Go.PH

/-- what a letter makes of a part in a state: the part's state behind it, and whether the transaction aborts; none: nothing -/
def fits (st ps kind : Nat) : Bool := decide ((st = 2 ∧ ps = 0 ∧ kind = 17) ∨ (st = 3 ∧ ps = 1 ∧ kind = 18) ∨ (st = 4 ∧ ps ≤ 1 ∧ kind = 19))
/-- the document's way through the parts -/
def rtake (g : Gl) (node : Nat) (x : Xd) (kind xa no : Nat) : List Pt → List Pt → Gl × Nat
  | d, [] => ({ g with parts := d }.ends, 0)
  | d, p :: l =>
    if decide (p.node = node ∧ p.x = x) = false then rtake g node x kind xa no (d ++ [p]) l
    else if g.st = 2 ∧ p.st = 0 ∧ kind = 17 then
      (if xa = 0 ∧ no = 0 then ({ g with parts := d ++ Pt.to 1 p :: l }, 0)
       else if xa = 7 then ({ g with parts := d ++ Pt.to 2 p :: l }, 0)
       else if xa ≠ 0 ∨ no = 7 then ({ g with parts := d ++ Pt.to 2 p :: l }.to 4, 0)
       else ({ g with parts := d ++ p :: l }, 0))
    else if (g.st = 3 ∧ p.st = 1 ∧ kind = 18) ∨ (g.st = 4 ∧ p.st ≤ 1 ∧ kind = 19) then
      (if xa = 0 ∧ no = 0 ∨ no = 7 then rtake g node x kind xa no (d ++ [Pt.to 2 p]) l
       else if xa = 4 then rtake g node x kind xa no (d ++ [Pt.to 3 p]) l
       else if xa = 5 then rtake g node x kind xa no (d ++ [Pt.to 4 p]) l
       else rtake g node x kind xa no (d ++ [p]) l)
    else rtake g node x kind xa no (d ++ [p]) l
theorem allTo_mem {s : Nat} {l : List Pt} : allTo s l = l.map (Pt.to s) := rfl
theorem ok_nodes {X : Xd} : ∀ {l : List Pt} {last : Nat}, partsOk X last (allTo 0 l) = true → (∀ p ∈ l, last < p.node) ∧ l.Pairwise (fun a b => a.node < b.node)
  | [], _, _ => ⟨by simp, .nil⟩
  | p :: l, last, h => by
    simp only [allTo, List.map_cons, partsOk, Bool.and_eq_true, decide_eq_true_eq, Pt.to] at h
    obtain ⟨h1, h2⟩ := ok_nodes (l := l) h.2
    have h3 := h.1.1.1.1.1
    refine ⟨fun q hq => ?_, List.pairwise_cons.2 ⟨h1, h2⟩⟩
    rcases List.mem_cons.1 hq with rfl | hq
    · exact h3
    · have := h1 q hq; omega
theorem ok_ends {g : Gl} (h : g.ok = true) : g.ends = g := by
  unfold Gl.ends
  split
  · rename_i hc
    simp only [Gl.ok, stateOk, Bool.and_eq_true] at h
    have h5 := h.2
    rcases hc with ⟨h3 | h4, hz⟩
    · rw [if_neg (by omega), if_neg (by omega), if_pos h3] at h5
      simp only [Bool.and_eq_true, Bool.not_eq_true'] at h5
      have : hasSt [0, 1] g.parts = true := by
        have h6 := h5.2
        simp only [hasSt, List.any_eq_true] at h6 ⊢
        obtain ⟨p, hp, hq⟩ := h6
        exact ⟨p, hp, by simp at hq ⊢; omega⟩
      rw [this] at hz; cases hz
    · rw [if_neg (by omega), if_neg (by omega), if_neg (by omega), if_pos h4] at h5
      simp only [Bool.and_eq_true] at h5
      rw [h5.2] at hz; cases hz
  · rfl
/-- behind the place nothing is left that could meet -/
theorem rtake_none (g : Gl) (node : Nat) (x : Xd) (kind xa no : Nat) : ∀ (l d : List Pt), (∀ p ∈ l, decide (p.node = node ∧ p.x = x) = false) → rtake g node x kind xa no d l = ({ g with parts := d ++ l }.ends, 0)
  | [], d, _ => by simp [rtake]
  | p :: l, d, h => by
    rw [rtake, if_pos (h p (List.mem_cons_self ..)), rtake_none g node x kind xa no l _ (fun q hq => h q (List.mem_cons_of_mem _ hq))]
    simp
theorem setPt_at (s : Nat) (d : List Pt) (p : Pt) (l : List Pt) : setPt s d.length (d ++ p :: l) = d ++ Pt.to s p :: l := by
  unfold setPt
  rw [List.mapIdx_append, List.mapIdx_cons]
  congr 1
  · refine List.ext_getElem (by simp) fun i h1 h2 => ?_
    simp only [List.length_mapIdx] at h1
    simp only [List.getElem_mapIdx]
    rw [if_neg (by omega)]
  · congr 1
    · rw [if_pos (by omega)]; rfl
    · refine List.ext_getElem (by simp) fun i h1 h2 => ?_
      simp only [List.length_mapIdx] at h1
      simp only [List.getElem_mapIdx]
      rw [if_neg (by omega)]
theorem setPt_set (s i : Nat) (l : List Pt) (hi : i < l.length) : setPt s i l = l.set i (Pt.to s l[i]) := by
  refine List.ext_getElem (by simp [setPt]) fun j h1 h2 => ?_
  simp only [setPt, List.getElem_mapIdx, List.getElem_set]
  by_cases h : i = j
  · subst h; simp [Pt.to]
  · rw [if_neg (by omega), if_neg h]
/-- what is made of a transaction whose part at a place is met -/
def gtake (g : Gl) (i : Nat) (p : Pt) (kind xa no : Nat) : Gl × Nat :=
  if fits g.st p.st kind = false then (g, 0)
  else
    let v := if g.st = 2 then voted xa no else ended xa no
    if v.2 = false then (g, 0)
    else
      let h := { g with parts := setPt v.1 i g.parts }
      if g.st = 2 ∧ v.1 = 2 ∧ xa ≠ 7 then (h.to 4, 0) else (h.ends, 0)
theorem waits_fits (st ps kind : Nat) : (waits st ps = 0 ∨ waits st ps + 16 ≠ kind) ↔ fits st ps kind = false := by
  unfold waits fits
  rw [decide_eq_false_iff_not]
  by_cases a : st = 2 ∧ ps = 0
  · rw [if_pos a]; omega
  · rw [if_neg a]
    by_cases b : st = 3 ∧ ps = 1
    · rw [if_pos b]; omega
    · rw [if_neg b]
      by_cases c : st = 4 ∧ ps ≤ 1
      · rw [if_pos c]; omega
      · rw [if_neg c]; omega
theorem take_of (g : Gl) (node : Nat) (l : Lt) : g.take node l = if g.ok = false then (gl0, 270) else if ltOk l = false then (gl0, 250) else match findPt node l.x g.parts with
  | none => (g, 0)
  | some i => if h : i < g.parts.length then gtake g i g.parts[i] l.kind l.xa l.no else (g, 0) := by
  unfold Gl.take
  congr 1
  congr 1
  cases hf : findPt node l.x g.parts with
  | none => rfl
  | some i =>
    have hi : i < g.parts.length := by
      unfold findPt at hf
      rw [List.findIdx?_eq_some_iff_getElem] at hf
      exact hf.1
    have e : (Option.map (fun p : Pt => p.st) g.parts[i]?).get! = g.parts[i].st := by rw [List.getElem?_eq_getElem hi]; rfl
    simp only [hi, dif_pos]
    rw [e]
    unfold gtake
    by_cases hw : waits g.st g.parts[i].st = 0 ∨ waits g.st g.parts[i].st + 16 ≠ l.kind
    · rw [if_pos hw, if_pos ((waits_fits _ _ _).1 hw)]
    · rw [if_neg hw, if_neg (fun e => hw ((waits_fits _ _ _).2 e))]
theorem find_split (node : Nat) (x : Xd) (l : List Pt) : (findPt node x l = none ∧ ∀ p ∈ l, decide (p.node = node ∧ p.x = x) = false) ∨ ∃ d p t, l = d ++ p :: t ∧ findPt node x l = some d.length ∧ decide (p.node = node ∧ p.x = x) = true ∧ ∀ q ∈ d, decide (q.node = node ∧ q.x = x) = false := by
  cases hf : findPt node x l with
  | none =>
    left
    unfold findPt at hf
    rw [List.findIdx?_eq_none_iff] at hf
    exact ⟨rfl, hf⟩
  | some i =>
    right
    unfold findPt at hf
    rw [List.findIdx?_eq_some_iff_getElem] at hf
    obtain ⟨hi, h1, h2⟩ := hf
    refine ⟨l.take i, l[i], l.drop (i + 1), by rw [← List.drop_eq_getElem_cons hi, List.take_append_drop], by simp; omega, h1, fun q hq => ?_⟩
    rw [List.mem_take_iff_getElem] at hq
    obtain ⟨j, hj, rfl⟩ := hq
    have := h2 j (by omega)
    simpa using this
theorem rtake_front (g : Gl) (node : Nat) (x : Xd) (kind xa no : Nat) : ∀ (d l e : List Pt), (∀ p ∈ d, decide (p.node = node ∧ p.x = x) = false) → rtake g node x kind xa no e (d ++ l) = rtake g node x kind xa no (e ++ d) l
  | [], l, e, _ => by simp
  | p :: d, l, e, h => by
    rw [List.cons_append, rtake, if_pos (h p (List.mem_cons_self ..)), rtake_front g node x kind xa no d l _ (fun q hq => h q (List.mem_cons_of_mem _ hq))]
    simp
theorem rtake_ok (g : Gl) (node : Nat) (x : Xd) (kind xa no : Nat) (hok : g.ok = true) (hxn : xa = 0 ∨ no = 0) : rtake g node x kind xa no [] g.parts = match findPt node x g.parts with
  | none => (g, 0)
  | some i => if h : i < g.parts.length then gtake g i g.parts[i] kind xa no else (g, 0) := by
  have hends := ok_ends hok
  rcases find_split node x g.parts with ⟨h1, h2⟩ | ⟨d, p, t, h1, h2, h3, h4⟩
  · rw [h1, rtake_none g node x kind xa no _ _ h2]
    simp only [List.nil_append]
    rw [hends]
  · rw [h2]
    have hl : d.length < g.parts.length := by rw [h1]; simp
    have hp : g.parts[d.length] = p := by simp [h1]
    simp only [hl, dif_pos, hp]
    have hpw : (d ++ p :: t).Pairwise (fun a b => a.node < b.node) := by
      have := hok
      simp only [Gl.ok, dcOk, Bool.and_eq_true] at this
      rw [← h1]
      exact (ok_nodes this.1.1.1.1.2).2
    have ht : ∀ q ∈ t, decide (q.node = node ∧ q.x = x) = false := by
      intro q hq
      have h5 := (List.pairwise_cons.1 (List.pairwise_append.1 hpw).2.1).1 q hq
      simp only [decide_eq_true_eq] at h3
      simp only [decide_eq_false_iff_not]
      omega
    rw [h1, rtake_front g node x kind xa no d _ [] h4, List.nil_append, rtake, if_neg (by rw [h3]; simp)]
    have hgp : { g with parts := d ++ p :: t } = g := by rw [← h1]
    have hgp2 : ({ g with parts := d ++ p :: t } : Gl).ends = g := by rw [hgp, hends]
    have hnone : ∀ r : Pt, rtake g node x kind xa no (d ++ [r]) t = ({ g with parts := d ++ r :: t }.ends, 0) := fun r => by rw [rtake_none g node x kind xa no _ _ ht]; simp
    have hset : ∀ s : Nat, setPt s d.length g.parts = d ++ Pt.to s p :: t := fun s => by rw [h1, setPt_at]
    unfold gtake
    simp only [hset, hnone]
    by_cases c1 : g.st = 2 ∧ p.st = 0 ∧ kind = 17
    · have hf : fits g.st p.st kind = true := by unfold fits; rw [decide_eq_true_eq]; exact .inl c1
      have e2 := c1.1
      rw [if_pos c1, hf]
      simp only [e2, if_true]
      unfold voted
      by_cases a1 : xa = 0 ∧ no = 0
      · rw [if_pos a1]
        simp [a1, Gl.ends, e2]
      · rw [if_neg a1]
        by_cases a2 : xa = 7
        · rw [if_pos a2, if_neg a1, if_pos (show xa ≠ 0 ∨ no = 7 by omega)]
          simp [Gl.ends, e2, a2]
        · rw [if_neg a2, if_neg a1]
          by_cases a3 : xa ≠ 0 ∨ no = 7
          · rw [if_pos a3, if_pos a3]
            simp [a2]
          · rw [if_neg a3, if_neg a3]
            have hg2 : ({ x := g.x, st := 2, com := g.com, parts := d ++ p :: t, wait := g.wait, tries := g.tries } : Gl) = g := by rw [← e2]; exact hgp
            simp [hg2]
    · rw [if_neg c1]
      by_cases c2 : (g.st = 3 ∧ p.st = 1 ∧ kind = 18) ∨ (g.st = 4 ∧ p.st ≤ 1 ∧ kind = 19)
      · have hf : fits g.st p.st kind = true := by unfold fits; rw [decide_eq_true_eq]; exact .inr c2
        have e2 : ¬ g.st = 2 := by omega
        rw [if_pos c2, hf]
        simp only [e2, if_false, false_and]
        unfold ended
        by_cases a1 : xa = 0 ∧ no = 0 ∨ no = 7
        · rw [if_pos a1, if_pos (show xa = 0 ∧ (no = 0 ∨ no = 7) by omega)]
          simp
        · have a1' : ¬ (xa = 0 ∧ (no = 0 ∨ no = 7)) := by omega
          rw [if_neg a1, if_neg a1']
          by_cases a2 : xa = 4
          · simp [a2]
          · by_cases a3 : xa = 5
            · simp [a3]
            · simp [a2, a3, hgp2]
      · have hf : fits g.st p.st kind = false := by unfold fits; rw [decide_eq_false_iff_not]; omega
        rw [if_neg c2, hf, if_pos rfl, hgp2]
end Go.PH
end
section
/- The mathematics of GtxQuits: how a transaction that nobody answers turns, tick by tick. -/
set_option linter.all false
set_option linter.unusedSimpArgs false
set_option linter.unusedVariables false
namespace Go.PH

/-- behind so many ticks -/
def qst (x : Xd) (P : List Pt) (i : Nat) : Gl := ⟨x, if i ≤ 15 then 2 else 4, false, P, (3 - i % 3) % 3, if i ≤ 15 then (i + 2) / 3 else min ((i - 13) / 3) 5⟩
theorem newParts_st {x : Xd} {l : List Nat} : ∀ p ∈ newParts x l, p.st = 0 := by
  intro p hp
  simp only [newParts, List.mem_map] at hp
  obtain ⟨n, _, rfl⟩ := hp
  rfl
theorem only_of {S : List Nat} {P : List Pt} (h : ∀ p ∈ P, p.st = 0) (hS : S.contains 0 = true) : onlySt S P = true := by
  simp only [onlySt, List.all_eq_true]
  intro p hp
  rw [h p hp]
  exact hS
theorem has_of {S : List Nat} {P : List Pt} (h : ∀ p ∈ P, p.st = 0) (h0 : 0 < P.length) (hS : S.contains 0 = true) : hasSt S P = true := by
  simp only [hasSt, List.any_eq_true]
  exact ⟨P[0], List.getElem_mem h0, by rw [h _ (List.getElem_mem h0)]; exact hS⟩
theorem qst_ok {x : Xd} {P : List Pt} (hd : dcOk x (allTo 0 P) = true) (h : ∀ p ∈ P, p.st = 0) (i : Nat) : (qst x P i).ok = true := by
  have h0 : 0 < P.length := by
    simp only [dcOk, allTo, List.length_map, Bool.and_eq_true, decide_eq_true_eq] at hd
    omega
  have o1 : onlySt [0, 1, 2, 3, 4] P = true := only_of h rfl
  have o2 : onlySt [0, 1, 2] P = true := only_of h rfl
  have o3 : hasSt [0, 1] P = true := has_of h h0 rfl
  simp only [Gl.ok, qst, stateOk, Bool.and_eq_true, decide_eq_true_eq]
  refine ⟨⟨⟨⟨hd, o1⟩, decide_eq_true (by omega)⟩, decide_eq_true (by split <;> omega)⟩, ?_⟩
  by_cases hi : i ≤ 15
  · simp [hi, o2]
  · simp [hi, o3]
theorem gtick_wait {x : Xd} {P : List Pt} {st wt tr : Nat} (hok : Gl.ok ⟨x, st, false, P, wt, tr⟩ = true) (hs : st = 2 ∨ st = 4) (h : 0 < wt) : Gl.tick ⟨x, st, false, P, wt, tr⟩ = (⟨x, st, false, P, wt - 1, tr⟩, false, 0) := by
  unfold Gl.tick
  rw [if_neg (by rw [hok]; simp), if_neg (by show ¬ (st = 1 ∨ st = 5); omega), if_pos (show 0 < wt from h)]
theorem gtick_go {x : Xd} {P : List Pt} {st tr : Nat} (hok : Gl.ok ⟨x, st, false, P, 0, tr⟩ = true) (hs : st = 2 ∨ st = 4) (h : ¬ (st = 2 ∧ tr = 5)) : Gl.tick ⟨x, st, false, P, 0, tr⟩ = (⟨x, st, false, P, 2, min (tr + 1) 5⟩, true, 0) := by
  unfold Gl.tick
  rw [if_neg (by rw [hok]; simp), if_neg (by show ¬ (st = 1 ∨ st = 5); omega), if_neg (by show ¬ (0 < 0); omega)]
  simp only [h, if_false]
  rw [if_neg (fun e => h ⟨e.1, e.2.1⟩)]
theorem gtick_end {x : Xd} {P : List Pt} (hok : Gl.ok ⟨x, 2, false, P, 0, 5⟩ = true) (h : hasSt [0, 1] P = true) : Gl.tick ⟨x, 2, false, P, 0, 5⟩ = (⟨x, 4, false, P, 2, 1⟩, true, 0) := by
  unfold Gl.tick
  rw [if_neg (by rw [hok]; simp), if_neg (by simp), if_neg (by simp)]
  have e : Gl.to ⟨x, 2, false, P, 0, 5⟩ 4 = ⟨x, 4, false, P, 0, 0⟩ := by
    unfold Gl.to Gl.ends
    simp [h]
  rw [e]
  simp
theorem qst_lo {x : Xd} {P : List Pt} {i : Nat} (h : i ≤ 15) : qst x P i = ⟨x, 2, false, P, (3 - i % 3) % 3, (i + 2) / 3⟩ := by unfold qst; rw [if_pos h, if_pos h]
theorem qst_hi {x : Xd} {P : List Pt} {i : Nat} (h : ¬ i ≤ 15) : qst x P i = ⟨x, 4, false, P, (3 - i % 3) % 3, min ((i - 13) / 3) 5⟩ := by unfold qst; rw [if_neg h, if_neg h]
theorem gl_eq {x : Xd} {st : Nat} {P : List Pt} {a b c d : Nat} (h1 : a = c) (h2 : b = d) : (⟨x, st, false, P, a, b⟩ : Gl) = ⟨x, st, false, P, c, d⟩ := by rw [h1, h2]
theorem qst_tick {x : Xd} {P : List Pt} (hd : dcOk x (allTo 0 P) = true) (h : ∀ p ∈ P, p.st = 0) (i : Nat) : (qst x P i).tick = (qst x P (i + 1), decide (i % 3 = 0), 0) := by
  have h0 : 0 < P.length := by
    simp only [dcOk, allTo, List.length_map, Bool.and_eq_true, decide_eq_true_eq] at hd
    omega
  have o3 : hasSt [0, 1] P = true := has_of h h0 rfl
  have hok := qst_ok hd h i
  by_cases hm : i % 3 = 0
  · rw [show decide (i % 3 = 0) = true by simpa using hm]
    by_cases h15 : i = 15
    · subst h15
      exact gtick_end hok o3
    · have e0 : (3 - i % 3) % 3 = 0 := by omega
      by_cases hl : i ≤ 15
      · rw [qst_lo hl, e0] at hok ⊢
        rw [qst_lo (by omega : i + 1 ≤ 15), gtick_go hok (.inl rfl) (by omega), gl_eq (show 2 = (3 - (i + 1) % 3) % 3 by omega) (show min ((i + 2) / 3 + 1) 5 = (i + 1 + 2) / 3 by omega)]
      · rw [qst_hi hl, e0] at hok ⊢
        rw [qst_hi (by omega : ¬ i + 1 ≤ 15), gtick_go hok (.inr rfl) (by omega), gl_eq (show 2 = (3 - (i + 1) % 3) % 3 by omega) (show min (min ((i - 13) / 3) 5 + 1) 5 = min ((i + 1 - 13) / 3) 5 by omega)]
  · rw [show decide (i % 3 = 0) = false by simpa using hm]
    by_cases hl : i ≤ 15
    · rw [qst_lo hl] at hok ⊢
      rw [qst_lo (by omega : i + 1 ≤ 15), gtick_wait hok (.inl rfl) (by omega), gl_eq (show (3 - i % 3) % 3 - 1 = (3 - (i + 1) % 3) % 3 by omega) (show (i + 2) / 3 = (i + 1 + 2) / 3 by omega)]
    · rw [qst_hi hl] at hok ⊢
      rw [qst_hi (by omega : ¬ i + 1 ≤ 15), gtick_wait hok (.inr rfl) (by omega), gl_eq (show (3 - i % 3) % 3 - 1 = (3 - (i + 1) % 3) % 3 by omega) (show min ((i - 13) / 3) 5 = min ((i + 1 - 13) / 3) 5 by omega)]
/-- what New and Ask make -/
theorem new_ask (x : Xd) (l : List Nat) (h : (Gl.new x l).2 = 0) : (Gl.new x l).1 = newGl x l ∧ (newGl x l).ok = true ∧ dcOk x (allTo 0 (newParts x l)) = true ∧ (newGl x l).ask true = (qst x (newParts x l) 0, 0) := by
  unfold Gl.new at h ⊢
  split at h
  · cases h
  · split at h
    · cases h
    · rename_i h1 h2
      rw [if_neg h1, if_neg h2]
      have h2' : (newGl x l).ok = true := by simpa using h2
      have hd : dcOk x (allTo 0 (newParts x l)) = true := by
        have := h2'
        simp only [Gl.ok, Bool.and_eq_true] at this
        exact this.1.1.1.1
      refine ⟨rfl, h2', hd, ?_⟩
      unfold Gl.ask
      rw [if_neg (by rw [h2']; simp), if_neg (by simp [newGl])]
      unfold Gl.to Gl.ends
      simp [newGl, qst]
theorem new_err (x : Xd) (l : List Nat) (hx : x.ok = true) (hb : x.bran = []) (h : (Gl.new x l).2 ≠ 0) : (Gl.new x l).2 = 2 := by
  unfold Gl.new at h ⊢
  split
  · rename_i h1; rcases h1 with h1 | h1
    · rw [hx] at h1; cases h1
    · exact absurd hb h1
  · split
    · rfl
    · rename_i h1 h2; rw [if_neg h1, if_neg h2] at h; exact absurd rfl h
end Go.PH
end
section
/- The mathematics of GtxSure: what Take, Tick, Decide and Abort keep of a transaction that may be. -/
set_option linter.all false
set_option linter.unusedSimpArgs false
set_option linter.unusedVariables false
namespace Go.PH

/-- what is true of a transaction and of what an act makes of it; dec: was it Decide? -/
structure Kept (g n : Gl) (dec : Bool) : Prop where
  ok : n.ok = true
  len : n.parts.length = g.parts.length
  x : n.x = g.x
  com : g.com = true → n.com = true ∧ (n.st = 3 ∨ n.st = 5)
  ab : g.st = 4 → n.com = false ∧ (n.st = 4 ∨ n.st = 5)
  new : n.com = true → g.com = false → dec = true ∧ g.st = 2
  fin : g.st = 5 → n = g
  part : ∀ k (h : k < g.parts.length) (h' : k < n.parts.length), 2 ≤ g.parts[k].st → n.parts[k] = g.parts[k]
  two : n.st = 2 → g.st = 2
  one : n.st ≠ 1 ∨ g.st = 1
  all : allTo 0 n.parts = allTo 0 g.parts
theorem Kept.same {g : Gl} (h : g.ok = true) (d : Bool) : Kept g g d where
  ok := h
  len := rfl
  x := rfl
  com hc := by
    refine ⟨hc, ?_⟩
    simp only [Gl.ok, stateOk, Bool.and_eq_true] at h
    have h5 := h.2
    rw [hc] at h5
    by_cases a1 : g.st = 1
    · simp [a1] at h5
    · by_cases a2 : g.st = 2
      · simp [a2] at h5
      · by_cases a3 : g.st = 3
        · exact .inl a3
        · by_cases a4 : g.st = 4
          · simp [a4] at h5
          · by_cases a5 : g.st = 5
            · exact .inr a5
            · simp [a1, a2, a3, a4, a5] at h5
  ab hs := by
    simp only [Gl.ok, stateOk, Bool.and_eq_true] at h
    have h5 := h.2
    simp [hs] at h5
    exact ⟨h5.1, .inl hs⟩
  new hn hg := by rw [hn] at hg; cases hg
  fin _ := rfl
  part _ _ _ _ := rfl
  two := id
  one := by by_cases h : g.st = 1; exact .inr h; exact .inl h
  all := rfl
/-- a transaction's own facts -/
structure OkF (g : Gl) : Prop where
  dc : dcOk g.x (allTo 0 g.parts) = true
  on : onlySt [0, 1, 2, 3, 4] g.parts = true
  wait : g.wait ≤ 3
  tries : g.tries ≤ 5
  st : stateOk g = true
theorem okF {g : Gl} (h : g.ok = true) : OkF g := by
  simp only [Gl.ok, Bool.and_eq_true, decide_eq_true_eq] at h
  exact ⟨h.1.1.1.1, h.1.1.1.2, h.1.1.2, h.1.2, h.2⟩
theorem OkF.ok {g : Gl} (h : OkF g) : g.ok = true := by
  simp only [Gl.ok, Bool.and_eq_true, decide_eq_true_eq]
  exact ⟨⟨⟨⟨h.dc, h.on⟩, h.wait⟩, h.tries⟩, h.st⟩
theorem OkF.st5 {g : Gl} (h : OkF g) : g.st = 1 ∨ g.st = 2 ∨ g.st = 3 ∨ g.st = 4 ∨ g.st = 5 := by
  have h5 := h.st
  unfold stateOk at h5
  by_cases a1 : g.st = 1
  · exact .inl a1
  · by_cases a2 : g.st = 2
    · exact .inr (.inl a2)
    · by_cases a3 : g.st = 3
      · exact .inr (.inr (.inl a3))
      · by_cases a4 : g.st = 4
        · exact .inr (.inr (.inr (.inl a4)))
        · by_cases a5 : g.st = 5
          · exact .inr (.inr (.inr (.inr a5)))
          · simp [a1, a2, a3, a4, a5] at h5
theorem OkF.com {g : Gl} (h : OkF g) (hc : g.com = true) : g.st = 3 ∨ g.st = 5 := ((Kept.same h.ok false).com hc).2
theorem OkF.ncom {g : Gl} (h : OkF g) (hs : g.st = 1 ∨ g.st = 2 ∨ g.st = 4) : g.com = false := by
  cases hc : g.com with
  | false => rfl
  | true => have := h.com hc; omega
/-- a transaction in the state 2 with other parts, of states 0, 1, 2 -/
theorem parts_st {l : List Pt} {S : List Nat} : onlySt S l = true ↔ ∀ p ∈ l, p.st ∈ S := by
  simp [onlySt]
theorem has_st {l : List Pt} {S : List Nat} : hasSt S l = true ↔ ∃ p ∈ l, p.st ∈ S := by
  simp [hasSt]
theorem has_not {l : List Pt} {S : List Nat} : hasSt S l = false ↔ ∀ p ∈ l, p.st ∉ S := by
  rw [← Bool.not_eq_true, has_st]
  simp
theorem allTo_set (s i : Nat) (l : List Pt) : allTo 0 (setPt s i l) = allTo 0 l := by
  refine List.ext_getElem (by simp [allTo, setPt]) fun j h1 h2 => ?_
  simp only [allTo, setPt, List.getElem_map, List.getElem_mapIdx, Pt.to]
  split <;> rfl
theorem setPt_len (s i : Nat) (l : List Pt) : (setPt s i l).length = l.length := by simp [setPt]
theorem setPt_get (s i : Nat) (l : List Pt) (k : Nat) (h : k < l.length) (h' : k < (setPt s i l).length) : (setPt s i l)[k] = if k = i then { l[k] with st := s } else l[k] := by
  simp [setPt]
theorem setPt_mem {s i : Nat} {l : List Pt} {S : List Nat} (hl : ∀ p ∈ l, p.st ∈ S) (hs : s ∈ S) : ∀ p ∈ setPt s i l, p.st ∈ S := by
  intro p hp
  obtain ⟨k, hk, rfl⟩ := List.mem_iff_getElem.1 hp
  rw [setPt_get _ _ _ _ (by simpa [setPt] using hk)]
  split
  · exact hs
  · exact hl _ (List.getElem_mem _)
/-- to: the facts -/
theorem to_fld (g : Gl) (s : Nat) : (g.to s).parts = g.parts ∧ (g.to s).x = g.x ∧ (g.to s).com = decide (s = 3) ∧ (g.to s).wait = 0 ∧ (g.to s).tries = 0 ∧ (g.to s).st = if (s = 3 ∨ s = 4) ∧ hasSt [0, 1] g.parts = false then 5 else s := by
  unfold Gl.to Gl.ends
  simp only
  split <;> simp_all
theorem ends_fld (g : Gl) : g.ends.parts = g.parts ∧ g.ends.x = g.x ∧ g.ends.com = g.com ∧ (g.ends.wait = 0 ∨ g.ends.wait = g.wait) ∧ (g.ends.tries = 0 ∨ g.ends.tries = g.tries) ∧ g.ends.st = if (g.st = 3 ∨ g.st = 4) ∧ hasSt [0, 1] g.parts = false then 5 else g.st := by
  unfold Gl.ends
  split <;> simp_all
theorem Kept.to4 {g h : Gl} (hg : OkF g) (h2 : g.st = 2) (hx : h.x = g.x) (hdc : allTo 0 h.parts = allTo 0 g.parts) (hl : h.parts.length = g.parts.length) (hon : onlySt [0, 1, 2, 3, 4] h.parts = true)
    (hp : ∀ k (h1 : k < g.parts.length) (h' : k < h.parts.length), 2 ≤ g.parts[k].st → h.parts[k] = g.parts[k]) (d : Bool) : Kept g (h.to 4) d := by
  obtain ⟨f1, f2, f3, f4, f5, f6⟩ := to_fld h 4
  have hnc := hg.ncom (.inr (.inl h2))
  have hst : stateOk (h.to 4) = true := by
    unfold stateOk
    rw [f6, f1, f3]
    cases hh : hasSt [0, 1] h.parts <;> simp [hh]
  refine ⟨OkF.ok ⟨by rw [f1, f2, hx, hdc]; exact hg.dc, by rw [f1]; exact hon, by omega, by omega, hst⟩, by rw [f1]; exact hl, by rw [f2]; exact hx, fun hc => (by rw [hnc] at hc; cases hc), fun e => by omega, fun hc => (by rw [f3] at hc; simp at hc), fun e => by omega, ?_, fun e => h2, .inl ?_, by rw [f1]; exact hdc⟩
  · intro k h1 h' h3
    have := hp k h1 (by rw [hl]; exact h1) h3
    simp only [f1]
    exact this
  · rw [f6]; split <;> omega
theorem Kept.ends {g h : Gl} (hg : OkF g) (hs : g.st = 2 ∨ g.st = 3 ∨ g.st = 4) (hst : h.st = g.st) (hc : h.com = g.com) (hx : h.x = g.x) (hw : h.wait = g.wait) (ht : h.tries = g.tries) (hdc : allTo 0 h.parts = allTo 0 g.parts) (hl : h.parts.length = g.parts.length) (hon : onlySt [0, 1, 2, 3, 4] h.parts = true)
    (h2 : g.st = 2 → onlySt [0, 1, 2] h.parts = true) (h3 : g.st = 3 → hasSt [0] h.parts = false)
    (hp : ∀ k (h1 : k < g.parts.length) (h' : k < h.parts.length), 2 ≤ g.parts[k].st → h.parts[k] = g.parts[k]) (d : Bool) : Kept g h.ends d := by
  obtain ⟨f1, f2, f3, f4, f5, f6⟩ := ends_fld h
  have hgw := hg.wait
  have hgt := hg.tries
  have hso : stateOk h.ends = true := by
    unfold stateOk
    rw [f6, f1, f3, hst, hc]
    rcases hs with e | e | e
    · rw [if_neg (show ¬ ((g.st = 3 ∨ g.st = 4) ∧ hasSt [0, 1] h.parts = false) by omega), hg.ncom (.inr (.inl e))]
      simp [e, h2 e]
    · have hcm : g.com = true := by
        have h5 := hg.st
        unfold stateOk at h5
        simp [e] at h5
        exact h5.1.1
      rw [hcm]
      cases hh : hasSt [0, 1] h.parts
      · simp [e, hh]
      · have h1 : hasSt [1] h.parts = true := by
          obtain ⟨p, hp1, hp2⟩ := has_st.1 hh
          have h0 := has_not.1 (h3 e) p hp1
          exact has_st.2 ⟨p, hp1, by simp at hp2 h0 ⊢; omega⟩
        simp [e, hh, h1, h3 e]
    · rw [hg.ncom (.inr (.inr e))]
      cases hh : hasSt [0, 1] h.parts <;> simp [e, hh]
  have h45 : h.ends.st = g.st ∨ (h.ends.st = 5 ∧ (g.st = 3 ∨ g.st = 4)) := by
    rw [f6, hst]; split
    · rename_i e; exact .inr ⟨rfl, e.1⟩
    · exact .inl rfl
  refine ⟨OkF.ok ⟨by rw [f1, f2, hx, hdc]; exact hg.dc, by rw [f1]; exact hon, by omega, by omega, hso⟩, by rw [f1]; exact hl, by rw [f2]; exact hx, fun e => ⟨by rw [f3, hc]; exact e, ?_⟩, fun e => ⟨by rw [f3, hc]; exact hg.ncom (.inr (.inr e)), by omega⟩, fun e e' => (by rw [f3, hc, e'] at e; cases e), fun e => by omega, ?_, fun e => by omega, by omega, by rw [f1]; exact hdc⟩
  · have := hg.com e
    omega
  · intro k h1 h' h4
    have := hp k h1 (by rw [hl]; exact h1) h4
    simp only [f1]
    exact this
theorem tick_kept {g : Gl} (h : g.ok = true) : g.tick.2.2 = 0 ∧ Kept g g.tick.1 false := by
  have hg := okF h
  have hw := hg.wait
  have ht := hg.tries
  unfold Gl.tick
  rw [if_neg (by rw [h]; simp)]
  split
  · exact ⟨rfl, Kept.same h _⟩
  · rename_i h15
    split
    · refine ⟨rfl, ?_⟩
      have hk := Kept.same h false
      exact ⟨OkF.ok ⟨hg.dc, hg.on, by show g.wait - 1 ≤ 3; omega, hg.tries, hg.st⟩, rfl, rfl, hk.com, hk.ab, hk.new, fun e => by omega, fun _ _ _ _ => rfl, id, hk.one, rfl⟩
    · by_cases hc : g.st = 2 ∧ g.tries = 5
      · have hk : Kept g (g.to 4) false := Kept.to4 hg hc.1 rfl rfl rfl hg.on (fun _ _ _ _ => rfl) false
        simp only [hc, and_self, if_true, true_and]
        split
        · exact ⟨rfl, hk⟩
        · rename_i h5
          refine ⟨rfl, ?_⟩
          obtain ⟨f1, f2, f3, f4, f5, f6⟩ := to_fld g 4
          have hkf := okF hk.ok
          exact ⟨OkF.ok ⟨hkf.dc, hkf.on, by show 2 ≤ 3; omega, by show min _ 5 ≤ 5; omega, hkf.st⟩, hk.len, hk.x, hk.com, hk.ab, hk.new, fun e => by omega, hk.part, hk.two, hk.one, hk.all⟩
      · simp only [hc, if_false, false_and]
        rw [if_neg (fun e => hc ⟨e.1, e.2.1⟩)]
        refine ⟨rfl, ?_⟩
        have hk := Kept.same h false
        exact ⟨OkF.ok ⟨hg.dc, hg.on, by show 2 ≤ 3; omega, by show min _ 5 ≤ 5; omega, hg.st⟩, rfl, rfl, hk.com, hk.ab, hk.new, fun e => by omega, fun _ _ _ _ => rfl, id, hk.one, rfl⟩
theorem abort_kept {g : Gl} (h : g.ok = true) (h0 : g.abort.2 = 0) : Kept g g.abort.1 false := by
  have hg := okF h
  unfold Gl.abort at h0 ⊢
  rw [if_neg (by rw [h]; simp)] at h0 ⊢
  split at h0
  · cases h0
  · rename_i h2
    rw [if_neg h2]
    have h2' : g.st = 2 := by omega
    exact Kept.to4 hg h2' rfl rfl rfl hg.on (fun _ _ _ _ => rfl) false
theorem decide_kept {g : Gl} (h : g.ok = true) (h0 : g.decide'.2 = 0) : Kept g g.decide'.1 true := by
  have hg := okF h
  unfold Gl.decide' at h0 ⊢
  rw [if_neg (by rw [h]; simp)] at h0 ⊢
  split at h0
  · cases h0
  · rename_i hr
    rw [if_neg hr]
    have hr' : g.ready = true := by simpa using hr
    simp only [Gl.ready, Bool.and_eq_true, decide_eq_true_eq, Bool.not_eq_true'] at hr'
    obtain ⟨⟨_, h2⟩, hn0⟩ := hr'
    obtain ⟨f1, f2, f3, f4, f5, f6⟩ := to_fld g 3
    have hnc := hg.ncom (.inr (.inl h2))
    have hst : stateOk (g.to 3) = true := by
      unfold stateOk
      rw [f6, f1, f3]
      cases hh : hasSt [0, 1] g.parts
      · simp [hh]
      · have h1 : hasSt [1] g.parts = true := by
          obtain ⟨p, hp1, hp2⟩ := has_st.1 hh
          have h0 := has_not.1 hn0 p hp1
          exact has_st.2 ⟨p, hp1, by simp at hp2 h0 ⊢; omega⟩
        simp [hh, h1, hn0]
    refine ⟨OkF.ok (g := g.to 3) ⟨by rw [f1, f2]; exact hg.dc, by rw [f1]; exact hg.on, by omega, by omega, hst⟩, by rw [f1], by rw [f2], fun hc => (by rw [hnc] at hc; cases hc), fun e => by omega, fun _ _ => ⟨rfl, h2⟩, fun e => by omega, ?_, fun _ => h2, .inl ?_, by rw [f1]⟩
    · intro k h1 h' h3
      simp only [f1]
    · rw [f6]; split <;> omega
theorem took_st {st xa no : Nat} : (if st = 2 then voted xa no else ended xa no).2 = true → (if st = 2 then voted xa no else ended xa no).1 ∈ [1, 2, 3, 4] ∧ (st = 2 → (if st = 2 then voted xa no else ended xa no).1 ∈ [1, 2]) := by
  unfold voted ended
  by_cases h2 : st = 2
  · simp only [h2, if_true]
    repeat' split
    all_goals simp
  · simp only [h2, if_false]
    repeat' split
    all_goals simp
theorem take_kept {g : Gl} (h : g.ok = true) (node : Nat) (l : Lt) (h0 : (g.take node l).2 = 0) : Kept g (g.take node l).1 false := by
  have hg := okF h
  rw [take_of] at h0 ⊢
  rw [if_neg (by rw [h]; simp)] at h0 ⊢
  split at h0
  · cases h0
  · rename_i hlo
    rw [if_neg hlo]
    clear h0 hlo
    split
    · exact Kept.same h _
    · split
      · rename_i i _ hi
        unfold gtake
        split
        · exact Kept.same h _
        · rename_i hfit
          have hfit' : fits g.st g.parts[i].st l.kind = true := by simpa using hfit
          unfold fits at hfit'
          simp only [decide_eq_true_eq] at hfit'
          have hps : g.parts[i].st ≤ 1 := by omega
          have hv0 := took_st (st := g.st) (xa := l.xa) (no := l.no)
          generalize (if g.st = 2 then voted l.xa l.no else ended l.xa l.no) = v at *
          obtain ⟨s, is⟩ := v
          simp only at hv0 ⊢
          by_cases his : is = false
          · rw [if_pos his]; exact Kept.same h _
          · rw [if_neg his]
            have hv := hv0 (by simpa using his)
            have hpart : ∀ k (h1 : k < g.parts.length) (h' : k < (setPt s i g.parts).length), 2 ≤ g.parts[k].st → (setPt s i g.parts)[k] = g.parts[k] := by
              intro k h1 h' h2
              rw [setPt_get _ _ _ _ h1]
              rw [if_neg]
              intro e
              subst e
              omega
            have hon : onlySt [0, 1, 2, 3, 4] (setPt s i g.parts) = true := parts_st.2 (setPt_mem (parts_st.1 hg.on) (by have := hv.1; simp at this ⊢; omega))
            split
            · rename_i hc
              exact Kept.to4 (h := { g with parts := setPt s i g.parts }) hg hc.1 rfl (allTo_set ..) (setPt_len ..) hon hpart _
            · refine Kept.ends (h := { g with parts := setPt s i g.parts }) hg (by omega) rfl rfl rfl rfl rfl (allTo_set ..) (setPt_len ..) hon (fun e => ?_) (fun e => ?_) hpart _
              · have h5 := hg.st
                unfold stateOk at h5
                simp [e] at h5
                exact parts_st.2 (setPt_mem (parts_st.1 h5.2) (by have := hv.2 e; simp at this ⊢; omega))
              · have h5 := hg.st
                unfold stateOk at h5
                simp [e] at h5
                refine has_not.2 fun p hp => ?_
                have : p.st ∈ [1, 2, 3, 4] := by
                  refine setPt_mem (l := g.parts) (fun q hq => ?_) hv.1 p hp
                  have a := has_not.1 h5.1.2 q hq
                  have b := parts_st.1 hg.on q hq
                  simp at a b ⊢
                  omega
                simp at this ⊢
                omega
      · exact Kept.same h _
/-- a transaction's numbers are small -/
theorem ok_wf {g : Gl} (h : g.ok = true) (hx : g.x.wf) (hp : ∀ p ∈ g.parts, p.wf) : g.wf := by
  have hg := okF h
  have := hg.st5
  have hw := hg.wait
  have ht := hg.tries
  exact ⟨hx, by omega, hp, by omega, by omega⟩
theorem Kept.wf {g n : Gl} {d : Bool} (h : Kept g n d) (hg : g.wf) : n.wf := by
  refine ok_wf h.ok (by rw [h.x]; exact hg.1) fun p hp => ?_
  have hon := parts_st.1 (okF h.ok).on p hp
  obtain ⟨k, hk, rfl⟩ := List.mem_iff_getElem.1 hp
  have hk' : k < g.parts.length := by have := h.len; omega
  have e : (allTo 0 n.parts)[k]'(by simpa [allTo] using hk) = (allTo 0 g.parts)[k]'(by simpa [allTo] using hk') := by
    congr 1
    exact h.all
  simp only [allTo, List.getElem_map, Pt.to, Pt.mk.injEq] at e
  have hw := hg.2.2.1 _ (List.getElem_mem hk')
  refine ⟨by rw [e.1]; exact hw.1, by rw [e.2.1]; exact hw.2.1, ?_⟩
  simp at hon
  omega
end Go.PH
end
section
/- The walks of within, some, plain; of dlog's Check. -/
set_option linter.all false
set_option linter.unusedSimpArgs false
set_option linter.unusedVariables false
namespace Go.PH
open Go.RowKit Go.Proofs

theorem ptC_V (p : Pt) : (ptC p).toArray = ptV p := rfl
theorem only_any (S : List Nat) (l : List Pt) : (!(l.any fun p => !S.contains p.st)) = onlySt S l := by
  unfold onlySt
  rw [List.not_any_eq_all_not]
  simp
theorem pt_cells {w : World} {B n c : Nat} {A : Option Addr} {l : List Pt} (hr : RdP w B A n c l) (hn : 0 < n) : ∃ b off, A = some ⟨b, off, none⟩ ∧ b < B ∧ ∀ j, j < l.length → ∀ i v, (ptC l[j]!)[i]? = some v → w.cell? ⟨b, off + j * 5 + i, none⟩ = some v := by
  obtain ⟨b, off, rfl, hb, _⟩ := hr.at_ hn
  refine ⟨b, off, rfl, hb, fun j hj i v hv => ?_⟩
  have hl := rec_length ptShape hr
  obtain ⟨b', off', e, _, hjl, hc⟩ := rec_at ptShape hr (k := j) (by omega)
  injection e with e
  injection e with e1 e2
  subst e1 e2
  rw [getElem!_pos l j hj] at hv
  exact hc i v hv
set_option maxRecDepth 20000 in
theorem within_any (A : Option Addr) (n c : Nat) (l : List Pt) (A' : Option Addr) (n' c' : Nat) (S : List Nat) (B : Nat) (w : World) (hr : RdP w B A n c l) (hs : RdSt w B A' n' c' S) (hB : B ≤ w.heap.size) (h0 : 0 < n) (hn : n ≤ 1000000000) (hn' : n' ≤ 1000000000) :
    Calls Try.prog 56 #[.slice A n c, .slice A' n' c'] w fun e w' => e = .returned (.bool (onlySt S l)) ∧ Below w.heap.size w w' := by
  have hl := rec_length ptShape hr
  obtain ⟨b, off, rfl, hb, hc⟩ := pt_cells hr h0
  have hB1 := (Below.refl w.heap.size w).alloc (Nat.le_refl _) (.cells #[.slice A' n' c'] 107)
  have hb1 := (Box.new w #[.slice A' n' c'] 107).cell (j := 0) rfl
  have hs1 := hs.below' hB1 hB
  have eg : ∀ args w, (callFunc 68 args).run Try.prog w = .ok (.enter 68 args) w := enters_of Try.func68 (by kernel_rfl) rfl
  have hcon := AnyQ.slices_ContainsFunc Try.hasPart 5 Try.isAgg45 Try.sizeOf45 ptC (fun _ => rfl) (fun p => !S.contains p.st) 68 #[.pointer (some ⟨w.heap.size, 0, none⟩)] eg b off n c l (w.alloc (.cells #[.slice A' n' c'] 107))
    (fun W x hW => (within1_any x w.heap.size A' n' c' S B W ((hW.cell (p := ⟨w.heap.size, 0, none⟩) (by simp)).trans hb1) (hs1.below' hW (by simp; omega)) (by have := hW.size; simp at this; omega) hn').mono fun e w' ⟨he, hb'⟩ => ⟨he, hW.trans (hb'.mono hW.size)⟩)
    (by omega) (by omega) (by simp; omega) (fun j hj i v hv => (hB1.cell (p := ⟨b, off + j * 5 + i, none⟩) (Nat.lt_of_lt_of_le hb hB)).trans (hc j hj i v hv))
  change Calls Try.prog 67 _ _ _ at hcon
  rw [List.take_of_length_le (show l.length ≤ n by omega)] at hcon
  rw [← only_any]
  generalize (l.any fun p => !S.contains p.st) = r at hcon ⊢
  clear hr hs hs1 hc
  go_enter Try.func56, Try.ntmps56
  go_wp2_with (first | (with_reducible refine hold_append ?_) | (with_reducible refine hold_make ?_) | (with_reducible refine hold_copy ?_))
  refine hcon.mono ?_
  rintro e w' ⟨rfl, hB2⟩
  go_wp2_with (first | (with_reducible refine hold_append ?_) | (with_reducible refine hold_make ?_) | (with_reducible refine hold_copy ?_))
  go_ret
  exact ⟨rfl, hB1.trans (hB2.mono hB1.size)⟩
set_option maxRecDepth 20000 in
theorem some_any (A : Option Addr) (n c : Nat) (l : List Pt) (A' : Option Addr) (n' c' : Nat) (S : List Nat) (B : Nat) (w : World) (hr : RdP w B A n c l) (hs : RdSt w B A' n' c' S) (hB : B ≤ w.heap.size) (h0 : 0 < n) (hn : n ≤ 1000000000) (hn' : n' ≤ 1000000000) :
    Calls Try.prog 57 #[.slice A n c, .slice A' n' c'] w fun e w' => e = .returned (.bool (hasSt S l)) ∧ Below w.heap.size w w' := by
  have hl := rec_length ptShape hr
  obtain ⟨b, off, rfl, hb, hc⟩ := pt_cells hr h0
  have hB1 := (Below.refl w.heap.size w).alloc (Nat.le_refl _) (.cells #[.slice A' n' c'] 107)
  have hb1 := (Box.new w #[.slice A' n' c'] 107).cell (j := 0) rfl
  have hs1 := hs.below' hB1 hB
  have eg : ∀ args w, (callFunc 70 args).run Try.prog w = .ok (.enter 70 args) w := enters_of Try.func70 (by kernel_rfl) rfl
  have hcon := AnyQ.slices_ContainsFunc Try.hasPart 5 Try.isAgg45 Try.sizeOf45 ptC (fun _ => rfl) (fun p => S.contains p.st) 70 #[.pointer (some ⟨w.heap.size, 0, none⟩)] eg b off n c l (w.alloc (.cells #[.slice A' n' c'] 107))
    (fun W x hW => (some1_any x w.heap.size A' n' c' S B W ((hW.cell (p := ⟨w.heap.size, 0, none⟩) (by simp)).trans hb1) (hs1.below' hW (by simp; omega)) (by have := hW.size; simp at this; omega) hn').mono fun e w' ⟨he, hb'⟩ => ⟨he, hW.trans (hb'.mono hW.size)⟩)
    (by omega) (by omega) (by simp; omega) (fun j hj i v hv => (hB1.cell (p := ⟨b, off + j * 5 + i, none⟩) (Nat.lt_of_lt_of_le hb hB)).trans (hc j hj i v hv))
  change Calls Try.prog 67 _ _ _ at hcon
  rw [List.take_of_length_le (show l.length ≤ n by omega)] at hcon
  unfold hasSt
  generalize (l.any fun p => S.contains p.st) = r at hcon ⊢
  clear hr hs hs1 hc
  go_enter Try.func57, Try.ntmps57
  go_wp2_with (first | (with_reducible refine hold_append ?_) | (with_reducible refine hold_make ?_) | (with_reducible refine hold_copy ?_))
  refine hcon.mono ?_
  rintro e w' ⟨rfl, hB2⟩
  go_wp2_with (first | (with_reducible refine hold_append ?_) | (with_reducible refine hold_make ?_) | (with_reducible refine hold_copy ?_))
  go_ret
  exact ⟨rfl, hB1.trans (hB2.mono hB1.size)⟩
/-- a state stored into each part, one by one -/
theorem allTo_step {T l : List Pt} {s k : Nat} (h1 : T.take k = (allTo s l).take k) (h2 : T.drop k = l.drop k) (hk : k < l.length) (hT : k < T.length) : (T.set k (Pt.to s l[k])).take (k + 1) = (allTo s l).take (k + 1) ∧ (T.set k (Pt.to s l[k])).drop (k + 1) = l.drop (k + 1) ∧ T[k] = l[k] := by
  refine ⟨?_, ?_, ?_⟩
  · rw [set_take _ _ _ hT, h1, List.take_succ_eq_append_getElem (show k < (allTo s l).length by simpa [allTo] using hk)]
    simp [allTo]
  · rw [set_drop _ _ _ _ (by omega)]
    exact drop_more h2 (by omega)
  · have := drop_get h2 (i := k) (Nat.le_refl _)
    rw [List.getElem?_eq_getElem hT, List.getElem?_eq_getElem hk] at this
    injection this
set_option maxRecDepth 20000 in
theorem plain_any (A : Option Addr) (n c : Nat) (l : List Pt) (B : Nat) (w : World) (hr : RdP w B A n c l) (hB : B ≤ w.heap.size) (hn : n ≤ 1000000000) :
    Calls Try.prog 55 #[.slice A n c] w fun e w' => ∃ A2 c2, e = .returned (.slice A2 n c2) ∧ OwnP w' w.heap.size A2 n c2 (allTo 0 l) ∧ Below w.heap.size w w' := by
  have hl := rec_length ptShape hr
  have HL := Lib.hid hl
  clear hl
  go_enter Try.func55, Try.ntmps55
  go_wp2_with (first | (with_reducible refine hold_append ?_) | (with_reducible refine hold_make ?_) | (with_reducible refine hold_copy ?_))
  refine (clonep_any A n c l B w hr hn).mono ?_
  rintro e w1 ⟨A2, c2, rfl, ho1, hB1⟩
  clear hr
  go_wp2_with (first | (with_reducible refine hold_append ?_) | (with_reducible refine hold_make ?_) | (with_reducible refine hold_copy ?_))
  go_loopw [9] (fun s wr => ∃ (k : Nat) (T : List Pt), k ≤ n ∧ s = .int .i64 k ∧ Hid (T.take k = (allTo 0 l).take k) ∧ Hid (T.drop k = l.drop k) ∧ OwnP wr w.heap.size A2 n c2 T ∧ Below w.heap.size w wr) (fun s _ => n - (RowKit.intOf s).toNat)
  case atStart => exact ⟨0, l, by omega, rfl, Lib.hid (by simp), Lib.hid rfl, ho1, hB1⟩
  case round =>
    clear ho1 hB1
    obtain ⟨k, T, hk, rfl, H1, H2, ho, hBr⟩ := hrel
    have hTl := own_len ptShape ho
    have HT := Lib.hid hTl
    clear hTl
    by_cases hlt : k < n
    · have hkn : (k : Int) < (n : Int) := by omega
      obtain ⟨g, rfl, hbg, hgs⟩ := own_some ho (by omega)
      have hkT : k < T.length := by rw [HT.out]; exact hlt
      have hkl : k < l.length := by rw [HL.out]; exact hlt
      obtain ⟨s1, s2, s3⟩ := allTo_step H1.out H2.out hkl hkT
      have HS1 := Lib.hid s1
      have HS2 := Lib.hid s2
      have HF : Hid (ptC (Pt.to 0 l[k]) = (ptC T[k]).take 4 ++ [.int .u8 0] ++ (ptC T[k]).drop (4 + [Value.int .u8 0].length)) := Lib.hid (by rw [s3]; simp [ptC, Pt.to])
      clear s1 s2 s3
      go_wp2_with (first | (with_reducible refine hold_append ?_) | (with_reducible refine hold_make ?_) | (with_reducible refine hold_copy ?_) | (with_reducible refine hold_store ?_))
      refine unhold (wp_recset ptShape rfl rfl rfl rfl ho (k := k) (i := 4) (vs := [.int .u8 0]) hlt hkT (Pt.to 0 l[k]) rfl (by kernel_rfl) HF.out (by simp) (by omega) ?_)
      intro w2 ho2 hg2 _
      have hB2 : Below w.heap.size w w2 := hBr.grown hg2 hBr.size (fun g' e => by injection e with e; omega)
      go_wp2_with (first | (with_reducible refine hold_append ?_) | (with_reducible refine hold_make ?_) | (with_reducible refine hold_copy ?_))
      exact ⟨⟨k + 1, _, by omega, by go_num, HS1, HS2, ho2, hB2⟩, by simp [RowKit.intOf]; omega⟩
    · obtain rfl : k = n := by omega
      have hTe : T = allTo 0 l := by
        have h1 := H1.out
        rwa [← HT.out, List.take_length, HT.out, ← HL.out, List.take_of_length_le (by simp [allTo])] at h1
      subst hTe
      go_wp2_with (first | (with_reducible refine hold_append ?_) | (with_reducible refine hold_make ?_) | (with_reducible refine hold_copy ?_))
      go_ret
      exact ⟨A2, c2, rfl, ho, hBr⟩
end Go.PH
end

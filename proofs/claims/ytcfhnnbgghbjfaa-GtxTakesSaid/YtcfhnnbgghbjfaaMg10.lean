/- Texts laid together: GtTakeMath, GtWithin, GtDc. -/
import Derived.Test.YtcfhnnbgghbjfaaMg06
import Derived.Test.YtcfhnnbgghbjfaaMg08
section
/- The mathematics of Take: how the document goes through the parts, and that it is what the definition says. -/
set_option linter.all false
set_option linter.unusedSimpArgs false
set_option linter.unusedVariables false
namespace Go.PH

/-- what a letter makes of a part in a state: the part's state behind it, and whether the transaction aborts; none: nothing -/
def fits (st ps kind : Nat) : Bool := decide ((st = 2 ∧ ps = 0 ∧ kind = 17) ∨ (st = 3 ∧ ps = 1 ∧ kind = 18) ∨ (st = 4 ∧ ps ≤ 1 ∧ kind = 19))
/-- the document's way through the parts -/
def rtake (g : Gl) (node : Nat) (x : Xd) (kind xa no : Nat) : List Pt → List Pt → Gl × Nat
  | d, [] => ({ g with parts := d }.ends, 0)
  | d, p :: l =>
    if decide (p.node = node ∧ p.x = x) = false then rtake g node x kind xa no (d ++ [p]) l
    else if g.st = 2 ∧ p.st = 0 ∧ kind = 17 then
      (if xa = 0 ∧ no = 0 then ({ g with parts := d ++ Pt.to 1 p :: l }, 0)
       else if xa = 7 then ({ g with parts := d ++ Pt.to 2 p :: l }, 0)
       else if xa ≠ 0 ∨ no = 7 then ({ g with parts := d ++ Pt.to 2 p :: l }.to 4, 0)
       else ({ g with parts := d ++ p :: l }, 0))
    else if (g.st = 3 ∧ p.st = 1 ∧ kind = 18) ∨ (g.st = 4 ∧ p.st ≤ 1 ∧ kind = 19) then
      (if xa = 0 ∧ no = 0 ∨ no = 7 then rtake g node x kind xa no (d ++ [Pt.to 2 p]) l
       else if xa = 4 then rtake g node x kind xa no (d ++ [Pt.to 3 p]) l
       else if xa = 5 then rtake g node x kind xa no (d ++ [Pt.to 4 p]) l
       else rtake g node x kind xa no (d ++ [p]) l)
    else rtake g node x kind xa no (d ++ [p]) l
theorem allTo_mem {s : Nat} {l : List Pt} : allTo s l = l.map (Pt.to s) := rfl
theorem ok_nodes {X : Xd} : ∀ {l : List Pt} {last : Nat}, partsOk X last (allTo 0 l) = true → (∀ p ∈ l, last < p.node) ∧ l.Pairwise (fun a b => a.node < b.node)
  | [], _, _ => ⟨by simp, .nil⟩
  | p :: l, last, h => by
    simp only [allTo, List.map_cons, partsOk, Bool.and_eq_true, decide_eq_true_eq, Pt.to] at h
    obtain ⟨h1, h2⟩ := ok_nodes (l := l) h.2
    have h3 := h.1.1.1.1.1
    refine ⟨fun q hq => ?_, List.pairwise_cons.2 ⟨h1, h2⟩⟩
    rcases List.mem_cons.1 hq with rfl | hq
    · exact h3
    · have := h1 q hq; omega
theorem ok_ends {g : Gl} (h : g.ok = true) : g.ends = g := by
  unfold Gl.ends
  split
  · rename_i hc
    simp only [Gl.ok, stateOk, Bool.and_eq_true] at h
    have h5 := h.2
    rcases hc with ⟨h3 | h4, hz⟩
    · rw [if_neg (by omega), if_neg (by omega), if_pos h3] at h5
      simp only [Bool.and_eq_true, Bool.not_eq_true'] at h5
      have : hasSt [0, 1] g.parts = true := by
        have h6 := h5.2
        simp only [hasSt, List.any_eq_true] at h6 ⊢
        obtain ⟨p, hp, hq⟩ := h6
        exact ⟨p, hp, by simp at hq ⊢; omega⟩
      rw [this] at hz; cases hz
    · rw [if_neg (by omega), if_neg (by omega), if_neg (by omega), if_pos h4] at h5
      simp only [Bool.and_eq_true] at h5
      rw [h5.2] at hz; cases hz
  · rfl
/-- behind the place nothing is left that could meet -/
theorem rtake_none (g : Gl) (node : Nat) (x : Xd) (kind xa no : Nat) : ∀ (l d : List Pt), (∀ p ∈ l, decide (p.node = node ∧ p.x = x) = false) → rtake g node x kind xa no d l = ({ g with parts := d ++ l }.ends, 0)
  | [], d, _ => by simp [rtake]
  | p :: l, d, h => by
    rw [rtake, if_pos (h p (List.mem_cons_self ..)), rtake_none g node x kind xa no l _ (fun q hq => h q (List.mem_cons_of_mem _ hq))]
    simp
theorem setPt_at (s : Nat) (d : List Pt) (p : Pt) (l : List Pt) : setPt s d.length (d ++ p :: l) = d ++ Pt.to s p :: l := by
  unfold setPt
  rw [List.mapIdx_append, List.mapIdx_cons]
  congr 1
  · refine List.ext_getElem (by simp) fun i h1 h2 => ?_
    simp only [List.length_mapIdx] at h1
    simp only [List.getElem_mapIdx]
    rw [if_neg (by omega)]
  · congr 1
    · rw [if_pos (by omega)]; rfl
    · refine List.ext_getElem (by simp) fun i h1 h2 => ?_
      simp only [List.length_mapIdx] at h1
      simp only [List.getElem_mapIdx]
      rw [if_neg (by omega)]
theorem setPt_set (s i : Nat) (l : List Pt) (hi : i < l.length) : setPt s i l = l.set i (Pt.to s l[i]) := by
  refine List.ext_getElem (by simp [setPt]) fun j h1 h2 => ?_
  simp only [setPt, List.getElem_mapIdx, List.getElem_set]
  by_cases h : i = j
  · subst h; simp [Pt.to]
  · rw [if_neg (by omega), if_neg h]
/-- what is made of a transaction whose part at a place is met -/
def gtake (g : Gl) (i : Nat) (p : Pt) (kind xa no : Nat) : Gl × Nat :=
  if fits g.st p.st kind = false then (g, 0)
  else
    let v := if g.st = 2 then voted xa no else ended xa no
    if v.2 = false then (g, 0)
    else
      let h := { g with parts := setPt v.1 i g.parts }
      if g.st = 2 ∧ v.1 = 2 ∧ xa ≠ 7 then (h.to 4, 0) else (h.ends, 0)
theorem waits_fits (st ps kind : Nat) : (waits st ps = 0 ∨ waits st ps + 16 ≠ kind) ↔ fits st ps kind = false := by
  unfold waits fits
  rw [decide_eq_false_iff_not]
  by_cases a : st = 2 ∧ ps = 0
  · rw [if_pos a]; omega
  · rw [if_neg a]
    by_cases b : st = 3 ∧ ps = 1
    · rw [if_pos b]; omega
    · rw [if_neg b]
      by_cases c : st = 4 ∧ ps ≤ 1
      · rw [if_pos c]; omega
      · rw [if_neg c]; omega
theorem take_of (g : Gl) (node : Nat) (l : Lt) : g.take node l = if g.ok = false then (gl0, 270) else if ltOk l = false then (gl0, 250) else match findPt node l.x g.parts with
  | none => (g, 0)
  | some i => if h : i < g.parts.length then gtake g i g.parts[i] l.kind l.xa l.no else (g, 0) := by
  unfold Gl.take
  congr 1
  congr 1
  cases hf : findPt node l.x g.parts with
  | none => rfl
  | some i =>
    have hi : i < g.parts.length := by
      unfold findPt at hf
      rw [List.findIdx?_eq_some_iff_getElem] at hf
      exact hf.1
    have e : (Option.map (fun p : Pt => p.st) g.parts[i]?).get! = g.parts[i].st := by rw [List.getElem?_eq_getElem hi]; rfl
    simp only [hi, dif_pos]
    rw [e]
    unfold gtake
    by_cases hw : waits g.st g.parts[i].st = 0 ∨ waits g.st g.parts[i].st + 16 ≠ l.kind
    · rw [if_pos hw, if_pos ((waits_fits _ _ _).1 hw)]
    · rw [if_neg hw, if_neg (fun e => hw ((waits_fits _ _ _).2 e))]
theorem find_split (node : Nat) (x : Xd) (l : List Pt) : (findPt node x l = none ∧ ∀ p ∈ l, decide (p.node = node ∧ p.x = x) = false) ∨ ∃ d p t, l = d ++ p :: t ∧ findPt node x l = some d.length ∧ decide (p.node = node ∧ p.x = x) = true ∧ ∀ q ∈ d, decide (q.node = node ∧ q.x = x) = false := by
  cases hf : findPt node x l with
  | none =>
    left
    unfold findPt at hf
    rw [List.findIdx?_eq_none_iff] at hf
    exact ⟨rfl, hf⟩
  | some i =>
    right
    unfold findPt at hf
    rw [List.findIdx?_eq_some_iff_getElem] at hf
    obtain ⟨hi, h1, h2⟩ := hf
    refine ⟨l.take i, l[i], l.drop (i + 1), by rw [← List.drop_eq_getElem_cons hi, List.take_append_drop], by simp; omega, h1, fun q hq => ?_⟩
    rw [List.mem_take_iff_getElem] at hq
    obtain ⟨j, hj, rfl⟩ := hq
    have := h2 j (by omega)
    simpa using this
theorem rtake_front (g : Gl) (node : Nat) (x : Xd) (kind xa no : Nat) : ∀ (d l e : List Pt), (∀ p ∈ d, decide (p.node = node ∧ p.x = x) = false) → rtake g node x kind xa no e (d ++ l) = rtake g node x kind xa no (e ++ d) l
  | [], l, e, _ => by simp
  | p :: d, l, e, h => by
    rw [List.cons_append, rtake, if_pos (h p (List.mem_cons_self ..)), rtake_front g node x kind xa no d l _ (fun q hq => h q (List.mem_cons_of_mem _ hq))]
    simp
theorem rtake_ok (g : Gl) (node : Nat) (x : Xd) (kind xa no : Nat) (hok : g.ok = true) (hxn : xa = 0 ∨ no = 0) : rtake g node x kind xa no [] g.parts = match findPt node x g.parts with
  | none => (g, 0)
  | some i => if h : i < g.parts.length then gtake g i g.parts[i] kind xa no else (g, 0) := by
  have hends := ok_ends hok
  rcases find_split node x g.parts with ⟨h1, h2⟩ | ⟨d, p, t, h1, h2, h3, h4⟩
  · rw [h1, rtake_none g node x kind xa no _ _ h2]
    simp only [List.nil_append]
    rw [hends]
  · rw [h2]
    have hl : d.length < g.parts.length := by rw [h1]; simp
    have hp : g.parts[d.length] = p := by simp [h1]
    simp only [hl, dif_pos, hp]
    have hpw : (d ++ p :: t).Pairwise (fun a b => a.node < b.node) := by
      have := hok
      simp only [Gl.ok, dcOk, Bool.and_eq_true] at this
      rw [← h1]
      exact (ok_nodes this.1.1.1.1.2).2
    have ht : ∀ q ∈ t, decide (q.node = node ∧ q.x = x) = false := by
      intro q hq
      have h5 := (List.pairwise_cons.1 (List.pairwise_append.1 hpw).2.1).1 q hq
      simp only [decide_eq_true_eq] at h3
      simp only [decide_eq_false_iff_not]
      omega
    rw [h1, rtake_front g node x kind xa no d _ [] h4, List.nil_append, rtake, if_neg (by rw [h3]; simp)]
    have hgp : { g with parts := d ++ p :: t } = g := by rw [← h1]
    have hgp2 : ({ g with parts := d ++ p :: t } : Gl).ends = g := by rw [hgp, hends]
    have hnone : ∀ r : Pt, rtake g node x kind xa no (d ++ [r]) t = ({ g with parts := d ++ r :: t }.ends, 0) := fun r => by rw [rtake_none g node x kind xa no _ _ ht]; simp
    have hset : ∀ s : Nat, setPt s d.length g.parts = d ++ Pt.to s p :: t := fun s => by rw [h1, setPt_at]
    unfold gtake
    simp only [hset, hnone]
    by_cases c1 : g.st = 2 ∧ p.st = 0 ∧ kind = 17
    · have hf : fits g.st p.st kind = true := by unfold fits; rw [decide_eq_true_eq]; exact .inl c1
      have e2 := c1.1
      rw [if_pos c1, hf]
      simp only [e2, if_true]
      unfold voted
      by_cases a1 : xa = 0 ∧ no = 0
      · rw [if_pos a1]
        simp [a1, Gl.ends, e2]
      · rw [if_neg a1]
        by_cases a2 : xa = 7
        · rw [if_pos a2, if_neg a1, if_pos (show xa ≠ 0 ∨ no = 7 by omega)]
          simp [Gl.ends, e2, a2]
        · rw [if_neg a2, if_neg a1]
          by_cases a3 : xa ≠ 0 ∨ no = 7
          · rw [if_pos a3, if_pos a3]
            simp [a2]
          · rw [if_neg a3, if_neg a3]
            have hg2 : ({ x := g.x, st := 2, com := g.com, parts := d ++ p :: t, wait := g.wait, tries := g.tries } : Gl) = g := by rw [← e2]; exact hgp
            simp [hg2]
    · rw [if_neg c1]
      by_cases c2 : (g.st = 3 ∧ p.st = 1 ∧ kind = 18) ∨ (g.st = 4 ∧ p.st ≤ 1 ∧ kind = 19)
      · have hf : fits g.st p.st kind = true := by unfold fits; rw [decide_eq_true_eq]; exact .inr c2
        have e2 : ¬ g.st = 2 := by omega
        rw [if_pos c2, hf]
        simp only [e2, if_false, false_and]
        unfold ended
        by_cases a1 : xa = 0 ∧ no = 0 ∨ no = 7
        · rw [if_pos a1, if_pos (show xa = 0 ∧ (no = 0 ∨ no = 7) by omega)]
          simp
        · have a1' : ¬ (xa = 0 ∧ (no = 0 ∨ no = 7)) := by omega
          rw [if_neg a1, if_neg a1']
          by_cases a2 : xa = 4
          · simp [a2]
          · by_cases a3 : xa = 5
            · simp [a3]
            · simp [a2, a3, hgp2]
      · have hf : fits g.st p.st kind = false := by unfold fits; rw [decide_eq_false_iff_not]; omega
        rw [if_neg c2, hf, if_pos rfl, hgp2]
end Go.PH
end
section
/- The walks of within, some, plain; of dlog's Check. -/
set_option linter.all false
set_option linter.unusedSimpArgs false
set_option linter.unusedVariables false
namespace Go.PH
open Go.RowKit Go.Proofs

theorem ptC_V (p : Pt) : (ptC p).toArray = ptV p := rfl
theorem only_any (S : List Nat) (l : List Pt) : (!(l.any fun p => !S.contains p.st)) = onlySt S l := by
  unfold onlySt
  rw [List.not_any_eq_all_not]
  simp
theorem pt_cells {w : World} {B n c : Nat} {A : Option Addr} {l : List Pt} (hr : RdP w B A n c l) (hn : 0 < n) : ∃ b off, A = some ⟨b, off, none⟩ ∧ b < B ∧ ∀ j, j < l.length → ∀ i v, (ptC l[j]!)[i]? = some v → w.cell? ⟨b, off + j * 5 + i, none⟩ = some v := by
  obtain ⟨b, off, rfl, hb, _⟩ := hr.at_ hn
  refine ⟨b, off, rfl, hb, fun j hj i v hv => ?_⟩
  have hl := rec_length ptShape hr
  obtain ⟨b', off', e, _, hjl, hc⟩ := rec_at ptShape hr (k := j) (by omega)
  injection e with e
  injection e with e1 e2
  subst e1 e2
  rw [getElem!_pos l j hj] at hv
  exact hc i v hv
set_option maxRecDepth 20000 in
theorem within_any (A : Option Addr) (n c : Nat) (l : List Pt) (A' : Option Addr) (n' c' : Nat) (S : List Nat) (B : Nat) (w : World) (hr : RdP w B A n c l) (hs : RdSt w B A' n' c' S) (hB : B ≤ w.heap.size) (h0 : 0 < n) (hn : n ≤ 1000000000) (hn' : n' ≤ 1000000000) :
    Calls Try.prog 56 #[.slice A n c, .slice A' n' c'] w fun e w' => e = .returned (.bool (onlySt S l)) ∧ Below w.heap.size w w' := by
  have hl := rec_length ptShape hr
  obtain ⟨b, off, rfl, hb, hc⟩ := pt_cells hr h0
  have hB1 := (Below.refl w.heap.size w).alloc (Nat.le_refl _) (.cells #[.slice A' n' c'] 107)
  have hb1 := (Box.new w #[.slice A' n' c'] 107).cell (j := 0) rfl
  have hs1 := hs.below' hB1 hB
  have eg : ∀ args w, (callFunc 68 args).run Try.prog w = .ok (.enter 68 args) w := enters_of Try.func68 (by kernel_rfl) rfl
  have hcon := AnyQ.slices_ContainsFunc Try.hasPart 5 Try.isAgg45 Try.sizeOf45 ptC (fun _ => rfl) (fun p => !S.contains p.st) 68 #[.pointer (some ⟨w.heap.size, 0, none⟩)] eg b off n c l (w.alloc (.cells #[.slice A' n' c'] 107))
    (fun W x hW => (within1_any x w.heap.size A' n' c' S B W ((hW.cell (p := ⟨w.heap.size, 0, none⟩) (by simp)).trans hb1) (hs1.below' hW (by simp; omega)) (by have := hW.size; simp at this; omega) hn').mono fun e w' ⟨he, hb'⟩ => ⟨he, hW.trans (hb'.mono hW.size)⟩)
    (by omega) (by omega) (by simp; omega) (fun j hj i v hv => (hB1.cell (p := ⟨b, off + j * 5 + i, none⟩) (Nat.lt_of_lt_of_le hb hB)).trans (hc j hj i v hv))
  change Calls Try.prog 67 _ _ _ at hcon
  rw [List.take_of_length_le (show l.length ≤ n by omega)] at hcon
  rw [← only_any]
  generalize (l.any fun p => !S.contains p.st) = r at hcon ⊢
  clear hr hs hs1 hc
  go_enter Try.func56, Try.ntmps56
  go_wp2_with (first | (with_reducible refine hold_append ?_) | (with_reducible refine hold_make ?_) | (with_reducible refine hold_copy ?_))
  refine hcon.mono ?_
  rintro e w' ⟨rfl, hB2⟩
  go_wp2_with (first | (with_reducible refine hold_append ?_) | (with_reducible refine hold_make ?_) | (with_reducible refine hold_copy ?_))
  go_ret
  exact ⟨rfl, hB1.trans (hB2.mono hB1.size)⟩
set_option maxRecDepth 20000 in
theorem some_any (A : Option Addr) (n c : Nat) (l : List Pt) (A' : Option Addr) (n' c' : Nat) (S : List Nat) (B : Nat) (w : World) (hr : RdP w B A n c l) (hs : RdSt w B A' n' c' S) (hB : B ≤ w.heap.size) (h0 : 0 < n) (hn : n ≤ 1000000000) (hn' : n' ≤ 1000000000) :
    Calls Try.prog 57 #[.slice A n c, .slice A' n' c'] w fun e w' => e = .returned (.bool (hasSt S l)) ∧ Below w.heap.size w w' := by
  have hl := rec_length ptShape hr
  obtain ⟨b, off, rfl, hb, hc⟩ := pt_cells hr h0
  have hB1 := (Below.refl w.heap.size w).alloc (Nat.le_refl _) (.cells #[.slice A' n' c'] 107)
  have hb1 := (Box.new w #[.slice A' n' c'] 107).cell (j := 0) rfl
  have hs1 := hs.below' hB1 hB
  have eg : ∀ args w, (callFunc 70 args).run Try.prog w = .ok (.enter 70 args) w := enters_of Try.func70 (by kernel_rfl) rfl
  have hcon := AnyQ.slices_ContainsFunc Try.hasPart 5 Try.isAgg45 Try.sizeOf45 ptC (fun _ => rfl) (fun p => S.contains p.st) 70 #[.pointer (some ⟨w.heap.size, 0, none⟩)] eg b off n c l (w.alloc (.cells #[.slice A' n' c'] 107))
    (fun W x hW => (some1_any x w.heap.size A' n' c' S B W ((hW.cell (p := ⟨w.heap.size, 0, none⟩) (by simp)).trans hb1) (hs1.below' hW (by simp; omega)) (by have := hW.size; simp at this; omega) hn').mono fun e w' ⟨he, hb'⟩ => ⟨he, hW.trans (hb'.mono hW.size)⟩)
    (by omega) (by omega) (by simp; omega) (fun j hj i v hv => (hB1.cell (p := ⟨b, off + j * 5 + i, none⟩) (Nat.lt_of_lt_of_le hb hB)).trans (hc j hj i v hv))
  change Calls Try.prog 67 _ _ _ at hcon
  rw [List.take_of_length_le (show l.length ≤ n by omega)] at hcon
  unfold hasSt
  generalize (l.any fun p => S.contains p.st) = r at hcon ⊢
  clear hr hs hs1 hc
  go_enter Try.func57, Try.ntmps57
  go_wp2_with (first | (with_reducible refine hold_append ?_) | (with_reducible refine hold_make ?_) | (with_reducible refine hold_copy ?_))
  refine hcon.mono ?_
  rintro e w' ⟨rfl, hB2⟩
  go_wp2_with (first | (with_reducible refine hold_append ?_) | (with_reducible refine hold_make ?_) | (with_reducible refine hold_copy ?_))
  go_ret
  exact ⟨rfl, hB1.trans (hB2.mono hB1.size)⟩
/-- a state stored into each part, one by one -/
theorem allTo_step {T l : List Pt} {s k : Nat} (h1 : T.take k = (allTo s l).take k) (h2 : T.drop k = l.drop k) (hk : k < l.length) (hT : k < T.length) : (T.set k (Pt.to s l[k])).take (k + 1) = (allTo s l).take (k + 1) ∧ (T.set k (Pt.to s l[k])).drop (k + 1) = l.drop (k + 1) ∧ T[k] = l[k] := by
  refine ⟨?_, ?_, ?_⟩
  · rw [set_take _ _ _ hT, h1, List.take_succ_eq_append_getElem (show k < (allTo s l).length by simpa [allTo] using hk)]
    simp [allTo]
  · rw [set_drop _ _ _ _ (by omega)]
    exact drop_more h2 (by omega)
  · have := drop_get h2 (i := k) (Nat.le_refl _)
    rw [List.getElem?_eq_getElem hT, List.getElem?_eq_getElem hk] at this
    injection this
set_option maxRecDepth 20000 in
theorem plain_any (A : Option Addr) (n c : Nat) (l : List Pt) (B : Nat) (w : World) (hr : RdP w B A n c l) (hB : B ≤ w.heap.size) (hn : n ≤ 1000000000) :
    Calls Try.prog 55 #[.slice A n c] w fun e w' => ∃ A2 c2, e = .returned (.slice A2 n c2) ∧ OwnP w' w.heap.size A2 n c2 (allTo 0 l) ∧ Below w.heap.size w w' := by
  have hl := rec_length ptShape hr
  have HL := Lib.hid hl
  clear hl
  go_enter Try.func55, Try.ntmps55
  go_wp2_with (first | (with_reducible refine hold_append ?_) | (with_reducible refine hold_make ?_) | (with_reducible refine hold_copy ?_))
  refine (clonep_any A n c l B w hr hn).mono ?_
  rintro e w1 ⟨A2, c2, rfl, ho1, hB1⟩
  clear hr
  go_wp2_with (first | (with_reducible refine hold_append ?_) | (with_reducible refine hold_make ?_) | (with_reducible refine hold_copy ?_))
  go_loopw [9] (fun s wr => ∃ (k : Nat) (T : List Pt), k ≤ n ∧ s = .int .i64 k ∧ Hid (T.take k = (allTo 0 l).take k) ∧ Hid (T.drop k = l.drop k) ∧ OwnP wr w.heap.size A2 n c2 T ∧ Below w.heap.size w wr) (fun s _ => n - (RowKit.intOf s).toNat)
  case atStart => exact ⟨0, l, by omega, rfl, Lib.hid (by simp), Lib.hid rfl, ho1, hB1⟩
  case round =>
    clear ho1 hB1
    obtain ⟨k, T, hk, rfl, H1, H2, ho, hBr⟩ := hrel
    have hTl := own_len ptShape ho
    have HT := Lib.hid hTl
    clear hTl
    by_cases hlt : k < n
    · have hkn : (k : Int) < (n : Int) := by omega
      obtain ⟨g, rfl, hbg, hgs⟩ := own_some ho (by omega)
      have hkT : k < T.length := by rw [HT.out]; exact hlt
      have hkl : k < l.length := by rw [HL.out]; exact hlt
      obtain ⟨s1, s2, s3⟩ := allTo_step H1.out H2.out hkl hkT
      have HS1 := Lib.hid s1
      have HS2 := Lib.hid s2
      have HF : Hid (ptC (Pt.to 0 l[k]) = (ptC T[k]).take 4 ++ [.int .u8 0] ++ (ptC T[k]).drop (4 + [Value.int .u8 0].length)) := Lib.hid (by rw [s3]; simp [ptC, Pt.to])
      clear s1 s2 s3
      go_wp2_with (first | (with_reducible refine hold_append ?_) | (with_reducible refine hold_make ?_) | (with_reducible refine hold_copy ?_) | (with_reducible refine hold_store ?_))
      refine unhold (wp_recset ptShape rfl rfl rfl rfl ho (k := k) (i := 4) (vs := [.int .u8 0]) hlt hkT (Pt.to 0 l[k]) rfl (by kernel_rfl) HF.out (by simp) (by omega) ?_)
      intro w2 ho2 hg2 _
      have hB2 : Below w.heap.size w w2 := hBr.grown hg2 hBr.size (fun g' e => by injection e with e; omega)
      go_wp2_with (first | (with_reducible refine hold_append ?_) | (with_reducible refine hold_make ?_) | (with_reducible refine hold_copy ?_))
      exact ⟨⟨k + 1, _, by omega, by go_num, HS1, HS2, ho2, hB2⟩, by simp [RowKit.intOf]; omega⟩
    · obtain rfl : k = n := by omega
      have hTe : T = allTo 0 l := by
        have h1 := H1.out
        rwa [← HT.out, List.take_length, HT.out, ← HL.out, List.take_of_length_le (by simp [allTo])] at h1
      subst hTe
      go_wp2_with (first | (with_reducible refine hold_append ?_) | (with_reducible refine hold_make ?_) | (with_reducible refine hold_copy ?_))
      go_ret
      exact ⟨A2, c2, rfl, ho, hBr⟩
end Go.PH
end
section
/- The walk of dlog's Check. -/
set_option linter.all false
set_option linter.unusedSimpArgs false
set_option linter.unusedVariables false
namespace Go.PH
open Go.RowKit Go.Proofs

def dcV (X : Xd) (A : Option Addr) (n c : Nat) : Array Value := #[.int .u32 (X.fmt : Int), .string (str X.glob), .string (str X.bran), .slice A n c]
def dcErr (X : Xd) (l : List Pt) : Nat := if dcOk X l then 0 else 260
theorem partsOk_cons (X : Xd) (last : Nat) (p : Pt) (l : List Pt) : partsOk X last (p :: l) = (decide (last < p.node) && decide (p.node ≤ 8) && decide (p.st = 0) && p.x.ok && decide (p.x.fmt = X.fmt ∧ p.x.glob = X.glob) && partsOk X p.node l) := rfl
theorem oneG_iff (a b : Xd) : oneG a b = decide (a.fmt = b.fmt ∧ a.glob = b.glob) := by unfold oneG; rw [Bool.eq_iff_iff]; simp
set_option maxRecDepth 20000 in
set_option maxHeartbeats 4000000 in
theorem dcheck_any (X : Xd) (A : Option Addr) (n c : Nat) (l : List Pt) (B : Nat) (w : World) (hX : X.wf) (hr : RdP w B A n c l) (hB : B ≤ w.heap.size) (hwf : ∀ p ∈ l, p.wf) (hn : n ≤ 1000000000) :
    Calls Try.prog 52 #[.agg (dcV X A n c)] w fun e w' => e = .returned (.int .i64 (dcErr X l)) ∧ Below w.heap.size w w' := by
  have hl := rec_length ptShape hr
  have HL := Lib.hid hl
  clear hl
  have HD : Hid (dcErr X l = if X.ok && X.bran.isEmpty && decide (1 ≤ n) && decide (n ≤ 8) && partsOk X 0 l then 0 else 260) := Lib.hid (by unfold dcErr dcOk; rw [HL.out])
  have hck := fun W => check_any X W hX
  have hog := fun (a : Xd) W => oneglobal_any a X W
  have HO : Hid (∀ a, oneG a X = decide (a.fmt = X.fmt ∧ a.glob = X.glob)) := Lib.hid (fun a => oneG_iff a X)
  have HE : Hid (X.err = if X.ok then 0 else 40) := Lib.hid rfl
  have HPC : Hid (∀ last p l, partsOk X last (p :: l) = (decide (last < p.node) && decide (p.node ≤ 8) && decide (p.st = 0) && p.x.ok && decide (p.x.fmt = X.fmt ∧ p.x.glob = X.glob) && partsOk X p.node l)) := Lib.hid (partsOk_cons X)
  have HPN : Hid (∀ last, partsOk X last [] = true) := Lib.hid (fun _ => rfl)
  generalize partsOk X = pok at *
  generalize dcErr X l = R at *
  generalize X.err = er at *
  generalize X.ok = ok at *
  obtain ⟨f, g, h⟩ := X
  simp only [dcV, xdV] at HD hck hog HO HPC ⊢
  have hB0 := (Below.refl w.heap.size w).alloc (Nat.le_refl _) (.cells #[.int .u32 (f : Int), .string (str g), .string (str h), .slice A n c] 49)
  have hb0 := Box.new w #[.int .u32 (f : Int), .string (str g), .string (str h), .slice A n c] 49
  have x0 := hb0.cell (j := 0) rfl
  have x1 := hb0.cell (j := 1) rfl
  have x2 := hb0.cell (j := 2) rfl
  have x3 := hb0.cell (j := 3) rfl
  go_enter Try.func52, Try.ntmps52
  go_wp2_with (first | (with_reducible refine hold_append ?_) | (with_reducible refine hold_make ?_) | (with_reducible refine hold_copy ?_))
  refine (hck _).mono ?_
  rintro e w1 ⟨rfl, hB1⟩
  have hB01 := hB0.trans (hB1.mono hB0.size)
  have hb1 := hb0.below hB1
  clear hck x0 x1 x2 x3
  have x0 := hb1.cell (j := 0) rfl
  have x1 := hb1.cell (j := 1) rfl
  have x2 := hb1.cell (j := 2) rfl
  have x3 := hb1.cell (j := 3) rfl
  cases ok
  · obtain rfl : er = 40 := by have := HE.out; simpa using this
    have HBAD : Hid (R = 260) := Lib.hid (by rw [HD.out]; simp)
    go_wp2_with (first | (with_reducible refine hold_append ?_) | (with_reducible refine hold_make ?_) | (with_reducible refine hold_copy ?_))
    go_ret
    rw [HBAD.out]
    exact ⟨rfl, hB01⟩
  · obtain rfl : er = 0 := by have := HE.out; simpa using this
    by_cases c2 : h = []
    · have hd2 : (str h).toList.isEmpty = true := by rw [c2, str_toList]; rfl
      by_cases c3 : n < 1
      · have hd3 : (n : Int) < 1 := by omega
        have HBAD : Hid (R = 260) := Lib.hid (by rw [HD.out, if_neg]; simp; omega)
        clear c2
        go_wp2_with (first | (with_reducible refine hold_append ?_) | (with_reducible refine hold_make ?_) | (with_reducible refine hold_copy ?_))
        go_ret
        rw [HBAD.out]
        exact ⟨rfl, hB01⟩
      · have hd3 : decide ((n : Int) < 1) = false := by simp; omega
        by_cases c4 : 8 < n
        · have hd4 : (8 : Int) < (n : Int) := by omega
          have HBAD : Hid (R = 260) := Lib.hid (by rw [HD.out, if_neg]; simp; omega)
          clear c2
          go_wp2_with (first | (with_reducible refine hold_append ?_) | (with_reducible refine hold_make ?_) | (with_reducible refine hold_copy ?_))
          go_ret
          rw [HBAD.out]
          exact ⟨rfl, hB01⟩
        · have hd4 : ¬ (8 : Int) < (n : Int) := by omega
          have HD2 : Hid (R = if pok 0 l then 0 else 260) := Lib.hid (by rw [HD.out]; simp only [c2, List.isEmpty_nil, Bool.true_and, Bool.and_true, decide_eq_true (show 1 ≤ n by omega), decide_eq_true (show n ≤ 8 by omega)])
          clear c2 HD
          go_wp2_with (first | (with_reducible refine hold_append ?_) | (with_reducible refine hold_make ?_) | (with_reducible refine hold_copy ?_))
          go_loopw [3, 31] (fun v s wr => ∃ (k last : Nat), k ≤ n ∧ last ≤ 8 ∧ v = .int .u8 last ∧ s = .int .i64 k ∧ Hid (R = if pok last (l.drop k) then 0 else 260) ∧ Box wr w.heap.size 49 #[.int .u32 (f : Int), .string (str g), .string (str h), .slice A n c] ∧ Below w.heap.size w wr) (fun _ s _ => n - (RowKit.intOf s).toNat)
          case atStart => exact ⟨0, 0, by omega, by omega, rfl, rfl, by rw [List.drop_zero]; exact HD2, hb1, hB01⟩
          case round =>
            clear hb1 hB01 x0 x1 x2 x3 HD2 hb0 hB0 hB1
            obtain ⟨k, last, hk, hlast, rfl, rfl, HR, hbr, hBr⟩ := hrel
            by_cases hlt : k < n
            · have hkn : (k : Int) < (n : Int) := by omega
              obtain ⟨b, off, rfl, hbB, hkl, hc⟩ := rec_at ptShape (Rd.below hr (hBr.mono hB)) hlt
              have hpw := hwf l[k] (List.getElem_mem hkl)
              have HDR : Hid (l.drop k = l[k] :: l.drop (k + 1)) := Lib.hid (List.drop_eq_getElem_cons hkl)
              have k0 := hc 0 _ rfl
              have k1 := hc 1 _ rfl
              have k2 := hc 2 _ rfl
              have k3 := hc 3 _ rfl
              have k4 := hc 4 _ rfl
              simp only [Nat.add_zero] at k0 k1 k2 k3 k4
              clear hc
              generalize l[k] = p at *
              have hpc := fun W => check_any p.x W hpw.2.1
              have hpo := fun W => hog p.x W
              have HPE : Hid (p.x.err = if p.x.ok then 0 else 40) := Lib.hid rfl
              have HR2 : Hid (R = if (decide (last < p.node) && decide (p.node ≤ 8) && decide (p.st = 0) && p.x.ok && oneG p.x ⟨f, g, h⟩ && pok p.node (l.drop (k + 1))) then 0 else 260) := Lib.hid (by rw [HR.out, HDR.out, HPC.out, HO.out])
              have hpn := hpw.1
              have hps := hpw.2.2
              generalize p.x.err = per at *
              generalize p.x.ok = pok1 at *
              generalize oneG p.x ⟨f, g, h⟩ = po at *
              obtain ⟨pn, ⟨pf, pg, ph⟩, ps⟩ := p
              simp only at hpc hpo HR2 k0 k1 k2 k3 k4 hpn hps
              simp only [xdV] at hpc hpo
              clear hwf HDR HR hog hpw
              have hp := Box.new wr #[.int .u8 (pn : Int), .int .u32 (pf : Int), .string (str pg), .string (str ph), .int .u8 (ps : Int)] 45
              have hBp := hBr.alloc hBr.size (.cells #[.int .u8 (pn : Int), .int .u32 (pf : Int), .string (str pg), .string (str ph), .int .u8 (ps : Int)] 45)
              have hbp := hbr.alloc (.cells #[.int .u8 (pn : Int), .int .u32 (pf : Int), .string (str pg), .string (str ph), .int .u8 (ps : Int)] 45)
              have p0 := hp.cell (j := 0) rfl
              have p1 := hp.cell (j := 1) rfl
              have p2 := hp.cell (j := 2) rfl
              have p3 := hp.cell (j := 3) rfl
              have p4 := hp.cell (j := 4) rfl
              have x0 := hbp.cell (j := 0) rfl
              have x1 := hbp.cell (j := 1) rfl
              have x2 := hbp.cell (j := 2) rfl
              have x3 := hbp.cell (j := 3) rfl
              by_cases d1 : pn ≤ last
              · have e1 : (pn : Int) ≤ (last : Int) := by omega
                have HBAD : Hid (R = 260) := Lib.hid (by rw [HR2.out, if_neg]; simp; omega)
                go_wp2_with (first | (with_reducible refine hold_append ?_) | (with_reducible refine hold_make ?_) | (with_reducible refine hold_copy ?_))
                go_ret
                rw [HBAD.out]
                exact ⟨rfl, hBp⟩
              · have e1 : decide ((pn : Int) ≤ (last : Int)) = false := by simp; omega
                by_cases d2 : 8 < pn
                · have e2 : (8 : Int) < (pn : Int) := by omega
                  have HBAD : Hid (R = 260) := Lib.hid (by rw [HR2.out, if_neg]; simp; omega)
                  go_wp2_with (first | (with_reducible refine hold_append ?_) | (with_reducible refine hold_make ?_) | (with_reducible refine hold_copy ?_))
                  go_ret
                  rw [HBAD.out]
                  exact ⟨rfl, hBp⟩
                · have e2 : decide ((8 : Int) < (pn : Int)) = false := by simp; omega
                  by_cases d3 : ps = 0
                  · subst d3
                    go_wp2_with (first | (with_reducible refine hold_append ?_) | (with_reducible refine hold_make ?_) | (with_reducible refine hold_copy ?_))
                    refine (hpc _).mono ?_
                    rintro e w2 ⟨rfl, hB2⟩
                    have hB02 := hBp.trans (hB2.mono hBp.size)
                    have hbx := hbp.below hB2
                    have hpx := hp.below hB2
                    clear hpc p0 p1 p2 p3 p4 x0 x1 x2 x3 k0 k1 k2 k3 k4
                    cases pok1
                    · obtain rfl : per = 40 := by have := HPE.out; simpa using this
                      have HBAD : Hid (R = 260) := Lib.hid (by rw [HR2.out, if_neg]; simp)
                      go_wp2_with (first | (with_reducible refine hold_append ?_) | (with_reducible refine hold_make ?_) | (with_reducible refine hold_copy ?_))
                      go_ret
                      rw [HBAD.out]
                      exact ⟨rfl, hB02⟩
                    · obtain rfl : per = 0 := by have := HPE.out; simpa using this
                      have x0 := hbx.cell (j := 0) rfl
                      have x1 := hbx.cell (j := 1) rfl
                      have x2 := hbx.cell (j := 2) rfl
                      have x3 := hbx.cell (j := 3) rfl
                      have p0 := hpx.cell (j := 0) rfl
                      have p1 := hpx.cell (j := 1) rfl
                      have p2 := hpx.cell (j := 2) rfl
                      have p3 := hpx.cell (j := 3) rfl
                      go_wp2_with (first | (with_reducible refine hold_append ?_) | (with_reducible refine hold_make ?_) | (with_reducible refine hold_copy ?_))
                      refine (hpo _).mono ?_
                      rintro e w3 ⟨rfl, hB3⟩
                      have hB03 := hB02.trans (hB3.mono hB02.size)
                      have hby := hbx.below hB3
                      have hpy := hpx.below hB3
                      clear hpo p0 p1 p2 p3 x0 x1 x2 x3
                      cases po
                      · have HBAD : Hid (R = 260) := Lib.hid (by rw [HR2.out, if_neg]; simp)
                        go_wp2_with (first | (with_reducible refine hold_append ?_) | (with_reducible refine hold_make ?_) | (with_reducible refine hold_copy ?_))
                        go_ret
                        rw [HBAD.out]
                        exact ⟨rfl, hB03⟩
                      · have p0 := hpy.cell (j := 0) rfl
                        have HR3 : Hid (R = if pok pn (l.drop (k + 1)) then 0 else 260) := Lib.hid (by rw [HR2.out]; simp only [decide_eq_true (show last < pn by omega), decide_eq_true (show pn ≤ 8 by omega), Bool.true_and, decide_true])
                        go_wp2_with (first | (with_reducible refine hold_append ?_) | (with_reducible refine hold_make ?_) | (with_reducible refine hold_copy ?_))
                        exact ⟨⟨k + 1, pn, by omega, by omega, rfl, by go_num, HR3, hby, hB03⟩, by simp [RowKit.intOf]; omega⟩
                  · have e3 : ((ps : Int) != 0) = true := by simp; omega
                    have HBAD : Hid (R = 260) := Lib.hid (by rw [HR2.out, if_neg]; simp; omega)
                    go_wp2_with (first | (with_reducible refine hold_append ?_) | (with_reducible refine hold_make ?_) | (with_reducible refine hold_copy ?_))
                    go_ret
                    rw [HBAD.out]
                    exact ⟨rfl, hBp⟩
            · obtain rfl : k = n := by omega
              have HOK : Hid (R = 0) := Lib.hid (by
                rw [HR.out, List.drop_of_length_le (by rw [HL.out]; exact Nat.le_refl _)]
                rw [HPN.out]; rfl)
              go_wp2_with (first | (with_reducible refine hold_append ?_) | (with_reducible refine hold_make ?_) | (with_reducible refine hold_copy ?_))
              go_ret
              rw [HOK.out]
              exact ⟨rfl, hBr⟩
    · have hd2 : (str h).toList.isEmpty = false := by rw [str_toList]; simpa using c2
      have HBAD : Hid (R = 260) := Lib.hid (by rw [HD.out, if_neg]; simp [c2])
      clear c2
      go_wp2_with (first | (with_reducible refine hold_append ?_) | (with_reducible refine hold_make ?_) | (with_reducible refine hold_copy ?_))
      go_ret
      rw [HBAD.out]
      exact ⟨rfl, hB01⟩
end Go.PH
end

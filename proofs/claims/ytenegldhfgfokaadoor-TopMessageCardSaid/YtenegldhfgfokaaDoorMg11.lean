/- Texts laid together: TbMath, TmMath, VlMath, VlMem, VlCount, VlDeep, VlPutMath. -/
import Derived.Test.YtenegldhfgfokaaDoorProg
import Derived.Deep.Cut
import Derived.Test.YtenegldhfgfokaaDoorMg01
import Derived.Test.YtenegldhfgfokaaDoorMg02
import Derived.Test.YtenegldhfgfokaaDoorMg08
import Derived.Test.YtenegldhfgfokaaDoorMg09
set_option linter.all false
set_option linter.unusedSimpArgs false
set_option linter.unusedVariables false
section
/- Assemblies cut into frames one behind the other, whose bytes come in pieces, are gathered in order: plain mathematics. No program in sight. -/
namespace Go.PH

def allFr (most : Nat) (AS : List As) : List Fr := AS.flatMap (cutAs most)
/-- the frames that are still to come -/
def remF (most : Nat) (AS : List As) (got k : Nat) : List Fr := match AS.drop got with
 | [] => []
 | a :: r => (cutAs most a).drop k ++ allFr most r
/-- a gatherer to which the first frames were fed -/
structure FedI (most : Nat) (AS : List As) (got k : Nat) (g : GS) : Prop where
 dead : g.dead = false
 inv : g.Inv
 lt : got ≤ AS.length
 k0 : got = AS.length → k = 0
 kl : ∀ a, AS[got]? = some a → k < (cutAs most a).length
 op : ∀ a, AS[got]? = some a → g.op a.chan a.track = (cutAs most a).take k
 ops : ∀ c t, (∀ a, AS[got]? = some a → ¬ (c = a.chan ∧ t = a.track)) → g.op c t = []
theorem cutAs_pos {most : Nat} (h1 : 1 ≤ most) (h2 : most ≤ 4084) {a : As} (h : asOk a = true) : 0 < (cutAs most a).length := List.length_pos_iff.2 (cutAs_feeds h1 h2 h).2.1
theorem FedI.start {most : Nat} (h1 : 1 ≤ most) (h2 : most ≤ 4084) {AS : List As} (hok : ∀ a ∈ AS, asOk a = true) : FedI most AS 0 0 GS.new where
 dead := rfl
 inv := GS.inv_new
 lt := Nat.zero_le _
 k0 := fun _ => rfl
 kl := fun a ha => cutAs_pos h1 h2 (hok a (List.mem_of_getElem? ha))
 op := fun _ _ => rfl
 ops := fun _ _ _ => rfl
theorem FedI.done {most : Nat} {AS : List As} {got k : Nat} {g : GS} (h : FedI most AS got k g) (hr : remF most AS got k = []) : got = AS.length := by
 have hlt := h.lt
 by_cases hg : got < AS.length
 ·have ha := List.getElem?_eq_getElem hg
  have hk := h.kl _ ha
  unfold remF at hr
  rw [List.drop_eq_getElem_cons hg] at hr
  simp only at hr
  have h3 := (List.append_eq_nil_iff.1 hr).1
  have := congrArg List.length h3
  rw [List.length_drop, List.length_nil] at this
  omega
 ·omega
/-- one more frame is fed -/
theorem FedI.step {most : Nat} (h1 : 1 ≤ most) (h2 : most ≤ 4084) {AS : List As} (hok : ∀ a ∈ AS, asOk a = true) (hw : ∀ a ∈ AS, a.wf) {got k : Nat} {g : GS} (h : FedI most AS got k g) {f : Fr} {r : List Fr} (hr : remF most AS got k = f :: r) :
  ∃ a, AS[got]? = some a ∧ g.err f = 0 ∧ ((k + 1 < (cutAs most a).length ∧ g.out f = none ∧ r = remF most AS got (k + 1) ∧ FedI most AS got (k + 1) (g.next f)) ∨
   (k + 1 = (cutAs most a).length ∧ g.out f = some a ∧ r = remF most AS (got + 1) 0 ∧ FedI most AS (got + 1) 0 (g.next f))) := by
 have hlt := h.lt
 have hg : got < AS.length := by
  by_cases hg : got < AS.length
  ·exact hg
  ·unfold remF at hr
   rw [List.drop_eq_nil_of_le (by omega)] at hr
   cases hr
 have ha := List.getElem?_eq_getElem hg
 refine ⟨AS[got], ha, ?_⟩
 have hk := h.kl _ ha
 have hop := h.op _ ha
 have hm := List.getElem_mem hg
 have hoka := hok _ hm
 have hwa := hw _ hm
 obtain ⟨e1, e2, e3, e4, e5⟩ := feed_at h1 h2 hoka h.dead hk hop
 unfold remF at hr
 rw [List.drop_eq_getElem_cons hg] at hr
 simp only at hr
 rw [List.drop_eq_getElem_cons hk, List.cons_append] at hr
 injection hr with hf hr
 have hwf : f.wf := by
  rw [← hf]
  have hmem := List.getElem_mem hk
  have hall : ∀ (l : List Sg) (i : Nat), (∀ s ∈ l, s.ty < 256) → ∀ x ∈ cutL most AS[got].chan AS[got].track AS[got].segs.length i l, x.wf := by
   intro l
   induction l with
   | nil => intro i _ x hx; simp [cutL] at hx
   | cons s r ih =>
    intro i hs x hx
    rw [cutL] at hx
    rcases List.mem_append.1 hx with hx | hx
    ·have hS : ∀ (k : Nat) (f : Fr) (s : List UInt8), f.wf → ∀ x ∈ cutS most k f s, x.wf := by
      intro k
      induction k with
      | zero => intro f s hf x hx; simp [cutS] at hx; subst hx; exact hf
      | succ k ih2 =>
       intro f s hf x hx
       rw [cutS] at hx
       split at hx
       ·simp at hx; subst hx; exact hf
       ·rcases List.mem_cons.1 hx with rfl | hx
        ·exact hf
        ·exact ih2 _ _ (by exact hf) x hx
     exact hS _ _ _ ⟨hs s (List.mem_cons_self ..), hwa.2.1, hwa.1⟩ x hx
    ·exact ih _ (fun t ht => hs t (List.mem_cons_of_mem _ ht)) x hx
  exact hall _ 0 hwa.2.2 _ hmem
 rw [hf] at e1 e2 e3 e4 e5
 refine ⟨e1, ?_⟩
 by_cases hl : k + 1 = (cutAs most AS[got]).length
 ·right
  rw [if_pos hl] at e2 e4
  refine ⟨hl, e2, ?_, ⟨e3, h.inv.next hwf, by omega, fun _ => rfl, fun a ha2 => cutAs_pos h1 h2 (hok a (List.mem_of_getElem? ha2)), fun a ha2 => ?_, fun c t hct => ?_⟩⟩
  ·rw [← hr, hl, List.drop_length, List.nil_append]
   unfold remF
   cases AS.drop (got + 1) with
   | nil => rfl
   | cons a r => simp [allFr]
  ·rw [List.take_zero]
   by_cases hc : a.chan = AS[got].chan ∧ a.track = AS[got].track
   ·rw [hc.1, hc.2]; exact e4
   ·rw [e5 _ _ hc]
    exact h.ops _ _ (fun b hb => by rw [ha] at hb; injection hb with hb; rw [← hb]; exact hc)
  ·by_cases hc : c = AS[got].chan ∧ t = AS[got].track
   ·rw [hc.1, hc.2]; exact e4
   ·rw [e5 _ _ hc]
    exact h.ops _ _ (fun b hb => by rw [ha] at hb; injection hb with hb; rw [← hb]; exact hc)
 ·left
  rw [if_neg hl] at e2 e4
  refine ⟨by omega, e2, ?_, ⟨e3, h.inv.next hwf, by omega, fun e => by omega, fun a ha2 => ?_, fun a ha2 => ?_, fun c t hct => ?_⟩⟩
  ·rw [← hr]
   unfold remF
   rw [List.drop_eq_getElem_cons hg]
  ·rw [ha] at ha2; injection ha2 with ha2; rw [← ha2]; omega
  ·rw [ha] at ha2; injection ha2 with ha2; rw [← ha2]; exact e4
  ·have hc := hct _ ha
   rw [e5 _ _ hc]
   exact h.ops _ _ (fun b hb => by rw [ha] at hb; injection hb with hb; rw [← hb]; exact hc)
/-- bytes that have come: what was scanned of them, what is left -/
structure PieceI (FS : List Fr) (b : List UInt8) (frm : Nat) (D R : List Fr) (rest : List UInt8) : Prop where
 le : frm ≤ b.length
 all : FS = D ++ R
 scan : ∃ u, frScan (b.take frm) = (D, u, 0) ∧ rest = (b.take frm).drop u
theorem PieceI.start (FS : List Fr) (b : List UInt8) : PieceI FS b 0 [] FS [] := ⟨Nat.zero_le _, rfl, 0, by rw [List.take_zero]; exact frScan_short (by decide) (by decide), by simp⟩
theorem PieceI.len {FS : List Fr} {b : List UInt8} {frm : Nat} {D R : List Fr} {rest : List UInt8} (h : PieceI FS b frm D R rest) : rest.length ≤ frm := by
 obtain ⟨u, _, hr⟩ := h.scan
 rw [hr, List.length_drop, List.length_take]
 omega
/-- more bytes come -/
theorem PieceI.more {FS : List Fr} {b : List UInt8} (hb : frScan b = (FS, b.length, 0)) {frm : Nat} {D R : List Fr} {rest : List UInt8} (h : PieceI FS b frm D R rest) {to_ : Nat} (h1 : frm ≤ to_) (h2 : to_ ≤ b.length) :
  (frScan (rest ++ (b.take to_).drop frm)).2.2 = 0 ∧ ∃ R', R = (frScan (rest ++ (b.take to_).drop frm)).1 ++ R' ∧ PieceI FS b to_ (D ++ (frScan (rest ++ (b.take to_).drop frm)).1) R' ((rest ++ (b.take to_).drop frm).drop (frScan (rest ++ (b.take to_).drop frm)).2.1) := by
 obtain ⟨u, hs, hr⟩ := h.scan
 have e1 : b.take to_ = b.take frm ++ (b.take to_).drop frm := by
  have := List.take_append_drop frm (b.take to_)
  rw [List.take_take, Nat.min_eq_left h1] at this
  exact this.symm
 have ha := frScan_app (b.take frm) ((b.take to_).drop frm)
 rw [← e1, hs] at ha
 have h3 := ha.1 rfl
 simp only at h3
 rw [← hr] at h3
 have hb2 := frScan_app (b.take to_) (b.drop to_)
 rw [List.take_append_drop, hb, h3] at hb2
 simp only at hb2
 have he : (frScan (rest ++ (b.take to_).drop frm)).2.2 = 0 := by
  by_cases e : (frScan (rest ++ (b.take to_).drop frm)).2.2 = 0
  ·exact e
  ·have := hb2.2 e
   injection this with _ this
   injection this with _ this
   exact absurd this.symm e
 refine ⟨he, ?_⟩
 have h4 := hb2.1 he
 injection h4 with h5 _
 have hall := h.all
 rw [h5, List.append_assoc] at hall
 have h6 := List.append_cancel_left hall
 refine ⟨_, h6.symm, ⟨h2, by rw [h5], u + (frScan (rest ++ (b.take to_).drop frm)).2.1, ?_, ?_⟩⟩
 ·rw [h3, he]
 ·rw [← List.drop_drop]
  congr 1
  have hle := (frScan_le (b.take frm)).2
  rw [hs] at hle
  conv => rhs; rw [e1]
  rw [List.drop_append_of_le_length hle, ← hr]
/-- all has come -/
theorem PieceI.done {FS : List Fr} {b : List UInt8} (hb : frScan b = (FS, b.length, 0)) {D R : List Fr} {rest : List UInt8} (h : PieceI FS b b.length D R rest) : R = [] ∧ rest = [] := by
 obtain ⟨u, hs, hr⟩ := h.scan
 rw [List.take_length, hb] at hs
 injection hs with h1 h2
 injection h2 with h2 _
 have hall := h.all
 rw [← h1] at hall
 refine ⟨by simpa using hall.symm, ?_⟩
 rw [hr, List.take_length, ← h2, List.drop_length]
theorem putAll_bytes {l : List Fr} (hok : ∀ f ∈ l, f.ok = true) : putAll l = frBytes l ∧ frOks l = l := by
 have h2 : frOks l = l := by
  unfold frOks
  exact List.filter_eq_self.2 hok
 refine ⟨?_, h2⟩
 unfold frBytes
 rw [h2]
 unfold putAll
 induction l with
 | nil => rfl
 | cons f r ih =>
  have hr : ∀ f ∈ r, f.ok = true := fun g hg => hok g (List.mem_cons_of_mem _ hg)
  rw [List.flatMap_cons, List.flatMap_cons, ih hr (List.filter_eq_self.2 hr)]
  congr 1
  unfold Fr.put
  rw [if_pos (hok f (List.mem_cons_self ..))]
theorem frScan_nilT : frScan [] = ([], 0, 0) := frScan_short (by decide) (by decide)
theorem scan_putAll {l : List Fr} (hok : ∀ f ∈ l, f.ok = true) (hw : ∀ f ∈ l, f.wf) : frScan (putAll l) = (l, (putAll l).length, 0) := by
 obtain ⟨h1, h2⟩ := putAll_bytes hok
 have h := frScan_row hw []
 rw [List.append_nil, frScan_nilT] at h
 rw [h1, h, h2]
 simp
end Go.PH
end
section
/- A message as an assembly that is cut into frames: gathered whole, and not at all where the first frame or the last one is left out. Plain mathematics. -/
namespace Go.PH

def tmA (ch : Nat) (h b : List UInt8) : As := ⟨ch, 1, [⟨1, [120]⟩, ⟨2, h⟩, ⟨3, b⟩]⟩
theorem tm_ok {ch : Nat} {h b : List UInt8} (h1 : h.length ≤ 4000) (h2 : b.length ≤ 4000) : asOk (tmA ch h b) = true := by
 simp [asOk, segsOk, headOk, tmA]
 omega
theorem tm_wf {ch : Nat} {h b : List UInt8} (hc : ch < 65536) : (tmA ch h b).wf := by
 refine ⟨hc, by show (1 : Nat) < 256; decide, fun s hs => ?_⟩
 simp [tmA] at hs
 rcases hs with rfl | rfl | rfl
 ·show (1 : Nat) < 256; decide
 ·show (2 : Nat) < 256; decide
 ·show (3 : Nat) < 256; decide
theorem cutF_tm {ch : Nat} {h b : List UInt8} (h1 : h.length ≤ 4000) (h2 : b.length ≤ 4000) {most : Nat} (m1 : 1 ≤ most) (m2 : most ≤ 4084) : cutErr (most : Int) (tmA ch h b) = 0 ∧ cutF (most : Int) (tmA ch h b) = cutAs most (tmA ch h b) := by
 have e : cutErr (most : Int) (tmA ch h b) = 0 := by unfold cutErr; rw [if_neg (by omega), if_pos (tm_ok h1 h2)]
 exact ⟨e, by unfold cutF; rw [if_pos e]; rfl⟩
theorem tm_frs {ch : Nat} {h b : List UInt8} (hc : ch < 65536) (h1 : h.length ≤ 4000) (h2 : b.length ≤ 4000) {most : Nat} (m1 : 1 ≤ most) (m2 : most ≤ 4084) : ∀ f ∈ cutAs most (tmA ch h b), f.ok = true ∧ f.wf ∧ f.load.length ≤ 16384 := by
 intro f hf
 obtain ⟨hfd, _, _⟩ := cutAs_feeds m1 m2 (tm_ok (ch := ch) h1 h2)
 obtain ⟨k, hk, rfl⟩ := List.getElem_of_mem hf
 have hok := (feeds_at _ _ k hk hfd).1
 have := cutF_wf (most := (most : Int)) (tm_wf (ch := ch) (h := h) (b := b) hc) (cutAs most (tmA ch h b))[k] (by rw [(cutF_tm h1 h2 m1 m2).2]; exact List.getElem_mem hk)
 exact ⟨hok, this.1, this.2⟩
theorem tm_cut {ch : Nat} {h b : List UInt8} {most : Nat} (m1 : 1 ≤ most) : cutAs most (tmA ch h b) = ⟨true, false, true, true, 1, 1, ch, [120]⟩ :: (cutS most h.length ⟨false, false, true, false, 2, 1, ch, []⟩ h ++ cutS most b.length ⟨false, true, true, false, 3, 1, ch, []⟩ b) := by
 simp [cutAs, tmA, cutL, cutS, m1]
theorem cutS_first (most : Nat) : ∀ (k : Nat) (f : Fr) (s : List UInt8), ∀ x ∈ cutS most k f s, x.first = f.first
 | 0, f, s, x, hx => by simp [cutS] at hx; subst hx; rfl
 | k + 1, f, s, x, hx => by
  rw [cutS] at hx
  split at hx
  ·simp at hx; subst hx; rfl
  ·rcases List.mem_cons.1 hx with rfl | hx
   ·rfl
   ·exact cutS_first most k ⟨f.first, f.last, false, false, f.ty, f.track, f.chan, []⟩ _ x hx
theorem tm_three {ch : Nat} {h b : List UInt8} {most : Nat} (m1 : 1 ≤ most) : 3 ≤ (cutAs most (tmA ch h b)).length := by
 have h1 := List.length_pos_iff.2 (cutS_ne most h.length ⟨false, false, true, false, 2, 1, ch, []⟩ h)
 have h2 := List.length_pos_iff.2 (cutS_ne most b.length ⟨false, true, true, false, 3, 1, ch, []⟩ b)
 rw [tm_cut m1, List.length_cons, List.length_append]
 omega
theorem tm_first {ch : Nat} {h b : List UInt8} {most : Nat} (m1 : 1 ≤ most) {i : Nat} (hi : i < (cutAs most (tmA ch h b)).length) (h0 : i ≠ 0) : (cutAs most (tmA ch h b))[i].first = false := by
 have hm : (cutAs most (tmA ch h b))[i] ∈ cutS most h.length ⟨false, false, true, false, 2, 1, ch, []⟩ h ++ cutS most b.length ⟨false, true, true, false, 3, 1, ch, []⟩ b := by
  have h2 : ∀ (l : List Fr) (x : Fr) (r : List Fr) (hl : l = x :: r) (hi : i < l.length), l[i] ∈ r := by
   intro l x r hl hi
   subst hl
   cases i with
   | zero => exact absurd rfl h0
   | succ k => exact List.getElem_mem _
  exact h2 _ _ _ (tm_cut m1) hi
 rcases List.mem_append.1 hm with hm | hm
 ·exact cutS_first _ _ _ _ _ hm
 ·exact cutS_first _ _ _ _ _ hm
/-- a frame more of the one assembly -/
theorem fed_one {most : Nat} (m1 : 1 ≤ most) (m2 : most ≤ 4084) {a : As} (hok : asOk a = true) (hw : a.wf) {i : Nat} (hi : i < (cutAs most a).length) {g : GS} (h : FedI most [a] 0 i g) :
  g.err (cutAs most a)[i] = 0 ∧ g.out (cutAs most a)[i] = (if i + 1 = (cutAs most a).length then some a else none) ∧ (i + 1 < (cutAs most a).length → FedI most [a] 0 (i + 1) (g.next (cutAs most a)[i])) ∧ (g.next (cutAs most a)[i]).Inv := by
 have hr : remF most [a] 0 i = (cutAs most a)[i] :: ((cutAs most a).drop (i + 1) ++ []) := by
  unfold remF
  rw [List.drop_zero]
  simp only [allFr, List.flatMap_nil]
  rw [List.drop_eq_getElem_cons hi]
  rfl
 obtain ⟨b, hb, he, hs⟩ := h.step m1 m2 (by simpa using hok) (by simpa using hw) hr
 obtain rfl : a = b := by simpa using hb
 refine ⟨he, ?_⟩
 rcases hs with ⟨h1, h2, _, h3⟩ | ⟨h1, h2, _, h3⟩
 ·rw [if_neg (by omega)]
  exact ⟨h2, fun _ => h3, h3.inv⟩
 ·rw [if_pos h1]
  exact ⟨h2, fun h => by omega, h3.inv⟩
/-- the gatherer from which a frame is kept -/
structure PartI (most : Nat) (a : As) (last : Bool) (i : Nat) (g : GS) : Prop where
 inv : g.Inv
 no : last = true → i < (cutAs most a).length → FedI most [a] 0 i g
 new : last = false → i ≤ 1 → g = GS.new
 dead : last = false → 2 ≤ i → g.dead = true
theorem PartI.start {most : Nat} (m1 : 1 ≤ most) (m2 : most ≤ 4084) {a : As} (hok : asOk a = true) (last : Bool) : PartI most a last 0 GS.new :=
 ⟨GS.inv_new, fun _ _ => FedI.start m1 m2 (by simpa using hok), fun _ _ => rfl, fun _ h => by omega⟩
def outT (last : Bool) (n : Nat) : Nat := if last then n - 1 else 0
theorem PartI.skip {most : Nat} {a : As} {last : Bool} {i : Nat} {g : GS} (h : PartI most a last i g) (hi : i = outT last (cutAs most a).length) (hi2 : i < (cutAs most a).length) : PartI most a last (i + 1) g := by
 unfold outT at hi
 refine ⟨h.inv, fun hl hlt => ?_, fun hl _ => h.new hl ?_, fun hl h2 => ?_⟩
 ·rw [hl, if_pos rfl] at hi; omega
 ·rw [hl, if_neg (by simp)] at hi; omega
 ·rw [hl, if_neg (by simp)] at hi; omega
theorem PartI.feed {most : Nat} (m1 : 1 ≤ most) (m2 : most ≤ 4084) {ch : Nat} {hd b : List UInt8} (hc : ch < 65536) (h1 : hd.length ≤ 4000) (h2 : b.length ≤ 4000) {last : Bool} {i : Nat} {g : GS} (h : PartI most (tmA ch hd b) last i g) (hi : i < (cutAs most (tmA ch hd b)).length) (hne : i ≠ outT last (cutAs most (tmA ch hd b)).length) :
  g.out (cutAs most (tmA ch hd b))[i] = none ∧ PartI most (tmA ch hd b) last (i + 1) (g.next (cutAs most (tmA ch hd b))[i]) := by
 unfold outT at hne
 have hwf := (tm_frs hc h1 h2 m1 m2 _ (List.getElem_mem hi)).2.1
 cases last
 ·rw [if_neg (by simp)] at hne
  have hdd : g.err (cutAs most (tmA ch hd b))[i] ≠ 0 := by
   by_cases h1 : i = 1
   ·have hg := h.new rfl (by omega)
    have hf := tm_first m1 hi (by omega)
    intro e
    unfold GS.err at e
    rw [hg] at e
    have hfit : fitsB (GS.new.op (cutAs most (tmA ch hd b))[i].chan (cutAs most (tmA ch hd b))[i].track) (cutAs most (tmA ch hd b))[i] = false := by
     show fitsB [] _ = false
     unfold fitsB
     split
     ·rfl
     ·simp [hf]
    rw [hfit] at e
    simp [GS.new] at e
    split at e <;> omega
   ·have hg := h.dead rfl (by omega)
    unfold GS.err
    rw [hg]
    simp
  refine ⟨by unfold GS.out; rw [if_neg (fun e => hdd e.1)], h.inv.next hwf, fun e => (by cases e), fun _ hh => (by omega), fun _ _ => ?_⟩
  unfold GS.next
  rw [if_pos hdd]
 ·rw [if_pos rfl] at hne
  obtain ⟨_, e2, e3, e4⟩ := fed_one m1 m2 (tm_ok h1 h2) (tm_wf hc) hi (h.no rfl hi)
  rw [if_neg (by omega)] at e2
  exact ⟨e2, e4, fun _ hlt => e3 hlt, fun e => (by cases e), fun e => (by cases e)⟩
end Go.PH
end
section
/- Values of headers and replies as plain mathematics: trees; how deep, how many, which may be, their bytes. No program in sight. -/
namespace Go.PH

inductive Vl where
 | mk (kind n : Nat) (s : List UInt8) (keys : List (List UInt8)) (list : List Vl)
namespace Vl
def kind : Vl → Nat | mk k _ _ _ _ => k
def n : Vl → Nat | mk _ n _ _ _ => n
def s : Vl → List UInt8 | mk _ _ s _ _ => s
def keys : Vl → List (List UInt8) | mk _ _ _ k _ => k
def list : Vl → List Vl | mk _ _ _ _ l => l
theorem eta (v : Vl) : v = mk v.kind v.n v.s v.keys v.list := by cases v; rfl
theorem lt (v : Vl) {x : Vl} (h : x ∈ v.list) : SizeOf.sizeOf x < SizeOf.sizeOf v := by
 cases v with
 | mk k n s keys l =>
  have := List.sizeOf_lt_of_mem (show x ∈ l from h)
  simp only [mk.sizeOf_spec]
  omega
/-- what is so of a value if it is so of all that lie in it, is so of every value -/
theorem ind {P : Vl → Prop} (h : ∀ v, (∀ x ∈ v.list, P x) → P v) : ∀ v, P v := by
 have key : ∀ (m : Nat) (v : Vl), SizeOf.sizeOf v ≤ m → P v := by
  intro m
  induction m with
  | zero =>
   intro v hv
   refine h v fun x hx => ?_
   have := v.lt hx
   omega
  | succ m ih =>
   intro v hv
   refine h v fun x hx => ih x ?_
   have := v.lt hx
   omega
 exact fun v => key _ v (Nat.le_refl _)
end Vl
def vl0 : Vl := .mk 0 0 [] [] []
instance : Inhabited Vl := ⟨vl0⟩
/-- is it as deep as so, or deeper? -/
def deepV : Nat → Vl → Bool
 | 0, _ => true
 | m + 1, v => v.list.any (deepV m)
mutual
/-- how many values are left of so many -/
def cntV : Vl → Int → Int
 | .mk _ _ _ _ l, m => cntL l (m - 1)
def cntL : List Vl → Int → Int
 | [], m => m
 | x :: l, m => if m < 0 then m else cntL l (cntV x m)
end
theorem cntV_eq (v : Vl) (m : Int) : cntV v m = cntL v.list (m - 1) := by cases v; rw [cntV]; rfl
theorem cntL_neg (l : List Vl) {m : Int} (h : m < 0) : cntL l m = m := by
 cases l with
 | nil => rw [cntL]
 | cons x l => rw [cntL, if_pos h]
theorem cntL_pos (x : Vl) (l : List Vl) {m : Int} (h : ¬ m < 0) : cntL (x :: l) m = cntL l (cntV x m) := by rw [cntL, if_neg h]
mutual
theorem cntV_le : ∀ (v : Vl) (m : Int), cntV v m ≤ m - 1
 | .mk _ _ _ _ l, m => by rw [cntV]; exact cntL_le l (m - 1)
theorem cntL_le : ∀ (l : List Vl) (m : Int), cntL l m ≤ m
 | [], m => by rw [cntL]; omega
 | x :: l, m => by
  rw [cntL]
  split
  ·omega
  ·have h1 := cntV_le x m
   have h2 := cntL_le l (cntV x m)
   omega
end
mutual
theorem cntV_ge : ∀ (v : Vl) (m : Int), -1 ≤ m → (0 ≤ m → -1 ≤ cntV v m)
 | .mk _ _ _ _ l, m, h, h0 => by rw [cntV]; exact cntL_ge l (m - 1) (by omega)
theorem cntL_ge : ∀ (l : List Vl) (m : Int), -1 ≤ m → -1 ≤ cntL l m
 | [], m, h => by rw [cntL]; omega
 | x :: l, m, h => by
  rw [cntL]
  split
  ·omega
  ·exact cntL_ge l _ (cntV_ge x m h (by omega))
end
/-- keys that may be -/
def keysOk (l : List (List UInt8)) (plain : List UInt8 → Bool) : Bool := l.all (fun k => decide (1 ≤ k.length) && decide (k.length ≤ 255) && plain k) && decide l.Nodup
mutual
/-- may a value be, but for how deep and great it is? plain: which texts are -/
def mayV (plain : List UInt8 → Bool) : Vl → Bool
 | .mk k n s keys l =>
  (decide (k = 168) || keys.isEmpty) && (decide (k = 168) || decide (k = 169) || l.isEmpty) && (decide (k = 149) || decide (k = 160) || s.isEmpty) && decide (s.length ≤ 4096) &&
  (if k = 8 then decide (n ≤ 1) else if k = 2 then decide (n ≤ 255) else if k = 49 ∨ k = 50 then true
   else if k = 240 ∨ k = 160 then decide (n = 0)
   else if k = 149 then plain s && decide (n = 0)
   else if k = 168 then decide (keys.length = l.length) && keysOk keys plain && decide (n = 0)
   else if k = 169 then decide (n = 0) else false) && mayL plain l
def mayL (plain : List UInt8 → Bool) : List Vl → Bool
 | [] => true
 | x :: l => mayV plain x && mayL plain l
end
theorem mayL_all (plain : List UInt8 → Bool) (l : List Vl) : mayL plain l = l.all (mayV plain) := by
 induction l with
 | nil => rw [mayL]; rfl
 | cons x l ih => rw [mayL, ih]; rfl
mutual
/-- are two values the same? -/
def sameV : Vl → Vl → Bool
 | .mk k n s keys l, v => decide (k = v.kind) && decide (n = v.n) && decide (s = v.s) && decide (keys = v.keys) && sameL l v.list
def sameL : List Vl → List Vl → Bool
 | [], [] => true
 | x :: l, y :: m => sameV x y && sameL l m
 | _, _ => false
end
mutual
theorem sameV_iff : ∀ (v u : Vl), sameV v u = true ↔ v = u
 | .mk k n s keys l, .mk k' n' s' keys' l' => by
  rw [sameV]
  simp only [Vl.kind, Vl.n, Vl.s, Vl.keys, Vl.list, Bool.and_eq_true, sameL_iff l l', Vl.mk.injEq]
  constructor
  ·rintro ⟨⟨⟨⟨a, b⟩, c⟩, d⟩, e⟩; exact ⟨of_decide_eq_true a, of_decide_eq_true b, of_decide_eq_true c, of_decide_eq_true d, e⟩
  ·rintro ⟨a, b, c, d, e⟩; exact ⟨⟨⟨⟨decide_eq_true a, decide_eq_true b⟩, decide_eq_true c⟩, decide_eq_true d⟩, e⟩
theorem sameL_iff : ∀ (l m : List Vl), sameL l m = true ↔ l = m
 | [], [] => by simp [sameL]
 | [], y :: m => by simp [sameL]
 | x :: l, [] => by simp [sameL]
 | x :: l, y :: m => by
  rw [sameL, Bool.and_eq_true, sameV_iff x y, sameL_iff l m, List.cons.injEq]
end
instance : DecidableEq Vl := fun v u => if h : sameV v u = true then isTrue ((sameV_iff v u).1 h) else isFalse fun e => h ((sameV_iff v u).2 e)
end Go.PH
end
section
/- Values in memory: what it is that a value lies there; what keeps it. -/
namespace Go.PH
open Go.RowKit

/-- where a value's two rows lie -/
structure VH where
 A1 : Option Addr
 c1 : Nat
 A2 : Option Addr
 c2 : Nat
def txV (s : List UInt8) : Value := .string (str s)
def vlC (p : Vl × VH) : List Value := [.int .u8 (p.1.kind : Int), .int .u64 (p.1.n : Int), .string (str p.1.s), .slice p.2.A1 p.1.keys.length p.2.c1, .slice p.2.A2 p.1.list.length p.2.c2]
def vlV (v : Vl) (h : VH) : Array Value := #[.int .u8 (v.kind : Int), .int .u64 (v.n : Int), .string (str v.s), .slice h.A1 v.keys.length h.c1, .slice h.A2 v.list.length h.c2]
theorem vlShape : RecShape vlC 5 where
 len _ := rfl
 one a u hu := by simp [vlC] at hu; rcases hu with rfl | rfl | rfl | rfl | rfl <;> rfl
 pos := by omega
/-- a row that reads so, in blocks of F -/
def RdX (w : World) (F : Nat → Prop) (size : Nat) (A : Option Addr) (n c : Nat) (xs : List Value) : Prop := Rd w w.heap.size size A n c xs ∧ (0 < n → ∀ g, blk A = some g → F g)
theorem cell_keep {w w' : World} {p : Addr} (h : w'.heap[p.block]? = w.heap[p.block]?) : w'.cell? p = w.cell? p := by
 unfold World.cell?
 rw [h]
theorem RdX.keep {w w' : World} {F : Nat → Prop} {size n c : Nat} {A : Option Addr} {xs : List Value} (h : RdX w F size A n c xs) (hk : ∀ g, F g → w'.heap[g]? = w.heap[g]?) (hs : w.heap.size ≤ w'.heap.size) : RdX w' F size A n c xs := by
 obtain ⟨h1, h2⟩ := h
 refine ⟨⟨h1.len, h1.cap, h1.max, fun hn => ?_⟩, h2⟩
 obtain ⟨b, off, e, hb, hc⟩ := h1.at_ hn
 subst e
 exact ⟨b, off, rfl, Nat.lt_of_lt_of_le hb hs, fun j u hu => (cell_keep (hk b (h2 hn b rfl))).trans (hc j u hu)⟩
theorem RdX.mono {w : World} {F G : Nat → Prop} {size n c : Nat} {A : Option Addr} {xs : List Value} (h : RdX w F size A n c xs) (hF : ∀ g, F g → G g) : RdX w G size A n c xs := ⟨h.1, fun hn g hg => hF g (h.2 hn g hg)⟩
theorem RdX.nil (w : World) (F : Nat → Prop) (size c : Nat) (A : Option Addr) (hc : c ≤ maxLen) : RdX w F size A 0 c [] := ⟨Rd.nil _ _ _ _ hc _, fun h => absurd h (Nat.lt_irrefl 0)⟩
theorem RdX.of_own {w : World} {F : Nat → Prop} {base e size n c : Nat} {A : Option Addr} {xs : List Value} (h : Own w base e size A n c xs) (hF : ∀ g, blk A = some g → F g) : RdX w F size A n c xs := ⟨Rd.of_own h, fun _ => hF⟩
/-- the value v lies in blocks of F, its rows at h -/
inductive RV (w : World) (F : Nat → Prop) : Vl → VH → Prop
 | mk {v : Vl} {h : VH} (xs : List (Vl × VH)) (hk : v.kind < 256) (hn : v.n < 18446744073709551616) (hs : v.s.length ≤ 140737488351232) (hK : RdX w F 1 h.A1 v.keys.length h.c1 (v.keys.map txV)) (hkl : ∀ k ∈ v.keys, k.length ≤ 140737488351232)
   (h1 : v.keys.length ≤ 140737488351232) (h2 : v.list.length ≤ 140737488351232) (hL : RdX w F 5 h.A2 v.list.length h.c2 (rowC vlC xs)) (hx : xs.map (·.1) = v.list) (hE : ∀ p ∈ xs, RV w F p.1 p.2) : RV w F v h
theorem RV.keep {w w' : World} {F : Nat → Prop} {v : Vl} {h : VH} (hv : RV w F v h) (hk : ∀ g, F g → w'.heap[g]? = w.heap[g]?) (hs : w.heap.size ≤ w'.heap.size) : RV w' F v h := by
 induction hv with
 | mk xs a1 a2 a3 a4 a5 a6 a7 a8 a9 _ ih => exact ⟨xs, a1, a2, a3, a4.keep hk hs, a5, a6, a7, a8.keep hk hs, a9, ih⟩
theorem RV.mono {w : World} {F G : Nat → Prop} {v : Vl} {h : VH} (hv : RV w F v h) (hF : ∀ g, F g → G g) : RV w G v h := by
 induction hv with
 | mk xs a1 a2 a3 a4 a5 a6 a7 a8 a9 _ ih => exact ⟨xs, a1, a2, a3, a4.mono hF, a5, a6, a7, a8.mono hF, a9, ih⟩
theorem RV.under {w w' : World} {B : Nat} {v : Vl} {h : VH} (hv : RV w (fun g => g < B) v h) (hB : Below B w w') (_hs : B ≤ w.heap.size) : RV w' (fun g => g < B) v h := hv.keep (fun g hg => hB.block g hg) hB.size
theorem RV.zero (w : World) (F : Nat → Prop) : RV w F vl0 ⟨none, 0, none, 0⟩ :=
 ⟨[], by decide, by decide, by simp [vl0, Vl.s], RdX.nil _ _ _ _ _ (by simp [maxLen]), fun k hk => (by cases hk), by simp [vl0, Vl.keys], by simp [vl0, Vl.list], RdX.nil _ _ _ _ _ (by simp [maxLen]), rfl, fun p hp => by cases hp⟩
/-- a value's parts -/
theorem RV.parts {w : World} {F : Nat → Prop} {v : Vl} {h : VH} (hv : RV w F v h) : ∃ xs : List (Vl × VH), xs.map (·.1) = v.list ∧ RdX w F 5 h.A2 v.list.length h.c2 (rowC vlC xs) ∧ (∀ p ∈ xs, RV w F p.1 p.2) ∧ RdX w F 1 h.A1 v.keys.length h.c1 (v.keys.map txV) := by
 cases hv with
 | mk xs a1 a2 a3 a4 a5 a6 a7 a8 a9 a10 => exact ⟨xs, a9, a8, a10, a4⟩
theorem RV.bounds {w : World} {F : Nat → Prop} {v : Vl} {h : VH} (hv : RV w F v h) : v.kind < 256 ∧ v.n < 18446744073709551616 ∧ v.s.length ≤ 140737488351232 ∧ (∀ k ∈ v.keys, k.length ≤ 140737488351232) ∧ v.keys.length ≤ 140737488351232 ∧ v.list.length ≤ 140737488351232 := by
 cases hv with
 | mk xs a1 a2 a3 a4 a5 a6 a7 a8 a9 a10 => exact ⟨a1, a2, a3, a5, a6, a7⟩
/-- a value whose blocks are all there -/
abbrev RVw (w : World) (v : Vl) (h : VH) : Prop := RV w (fun g => g < w.heap.size) v h
theorem RV.up {w w' : World} {v : Vl} {h : VH} (hv : RVw w v h) (hB : Below w.heap.size w w') : RVw w' v h := (hv.keep (fun g hg => hB.block g hg) hB.size).mono (fun g hg => Nat.lt_of_lt_of_le hg hB.size)
/-- a value's i-th part -/
theorem RV.elem {w : World} {v : Vl} {h : VH} (hv : RVw w v h) {i : Nat} (hi : i < v.list.length) : ∃ b off hx, h.A2 = some ⟨b, off, none⟩ ∧ RVw w v.list[i] hx ∧ ∀ W, Below w.heap.size w W →
  W.cell? ⟨b, off + i * 5, none⟩ = some (.int .u8 (v.list[i].kind : Int)) ∧ W.cell? ⟨b, off + i * 5 + 1, none⟩ = some (.int .u64 (v.list[i].n : Int)) ∧ W.cell? ⟨b, off + i * 5 + 2, none⟩ = some (.string (str v.list[i].s)) ∧
  W.cell? ⟨b, off + i * 5 + 3, none⟩ = some (.slice hx.A1 v.list[i].keys.length hx.c1) ∧ W.cell? ⟨b, off + i * 5 + 4, none⟩ = some (.slice hx.A2 v.list[i].list.length hx.c2) := by
 obtain ⟨xs, e, h1, h2, _⟩ := hv.parts
 obtain ⟨b, off, hA, hb, hl, hc⟩ := rec_at vlShape h1.1 hi
 have hm : xs[i] ∈ xs := List.getElem_mem hl
 have hx : xs[i].1 = v.list[i] := by
  have : (xs.map (·.1))[i]'(by simpa using hl) = v.list[i] := by simp only [e]
  simpa using this
 refine ⟨b, off, xs[i].2, hA, hx ▸ h2 _ hm, fun W hW => ?_⟩
 rw [← hx]
 exact ⟨(hW.cell hb).trans (hc 0 _ rfl), (hW.cell hb).trans (hc 1 _ rfl), (hW.cell hb).trans (hc 2 _ rfl), (hW.cell hb).trans (hc 3 _ rfl), (hW.cell hb).trans (hc 4 _ rfl)⟩
theorem RV.key {w : World} {v : Vl} {h : VH} (hv : RVw w v h) {i : Nat} (hi : i < v.keys.length) : ∃ b off, h.A1 = some ⟨b, off, none⟩ ∧ ∀ W, Below w.heap.size w W → W.cell? ⟨b, off + i, none⟩ = some (.string (str v.keys[i])) := by
 obtain ⟨xs, _, _, _, h1⟩ := hv.parts
 obtain ⟨b, off, u, e, hb, hu, hc⟩ := h1.1.at_k hi
 refine ⟨b, off, e, fun W hW => ?_⟩
 rw [List.getElem?_map, List.getElem?_eq_getElem hi] at hu
 injection hu with hu
 rw [hW.cell (p := ⟨b, off + i, none⟩) hb, hc, ← hu]; rfl
theorem alloc_stepV (w : World) (cs : Array Value) (t : TypeId) : ∃ (b : Nat) (v : World), b = w.heap.size ∧ v = w.alloc (.cells cs t) ∧ Box v b t cs ∧ Below w.heap.size w v :=
 ⟨_, _, rfl, rfl, Box.new w cs t, (Below.refl _ _).alloc (Nat.le_refl _) _⟩
end Go.PH
end
section
/- How many values there are, how deep they lie: the walks of both programs. -/
namespace Go.PH
open Go.RowKit Go.Proofs

def CntR (w : World) (v : Vl) (m : Int) (e : Ending) (w' : World) : Prop := e = .returned (.int .i64 (cntV v m)) ∧ Below w.heap.size w w'
set_option maxRecDepth 20000 in
theorem count_any (v : Vl) : ∀ (h : VH) (m : Int) (w : World), RVw w v h → 0 ≤ m → m ≤ 1000000 → Calls Tryd.prog 59 #[.agg (vlV v h), .int .i64 m] w (CntR w v m) := by
 refine Vl.ind (P := fun v => ∀ (h : VH) (m : Int) (w : World), RVw w v h → 0 ≤ m → m ≤ 1000000 → Calls Tryd.prog 59 #[.agg (vlV v h), .int .i64 m] w (CntR w v m)) ?_ v
 intro v ih h m w hv hm0 hm1
 obtain ⟨K1, j1, K2, j2⟩ := h
 unfold vlV
 have hel := fun {i : Nat} (hi : i < v.list.length) => hv.elem hi
 simp only at hel ⊢
 obtain ⟨N, hN⟩ : ∃ N, N = v.list.length := ⟨_, rfl⟩
 have hNm : N ≤ 140737488351232 := by rw [hN]; exact hv.bounds.2.2.2.2.2
 have HV := Lib.hid hv
 have HE : Hid (cntV v m = cntL v.list (m - 1)) := Lib.hid (cntV_eq v m)
 unfold CntR
 rw [HE.out]
 rw [← hN]
 have HN := Lib.hid hN
 clear hN hv
 have IH := Lib.hid ih
 clear ih
 obtain ⟨xb, w1, hqb, hqv, hX, hB1⟩ := alloc_stepV w #[.int .u8 (v.kind : Int), .int .u64 (v.n : Int), .string (str v.s), .slice K1 v.keys.length j1, .slice K2 N j2] 27
 have c4 := hX.c4
 go_enter Tryd.func59, Tryd.ntmps59
 go_upto_region 1 with fail
 rw [← hqb, ← hqv]
 clear hqb hqv
 go_wp2_with (with_reducible refine h_A ?_)
 go_loopw [1, 12] (fun s1 s12 wr => ∃ (i : Nat) (q : Int), i ≤ N ∧ s12 = .int .i64 i ∧ s1 = .int .i64 q ∧ -1 ≤ q ∧ q ≤ 1000000 ∧ Hid (cntL (v.list.drop i) q = cntL v.list (m - 1)) ∧ Below w.heap.size w wr) (fun _ s12 _ => N - (RowKit.intOf s12).toNat)
 case atStart => exact ⟨0, m - 1, by omega, rfl, by first | rfl | go_num, by omega, by omega, Lib.hid rfl, hB1⟩
 case round =>
  obtain ⟨i, q, hi, rfl, rfl, hq0, hq1, HC, hB⟩ := hrel
  clear c4 hX
  by_cases hlt : i < N
  ·have g1 : (i : Int) < (N : Int) := by omega
   have hil : i < v.list.length := by rw [← HN.out]; exact hlt
   obtain ⟨b, off, hx, rfl, hvx, HX⟩ := hel hil
   obtain ⟨k0, k1, k2, k3, k4⟩ := HX wr hB
   have HD : Hid (cntL (v.list.drop i) q = if q < 0 then q else cntL (v.list.drop (i + 1)) (cntV v.list[i] q)) := Lib.hid (by rw [List.drop_eq_getElem_cons hil, cntL])
   have hm : v.list[i] ∈ v.list := List.getElem_mem hil
   have hrec := fun (W : World) (hW : Below w.heap.size w W) (h0 : 0 ≤ q) => IH.out _ hm hx q W (hvx.up hW) h0 hq1
   clear HX hel hvx hm
   have hcl := fun h0 => cntV_ge v.list[i] q hq0 h0
   have hcu := cntV_le v.list[i] q
   generalize v.list[i] = x at *
   by_cases hqn : q < 0
   ·have HQ : Hid (q = cntL v.list (m - 1)) := Lib.hid (by rw [← HC.out, HD.out, if_pos hqn])
    obtain ⟨zb, w2, hzb, hzv, hZ, hB2⟩ := alloc_stepV wr #[.int .u8 (x.kind : Int), .int .u64 (x.n : Int), .string (str x.s), .slice hx.A1 x.keys.length hx.c1, .slice hx.A2 x.list.length hx.c2] 27
    have hBx := hB.trans (hB2.mono hB.size)
    clear hrec hcl hcu
    go_upto_region 5 with fail
    rw [← hzb, ← hzv]
    clear hzb hzv
    go_wp2_with (with_reducible refine h_A ?_)
    go_ret
    rw [← HQ.out]
    exact ⟨rfl, hBx⟩
   ·obtain ⟨zb, w2, hzb, hzv, hZ, hB2⟩ := alloc_stepV wr #[.int .u8 (x.kind : Int), .int .u64 (x.n : Int), .string (str x.s), .slice hx.A1 x.keys.length hx.c1, .slice hx.A2 x.list.length hx.c2] 27
    have hBx := hB.trans (hB2.mono hB.size)
    have h1 := hrec w2 hBx (by omega)
    have HC2 : Hid (cntL (v.list.drop (i + 1)) (cntV x q) = cntL v.list (m - 1)) := Lib.hid (by rw [← HC.out, HD.out, if_neg hqn])
    have hcl := hcl (by omega)
    clear hrec
    unfold vlV at h1
    have c0 := hZ.c0
    have c1 := hZ.c1
    have c2 := hZ.c2
    have c3 := hZ.c3
    have c4 := hZ.c4
    go_upto_region 5 with fail
    rw [← hzb, ← hzv]
    clear hzb hzv k0 k1 k2 k3 k4
    go_wp2_with (with_reducible refine h_A ?_)
    refine h1.mono ?_
    rintro e w3 ⟨rfl, hB3⟩
    have hBy := hBx.trans (hB3.mono hBx.size)
    clear h1
    go_wp2_with (with_reducible refine h_A ?_)
    exact ⟨⟨i + 1, cntV x q, by omega, by go_num, rfl, by omega, by omega, HC2, hBy⟩, by simp [RowKit.intOf]; omega⟩
  ·have HQ : Hid (q = cntL v.list (m - 1)) := Lib.hid (by rw [← HC.out, List.drop_eq_nil_of_le (by rw [← HN.out]; omega), cntL])
   have g1 : ¬ (i : Int) < (N : Int) := by omega
   clear hel
   go_wp2_with (with_reducible refine h_A ?_)
   go_ret
   rw [← HQ.out]
   exact ⟨rfl, hB⟩
end Go.PH
end
section
/- How deep values lie: the walk of the program. -/
namespace Go.PH
open Go.RowKit Go.Proofs

set_option maxRecDepth 20000 in
theorem idx_deep (p : Vl → Bool) (bx : Nat) (v : Vl) (h : VH) (w : World) (hv : RVw w v h) (hcl : ∀ x ∈ v.list, ∀ hx W, Below w.heap.size w W → RVw W x hx → Calls Tryd.prog 66 (#[.agg (vlV x hx)] ++ #[.pointer (some ⟨bx, 0, none⟩)]) W (fun e W' => e = .returned (.bool (p x)) ∧ Below W.heap.size W W')) :
  Calls Tryd.prog 75 #[.slice h.A2 v.list.length h.c2, .func (.func 66) #[] #[.pointer (some ⟨bx, 0, none⟩)]] w fun e w' => (∃ r : Int, e = .returned (.int .i64 r) ∧ decide (0 ≤ r) = v.list.any p) ∧ Below w.heap.size w w' := by
 obtain ⟨K1, j1, K2, j2⟩ := h
 have hel := fun {i : Nat} (hi : i < v.list.length) => hv.elem hi
 simp only at hel ⊢
 obtain ⟨N, hN⟩ : ∃ N, N = v.list.length := ⟨_, rfl⟩
 have hNm : N ≤ 140737488351232 := by rw [hN]; exact hv.bounds.2.2.2.2.2
 rw [← hN]
 have HN := Lib.hid hN
 clear hN hv
 have HCL := Lib.hid hcl
 clear hcl
 go_enter Tryd.func75, Tryd.ntmps75
 go_wp2_with (with_reducible refine h_A ?_)
 go_loopw [8] (fun s8 wr => ∃ (i : Nat), i ≤ N ∧ s8 = .int .i64 i ∧ Hid ((v.list.drop i).any p = v.list.any p) ∧ Below w.heap.size w wr) (fun s8 _ => N - (RowKit.intOf s8).toNat)
 case atStart => exact ⟨0, by omega, rfl, Lib.hid rfl, Below.refl _ _⟩
 case round =>
  obtain ⟨i, hi, rfl, HC, hB⟩ := hrel
  by_cases hlt : i < N
  ·have g1 : (i : Int) < (N : Int) := by omega
   have hil : i < v.list.length := by rw [← HN.out]; exact hlt
   obtain ⟨b, off, hx, rfl, hvx, HX⟩ := hel hil
   obtain ⟨k0, k1, k2, k3, k4⟩ := HX wr hB
   have HD : Hid ((v.list.drop i).any p = (p v.list[i] || (v.list.drop (i + 1)).any p)) := Lib.hid (by rw [List.drop_eq_getElem_cons hil, List.any_cons])
   have hrec := HCL.out _ (List.getElem_mem hil) hx wr hB (hvx.up hB)
   clear HX hel hvx
   generalize v.list[i] = x at *
   unfold vlV at hrec
   simp only [List.append_toArray, List.cons_append, List.nil_append] at hrec
   go_wp2_with (with_reducible refine h_A ?_)
   refine hrec.mono ?_
   rintro e w2 ⟨rfl, hB2⟩
   have hBx := hB.trans (hB2.mono hB.size)
   clear hrec k0 k1 k2 k3 k4
   cases hp : p x
   ·have HC2 : Hid ((v.list.drop (i + 1)).any p = v.list.any p) := Lib.hid (by rw [← HC.out, HD.out, hp]; simp)
    go_wp2_with (with_reducible refine h_A ?_)
    exact ⟨⟨i + 1, by omega, by go_num, HC2, hBx⟩, by simp [RowKit.intOf]; omega⟩
   ·have HC2 : Hid (v.list.any p = true) := Lib.hid (by rw [← HC.out, HD.out, hp]; simp)
    go_wp2_with (with_reducible refine h_A ?_)
    go_ret
    exact ⟨⟨i, rfl, by rw [HC2.out]; simp⟩, hBx⟩
  ·have HQ : Hid (v.list.any p = false) := Lib.hid (by rw [← HC.out, List.drop_eq_nil_of_le (by rw [← HN.out]; omega)]; rfl)
   have g1 : ¬ (i : Int) < (N : Int) := by omega
   clear hel
   go_wp2_with (with_reducible refine h_A ?_)
   go_ret
   exact ⟨⟨_, rfl, by rw [HQ.out]; rfl⟩, hB⟩
set_option maxRecDepth 20000 in
theorem has_deep (p : Vl → Bool) (bx : Nat) (v : Vl) (h : VH) (w : World) (hv : RVw w v h) (hcl : ∀ x ∈ v.list, ∀ hx W, Below w.heap.size w W → RVw W x hx → Calls Tryd.prog 66 (#[.agg (vlV x hx)] ++ #[.pointer (some ⟨bx, 0, none⟩)]) W (fun e W' => e = .returned (.bool (p x)) ∧ Below W.heap.size W W')) :
  Calls Tryd.prog 65 #[.slice h.A2 v.list.length h.c2, .func (.func 66) #[] #[.pointer (some ⟨bx, 0, none⟩)]] w fun e w' => e = .returned (.bool (v.list.any p)) ∧ Below w.heap.size w w' := by
 have hi := idx_deep p bx v h w hv hcl
 generalize v.list.any p = r at *
 clear hcl
 go_enter Tryd.func65, Tryd.ntmps65
 go_wp2_with (with_reducible refine h_A ?_)
 refine hi.mono ?_
 rintro e w' ⟨⟨q, rfl, hq⟩, hB⟩
 have HQ := Lib.hid hq
 clear hq
 go_wp2_with (with_reducible refine h_A ?_)
 go_ret
 rw [← HQ.out]
 exact ⟨rfl, hB⟩
def DeepR (w : World) (v : Vl) (m : Nat) (e : Ending) (w' : World) : Prop := e = .returned (.bool (deepV m v)) ∧ Below w.heap.size w w'
set_option maxRecDepth 20000 in
theorem deep1_any (x : Vl) (hx : VH) (m bx : Nat) (W : World) (hb : W.cell? ⟨bx, 0, none⟩ = some (.int .i64 ((m + 1 : Nat) : Int))) (hv : RVw W x hx) (hm : m ≤ 1000) (hrec : ∀ W', Below W.heap.size W W' → Calls Tryd.prog 58 #[.agg (vlV x hx), .int .i64 (m : Int)] W' (DeepR W' x m)) :
  Calls Tryd.prog 66 #[.agg (vlV x hx), .pointer (some ⟨bx, 0, none⟩)] W (DeepR W x m) := by
 have hbx := World.block_lt_of_cell? W _ hb
 unfold vlV at hrec ⊢
 obtain ⟨xb, w1, hqb, hqv, hX, hB1⟩ := alloc_stepV W #[.int .u8 (x.kind : Int), .int .u64 (x.n : Int), .string (str x.s), .slice hx.A1 x.keys.length hx.c1, .slice hx.A2 x.list.length hx.c2] 27
 have hb1 : w1.cell? ⟨bx, 0, none⟩ = some (.int .i64 ((m + 1 : Nat) : Int)) := (hB1.cell (p := ⟨bx, 0, none⟩) hbx).trans hb
 have hw : IntKind.i64.wrap (((m + 1 : Nat) : Int) - 1) = (m : Int) := by rw [IntWalk.i64_in _ ⟨by omega, by omega⟩]; omega
 have hr1 := hrec w1 hB1
 have c0 := hX.c0
 have c1 := hX.c1
 have c2 := hX.c2
 have c3 := hX.c3
 have c4 := hX.c4
 clear hrec hb
 obtain ⟨q, hq⟩ : ∃ q : Int, q = ((m + 1 : Nat) : Int) := ⟨_, rfl⟩
 rw [← hq] at hb1 hw
 have hq2 : q - 1 = (m : Int) := by omega
 have hq3 : 0 < q := by omega
 have hq4 : q ≤ 1001 := by omega
 clear hq
 unfold DeepR at hr1 ⊢
 generalize deepV m x = r at *
 go_enter Tryd.func66, Tryd.ntmps66
 go_upto_region 1 with fail
 rw [← hqb, ← hqv]
 clear hqb hqv
 go_wp2_with (with_reducible refine h_A ?_)
 refine hr1.mono ?_
 rintro e w2 ⟨rfl, hB2⟩
 go_wp2_with (with_reducible refine h_A ?_)
 go_ret
 exact ⟨rfl, hB1.trans (hB2.mono hB1.size)⟩
theorem deepV_succ (m : Nat) (v : Vl) : deepV (m + 1) v = v.list.any (deepV m) := rfl
set_option maxRecDepth 20000 in
theorem deep_any (v : Vl) : ∀ (h : VH) (m : Nat) (w : World), RVw w v h → m ≤ 1000 → Calls Tryd.prog 58 #[.agg (vlV v h), .int .i64 (m : Int)] w (DeepR w v m) := by
 refine Vl.ind (P := fun v => ∀ (h : VH) (m : Nat) (w : World), RVw w v h → m ≤ 1000 → Calls Tryd.prog 58 #[.agg (vlV v h), .int .i64 (m : Int)] w (DeepR w v m)) ?_ v
 intro v ih h m w hv hm
 unfold vlV
 obtain ⟨q, hq⟩ : ∃ q : Int, q = (m : Int) := ⟨_, rfl⟩
 rw [← hq]
 obtain ⟨xb, w1, hqb, hqv, hX, hB1⟩ := alloc_stepV w #[.int .u8 (v.kind : Int), .int .u64 (v.n : Int), .string (str v.s), .slice h.A1 v.keys.length h.c1, .slice h.A2 v.list.length h.c2] 27
 obtain ⟨yb, w2, hyb, hyv, hY, hB2⟩ := alloc_stepV w1 #[.int .i64 q] 3
 have hyb' : xb + 1 = yb := by rw [hyb, hqv, hqb]; simp
 clear hyb
 have hB := hB1.trans (hB2.mono hB1.size)
 have hX2 := hX.below hB2
 have c4 := hX2.c4
 have y0 := hY.c0
 have hv2 := hv.up hB
 unfold DeepR
 cases m with
 | zero =>
  have hd : deepV 0 v = true := rfl
  rw [hd]
  have hz : (q == 0) = true := by rw [hq]; rfl
  clear hq ih
  go_enter Tryd.func58, Tryd.ntmps58
  go_upto_region 1 with fail
  rw [← hqb, ← hqv, hyb', ← hyv]
  clear hqb hqv hyb' hyv
  go_wp2_with (with_reducible refine h_A ?_)
  go_ret
  exact ⟨rfl, hB⟩
 | succ m =>
  have hcon := has_deep (deepV m) yb v h w2 hv2 (fun x hx hx' W hW hvx => by
   refine deep1_any x hx' m yb W ?_ hvx (by omega) (fun W' hW' => ih x hx hx' m W' (hvx.up hW') (by omega))
   rw [hW.cell (p := ⟨yb, 0, none⟩) hY.lt, ← hq]
   exact y0)
  rw [deepV_succ]
  generalize v.list.any (deepV m) = r at *
  have hz : (q == 0) = false := by simp; omega
  clear ih hq
  go_enter Tryd.func58, Tryd.ntmps58
  go_upto_region 1 with fail
  rw [← hqb, ← hqv, hyb', ← hyv]
  clear hqb hqv hyb' hyv
  have hmf : ∀ (fn : Fn) (first cap : Array Value) (w : World), (Instr.makeFunc fn first cap).run Tryd.prog w = .ok (.func fn first cap) w := fun _ _ _ _ => rfl
  go_wp2_with (with_reducible refine h_A ?_)
  refine hcon.mono ?_
  rintro e w3 ⟨rfl, hB3⟩
  go_wp2_with (with_reducible refine h_A ?_)
  go_ret
  exact ⟨rfl, hB.trans (hB3.mono hB.size)⟩
end Go.PH
end
section
/- A value's bytes, as plain mathematics. No program in sight. -/
namespace Go.PH
mutual
/-- a value's bytes -/
def vlB : Vl → List UInt8
 | .mk k n s keys l => UInt8.ofNat k :: (if k = 8 ∨ k = 2 then be 1 n else if k = 50 ∨ k = 49 then be 8 n else if k = 149 then be 2 s.length ++ s else if k = 160 then be 4 s.length ++ s
   else if k = 168 ∨ k = 169 then be 4 (be 4 l.length ++ manyB (decide (k = 168)) keys l).length ++ (be 4 l.length ++ manyB (decide (k = 168)) keys l) else [])
/-- the bytes of what lies in a value -/
def manyB (m : Bool) : List (List UInt8) → List Vl → List UInt8
 | _, [] => []
 | ks, x :: l => (if m then be 1 (ks.headD []).length ++ ks.headD [] else []) ++ vlB x ++ manyB m ks.tail l
end
/-- what lies behind the kind -/
def restB (k n : Nat) (s inn : List UInt8) : List UInt8 := if k = 8 ∨ k = 2 then be 1 n else if k = 50 ∨ k = 49 then be 8 n else if k = 149 then be 2 s.length ++ s else if k = 160 then be 4 s.length ++ s
   else if k = 168 ∨ k = 169 then be 4 inn.length ++ inn else []
def innB (v : Vl) : List UInt8 := be 4 v.list.length ++ manyB (decide (v.kind = 168)) v.keys v.list
theorem vlB_eq (v : Vl) : vlB v = UInt8.ofNat v.kind :: restB v.kind v.n v.s (innB v) := by
 cases v
 rw [vlB]
 rfl
theorem manyB_nil (m : Bool) (ks : List (List UInt8)) : manyB m ks [] = [] := by rw [manyB]
theorem manyB_cons (m : Bool) (ks : List (List UInt8)) (x : Vl) (l : List Vl) : manyB m ks (x :: l) = (if m then be 1 (ks.headD []).length ++ ks.headD [] else []) ++ vlB x ++ manyB m ks.tail l := by rw [manyB]
theorem manyB_map {v : Vl} {i : Nat} (hi : i < v.list.length) (hk : i < v.keys.length) : manyB true (v.keys.drop i) (v.list.drop i) = ((be 1 v.keys[i].length ++ v.keys[i]) ++ vlB v.list[i]) ++ manyB true (v.keys.drop (i + 1)) (v.list.drop (i + 1)) := by
 rw [List.drop_eq_getElem_cons hi, manyB_cons, List.drop_eq_getElem_cons hk]
 simp only [List.headD_cons, List.tail_cons, if_true, List.append_assoc]
theorem manyB_list {v : Vl} {i : Nat} (hi : i < v.list.length) (ks ks' : List (List UInt8)) : manyB false ks (v.list.drop i) = vlB v.list[i] ++ manyB false ks' (v.list.drop (i + 1)) := by
 have key : ∀ (l : List Vl) (a b : List (List UInt8)), manyB false a l = manyB false b l := by
  intro l
  induction l with
  | nil => intro a b; rw [manyB_nil, manyB_nil]
  | cons x l ih => intro a b; rw [manyB_cons, manyB_cons, ih a.tail b.tail]; simp
 rw [List.drop_eq_getElem_cons hi, manyB_cons, key _ ks.tail ks']
 simp
end Go.PH
end

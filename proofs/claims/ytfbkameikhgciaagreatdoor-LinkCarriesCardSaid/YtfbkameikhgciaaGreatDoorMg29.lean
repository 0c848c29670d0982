/- Texts laid together: LkUpMath. -/
import Derived.Test.YtfbkameikhgciaaGreatDoorMg10
import Derived.Test.YtfbkameikhgciaaGreatDoorMg23
import Derived.Test.YtfbkameikhgciaaGreatDoorMg28
set_option linter.all false
set_option linter.unusedSimpArgs false
set_option linter.unusedVariables false
section
/- A link that is agreed on, and what it carries, as plain mathematics. No program in sight. -/
namespace Go.PH

/-! ### bounds of a link -/
theorem putAll_sum (l : List Fr) : (putAll l).length ≤ 12 * l.length + loadLen l := by
 induction l with
 | nil => simp [putAll, loadLen]
 | cons f r ih =>
  have e : putAll (f :: r) = f.put ++ putAll r := rfl
  have hp : f.put.length ≤ 12 + f.load.length := by
   unfold Fr.put
   split
   ·rw [f.bytes_length]; omega
   ·simp
  rw [e, List.length_append, List.length_cons, loadLen]
  omega
theorem cutL_load (most chan track n : Nat) : ∀ (l : List Sg) (i : Nat), loadLen (cutL most chan track n i l) = sgLen l
 | [], _ => by simp [cutL, loadLen, sgLen]
 | s :: r, i => by rw [cutL, loadLen_app, cutS_load, cutL_load most chan track n r, sgLen]
theorem ctlB_len (sz : Nat) (bs : List UInt8) : (ctlB sz bs).length ≤ 13 * bs.length + 12 := by
 unfold ctlB asBytes
 have h := putAll_sum (cutF ((sz : Int) - 12) ⟨0, 0, [⟨0, bs⟩]⟩)
 unfold cutF at h ⊢
 split at h
 ·rename_i hc
  rw [if_pos hc]
  unfold cutErr at hc
  split at hc
  ·omega
  ·have hm : 1 ≤ ((sz : Int) - 12).toNat := by omega
   have h1 : (cutAs ((sz : Int) - 12).toNat ⟨0, 0, [⟨0, bs⟩]⟩).length ≤ bs.length + 1 := by
    have := cutL_len ((sz : Int) - 12).toNat 0 0 1 hm [⟨0, bs⟩] 0
    simpa [cutAs, sgLen] using this
   have h2 : loadLen (cutAs ((sz : Int) - 12).toNat ⟨0, 0, [⟨0, bs⟩]⟩) = bs.length := by
    have := cutL_load ((sz : Int) - 12).toNat 0 0 1 [⟨0, bs⟩] 0
    simpa [cutAs, sgLen] using this
   omega
 ·rename_i hc
  rw [if_neg hc]
  simp [putAll]
/-- what holds of a link that does frames -/
structure LB (S N k : Nat) (M : LS) : Prop where
 kn : k ≤ N
 inv : M.g.Inv
 sz : M.sz ≤ 4096
 ch : M.ch ≤ 255
 st : M.st ≠ 0
 st' : M.st < 256
 sent : M.sent.length ≤ S + 20000 * k
 told : M.told.length ≤ k
theorem LB.close {S N k : Nat} {M : LS} (h : LB S N k M) (hk : k < N) (code : Nat) (text : List UInt8) (ht : text.length ≤ 100) : LB S N (k + 1) (M.close code text) where
 kn := hk
 inv := h.inv
 sz := h.sz
 ch := h.ch
 st := by show (5 : Nat) ≠ 0; decide
 st' := by show (5 : Nat) < 256; decide
 sent := by
  have h1 := ctlB_len M.sz (closeB code text)
  have h2 := h.sent
  have h3 : (closeB code text).length ≤ 107 := by simp [closeB, be_length]; omega
  show (M.sent ++ ctlB M.sz (closeB code text)).length ≤ _
  rw [List.length_append]
  omega
 told := by have := h.told; show M.told.length ≤ _; omega
theorem LB.sends {S N k : Nat} {M : LS} (h : LB S N k M) (hk : k < N) (bs : List UInt8) (hb : bs.length ≤ 100) (st : Nat) (h0 : st ≠ 0) (h1 : st < 256) : LB S N (k + 1) { M.send bs with st := st } where
 kn := hk
 inv := h.inv
 sz := h.sz
 ch := h.ch
 st := h0
 st' := h1
 sent := by
  have h1 := ctlB_len M.sz bs
  have h2 := h.sent
  show (M.sent ++ ctlB M.sz bs).length ≤ _
  rw [List.length_append]
  omega
 told := by have := h.told; show M.told.length ≤ _; omega
theorem LB.more {S N k : Nat} {M : LS} (h : LB S N k M) (hk : k < N) : LB S N (k + 1) M where
 kn := hk
 inv := h.inv
 sz := h.sz
 ch := h.ch
 st := h.st
 st' := h.st'
 sent := by have := h.sent; omega
 told := by have := h.told; omega
theorem LB.ctlM {S N k : Nat} {M : LS} (h : LB S N k M) (hk : k < N) (a : As) (m : Mt) (er : Int) : LB S N (k + 1) (M.ctlM a m er) := by
 unfold LS.ctlM
 split
 ·exact h.close hk _ _ (by decide)
 split
 ·exact h.sends hk _ (by decide) 2 (by decide) (by decide)
 split
 ·unfold LS.tuned
  split
  ·exact h.close hk _ _ (by decide)
  ·rename_i hn
   have h1 := h.more hk
   exact ⟨h1.kn, h1.inv, by show (m.args.getD 1 (ag0 false)).n ≤ 4096; omega, by show (m.args.getD 0 (ag0 false)).n ≤ 255; omega, by show (3 : Nat) ≠ 0; decide, by show (3 : Nat) < 256; decide, h1.sent, h1.told⟩
 split
 ·unfold LS.opened
  split
  ·exact h.close hk _ _ (by decide)
  ·exact h.sends hk _ (by decide) 4 (by decide) (by decide)
 split
 ·exact h.sends hk _ (by decide) 5 (by decide) (by decide)
 ·exact h.close hk _ _ (by decide)
theorem LB.take {S N k : Nat} {M : LS} (h : LB S N k M) (hk : k < N) {f : Fr} (hf : f.wf) (ctl : LS → As → LS) (hctl : ∀ (L : LS) (a : As), LB S N k L → LB S N (k + 1) (ctl L a)) : LB S N (k + 1) (M.take ctl f) := by
 have hn : LB S N k { M with g := M.g.next f } := ⟨h.kn, h.inv.next hf, h.sz, h.ch, h.st, h.st', h.sent, h.told⟩
 unfold LS.take
 split
 ·exact h.close hk _ _ (by decide)
 split
 ·split
  ·exact hn.more hk
  ·exact hn.close hk _ _ (by decide)
 ·split
  ·exact hctl _ _ hn
  split
  ·have h1 := hn.more hk
   exact ⟨h1.kn, h1.inv, h1.sz, h1.ch, h1.st, h1.st', h1.sent, by have := h.told; show (M.told ++ [_]).length ≤ _; rw [List.length_append]; simp; omega⟩
  ·exact hn.close hk _ _ (by decide)
theorem LB.bounds {S N k : Nat} {M : LS} (hS : S ≤ 1000000000) (hN : N ≤ 400000) (h : LB S N k M) : M.g.Inv ∧ M.sz ≤ 1000000 ∧ M.ch < 65536 ∧ M.sent.length ≤ 10000000000 ∧ M.told.length ≤ 1000000000 := by
 have h1 := h.kn
 have h2 := h.sz
 have h3 := h.ch
 have h4 := h.sent
 have h5 := h.told
 exact ⟨h.inv, by omega, by omega, by omega, by omega⟩
/-! ### an assembly of one frame -/
theorem out_first {g : GS} {f : Fr} {a : As} (h : g.out f = some a) (h1 : f.first = true) (h2 : f.beg = true) : a = ⟨f.chan, f.track, [⟨f.ty, f.load⟩]⟩ := by
 unfold GS.out at h
 split at h
 ·rename_i hc
  injection h with h
  have he := hc.1
  rcases g.err_cases f with ⟨e, _⟩ | ⟨_, ⟨e, _⟩ | ⟨_, ⟨e, _⟩ | ⟨hfit, _⟩⟩⟩
  ·omega
  ·omega
  ·omega
  ·have hop : g.op f.chan f.track = [] := by
    unfold fitsB at hfit
    split at hfit
    ·cases hfit
    ·split at hfit
     ·rename_i hl
      exact List.getLast?_eq_none_iff.1 hl
     ·rw [h1, h2] at hfit
      split at hfit
      ·simp at hfit
      ·simp at hfit
   rw [← h, hop]
   simp [segsOf, addSeg_beg _ _ h2]
 ·cases h
/-- a gatherer with which nothing is under way -/
def GS.calm (g : GS) : Prop := g.dead = false ∧ ∀ c t, g.op c t = []
theorem GS.calm_new : GS.new.calm := ⟨rfl, fun _ _ => rfl⟩
/-- a control's frame -/
def ctlFr (bs : List UInt8) : Fr := ⟨true, true, true, true, 0, 0, 0, bs⟩
theorem ctlFr_cut {sz : Nat} (hsz : sz ≤ 4096) {bs : List UInt8} (hb : bs.length + 12 ≤ sz) (h1 : 13 ≤ sz) : cutF ((sz : Int) - 12) ⟨0, 0, [⟨0, bs⟩]⟩ = [ctlFr bs] ∧ asOk ⟨0, 0, [⟨0, bs⟩]⟩ = true := by
 have hok : asOk ⟨0, 0, [⟨0, bs⟩]⟩ = true := by
  simp [asOk, segsOk, headOk]; omega
 refine ⟨?_, hok⟩
 unfold cutF cutErr
 rw [if_pos (by rw [if_neg (by omega), if_pos hok])]
 have h2 : bs.length ≤ ((sz : Int) - 12).toNat := by omega
 unfold cutAs
 rw [cutL_cons]
 simp only [List.length_cons, List.length_nil]
 rw [cutN_end h2]
 simp [cutL, ctlFr]
theorem frScan_nil : frScan [] = ([], 0, 0) := frScan_short (by decide) (by decide)
theorem putAll_bytes {l : List Fr} (hok : ∀ f ∈ l, f.ok = true) : putAll l = frBytes l ∧ frOks l = l := by
 have h2 : frOks l = l := by
  unfold frOks
  exact List.filter_eq_self.2 hok
 refine ⟨?_, h2⟩
 unfold frBytes
 rw [h2]
 unfold putAll
 induction l with
 | nil => rfl
 | cons f r ih =>
  have hr : ∀ f ∈ r, f.ok = true := fun g hg => hok g (List.mem_cons_of_mem _ hg)
  rw [List.flatMap_cons, List.flatMap_cons, ih hr (List.filter_eq_self.2 hr)]
  congr 1
  unfold Fr.put
  rw [if_pos (hok f (List.mem_cons_self ..))]
theorem scan_putAll {l : List Fr} (hok : ∀ f ∈ l, f.ok = true) (hw : ∀ f ∈ l, f.wf) : frScan (putAll l) = (l, (putAll l).length, 0) := by
 obtain ⟨h1, h2⟩ := putAll_bytes hok
 have h := frScan_row hw []
 rw [List.append_nil, frScan_nil] at h
 rw [h1, h, h2]
 simp
theorem ctlFr_ok (bs : List UInt8) (hb : bs.length ≤ 4084) : (ctlFr bs).ok = true ∧ (ctlFr bs).wf := by
 refine ⟨by simp [Fr.ok, ctlFr, hb], ?_, ?_, ?_⟩ <;> simp [ctlFr]
theorem scan_ctl {bs : List UInt8} (hb : bs.length ≤ 4084) : frScan (ctlB 4096 bs) = ([ctlFr bs], (ctlB 4096 bs).length, 0) := by
 obtain ⟨h1, h2⟩ := ctlFr_cut (sz := 4096) (by omega) (bs := bs) (by omega) (by omega)
 unfold ctlB asBytes
 rw [h1]
 exact scan_putAll (fun f hf => by rw [List.mem_singleton.1 hf]; exact (ctlFr_ok bs hb).1) (fun f hf => by rw [List.mem_singleton.1 hf]; exact (ctlFr_ok bs hb).2)
/-- what one control makes of a link -/
theorem feed_ctl (ctl : LS → As → LS) {L : LS} (h0 : L.st ≠ 0) (h5 : L.st ≠ 5) {bs : List UInt8} (hb : bs.length + 12 ≤ L.sz) (hs1 : 13 ≤ L.sz) (hsz : L.sz ≤ 4096) (hg : L.g.calm) :
  ∃ g', g'.calm ∧ (L.g.Inv → g'.Inv) ∧ L.feed ctl [] (ctlB 4096 bs) = (ctl { L with g := g', sent := [], told := [] } ⟨0, 0, [⟨0, bs⟩]⟩, []) := by
 obtain ⟨hc, hok⟩ := ctlFr_cut hsz hb hs1
 have hca : cutAs (L.sz - 12) ⟨0, 0, [⟨0, bs⟩]⟩ = [ctlFr bs] := by
  unfold cutF at hc
  split at hc
  ·have e : ((L.sz : Int) - 12).toNat = L.sz - 12 := by omega
   rw [e] at hc
   exact hc
  ·cases hc
 have hfa := feed_at (most := L.sz - 12) (by omega) (by omega) hok hg.1 (k := 0) (by rw [hca]; simp) (by rw [hg.2]; rfl)
 simp only [hca, List.getElem_cons_zero, List.length_singleton, Nat.zero_add, if_true] at hfa
 obtain ⟨he, ho, hd, hop, hot⟩ := hfa
 refine ⟨L.g.next (ctlFr bs), ⟨hd, fun c t => ?_⟩, fun hi => hi.next (ctlFr_ok bs (by omega)).2, ?_⟩
 ·by_cases h : c = 0 ∧ t = 0
  ·rw [h.1, h.2]; exact hop
  ·rw [hot c t h, hg.2]
 ·unfold LS.feed
  rw [if_neg h5]
  have hp : L.pre [] (ctlB 4096 bs) = ({ L with sent := [], told := [] }, ctlB 4096 bs) := by unfold LS.pre; rw [if_neg h0]; rfl
  rw [hp]
  unfold LS.post
  rw [if_neg (by show ¬ (L.st = 0 ∨ L.st = 5); omega)]
  rw [scan_ctl (by omega)]
  simp only
  have ht : LS.take ctl { L with sent := [], told := [] } (ctlFr bs) = ctl { L with g := L.g.next (ctlFr bs), sent := [], told := [] } ⟨0, 0, [⟨0, bs⟩]⟩ := by
   unfold LS.take
   rw [if_neg (by show ¬ (L.sz < bs.length + 12 ∨ L.ch < 0); omega)]
   simp only [ho, if_true]
  have hf : LS.frames ctl { L with sent := [], told := [] } [ctlFr bs] 0 = ctl { L with g := L.g.next (ctlFr bs), sent := [], told := [] } ⟨0, 0, [⟨0, bs⟩]⟩ := by
   unfold LS.frames
   rw [if_neg (by simp), LS.goes_cons ctl { L with sent := [], told := [] } (ctlFr bs) [] h5, ht]
   rfl
  rw [hf, List.drop_length]
/-! ### what a link carries -/
theorem cutS_most (most : Nat) (h1 : 1 ≤ most) : ∀ (k : Nat) (f : Fr) (s : List UInt8), s.length ≤ k → ∀ x ∈ cutS most k f s, x.load.length ≤ most
 | 0, f, s, hk, x, hx => by
  simp [cutS] at hx
  subst hx
  show s.length ≤ most
  omega
 | k + 1, f, s, hk, x, hx => by
  rw [cutS] at hx
  split at hx
  ·rename_i h
   simp at hx
   subst hx
   exact h
  ·rcases List.mem_cons.1 hx with rfl | hx
   ·show (s.take most).length ≤ most
    rw [List.length_take]; omega
   ·exact cutS_most most h1 k _ (s.drop most) (by rw [List.length_drop]; omega) x hx
theorem cutAs_most {most : Nat} (h1 : 1 ≤ most) (a : As) : ∀ x ∈ cutAs most a, x.load.length ≤ most := by
 have h : ∀ (l : List Sg) (i : Nat), ∀ x ∈ cutL most a.chan a.track a.segs.length i l, x.load.length ≤ most := by
  intro l
  induction l with
  | nil => intro i x hx; simp [cutL] at hx
  | cons s r ih =>
   intro i x hx
   rw [cutL] at hx
   rcases List.mem_append.1 hx with hx | hx
   ·exact cutS_most most h1 _ _ _ (Nat.le_refl _) x hx
   ·exact ih _ x hx
 exact h a.segs 0
/-- a link that carries an assembly, of which so many frames have come -/
structure Car (most : Nat) (a : As) (L0 : LS) (i : Nat) (M : LS) : Prop where
 st : M.st = 4
 ch : M.ch = L0.ch
 sz : M.sz = L0.sz
 dead : M.g.dead = false
 op : M.g.op a.chan a.track = (if i = (cutAs most a).length then [] else (cutAs most a).take i)
 sent : M.sent = []
theorem car_take {ctl : LS → As → LS} {most : Nat} {a : As} {L0 M : LS} {i : Nat} (h : Car most a L0 i M) (h1 : 1 ≤ most) (h2 : most ≤ 4084) (hok : asOk a = true) (hi : i < (cutAs most a).length) (hsz : L0.sz = most + 12) (hch : a.chan ≤ L0.ch) (hc0 : a.chan ≠ 0) :
  Car most a L0 (i + 1) (M.take ctl (cutAs most a)[i]) ∧ (M.take ctl (cutAs most a)[i]).told = M.told ++ (if i + 1 = (cutAs most a).length then [a] else []) := by
 have hop := h.op
 rw [if_neg (by omega)] at hop
 obtain ⟨e1, e2, e3, e4, _⟩ := feed_at h1 h2 hok h.dead hi hop
 have hld := cutAs_most h1 a _ (List.getElem_mem hi)
 have hcn := ((cutAs_feeds h1 h2 hok).2.2 _ (List.getElem_mem hi)).1
 have ht : M.take ctl (cutAs most a)[i] = if i + 1 = (cutAs most a).length then { M with g := M.g.next (cutAs most a)[i], told := M.told ++ [a] } else { M with g := M.g.next (cutAs most a)[i] } := by
  unfold LS.take
  rw [if_neg (by rw [h.sz, h.ch, hcn]; omega), e2]
  by_cases hl : i + 1 = (cutAs most a).length
  ·rw [if_pos hl, if_pos hl]
   simp only [if_neg hc0, h.st, if_true]
  ·rw [if_neg hl, if_neg hl]
   simp only [e1, if_true]
 rw [ht]
 by_cases hl : i + 1 = (cutAs most a).length
 ·rw [if_pos hl, if_pos hl]
  exact ⟨⟨h.st, h.ch, h.sz, e3, by rw [e4], h.sent⟩, rfl⟩
 ·rw [if_neg hl, if_neg hl]
  exact ⟨⟨h.st, h.ch, h.sz, e3, by rw [e4], h.sent⟩, by simp⟩
theorem car_goes {ctl : LS → As → LS} {most : Nat} {a : As} {L0 : LS} (h1 : 1 ≤ most) (h2 : most ≤ 4084) (hok : asOk a = true) (hsz : L0.sz = most + 12) (hch : a.chan ≤ L0.ch) (hc0 : a.chan ≠ 0) :
  ∀ (j i : Nat) (M : LS), Car most a L0 i M → i + j ≤ (cutAs most a).length → Car most a L0 (i + j) (M.goes ctl (((cutAs most a).drop i).take j)) ∧ (M.goes ctl (((cutAs most a).drop i).take j)).told = M.told ++ (if 0 < j ∧ i + j = (cutAs most a).length then [a] else [])
 | 0, i, M, h, _ => by
  simp only [List.take_zero, Nat.add_zero, Nat.lt_irrefl, false_and, if_false, List.append_nil]
  exact ⟨h, rfl⟩
 | j + 1, i, M, h, hj => by
  have hi : i < (cutAs most a).length := by omega
  rw [List.drop_eq_getElem_cons hi, List.take_succ_cons, LS.goes_cons ctl M _ _ (by rw [h.st]; decide)]
  obtain ⟨h3, h4⟩ := car_take (ctl := ctl) h h1 h2 hok hi hsz hch hc0
  obtain ⟨h5, h6⟩ := car_goes (ctl := ctl) h1 h2 hok hsz hch hc0 j (i + 1) _ h3 (by omega)
  have e : i + 1 + j = i + (j + 1) := by omega
  rw [e] at h5 h6
  refine ⟨h5, ?_⟩
  rw [h6, h4]
  by_cases hl : i + (j + 1) = (cutAs most a).length
  ·by_cases hj0 : j = 0
   ·subst hj0
    simp [hl]
   ·rw [if_neg (by omega), if_pos ⟨by omega, hl⟩, if_pos ⟨by omega, hl⟩]
    simp
  ·by_cases hj0 : i + 1 = (cutAs most a).length
   ·omega
   ·rw [if_neg hj0, if_neg (fun e => hl e.2), if_neg (fun e => hl e.2)]
    simp
/-- an assembly's bytes, in two pieces, are told as that assembly -/
structure CarR (most : Nat) (a : As) (L0 : LS) (s1 s2 : List UInt8) (ctl : LS → As → LS) : Prop where
 fs1 : (frScan s1).1.length ≤ (cutAs most a).length ∧ ∀ f ∈ (frScan s1).1, f ∈ cutAs most a
 fs2 : (frScan ((L0.feed ctl [] s1).2 ++ s2)).1.length ≤ (cutAs most a).length ∧ ∀ f ∈ (frScan ((L0.feed ctl [] s1).2 ++ s2)).1, f ∈ cutAs most a
 st1 : (L0.feed ctl [] s1).1.st = 4 ∧ (L0.feed ctl [] s1).1.ch = L0.ch ∧ (L0.feed ctl [] s1).1.sz = L0.sz ∧ (L0.feed ctl [] s1).1.sent = []
 rest : (L0.feed ctl [] s1).2.length ≤ s1.length
 st2 : ((L0.feed ctl [] s1).1.feed ctl (L0.feed ctl [] s1).2 s2).1.st = 4 ∧ ((L0.feed ctl [] s1).1.feed ctl (L0.feed ctl [] s1).2 s2).1.sent = []
 inv : L0.g.Inv → (∀ M a, (ctl M a).g = M.g) → (L0.feed ctl [] s1).1.g.Inv
 told : (L0.feed ctl [] s1).1.told ++ ((L0.feed ctl [] s1).1.feed ctl (L0.feed ctl [] s1).2 s2).1.told = [a]
theorem goes_inv {ctl : LS → As → LS} (hc : ∀ M a, (ctl M a).g = M.g) : ∀ (l : List Fr) (M : LS), (∀ f ∈ l, f.wf) → M.g.Inv → (M.goes ctl l).g.Inv
 | [], M, _, h => h
 | f :: l, M, hw, h => by
  by_cases h5 : M.st = 5
  ·rw [LS.goes_closed h5]; exact h
  ·rw [LS.goes_cons ctl M f l h5]
   refine goes_inv hc l _ (fun g hg => hw g (List.mem_cons_of_mem _ hg)) ?_
   have hn := h.next (hw f (List.mem_cons_self ..))
   unfold LS.take
   split
   ·exact h
   split
   ·split
    ·exact hn
    ·exact hn
   ·split
    ·rw [hc]; exact hn
    split
    ·exact hn
    ·exact hn
theorem feed_up (ctl : LS → As → LS) (L : LS) (h4 : L.st = 4) (b s : List UInt8) (h0 : (frScan (b ++ s)).2.2 = 0) : L.feed ctl b s = (LS.goes ctl { L with sent := [], told := [] } (frScan (b ++ s)).1, (b ++ s).drop (frScan (b ++ s)).2.1) := by
 unfold LS.feed
 rw [if_neg (by rw [h4]; decide)]
 unfold LS.pre
 rw [if_neg (by rw [h4]; decide)]
 unfold LS.post
 rw [if_neg (by simp only [h4]; decide)]
 simp only
 unfold LS.frames
 rw [h0, if_neg (by simp)]
theorem car_all {ctl : LS → As → LS} {most : Nat} {a : As} {L0 : LS} (h1 : 1 ≤ most) (h2 : most ≤ 4084) (hok : asOk a = true) (hw : a.wf) (hsz : L0.sz = most + 12) (hch : a.chan ≤ L0.ch) (hc0 : a.chan ≠ 0) (h4 : L0.st = 4) (hg : L0.g.calm) (k : Nat) :
  CarR most a L0 ((putAll (cutAs most a)).take k) ((putAll (cutAs most a)).drop k) ctl := by
 obtain ⟨hf, hne, _⟩ := cutAs_feeds h1 h2 hok
 have hcf : cutF (most : Int) a = cutAs most a := by
  unfold cutF cutErr
  rw [if_pos (by rw [if_neg (by omega), if_pos hok])]
  rfl
 have hwf : ∀ f ∈ cutAs most a, f.wf := fun f h => (cutF_wf (most := (most : Int)) hw f (by rw [hcf]; exact h)).1
 have hoks : ∀ f ∈ cutAs most a, f.ok = true := fun f h => by
  obtain ⟨i, hi, rfl⟩ := List.getElem_of_mem h
  exact (feeds_at _ _ i hi hf).1
 have hsc := scan_putAll hoks hwf
 obtain ⟨s, hs⟩ : ∃ s, s = putAll (cutAs most a) := ⟨_, rfl⟩
 rw [← hs] at hsc ⊢
 have happ := frScan_app (s.take k) (s.drop k)
 rw [List.take_append_drop, hsc] at happ
 have he : (frScan (s.take k)).2.2 = 0 := by
  by_cases e : (frScan (s.take k)).2.2 = 0
  ·exact e
  ·have := happ.2 e
   rw [← this] at e
   exact absurd rfl e
 have h3 := happ.1 he
 injection h3 with h5 h6
 injection h6 with h6 h7
 have hlen : (frScan (s.take k)).1.length + (frScan (List.drop (frScan (s.take k)).2.1 (s.take k) ++ s.drop k)).1.length = (cutAs most a).length := by
  have := congrArg List.length h5
  rw [List.length_append] at this
  exact this.symm
 have ef1 : (frScan (s.take k)).1 = ((cutAs most a).drop 0).take (frScan (s.take k)).1.length := by
  rw [List.drop_zero]
  conv => rhs; rw [h5]
  rw [List.take_left]
 have ef2 : (frScan (List.drop (frScan (s.take k)).2.1 (s.take k) ++ s.drop k)).1 = ((cutAs most a).drop (frScan (s.take k)).1.length).take (frScan (List.drop (frScan (s.take k)).2.1 (s.take k) ++ s.drop k)).1.length := by
  conv => rhs; rw [h5]
  rw [List.drop_left, List.take_length]
 have hm1 : ∀ f ∈ (frScan (s.take k)).1, f ∈ cutAs most a := fun f h => by rw [h5]; exact List.mem_append_left _ h
 have hm2 : ∀ f ∈ (frScan (List.drop (frScan (s.take k)).2.1 (s.take k) ++ s.drop k)).1, f ∈ cutAs most a := fun f h => by rw [h5]; exact List.mem_append_right _ h
 have hF1 := feed_up ctl L0 h4 [] (s.take k) (by rw [List.nil_append]; exact he)
 rw [List.nil_append] at hF1
 have hC0 : Car most a L0 0 { L0 with sent := [], told := [] } := ⟨h4, rfl, rfl, hg.1, by rw [hg.2, List.take_zero]; split <;> rfl, rfl⟩
 have hpos : 0 < (cutAs most a).length := List.length_pos_iff.2 hne
 obtain ⟨hC1, hT1⟩ := car_goes (ctl := ctl) h1 h2 hok hsz hch hc0 (frScan (s.take k)).1.length 0 _ hC0 (by omega)
 rw [← ef1, Nat.zero_add] at hC1 hT1
 generalize hM1 : LS.goes ctl { L0 with sent := [], told := [] } (frScan (s.take k)).1 = M1 at *
 have hF2 := feed_up ctl M1 hC1.st (List.drop (frScan (s.take k)).2.1 (s.take k)) (s.drop k) h7.symm
 have hC1' : Car most a L0 (frScan (s.take k)).1.length { M1 with sent := [], told := [] } := ⟨hC1.st, hC1.ch, hC1.sz, hC1.dead, hC1.op, rfl⟩
 obtain ⟨hC2, hT2⟩ := car_goes (ctl := ctl) h1 h2 hok hsz hch hc0 (frScan (List.drop (frScan (s.take k)).2.1 (s.take k) ++ s.drop k)).1.length _ _ hC1' (by omega)
 rw [← ef2] at hC2 hT2
 refine ⟨⟨by omega, hm1⟩, ?_, ?_, ?_, ?_, ?_, ?_⟩
 ·rw [hF1]
  exact ⟨by simp only; omega, hm2⟩
 ·rw [hF1]
  exact ⟨hC1.st, hC1.ch, hC1.sz, hC1.sent⟩
 ·rw [hF1]
  simp only [List.length_drop]
  omega
 ·rw [hF1]
  simp only
  rw [hF2]
  exact ⟨hC2.st, hC2.sent⟩
 ·intro hi hcg
  rw [hF1]
  simp only
  rw [← hM1]
  exact goes_inv hcg _ _ (fun f hf => hwf f (hm1 f hf)) hi
 ·rw [hF1]
  simp only
  rw [hF2]
  simp only
  rw [hT1, hT2]
  by_cases hl : (frScan (s.take k)).1.length = (cutAs most a).length
  ·rw [if_pos ⟨by omega, hl⟩, if_neg (by omega)]
   rfl
  ·rw [if_neg (fun e => hl e.2), if_pos ⟨by omega, hlen⟩]
   rfl
end Go.PH
end

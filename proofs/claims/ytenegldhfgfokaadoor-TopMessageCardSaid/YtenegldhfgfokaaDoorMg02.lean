/- Texts laid together: GaMath, OctBackMath, RawV, Rec, Keep, RecSet. -/
import Derived.Test.YtenegldhfgfokaaDoorProg
import Derived.Maps.OwnOps
import Derived.Maps.OwnSet
import Derived.Maps.Views
import Derived.Test.YtenegldhfgfokaaDoorMg00
import Derived.Test.YtenegldhfgfokaaDoorMg01
set_option linter.all false
set_option linter.unusedSimpArgs false
set_option linter.unusedVariables false
section
/- Assemblies, cut into frames and gathered, as plain mathematics. No program in sight. -/
namespace Go.PH

structure Sg where
 ty : Nat
 load : List UInt8
deriving DecidableEq
structure As where
 chan : Nat
 track : Nat
 segs : List Sg
deriving DecidableEq
/-- what memory can hold -/
def As.wf (a : As) : Prop := a.chan < 65536 ∧ a.track < 256 ∧ ∀ s ∈ a.segs, s.ty < 256
def sgLen : List Sg → Nat
 | [] => 0
 | s :: r => s.load.length + sgLen r
def segsOk (n : Nat) (prev : Option Nat) : List Sg → Bool
 | [] => true
 | s :: r => decide (s.ty ≤ 3) && (match prev with | none => true | some p => decide (p < s.ty)) && decide (n + s.load.length ≤ 16384) && segsOk (n + s.load.length) (some s.ty) r
def headOk (a : As) : Bool := match a.segs with
 | [] => false
 | s :: r => decide (s.ty = a.track) && decide (a.track ≤ 1) && (decide (a.track ≠ 0) || r.isEmpty)
def asOk (a : As) : Bool := segsOk 0 none a.segs && headOk a
/-- the frames of a segment, each of so many bytes at most -/
def cutS (most : Nat) : Nat → Fr → List UInt8 → List Fr
 | 0, f, s => [⟨f.first, f.last, f.beg, true, f.ty, f.track, f.chan, s⟩]
 | k + 1, f, s => if s.length ≤ most then [⟨f.first, f.last, f.beg, true, f.ty, f.track, f.chan, s⟩] else
   ⟨f.first, f.last, f.beg, false, f.ty, f.track, f.chan, s.take most⟩ :: cutS most k ⟨f.first, f.last, false, false, f.ty, f.track, f.chan, []⟩ (s.drop most)
/-- those of segments, of which the first has so many ahead of it -/
def cutL (most chan track n : Nat) : Nat → List Sg → List Fr
 | _, [] => []
 | i, s :: r => cutS most s.load.length ⟨decide (i = 0), decide (i + 1 = n), true, false, s.ty, track, chan, []⟩ s.load ++ cutL most chan track n (i + 1) r
def cutAs (most : Nat) (a : As) : List Fr := cutL most a.chan a.track a.segs.length 0 a.segs
def cutErr (most : Int) (a : As) : Nat := if most < 1 ∨ 4084 < most then 2 else if asOk a then 0 else 70

/-! ### gathering -/
structure GS where
 dead : Bool
 op : Nat → Nat → List Fr
def GS.new : GS := ⟨false, fun _ _ => []⟩
def loadLen : List Fr → Nat
 | [] => 0
 | f :: r => f.load.length + loadLen r
/-- the segments that frames make: the last one gets a frame's bytes -/
def addTo : List Sg → List UInt8 → List Sg
 | [], _ => []
 | [s], x => [⟨s.ty, s.load ++ x⟩]
 | s :: t :: r, x => s :: addTo (t :: r) x
def addSeg (l : List Sg) (f : Fr) : List Sg := addTo (if f.beg then l ++ [⟨f.ty, []⟩] else l) f.load
def segsOf (l : List Fr) : List Sg := l.foldl addSeg []
def fitsB (l : List Fr) (f : Fr) : Bool :=
 if 1 < f.track then false else match l.getLast? with
 | none => f.first && f.beg && decide (f.ty = f.track) && (f.last || decide (f.track = 1))
 | some x => if x.fin then f.beg && !f.first && decide (x.ty < f.ty) else !f.beg && decide (f.ty = x.ty) && (f.first == x.first) && (f.last == x.last)
def GS.err (g : GS) (f : Fr) : Nat := if g.dead then 9 else if !f.ok then 60 else if !fitsB (g.op f.chan f.track) f then 70 else if 16384 < loadLen (g.op f.chan f.track) + f.load.length then 3 else 0
def GS.upd (g : GS) (c t : Nat) (l : List Fr) : GS := ⟨g.dead, fun x y => if x = c ∧ y = t then l else g.op x y⟩
def GS.next (g : GS) (f : Fr) : GS := if g.err f ≠ 0 then ⟨true, fun _ _ => []⟩ else g.upd f.chan f.track (if f.fin && f.last then [] else g.op f.chan f.track ++ [f])
def GS.out (g : GS) (f : Fr) : Option As := if g.err f = 0 ∧ f.fin = true ∧ f.last = true then some ⟨f.chan, f.track, segsOf (g.op f.chan f.track ++ [f])⟩ else none

theorem segsOf_snoc (l : List Fr) (f : Fr) : segsOf (l ++ [f]) = addSeg (segsOf l) f := by simp [segsOf]
theorem loadLen_app (a b : List Fr) : loadLen (a ++ b) = loadLen a + loadLen b := by
 induction a with
 | nil => simp [loadLen]
 | cons f a ih => simp only [List.cons_append, loadLen, ih]; omega
theorem sgLen_app (a b : List Sg) : sgLen (a ++ b) = sgLen a + sgLen b := by
 induction a with
 | nil => simp [sgLen]
 | cons f a ih => simp only [List.cons_append, sgLen, ih]; omega
theorem addTo_snoc (l : List Sg) (s : Sg) (x : List UInt8) : addTo (l ++ [s]) x = l ++ [⟨s.ty, s.load ++ x⟩] := by
 induction l with
 | nil => rfl
 | cons a l ih =>
  cases l with
  | nil => rfl
  | cons b l => simp only [List.cons_append] at ih ⊢; rw [addTo, ih]
theorem addTo_len : ∀ (l : List Sg) (x : List UInt8), (addTo l x).length = l.length
 | [], _ => rfl
 | [s], x => rfl
 | s :: t :: r, x => by simp only [addTo, List.length_cons, addTo_len (t :: r) x]
theorem sgLen_addTo : ∀ (l : List Sg) (x : List UInt8), l ≠ [] → sgLen (addTo l x) = sgLen l + x.length
 | [], _, h => absurd rfl h
 | [s], x, _ => by simp [addTo, sgLen]
 | s :: t :: r, x, _ => by simp only [addTo, sgLen]; have := sgLen_addTo (t :: r) x (by simp); simp only [sgLen] at this; omega
theorem sgLen_addSeg (l : List Sg) (f : Fr) : sgLen (addSeg l f) ≤ sgLen l + f.load.length := by
 rw [addSeg]
 split
 ·rw [sgLen_addTo _ _ (by simp), sgLen_app]; simp [sgLen]
 ·cases l with
  | nil => simp [addTo, sgLen]
  | cons a r => rw [sgLen_addTo _ _ (by simp)]; omega
theorem sgLen_segs (l : List Fr) : sgLen (segsOf l) ≤ loadLen l := by
 have : ∀ (l : List Fr) (s : List Sg), sgLen (l.foldl addSeg s) ≤ sgLen s + loadLen l := by
  intro l
  induction l with
  | nil => intro s; simp [loadLen]
  | cons f r ih =>
   intro s
   have := ih (addSeg s f)
   have h2 := sgLen_addSeg s f
   simp only [List.foldl_cons, loadLen] at this ⊢
   omega
 simpa [segsOf, sgLen] using this l []
/-- what is open on a track of a channel, as it comes to be -/
structure Goes (l : List Fr) : Prop where
 first : ∀ f, l.head? = some f → f.beg = true
 len : loadLen l ≤ 16384
 few : ∀ y, l.getLast? = some y → y.ty ≤ 3 ∧ (segsOf l).length ≤ y.ty + 1
/-- what a gatherer holds, as it comes to be -/
structure GS.Inv (g : GS) : Prop where
 goes : ∀ c t, Goes (g.op c t)
 deadE : g.dead = true → ∀ c t, g.op c t = []
 key : ∀ c t, g.op c t ≠ [] → c < 65536 ∧ t ≤ 1
theorem GS.inv_new : GS.new.Inv := ⟨fun _ _ => ⟨fun f h => (by cases h), by simp [GS.new, loadLen], fun f h => (by cases h)⟩, fun _ _ _ => rfl, fun _ _ h => absurd rfl h⟩
theorem segsOf_ne {l : List Fr} (h : Goes l) (hne : l ≠ []) : segsOf l ≠ [] := by
 cases l with
 | nil => exact absurd rfl hne
 | cons f r =>
  have hb := h.first f rfl
  have h1 : segsOf (f :: r) = r.foldl addSeg (addSeg [] f) := rfl
  have hl : ∀ (r : List Fr) (s : List Sg), s ≠ [] → r.foldl addSeg s ≠ [] := by
   intro r
   induction r with
   | nil => intro s h; exact h
   | cons g r ih =>
    intro s hs
    refine ih _ fun e => hs ?_
    have := congrArg List.length e
    rw [addSeg, addTo_len] at this
    split at this
    ·simp at this
    ·simpa using this
  rw [h1]
  refine hl r _ ?_
  simp [addSeg, hb, addTo]
theorem GS.err_cases (g : GS) (f : Fr) : g.err f = 9 ∧ g.dead = true ∨ g.dead = false ∧ (g.err f = 60 ∧ f.ok = false ∨ f.ok = true ∧ (g.err f = 70 ∧ fitsB (g.op f.chan f.track) f = false ∨ fitsB (g.op f.chan f.track) f = true ∧
  (g.err f = 3 ∧ 16384 < loadLen (g.op f.chan f.track) + f.load.length ∨ g.err f = 0 ∧ loadLen (g.op f.chan f.track) + f.load.length ≤ 16384))) := by
 unfold GS.err
 cases g.dead
 ·cases f.ok
  ·simp
  ·cases fitsB (g.op f.chan f.track) f
   ·simp
   ·by_cases h : 16384 < loadLen (g.op f.chan f.track) + f.load.length
    ·simp [h]
    ·simp [h]; omega
 ·simp
theorem fitsB_track {l : List Fr} {f : Fr} (h : fitsB l f = true) : f.track ≤ 1 := by
 unfold fitsB at h
 split at h
 ·cases h
 ·omega
theorem fitsB_nil {f : Fr} (h : fitsB [] f = true) : f.first = true ∧ f.beg = true ∧ f.ty = f.track := by
 unfold fitsB at h
 split at h
 ·cases h
 ·simp at h
  exact ⟨h.1.1.1, h.1.1.2, h.1.2⟩
theorem Goes.snoc {l : List Fr} {f : Fr} (h : Goes l) (hok : f.ok = true) (hf : fitsB l f = true) (hl : loadLen l + f.load.length ≤ 16384) : Goes (l ++ [f]) := by
 refine ⟨fun x hx => ?_, by rw [loadLen_app]; simpa [loadLen] using hl, fun y hy => ?_⟩
 ·cases l with
  | nil => simp at hx; subst hx; exact (fitsB_nil hf).2.1
  | cons a r => exact h.first x hx
 ·rw [List.getLast?_append] at hy
  simp at hy
  subst hy
  have hty : f.ty ≤ 3 := by simp [Fr.ok] at hok; omega
  refine ⟨hty, ?_⟩
  rw [segsOf_snoc, addSeg, addTo_len]
  unfold fitsB at hf
  split at hf
  ·cases hf
  ·split at hf
   ·rename_i hn
    have : l = [] := by simpa using hn
    subst this
    simp at hf
    simp [segsOf, hf.1.1.2]
   ·rename_i x hx
    have hfew := h.few x hx
    split at hf
    ·simp at hf
     rw [if_pos hf.1.1]
     simp; omega
    ·simp at hf
     rw [if_neg (by simp [hf.1.1.1])]
     omega
theorem Goes.most {l : List Fr} (h : Goes l) : (segsOf l).length ≤ 4 := by
 rcases hl : l.getLast? with _ | y
 ·have : l = [] := by simpa using hl
  subst this
  simp [segsOf]
 ·have := h.few y hl; omega
theorem GS.Inv.next {g : GS} (h : g.Inv) {f : Fr} (hw : f.wf) : (g.next f).Inv := by
 have hnone : (⟨true, fun _ _ => []⟩ : GS).Inv := ⟨fun _ _ => ⟨fun f h => (by cases h), by simp [loadLen], fun f h => (by cases h)⟩, fun _ _ _ => rfl, fun _ _ h => absurd rfl h⟩
 unfold GS.next
 rcases g.err_cases f with ⟨e, hd⟩ | ⟨hd, ⟨e, _⟩ | ⟨hok, ⟨e, _⟩ | ⟨hfit, ⟨e, _⟩ | ⟨e, hl⟩⟩⟩⟩
 ·rw [if_pos (by omega)]; exact hnone
 ·rw [if_pos (by omega)]; exact hnone
 ·rw [if_pos (by omega)]; exact hnone
 ·rw [if_pos (by omega)]; exact hnone
 rw [if_neg (by omega)]
 refine ⟨fun c t => ?_, fun hdd => ?_, fun c t hne => ?_⟩
 ·unfold GS.upd
  simp only
  split
  ·split
   ·exact ⟨fun f h => (by cases h), by simp [loadLen], fun f h => (by cases h)⟩
   ·exact (h.goes _ _).snoc hok hfit hl
  ·exact h.goes c t
 ·have : g.dead = true := hdd
  rw [hd] at this; cases this
 ·unfold GS.upd at hne
  simp only at hne
  split at hne
  ·rename_i hk
   rw [hk.1, hk.2]
   exact ⟨hw.2.2, fitsB_track hfit⟩
  ·exact h.key c t hne

/-! ### what was cut is gathered -/
theorem addSeg_beg (l : List Sg) (f : Fr) (h : f.beg = true) : addSeg l f = l ++ [⟨f.ty, f.load⟩] := by
 rw [addSeg, if_pos h, addTo_snoc, List.nil_append]
theorem addSeg_on (l : List Sg) (s : Sg) (f : Fr) (h : f.beg = false) : addSeg (l ++ [s]) f = l ++ [⟨s.ty, s.load ++ f.load⟩] := by
 rw [addSeg, h, if_neg (by simp), addTo_snoc]
theorem cutS_ne (most k : Nat) (f : Fr) (s : List UInt8) : cutS most k f s ≠ [] := by
 cases k with
 | zero => simp [cutS]
 | succ k => rw [cutS]; split <;> simp
theorem cutS_load (most : Nat) : ∀ (k : Nat) (f : Fr) (s : List UInt8), loadLen (cutS most k f s) = s.length
 | 0, f, s => by simp [cutS, loadLen]
 | k + 1, f, s => by
  rw [cutS]
  split
  ·simp [loadLen]
  ·rw [loadLen, cutS_load most k]
   simp; omega
theorem cutS_on (most : Nat) : ∀ (k : Nat) (f : Fr) (s : List UInt8) (L : List Sg) (x : Sg), f.beg = false → (cutS most k f s).foldl addSeg (L ++ [x]) = L ++ [⟨x.ty, x.load ++ s⟩]
 | 0, f, s, L, x, h => by simp [cutS, addSeg_on, h]
 | k + 1, f, s, L, x, h => by
  rw [cutS]
  split
  ·simp [addSeg_on, h]
  ·rw [List.foldl_cons, addSeg_on L x _ (by exact h), cutS_on most k _ _ _ _ rfl]
   simp
theorem cutS_segs (most k : Nat) (f : Fr) (s : List UInt8) (L : List Sg) (h : f.beg = true) : (cutS most k f s).foldl addSeg L = L ++ [⟨f.ty, s⟩] := by
 cases k with
 | zero => simp [cutS, addSeg_beg, h]
 | succ k =>
  rw [cutS]
  split
  ·simp [addSeg_beg, h]
  ·rw [List.foldl_cons, addSeg_beg L _ (by exact h), cutS_on most k _ _ _ _ rfl]
   simp
theorem cutL_segs (most chan track n : Nat) : ∀ (l : List Sg) (i : Nat) (L : List Sg), (cutL most chan track n i l).foldl addSeg L = L ++ l
 | [], _, L => by simp [cutL]
 | s :: r, i, L => by
  rw [cutL, List.foldl_append, cutS_segs _ _ _ _ _ rfl, cutL_segs most chan track n r]
  simp
theorem cutAs_segs (most : Nat) (a : As) : segsOf (cutAs most a) = a.segs := by
 have := cutL_segs most a.chan a.track a.segs.length a.segs 0 []
 simpa [segsOf, cutAs] using this
/-- frames that are gathered behind others, the last one the last of all -/
def feeds (pre : List Fr) : List Fr → Prop
 | [] => True
 | f :: r => f.ok = true ∧ fitsB pre f = true ∧ loadLen pre + f.load.length ≤ 16384 ∧ (f.fin && f.last) = r.isEmpty ∧ feeds (pre ++ [f]) r
theorem fitsB_of {pre : List Fr} {f g : Fr} (h : fitsB pre f = true) (h1 : g.first = f.first) (h2 : g.last = f.last) (h3 : g.beg = f.beg) (h4 : g.ty = f.ty) (h5 : g.track = f.track) : fitsB pre g = true := by
 unfold fitsB at h ⊢
 rw [h1, h2, h3, h4, h5]
 exact h
theorem cutS_feeds (most : Nat) (h1 : 1 ≤ most) (h2 : most ≤ 4084) (tail : List Fr) : ∀ (k : Nat) (f : Fr) (s : List UInt8) (pre : List Fr), s.length ≤ k → f.ty ≤ 3 → fitsB pre f = true → loadLen pre + s.length ≤ 16384 →
  f.last = tail.isEmpty → feeds (pre ++ cutS most k f s) tail → feeds pre (cutS most k f s ++ tail)
 | 0, f, s, pre, hk, hty, hfit, hl, hlast, ht => by
  have hs : s = [] := List.eq_nil_of_length_eq_zero (by omega)
  subst hs
  refine ⟨?_, fitsB_of hfit rfl rfl rfl rfl rfl, by simpa using hl, by simp [hlast], ht⟩
  have := fitsB_track hfit
  simp [Fr.ok, hty]; omega
 | k + 1, f, s, pre, hk, hty, hfit, hl, hlast, ht => by
  have htr := fitsB_track hfit
  rw [cutS] at ht ⊢
  split
  ·rename_i hsm
   rw [if_pos hsm] at ht
   refine ⟨?_, fitsB_of hfit rfl rfl rfl rfl rfl, by simpa using hl, by simp [hlast], ht⟩
   simp [Fr.ok, hty]; omega
  ·rename_i hsm
   rw [if_neg hsm] at ht
   have hml : (s.take most).length = most := by rw [List.length_take]; omega
   refine ⟨?_, fitsB_of hfit rfl rfl rfl rfl rfl, by show loadLen pre + (s.take most).length ≤ 16384; omega, ?_, ?_⟩
   ·simp [Fr.ok, hty]; omega
   ·have := cutS_ne most k ⟨f.first, f.last, false, false, f.ty, f.track, f.chan, []⟩ (s.drop most)
    simp [this]
   ·refine cutS_feeds most h1 h2 tail k _ _ _ (by simp; omega) hty ?_ ?_ hlast (by simpa using ht)
    ·unfold fitsB
     rw [if_neg (by simpa using htr)]
     simp
    ·rw [loadLen_app, List.length_drop]
     simp only [loadLen, hml]; omega
theorem cutS_last (most : Nat) : ∀ (k : Nat) (f : Fr) (s : List UInt8), ∃ x, (cutS most k f s).getLast? = some x ∧ x.fin = true ∧ x.ty = f.ty
 | 0, f, s => ⟨_, rfl, rfl, rfl⟩
 | k + 1, f, s => by
  rw [cutS]
  split
  ·exact ⟨_, rfl, rfl, rfl⟩
  ·obtain ⟨x, hx, h1, h2⟩ := cutS_last most k ⟨f.first, f.last, false, false, f.ty, f.track, f.chan, []⟩ (s.drop most)
   refine ⟨x, ?_, h1, h2⟩
   rw [List.getLast?_cons, hx]; rfl
theorem cutL_feeds (most chan track n : Nat) (h1 : 1 ≤ most) (h2 : most ≤ 4084) (htr : track ≤ 1) : ∀ (l : List Sg) (i : Nat) (pre : List Fr) (prev : Option Nat), i + l.length = n → segsOk (loadLen pre) prev l = true →
  (i = 0 → pre = [] ∧ (∀ s, l.head? = some s → s.ty = track) ∧ (track = 1 ∨ n = 1)) → (i ≠ 0 → ∃ x, pre.getLast? = some x ∧ x.fin = true ∧ prev = some x.ty) → feeds pre (cutL most chan track n i l)
 | [], _, _, _, _, _, _, _ => trivial
 | s :: r, i, pre, prev, hn, hok, h0, hi => by
  rw [cutL]
  simp only [segsOk, Bool.and_eq_true, decide_eq_true_eq] at hok
  obtain ⟨⟨⟨hty, hup⟩, hln⟩, hrest⟩ := hok
  refine cutS_feeds most h1 h2 _ _ _ _ pre (Nat.le_refl _) hty ?_ hln ?_ ?_
  ·unfold fitsB
   rw [if_neg (by simpa using htr)]
   by_cases e : i = 0
   ·obtain ⟨rfl, hh, ht⟩ := h0 e
    have := hh s rfl
    subst e
    simp only [List.getLast?_nil, decide_true, Bool.true_and, this]
    rcases ht with ht | ht
    ·simp [ht]
    ·simp [ht]
   ·obtain ⟨x, hx, hf, rfl⟩ := hi e
    rw [hx]
    simp only [decide_eq_true_eq] at hup
    simp [hf, e, hup]
  ·cases r with
   | nil => simp [cutL] at hn ⊢; omega
   | cons t r =>
    have hne : cutL most chan track n (i + 1) (t :: r) ≠ [] := by
     rw [cutL]
     exact fun e => cutS_ne most t.load.length ⟨decide (i + 1 = 0), decide (i + 1 + 1 = n), true, false, t.ty, track, chan, []⟩ t.load (List.append_eq_nil_iff.1 e).1
    have : ¬ (i + 1 = n) := by simp at hn; omega
    simp only [this, decide_false]
    cases hc : cutL most chan track n (i + 1) (t :: r) with
    | nil => exact absurd hc hne
    | cons _ _ => rfl
  ·refine cutL_feeds most chan track n h1 h2 htr r (i + 1) _ (some s.ty) (by simp at hn; omega) ?_ (fun e => by omega) fun _ => ?_
   ·rw [loadLen_app, cutS_load]; exact hrest
   ·obtain ⟨x, hx, hf, ht⟩ := cutS_last most s.load.length ⟨decide (i = 0), decide (i + 1 = n), true, false, s.ty, track, chan, []⟩ s.load
    refine ⟨x, ?_, hf, by rw [ht]⟩
    rw [List.getLast?_append, hx]; rfl
theorem cutAs_feeds {most : Nat} (h1 : 1 ≤ most) (h2 : most ≤ 4084) {a : As} (h : asOk a = true) : feeds [] (cutAs most a) ∧ cutAs most a ≠ [] ∧ ∀ f ∈ cutAs most a, f.chan = a.chan ∧ f.track = a.track := by
 unfold asOk at h
 rw [Bool.and_eq_true] at h
 obtain ⟨hs, hh⟩ := h
 have hmem : ∀ (k : Nat) (f : Fr) (s : List UInt8), ∀ x ∈ cutS most k f s, x.chan = f.chan ∧ x.track = f.track := by
  intro k
  induction k with
  | zero => intro f s x hx; simp [cutS] at hx; subst hx; exact ⟨rfl, rfl⟩
  | succ k ih =>
   intro f s x hx
   rw [cutS] at hx
   split at hx
   ·simp at hx; subst hx; exact ⟨rfl, rfl⟩
   ·rcases List.mem_cons.1 hx with rfl | hx
    ·exact ⟨rfl, rfl⟩
    ·exact ih ⟨f.first, f.last, false, false, f.ty, f.track, f.chan, []⟩ _ x hx
 have hmemL : ∀ (l : List Sg) (i : Nat), ∀ x ∈ cutL most a.chan a.track a.segs.length i l, x.chan = a.chan ∧ x.track = a.track := by
  intro l
  induction l with
  | nil => intro i x hx; simp [cutL] at hx
  | cons s r ih =>
   intro i x hx
   rw [cutL] at hx
   rcases List.mem_append.1 hx with hx | hx
   ·exact hmem _ _ _ x hx
   ·exact ih _ x hx
 unfold headOk at hh
 cases hl : a.segs with
 | nil => rw [hl] at hh; cases hh
 | cons s r =>
  rw [hl] at hh
  simp only [Bool.and_eq_true, decide_eq_true_eq, Bool.or_eq_true] at hh
  refine ⟨?_, ?_, hmemL _ _⟩
  ·refine cutL_feeds most a.chan a.track a.segs.length h1 h2 hh.1.2 a.segs 0 [] none (by simp) hs (fun _ => ⟨rfl, fun x hx => ?_, ?_⟩) (fun h => absurd rfl h)
   ·rw [hl] at hx; injection hx with hx; subst hx; exact hh.1.1
   ·rcases hh.2 with h | h
    ·have := hh.1.2; left; omega
    ·right; rw [hl]; simpa using h
  ·unfold cutAs
   rw [hl, cutL]
   exact fun e => cutS_ne most s.load.length ⟨decide (0 = 0), decide (0 + 1 = (s :: r).length), true, false, s.ty, a.track, a.chan, []⟩ s.load (List.append_eq_nil_iff.1 e).1
theorem feeds_at : ∀ (l pre : List Fr) (k : Nat) (hk : k < l.length), feeds pre l → l[k].ok = true ∧ fitsB (pre ++ l.take k) l[k] = true ∧ loadLen (pre ++ l.take k) + l[k].load.length ≤ 16384 ∧ (l[k].fin && l[k].last) = decide (k + 1 = l.length)
 | f :: r, pre, 0, _, h => by
  obtain ⟨h1, h2, h3, h4, _⟩ := h
  refine ⟨h1, by simpa using h2, by simpa using h3, ?_⟩
  show (f.fin && f.last) = _
  rw [h4]
  cases r <;> simp
 | f :: r, pre, k + 1, hk, h => by
  have := feeds_at r (pre ++ [f]) k (by simpa using hk) h.2.2.2.2
  simpa using this
/-- a gatherer that holds the first frames of what is cut takes the next one -/
theorem feed_at {most : Nat} (h1 : 1 ≤ most) (h2 : most ≤ 4084) {a : As} (h : asOk a = true) {g : GS} (hd : g.dead = false) {k : Nat} (hk : k < (cutAs most a).length) (ho : g.op a.chan a.track = (cutAs most a).take k) :
  g.err (cutAs most a)[k] = 0 ∧ g.out (cutAs most a)[k] = (if k + 1 = (cutAs most a).length then some a else none) ∧ (g.next (cutAs most a)[k]).dead = false ∧
  (g.next (cutAs most a)[k]).op a.chan a.track = (if k + 1 = (cutAs most a).length then [] else (cutAs most a).take (k + 1)) ∧ ∀ c t, ¬ (c = a.chan ∧ t = a.track) → (g.next (cutAs most a)[k]).op c t = g.op c t := by
 obtain ⟨hf, hne, hm⟩ := cutAs_feeds h1 h2 h
 obtain ⟨g1, g2, g3, g4⟩ := feeds_at _ _ k hk hf
 obtain ⟨hc, ht⟩ := hm _ (List.getElem_mem hk)
 have hsg := cutAs_segs most a
 simp only [List.nil_append] at g2 g3
 have e0 : g.err (cutAs most a)[k] = 0 := by
  unfold GS.err
  rw [hd, g1, hc, ht, ho, g2]
  simp; omega
 refine ⟨e0, ?_, ?_, ?_, ?_⟩
 ·unfold GS.out
  rw [e0, hc, ht, ho]
  have hs : (cutAs most a).take k ++ [(cutAs most a)[k]] = (cutAs most a).take (k + 1) := by rw [List.take_succ_eq_append_getElem hk]
  rw [hs]
  by_cases e : k + 1 = (cutAs most a).length
  ·rw [if_pos e]
   rw [decide_eq_true e, Bool.and_eq_true] at g4
   rw [if_pos ⟨rfl, g4.1, g4.2⟩, List.take_of_length_le (by omega), hsg]
  ·rw [if_neg e]
   rw [decide_eq_false e] at g4
   rw [if_neg]
   rintro ⟨_, h1, h2⟩
   rw [h1, h2] at g4; cases g4
 ·unfold GS.next
  rw [if_neg (by omega)]
  exact hd
 ·unfold GS.next
  rw [if_neg (by omega), hc, ht]
  show (if a.chan = a.chan ∧ a.track = a.track then _ else _) = _
  rw [if_pos ⟨rfl, rfl⟩, g4, ho]
  by_cases e : k + 1 = (cutAs most a).length
  ·simp [e]
  ·simp [e]
 ·intro c t hct
  unfold GS.next
  rw [if_neg (by omega), hc, ht]
  show (if c = a.chan ∧ t = a.track then _ else _) = _
  rw [if_neg hct]
/-! ### cutting, step by step -/
theorem cutS_fuel {most : Nat} (h1 : 1 ≤ most) : ∀ (n k j : Nat) (f : Fr) (s : List UInt8), s.length ≤ n → s.length ≤ k → s.length ≤ j → cutS most k f s = cutS most j f s
 | n, 0, 0, f, s, _, _, _ => rfl
 | n, 0, j + 1, f, s, _, hk, _ => by rw [cutS, cutS, if_pos (by omega)]
 | n, k + 1, 0, f, s, _, _, hj => by rw [cutS, cutS, if_pos (by omega)]
 | n, k + 1, j + 1, f, s, hn, hk, hj => by
  rw [cutS, cutS]
  split
  ·rfl
  ·rename_i hm
   cases n with
   | zero => omega
   | succ n => rw [cutS_fuel h1 n k j _ (s.drop most) (by simp; omega) (by simp; omega) (by simp; omega)]
def cutN (most : Nat) (f : Fr) (s : List UInt8) : List Fr := cutS most s.length f s
theorem cutN_end {most : Nat} {f : Fr} {s : List UInt8} (h : s.length ≤ most) : cutN most f s = [⟨f.first, f.last, f.beg, true, f.ty, f.track, f.chan, s⟩] := by
 unfold cutN
 cases s with
 | nil => rfl
 | cons x s => rw [List.length_cons, cutS, if_pos h]
theorem cutN_more {most : Nat} (h1 : 1 ≤ most) {f : Fr} {s : List UInt8} (h : most < s.length) : cutN most f s = ⟨f.first, f.last, f.beg, false, f.ty, f.track, f.chan, s.take most⟩ :: cutN most ⟨f.first, f.last, false, false, f.ty, f.track, f.chan, []⟩ (s.drop most) := by
 unfold cutN
 cases s with
 | nil => simp at h
 | cons x s =>
  rw [List.length_cons, cutS, if_neg (by simpa using h), cutS_fuel h1 s.length s.length _ _ _ (by simp; omega) (by simp; omega) (Nat.le_refl _)]
theorem cutN_len (most : Nat) (h1 : 1 ≤ most) : ∀ (n : Nat) (f : Fr) (s : List UInt8), s.length ≤ n → (cutN most f s).length ≤ s.length + 1
 | 0, f, s, h => by rw [cutN_end (by omega)]; simp
 | n + 1, f, s, h => by
  by_cases hm : s.length ≤ most
  ·rw [cutN_end hm]; simp
  ·rw [cutN_more h1 (by omega)]
   have := cutN_len most h1 n ⟨f.first, f.last, false, false, f.ty, f.track, f.chan, []⟩ (s.drop most) (by simp; omega)
   simp at this ⊢; omega
theorem cutL_cons (most chan track n i : Nat) (s : Sg) (r : List Sg) : cutL most chan track n i (s :: r) = cutN most ⟨decide (i = 0), decide (i + 1 = n), true, false, s.ty, track, chan, []⟩ s.load ++ cutL most chan track n (i + 1) r := rfl
theorem cutL_len (most chan track n : Nat) (h1 : 1 ≤ most) : ∀ (l : List Sg) (i : Nat), (cutL most chan track n i l).length ≤ sgLen l + l.length
 | [], _ => by simp [cutL]
 | s :: r, i => by
  have a := cutN_len most h1 s.load.length ⟨decide (i = 0), decide (i + 1 = n), true, false, s.ty, track, chan, []⟩ s.load (Nat.le_refl _)
  have b := cutL_len most chan track n h1 r (i + 1)
  rw [cutL_cons]
  simp only [List.length_append, sgLen, List.length_cons]
  omega
theorem segsOk_len : ∀ (l : List Sg) (m : Nat) (prev : Option Nat), segsOk m prev l = true → l.length + (match prev with | none => 0 | some p => min (p + 1) 4) ≤ 4
 | [], m, prev, h => by cases prev <;> simp <;> omega
 | s :: r, m, prev, h => by
  simp only [segsOk, Bool.and_eq_true, decide_eq_true_eq] at h
  obtain ⟨⟨⟨h1, h2⟩, h3⟩, h4⟩ := h
  have := segsOk_len r _ _ h4
  simp only at this
  cases prev with
  | none => simp; omega
  | some p => simp at h2 ⊢; omega
theorem segsOk_sum : ∀ (l : List Sg) (m : Nat) (prev : Option Nat), segsOk m prev l = true → l ≠ [] → m + sgLen l ≤ 16384
 | [], m, prev, h, hne => absurd rfl hne
 | s :: r, m, prev, h, _ => by
  simp only [segsOk, Bool.and_eq_true, decide_eq_true_eq] at h
  obtain ⟨⟨⟨h1, h2⟩, h3⟩, h4⟩ := h
  cases r with
  | nil => simp [sgLen]; omega
  | cons t r =>
   have := segsOk_sum (t :: r) _ _ h4 (by simp)
   rw [sgLen]; omega
theorem asOk_few {a : As} (h : asOk a = true) : a.segs.length ≤ 4 ∧ sgLen a.segs ≤ 16384 ∧ a.segs ≠ [] := by
 unfold asOk at h
 rw [Bool.and_eq_true] at h
 have hne : a.segs ≠ [] := fun e => by have := h.2; simp [headOk, e] at this
 have h1 := segsOk_len _ _ _ h.1
 have h2 := segsOk_sum _ _ _ h.1 hne
 simp at h1 h2
 exact ⟨h1, h2, hne⟩
theorem cutAs_len {most : Nat} (h1 : 1 ≤ most) {a : As} (h : asOk a = true) : (cutAs most a).length ≤ 16388 := by
 have := cutL_len most a.chan a.track a.segs.length h1 a.segs 0
 obtain ⟨h2, h3, _⟩ := asOk_few h
 unfold cutAs; omega
theorem sgLen_mem {l : List Sg} {s : Sg} (h : s ∈ l) : s.load.length ≤ sgLen l := by
 induction l with
 | nil => cases h
 | cons a r ih =>
  rcases List.mem_cons.1 h with rfl | h
  ·simp [sgLen]
  ·have := ih h; simp [sgLen]; omega
end Go.PH
end
section
/- Items as bytes, and read again. No program in sight. -/
namespace Go.PH

theorem mtake_app (a b : List UInt8) : mtake (a ++ b) false (a.length : Int) = (a, b, false) := by
 rw [mtake_yes (by simp)]
 simp
theorem mnum_app (w : Nat) (hw : wideB (w : Int) = true) (n : Nat) (rest : List UInt8) : mnum (be w n ++ rest) false (w : Int) = (n % 256 ^ w, rest, false) := by
 have h := mtake_app (be w n) rest
 rw [be_length] at h
 rw [mnum_yes hw, h, unbe_be]
end Go.PH
end
section
/- The raw reader of a map's elements. -/
namespace Go.PH
open Go.RowKit Go.Proofs
def rawV : Value → Option (DataW Value × List MemPlace) := fun v => some (.held v, [])
end Go.PH
end
section
/- Rows of records, whatever a record's cells are. -/
namespace Go.PH
open Go.RowKit
section
variable {α : Type} {f : α → List Value} {sz : Nat}
/-- every record has so many cells, each of one cell -/
structure RecShape (f : α → List Value) (sz : Nat) : Prop where
 len : ∀ a, (f a).length = sz
 one : ∀ a, ∀ u ∈ f a, u.oneCell' = true
 pos : 0 < sz
def rowC (f : α → List Value) (l : List α) : List Value := l.flatMap f
theorem rowC_cons (a : α) (l : List α) : rowC f (a :: l) = f a ++ rowC f l := rfl
theorem rowC_app (a b : List α) : rowC f (a ++ b) = rowC f a ++ rowC f b := by simp [rowC]
theorem rowC_len (h : RecShape f sz) (l : List α) : (rowC f l).length = l.length * sz := by
 induction l with
 | nil => simp [rowC]
 | cons a l ih => rw [rowC_cons, List.length_append, ih, h.len, List.length_cons, Nat.add_mul]; omega
theorem rowC_get (h : RecShape f sz) : ∀ (l : List α) (k : Nat) (hk : k < l.length) (j : Nat), j < sz → (rowC f l)[k * sz + j]? = (f l[k])[j]?
 | a :: l, 0, _, j, hj => by
  rw [rowC_cons, Nat.zero_mul, Nat.zero_add, List.getElem?_append_left (by rw [h.len]; exact hj)]; rfl
 | a :: l, k + 1, hk, j, hj => by
  have := rowC_get h l k (by simpa using hk) j hj
  rw [rowC_cons, List.getElem?_append_right (by rw [h.len, Nat.add_mul]; omega), h.len, Nat.add_mul, show k * sz + 1 * sz + j - sz = k * sz + j by omega, this]
  rfl
variable {w w' : World} {B n c base e : Nat} {A : Option Addr} {l : List α}
theorem rec_length (h : RecShape f sz) (hr : Rd w B sz A n c (rowC f l)) : l.length = n := by
 have := hr.len
 rw [rowC_len h] at this
 exact Nat.eq_of_mul_eq_mul_right h.pos this
theorem rec_at (h : RecShape f sz) (hr : Rd w B sz A n c (rowC f l)) {k : Nat} (hk : k < n) : ∃ b off, A = some ⟨b, off, none⟩ ∧ b < B ∧ ∃ hl : k < l.length, ∀ j u, (f l[k])[j]? = some u → w.cell? ⟨b, off + k * sz + j, none⟩ = some u := by
 obtain ⟨b, off, e, hb, hc⟩ := hr.at_ (by omega)
 have hl := rec_length h hr
 refine ⟨b, off, e, hb, by omega, fun j u hu => ?_⟩
 have hj : j < sz := by have := (List.getElem?_eq_some_iff.1 hu).1; rwa [h.len] at this
 have := hc (k * sz + j) u ((rowC_get h l k (by omega) j hj).trans hu)
 rwa [← Nat.add_assoc] at this
theorem own_len (h : RecShape f sz) (ho : Own w base e sz A n c (rowC f l)) : l.length = n := rec_length h ho.rd
/-- a record put behind an own row, as one operation of a drawn region -/
theorem op_rec {P : Program} {W : World} {o : Oper} {a : Act} {K : Act → World → Prop} {Q : Exit → Act → World → Prop} {s x : Operand} {t t2 e2 bytes g : Nat} {z : Value} (h : RecShape f sz) (hT : SlT P t e sz bytes z) (h2 : P.underlying t2 = some (.slice e2))
  (ho : o.op = .call { callee := .builtin .append, args := #[s, x], argTypes := #[t, t2] }) (hs : a.eval s = .slice A n c) (hx : a.eval x = .slice (some ⟨g, 0, none⟩) 1 1) (hg : g = W.heap.size) {cs : Array Value}
  (r : α) (hcs : cs.toList = f r) (hown : Own W base e sz A n c (rowC f l)) (hn : (n + 1) * bytes ≤ 140737488355328) (hn2 : n ≤ 1000000000) (hbase : base ≤ W.heap.size)
  (hk : ∀ A2 c2 w', Own w' base e sz A2 (n + 1) c2 (rowC f (l ++ [r])) → W.grownBy w' (blk A) → (blk A2 = blk A ∨ ∀ g, blk A2 = some g → W.heap.size ≤ g) → Below base W w' → K (a.put o.dst (.slice A2 (n + 1) c2)) w') :
  o.wp P a (W.alloc (.cells cs e)) K Q := by
 subst hg
 have hcz : cs.size = 1 * sz := by rw [Nat.one_mul, ← h.len r, ← hcs]; simp
 have hlit := own_lit (w := W) base cs e 1 hbase (by simp [maxLen]) hcz h.pos
 have ho2 : Own (W.alloc (.cells cs e)) base e sz A n c (rowC f l) := hown.alloc _
 refine op_app (ops := #[]) hT h2 ho hs hx ho2 hlit.rd (fun u hu => h.one r u (by rw [← hcs]; exact hu)) hn (by simp [maxLen]; omega) (by simp; omega) fun A2 c2 w' a1 a2 a3 => ?_
 have e1 : rowC f l ++ cs.toList = rowC f (l ++ [r]) := by rw [rowC_app, hcs]; simp [rowC]
 rw [e1] at a1
 have hB2 : Below base W (W.alloc (.cells cs e)) := (Below.refl _ _).alloc hbase _
 have hgr : W.grownBy w' (blk A) := ⟨a2.os, a2.tape, a2.output, Nat.le_trans hB2.size a2.size, fun k hk hne => (a2.block k (by simp; omega) hne).trans (((Below.refl W.heap.size W).alloc (Nat.le_refl _) _).block k hk)⟩
 refine hk A2 c2 w' a1 hgr ?_ ((Below.refl _ _).grown hgr hbase (fun g hg => (hown.blk_lt hg).1))
 rcases a3 with h3 | h3
 ·exact .inl h3
 ·refine .inr fun g hg => ?_
  rw [h3] at hg
  simp at hg; omega
theorem wp_rec {P : Program} {W : World} {ops : Array Oper} {rest : List Oper} {o : Oper} {a : Act} {Q : Exit → Act → World → Prop} {s x : Operand} {t t2 e2 bytes g : Nat} {z : Value} (h : RecShape f sz) (hT : SlT P t e sz bytes z) (h2 : P.underlying t2 = some (.slice e2)) (hw : Region.wanted o (yielded ops a.tmps) = true)
  (ho : o.op = .call { callee := .builtin .append, args := #[s, x], argTypes := #[t, t2] }) (hs : a.eval s = .slice A n c) (hx : a.eval x = .slice (some ⟨g, 0, none⟩) 1 1) (hg : g = W.heap.size) {cs : Array Value}
  (r : α) (hcs : cs.toList = f r) (hown : Own W base e sz A n c (rowC f l)) (hn : (n + 1) * bytes ≤ 140737488355328) (hn2 : n ≤ 1000000000) (hbase : base ≤ W.heap.size)
  (hk : ∀ A2 c2 w', Own w' base e sz A2 (n + 1) c2 (rowC f (l ++ [r])) → W.grownBy w' (blk A) → (blk A2 = blk A ∨ ∀ g, blk A2 = some g → W.heap.size ≤ g) → Below base W w' → wpList P ops Q rest (a.put o.dst (.slice A2 (n + 1) c2)) w') :
  wpList P ops Q (o :: rest) a (W.alloc (.cells cs e)) := by
 refine BigFrame.wpList_want hw fun K hK => ?_
 exact op_rec h hT h2 ho hs hx hg r hcs hown hn hn2 hbase fun A2 c2 w' a1 a2 a3 a4 => hK _ _ (hk A2 c2 w' a1 a2 a3 a4)
end
end Go.PH
end
section
/- Blocks that stay: sets of blocks, rows and maps behind what turns others. -/
namespace Go.PH
open Go.RowKit

/-- a slice's header -/
structure Hd where
 A : Option Addr
 n : Nat
 c : Nat
def Hd.v (h : Hd) : Value := .slice h.A h.n h.c
def Quiet (w w' : World) : Prop := w'.os = w.os ∧ w'.tape = w.tape ∧ w'.output = w.output
theorem Quiet.refl (w : World) : Quiet w w := ⟨rfl, rfl, rfl⟩
theorem Quiet.trans {a b c : World} (h : Quiet a b) (k : Quiet b c) : Quiet a c := ⟨k.1.trans h.1, k.2.1.trans h.2.1, k.2.2.trans h.2.2⟩
theorem Quiet.below {B : Nat} {w w' : World} (h : Below B w w') : Quiet w w' := ⟨h.os, h.tape, h.output⟩
theorem Quiet.grown {w w' : World} {r : Option Nat} (h : w.grownBy w' r) : Quiet w w' := ⟨h.os, h.tape, h.output⟩
/-- all blocks but those of a set stay as they are -/
def KeepF (F : Nat → Prop) (w w' : World) : Prop := w.heap.size ≤ w'.heap.size ∧ (∀ g, g < w.heap.size → ¬ F g → w'.heap[g]? = w.heap[g]?) ∧ Quiet w w'
theorem KeepF.size {F : Nat → Prop} {w w' : World} (h : KeepF F w w') : w.heap.size ≤ w'.heap.size := h.1
theorem KeepF.refl (F : Nat → Prop) (w : World) : KeepF F w w := ⟨Nat.le_refl _, fun _ _ _ => rfl, .refl w⟩
theorem KeepF.trans {F F' : Nat → Prop} {w w' w2 : World} (h : KeepF F w w') (h' : KeepF F' w' w2) (hF : ∀ g, F' g → F g ∨ w.heap.size ≤ g) : KeepF F w w2 :=
 ⟨Nat.le_trans h.1 h'.1, fun g hg hn => (h'.2.1 g (Nat.lt_of_lt_of_le hg h.1) (fun e => by rcases hF g e with e | e; exact hn e; omega)).trans (h.2.1 g hg hn), h.2.2.trans h'.2.2⟩
theorem KeepF.below {F : Nat → Prop} {w w' : World} (h : Below w.heap.size w w') : KeepF F w w' := ⟨h.size, fun g hg _ => h.block g hg, .below h⟩
theorem KeepF.grown {F : Nat → Prop} {w w' : World} {r : Option Nat} (h : w.grownBy w' r) (hr : ∀ g, r = some g → F g ∨ w.heap.size ≤ g) : KeepF F w w' :=
 ⟨h.size, fun g hg hn => h.block g hg (fun e => by rcases hr g e.symm with e | e; exact hn e; omega), .grown h⟩
/-- where the set lies behind a base, nothing ahead of it turns -/
theorem KeepF.toBelow {F : Nat → Prop} {w w' : World} {B : Nat} (h : KeepF F w w') (hB : B ≤ w.heap.size) (hF : ∀ g, F g → B ≤ g) : Below B w w' :=
 ⟨h.2.2.1, h.2.2.2.1, h.2.2.2.2, h.1, fun k hk => h.2.1 k (by omega) (fun e => by have := hF k e; omega)⟩
theorem KeepF.weak {F G : Nat → Prop} {w w' : World} (h : KeepF F w w') (hF : ∀ g, F g → G g ∨ w.heap.size ≤ g) : KeepF G w w' :=
 ⟨h.1, fun g hg hn => h.2.1 g hg (fun e => by rcases hF g e with e | e; exact hn e; omega), h.2.2⟩
theorem keepF_of {F G : Nat → Prop} {w w' : World} (h : KeepF G w w') (hd : ∀ g, F g → ¬ G g) (hl : ∀ g, F g → g < w.heap.size) : ∀ g, F g → w'.heap[g]? = w.heap[g]? := fun g hg => h.2.1 g (hl g hg) (hd g hg)
theorem ownsMap_keep {w w' : World} {H : Type} {P : Program} {k : TypeId} {R : Value → Option (DataW H × List MemPlace)} {b n : Nat} {D : DataW H} (h : w.ownsMap P k R b n D) (hb : w'.heap[b]? = w.heap[b]?) : w'.ownsMap P k R b n D := by
 obtain ⟨es, clock, h1, h2, h3, h4⟩ := h
 exact ⟨es, clock, hb.trans h1, h2, h3, h4⟩
theorem own_keep {w w' : World} {base e size n c : Nat} {A : Option Addr} {xs : List Value} (h : Own w base e size A n c xs) (hb : ∀ g, blk A = some g → w'.heap[g]? = w.heap[g]?) : Own w' base e size A n c xs := by
 unfold Own World.ownsRow at h ⊢
 obtain ⟨hl, h1⟩ := h
 refine ⟨hl, h1.imp id ?_⟩
 rintro ⟨g, cap, cur, hv, hb0, hh, hr⟩
 exact ⟨g, cap, cur, hv, hb0, (hb g (by injection hv with e; rw [e]; rfl)).trans hh, hr⟩
theorem box_keepF {w w' : World} {F : Nat → Prop} {g t : Nat} {cs : Array Value} (h : Box w g t cs) (hk : KeepF F w w') (hF : ¬ F g) : Box w' g t cs := (hk.2.1 g h.lt hF).trans h
theorem own_keepF {w w' : World} {F : Nat → Prop} {base e size n c : Nat} {A : Option Addr} {xs : List Value} (h : Own w base e size A n c xs) (hk : KeepF F w w') (hF : ∀ g, blk A = some g → ¬ F g) : Own w' base e size A n c xs :=
 own_keep h fun g hg => hk.2.1 g (h.blk_lt hg).2 (hF g hg)
end Go.PH
end
section
/- Own rows of records: an element (or a part of it) stored, the tail cleared, the front kept. -/
namespace Go.PH
open Go.RowKit
section
variable {α : Type} {f : α → List Value} {sz : Nat} {P : Program} {w w' : World} {base e n c g m t bytes : Nat} {A : Option Addr} {l : List α} {z : Value}
theorem own_heap (ho : Own w base e sz (some ⟨g, 0, none⟩) n c (rowC f l)) : ∃ cur, base ≤ g ∧ w.heap[g]? = some (.cells cur e (0, 0)) ∧ n ≤ c ∧ c ≤ maxLen ∧ cur.size = c * sz ∧ cur.toList.take (n * sz) = rowC f l := by
 rcases ho.2 with ⟨hv, _⟩ | ⟨g', cap, cur, hv, h1, h2, h3, h4, h5, h6⟩
 ·injection hv with h1; cases h1
 ·injection hv with e1 e2 e3
  injection e1 with e1
  injection e1 with e1
  subst e1 e3
  exact ⟨cur, h1, h2, h3, h4, h5, h6⟩
theorem own_some (ho : Own w base e sz A n c (rowC f l)) (hn : 0 < n) : ∃ g, A = some ⟨g, 0, none⟩ ∧ base ≤ g ∧ g < w.heap.size := by
 rcases ho.2 with ⟨hv, rfl⟩ | ⟨g, cap, cur, hv, h1, h2, _⟩
 ·omega
 ·injection hv with e1 e2 e3
  exact ⟨g, e1, h1, (Array.getElem?_eq_some_iff.1 h2).1⟩
theorem rowC_set (h : RecShape f sz) (r : α) : ∀ (l : List α) (k : Nat), k < l.length → rowC f (l.set k r) = rowC f (l.take k) ++ f r ++ rowC f (l.drop (k + 1))
 | a :: l, 0, _ => by simp [rowC]
 | a :: l, k + 1, hk => by
  rw [List.set_cons_succ, rowC_cons, rowC_set h r l k (by simpa using hk), List.take_succ_cons, rowC_cons, List.drop_succ_cons]
  simp
theorem rowC_split (f : α → List Value) (l : List α) (k : Nat) (hk : k < l.length) : rowC f l = rowC f (l.take k) ++ f l[k] ++ rowC f (l.drop (k + 1)) := by
 have e : l = l.take k ++ [l[k]] ++ l.drop (k + 1) := by simp
 have e2 : rowC f l = rowC f (l.take k ++ [l[k]] ++ l.drop (k + 1)) := by rw [← e]
 rw [e2, rowC_app, rowC_app]
 simp [rowC]
theorem own_put (h : RecShape f sz) (ho : Own w base e sz (some ⟨g, 0, none⟩) n c (rowC f l)) {cur : Array Value} (hb : w.heap[g]? = some (.cells cur e (0, 0))) {k i : Nat} {vs : List Value} {r : α} (hk : k < n) (hkl : k < l.length)
  (hf : f r = (f l[k]).take i ++ vs ++ (f l[k]).drop (i + vs.length)) (hi : i + vs.length ≤ sz) (hB : w'.heap[g]? = some (.cells (cur.toList.take (k * sz + i) ++ vs ++ cur.toList.drop (k * sz + i + vs.length)).toArray e (0, 0))) :
  Own w' base e sz (some ⟨g, 0, none⟩) n c (rowC f (l.set k r)) := by
 obtain ⟨cur', hbg, hb', hnc, hcm, hcs, ht⟩ := own_heap ho
 rw [hb] at hb'
 injection hb' with hb'
 injection hb' with hb'
 subst hb'
 have hn := own_len h ho
 have hks : k * sz + sz ≤ n * sz := by have := Nat.mul_le_mul_right sz (show k + 1 ≤ n by omega); rw [Nat.add_mul, Nat.one_mul] at this; exact this
 have hnz : n * sz ≤ c * sz := Nat.mul_le_mul_right _ hnc
 refine ⟨by rw [rowC_len h, List.length_set, hn], .inr ⟨g, c, _, rfl, hbg, hB, hnc, hcm, ?_, ?_⟩⟩
 ·simp only [List.size_toArray, List.length_append, List.length_take, List.length_drop, Array.length_toList, hcs]
  omega
 ·have hX : (cur.toList.take (k * sz + i) ++ vs ++ cur.toList.drop (k * sz + i + vs.length)).take (n * sz) = (rowC f l).take (k * sz + i) ++ vs ++ (rowC f l).drop (k * sz + i + vs.length) := by
   rw [← ht, List.take_append, List.take_append, List.take_take, List.take_take, List.length_append, List.length_take, Array.length_toList, hcs, List.drop_take]
   have e1 : min (n * sz) (k * sz + i) = k * sz + i := by omega
   have e2 : min (k * sz + i) (n * sz) = k * sz + i := by omega
   have e3 : min (k * sz + i) (c * sz) = k * sz + i := by omega
   rw [e1, e2, e3, List.take_of_length_le (show vs.length ≤ n * sz - (k * sz + i) by omega)]
   try congr 2
  have hrl : (rowC f (l.take k)).length = k * sz := by rw [rowC_len h, List.length_take, Nat.min_eq_left (by omega)]
  have hS := rowC_split f l k hkl
  have hfl := h.len l[k]
  rw [show (cur.toList.take (k * sz + i) ++ vs ++ cur.toList.drop (k * sz + i + vs.length)).toArray.toList = _ from rfl, hX, rowC_set h r l k hkl, hf, hS, List.append_assoc (rowC f (l.take k)) (f l[k])]
  have t1 : (rowC f (l.take k) ++ (f l[k] ++ rowC f (l.drop (k + 1)))).take (k * sz + i) = rowC f (l.take k) ++ (f l[k]).take i := by
   rw [List.take_append, hrl, Nat.add_sub_cancel_left, List.take_of_length_le (by omega), List.take_append_of_le_length (by omega)]
  have t2 : (rowC f (l.take k) ++ (f l[k] ++ rowC f (l.drop (k + 1)))).drop (k * sz + i + vs.length) = (f l[k]).drop (i + vs.length) ++ rowC f (l.drop (k + 1)) := by
   rw [List.drop_append, hrl, List.drop_of_length_le (by omega), Nat.add_assoc, Nat.add_sub_cancel_left, List.nil_append, List.drop_append_of_le_length (by omega)]
  rw [t1, t2]
  simp
/-- a store into an own row: an element, or a part of it -/
theorem op_recset {o : Oper} {a : Act} {K : Act → World → Prop} {Q : Exit → Act → World → Prop} {x y : Operand} {ty : TypeId} {v : Value} {k i j : Nat} {vs : List Value} (h : RecShape f sz) (ho : o.op = .store ty x y) (hx : a.eval x = .pointer (some ⟨g, j, none⟩)) (hy : a.eval y = v)
  (hown : Own w base e sz (some ⟨g, 0, none⟩) n c (rowC f l)) (hk : k < n) (hkl : k < l.length) (r : α) (hv : v.cells.toList = vs) (hi : (P.info? ty).map (·.size) = some vs.length) (hf : f r = (f l[k]).take i ++ vs ++ (f l[k]).drop (i + vs.length)) (hil : i + vs.length ≤ sz) (hj : j = k * sz + i)
  (hc : ∀ w', Own w' base e sz (some ⟨g, 0, none⟩) n c (rowC f (l.set k r)) → w.grownBy w' (some g) → w'.heap.size = w.heap.size → K (a.put o.dst undef) w') : o.wp P a w K Q := by
 subst hj
 obtain ⟨cur, hbg, hb, hnc, hcm, hcs, ht⟩ := own_heap hown
 have hks : k * sz + sz ≤ n * sz := by have := Nat.mul_le_mul_right sz (show k + 1 ≤ n by omega); rw [Nat.add_mul, Nat.one_mul] at this; exact this
 have hnz : n * sz ≤ c * sz := Nat.mul_le_mul_right _ hnc
 have h1 : ∀ u ∈ vs, u.oneCell' = true := fun u hu => h.one r u (by rw [hf]; simp [hu])
 exact op_box ho hx hy (show Box w g e cur from hb) hv hi (by omega) h1 _ rfl fun w' b1 b2 b3 => hc w' (own_put h hown hb hk hkl hf hil b1) b2 b3
theorem hold_clear {ops : Array Oper} {Q : Exit → Act → World → Prop} {rest : List Oper} {a : Act} {dst : Option Tmp} {ty : TypeId} {pos : String} {after : Array Edge} {guard : Option (Nat × Bool)} {xs : Array Operand} {ts : Array TypeId} (h : Hold (wpList P ops Q (⟨dst, .call ⟨.builtin .clear, xs, ts⟩, ty, pos, after, guard⟩ :: rest) a w)) :
  wpList P ops Q (⟨dst, .call ⟨.builtin .clear, xs, ts⟩, ty, pos, after, guard⟩ :: rest) a w := h
end
end Go.PH
end

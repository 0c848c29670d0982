/- Texts laid together: VlReadMath, VlGet. -/
import Derived.Defers
import Derived.Recover
import Derived.Test.YtfbkameikhgciaaGreatDoorMg01
import Derived.Test.YtfbkameikhgciaaGreatDoorMg13
import Derived.Test.YtfbkameikhgciaaGreatDoorMg15
set_option linter.all false
set_option linter.unusedSimpArgs false
set_option linter.unusedVariables false
set_option maxRecDepth 20000
set_option maxHeartbeats 8000000
section
namespace Go.PH
def xm (rd : Nat → List UInt8 → Option (Vl × List UInt8 × Nat)) (m : Bool) : Nat → Nat → List UInt8 → Option (List (List UInt8) × List Vl × List UInt8 × Nat)
 | 0, n, l => some ([], [], l, n)
 | c + 1, n, l =>
  if m && (zR l false 1 255).2.2 then none
  else match rd n (if m then (zR l false 1 255).2.1 else l) with
   | none => none
   | some r => match xm rd m c r.2.2 r.2.1 with
    | none => none
    | some q => some (if m then (zR l false 1 255).1 :: q.1 else q.1, r.1 :: q.2.1, q.2.2)
def yx : Nat → Nat → List UInt8 → Option (Vl × List UInt8 × Nat)
 | 0, _, _ => none
 | f + 1, n, l =>
  if n = 0 ∨ (mnum l false 1).2.2 = true then none
  else
   if (mnum l false 1).1 = 240 then some (.mk 240 0 [] [] [], (mnum l false 1).2.1, n - 1)
   else if (mnum l false 1).1 = 8 ∨ (mnum l false 1).1 = 2 then
    if (mnum (mnum l false 1).2.1 false 1).2.2 = true then none else some (.mk (mnum l false 1).1 (mnum (mnum l false 1).2.1 false 1).1 [] [] [], (mnum (mnum l false 1).2.1 false 1).2.1, n - 1)
   else if (mnum l false 1).1 = 50 ∨ (mnum l false 1).1 = 49 then
    if (mnum (mnum l false 1).2.1 false 8).2.2 = true then none else some (.mk (mnum l false 1).1 (mnum (mnum l false 1).2.1 false 8).1 [] [] [], (mnum (mnum l false 1).2.1 false 8).2.1, n - 1)
   else if (mnum l false 1).1 = 149 then
    if (zR (mnum l false 1).2.1 false 2 4096).2.2 = true then none else some (.mk 149 0 (zR (mnum l false 1).2.1 false 2 4096).1 [] [], (zR (mnum l false 1).2.1 false 2 4096).2.1, n - 1)
   else if (mnum l false 1).1 = 160 then
    if (zR (mnum l false 1).2.1 false 4 4096).2.2 = true then none else some (.mk 160 0 (zR (mnum l false 1).2.1 false 4 4096).1 [] [], (zR (mnum l false 1).2.1 false 4 4096).2.1, n - 1)
   else if (mnum l false 1).1 = 168 ∨ (mnum l false 1).1 = 169 then
    if (mnum (mnum (mnum l false 1).2.1 false 4).2.1 (mnum (mnum l false 1).2.1 false 4).2.2 4).2.2 = true ∨ (mnum (mnum l false 1).2.1 false 4).2.1.length < (mnum (mnum l false 1).2.1 false 4).1 ∨ 200 ≤ (mnum (mnum (mnum l false 1).2.1 false 4).2.1 (mnum (mnum l false 1).2.1 false 4).2.2 4).1 then none
    else match xm (yx f) (decide ((mnum l false 1).1 = 168)) (mnum (mnum (mnum l false 1).2.1 false 4).2.1 (mnum (mnum l false 1).2.1 false 4).2.2 4).1 (n - 1) (mnum (mnum (mnum l false 1).2.1 false 4).2.1 (mnum (mnum l false 1).2.1 false 4).2.2 4).2.1 with
     | none => none
     | some q => if (mnum (mnum l false 1).2.1 false 4).2.1.length - q.2.2.1.length = (mnum (mnum l false 1).2.1 false 4).1 then some (.mk (mnum l false 1).1 0 [] q.1 q.2.1, q.2.2) else none
   else none
theorem qU (w : Nat) (hw : w = 1 ∨ w = 2 ∨ w = 4) (s rest : List UInt8) (most : Nat) (hs : s.length < 256 ^ w) (hm : s.length ≤ most) : zR (be w s.length ++ s ++ rest) false (w : Int) (most : Int) = (s, rest, false) := by
 rw [vT (by omega), List.append_assoc, jB w (xM (by omega)) s.length (s ++ rest), Nat.mod_eq_of_lt hs]
 simp only
 rw [if_neg (by simp; omega), kV]
theorem Yc (l : List UInt8) (b : Bool) (x : Int) : (yT l b x).2.1.length ≤ l.length := by
 unfold yT
 split
 ·simp
 ·simp
theorem xp (l : List UInt8) (b : Bool) (x : Int) : (mnum l b x).2.1.length ≤ l.length := by
 unfold mnum
 split
 ·exact Yc l b x
 ·simp
theorem qI (l : List UInt8) (b : Bool) (x m : Int) : (zR l b x m).2.1.length ≤ l.length := by
 unfold zR
 split
 ·simp only
  split
  ·simp
  ·exact Nat.le_trans (Yc _ _ _) (xp l b x)
 ·simp
theorem xJ (l : List UInt8) (b : Bool) (x : Int) (m : Nat) : (zR l b x (m : Int)).1.length ≤ m := by
 unfold zR
 split
 ·simp only
  split
  ·simp
  ·rename_i h
   unfold yT
   split
   ·simp
   ·simp only [List.length_take]
    omega
 ·simp
theorem Yd {rd : Nat → List UInt8 → Option (Vl × List UInt8 × Nat)} (hrd : ∀ n l x l' n', rd n l = some (x, l', n') → l'.length ≤ l.length ∧ n' ≤ n) (m : Bool) : ∀ (c n : Nat) (l : List UInt8) (q : List (List UInt8) × List Vl × List UInt8 × Nat), xm rd m c n l = some q → q.2.2.1.length ≤ l.length ∧ q.2.2.2 ≤ n := by
 intro c
 induction c with
 | zero =>
  intro n l q h
  rw [xm] at h
  injection h with h
  subst h
  exact ⟨Nat.le_refl _, Nat.le_refl _⟩
 | succ c ih =>
  intro n l q h
  rw [xm] at h
  split at h
  ·cases h
  split at h
  ·cases h
  rename_i r hr
  split at h
  ·cases h
  rename_i q' hq'
  injection h with h
  subst h
  have h1 := hrd _ _ r.1 r.2.1 r.2.2 hr
  have h2 := ih _ _ _ hq'
  refine ⟨?_, by simp only; omega⟩
  simp only
  refine Nat.le_trans h2.1 (Nat.le_trans h1.1 ?_)
  split
  ·exact qI _ _ _ _
  ·exact Nat.le_refl _
theorem va : ∀ (f n : Nat) (l : List UInt8) (x : Vl) (l' : List UInt8) (n' : Nat), yx f n l = some (x, l', n') → l'.length ≤ l.length ∧ n' ≤ n := by
 intro f
 induction f with
 | zero => intro n l x l' n' h; rw [yx] at h; cases h
 | succ f ih =>
  intro n l x l' n' h
  rw [yx] at h
  have e1 := xp l false 1
  generalize mnum l false 1 = a at *
  split at h
  ·cases h
  split at h
  ·injection h with h; injection h with _ h; injection h with h1 h2; subst h1 h2; exact ⟨e1, by omega⟩
  split at h
  ·have e2 := xp a.2.1 false 1
   split at h
   ·cases h
   ·injection h with h; injection h with _ h; injection h with h1 h2; subst h1 h2; exact ⟨by omega, by omega⟩
  split at h
  ·have e2 := xp a.2.1 false 8
   split at h
   ·cases h
   ·injection h with h; injection h with _ h; injection h with h1 h2; subst h1 h2; exact ⟨by omega, by omega⟩
  split at h
  ·have e2 := qI a.2.1 false 2 4096
   split at h
   ·cases h
   ·injection h with h; injection h with _ h; injection h with h1 h2; subst h1 h2; exact ⟨by omega, by omega⟩
  split at h
  ·have e2 := qI a.2.1 false 4 4096
   split at h
   ·cases h
   ·injection h with h; injection h with _ h; injection h with h1 h2; subst h1 h2; exact ⟨by omega, by omega⟩
  split at h
  ·have e2 := xp a.2.1 false 4
   have e3 := xp (mnum a.2.1 false 4).2.1 (mnum a.2.1 false 4).2.2 4
   split at h
   ·cases h
   split at h
   ·cases h
   rename_i q hq
   have e4 := Yd ih _ _ _ _ _ hq
   split at h
   ·injection h with h; injection h with _ h; rw [h] at e4; simp only at e4; exact ⟨by omega, by omega⟩
   ·cases h
  ·cases h
theorem Xh {rd : Nat → List UInt8 → Option (Vl × List UInt8 × Nat)} (m : Bool) (L : List Vl) : ∀ (ks : List (List UInt8)) (n : Nat) (rest : List UInt8),
  (∀ x ∈ L, ∀ (n : Nat) (rest : List UInt8), n ≤ 200 → 0 ≤ cntV x n → rd n (vlB x ++ rest) = some (x, rest, (cntV x n).toNat)) → (m = true → ks.length = L.length ∧ ∀ k ∈ ks, k.length ≤ 255) → (m = false → ks = []) → n ≤ 200 → 0 ≤ cntL L n →
  xm rd m L.length n (yl m ks L ++ rest) = some (ks, L, rest, (cntL L n).toNat) := by
 induction L with
 | nil =>
  intro ks n rest _ h1 h2 _ _
  have : ks = [] := by
   cases m
   ·exact h2 rfl
   ·exact List.length_eq_zero_iff.1 (h1 rfl).1
  subst this
  rw [xy, List.nil_append, List.length_nil, xm, cntL]
  simp
 | cons x L ih =>
  intro ks n rest hrd h1 h2 hn hc
  rw [Zf x L (by omega)] at hc ⊢
  have hx0 : 0 ≤ cntV x n := by have := jM L (cntV x n); omega
  have hxle := jL x n
  have hx := fun rest => hrd x (List.mem_cons_self ..) n rest hn hx0
  have hcast : (((cntV x n).toNat : Nat) : Int) = cntV x n := by omega
  have hih := fun ks' h1' h2' => ih ks' (cntV x n).toNat rest (fun y hy => hrd y (List.mem_cons_of_mem _ hy)) h1' h2' (by omega) (by rw [hcast]; exact hc)
  rw [hcast] at hih
  rw [yX, List.length_cons, xm]
  cases m
  ·have hk := h2 rfl
   subst hk
   simp only [Bool.false_and, Bool.false_eq_true, if_false, List.nil_append, List.tail_nil]
   rw [List.append_assoc, hx]
   simp only
   rw [hih [] (fun h => by cases h) (fun _ => rfl)]
  ·obtain ⟨hl, hk⟩ := h1 rfl
   match ks, hl, hk with
   | k :: ks, hl, hk =>
    have hk0 := hk k (List.mem_cons_self ..)
    have e := qU 1 (.inl rfl) k (vlB x ++ (yl true ks L ++ rest)) 255 (by omega) hk0
    have e2 : be 1 k.length ++ k ++ vlB x ++ yl true ks L ++ rest = be 1 k.length ++ k ++ (vlB x ++ (yl true ks L ++ rest)) := by simp [List.append_assoc]
    simp only [if_true, List.headD_cons, List.tail_cons, Bool.true_and]
    rw [e2]
    rw [show ((1 : Nat) : Int) = 1 from rfl, show ((255 : Nat) : Int) = 255 from rfl] at e
    rw [e]
    simp only [Bool.false_eq_true, if_false]
    rw [hx]
    simp only
    rw [hih ks (fun _ => ⟨by simpa using hl, fun k' hk' => hk k' (List.mem_cons_of_mem _ hk')⟩) (fun h => by cases h)]
theorem zaD (k : Nat) (hk : k < 256) (l : List UInt8) : mnum (UInt8.ofNat k :: l) false 1 = (k, l, false) := by
 have h := jB 1 (xM (.inl rfl)) k l
 rw [show be 1 k = [UInt8.ofNat k] from by simp [be], show ((1 : Nat) : Int) = 1 from rfl, Nat.mod_eq_of_lt (by simpa using hk)] at h
 exact h
theorem qg (w : Nat) (hw : w = 1 ∨ w = 2 ∨ w = 4 ∨ w = 8) (n : Nat) (hn : n < 256 ^ w) (l : List UInt8) : mnum (be w n ++ l) false (w : Int) = (n, l, false) := by
 rw [jB w (xM (by omega)) n l, Nat.mod_eq_of_lt hn]
theorem KI (x : Vl) : ∀ (f n : Nat) (rest : List UInt8), VB x → mayV zV x = true → qA f x = false → n ≤ 200 → 0 ≤ cntV x n → yx f n (vlB x ++ rest) = some (x, rest, (cntV x n).toNat) := by
 refine Vl.ind (P := fun x => ∀ (f n : Nat) (rest : List UInt8), VB x → mayV zV x = true → qA f x = false → n ≤ 200 → 0 ≤ cntV x n → yx f n (vlB x ++ rest) = some (x, rest, (cntV x n).toNat)) ?_ x
 intro x ih f n rest hvb hmay hdeep hn hc
 obtain ⟨hk256, hn64, hvl⟩ := hvb.parts
 have hbl := YD (v := x) n hmay hc
 rw [kT] at hmay
 obtain ⟨hkinds, hs4, hmapK, hall⟩ := qk hmay
 obtain ⟨f1, f2, f3, f4, f5, f6⟩ := vc hmay
 have hle := jL x n
 have hcq := Ze x n
 cases f with
 | zero => rw [qA] at hdeep; cases hdeep
 | succ f =>
  rw [qA] at hdeep
  have hdl : ∀ y ∈ x.list, qA f y = false := fun y hy => by
   cases h : qA f y
   ·rfl
   ·have : x.list.any (qA f) = true := List.any_eq_true.2 ⟨y, hy, h⟩
    rw [this] at hdeep; cases hdeep
  have hih := fun (y : Vl) (hy : y ∈ x.list) (n : Nat) (rest : List UInt8) (h1 : n ≤ 200) (h2 : 0 ≤ cntV y n) => ih y hy f n rest (hvl y hy) (List.all_eq_true.1 hall y hy) (hdl y hy) h1 h2
  clear ih hdeep hdl hvl hall hmay
  have hx := x.eta
  rw [Z7] at hbl ⊢
  rw [List.cons_append, yx, zaD _ hk256]
  simp only
  have hn0 : ¬ (n = 0 ∨ false = true) := fun h => h.elim (fun h => by omega) (fun h => by cases h)
  rw [if_neg hn0]
  have hcnt : x.list = [] → (cntV x n).toNat = n - 1 := fun h => by rw [hcq, h, cntL]; omega
  rcases hkinds with hk | hk | hk | hk | hk | hk | hk | hk | hk
  ·rw [hk] at hx f1 f2 f3 f4 f5 f6 ⊢
   have a1 := List.length_eq_zero_iff.1 (f1 (by decide)); have a2 := List.length_eq_zero_iff.1 (f2 (by decide) (by decide)); have a3 := List.length_eq_zero_iff.1 (f3 (by decide) (by decide))
   have e := qg 1 (.inl rfl) x.n (by have := f4 rfl; omega) rest
   rw [show ((1 : Nat) : Int) = 1 from rfl] at e
   rw [if_neg (by decide), if_pos (.inl rfl), show yj 8 x.n x.s (innB x) = be 1 x.n by simp [yj], e]
   simp only [Bool.false_eq_true, if_false]
   rw [a1, a2, a3] at hx
   rw [hcnt a2, ← hx]
  ·rw [hk] at hx f1 f2 f3 f4 f5 f6 ⊢
   have a1 := List.length_eq_zero_iff.1 (f1 (by decide)); have a2 := List.length_eq_zero_iff.1 (f2 (by decide) (by decide)); have a3 := List.length_eq_zero_iff.1 (f3 (by decide) (by decide))
   have e := qg 1 (.inl rfl) x.n (by have := f5 rfl; omega) rest
   rw [show ((1 : Nat) : Int) = 1 from rfl] at e
   rw [if_neg (by decide), if_pos (.inr rfl), show yj 2 x.n x.s (innB x) = be 1 x.n by simp [yj], e]
   simp only [Bool.false_eq_true, if_false]
   rw [a1, a2, a3] at hx
   rw [hcnt a2, ← hx]
  ·rw [hk] at hx f1 f2 f3 f4 f5 f6 ⊢
   have a1 := List.length_eq_zero_iff.1 (f1 (by decide)); have a2 := List.length_eq_zero_iff.1 (f2 (by decide) (by decide)); have a3 := List.length_eq_zero_iff.1 (f3 (by decide) (by decide))
   have e := qg 8 (.inr (.inr (.inr rfl))) x.n (by omega) rest
   rw [show ((8 : Nat) : Int) = 8 from rfl] at e
   rw [if_neg (by decide), if_neg (by decide), if_pos (.inr rfl), show yj 49 x.n x.s (innB x) = be 8 x.n by simp [yj], e]
   simp only [Bool.false_eq_true, if_false]
   rw [a1, a2, a3] at hx
   rw [hcnt a2, ← hx]
  ·rw [hk] at hx f1 f2 f3 f4 f5 f6 ⊢
   have a1 := List.length_eq_zero_iff.1 (f1 (by decide)); have a2 := List.length_eq_zero_iff.1 (f2 (by decide) (by decide)); have a3 := List.length_eq_zero_iff.1 (f3 (by decide) (by decide))
   have e := qg 8 (.inr (.inr (.inr rfl))) x.n (by omega) rest
   rw [show ((8 : Nat) : Int) = 8 from rfl] at e
   rw [if_neg (by decide), if_neg (by decide), if_pos (.inl rfl), show yj 50 x.n x.s (innB x) = be 8 x.n by simp [yj], e]
   simp only [Bool.false_eq_true, if_false]
   rw [a1, a2, a3] at hx
   rw [hcnt a2, ← hx]
  ·rw [hk] at hx f1 f2 f3 f4 f5 f6 ⊢
   have a1 := List.length_eq_zero_iff.1 (f1 (by decide)); have a2 := List.length_eq_zero_iff.1 (f2 (by decide) (by decide)); have a3 := List.length_eq_zero_iff.1 (f3 (by decide) (by decide))
   have a4 := f6 (by decide) (by decide) (by decide) (by decide)
   rw [if_pos rfl, show yj 240 x.n x.s (innB x) = [] by simp [yj], List.nil_append]
   rw [a1, a2, a3, a4] at hx
   rw [hcnt a2, ← hx]
  ·rw [hk] at hx f1 f2 f3 f4 f5 f6 ⊢
   have a1 := List.length_eq_zero_iff.1 (f1 (by decide)); have a2 := List.length_eq_zero_iff.1 (f2 (by decide) (by decide))
   have a4 := f6 (by decide) (by decide) (by decide) (by decide)
   have e := qU 4 (.inr (.inr rfl)) x.s rest 4096 (by omega) hs4
   rw [show ((4 : Nat) : Int) = 4 from rfl, show ((4096 : Nat) : Int) = 4096 from rfl] at e
   rw [if_neg (by decide), if_neg (by decide), if_neg (by decide), if_neg (by decide), if_pos rfl, show yj 160 x.n x.s (innB x) = be 4 x.s.length ++ x.s by simp [yj], e]
   simp only [Bool.false_eq_true, if_false]
   rw [a1, a2, a4] at hx
   rw [hcnt a2, ← hx]
  ·rw [hk] at hx f1 f2 f3 f4 f5 f6 ⊢
   have a1 := List.length_eq_zero_iff.1 (f1 (by decide)); have a2 := List.length_eq_zero_iff.1 (f2 (by decide) (by decide))
   have a4 := f6 (by decide) (by decide) (by decide) (by decide)
   have e := qU 2 (.inr (.inl rfl)) x.s rest 4096 (by omega) hs4
   rw [show ((2 : Nat) : Int) = 2 from rfl, show ((4096 : Nat) : Int) = 4096 from rfl] at e
   rw [if_neg (by decide), if_neg (by decide), if_neg (by decide), if_pos rfl, show yj 149 x.n x.s (innB x) = be 2 x.s.length ++ x.s by simp [yj], e]
   simp only [Bool.false_eq_true, if_false]
   rw [a1, a2, a4] at hx
   rw [hcnt a2, ← hx]
  ·rw [hk] at hx f1 f2 f3 f4 f5 f6 hbl ⊢
   have a3 := List.length_eq_zero_iff.1 (f3 (by decide) (by decide))
   have a4 := f6 (by decide) (by decide) (by decide) (by decide)
   rw [show yj 168 x.n x.s (innB x) = be 4 (innB x).length ++ innB x by simp [yj]] at hbl ⊢
   have hin : innB x = be 4 x.list.length ++ yl true x.keys x.list := by rw [innB, hk]; rfl
   have hil : (innB x).length < 256 ^ 4 := by rw [List.length_cons, List.length_append, zn] at hbl; omega
   rw [hcq] at hc hle ⊢
   have hcast : ((n : Int) - 1) = ((n - 1 : Nat) : Int) := by omega
   rw [hcast] at hc hle ⊢
   have hll := (jD _ _ hc).1
   have e1 := qg 4 (.inr (.inr (.inl rfl))) (innB x).length hil (innB x ++ rest)
   have e2 := qg 4 (.inr (.inr (.inl rfl))) x.list.length (by omega) (yl true x.keys x.list ++ rest)
   rw [show ((4 : Nat) : Int) = 4 from rfl] at e1 e2
   have hkey : true = true → x.keys.length = x.list.length ∧ ∀ k ∈ x.keys, k.length ≤ 255 := fun hb => by
    first
    | cases hb; done
    |obtain ⟨h1, h2⟩ := hmapK hk
     refine ⟨h1, fun k hk' => ?_⟩
     rw [xw, Bool.and_eq_true, List.all_eq_true] at h2
     have h3 := h2.1 _ hk'
     unfold jj at h3
     simp only [Bool.and_eq_true, decide_eq_true_eq] at h3
     exact h3.1.2
   have hnk : true = false → x.keys = [] := fun hb => by
    first
    | cases hb; done
    | exact List.length_eq_zero_iff.1 (f1 (by decide))
   have e3 := Xh true x.list x.keys (n - 1) rest hih hkey hnk (by omega) hc
   rw [if_neg (by decide), if_neg (by decide), if_neg (by decide), if_neg (by decide), if_neg (by decide), if_pos (by decide), List.append_assoc, e1]
   simp only
   rw [show innB x ++ rest = be 4 x.list.length ++ (yl true x.keys x.list ++ rest) by rw [hin, List.append_assoc], e2]
   simp only
   rw [if_neg (by
    rintro (h | h | h)
    ·cases h
    ·rw [hin] at h; simp at h; omega
    ·omega)]
   first | rw [decide_true, e3] | rw [decide_false, e3] | rw [show (decide (168 = 168)) = true from rfl, e3]
   simp only
   rw [if_pos (by rw [hin]; simp [List.length_append]; omega)]
   rw [a3, a4] at hx
   rw [← hx]
  ·rw [hk] at hx f1 f2 f3 f4 f5 f6 hbl ⊢
   have a3 := List.length_eq_zero_iff.1 (f3 (by decide) (by decide))
   have a4 := f6 (by decide) (by decide) (by decide) (by decide)
   rw [show yj 169 x.n x.s (innB x) = be 4 (innB x).length ++ innB x by simp [yj]] at hbl ⊢
   have hin : innB x = be 4 x.list.length ++ yl false x.keys x.list := by rw [innB, hk]; rfl
   have hil : (innB x).length < 256 ^ 4 := by rw [List.length_cons, List.length_append, zn] at hbl; omega
   rw [hcq] at hc hle ⊢
   have hcast : ((n : Int) - 1) = ((n - 1 : Nat) : Int) := by omega
   rw [hcast] at hc hle ⊢
   have hll := (jD _ _ hc).1
   have e1 := qg 4 (.inr (.inr (.inl rfl))) (innB x).length hil (innB x ++ rest)
   have e2 := qg 4 (.inr (.inr (.inl rfl))) x.list.length (by omega) (yl false x.keys x.list ++ rest)
   rw [show ((4 : Nat) : Int) = 4 from rfl] at e1 e2
   have hkey : false = true → x.keys.length = x.list.length ∧ ∀ k ∈ x.keys, k.length ≤ 255 := fun hb => by
    first
    | cases hb; done
    |obtain ⟨h1, h2⟩ := hmapK hk
     refine ⟨h1, fun k hk' => ?_⟩
     rw [xw, Bool.and_eq_true, List.all_eq_true] at h2
     have h3 := h2.1 _ hk'
     unfold jj at h3
     simp only [Bool.and_eq_true, decide_eq_true_eq] at h3
     exact h3.1.2
   have hnk : false = false → x.keys = [] := fun hb => by
    first
    | cases hb; done
    | exact List.length_eq_zero_iff.1 (f1 (by decide))
   have e3 := Xh false x.list x.keys (n - 1) rest hih hkey hnk (by omega) hc
   rw [if_neg (by decide), if_neg (by decide), if_neg (by decide), if_neg (by decide), if_neg (by decide), if_pos (by decide), List.append_assoc, e1]
   simp only
   rw [show innB x ++ rest = be 4 x.list.length ++ (yl false x.keys x.list ++ rest) by rw [hin, List.append_assoc], e2]
   simp only
   rw [if_neg (by
    rintro (h | h | h)
    ·cases h
    ·rw [hin] at h; simp at h; omega
    ·omega)]
   first | rw [decide_true, e3] | rw [decide_false, e3] | rw [show (decide (169 = 168)) = false from rfl, e3]
   simp only
   rw [if_pos (by rw [hin]; simp [List.length_append]; omega)]
   rw [a3, a4] at hx
   rw [← hx]
def j4 (rd : Nat → List UInt8 → Option (Vl × List UInt8 × Nat)) (m : Bool) (n : Nat) (l : List UInt8) : Option (List (List UInt8) × List Vl × List UInt8 × Nat) :=
 if (mnum (mnum l false 4).2.1 (mnum l false 4).2.2 4).2.2 = true ∨ (mnum l false 4).2.1.length < (mnum l false 4).1 ∨ 200 ≤ (mnum (mnum l false 4).2.1 (mnum l false 4).2.2 4).1 then none
 else match xm rd m (mnum (mnum l false 4).2.1 (mnum l false 4).2.2 4).1 n (mnum (mnum l false 4).2.1 (mnum l false 4).2.2 4).2.1 with
  | none => none
  | some q => if (mnum l false 4).2.1.length - q.2.2.1.length = (mnum l false 4).1 then some q else none
theorem X4 {f n : Nat} {l : List UInt8} (h : ¬ (n = 0 ∨ (mnum l false 1).2.2 = true)) (hk : (mnum l false 1).1 = 168 ∨ (mnum l false 1).1 = 169) :
  yx (f + 1) n l = (j4 (yx f) (decide ((mnum l false 1).1 = 168)) (n - 1) (mnum l false 1).2.1).map fun q => (.mk (mnum l false 1).1 0 [] q.1 q.2.1, q.2.2) := by
 rw [yx, if_neg h]
 generalize mnum l false 1 = a at *
 rw [if_neg (by omega), if_neg (by omega), if_neg (by omega), if_neg (by omega), if_neg (by omega), if_pos hk, j4]
 split
 ·rfl
 ·split
  ·rfl
  ·split <;> rfl
def jZ (f n : Nat) (l : List UInt8) (bad : Bool) : Option (Vl × List UInt8 × Nat) := if bad then none else yx f n l
theorem KJ {l : List UInt8} {x : Int} : mnum l true x = (0, [], true) := by
 unfold mnum
 rw [jl (.inl rfl)]
 split <;> rfl
theorem Xi (l : List UInt8) (bad : Bool) : (mnum l bad 1).1 < 256 := by
 rw [xV (by decide)]
 simp only
 unfold yT
 split
 ·simp [j6]
 ·have := kt (l.take (Int.toNat 1))
  have h1 : (l.take (Int.toNat 1)).length ≤ 1 := by rw [List.length_take]; exact Nat.min_le_left _ _
  simp only
  refine Nat.lt_of_lt_of_le this (Nat.le_trans (Nat.pow_le_pow_right (by omega) h1) (by decide))
theorem Jw {rd : Nat → List UInt8 → Option (Vl × List UInt8 × Nat)} {c n : Nat} {l : List UInt8} (h : (zR l false 1 255).2.2 = true) : xm rd true (c + 1) n l = none := by
 rw [xm, h]; rfl
theorem vK {rd : Nat → List UInt8 → Option (Vl × List UInt8 × Nat)} {m : Bool} {c n : Nat} {l : List UInt8} (h : rd n (if m then (zR l false 1 255).2.1 else l) = none) : xm rd m (c + 1) n l = none := by
 rw [xm, h]
 split <;> rfl
theorem vL {rd : Nat → List UInt8 → Option (Vl × List UInt8 × Nat)} {m : Bool} {c n : Nat} {l : List UInt8} {r : Vl × List UInt8 × Nat} (hb : m = true → (zR l false 1 255).2.2 = false) (h : rd n (if m then (zR l false 1 255).2.1 else l) = some r) :
  xm rd m (c + 1) n l = (xm rd m c r.2.2 r.2.1).map fun q => (if m then (zR l false 1 255).1 :: q.1 else q.1, r.1 :: q.2.1, q.2.2) := by
 rw [xm, h, if_neg (by cases m <;> simp [hb])]
 simp only
 split <;> rename_i h2
 ·rw [h2]; rfl
 ·rw [h2]; rfl
end Go.PH
end
section
namespace Go.PH
open Go.RowKit Go.Proofs
theorem KH (p q r : Addr) (w : World) :
  CallsD Tryz.prog 176 #[.pointer (some p), .pointer (some q), .pointer (some r)] .returning w fun e u' w' => e = .returned (.tuple #[]) ∧ u' = .returning ∧ w' = w := by
 refine callsD_of_wpS Tryz.func176 rfl fun c₀ cs hu => ?_
 apply wpS_seq
 apply wpS_region
 simp [wpOpsS, go_sem, recoverD, hu, Tryz.ntmps176, Exit.thenS]
 refine wpS_of_wp ?_
 have ht : (#[Value.pointer (some p), Value.pointer (some q), Value.pointer (some r)] ++ ((Array.replicate 15 undef).setIfInBounds 3 Value.nilIface).setIfInBounds 0 Value.nilIface) = #[.pointer (some p), .pointer (some q), .pointer (some r), Value.nilIface, undef, undef, Value.nilIface, undef, undef, undef, undef, undef, undef, undef, undef, undef, undef, undef] := by kernel_rfl
 rw [ht]
 clear ht
 go_wp2_with (with_reducible refine h_A ?_)
 cases c₀
 simp_all [bodyPostS, results, Tryz.results176]
theorem Yb (xT : TypeId) (w : World) : (Instr.typeAssert (.iface 251 (.agg #[])) xT 251 true).run Tryz.prog w = .ok (.tuple #[.agg #[], .bool true]) w := by
 simp [Instr.typeAssert, run_underlying Tryz.underlying251, go_sem, Result.andThen]
theorem vJ (p q r : Nat) (older : List PanicEntry) (w : World) (cv : Array Value) (cn ce : Value) (hp : Box w p 78 cv) (hcv : cv.size = 5) (hq : Box w q 3 #[cn]) (hr : Box w r 45 #[ce]) (hpq : p ≠ q) (hqr : q ≠ r) (hpr : p ≠ r) (B : Nat) (hBp : B ≤ p) (hBq : B ≤ q) (hBr : B ≤ r) :
  CallsD Tryz.prog 176 #[.pointer (some ⟨p, 0, none⟩), .pointer (some ⟨q, 0, none⟩), .pointer (some ⟨r, 0, none⟩)] (.panicking ({ v := .iface 251 (.agg #[]), recovered := false } :: older)) w fun e u' w' =>
   e = .returned (.tuple #[]) ∧ u' = .panicking ({ v := .iface 251 (.agg #[]), recovered := true } :: older) ∧ Box w' p 78 #[.int .u8 0, .int .u64 0, .string ⟨#[]⟩, .slice none 0 0, .slice none 0 0] ∧ Box w' q 3 #[.int .i64 0] ∧ Box w' r 45 #[.int .i64 5] ∧ Below B w w' := by
 have hta := Yb
 refine callsD_of_wpS Tryz.func176 rfl fun c₀ cs hu => ?_
 apply wpS_seq
 apply wpS_region
 simp [wpOpsS, go_sem, recoverD, hu, Tryz.ntmps176, Exit.thenS]
 refine wpS_of_wp ?_
 have ht : (#[Value.pointer (some ⟨p, 0, none⟩), Value.pointer (some ⟨q, 0, none⟩), Value.pointer (some ⟨r, 0, none⟩)] ++ ((Array.replicate 15 undef).setIfInBounds 3 (Value.iface 251 (.agg #[]))).setIfInBounds 0 (Value.iface 251 (.agg #[]))) = #[.pointer (some ⟨p, 0, none⟩), .pointer (some ⟨q, 0, none⟩), .pointer (some ⟨r, 0, none⟩), (Value.iface 251 (.agg #[])), undef, undef, (Value.iface 251 (.agg #[])), undef, undef, undef, undef, undef, undef, undef, undef, undef, undef, undef] := by kernel_rfl
 rw [ht]
 clear ht
 have hz := Box.new w #[] 251
 have hpw := hp.lt
 have hqw := hq.lt
 have hrw := hr.lt
 have hp1 := hp.alloc (.cells #[] 251)
 have hq1 := hq.alloc (.cells #[] 251)
 have hr1 := hr.alloc (.cells #[] 251)
 have hB1 := (Below.refl B w).alloc (by omega) (.cells #[] 251)
 have hdr : cv.toList.drop 5 = [] := List.drop_eq_nil_of_le (by simp; omega)
 go_wp2_with (with_reducible refine h_B ?_)
 refine zc (zm (v := .agg #[]) (vs := []) rfl rfl rfl rfl hz rfl (by kernel_rfl) (by simp) (by simp) #[] (by simp) ?_)
 intro w2 _ hg2 hs2
 have hp2 := hp1.grown hg2 (sne (by omega))
 have hq2 := hq1.grown hg2 (sne (by omega))
 have hr2 := hr1.grown hg2 (sne (by omega))
 have hB2 := hB1.grown hg2 (by have := hB1.size; omega) (fun g hg => by injection hg with hg; omega)
 clear hp1 hq1 hr1 hB1 hz hg2 hs2 hp hq hr
 go_wp2_with (with_reducible refine h_B ?_)
 refine zc (zm (v := .agg #[.int .u8 0, .int .u64 0, .string ⟨#[]⟩, .slice none 0 0, .slice none 0 0]) (vs := (#[.int .u8 0, .int .u64 0, .string ⟨#[]⟩, .slice none 0 0, .slice none 0 0]).toList) rfl rfl rfl rfl hp2 rfl (by kernel_rfl) (by simp; omega) (by intro u hu; simp at hu; rcases hu with rfl | rfl | rfl | rfl | rfl <;> rfl) #[.int .u8 0, .int .u64 0, .string ⟨#[]⟩, .slice none 0 0, .slice none 0 0] (by simp [hdr]) ?_)
 intro w3 hp3 hg3 _
 have hq3 := hq2.grown hg3 (sne (by omega))
 have hr3 := hr2.grown hg3 (sne (by omega))
 have hB3 := hB2.grown hg3 (by have := hB2.size; omega) (fun g hg => by injection hg with hg; omega)
 clear hp2 hq2 hr2 hg3
 go_wp2_with (with_reducible refine h_B ?_)
 refine zc (zm (v := .int .i64 0) (vs := [.int .i64 0]) rfl rfl rfl rfl hq3 rfl (by kernel_rfl) (by simp) (by simp; rfl) #[.int .i64 0] (by simp) ?_)
 intro w4 hq4 hg4 _
 have hp4 := hp3.grown hg4 (sne (by omega))
 have hr4 := hr3.grown hg4 (sne (by omega))
 have hB4 := hB3.grown hg4 (by have := hB3.size; omega) (fun g hg => by injection hg with hg; omega)
 clear hp3 hq3 hr3 hg4
 go_wp2_with (with_reducible refine h_B ?_)
 refine zc (zm (v := .int .i64 5) (vs := [.int .i64 5]) rfl rfl rfl rfl hr4 rfl (by kernel_rfl) (by simp) (by simp; rfl) #[.int .i64 5] (by simp) ?_)
 intro w5 hr5 hg5 _
 have hp5 := hp4.grown hg5 (sne (by omega))
 have hq5 := hq4.grown hg5 (sne (by omega))
 have hB5 := hB4.grown hg5 (by have := hB4.size; omega) (fun g hg => by injection hg with hg; omega)
 go_wp2_with (with_reducible refine h_A ?_)
 cases c₀
 simp_all [bodyPostS, results, Tryz.results176]
end Go.PH
end

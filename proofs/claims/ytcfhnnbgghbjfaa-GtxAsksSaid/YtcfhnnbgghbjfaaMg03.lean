/- Texts laid together: XdMath, XdBase, XdDig, XdSee, XdShelfC, XdCmp. -/
import Derived.Lib.Bytealg
import Derived.Deep.QuietTactic
import Derived.BigQuiet
import Derived.Shelf.Small.Strs
import Derived.Test.YtcfhnnbgghbjfaaProg
import Derived.Test.YtcfhnnbgghbjfaaMg01
import Derived.Test.YtcfhnnbgghbjfaaMg02
section
/- Names of transactions as plain mathematics. No program in sight. -/
set_option linter.all false
set_option linter.unusedSimpArgs false
set_option linter.unusedVariables false
namespace Go.PH

structure Xd where
  fmt : Nat
  glob : List UInt8
  bran : List UInt8
deriving DecidableEq
def Xd.wf (x : Xd) : Prop := x.fmt < 4294967296 ∧ x.glob.length ≤ 140737488351232 ∧ x.bran.length ≤ 140737488351232
def Xd.ok (x : Xd) : Bool := !x.glob.isEmpty && decide (x.glob.length ≤ 64) && decide (x.bran.length ≤ 64)
def Xd.err (x : Xd) : Nat := if x.ok then 0 else 40
theorem Xd.ok_iff (x : Xd) : x.ok = true ↔ 1 ≤ x.glob.length ∧ x.glob.length ≤ 64 ∧ x.bran.length ≤ 64 := by
  unfold Xd.ok
  have : x.glob.isEmpty = false ↔ 1 ≤ x.glob.length := by cases x.glob <;> simp
  simp [this, and_assoc]
/-- an order told by a number: below, the same, above -/
structure Ord3 {α : Type} (c : α → α → Int) : Prop where
  rng : ∀ a b, c a b = -1 ∨ c a b = 0 ∨ c a b = 1
  zero : ∀ a b, c a b = 0 ↔ a = b
  anti : ∀ a b, c b a = -c a b
  trans : ∀ a b d, c a b = -1 → c b d = -1 → c a d = -1
theorem Ord3.refl {α : Type} {c : α → α → Int} (h : Ord3 c) (a : α) : c a a = 0 := (h.zero a a).2 rfl
theorem Ord3.le {α : Type} {c : α → α → Int} (h : Ord3 c) (a b d : α) : (c a b ≤ 0 → c b d ≤ 0 → c a d ≤ 0) ∧ (c a b < 0 → c b d ≤ 0 → c a d < 0) := by
  have r1 := h.rng a b
  have r2 := h.rng b d
  have r3 := h.rng a d
  have t := h.trans a b d
  by_cases e1 : c a b = 0
  · have := (h.zero a b).1 e1; subst this; omega
  · by_cases e2 : c b d = 0
    · have := (h.zero b d).1 e2; subst this; omega
    · omega
def cmpN (a b : Nat) : Int := if a < b then -1 else if b < a then 1 else 0
theorem cmpN_ord : Ord3 cmpN where
  rng a b := by
    unfold cmpN
    repeat' split
    all_goals omega
  zero a b := by
    unfold cmpN
    split
    · simp; omega
    · split
      · simp; omega
      · simp; omega
  anti a b := by
    unfold cmpN
    repeat' split
    all_goals omega
  trans a b d := by
    unfold cmpN
    repeat' split
    all_goals omega
theorem cb_ord : Ord3 Lib.compareBytes where
  rng a := by
    induction a with
    | nil => intro b; cases b <;> simp [Lib.compareBytes]
    | cons x a ih =>
      intro b
      cases b with
      | nil => simp [Lib.compareBytes]
      | cons y b =>
        simp only [Lib.compareBytes]
        split
        · simp
        · split
          · simp
          · exact ih b
  zero a := by
    induction a with
    | nil => intro b; cases b <;> simp [Lib.compareBytes]
    | cons x a ih =>
      intro b
      cases b with
      | nil => simp [Lib.compareBytes]
      | cons y b =>
        simp only [Lib.compareBytes]
        split
        · rename_i h
          simp
          intro e; subst e; exact absurd h (UInt8.lt_irrefl _)
        · split
          · rename_i h
            simp
            intro e; subst e; exact absurd h (UInt8.lt_irrefl _)
          · rename_i h1 h2
            have e : x = y := UInt8.le_antisymm (UInt8.not_lt.1 h2) (UInt8.not_lt.1 h1)
            rw [ih b]
            simp [e]
  anti a := by
    induction a with
    | nil => intro b; cases b <;> simp [Lib.compareBytes]
    | cons x a ih =>
      intro b
      cases b with
      | nil => simp [Lib.compareBytes]
      | cons y b =>
        simp only [Lib.compareBytes]
        by_cases h1 : x < y
        · have h2 : ¬ y < x := UInt8.not_lt.2 (UInt8.le_of_lt h1)
          simp [h1, h2]
        · by_cases h2 : y < x
          · simp [h1, h2]
          · simp [h1, h2, ih b]
  trans a := by
    induction a with
    | nil =>
      intro b d
      cases b with
      | nil => simp [Lib.compareBytes]
      | cons y b => cases d <;> simp [Lib.compareBytes]
    | cons x a ih =>
      intro b d
      cases b with
      | nil => simp [Lib.compareBytes]
      | cons y b =>
        cases d with
        | nil => simp [Lib.compareBytes]
        | cons z d =>
          simp only [Lib.compareBytes]
          by_cases h1 : x < y
          · by_cases h2 : y < z
            · have h3 : x < z := UInt8.lt_trans h1 h2
              simp [h1, h2, h3]
            · by_cases h2' : z < y
              · simp [h1, h2, h2']
              · have e : y = z := UInt8.le_antisymm (UInt8.not_lt.1 h2') (UInt8.not_lt.1 h2)
                subst e
                simp [h1]
          · by_cases h1' : y < x
            · simp [h1, h1']
            · have e : x = y := UInt8.le_antisymm (UInt8.not_lt.1 h1') (UInt8.not_lt.1 h1)
              subst e
              by_cases h2 : x < z
              · simp [h2]
              · by_cases h2' : z < x
                · simp [h2, h2']
                · have e2 : x = z := UInt8.le_antisymm (UInt8.not_lt.1 h2') (UInt8.not_lt.1 h2)
                  subst e2
                  simp only [UInt8.lt_irrefl, if_false]
                  exact ih b d
def orI (a b : Int) : Int := if a = 0 then b else a
def Xd.cmp (a b : Xd) : Int := orI (cmpN a.fmt b.fmt) (orI (Lib.compareBytes a.glob b.glob) (Lib.compareBytes a.bran b.bran))
theorem xd_ord : Ord3 Xd.cmp where
  rng a b := by
    have h1 := cmpN_ord.rng a.fmt b.fmt
    have h2 := cb_ord.rng a.glob b.glob
    have h3 := cb_ord.rng a.bran b.bran
    unfold Xd.cmp orI
    repeat' split
    all_goals omega
  zero a b := by
    have h1 := cmpN_ord.zero a.fmt b.fmt
    have h2 := cb_ord.zero a.glob b.glob
    have h3 := cb_ord.zero a.bran b.bran
    obtain ⟨a1, a2, a3⟩ := a
    obtain ⟨b1, b2, b3⟩ := b
    simp only at h1 h2 h3
    simp only [Xd.cmp, orI, Xd.mk.injEq, ← h1, ← h2, ← h3]
    by_cases e1 : cmpN a1 b1 = 0
    · by_cases e2 : Lib.compareBytes a2 b2 = 0
      · simp [e1, e2]
      · simp [e1, e2]
    · simp [e1]
  anti a b := by
    have h1 := cmpN_ord.anti a.fmt b.fmt
    have h2 := cb_ord.anti a.glob b.glob
    have h3 := cb_ord.anti a.bran b.bran
    unfold Xd.cmp orI
    rw [h1, h2, h3]
    repeat' split
    all_goals omega
  trans a b d := by
    have r1 := cmpN_ord.rng a.fmt b.fmt
    have r2 := cmpN_ord.rng b.fmt d.fmt
    have r3 := cb_ord.rng a.glob b.glob
    have r4 := cb_ord.rng b.glob d.glob
    have z1 := cmpN_ord.zero a.fmt b.fmt
    have z2 := cmpN_ord.zero b.fmt d.fmt
    have z3 := cb_ord.zero a.glob b.glob
    have z4 := cb_ord.zero b.glob d.glob
    have t1 := cmpN_ord.trans a.fmt b.fmt d.fmt
    have t2 := cb_ord.trans a.glob b.glob d.glob
    have t3 := cb_ord.trans a.bran b.bran d.bran
    have f1 := cmpN_ord.refl a.fmt
    have f2 := cb_ord.refl a.glob
    unfold Xd.cmp orI
    intro h1 h2
    by_cases e1 : cmpN a.fmt b.fmt = 0
    · rw [if_pos e1] at h1
      have q1 := z1.1 e1
      rw [← q1] at h2 z2 r2
      by_cases e2 : cmpN a.fmt d.fmt = 0
      · rw [if_pos e2] at h2 ⊢
        by_cases e3 : Lib.compareBytes a.glob b.glob = 0
        · rw [if_pos e3] at h1
          have q3 := z3.1 e3
          rw [← q3] at h2
          by_cases e4 : Lib.compareBytes a.glob d.glob = 0
          · rw [if_pos e4] at h2 ⊢
            exact t3 h1 h2
          · rw [if_neg e4] at h2 ⊢
            exact h2
        · rw [if_neg e3] at h1
          by_cases e4 : Lib.compareBytes b.glob d.glob = 0
          · have q4 := z4.1 e4
            rw [← q4, if_neg e3]
            exact h1
          · rw [if_neg e4] at h2
            have := t2 h1 h2
            rw [if_neg (by omega)]
            exact this
      · rw [if_neg e2] at h2 ⊢
        exact h2
    · rw [if_neg e1] at h1
      by_cases e2 : cmpN b.fmt d.fmt = 0
      · have q2 := z2.1 e2
        rw [← q2, if_neg e1]
        exact h1
      · rw [if_neg e2] at h2
        have := t1 h1 h2
        rw [if_neg (by omega)]
        exact this
/-- 'less': the first bytes that part decide, else the lengths -/
theorem cb_less_at : ∀ {a b : List UInt8} {k : Nat} (ha : k < a.length) (hb : k < b.length), a.take k = b.take k → a[k] ≠ b[k] → decide (Lib.compareBytes a b = -1) = decide (a[k].toNat < b[k].toNat)
  | x :: a, y :: b, 0, _, _, _, h => by
    simp only [List.getElem_cons_zero] at h ⊢
    have hn : x.toNat ≠ y.toNat := fun q => h (UInt8.toNat_inj.1 q)
    by_cases h1 : x.toNat < y.toNat
    · have h1' : x < y := h1
      have : Lib.compareBytes (x :: a) (y :: b) = -1 := by simp [Lib.compareBytes, h1']
      rw [decide_eq_true this, decide_eq_true h1]
    · have h2' : y < x := by show y.toNat < x.toNat; omega
      have h1' : ¬ x < y := h1
      have : Lib.compareBytes (x :: a) (y :: b) = 1 := by simp [Lib.compareBytes, h1', h2']
      rw [this, decide_eq_false h1]
      rfl
  | x :: a, y :: b, k + 1, ha, hb, ht, h => by
    simp only [List.take_succ_cons, List.cons.injEq] at ht
    obtain ⟨rfl, ht⟩ := ht
    simp only [List.getElem_cons_succ] at h ⊢
    have := cb_less_at (by simpa using ha) (by simpa using hb) ht h
    rw [show Lib.compareBytes (x :: a) (x :: b) = Lib.compareBytes a b by simp [Lib.compareBytes]]
    exact this
theorem cb_less_end : ∀ {a b : List UInt8} {k : Nat}, a.take k = b.take k → (a.length ≤ k ∨ b.length ≤ k) → decide (Lib.compareBytes a b = -1) = decide (a.length < b.length)
  | [], [], _, _, _ => rfl
  | [], y :: b, _, _, _ => by simp [Lib.compareBytes]
  | x :: a, [], _, _, _ => by simp [Lib.compareBytes]
  | x :: a, y :: b, 0, _, h => by simp at h
  | x :: a, y :: b, k + 1, ht, h => by
    simp only [List.take_succ_cons, List.cons.injEq] at ht
    obtain ⟨rfl, ht⟩ := ht
    have := cb_less_end ht (by simpa using h)
    rw [show Lib.compareBytes (x :: a) (x :: b) = Lib.compareBytes a b by simp [Lib.compareBytes], this]
    simp
def lessB (a b : List UInt8) : Bool := decide (Lib.compareBytes a b = -1)
/-- the document's own way to compare -/
theorem xd_ref (a b : Xd) (h : a ≠ b) : Xd.cmp a b = if (if a.fmt ≠ b.fmt then decide (a.fmt < b.fmt) else if a.glob ≠ b.glob then lessB a.glob b.glob else lessB a.bran b.bran) = true then -1 else 1 := by
  have r1 := cmpN_ord.rng a.fmt b.fmt
  have z1 := cmpN_ord.zero a.fmt b.fmt
  have r2 := cb_ord.rng a.glob b.glob
  have z2 := cb_ord.zero a.glob b.glob
  have r3 := cb_ord.rng a.bran b.bran
  have z3 := cb_ord.zero a.bran b.bran
  unfold Xd.cmp orI
  by_cases e1 : a.fmt = b.fmt
  · rw [if_pos (z1.2 e1), if_neg (show ¬ (a.fmt ≠ b.fmt) by simpa using e1)]
    by_cases e2 : a.glob = b.glob
    · rw [if_pos (z2.2 e2), if_neg (show ¬ (a.glob ≠ b.glob) by simpa using e2)]
      have e3 : a.bran ≠ b.bran := by
        intro e3
        obtain ⟨a1, a2, a3⟩ := a
        obtain ⟨b1, b2, b3⟩ := b
        simp only at e1 e2 e3
        subst e1 e2 e3
        exact h rfl
      have : Lib.compareBytes a.bran b.bran ≠ 0 := fun q => e3 (z3.1 q)
      unfold lessB
      by_cases q : Lib.compareBytes a.bran b.bran = -1
      · simp [q]
      · simp only [q, decide_false, Bool.false_eq_true, if_false]; omega
    · have : Lib.compareBytes a.glob b.glob ≠ 0 := fun q => e2 (z2.1 q)
      rw [if_neg this, if_pos (show a.glob ≠ b.glob from e2)]
      unfold lessB
      by_cases q : Lib.compareBytes a.glob b.glob = -1
      · simp [q]
      · simp only [q, decide_false, Bool.false_eq_true, if_false]; omega
  · have : cmpN a.fmt b.fmt ≠ 0 := fun q => e1 (z1.1 q)
    rw [if_neg this, if_pos (show a.fmt ≠ b.fmt from e1)]
    unfold cmpN
    by_cases q : a.fmt < b.fmt
    · simp [q]
    · have : b.fmt < a.fmt := by omega
      simp [q, this]
end Go.PH
end
section
/- Names as values; the walks of Check, OneGlobal, and the compares. -/
set_option linter.all false
set_option linter.unusedSimpArgs false
set_option linter.unusedVariables false
namespace Go.PH
open Go.RowKit Go.Proofs

def xdV (x : Xd) : Array Value := #[.int .u32 (x.fmt : Int), .string (str x.glob), .string (str x.bran)]
set_option maxRecDepth 20000 in
theorem check_any (x : Xd) (w : World) (hw : x.wf) :
    Calls Try.prog 49 #[.agg (xdV x)] w fun e w' => e = .returned (.int .i64 x.err) ∧ Below w.heap.size w w' := by
  obtain ⟨f, g, h⟩ := x
  obtain ⟨h1, h2, h3⟩ := hw
  simp only at h1 h2 h3
  have hB : Below w.heap.size w (w.alloc (.cells #[.int .u32 (f : Int), .string (str g), .string (str h)] 24)) := (Below.refl _ _).alloc (Nat.le_refl _) _
  have hsg := str_size g
  have hsh := str_size h
  by_cases c1 : g = []
  · have hd1 : (str g).toList.isEmpty = true := by rw [c1, str_toList]; rfl
    have he : Xd.err ⟨f, g, h⟩ = 40 := by simp [Xd.err, Xd.ok, c1]
    rw [he]
    clear hsg hsh c1 he
    unfold xdV
    go_enter Try.func49, Try.ntmps49
    go_wp2_with (first | (with_reducible refine hold_append ?_) | (with_reducible refine hold_make ?_) | (with_reducible refine hold_copy ?_))
    go_ret
    exact ⟨rfl, hB⟩
  · have hd1 : (str g).toList.isEmpty = false := by rw [str_toList]; simpa using c1
    by_cases c2 : 64 < g.length
    · have hd2 : (64 : Int) < ((str g).size : Int) := by omega
      have he : Xd.err ⟨f, g, h⟩ = 40 := by simp [Xd.err, Xd.ok]; omega
      rw [he]
      clear hsg hsh c1 he
      unfold xdV
      go_enter Try.func49, Try.ntmps49
      go_wp2_with (first | (with_reducible refine hold_append ?_) | (with_reducible refine hold_make ?_) | (with_reducible refine hold_copy ?_))
      go_ret
      exact ⟨rfl, hB⟩
    · have hd2 : decide ((64 : Int) < ((str g).size : Int)) = false := by simp; omega
      by_cases c3 : 64 < h.length
      · have hd3 : (64 : Int) < ((str h).size : Int) := by omega
        have he : Xd.err ⟨f, g, h⟩ = 40 := by simp [Xd.err, Xd.ok]; omega
        rw [he]
        clear hsg hsh c1 he
        unfold xdV
        go_enter Try.func49, Try.ntmps49
        go_wp2_with (first | (with_reducible refine hold_append ?_) | (with_reducible refine hold_make ?_) | (with_reducible refine hold_copy ?_))
        go_ret
        exact ⟨rfl, hB⟩
      · have hd3 : ¬ (64 : Int) < ((str h).size : Int) := by omega
        have he : Xd.err ⟨f, g, h⟩ = 0 := by simp [Xd.err, Xd.ok]; exact ⟨c1, by omega, by omega⟩
        rw [he]
        clear hsg hsh c1 he
        unfold xdV
        go_enter Try.func49, Try.ntmps49
        go_wp2_with (first | (with_reducible refine hold_append ?_) | (with_reducible refine hold_make ?_) | (with_reducible refine hold_copy ?_))
        go_ret
        exact ⟨rfl, hB⟩
set_option maxRecDepth 20000 in
theorem rcheck_any (x : Xd) (w : World) (hw : x.wf) :
    Calls Try.prog 50 #[.agg (xdV x)] w fun e w' => e = .returned (.int .i64 x.err) ∧ Below w.heap.size w w' := by
  obtain ⟨f, g, h⟩ := x
  obtain ⟨h1, h2, h3⟩ := hw
  simp only at h1 h2 h3
  have hB : Below w.heap.size w (w.alloc (.cells #[.int .u32 (f : Int), .string (str g), .string (str h)] 24)) := (Below.refl _ _).alloc (Nat.le_refl _) _
  have hsg := str_size g
  have hsh := str_size h
  by_cases c1 : g = []
  · have hd1 : ((str g).size : Int) < 1 := by rw [hsg, c1]; decide
    have he : Xd.err ⟨f, g, h⟩ = 40 := by simp [Xd.err, Xd.ok, c1]
    rw [he]
    clear hsg hsh c1 he
    unfold xdV
    go_enter Try.func50, Try.ntmps50
    go_wp2_with (first | (with_reducible refine hold_append ?_) | (with_reducible refine hold_make ?_) | (with_reducible refine hold_copy ?_))
    go_ret
    exact ⟨rfl, hB⟩
  · have hgl : 0 < g.length := List.length_pos_iff.2 c1
    have hd1 : decide (((str g).size : Int) < 1) = false := by simp; omega
    by_cases c2 : 64 < g.length
    · have hd2 : (64 : Int) < ((str g).size : Int) := by omega
      have he : Xd.err ⟨f, g, h⟩ = 40 := by simp [Xd.err, Xd.ok]; omega
      rw [he]
      clear hsg hsh c1 he
      unfold xdV
      go_enter Try.func50, Try.ntmps50
      go_wp2_with (first | (with_reducible refine hold_append ?_) | (with_reducible refine hold_make ?_) | (with_reducible refine hold_copy ?_))
      go_ret
      exact ⟨rfl, hB⟩
    · have hd2 : decide ((64 : Int) < ((str g).size : Int)) = false := by simp; omega
      by_cases c3 : 64 < h.length
      · have hd3 : (64 : Int) < ((str h).size : Int) := by omega
        have he : Xd.err ⟨f, g, h⟩ = 40 := by simp [Xd.err, Xd.ok]; omega
        rw [he]
        clear hsg hsh c1 he
        unfold xdV
        go_enter Try.func50, Try.ntmps50
        go_wp2_with (first | (with_reducible refine hold_append ?_) | (with_reducible refine hold_make ?_) | (with_reducible refine hold_copy ?_))
        go_ret
        exact ⟨rfl, hB⟩
      · have hd3 : ¬ (64 : Int) < ((str h).size : Int) := by omega
        have he : Xd.err ⟨f, g, h⟩ = 0 := by simp [Xd.err, Xd.ok]; exact ⟨c1, by omega, by omega⟩
        rw [he]
        clear hsg hsh c1 he
        unfold xdV
        go_enter Try.func50, Try.ntmps50
        go_wp2_with (first | (with_reducible refine hold_append ?_) | (with_reducible refine hold_make ?_) | (with_reducible refine hold_copy ?_))
        go_ret
        exact ⟨rfl, hB⟩
/-! ### '==' of names -/
theorem xid_fields : Try.prog.underlying 24 = some (.struct (Try.prog.fieldsOf 24)) := by kernel_rfl
theorem xid_stood : Try.prog.stoodInHeld 24 = false := by kernel_rfl
theorem xid_guard : Try.prog.eqGuardType Try.prog.depth 24 = false := by kernel_rfl
theorem str_ne {a b : List UInt8} (h : ¬ a = b) : ((str a).toList == (str b).toList) = false := by rw [str_toList, str_toList]; simpa using h
theorem xid_equal (a b : Xd) (w : World) : (Op.equalIn 10000 24 (.agg (xdV a)) (.agg (xdV b))).run Try.prog w = .ok (decide (a = b)) w := by
  rw [run_equalIn_struct w 9999 24 _ _ xid_fields xid_stood]
  simp only [Program.fieldsOf, Try.underlying24]
  obtain ⟨f, g, hh⟩ := a
  obtain ⟨f', g', h'⟩ := b
  unfold xdV
  simp only [Xd.mk.injEq]
  by_cases h : (f : Int) = (f' : Int)
  · have e := Int.ofNat_inj.1 h
    subst e
    by_cases h : g = g'
    · subst h
      by_cases h : hh = h'
      · subst h
        simp [Op.eqFields, part, run_equalIn_int _ 9998 22 .u32 .u32 _ _ Try.underlying22, run_equalIn_string _ 9998 9 _ _ Try.underlying9, h, Result.andThen, typeInfo, sizeOf]
      · have h := str_ne h
        simp [Op.eqFields, part, run_equalIn_int _ 9998 22 .u32 .u32 _ _ Try.underlying22, run_equalIn_string _ 9998 9 _ _ Try.underlying9, h, Result.andThen, typeInfo, sizeOf]
        rw [str_toList, str_toList] at h
        simpa using h
    · have h := str_ne h
      simp [Op.eqFields, part, run_equalIn_int _ 9998 22 .u32 .u32 _ _ Try.underlying22, run_equalIn_string _ 9998 9 _ _ Try.underlying9, h, Result.andThen, typeInfo, sizeOf]
      rw [str_toList, str_toList] at h
      intro q
      simp [q] at h
  · simp [Op.eqFields, part, run_equalIn_int _ 9998 22 .u32 .u32 _ _ Try.underlying22, run_equalIn_string _ 9998 9 _ _ Try.underlying9, h, Result.andThen, typeInfo, sizeOf]
    omega
end Go.PH
end
section
/- The walk of the reference's Digits, and of strconv's FormatUint at base 10. -/
set_option linter.all false
set_option linter.unusedSimpArgs false
set_option linter.unusedVariables false
namespace Go.PH
open Go.RowKit Go.Proofs

/-- a number's digits -/
def digB (n : Nat) : List UInt8 := if h : 9 < n then digB (n / 10) ++ [UInt8.ofNat (48 + n % 10)] else [UInt8.ofNat (48 + n)]
termination_by n
decreasing_by omega
theorem digB_small {n : Nat} (h : ¬ 9 < n) : digB n = [UInt8.ofNat (48 + n)] := by rw [digB, dif_neg h]
theorem digB_big {n : Nat} (h : 9 < n) : digB n = digB (n / 10) ++ [UInt8.ofNat (48 + n % 10)] := by rw [digB, dif_pos h]
theorem digB_len : ∀ (k n : Nat), n < 10 ^ (k + 1) → (digB n).length ≤ k + 1
  | 0, n, h => by rw [digB_small (by omega)]; simp
  | k + 1, n, h => by
    by_cases h9 : 9 < n
    · rw [digB_big h9, List.length_append]
      have := digB_len k (n / 10) (by rw [Nat.pow_succ] at h; omega)
      simp; omega
    · rw [digB_small h9]; simp
theorem digB_ne (n : Nat) : digB n ≠ [] := by
  by_cases h9 : 9 < n
  · rw [digB_big h9]; simp
  · rw [digB_small h9]; simp
set_option maxRecDepth 20000 in
set_option maxHeartbeats 1000000 in
theorem digits_any (n : Nat) (w : World) (hn : n < 18446744073709551616) :
    Calls Try.prog 51 #[.int .u64 (n : Int)] w fun e w' => e = .returned (.string (str (digB n))) ∧ Below w.heap.size w w' := by
  go_enter Try.func51, Try.ntmps51
  go_wp2_with (first | (with_reducible refine hold_append ?_) | (with_reducible refine hold_make ?_) | (with_reducible refine hold_copy ?_))
  go_loopw [0, 3] (fun s v wr => ∃ (m : Nat) (l : List UInt8), s = .int .u64 (m : Int) ∧ v = .string (str l) ∧ m < 18446744073709551616 ∧ Hid (digB n = digB m ++ l) ∧ l.length ≤ 20 ∧ Below w.heap.size w wr) (fun s _ _ => (RowKit.intOf s).toNat)
  case atStart => exact ⟨n, [], rfl, rfl, hn, Lib.hid (by simp), by simp, Below.refl _ _⟩
  case round =>
    obtain ⟨m, l, rfl, rfl, hm, HD, hl, hB⟩ := hrel
    by_cases h9 : 9 < m
    · have d9 : (9 : Int) < (m : Int) := by omega
      obtain ⟨q, hq⟩ : ∃ q, q = m / 10 := ⟨_, rfl⟩
      obtain ⟨r, hr⟩ : ∃ r, r = m % 10 := ⟨_, rfl⟩
      have d1 : (m : Int) % 10 = (r : Int) := by omega
      have d1' : (m : Int).tmod 10 = (r : Int) := by rw [Int.tmod_eq_emod_of_nonneg (by omega)]; exact d1
      have d2 : (m : Int) / 10 = (q : Int) := by omega
      have d2' : (m : Int).tdiv 10 = (q : Int) := by rw [Int.tdiv_eq_ediv_of_nonneg (by omega)]; exact d2
      have w1 : IntKind.u64.wrap (r : Int) = (r : Int) := IntWalk.u64_in _ ⟨by omega, by omega⟩
      have w2 : IntKind.u64.wrap (q : Int) = (q : Int) := IntWalk.u64_in _ ⟨by omega, by omega⟩
      obtain ⟨s, hs⟩ : ∃ s, s = 48 + r := ⟨_, rfl⟩
      have w3 : IntKind.u64.wrap (48 + (r : Int)) = (s : Int) := by rw [IntWalk.u64_in _ ⟨by omega, by omega⟩]; omega
      obtain ⟨y, hy⟩ : ∃ y, y = UInt8.ofNat s := ⟨_, rfl⟩
      have w4 : IntKind.u8.wrap (s : Int) = (y.toNat : Int) := by rw [hy, UInt8.toNat_ofNat', IntWalk.u8_in _ ⟨by omega, by omega⟩]; omega
      have HD2 := Lib.hid (show digB n = digB q ++ (y :: l) by rw [HD.out, digB_big h9, ← hq, ← hr, ← hs, ← hy]; simp)
      have hqm : q < m := by omega
      clear hy hs hr hq
      have hl40 : l.length + 1 ≤ 20 := by
        have h1 := congrArg List.length HD2.out
        have h2 := digB_len 19 n (by omega)
        rw [List.length_append, List.length_cons] at h1
        omega
      have hsz : ¬ 9223372036854775807 < (str [y]).size + (str l).size := by rw [str_size, str_size]; simp; omega
      have hlit : RdB (wr.alloc (.cells #[.int .u8 (y.toNat : Int)] 5)) (wr.alloc (.cells #[.int .u8 (y.toNat : Int)] 5)).heap.size (some ⟨wr.heap.size, 0, none⟩) 1 1 [y] :=
        (own_lit (w := wr) wr.heap.size #[.int .u8 (y.toNat : Int)] 5 1 (Nat.le_refl _) (by simp [maxLen]) rfl (size := 1) (by omega)).rd
      have hst := run_strB hlit
      have hB2 : Below w.heap.size w (wr.alloc (.cells #[.int .u8 (y.toNat : Int)] 5)) := hB.alloc hB.size _
      go_wp2_with (first | (with_reducible refine hold_append ?_) | (with_reducible refine hold_make ?_) | (with_reducible refine hold_copy ?_))
      exact ⟨⟨q, y :: l, rfl, by rw [str_app]; rfl, by omega, HD2, by simpa using hl40, hB2⟩, by simp [RowKit.intOf]; omega⟩
    · have d9 : ¬ (9 : Int) < (m : Int) := by omega
      obtain ⟨s, hs⟩ : ∃ s, s = 48 + m := ⟨_, rfl⟩
      have w3 : IntKind.u64.wrap (48 + (m : Int)) = (s : Int) := by rw [IntWalk.u64_in _ ⟨by omega, by omega⟩]; omega
      obtain ⟨y, hy⟩ : ∃ y, y = UInt8.ofNat s := ⟨_, rfl⟩
      have w4 : IntKind.u8.wrap (s : Int) = (y.toNat : Int) := by rw [hy, UInt8.toNat_ofNat', IntWalk.u8_in _ ⟨by omega, by omega⟩]; omega
      have HD2 := Lib.hid (show digB n = y :: l by rw [HD.out, digB_small h9, ← hs, ← hy]; rfl)
      clear hy hs
      have hsz : ¬ 9223372036854775807 < (str [y]).size + (str l).size := by rw [str_size, str_size]; simp; omega
      have hlit : RdB (wr.alloc (.cells #[.int .u8 (y.toNat : Int)] 5)) (wr.alloc (.cells #[.int .u8 (y.toNat : Int)] 5)).heap.size (some ⟨wr.heap.size, 0, none⟩) 1 1 [y] :=
        (own_lit (w := wr) wr.heap.size #[.int .u8 (y.toNat : Int)] 5 1 (Nat.le_refl _) (by simp [maxLen]) rfl (size := 1) (by omega)).rd
      have hst := run_strB hlit
      have hB2 : Below w.heap.size w (wr.alloc (.cells #[.int .u8 (y.toNat : Int)] 5)) := hB.alloc hB.size _
      go_wp2_with (first | (with_reducible refine hold_append ?_) | (with_reducible refine hold_make ?_) | (with_reducible refine hold_copy ?_))
      go_ret
      rw [HD2.out, str_app]
      exact ⟨rfl, hB2⟩
end Go.PH
end
section
/- Reading names as the laws' arguments. -/
set_option linter.all false
set_option linter.unusedSimpArgs false
set_option linter.unusedVariables false
namespace Go.PH
open Go.RowKit Go.Proofs Go.ChangeShapes Go.WideShapes Go.ChangeAt Go.Deep
variable {H : Type} {enc : TypeId × Value → H} {W : World}

def xdC (x : Xd) : List Value := [.int .u32 (x.fmt : Int), .string (str x.glob), .string (str x.bran)]
def RXid (x : Xd) (cs : List Value) : Prop := cs = xdC x ∧ x.wf
theorem cells3x {cs : List Value} {a b c : Value} (hl : cs.length = 3) (h0 : (cs.drop 0).take 1 = [a]) (h1 : (cs.drop 1).take 1 = [b]) (h2 : (cs.drop 2).take 1 = [c]) : cs = [a, b, c] := by
  match cs, hl with
  | [x, y, z], _ => simp_all
set_option maxRecDepth 20000 in
theorem reader_xid : Reader enc Try.prog W 24 RXid := fun fuel cs d p h hw => by
  obtain ⟨hl, hf⟩ := trod_field Try.underlying24 h hw
  obtain ⟨n0, h0, w0⟩ := hf 0 _ rfl (reader_int (k := .u32) Try.underlying22)
  obtain ⟨l1, h1, w1⟩ := hf 1 _ rfl (reader_str Try.underlying9)
  obtain ⟨l2, h2, w2⟩ := hf 2 _ rfl (reader_str Try.underlying9)
  have b0 := bounds_u32 w0
  rw [(by kernel_rfl : Try.prog.cellsOf 24 = 3)] at hl
  have e0 : n0 = ((n0.toNat : Nat) : Int) := by omega
  rw [e0] at h0
  exact ⟨⟨n0.toNat, l1, l2⟩, cells3x hl h0 h1 h2, by show n0.toNat < 4294967296; omega, w1, w2⟩
set_option maxRecDepth 20000 in
theorem see_xid {d : DataW H} {ps : List MemPlace} {v : Value} {r : Reach} {b0 : Nat} (hval : Value.okWide Try.prog W r b0 24 v) (hd : DataW.Trod enc Try.prog W 0 (fun _ => true) true 24 v d ps)
    {ts : List TypeId} {ds : List (DataW H)} {j : Nat} (hz : (DataW.weightsEach Try.prog ts ds).all (· ≤ reachBytes) = true) (ht : ts[j]? = some 24) (hdj : ds[j]? = some d) :
    ∃ x : Xd, v = .agg (xdV x) ∧ x.wf := by
  obtain ⟨cs, rfl, _⟩ := okWide_struct Try.underlying24 hval
  obtain ⟨x, h1, h2⟩ := see_arg reader_xid hd hz ht hdj
  refine ⟨x, ?_, h2⟩
  simp only [Value.cells] at h1
  congr 1
  apply Array.ext'
  rw [h1]
  rfl
end Go.PH
end
section
/- The library's strings.Compare, its contract laid at this program in plain words. -/
set_option linter.all false
set_option linter.unusedSimpArgs false
set_option linter.unusedVariables false
namespace Go.Proofs
open Go.Shelf
def Try.lays106_ren : Go.Shelf.Ren := ⟨fun | 106 => 84 | 213 => 96 | 265 => 102 | n => n, fun | 9 => 9 | 3 => 3 | n => n, fun | n => n⟩
theorem Try.lays106 : Go.Proofs.Lays.n106 Try.prog Try.lays106_ren := {
  mixed := by kernel_rfl
  f106 := Try.func84.trans (congrArg some (by kernel_rfl))
  f213 := Try.func96.trans (congrArg some (by kernel_rfl))
  f265 := Try.func102.trans (congrArg some (by kernel_rfl))
  t3 := Try.underlying3
  a3 := Try.isAgg3
  z3 := Try.sizeOf3
  v3 := Try.zeroValue3
  t9 := Try.underlying9
  a9 := Try.isAgg9
  z9 := Try.sizeOf9
  v9 := Try.zeroValue9 }
open Go.RowKit in
theorem Try.strings_Compare (a b : ByteArray) (w : World) :
    Calls Try.prog 84 #[.string a, .string b] w fun e w' => e = .returned (.int .i64 (Lib.compareBytes a.data.toList b.data.toList)) ∧ w' = w := Any.strings_Compare Try.lays106 a b w
end Go.Proofs
end
section
/- The walks of the compares of names. -/
set_option linter.all false
set_option linter.unusedSimpArgs false
set_option linter.unusedVariables false
namespace Go.PH
open Go.RowKit Go.Proofs

set_option maxRecDepth 20000 in
theorem less_any (a b : List UInt8) (w : World) (ha : a.length ≤ 140737488351232) (hb : b.length ≤ 140737488351232) :
    Calls Try.prog 75 #[.string (str a), .string (str b)] w fun e w' => e = .returned (.bool (lessB a b)) ∧ Below w.heap.size w w' := by
  have hsa := str_size a
  have hsb := str_size b
  obtain ⟨n, hn⟩ : ∃ n, n = a.length := ⟨_, rfl⟩
  obtain ⟨m, hm⟩ : ∃ m, m = b.length := ⟨_, rfl⟩
  rw [← hn] at hsa ha
  rw [← hm] at hsb hb
  have HN := Lib.hid hn
  have HM := Lib.hid hm
  clear hn hm
  go_enter Try.func75, Try.ntmps75
  go_wp2_with (first | (with_reducible refine hold_append ?_) | (with_reducible refine hold_make ?_) | (with_reducible refine hold_copy ?_))
  go_loopw [5] (fun s wr => ∃ k : Nat, k ≤ n ∧ k ≤ m ∧ s = .int .i64 k ∧ Hid (a.take k = b.take k) ∧ Below w.heap.size w wr) (fun s _ => n - (RowKit.intOf s).toNat)
  case atStart => exact ⟨0, by omega, by omega, rfl, Lib.hid (by simp), Below.refl _ _⟩
  case round =>
    obtain ⟨k, hk, hkm, rfl, HT, hB⟩ := hrel
    by_cases hlt : k < n ∧ k < m
    · obtain ⟨h1, h2⟩ := hlt
      have d1 : (k : Int) < (n : Int) := by omega
      have d2 : (k : Int) < (m : Int) := by omega
      have e1 : k < a.length := by rw [← HN.out]; exact h1
      have e2 : k < b.length := by rw [← HM.out]; exact h2
      have HL := fun (h : a[k] ≠ b[k]) => cb_less_at e1 e2 HT.out h
      have HS := Lib.hid (List.take_succ_eq_append_getElem e1)
      have HS2 := Lib.hid (List.take_succ_eq_append_getElem e2)
      have hxa : (((str a)[k]'(by rw [hsa]; exact h1)).toNat : Int) = (a[k].toNat : Int) := rfl
      have hxb : (((str b)[k]'(by rw [hsb]; exact h2)).toNat : Int) = (b[k].toNat : Int) := rfl
      generalize a[k] = x at *
      generalize b[k] = y at *
      by_cases hxy : x = y
      · have hne : ((x.toNat : Int) != (y.toNat : Int)) = false := by simp [hxy]
        have HT2 : Hid (a.take (k + 1) = b.take (k + 1)) := Lib.hid (by rw [HS.out, HS2.out, HT.out, hxy])
        clear HL HS HS2 hxy
        go_wp2_with (first | (with_reducible refine hold_append ?_) | (with_reducible refine hold_make ?_) | (with_reducible refine hold_copy ?_))
        go_quiet (fail)
        go_wp2_with (first | (with_reducible refine hold_append ?_) | (with_reducible refine hold_make ?_) | (with_reducible refine hold_copy ?_))
        exact ⟨⟨k + 1, by omega, by omega, by go_num, HT2, below_drewN hB _⟩, by simp [RowKit.intOf]; omega⟩
      · have hn : x.toNat ≠ y.toNat := fun h => hxy (UInt8.toNat_inj.1 h)
        have hne : ((x.toNat : Int) != (y.toNat : Int)) = true := by simp; omega
        have HF := HL hxy
        have HF2 : Hid (lessB a b = decide (x.toNat < y.toNat)) := Lib.hid (by unfold lessB; rw [HF])
        clear HL HF HS HS2 hxy hn
        go_wp2_with (first | (with_reducible refine hold_append ?_) | (with_reducible refine hold_make ?_) | (with_reducible refine hold_copy ?_))
        go_quiet (fail)
        go_wp2_with (first | (with_reducible refine hold_append ?_) | (with_reducible refine hold_make ?_) | (with_reducible refine hold_copy ?_))
        go_quiet (fail)
        go_wp2_with (first | (with_reducible refine hold_append ?_) | (with_reducible refine hold_make ?_) | (with_reducible refine hold_copy ?_))
        go_ret
        rw [HF2.out]
        exact ⟨rfl, below_drewN (below_drewN hB _) _⟩
    · have HF : Hid (lessB a b = decide (n < m)) := Lib.hid (by
        unfold lessB
        rw [cb_less_end HT.out (by rw [← HN.out, ← HM.out]; omega), ← HN.out, ← HM.out])
      by_cases h1 : k < n
      · have d1 : (k : Int) < (n : Int) := by omega
        have d2 : ¬ (k : Int) < (m : Int) := by omega
        go_wp2_with (first | (with_reducible refine hold_append ?_) | (with_reducible refine hold_make ?_) | (with_reducible refine hold_copy ?_))
        go_ret
        rw [HF.out]
        exact ⟨rfl, hB⟩
      · have d1 : decide ((k : Int) < (n : Int)) = false := by simp; omega
        go_wp2_with (first | (with_reducible refine hold_append ?_) | (with_reducible refine hold_make ?_) | (with_reducible refine hold_copy ?_))
        go_ret
        rw [HF.out]
        exact ⟨rfl, hB⟩
/-! ### cmp -/
theorem isnan_any (x : Nat) (w : World) : Calls Try.prog 95 #[.int .u32 (x : Int)] w fun e w' => e = .returned (.bool false) ∧ w' = w := by
  have h : ((x : Int) != (x : Int)) = false := by simp
  go_enter Try.func95, Try.ntmps95
  go_wp2_with (first | (with_reducible refine hold_append ?_) | (with_reducible refine hold_make ?_) | (with_reducible refine hold_copy ?_))
  go_ret
  exact ⟨rfl, rfl⟩
theorem cmp_any (x y : Nat) (w : World) : Calls Try.prog 83 #[.int .u32 (x : Int), .int .u32 (y : Int)] w fun e w' => e = .returned (.int .i64 (cmpN x y)) ∧ w' = w := by
  have h1 := fun w => isnan_any x w
  have h2 := fun w => isnan_any y w
  by_cases c1 : x < y
  · have d : (x : Int) < (y : Int) := by omega
    have he : cmpN x y = -1 := by simp [cmpN, c1]
    rw [he]
    clear he
    go_enter Try.func83, Try.ntmps83
    go_wp2_with (first | (with_reducible refine hold_append ?_) | (with_reducible refine hold_make ?_) | (with_reducible refine hold_copy ?_))
    refine (h1 w).mono ?_
    rintro e w1 ⟨rfl, hw⟩
    subst w1
    go_wp2_with (first | (with_reducible refine hold_append ?_) | (with_reducible refine hold_make ?_) | (with_reducible refine hold_copy ?_))
    refine (h2 w).mono ?_
    rintro e w1 ⟨rfl, hw⟩
    subst w1
    go_wp2_with (first | (with_reducible refine hold_append ?_) | (with_reducible refine hold_make ?_) | (with_reducible refine hold_copy ?_))
    go_ret
    exact ⟨rfl, rfl⟩
  · by_cases c2 : y < x
    · have d : ¬ (x : Int) < (y : Int) := by omega
      have d2 : (y : Int) < (x : Int) := by omega
      have he : cmpN x y = 1 := by simp [cmpN, c1, c2]
      rw [he]
      clear he
      go_enter Try.func83, Try.ntmps83
      go_wp2_with (first | (with_reducible refine hold_append ?_) | (with_reducible refine hold_make ?_) | (with_reducible refine hold_copy ?_))
      refine (h1 w).mono ?_
      rintro e w1 ⟨rfl, hw⟩
      subst w1
      go_wp2_with (first | (with_reducible refine hold_append ?_) | (with_reducible refine hold_make ?_) | (with_reducible refine hold_copy ?_))
      refine (h2 w).mono ?_
      rintro e w1 ⟨rfl, hw⟩
      subst w1
      go_wp2_with (first | (with_reducible refine hold_append ?_) | (with_reducible refine hold_make ?_) | (with_reducible refine hold_copy ?_))
      go_ret
      exact ⟨rfl, rfl⟩
    · have d : ¬ (x : Int) < (y : Int) := by omega
      have d2 : ¬ (y : Int) < (x : Int) := by omega
      have he : cmpN x y = 0 := by simp [cmpN, c1, c2]
      rw [he]
      clear he
      go_enter Try.func83, Try.ntmps83
      go_wp2_with (first | (with_reducible refine hold_append ?_) | (with_reducible refine hold_make ?_) | (with_reducible refine hold_copy ?_))
      refine (h1 w).mono ?_
      rintro e w1 ⟨rfl, hw⟩
      subst w1
      go_wp2_with (first | (with_reducible refine hold_append ?_) | (with_reducible refine hold_make ?_) | (with_reducible refine hold_copy ?_))
      refine (h2 w).mono ?_
      rintro e w1 ⟨rfl, hw⟩
      subst w1
      go_wp2_with (first | (with_reducible refine hold_append ?_) | (with_reducible refine hold_make ?_) | (with_reducible refine hold_copy ?_))
      go_ret
      exact ⟨rfl, rfl⟩
set_option maxRecDepth 20000 in
theorem or_any (B : Nat) (A : Option Addr) (c : Nat) (x y z : Int) (w : World) (hr : Rd w B 1 A 3 c [.int .i64 x, .int .i64 y, .int .i64 z]) :
    Calls Try.prog 82 #[.slice A 3 c] w fun e w' => e = .returned (.int .i64 (orI x (orI y z))) ∧ w' = w := by
  obtain ⟨b, off, u, rfl, _, hx0, hc0⟩ := hr.at_k (k := 0) (by omega)
  obtain ⟨b1, off1, u1, e1, _, hx1, hc1⟩ := hr.at_k (k := 1) (by omega)
  obtain ⟨b2, off2, u2, e2, _, hx2, hc2⟩ := hr.at_k (k := 2) (by omega)
  cases e1
  cases e2
  simp only [List.getElem?_cons_zero, List.getElem?_cons_succ, Option.some.injEq] at hx0 hx1 hx2
  subst hx0 hx1 hx2
  simp only [Nat.add_zero] at hc0
  go_enter Try.func82, Try.ntmps82
  go_wp2_with (first | (with_reducible refine hold_append ?_) | (with_reducible refine hold_make ?_) | (with_reducible refine hold_copy ?_))
  go_loopw [8] (fun s wr => ∃ k : Nat, k ≤ 3 ∧ s = .int .i64 k ∧ (0 < k → x = 0) ∧ (1 < k → y = 0) ∧ (2 < k → z = 0) ∧ wr = w) (fun s _ => 3 - (RowKit.intOf s).toNat)
  case atStart => exact ⟨0, by omega, rfl, by omega, by omega, by omega, rfl⟩
  case round =>
    obtain ⟨k, hk, rfl, g0, g1, g2, hw⟩ := hrel
    subst wr
    obtain rfl | rfl | rfl | rfl : k = 0 ∨ k = 1 ∨ k = 2 ∨ k = 3 := by omega
    · by_cases q : x = 0
      · have hq : (x != 0) = false := by simp [q]
        have HQ := Lib.hid q
        clear q g0 g1 g2
        go_wp2_with (first | (with_reducible refine hold_append ?_) | (with_reducible refine hold_make ?_) | (with_reducible refine hold_copy ?_))
        exact ⟨⟨1, by omega, by first | rfl | go_num, fun _ => HQ.out, by omega, by omega, by first | rfl | trivial⟩, by simp [RowKit.intOf]⟩
      · have hq : (x != 0) = true := by simp [q]
        have HF := Lib.hid (show orI x (orI y z) = x by rw [orI, if_neg q])
        clear q g0 g1 g2
        go_wp2_with (first | (with_reducible refine hold_append ?_) | (with_reducible refine hold_make ?_) | (with_reducible refine hold_copy ?_))
        go_ret
        rw [HF.out]
        exact ⟨rfl, rfl⟩
    · have HX := Lib.hid (g0 (by omega))
      by_cases q : y = 0
      · have hq : (y != 0) = false := by simp [q]
        have HQ := Lib.hid q
        clear q g0 g1 g2
        go_wp2_with (first | (with_reducible refine hold_append ?_) | (with_reducible refine hold_make ?_) | (with_reducible refine hold_copy ?_))
        exact ⟨⟨2, by omega, by first | rfl | go_num, fun _ => HX.out, fun _ => HQ.out, by omega, by first | rfl | trivial⟩, by simp [RowKit.intOf]⟩
      · have hq : (y != 0) = true := by simp [q]
        have HF := Lib.hid (show orI x (orI y z) = y by rw [orI, if_pos HX.out, orI, if_neg q])
        clear q g0 g1 g2
        go_wp2_with (first | (with_reducible refine hold_append ?_) | (with_reducible refine hold_make ?_) | (with_reducible refine hold_copy ?_))
        go_ret
        rw [HF.out]
        exact ⟨rfl, rfl⟩
    · have HX := Lib.hid (g0 (by omega))
      have HY := Lib.hid (g1 (by omega))
      by_cases q : z = 0
      · have hq : (z != 0) = false := by simp [q]
        have HQ := Lib.hid q
        clear q g0 g1 g2
        go_wp2_with (first | (with_reducible refine hold_append ?_) | (with_reducible refine hold_make ?_) | (with_reducible refine hold_copy ?_))
        exact ⟨⟨3, by omega, by first | rfl | go_num, fun _ => HX.out, fun _ => HY.out, fun _ => HQ.out, by first | rfl | trivial⟩, by simp [RowKit.intOf]⟩
      · have hq : (z != 0) = true := by simp [q]
        have HF := Lib.hid (show orI x (orI y z) = z by rw [orI, if_pos HX.out, orI, if_pos HY.out])
        clear q g0 g1 g2
        go_wp2_with (first | (with_reducible refine hold_append ?_) | (with_reducible refine hold_make ?_) | (with_reducible refine hold_copy ?_))
        go_ret
        rw [HF.out]
        exact ⟨rfl, rfl⟩
    · have HX := Lib.hid (g0 (by omega))
      have HY := Lib.hid (g1 (by omega))
      have HZ := Lib.hid (g2 (by omega))
      have HF := Lib.hid (show orI x (orI y z) = 0 by rw [orI, if_pos HX.out, orI, if_pos HY.out, HZ.out])
      clear g0 g1 g2
      go_wp2_with (first | (with_reducible refine hold_append ?_) | (with_reducible refine hold_make ?_) | (with_reducible refine hold_copy ?_))
      go_ret
      rw [HF.out]
      exact ⟨rfl, rfl⟩
end Go.PH
end

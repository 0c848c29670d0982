/- Texts laid together: XdMath, XdEq. -/
import Derived.Lib.Bytealg
import Derived.Deep.QuietTactic
import Derived.BigQuiet
import Derived.Test.YtidpbbleneekgaaGreatDoorMg02
import Derived.Test.YtidpbbleneekgaaGreatDoorMg07
section
/- Names of transactions as plain mathematics. No program in sight. -/
set_option linter.all false
set_option linter.unusedSimpArgs false
set_option linter.unusedVariables false
namespace Go.PH

structure Xd where
  fmt : Nat
  glob : List UInt8
  bran : List UInt8
deriving DecidableEq
def Xd.wf (x : Xd) : Prop := x.fmt < 4294967296 ∧ x.glob.length ≤ 140737488351232 ∧ x.bran.length ≤ 140737488351232
def Xd.ok (x : Xd) : Bool := !x.glob.isEmpty && decide (x.glob.length ≤ 64) && decide (x.bran.length ≤ 64)
def Xd.err (x : Xd) : Nat := if x.ok then 0 else 40
theorem Xd.ok_iff (x : Xd) : x.ok = true ↔ 1 ≤ x.glob.length ∧ x.glob.length ≤ 64 ∧ x.bran.length ≤ 64 := by
  unfold Xd.ok
  have : x.glob.isEmpty = false ↔ 1 ≤ x.glob.length := by cases x.glob <;> simp
  simp [this, and_assoc]
/-- an order told by a number: below, the same, above -/
structure Ord3 {α : Type} (c : α → α → Int) : Prop where
  rng : ∀ a b, c a b = -1 ∨ c a b = 0 ∨ c a b = 1
  zero : ∀ a b, c a b = 0 ↔ a = b
  anti : ∀ a b, c b a = -c a b
  trans : ∀ a b d, c a b = -1 → c b d = -1 → c a d = -1
theorem Ord3.refl {α : Type} {c : α → α → Int} (h : Ord3 c) (a : α) : c a a = 0 := (h.zero a a).2 rfl
theorem Ord3.le {α : Type} {c : α → α → Int} (h : Ord3 c) (a b d : α) : (c a b ≤ 0 → c b d ≤ 0 → c a d ≤ 0) ∧ (c a b < 0 → c b d ≤ 0 → c a d < 0) := by
  have r1 := h.rng a b
  have r2 := h.rng b d
  have r3 := h.rng a d
  have t := h.trans a b d
  by_cases e1 : c a b = 0
  · have := (h.zero a b).1 e1; subst this; omega
  · by_cases e2 : c b d = 0
    · have := (h.zero b d).1 e2; subst this; omega
    · omega
def cmpN (a b : Nat) : Int := if a < b then -1 else if b < a then 1 else 0
theorem cmpN_ord : Ord3 cmpN where
  rng a b := by
    unfold cmpN
    repeat' split
    all_goals omega
  zero a b := by
    unfold cmpN
    split
    · simp; omega
    · split
      · simp; omega
      · simp; omega
  anti a b := by
    unfold cmpN
    repeat' split
    all_goals omega
  trans a b d := by
    unfold cmpN
    repeat' split
    all_goals omega
theorem cb_ord : Ord3 Lib.compareBytes where
  rng a := by
    induction a with
    | nil => intro b; cases b <;> simp [Lib.compareBytes]
    | cons x a ih =>
      intro b
      cases b with
      | nil => simp [Lib.compareBytes]
      | cons y b =>
        simp only [Lib.compareBytes]
        split
        · simp
        · split
          · simp
          · exact ih b
  zero a := by
    induction a with
    | nil => intro b; cases b <;> simp [Lib.compareBytes]
    | cons x a ih =>
      intro b
      cases b with
      | nil => simp [Lib.compareBytes]
      | cons y b =>
        simp only [Lib.compareBytes]
        split
        · rename_i h
          simp
          intro e; subst e; exact absurd h (UInt8.lt_irrefl _)
        · split
          · rename_i h
            simp
            intro e; subst e; exact absurd h (UInt8.lt_irrefl _)
          · rename_i h1 h2
            have e : x = y := UInt8.le_antisymm (UInt8.not_lt.1 h2) (UInt8.not_lt.1 h1)
            rw [ih b]
            simp [e]
  anti a := by
    induction a with
    | nil => intro b; cases b <;> simp [Lib.compareBytes]
    | cons x a ih =>
      intro b
      cases b with
      | nil => simp [Lib.compareBytes]
      | cons y b =>
        simp only [Lib.compareBytes]
        by_cases h1 : x < y
        · have h2 : ¬ y < x := UInt8.not_lt.2 (UInt8.le_of_lt h1)
          simp [h1, h2]
        · by_cases h2 : y < x
          · simp [h1, h2]
          · simp [h1, h2, ih b]
  trans a := by
    induction a with
    | nil =>
      intro b d
      cases b with
      | nil => simp [Lib.compareBytes]
      | cons y b => cases d <;> simp [Lib.compareBytes]
    | cons x a ih =>
      intro b d
      cases b with
      | nil => simp [Lib.compareBytes]
      | cons y b =>
        cases d with
        | nil => simp [Lib.compareBytes]
        | cons z d =>
          simp only [Lib.compareBytes]
          by_cases h1 : x < y
          · by_cases h2 : y < z
            · have h3 : x < z := UInt8.lt_trans h1 h2
              simp [h1, h2, h3]
            · by_cases h2' : z < y
              · simp [h1, h2, h2']
              · have e : y = z := UInt8.le_antisymm (UInt8.not_lt.1 h2') (UInt8.not_lt.1 h2)
                subst e
                simp [h1]
          · by_cases h1' : y < x
            · simp [h1, h1']
            · have e : x = y := UInt8.le_antisymm (UInt8.not_lt.1 h1') (UInt8.not_lt.1 h1)
              subst e
              by_cases h2 : x < z
              · simp [h2]
              · by_cases h2' : z < x
                · simp [h2, h2']
                · have e2 : x = z := UInt8.le_antisymm (UInt8.not_lt.1 h2') (UInt8.not_lt.1 h2)
                  subst e2
                  simp only [UInt8.lt_irrefl, if_false]
                  exact ih b d
def orI (a b : Int) : Int := if a = 0 then b else a
def Xd.cmp (a b : Xd) : Int := orI (cmpN a.fmt b.fmt) (orI (Lib.compareBytes a.glob b.glob) (Lib.compareBytes a.bran b.bran))
theorem xd_ord : Ord3 Xd.cmp where
  rng a b := by
    have h1 := cmpN_ord.rng a.fmt b.fmt
    have h2 := cb_ord.rng a.glob b.glob
    have h3 := cb_ord.rng a.bran b.bran
    unfold Xd.cmp orI
    repeat' split
    all_goals omega
  zero a b := by
    have h1 := cmpN_ord.zero a.fmt b.fmt
    have h2 := cb_ord.zero a.glob b.glob
    have h3 := cb_ord.zero a.bran b.bran
    obtain ⟨a1, a2, a3⟩ := a
    obtain ⟨b1, b2, b3⟩ := b
    simp only at h1 h2 h3
    simp only [Xd.cmp, orI, Xd.mk.injEq, ← h1, ← h2, ← h3]
    by_cases e1 : cmpN a1 b1 = 0
    · by_cases e2 : Lib.compareBytes a2 b2 = 0
      · simp [e1, e2]
      · simp [e1, e2]
    · simp [e1]
  anti a b := by
    have h1 := cmpN_ord.anti a.fmt b.fmt
    have h2 := cb_ord.anti a.glob b.glob
    have h3 := cb_ord.anti a.bran b.bran
    unfold Xd.cmp orI
    rw [h1, h2, h3]
    repeat' split
    all_goals omega
  trans a b d := by
    have r1 := cmpN_ord.rng a.fmt b.fmt
    have r2 := cmpN_ord.rng b.fmt d.fmt
    have r3 := cb_ord.rng a.glob b.glob
    have r4 := cb_ord.rng b.glob d.glob
    have z1 := cmpN_ord.zero a.fmt b.fmt
    have z2 := cmpN_ord.zero b.fmt d.fmt
    have z3 := cb_ord.zero a.glob b.glob
    have z4 := cb_ord.zero b.glob d.glob
    have t1 := cmpN_ord.trans a.fmt b.fmt d.fmt
    have t2 := cb_ord.trans a.glob b.glob d.glob
    have t3 := cb_ord.trans a.bran b.bran d.bran
    have f1 := cmpN_ord.refl a.fmt
    have f2 := cb_ord.refl a.glob
    unfold Xd.cmp orI
    intro h1 h2
    by_cases e1 : cmpN a.fmt b.fmt = 0
    · rw [if_pos e1] at h1
      have q1 := z1.1 e1
      rw [← q1] at h2 z2 r2
      by_cases e2 : cmpN a.fmt d.fmt = 0
      · rw [if_pos e2] at h2 ⊢
        by_cases e3 : Lib.compareBytes a.glob b.glob = 0
        · rw [if_pos e3] at h1
          have q3 := z3.1 e3
          rw [← q3] at h2
          by_cases e4 : Lib.compareBytes a.glob d.glob = 0
          · rw [if_pos e4] at h2 ⊢
            exact t3 h1 h2
          · rw [if_neg e4] at h2 ⊢
            exact h2
        · rw [if_neg e3] at h1
          by_cases e4 : Lib.compareBytes b.glob d.glob = 0
          · have q4 := z4.1 e4
            rw [← q4, if_neg e3]
            exact h1
          · rw [if_neg e4] at h2
            have := t2 h1 h2
            rw [if_neg (by omega)]
            exact this
      · rw [if_neg e2] at h2 ⊢
        exact h2
    · rw [if_neg e1] at h1
      by_cases e2 : cmpN b.fmt d.fmt = 0
      · have q2 := z2.1 e2
        rw [← q2, if_neg e1]
        exact h1
      · rw [if_neg e2] at h2
        have := t1 h1 h2
        rw [if_neg (by omega)]
        exact this
/-- 'less': the first bytes that part decide, else the lengths -/
theorem cb_less_at : ∀ {a b : List UInt8} {k : Nat} (ha : k < a.length) (hb : k < b.length), a.take k = b.take k → a[k] ≠ b[k] → decide (Lib.compareBytes a b = -1) = decide (a[k].toNat < b[k].toNat)
  | x :: a, y :: b, 0, _, _, _, h => by
    simp only [List.getElem_cons_zero] at h ⊢
    have hn : x.toNat ≠ y.toNat := fun q => h (UInt8.toNat_inj.1 q)
    by_cases h1 : x.toNat < y.toNat
    · have h1' : x < y := h1
      have : Lib.compareBytes (x :: a) (y :: b) = -1 := by simp [Lib.compareBytes, h1']
      rw [decide_eq_true this, decide_eq_true h1]
    · have h2' : y < x := by show y.toNat < x.toNat; omega
      have h1' : ¬ x < y := h1
      have : Lib.compareBytes (x :: a) (y :: b) = 1 := by simp [Lib.compareBytes, h1', h2']
      rw [this, decide_eq_false h1]
      rfl
  | x :: a, y :: b, k + 1, ha, hb, ht, h => by
    simp only [List.take_succ_cons, List.cons.injEq] at ht
    obtain ⟨rfl, ht⟩ := ht
    simp only [List.getElem_cons_succ] at h ⊢
    have := cb_less_at (by simpa using ha) (by simpa using hb) ht h
    rw [show Lib.compareBytes (x :: a) (x :: b) = Lib.compareBytes a b by simp [Lib.compareBytes]]
    exact this
theorem cb_less_end : ∀ {a b : List UInt8} {k : Nat}, a.take k = b.take k → (a.length ≤ k ∨ b.length ≤ k) → decide (Lib.compareBytes a b = -1) = decide (a.length < b.length)
  | [], [], _, _, _ => rfl
  | [], y :: b, _, _, _ => by simp [Lib.compareBytes]
  | x :: a, [], _, _, _ => by simp [Lib.compareBytes]
  | x :: a, y :: b, 0, _, h => by simp at h
  | x :: a, y :: b, k + 1, ht, h => by
    simp only [List.take_succ_cons, List.cons.injEq] at ht
    obtain ⟨rfl, ht⟩ := ht
    have := cb_less_end ht (by simpa using h)
    rw [show Lib.compareBytes (x :: a) (x :: b) = Lib.compareBytes a b by simp [Lib.compareBytes], this]
    simp
def lessB (a b : List UInt8) : Bool := decide (Lib.compareBytes a b = -1)
/-- the document's own way to compare -/
theorem xd_ref (a b : Xd) (h : a ≠ b) : Xd.cmp a b = if (if a.fmt ≠ b.fmt then decide (a.fmt < b.fmt) else if a.glob ≠ b.glob then lessB a.glob b.glob else lessB a.bran b.bran) = true then -1 else 1 := by
  have r1 := cmpN_ord.rng a.fmt b.fmt
  have z1 := cmpN_ord.zero a.fmt b.fmt
  have r2 := cb_ord.rng a.glob b.glob
  have z2 := cb_ord.zero a.glob b.glob
  have r3 := cb_ord.rng a.bran b.bran
  have z3 := cb_ord.zero a.bran b.bran
  unfold Xd.cmp orI
  by_cases e1 : a.fmt = b.fmt
  · rw [if_pos (z1.2 e1), if_neg (show ¬ (a.fmt ≠ b.fmt) by simpa using e1)]
    by_cases e2 : a.glob = b.glob
    · rw [if_pos (z2.2 e2), if_neg (show ¬ (a.glob ≠ b.glob) by simpa using e2)]
      have e3 : a.bran ≠ b.bran := by
        intro e3
        obtain ⟨a1, a2, a3⟩ := a
        obtain ⟨b1, b2, b3⟩ := b
        simp only at e1 e2 e3
        subst e1 e2 e3
        exact h rfl
      have : Lib.compareBytes a.bran b.bran ≠ 0 := fun q => e3 (z3.1 q)
      unfold lessB
      by_cases q : Lib.compareBytes a.bran b.bran = -1
      · simp [q]
      · simp only [q, decide_false, Bool.false_eq_true, if_false]; omega
    · have : Lib.compareBytes a.glob b.glob ≠ 0 := fun q => e2 (z2.1 q)
      rw [if_neg this, if_pos (show a.glob ≠ b.glob from e2)]
      unfold lessB
      by_cases q : Lib.compareBytes a.glob b.glob = -1
      · simp [q]
      · simp only [q, decide_false, Bool.false_eq_true, if_false]; omega
  · have : cmpN a.fmt b.fmt ≠ 0 := fun q => e1 (z1.1 q)
    rw [if_neg this, if_pos (show a.fmt ≠ b.fmt from e1)]
    unfold cmpN
    by_cases q : a.fmt < b.fmt
    · simp [q]
    · have : b.fmt < a.fmt := by omega
      simp [q, this]
end Go.PH
end
section
/- '==' of names. -/
set_option linter.all false
set_option linter.unusedSimpArgs false
set_option linter.unusedVariables false
namespace Go.PH
open Go.RowKit Go.Proofs

def xdV (x : Xd) : Array Value := #[.int .u32 (x.fmt : Int), .string (str x.glob), .string (str x.bran)]
/-! ### '==' of names -/
theorem xid_fields : Tryz.prog.underlying 44 = some (.struct (Tryz.prog.fieldsOf 44)) := by kernel_rfl
theorem xid_stood : Tryz.prog.stoodInHeld 44 = false := by kernel_rfl
theorem xid_guard : Tryz.prog.eqGuardType Tryz.prog.depth 44 = false := by kernel_rfl
theorem str_ne {a b : List UInt8} (h : ¬ a = b) : ((str a).toList == (str b).toList) = false := by rw [str_toList, str_toList]; simpa using h
theorem xid_equal (a b : Xd) (w : World) : (Op.equalIn 10000 44 (.agg (xdV a)) (.agg (xdV b))).run Tryz.prog w = .ok (decide (a = b)) w := by
  rw [run_equalIn_struct w 9999 44 _ _ xid_fields xid_stood]
  simp only [Program.fieldsOf, Tryz.underlying44]
  obtain ⟨f, g, hh⟩ := a
  obtain ⟨f', g', h'⟩ := b
  unfold xdV
  simp only [Xd.mk.injEq]
  by_cases h : (f : Int) = (f' : Int)
  · have e := Int.ofNat_inj.1 h
    subst e
    by_cases h : g = g'
    · subst h
      by_cases h : hh = h'
      · subst h
        simp [Op.eqFields, part, run_equalIn_int _ 9998 42 .u32 .u32 _ _ Tryz.underlying42, run_equalIn_string _ 9998 9 _ _ Tryz.underlying9, h, Result.andThen, typeInfo, sizeOf]
      · have h := str_ne h
        simp [Op.eqFields, part, run_equalIn_int _ 9998 42 .u32 .u32 _ _ Tryz.underlying42, run_equalIn_string _ 9998 9 _ _ Tryz.underlying9, h, Result.andThen, typeInfo, sizeOf]
        rw [str_toList, str_toList] at h
        simpa using h
    · have h := str_ne h
      simp [Op.eqFields, part, run_equalIn_int _ 9998 42 .u32 .u32 _ _ Tryz.underlying42, run_equalIn_string _ 9998 9 _ _ Tryz.underlying9, h, Result.andThen, typeInfo, sizeOf]
      rw [str_toList, str_toList] at h
      intro q
      simp [q] at h
  · simp [Op.eqFields, part, run_equalIn_int _ 9998 42 .u32 .u32 _ _ Tryz.underlying42, run_equalIn_string _ 9998 9 _ _ Tryz.underlying9, h, Result.andThen, typeInfo, sizeOf]
    omega
end Go.PH
end

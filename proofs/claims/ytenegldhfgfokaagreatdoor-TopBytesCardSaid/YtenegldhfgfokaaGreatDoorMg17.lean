/- Texts laid together: XdMath, XdEq. -/
import Derived.Lib.Bytealg
import Derived.Deep.QuietTactic
import Derived.BigQuiet
import Derived.Test.YtenegldhfgfokaaGreatDoorMg01
import Derived.Test.YtenegldhfgfokaaGreatDoorMg02
import Derived.Test.YtenegldhfgfokaaGreatDoorMg03
import Derived.Test.YtenegldhfgfokaaGreatDoorMg09
set_option linter.all false
set_option linter.unusedSimpArgs false
set_option linter.unusedVariables false
section
/- Names of transactions as plain mathematics. No program in sight. -/
namespace Go.PH

structure Xd where
 fmt : Nat
 glob : List UInt8
 bran : List UInt8
deriving DecidableEq
def Xd.wf (x : Xd) : Prop := x.fmt < 4294967296 ∧ x.glob.length ≤ 140737488351232 ∧ x.bran.length ≤ 140737488351232
def Xd.ok (x : Xd) : Bool := !x.glob.isEmpty && decide (x.glob.length ≤ 64) && decide (x.bran.length ≤ 64)
def Xd.err (x : Xd) : Nat := if x.ok then 0 else 40
theorem Xd.ok_iff (x : Xd) : x.ok = true ↔ 1 ≤ x.glob.length ∧ x.glob.length ≤ 64 ∧ x.bran.length ≤ 64 := by
 unfold Xd.ok
 have : x.glob.isEmpty = false ↔ 1 ≤ x.glob.length := by cases x.glob <;> simp
 simp [this, and_assoc]
/-- an order told by a number: below, the same, above -/
structure Ord3 {α : Type} (c : α → α → Int) : Prop where
 rng : ∀ a b, c a b = -1 ∨ c a b = 0 ∨ c a b = 1
 zero : ∀ a b, c a b = 0 ↔ a = b
 anti : ∀ a b, c b a = -c a b
 trans : ∀ a b d, c a b = -1 → c b d = -1 → c a d = -1
theorem Ord3.refl {α : Type} {c : α → α → Int} (h : Ord3 c) (a : α) : c a a = 0 := (h.zero a a).2 rfl
theorem Ord3.le {α : Type} {c : α → α → Int} (h : Ord3 c) (a b d : α) : (c a b ≤ 0 → c b d ≤ 0 → c a d ≤ 0) ∧ (c a b < 0 → c b d ≤ 0 → c a d < 0) := by
 have r1 := h.rng a b
 have r2 := h.rng b d
 have r3 := h.rng a d
 have t := h.trans a b d
 by_cases e1 : c a b = 0
 ·have := (h.zero a b).1 e1; subst this; omega
 ·by_cases e2 : c b d = 0
  ·have := (h.zero b d).1 e2; subst this; omega
  ·omega
end Go.PH
end
section
/- '==' of names. -/
namespace Go.PH
open Go.RowKit Go.Proofs

def xdV (x : Xd) : Array Value := #[.int .u32 (x.fmt : Int), .string (str x.glob), .string (str x.bran)]
/-! ### '==' of names -/
theorem xid_fields : Tryz.prog.underlying 58 = some (.struct (Tryz.prog.fieldsOf 58)) := by kernel_rfl
theorem xid_stood : Tryz.prog.stoodInHeld 58 = false := by kernel_rfl
theorem xid_guard : Tryz.prog.eqGuardType Tryz.prog.depth 58 = false := by kernel_rfl
theorem str_ne {a b : List UInt8} (h : ¬ a = b) : ((str a).toList == (str b).toList) = false := by rw [str_toList, str_toList]; simpa using h
theorem xid_equal (a b : Xd) (w : World) : (Op.equalIn 10000 58 (.agg (xdV a)) (.agg (xdV b))).run Tryz.prog w = .ok (decide (a = b)) w := by
 rw [run_equalIn_struct w 9999 58 _ _ xid_fields xid_stood]
 simp only [Program.fieldsOf, Tryz.underlying58]
 obtain ⟨f, g, hh⟩ := a
 obtain ⟨f', g', h'⟩ := b
 unfold xdV
 simp only [Xd.mk.injEq]
 by_cases h : (f : Int) = (f' : Int)
 ·have e := Int.ofNat_inj.1 h
  subst e
  by_cases h : g = g'
  ·subst h
   by_cases h : hh = h'
   ·subst h
    simp [Op.eqFields, part, run_equalIn_int _ 9998 56 .u32 .u32 _ _ Tryz.underlying56, run_equalIn_string _ 9998 9 _ _ Tryz.underlying9, h, Result.andThen, typeInfo, sizeOf]
   ·have h := str_ne h
    simp [Op.eqFields, part, run_equalIn_int _ 9998 56 .u32 .u32 _ _ Tryz.underlying56, run_equalIn_string _ 9998 9 _ _ Tryz.underlying9, h, Result.andThen, typeInfo, sizeOf]
    rw [str_toList, str_toList] at h
    simpa using h
  ·have h := str_ne h
   simp [Op.eqFields, part, run_equalIn_int _ 9998 56 .u32 .u32 _ _ Tryz.underlying56, run_equalIn_string _ 9998 9 _ _ Tryz.underlying9, h, Result.andThen, typeInfo, sizeOf]
   rw [str_toList, str_toList] at h
   intro q
   simp [q] at h
 ·simp [Op.eqFields, part, run_equalIn_int _ 9998 56 .u32 .u32 _ _ Tryz.underlying56, run_equalIn_string _ 9998 9 _ _ Tryz.underlying9, h, Result.andThen, typeInfo, sizeOf]
  omega
end Go.PH
end

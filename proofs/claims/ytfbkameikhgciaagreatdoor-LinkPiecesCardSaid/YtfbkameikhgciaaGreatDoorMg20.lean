/- Texts laid together: XdMath, XdEq. -/
import Derived.Lib.Bytealg
import Derived.Deep.QuietTactic
import Derived.BigQuiet
import Derived.Test.YtfbkameikhgciaaGreatDoorMg01
import Derived.Test.YtfbkameikhgciaaGreatDoorMg02
import Derived.Test.YtfbkameikhgciaaGreatDoorMg08
set_option linter.all false
set_option linter.unusedSimpArgs false
set_option linter.unusedVariables false
set_option maxRecDepth 20000
set_option maxHeartbeats 8000000
section
namespace Go.PH
structure Xd where
 fmt : Nat
 glob : List UInt8
 bran : List UInt8
deriving DecidableEq
def Xd.wf (x : Xd) : Prop := x.fmt < 4294967296 ∧ x.glob.length ≤ 140737488351232 ∧ x.bran.length ≤ 140737488351232
def Xd.ok (x : Xd) : Bool := !x.glob.isEmpty && decide (x.glob.length ≤ 64) && decide (x.bran.length ≤ 64)
def Xd.err (x : Xd) : Nat := if x.ok then 0 else 40
theorem Xd.ok_iff (x : Xd) : x.ok = true ↔ 1 ≤ x.glob.length ∧ x.glob.length ≤ 64 ∧ x.bran.length ≤ 64 := by
 unfold Xd.ok
 have : x.glob.isEmpty = false ↔ 1 ≤ x.glob.length := by cases x.glob <;> simp
 simp [this, and_assoc]
structure Ord3 {α : Type} (c : α → α → Int) : Prop where
 rng : ∀ a b, c a b = -1 ∨ c a b = 0 ∨ c a b = 1
 zero : ∀ a b, c a b = 0 ↔ a = b
 anti : ∀ a b, c b a = -c a b
 trans : ∀ a b d, c a b = -1 → c b d = -1 → c a d = -1
theorem Ord3.refl {α : Type} {c : α → α → Int} (h : Ord3 c) (a : α) : c a a = 0 := (h.zero a a).2 rfl
end Go.PH
end
section
namespace Go.PH
open Go.RowKit Go.Proofs
def xdV (x : Xd) : Array Value := #[.int .u32 (x.fmt : Int), .string (str x.glob), .string (str x.bran)]
theorem XF : Tryz.prog.underlying 73 = some (.struct (Tryz.prog.fieldsOf 73)) := by kernel_rfl
theorem QO : Tryz.prog.stoodInHeld 73 = false := by kernel_rfl
theorem QP : Tryz.prog.eqGuardType Tryz.prog.depth 73 = false := by kernel_rfl
theorem KZ {a b : List UInt8} (h : ¬ a = b) : ((str a).toList == (str b).toList) = false := by rw [zt, zt]; simpa using h
theorem QQ (a b : Xd) (w : World) : (Op.equalIn 10000 73 (.agg (xdV a)) (.agg (xdV b))).run Tryz.prog w = .ok (decide (a = b)) w := by
 rw [run_equalIn_struct w 9999 73 _ _ XF QO]
 simp only [Program.fieldsOf, Tryz.underlying73]
 obtain ⟨f, g, hh⟩ := a
 obtain ⟨f', g', h'⟩ := b
 unfold xdV
 simp only [Xd.mk.injEq]
 by_cases h : (f : Int) = (f' : Int)
 ·have e := Int.ofNat_inj.1 h
  subst e
  by_cases h : g = g'
  ·subst h
   by_cases h : hh = h'
   ·subst h
    simp [Op.eqFields, part, run_equalIn_int _ 9998 71 .u32 .u32 _ _ Tryz.underlying71, run_equalIn_string _ 9998 9 _ _ Tryz.underlying9, h, Result.andThen, typeInfo, sizeOf]
   ·have h := KZ h
    simp [Op.eqFields, part, run_equalIn_int _ 9998 71 .u32 .u32 _ _ Tryz.underlying71, run_equalIn_string _ 9998 9 _ _ Tryz.underlying9, h, Result.andThen, typeInfo, sizeOf]
    rw [zt, zt] at h
    simpa using h
  ·have h := KZ h
   simp [Op.eqFields, part, run_equalIn_int _ 9998 71 .u32 .u32 _ _ Tryz.underlying71, run_equalIn_string _ 9998 9 _ _ Tryz.underlying9, h, Result.andThen, typeInfo, sizeOf]
   rw [zt, zt] at h
   intro q
   simp [q] at h
 ·simp [Op.eqFields, part, run_equalIn_int _ 9998 71 .u32 .u32 _ _ Tryz.underlying71, run_equalIn_string _ 9998 9 _ _ Tryz.underlying9, h, Result.andThen, typeInfo, sizeOf]
  omega
end Go.PH
end

/- '==' of names. -/
import Derived.Test.YtidpbbleneekgaaDoorXdMath
import Derived.Test.YtidpbbleneekgaaDoorRec
import Derived.Test.YtidpbbleneekgaaDoorBox
import Derived.Test.YtidpbbleneekgaaDoorStr
import Derived.Test.YtidpbbleneekgaaDoorRegion2
import Derived.Test.YtidpbbleneekgaaDoorRow
import Derived.Deep.QuietTactic
import Derived.BigQuiet
set_option linter.all false
set_option linter.unusedSimpArgs false
set_option linter.unusedVariables false
namespace Go.PH
open Go.RowKit Go.Proofs

def xdV (x : Xd) : Array Value := #[.int .u32 (x.fmt : Int), .string (str x.glob), .string (str x.bran)]
/-! ### '==' of names -/
theorem xid_fields : Tryd.prog.underlying 49 = some (.struct (Tryd.prog.fieldsOf 49)) := by kernel_rfl
theorem xid_stood : Tryd.prog.stoodInHeld 49 = false := by kernel_rfl
theorem xid_guard : Tryd.prog.eqGuardType Tryd.prog.depth 49 = false := by kernel_rfl
theorem str_ne {a b : List UInt8} (h : ¬ a = b) : ((str a).toList == (str b).toList) = false := by rw [str_toList, str_toList]; simpa using h
theorem xid_equal (a b : Xd) (w : World) : (Op.equalIn 10000 49 (.agg (xdV a)) (.agg (xdV b))).run Tryd.prog w = .ok (decide (a = b)) w := by
  rw [run_equalIn_struct w 9999 49 _ _ xid_fields xid_stood]
  simp only [Program.fieldsOf, Tryd.underlying49]
  obtain ⟨f, g, hh⟩ := a
  obtain ⟨f', g', h'⟩ := b
  unfold xdV
  simp only [Xd.mk.injEq]
  by_cases h : (f : Int) = (f' : Int)
  · have e := Int.ofNat_inj.1 h
    subst e
    by_cases h : g = g'
    · subst h
      by_cases h : hh = h'
      · subst h
        simp [Op.eqFields, part, run_equalIn_int _ 9998 47 .u32 .u32 _ _ Tryd.underlying47, run_equalIn_string _ 9998 9 _ _ Tryd.underlying9, h, Result.andThen, typeInfo, sizeOf]
      · have h := str_ne h
        simp [Op.eqFields, part, run_equalIn_int _ 9998 47 .u32 .u32 _ _ Tryd.underlying47, run_equalIn_string _ 9998 9 _ _ Tryd.underlying9, h, Result.andThen, typeInfo, sizeOf]
        rw [str_toList, str_toList] at h
        simpa using h
    · have h := str_ne h
      simp [Op.eqFields, part, run_equalIn_int _ 9998 47 .u32 .u32 _ _ Tryd.underlying47, run_equalIn_string _ 9998 9 _ _ Tryd.underlying9, h, Result.andThen, typeInfo, sizeOf]
      rw [str_toList, str_toList] at h
      intro q
      simp [q] at h
  · simp [Op.eqFields, part, run_equalIn_int _ 9998 47 .u32 .u32 _ _ Tryd.underlying47, run_equalIn_string _ 9998 9 _ _ Tryd.underlying9, h, Result.andThen, typeInfo, sizeOf]
    omega
end Go.PH

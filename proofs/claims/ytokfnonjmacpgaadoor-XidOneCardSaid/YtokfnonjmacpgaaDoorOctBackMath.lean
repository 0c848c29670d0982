/- Items as bytes, and read again. No program in sight. -/
import Derived.Test.YtokfnonjmacpgaaDoorOctMath
set_option linter.all false
set_option linter.unusedSimpArgs false
set_option linter.unusedVariables false
namespace Go.PH

/-- an item's width -/
def wdt (y : Nat) : Nat := if y % 4 = 0 then 1 else if y % 4 = 1 then 2 else if y % 4 = 2 then 4 else 8
theorem wdt_cases (y : Nat) : wdt y = 1 ∨ wdt y = 2 ∨ wdt y = 4 ∨ wdt y = 8 := by unfold wdt; split <;> (try split) <;> (try split) <;> simp
theorem wdt_wide (y : Nat) : wideB (wdt y : Int) = true := wideB_yes (by have := wdt_cases y; omega)
/-- an item's bytes -/
def encI (t : Bool) (y n : Nat) (s : List UInt8) : List UInt8 :=
  if t = false then be (wdt y) n else if wdt y = 8 ∨ (wdt y = 1 ∧ 255 < s.length) then [] else be (wdt y) s.length ++ s
theorem encI_len (t : Bool) (y n : Nat) (s : List UInt8) : (encI t y n s).length ≤ 8 + s.length := by
  have := wdt_cases y
  unfold encI
  split
  · rw [be_length]; omega
  · split
    · simp
    · rw [List.length_append, be_length]; omega
theorem mtake_app (a b : List UInt8) : mtake (a ++ b) false (a.length : Int) = (a, b, false) := by
  rw [mtake_yes (by simp)]
  simp
theorem mnum_app (w : Nat) (hw : wideB (w : Int) = true) (n : Nat) (rest : List UInt8) : mnum (be w n ++ rest) false (w : Int) = (n % 256 ^ w, rest, false) := by
  have h := mtake_app (be w n) rest
  rw [be_length] at h
  rw [mnum_yes hw, h, unbe_be]
theorem mtext_app (w : Nat) (hw : w = 1 ∨ w = 2 ∨ w = 4) (s rest : List UInt8) (hs : s.length < 256 ^ w) : mtext (be w s.length ++ s ++ rest) false (w : Int) (s.length : Int) = (s, rest, false) := by
  rw [mtext_eq (by omega), List.append_assoc, mnum_app w (wideB_yes (by omega)) s.length (s ++ rest), Nat.mod_eq_of_lt hs]
  simp only
  rw [if_neg (by simp), mtake_app]
end Go.PH

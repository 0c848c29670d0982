/- Texts laid together: XdBase, XdPutMath, XdPut, XdGetM, XdPutR, XdSee. -/
import Derived.Deep.QuietTactic
import Derived.BigQuiet
import Derived.Test.YtfbkameikhgciaaGreatDoorMg01
import Derived.Test.YtfbkameikhgciaaGreatDoorMg02
import Derived.Test.YtfbkameikhgciaaGreatDoorMg03
import Derived.Test.YtfbkameikhgciaaGreatDoorMg08
import Derived.Test.YtfbkameikhgciaaGreatDoorMg10
import Derived.Test.YtfbkameikhgciaaGreatDoorMg11
import Derived.Test.YtfbkameikhgciaaGreatDoorMg17
set_option linter.all false
set_option linter.unusedSimpArgs false
set_option linter.unusedVariables false
section
/- Names as values; the walks of Check, OneGlobal, and the compares. -/
namespace Go.PH
open Go.RowKit Go.Proofs

end Go.PH
end
section
/- Names as bytes, and read again. No program in sight. -/
namespace Go.PH

def Xd.bytes (x : Xd) : List UInt8 := be 4 x.fmt ++ be 1 x.glob.length ++ x.glob ++ be 1 x.bran.length ++ x.bran
def Xd.put (x : Xd) : List UInt8 := if x.ok then x.bytes else []
theorem Xd.put_ok {x : Xd} (h : x.ok = true) : x.put = x.bytes := by unfold Xd.put; rw [if_pos h]
theorem Xd.put_no {x : Xd} (h : x.ok = false) : x.put = [] := by unfold Xd.put; rw [if_neg (by simp [h])]
theorem Xd.bytes_length (x : Xd) : x.bytes.length = 6 + x.glob.length + x.bran.length := by
 simp [Xd.bytes, be_length]; omega
def getT (l : List UInt8) (bad : Bool) : List UInt8 × List UInt8 × Bool := mtext l bad 1 255
def getX (l : List UInt8) : Xd × List UInt8 × Bool :=
 (⟨(mnum l false 4).1 % 4294967296, (getT (mnum l false 4).2.1 (mnum l false 4).2.2).1, (getT (getT (mnum l false 4).2.1 (mnum l false 4).2.2).2.1 (getT (mnum l false 4).2.1 (mnum l false 4).2.2).2.2).1⟩,
  (getT (getT (mnum l false 4).2.1 (mnum l false 4).2.2).2.1 (getT (mnum l false 4).2.1 (mnum l false 4).2.2).2.2).2)
/-- a text of at most 255 bytes read back -/
theorem getT_app {s rest : List UInt8} (h : s.length ≤ 64) : getT (be 1 s.length ++ s ++ rest) false = (s, rest, false) := by
 unfold getT
 have hn := mnum_app 1 (by decide) s.length (s ++ rest)
 rw [Nat.mod_eq_of_lt (by show s.length < 256; omega)] at hn
 have hn : mnum (be 1 s.length ++ (s ++ rest)) false 1 = (s.length, s ++ rest, false) := hn
 rw [mtext_eq (by omega), List.append_assoc, hn]
 simp only
 rw [if_neg (by simp; omega), mtake_app]
theorem getX_bytes {x : Xd} (hf : x.fmt < 4294967296) (hk : x.ok = true) (rest : List UInt8) : getX (x.bytes ++ rest) = (x, rest, false) := by
 obtain ⟨h1, h2, h3⟩ := (Xd.ok_iff x).1 hk
 have e : x.bytes ++ rest = be 4 x.fmt ++ (be 1 x.glob.length ++ x.glob ++ (be 1 x.bran.length ++ x.bran ++ rest)) := by simp [Xd.bytes]
 have hn : mnum (x.bytes ++ rest) false 4 = (x.fmt, be 1 x.glob.length ++ x.glob ++ (be 1 x.bran.length ++ x.bran ++ rest), false) := by
  rw [e]
  have := mnum_app 4 (by decide) x.fmt (be 1 x.glob.length ++ x.glob ++ (be 1 x.bran.length ++ x.bran ++ rest))
  rw [Nat.mod_eq_of_lt (by show x.fmt < 256 ^ 4; omega)] at this
  exact this
 unfold getX
 rw [hn]
 simp only
 rw [getT_app h2]
 simp only
 rw [getT_app h3, Nat.mod_eq_of_lt hf]
end Go.PH
end
section
/- The walks of names' Put and of the document's. -/
namespace Go.PH
open Go.RowKit Go.Proofs

end Go.PH
end
section
/- The walk of names' Get. -/
namespace Go.PH
open Go.RowKit Go.Proofs

end Go.PH
end
section
/- The walk of Put of names, the document's. -/
namespace Go.PH
open Go.RowKit Go.Proofs

end Go.PH
end
section
/- Reading names as the laws' arguments. -/
namespace Go.PH
open Go.RowKit Go.Proofs Go.ChangeShapes Go.WideShapes Go.ChangeAt Go.Deep
variable {H : Type} {enc : TypeId × Value → H} {W : World}

end Go.PH
end

/- Slices of bytes; bytes turned into a text. -/
import Derived.Test.YtidpbbleneekgaaDoorRows
import Derived.Test.YtidpbbleneekgaaDoorMem
set_option linter.all false
set_option linter.unusedSimpArgs false
set_option linter.unusedVariables false
namespace Go.PH
open Go.RowKit Go.Proofs
theorem slB : SlT Tryd.prog 25 5 1 1 (.int .u8 0) := SlT.mk' Tryd.underlying25 (by kernel_rfl) rfl (by omega)
theorem run_strB {w : World} {B n c : Nat} {A : Option Addr} {l : List UInt8} (hr : RdB w B A n c l) : (convert 25 9 (.slice A n c)).run Tryd.prog w = .ok (.string (str l)) w :=
  run_str Tryd.underlying25 Tryd.underlying9 Tryd.underlying5 hr
end Go.PH

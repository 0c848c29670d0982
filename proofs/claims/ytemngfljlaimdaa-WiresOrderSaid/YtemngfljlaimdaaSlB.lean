/- Slices of bytes; bytes turned into a text. -/
import Derived.Test.YtemngfljlaimdaaRows
import Derived.Test.YtemngfljlaimdaaMem
set_option linter.all false
set_option linter.unusedSimpArgs false
set_option linter.unusedVariables false
namespace Go.PH
open Go.RowKit Go.Proofs
theorem slB : SlT Try.prog 29 5 1 1 (.int .u8 0) := SlT.mk' Try.underlying29 (by kernel_rfl) rfl (by omega)
theorem run_strB {w : World} {B n c : Nat} {A : Option Addr} {l : List UInt8} (hr : RdB w B A n c l) : (convert 29 9 (.slice A n c)).run Try.prog w = .ok (.string (str l)) w :=
  run_str Try.underlying29 Try.underlying9 Try.underlying5 hr
end Go.PH

/- Slices of bytes; bytes turned into a text. -/
import Derived.Test.YtjlfjlafpgjhbaaRows
import Derived.Test.YtjlfjlafpgjhbaaMem
namespace Go.PH
open Go.RowKit Go.Proofs
theorem slB : SlT Try.prog 41 5 1 1 (.int .u8 0) := SlT.mk' Try.underlying41 (by kernel_rfl) rfl (by omega)
theorem run_strB {w : World} {B n c : Nat} {A : Option Addr} {l : List UInt8} (hr : RdB w B A n c l) : (convert 41 9 (.slice A n c)).run Try.prog w = .ok (.string (str l)) w :=
  run_str Try.underlying41 Try.underlying9 Try.underlying5 hr
end Go.PH

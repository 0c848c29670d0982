/- The listed variables of methods: what the row's list gives, and a world for the witness. -/
import Derived.Test.YtidpbbleneekgaaDoorMdFind
import Derived.Test.YtidpbbleneekgaaDoorRow
import Derived.Test.YtidpbbleneekgaaDoorCards
import Derived.Test.YtidpbbleneekgaaDoorTie
import Derived.Lib.LaidTab
set_option linter.all false
set_option linter.unusedSimpArgs false
set_option linter.unusedVariables false
namespace Go.Proofs.YtidpbbleneekgaaDoor
open Go.PH Go.RowKit Go.ChangeShapes Go.WideShapes Go.ChangeAt

theorem own : ownKnob Tryd.prog.godebug = none := by kernel_rfl
theorem laidOut : laidOutB Tryd.prog = true := by kernel_rfl
def utfList : List (String × DataW Unit) := [("unicode/utf8.acceptRanges", Rows.laid_unicode_utf8_acceptRanges), ("unicode/utf8.first", Rows.laid_unicode_utf8_first)]
theorem env {W : World} (h : laidMetH Tryd.prog utfList W) (hsh : W.ShapedOpen Tryd.prog) : MEnv W := ⟨Tryd.laysM146.s1_3 W hsh⟩
/-! A world for the witness: each listed variable as its initialiser lays it. -/
def u8s (l : List Nat) : Array Value := (l.map fun (n : Nat) => Value.int .u8 (n : Int)).toArray
def accN : List Nat := [128, 191, 160, 191, 128, 159, 144, 191, 128, 143, 0, 0, 0, 0, 0, 0, 0, 0, 0, 0, 0, 0, 0, 0, 0, 0, 0, 0, 0, 0, 0, 0]
def withCells (h : Array Obj) (g : Nat) (cs : Array Value) : Array Obj := h.modify g fun
  | .cells _ t frozen => .cells cs t frozen
  | o => o
noncomputable def wit (os : Os) : World :=
  let w0 := World.holding Tryd.prog os ⟨#[], #[], []⟩
  { w0 with heap := withCells (withCells w0.heap 2 (u8s accN)) 1 (u8s Go.Pinned.utf8FirstZ) }
theorem utf_met (os : Os) (args : Array Value) : laidMet Tryd.prog utfList ((wit os).forCall (fun _ _ => 0) ⟨#[], args, []⟩).memory :=
  laidMet_of_run' 8 (by kernel_rfl) (by kernel_rfl)
end Go.Proofs.YtidpbbleneekgaaDoor

/-
  DERIVED. GIVEN WITH THE SEED: THE CARDS: each row of YtidpbbleneekgaaGreatDoorRows.lean that lists a variable, with what it lists TIED to the program's text (the seventh form; the later family's looks); each row that meets fmt, with fmt's text TOLD by the authors' own Lean function (tested against real Go, not proved from fmt's source: count such statements apart). THE CARD IS WHAT COUNTS. Prove the row's statement (the work); the ties are given (YtidpbbleneekgaaGreatDoorTie.lean); close each card by the builder's one call (the guide's Derived/Test/ToyasCard.lean, 'card_holds'). Laid BY PROGRAM, IN A SANDBOX (cutbox-door.mjs). By AI agents, Wed Nov 11 2026. No macro, syntax, notation, axiom, sorry.
-/
import Derived.Test.YtidpbbleneekgaaGreatDoorRows
import GoSem.ClaimSeven
namespace Go.Proofs.YtidpbbleneekgaaGreatDoor
namespace Rows

/-- THE TIED CARD OF 'posthouselaw08.MethodGets'. -/
def methodGetsCard : Claim7 := { stood := { row := methodGetsRow, standIns := [], harness := (true, "67fa4c79566fb2f4f58267712debe6e659393058be18bb245fe41f26f6b63ce9"), looks := true }, kinds := [], alts := [], laidByText := true, laidKinds := [.data, .pinned], laidTests := true, laidLooks := .later }
def MethodGetsCardSaid : Prop := Claim7.holds Tryz.pinned (.plain (OpenSpec.ofChange methodGetsSpec)) methodGetsCard

/-- THE TIED CARD OF 'posthouselaw08.MethodSame'. -/
def methodSameCard : Claim7 := { stood := { row := methodSameRow, standIns := [], harness := (true, "67fa4c79566fb2f4f58267712debe6e659393058be18bb245fe41f26f6b63ce9"), looks := true }, kinds := [], alts := [], laidByText := true, laidKinds := [.data, .pinned], laidTests := true, laidLooks := .later }
def MethodSameCardSaid : Prop := Claim7.holds Tryz.pinned (.plain (OpenSpec.ofChange methodSameSpec)) methodSameCard

/-- THE TIED CARD OF 'posthouselaw08.MethodPuts'. -/
def methodPutsCard : Claim7 := { stood := { row := methodPutsRow, standIns := [], harness := (true, "67fa4c79566fb2f4f58267712debe6e659393058be18bb245fe41f26f6b63ce9"), looks := true }, kinds := [], alts := [], laidByText := true, laidKinds := [.data, .pinned], laidTests := true, laidLooks := .later }
def MethodPutsCardSaid : Prop := Claim7.holds Tryz.pinned (.plain (OpenSpec.ofChange methodPutsSpec)) methodPutsCard

/-- THE SECOND FORM's CARD OF 'posthouselaw08.MethodGets'. -/
def methodGetsUptoCard : Claim7 := { stood := { row := methodGetsUptoRow, standIns := [], harness := (true, "67fa4c79566fb2f4f58267712debe6e659393058be18bb245fe41f26f6b63ce9"), looks := true }, kinds := [], alts := [], laidByText := true, laidKinds := [.data, .pinned], laidTests := true, laidLooks := .later }
def MethodGetsUptoCardSaid : Prop := Claim7.holds Tryz.pinned (.plain (OpenSpec.upto methodGetsSpec)) methodGetsUptoCard

/-- THE SECOND FORM's CARD OF 'posthouselaw08.MethodSame'. -/
def methodSameUptoCard : Claim7 := { stood := { row := methodSameUptoRow, standIns := [], harness := (true, "67fa4c79566fb2f4f58267712debe6e659393058be18bb245fe41f26f6b63ce9"), looks := true }, kinds := [], alts := [], laidByText := true, laidKinds := [.data, .pinned], laidTests := true, laidLooks := .later }
def MethodSameUptoCardSaid : Prop := Claim7.holds Tryz.pinned (.plain (OpenSpec.upto methodSameSpec)) methodSameUptoCard

/-- THE SECOND FORM's CARD OF 'posthouselaw08.MethodPuts'. -/
def methodPutsUptoCard : Claim7 := { stood := { row := methodPutsUptoRow, standIns := [], harness := (true, "67fa4c79566fb2f4f58267712debe6e659393058be18bb245fe41f26f6b63ce9"), looks := true }, kinds := [], alts := [], laidByText := true, laidKinds := [.data, .pinned], laidTests := true, laidLooks := .later }
def MethodPutsUptoCardSaid : Prop := Claim7.holds Tryz.pinned (.plain (OpenSpec.upto methodPutsSpec)) methodPutsUptoCard
end Rows
end Go.Proofs.YtidpbbleneekgaaGreatDoor

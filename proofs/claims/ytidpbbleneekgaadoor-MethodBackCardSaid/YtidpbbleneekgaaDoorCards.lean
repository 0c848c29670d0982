/-
  DERIVED. GIVEN WITH THE SEED: THE CARDS: each row of YtidpbbleneekgaaDoorRows.lean that lists a variable, with what it lists TIED to the program's text (the seventh form; the later family's looks); each row that meets fmt, with fmt's text TOLD by the authors' own Lean function (tested against real Go, not proved from fmt's source: count such statements apart). THE CARD IS WHAT COUNTS. Prove the row's statement (the work); the ties are given (YtidpbbleneekgaaDoorTie.lean); close each card by the builder's one call (the guide's Derived/Test/ToyasCard.lean, 'card_holds'). Laid BY PROGRAM, IN A SANDBOX (cutbox-door.mjs). By AI agents, Wed Nov 11 2026. No macro, syntax, notation, axiom, sorry.
-/
import Derived.Test.YtidpbbleneekgaaDoorRows
import GoSem.ClaimSeven
namespace Go.Proofs.YtidpbbleneekgaaDoor
namespace Rows

/-- THE TIED CARD OF 'posthouselaw08.MethodBack'. -/
def methodBackCard : Claim7 := { stood := { row := methodBackRow, standIns := [], harness := (true, "5f91dc7b3bd95f6137ef6b545fb233481887cdc36413d33f59c01a4128b618ab"), looks := true }, kinds := [], alts := [], laidByText := true, laidKinds := [.data, .pinned], laidTests := true, laidLooks := .later }
def MethodBackCardSaid : Prop := Claim7.holds Tryd.pinned (.plain (OpenSpec.ofChange methodBackSpec)) methodBackCard

/-- THE TIED CARD OF 'posthouselaw08.MethodOne'. -/
def methodOneCard : Claim7 := { stood := { row := methodOneRow, standIns := [], harness := (true, "5f91dc7b3bd95f6137ef6b545fb233481887cdc36413d33f59c01a4128b618ab"), looks := true }, kinds := [], alts := [], laidByText := true, laidKinds := [.data, .pinned], laidTests := true, laidLooks := .later }
def MethodOneCardSaid : Prop := Claim7.holds Tryd.pinned (.plain (OpenSpec.ofChange methodOneSpec)) methodOneCard

/-- THE TIED CARD OF 'posthouselaw08.MethodTable'. -/
def methodTableCard : Claim7 := { stood := { row := methodTableRow, standIns := [], harness := (true, "5f91dc7b3bd95f6137ef6b545fb233481887cdc36413d33f59c01a4128b618ab"), looks := true }, kinds := [], alts := [], laidByText := true, laidKinds := [.data, .pinned], laidTests := true, laidLooks := .later }
def MethodTableCardSaid : Prop := Claim7.holds Tryd.pinned (.plain (OpenSpec.ofChange methodTableSpec)) methodTableCard

/-- THE TIED CARD OF 'posthouselaw08.MethodNamed'. -/
def methodNamedCard : Claim7 := { stood := { row := methodNamedRow, standIns := [], harness := (true, "5f91dc7b3bd95f6137ef6b545fb233481887cdc36413d33f59c01a4128b618ab"), looks := true }, kinds := [], alts := [], laidByText := true, laidKinds := [.data, .pinned], laidTests := true, laidLooks := .later }
def MethodNamedCardSaid : Prop := Claim7.holds Tryd.pinned (.plain (OpenSpec.ofChange methodNamedSpec)) methodNamedCard

/-- THE TIED CARD OF 'posthouselaw08.MethodLeads'. -/
def methodLeadsCard : Claim7 := { stood := { row := methodLeadsRow, standIns := [], harness := (true, "5f91dc7b3bd95f6137ef6b545fb233481887cdc36413d33f59c01a4128b618ab"), looks := true }, kinds := [], alts := [], laidByText := true, laidKinds := [.data, .pinned], laidTests := true, laidLooks := .later }
def MethodLeadsCardSaid : Prop := Claim7.holds Tryd.pinned (.plain (OpenSpec.ofChange methodLeadsSpec)) methodLeadsCard

/-- THE SECOND FORM's CARD OF 'posthouselaw08.MethodBack'. -/
def methodBackUptoCard : Claim7 := { stood := { row := methodBackUptoRow, standIns := [], harness := (true, "5f91dc7b3bd95f6137ef6b545fb233481887cdc36413d33f59c01a4128b618ab"), looks := true }, kinds := [], alts := [], laidByText := true, laidKinds := [.data, .pinned], laidTests := true, laidLooks := .later }
def MethodBackUptoCardSaid : Prop := Claim7.holds Tryd.pinned (.plain (OpenSpec.upto methodBackSpec)) methodBackUptoCard

/-- THE SECOND FORM's CARD OF 'posthouselaw08.MethodOne'. -/
def methodOneUptoCard : Claim7 := { stood := { row := methodOneUptoRow, standIns := [], harness := (true, "5f91dc7b3bd95f6137ef6b545fb233481887cdc36413d33f59c01a4128b618ab"), looks := true }, kinds := [], alts := [], laidByText := true, laidKinds := [.data, .pinned], laidTests := true, laidLooks := .later }
def MethodOneUptoCardSaid : Prop := Claim7.holds Tryd.pinned (.plain (OpenSpec.upto methodOneSpec)) methodOneUptoCard

/-- THE SECOND FORM's CARD OF 'posthouselaw08.MethodTable'. -/
def methodTableUptoCard : Claim7 := { stood := { row := methodTableUptoRow, standIns := [], harness := (true, "5f91dc7b3bd95f6137ef6b545fb233481887cdc36413d33f59c01a4128b618ab"), looks := true }, kinds := [], alts := [], laidByText := true, laidKinds := [.data, .pinned], laidTests := true, laidLooks := .later }
def MethodTableUptoCardSaid : Prop := Claim7.holds Tryd.pinned (.plain (OpenSpec.upto methodTableSpec)) methodTableUptoCard

/-- THE SECOND FORM's CARD OF 'posthouselaw08.MethodNamed'. -/
def methodNamedUptoCard : Claim7 := { stood := { row := methodNamedUptoRow, standIns := [], harness := (true, "5f91dc7b3bd95f6137ef6b545fb233481887cdc36413d33f59c01a4128b618ab"), looks := true }, kinds := [], alts := [], laidByText := true, laidKinds := [.data, .pinned], laidTests := true, laidLooks := .later }
def MethodNamedUptoCardSaid : Prop := Claim7.holds Tryd.pinned (.plain (OpenSpec.upto methodNamedSpec)) methodNamedUptoCard

/-- THE SECOND FORM's CARD OF 'posthouselaw08.MethodLeads'. -/
def methodLeadsUptoCard : Claim7 := { stood := { row := methodLeadsUptoRow, standIns := [], harness := (true, "5f91dc7b3bd95f6137ef6b545fb233481887cdc36413d33f59c01a4128b618ab"), looks := true }, kinds := [], alts := [], laidByText := true, laidKinds := [.data, .pinned], laidTests := true, laidLooks := .later }
def MethodLeadsUptoCardSaid : Prop := Claim7.holds Tryd.pinned (.plain (OpenSpec.upto methodLeadsSpec)) methodLeadsUptoCard
end Rows
end Go.Proofs.YtidpbbleneekgaaDoor

/-
  DERIVED. GIVEN WITH THE SEED: THE CARDS: each row of YtokfnonjmacpgaaDoorRows.lean that lists a variable, with what it lists TIED to the program's text (the seventh form; the later family's looks); each row that meets fmt, with fmt's text TOLD by the authors' own Lean function (tested against real Go, not proved from fmt's source: count such statements apart). THE CARD IS WHAT COUNTS. Prove the row's statement (the work); the ties are given (YtokfnonjmacpgaaDoorTie.lean); close each card by the builder's one call (the guide's Derived/Test/ToyasCard.lean, 'card_holds'). Laid BY PROGRAM, IN A SANDBOX (cutbox-door.mjs). By AI agents, Wed Nov 11 2026. No macro, syntax, notation, axiom, sorry.
-/
import Derived.Test.YtokfnonjmacpgaaDoorRows
import GoSem.ClaimSeven
namespace Go.Proofs.YtokfnonjmacpgaaDoor
namespace Rows

/-- THE TIED CARD OF 'posthouselaw04.XidParses'. -/
def xidParsesCard : Claim7 := { stood := { row := xidParsesRow, standIns := [], harness := (true, "97945247be3dd7049f9e462b19d968a12c95198adf95a07d5f5777070ad6be44"), looks := true }, kinds := [], alts := [], laidByText := true, laidKinds := [.data, .data, .data, .data, .sentinel, .sentinel, .pinned], laidTests := true, laidLooks := .later }
def XidParsesCardSaid : Prop := Claim7.holds Tryd.pinned (.plain (OpenSpec.ofChange xidParsesSpec)) xidParsesCard

/-- THE TIED CARD OF 'posthouselaw04.XidOrder'. -/
def xidOrderCard : Claim7 := { stood := { row := xidOrderRow, standIns := [], harness := (true, "97945247be3dd7049f9e462b19d968a12c95198adf95a07d5f5777070ad6be44"), looks := true }, kinds := [], alts := [], laidByText := true, laidKinds := [.data, .data, .data, .data, .sentinel, .sentinel, .pinned], laidTests := true, laidLooks := .later }
def XidOrderCardSaid : Prop := Claim7.holds Tryd.pinned (.plain (OpenSpec.ofChange xidOrderSpec)) xidOrderCard

/-- THE TIED CARD OF 'posthouselaw04.XidAsk'. -/
def xidAskCard : Claim7 := { stood := { row := xidAskRow, standIns := [], harness := (true, "97945247be3dd7049f9e462b19d968a12c95198adf95a07d5f5777070ad6be44"), looks := true }, kinds := [], alts := [], laidByText := true, laidKinds := [.data, .data, .data, .data, .sentinel, .sentinel, .pinned], laidTests := true, laidLooks := .later }
def XidAskCardSaid : Prop := Claim7.holds Tryd.pinned (.plain (OpenSpec.ofChange xidAskSpec)) xidAskCard

/-- THE TIED CARD OF 'posthouselaw04.XidPuts'. -/
def xidPutsCard : Claim7 := { stood := { row := xidPutsRow, standIns := [], harness := (true, "97945247be3dd7049f9e462b19d968a12c95198adf95a07d5f5777070ad6be44"), looks := true }, kinds := [], alts := [], laidByText := true, laidKinds := [.data, .data, .data, .data, .sentinel, .sentinel, .pinned], laidTests := true, laidLooks := .later }
def XidPutsCardSaid : Prop := Claim7.holds Tryd.pinned (.plain (OpenSpec.ofChange xidPutsSpec)) xidPutsCard

/-- THE TIED CARD OF 'posthouselaw04.XidGets'. -/
def xidGetsCard : Claim7 := { stood := { row := xidGetsRow, standIns := [], harness := (true, "97945247be3dd7049f9e462b19d968a12c95198adf95a07d5f5777070ad6be44"), looks := true }, kinds := [], alts := [], laidByText := true, laidKinds := [.data, .data, .data, .data, .sentinel, .sentinel, .pinned], laidTests := true, laidLooks := .later }
def XidGetsCardSaid : Prop := Claim7.holds Tryd.pinned (.plain (OpenSpec.ofChange xidGetsSpec)) xidGetsCard

/-- THE TIED CARD OF 'posthouselaw04.XidOne'. -/
def xidOneCard : Claim7 := { stood := { row := xidOneRow, standIns := [], harness := (true, "97945247be3dd7049f9e462b19d968a12c95198adf95a07d5f5777070ad6be44"), looks := true }, kinds := [], alts := [], laidByText := true, laidKinds := [.data, .data, .data, .data, .sentinel, .sentinel, .pinned], laidTests := true, laidLooks := .later }
def XidOneCardSaid : Prop := Claim7.holds Tryd.pinned (.plain (OpenSpec.ofChange xidOneSpec)) xidOneCard

/-- THE TIED CARD OF 'posthouselaw04.XidBack'. -/
def xidBackCard : Claim7 := { stood := { row := xidBackRow, standIns := [], harness := (true, "97945247be3dd7049f9e462b19d968a12c95198adf95a07d5f5777070ad6be44"), looks := true }, kinds := [], alts := [], laidByText := true, laidKinds := [.data, .data, .data, .data, .sentinel, .sentinel, .pinned], laidTests := true, laidLooks := .later }
def XidBackCardSaid : Prop := Claim7.holds Tryd.pinned (.plain (OpenSpec.ofChange xidBackSpec)) xidBackCard

/-- THE TIED CARD OF 'posthouselaw04.XidSorted'. -/
def xidSortedCard : Claim7 := { stood := { row := xidSortedRow, standIns := [], harness := (true, "97945247be3dd7049f9e462b19d968a12c95198adf95a07d5f5777070ad6be44"), looks := true }, kinds := [], alts := [], laidByText := true, laidKinds := [.data, .data, .data, .data, .sentinel, .sentinel, .pinned], laidTests := true, laidLooks := .later }
def XidSortedCardSaid : Prop := Claim7.holds Tryd.pinned (.plain (OpenSpec.ofChange xidSortedSpec)) xidSortedCard

/-- THE SECOND FORM's CARD OF 'posthouselaw04.XidParses'. -/
def xidParsesUptoCard : Claim7 := { stood := { row := xidParsesUptoRow, standIns := [], harness := (true, "97945247be3dd7049f9e462b19d968a12c95198adf95a07d5f5777070ad6be44"), looks := true }, kinds := [], alts := [], laidByText := true, laidKinds := [.data, .data, .data, .data, .sentinel, .sentinel, .pinned], laidTests := true, laidLooks := .later }
def XidParsesUptoCardSaid : Prop := Claim7.holds Tryd.pinned (.plain (OpenSpec.upto xidParsesSpec)) xidParsesUptoCard

/-- THE SECOND FORM's CARD OF 'posthouselaw04.XidOrder'. -/
def xidOrderUptoCard : Claim7 := { stood := { row := xidOrderUptoRow, standIns := [], harness := (true, "97945247be3dd7049f9e462b19d968a12c95198adf95a07d5f5777070ad6be44"), looks := true }, kinds := [], alts := [], laidByText := true, laidKinds := [.data, .data, .data, .data, .sentinel, .sentinel, .pinned], laidTests := true, laidLooks := .later }
def XidOrderUptoCardSaid : Prop := Claim7.holds Tryd.pinned (.plain (OpenSpec.upto xidOrderSpec)) xidOrderUptoCard

/-- THE SECOND FORM's CARD OF 'posthouselaw04.XidAsk'. -/
def xidAskUptoCard : Claim7 := { stood := { row := xidAskUptoRow, standIns := [], harness := (true, "97945247be3dd7049f9e462b19d968a12c95198adf95a07d5f5777070ad6be44"), looks := true }, kinds := [], alts := [], laidByText := true, laidKinds := [.data, .data, .data, .data, .sentinel, .sentinel, .pinned], laidTests := true, laidLooks := .later }
def XidAskUptoCardSaid : Prop := Claim7.holds Tryd.pinned (.plain (OpenSpec.upto xidAskSpec)) xidAskUptoCard

/-- THE SECOND FORM's CARD OF 'posthouselaw04.XidPuts'. -/
def xidPutsUptoCard : Claim7 := { stood := { row := xidPutsUptoRow, standIns := [], harness := (true, "97945247be3dd7049f9e462b19d968a12c95198adf95a07d5f5777070ad6be44"), looks := true }, kinds := [], alts := [], laidByText := true, laidKinds := [.data, .data, .data, .data, .sentinel, .sentinel, .pinned], laidTests := true, laidLooks := .later }
def XidPutsUptoCardSaid : Prop := Claim7.holds Tryd.pinned (.plain (OpenSpec.upto xidPutsSpec)) xidPutsUptoCard

/-- THE SECOND FORM's CARD OF 'posthouselaw04.XidGets'. -/
def xidGetsUptoCard : Claim7 := { stood := { row := xidGetsUptoRow, standIns := [], harness := (true, "97945247be3dd7049f9e462b19d968a12c95198adf95a07d5f5777070ad6be44"), looks := true }, kinds := [], alts := [], laidByText := true, laidKinds := [.data, .data, .data, .data, .sentinel, .sentinel, .pinned], laidTests := true, laidLooks := .later }
def XidGetsUptoCardSaid : Prop := Claim7.holds Tryd.pinned (.plain (OpenSpec.upto xidGetsSpec)) xidGetsUptoCard

/-- THE SECOND FORM's CARD OF 'posthouselaw04.XidOne'. -/
def xidOneUptoCard : Claim7 := { stood := { row := xidOneUptoRow, standIns := [], harness := (true, "97945247be3dd7049f9e462b19d968a12c95198adf95a07d5f5777070ad6be44"), looks := true }, kinds := [], alts := [], laidByText := true, laidKinds := [.data, .data, .data, .data, .sentinel, .sentinel, .pinned], laidTests := true, laidLooks := .later }
def XidOneUptoCardSaid : Prop := Claim7.holds Tryd.pinned (.plain (OpenSpec.upto xidOneSpec)) xidOneUptoCard

/-- THE SECOND FORM's CARD OF 'posthouselaw04.XidBack'. -/
def xidBackUptoCard : Claim7 := { stood := { row := xidBackUptoRow, standIns := [], harness := (true, "97945247be3dd7049f9e462b19d968a12c95198adf95a07d5f5777070ad6be44"), looks := true }, kinds := [], alts := [], laidByText := true, laidKinds := [.data, .data, .data, .data, .sentinel, .sentinel, .pinned], laidTests := true, laidLooks := .later }
def XidBackUptoCardSaid : Prop := Claim7.holds Tryd.pinned (.plain (OpenSpec.upto xidBackSpec)) xidBackUptoCard

/-- THE SECOND FORM's CARD OF 'posthouselaw04.XidSorted'. -/
def xidSortedUptoCard : Claim7 := { stood := { row := xidSortedUptoRow, standIns := [], harness := (true, "97945247be3dd7049f9e462b19d968a12c95198adf95a07d5f5777070ad6be44"), looks := true }, kinds := [], alts := [], laidByText := true, laidKinds := [.data, .data, .data, .data, .sentinel, .sentinel, .pinned], laidTests := true, laidLooks := .later }
def XidSortedUptoCardSaid : Prop := Claim7.holds Tryd.pinned (.plain (OpenSpec.upto xidSortedSpec)) xidSortedUptoCard
end Rows
end Go.Proofs.YtokfnonjmacpgaaDoor

/-
  DERIVED. GIVEN WITH THE SEED: THE CARDS: each row of YtenegldhfgfokaaDoorRows.lean that lists a variable, with what it lists TIED to the program's text (the seventh form; the later family's looks); each row that meets fmt, with fmt's text TOLD by the authors' own Lean function (tested against real Go, not proved from fmt's source: count such statements apart). THE CARD IS WHAT COUNTS. Prove the row's statement (the work); the ties are given (YtenegldhfgfokaaDoorTie.lean); close each card by the builder's one call (the guide's Derived/Test/ToyasCard.lean, 'card_holds'). Laid BY PROGRAM, IN A SANDBOX (cutbox-door.mjs). By AI agents, Wed Nov 11 2026. No macro, syntax, notation, axiom, sorry.
-/
import Derived.Test.YtenegldhfgfokaaDoorRows
import GoSem.ClaimSeven
namespace Go.Proofs.YtenegldhfgfokaaDoor
namespace Rows

/-- THE TIED CARD OF 'posthousetop.TopMessage'. -/
def topMessageCard : Claim7 := { stood := { row := topMessageRow, standIns := [], harness := (true, "b7c633ae3f4d3367a71cdbc165a35238ea48540226904ef3dc0614620a89526b"), looks := true }, kinds := [], alts := [], laidByText := true, laidKinds := [.data, .data, .data, .data, .data, .pinned], laidTests := true, laidLooks := .later }
def TopMessageCardSaid : Prop := Claim7.holds Tryd.pinned (.plain (OpenSpec.ofChange topMessageSpec)) topMessageCard

/-- THE SECOND FORM's CARD OF 'posthousetop.TopMessage'. -/
def topMessageUptoCard : Claim7 := { stood := { row := topMessageUptoRow, standIns := [], harness := (true, "b7c633ae3f4d3367a71cdbc165a35238ea48540226904ef3dc0614620a89526b"), looks := true }, kinds := [], alts := [], laidByText := true, laidKinds := [.data, .data, .data, .data, .data, .pinned], laidTests := true, laidLooks := .later }
def TopMessageUptoCardSaid : Prop := Claim7.holds Tryd.pinned (.plain (OpenSpec.upto topMessageSpec)) topMessageUptoCard
end Rows
end Go.Proofs.YtenegldhfgfokaaDoor

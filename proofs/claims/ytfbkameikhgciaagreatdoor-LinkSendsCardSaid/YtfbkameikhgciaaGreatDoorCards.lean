/-
  DERIVED. GIVEN WITH THE SEED: THE CARDS: each row of YtfbkameikhgciaaGreatDoorRows.lean that lists a variable, with what it lists TIED to the program's text (the seventh form; the later family's looks); each row that meets fmt, with fmt's text TOLD by the authors' own Lean function (tested against real Go, not proved from fmt's source: count such statements apart). THE CARD IS WHAT COUNTS. Prove the row's statement (the work); the ties are given (YtfbkameikhgciaaGreatDoorTie.lean); close each card by the builder's one call (the guide's Derived/Test/ToyasCard.lean, 'card_holds'). Laid BY PROGRAM, IN A SANDBOX (cutbox-door.mjs). By AI agents, Wed Nov 11 2026. No macro, syntax, notation, axiom, sorry.
-/
import Derived.Test.YtfbkameikhgciaaGreatDoorRows
import GoSem.ClaimSeven
namespace Go.Proofs.YtfbkameikhgciaaGreatDoor
namespace Rows

/-- THE TIED CARD OF 'posthouselaw22.LinkPlays'. -/
def linkPlaysCard : Claim7 := { stood := { row := linkPlaysRow, standIns := [], harness := (true, "2342372043b349ffe02ab12a4c725b1c88fba3ed555f66fe4c58bfc8468893c3"), looks := true }, kinds := [], alts := [], laidByText := true, laidKinds := [.data, .pinned], laidTests := true, laidLooks := .later }
def LinkPlaysCardSaid : Prop := Claim7.holds Tryz.pinned (.plain (OpenSpec.ofChange linkPlaysSpec)) linkPlaysCard

/-- THE TIED CARD OF 'posthouselaw22.LinkPieces'. -/
def linkPiecesCard : Claim7 := { stood := { row := linkPiecesRow, standIns := [], harness := (true, "2342372043b349ffe02ab12a4c725b1c88fba3ed555f66fe4c58bfc8468893c3"), looks := true }, kinds := [], alts := [], laidByText := true, laidKinds := [.data, .pinned], laidTests := true, laidLooks := .later }
def LinkPiecesCardSaid : Prop := Claim7.holds Tryz.pinned (.plain (OpenSpec.ofChange linkPiecesSpec)) linkPiecesCard

/-- THE TIED CARD OF 'posthouselaw22.LinkCarries'. -/
def linkCarriesCard : Claim7 := { stood := { row := linkCarriesRow, standIns := [], harness := (true, "2342372043b349ffe02ab12a4c725b1c88fba3ed555f66fe4c58bfc8468893c3"), looks := true }, kinds := [], alts := [], laidByText := true, laidKinds := [.data, .pinned], laidTests := true, laidLooks := .later }
def LinkCarriesCardSaid : Prop := Claim7.holds Tryz.pinned (.plain (OpenSpec.ofChange linkCarriesSpec)) linkCarriesCard

/-- THE TIED CARD OF 'posthouselaw22.LinkSends'. -/
def linkSendsCard : Claim7 := { stood := { row := linkSendsRow, standIns := [], harness := (true, "2342372043b349ffe02ab12a4c725b1c88fba3ed555f66fe4c58bfc8468893c3"), looks := true }, kinds := [], alts := [], laidByText := true, laidKinds := [.data, .pinned], laidTests := true, laidLooks := .later }
def LinkSendsCardSaid : Prop := Claim7.holds Tryz.pinned (.plain (OpenSpec.ofChange linkSendsSpec)) linkSendsCard

/-- THE TIED CARD OF 'posthouselaw22.LinkNone'. -/
def linkNoneCard : Claim7 := { stood := { row := linkNoneRow, standIns := [], harness := (true, "2342372043b349ffe02ab12a4c725b1c88fba3ed555f66fe4c58bfc8468893c3"), looks := true }, kinds := [], alts := [], laidByText := true, laidKinds := [.data, .pinned], laidTests := true, laidLooks := .later }
def LinkNoneCardSaid : Prop := Claim7.holds Tryz.pinned (.plain (OpenSpec.ofChange linkNoneSpec)) linkNoneCard

/-- THE SECOND FORM's CARD OF 'posthouselaw22.LinkPlays'. -/
def linkPlaysUptoCard : Claim7 := { stood := { row := linkPlaysUptoRow, standIns := [], harness := (true, "2342372043b349ffe02ab12a4c725b1c88fba3ed555f66fe4c58bfc8468893c3"), looks := true }, kinds := [], alts := [], laidByText := true, laidKinds := [.data, .pinned], laidTests := true, laidLooks := .later }
def LinkPlaysUptoCardSaid : Prop := Claim7.holds Tryz.pinned (.plain (OpenSpec.upto linkPlaysSpec)) linkPlaysUptoCard

/-- THE SECOND FORM's CARD OF 'posthouselaw22.LinkPieces'. -/
def linkPiecesUptoCard : Claim7 := { stood := { row := linkPiecesUptoRow, standIns := [], harness := (true, "2342372043b349ffe02ab12a4c725b1c88fba3ed555f66fe4c58bfc8468893c3"), looks := true }, kinds := [], alts := [], laidByText := true, laidKinds := [.data, .pinned], laidTests := true, laidLooks := .later }
def LinkPiecesUptoCardSaid : Prop := Claim7.holds Tryz.pinned (.plain (OpenSpec.upto linkPiecesSpec)) linkPiecesUptoCard

/-- THE SECOND FORM's CARD OF 'posthouselaw22.LinkCarries'. -/
def linkCarriesUptoCard : Claim7 := { stood := { row := linkCarriesUptoRow, standIns := [], harness := (true, "2342372043b349ffe02ab12a4c725b1c88fba3ed555f66fe4c58bfc8468893c3"), looks := true }, kinds := [], alts := [], laidByText := true, laidKinds := [.data, .pinned], laidTests := true, laidLooks := .later }
def LinkCarriesUptoCardSaid : Prop := Claim7.holds Tryz.pinned (.plain (OpenSpec.upto linkCarriesSpec)) linkCarriesUptoCard

/-- THE SECOND FORM's CARD OF 'posthouselaw22.LinkSends'. -/
def linkSendsUptoCard : Claim7 := { stood := { row := linkSendsUptoRow, standIns := [], harness := (true, "2342372043b349ffe02ab12a4c725b1c88fba3ed555f66fe4c58bfc8468893c3"), looks := true }, kinds := [], alts := [], laidByText := true, laidKinds := [.data, .pinned], laidTests := true, laidLooks := .later }
def LinkSendsUptoCardSaid : Prop := Claim7.holds Tryz.pinned (.plain (OpenSpec.upto linkSendsSpec)) linkSendsUptoCard

/-- THE SECOND FORM's CARD OF 'posthouselaw22.LinkNone'. -/
def linkNoneUptoCard : Claim7 := { stood := { row := linkNoneUptoRow, standIns := [], harness := (true, "2342372043b349ffe02ab12a4c725b1c88fba3ed555f66fe4c58bfc8468893c3"), looks := true }, kinds := [], alts := [], laidByText := true, laidKinds := [.data, .pinned], laidTests := true, laidLooks := .later }
def LinkNoneUptoCardSaid : Prop := Claim7.holds Tryz.pinned (.plain (OpenSpec.upto linkNoneSpec)) linkNoneUptoCard
end Rows
end Go.Proofs.YtfbkameikhgciaaGreatDoor

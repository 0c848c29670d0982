/-
  No cell of these rows narrows 'for every input' (looked for: loops, veiled, ifaces, maps, wideKeys, modest, calm, conditions, laid).
  DERIVED. THE GIVEN ROWS OF THIS SEAT. 6 by the template 'for every input the law returns true; each argument reads behind the call as it read before'; 0 by the template 'total and deterministic' (their statements: YtcfhnnbgghbjfaaTotals.lean).
  GIVEN WITH THE SEED: the statements are not yours to turn. If you find one false, say at which input.
  Laid BY PROGRAM, IN A SANDBOX (cutbox-rows.mjs): the forced cells as the released guide's own fill.sh prints them over the translation 199911e32252bfda… (all of the seat's roots in one cut). By AI agents, Wed Nov 11 2026. No macro, syntax, notation, axiom, sorry.
-/
import Derived.Test.YtcfhnnbgghbjfaaChecked
import GoSem.Claim
import GoSem.ClaimJoined
import GoSem.ClaimMapViews
import Derived.JoinedTies
import Derived.KernelRfl
namespace Go.Proofs.Ytcfhnnbgghbjfaa
/- THE CELL 'sum', in the pinned program and in every row, IS THE sha256 OF THE DUMP (.gsa) THAT YtcfhnnbgghbjfaaProg.lean LOADS. Nothing in Lean hashes anything: it is a label: what it is worth is what the hold of that sum in a sandbox is worth. -/
noncomputable def Try.pinned : Pinned := { name := "ytcfhnnbgghbjfaa", sum := "199911e32252bfda442fccd0071ddbdadb72672dcf2a178779bc0afc429e5371", checked := Try.checked }
namespace Rows
def none {H : Type} : Left H := { results := [], args := [] }

/-- 'posthouselaw27.GtxTakes': WHATEVER THE INPUT: true; the input reads as it did. -/
def gtxTakesSpec : ChangeSpec := { name := "gtxTakes", fn := fun _ => fun
  | [d1, d2, d3] => { results := [.lit (.bool true)], args := [d1, d2, d3] }
  | _ => none }
def gtxTakesRow : OpenClaim := { program := "ytcfhnnbgghbjfaa", sum := "199911e32252bfda442fccd0071ddbdadb72672dcf2a178779bc0afc429e5371", func := "posthouse/posthouselaw27.GtxTakes", spec := "gtxTakes", inPlace := ["internal/bytealg.abigen_runtime_cmpstring"], unfollowed := true, recurses := true, apart := false }
def GtxTakesSaid : Prop := gtxTakesRow.holds Try.pinned (OpenSpec.ofChange gtxTakesSpec)

/-- ITS FALSE NEIGHBOUR: 'it returns false'. Refute it at one input. -/
def gtxTakesWrong : ChangeSpec := { name := "gtxTakes", fn := fun _ => fun
  | [d1, d2, d3] => { results := [.lit (.bool false)], args := [d1, d2, d3] }
  | _ => none }
def GtxTakesWrongFalsely : Prop := gtxTakesRow.holds Try.pinned (OpenSpec.ofChange gtxTakesWrong)

/-- 'posthouselaw27.GtxNew': WHATEVER THE INPUT: true; the input reads as it did. -/
def gtxNewSpec : ChangeSpec := { name := "gtxNew", fn := fun _ => fun
  | [d1, d2, d3] => { results := [.lit (.bool true)], args := [d1, d2, d3] }
  | _ => none }
def gtxNewRow : OpenClaim := { program := "ytcfhnnbgghbjfaa", sum := "199911e32252bfda442fccd0071ddbdadb72672dcf2a178779bc0afc429e5371", func := "posthouse/posthouselaw27.GtxNew", spec := "gtxNew", inPlace := ["internal/bytealg.abigen_runtime_cmpstring"], unfollowed := true, recurses := true, apart := false }
def GtxNewSaid : Prop := gtxNewRow.holds Try.pinned (OpenSpec.ofChange gtxNewSpec)

/-- ITS FALSE NEIGHBOUR: 'it returns false'. Refute it at one input. -/
def gtxNewWrong : ChangeSpec := { name := "gtxNew", fn := fun _ => fun
  | [d1, d2, d3] => { results := [.lit (.bool false)], args := [d1, d2, d3] }
  | _ => none }
def GtxNewWrongFalsely : Prop := gtxNewRow.holds Try.pinned (OpenSpec.ofChange gtxNewWrong)

/-- 'posthouselaw27.GtxAsks': WHATEVER THE INPUT: true; the input reads as it did. -/
def gtxAsksSpec : ChangeSpec := { name := "gtxAsks", fn := fun _ => fun
  | [d1, d2] => { results := [.lit (.bool true)], args := [d1, d2] }
  | _ => none }
def gtxAsksRow : OpenClaim := { program := "ytcfhnnbgghbjfaa", sum := "199911e32252bfda442fccd0071ddbdadb72672dcf2a178779bc0afc429e5371", func := "posthouse/posthouselaw27.GtxAsks", spec := "gtxAsks", inPlace := ["internal/bytealg.abigen_runtime_cmpstring"], unfollowed := true, recurses := true, apart := false }
def GtxAsksSaid : Prop := gtxAsksRow.holds Try.pinned (OpenSpec.ofChange gtxAsksSpec)

/-- ITS FALSE NEIGHBOUR: 'it returns false'. Refute it at one input. -/
def gtxAsksWrong : ChangeSpec := { name := "gtxAsks", fn := fun _ => fun
  | [d1, d2] => { results := [.lit (.bool false)], args := [d1, d2] }
  | _ => none }
def GtxAsksWrongFalsely : Prop := gtxAsksRow.holds Try.pinned (OpenSpec.ofChange gtxAsksWrong)

/-- 'posthouselaw27.GtxQuits': WHATEVER THE INPUT: true; the input reads as it did. -/
def gtxQuitsSpec : ChangeSpec := { name := "gtxQuits", fn := fun _ => fun
  | [d1, d2] => { results := [.lit (.bool true)], args := [d1, d2] }
  | _ => none }
def gtxQuitsRow : OpenClaim := { program := "ytcfhnnbgghbjfaa", sum := "199911e32252bfda442fccd0071ddbdadb72672dcf2a178779bc0afc429e5371", func := "posthouse/posthouselaw27.GtxQuits", spec := "gtxQuits", inPlace := ["internal/bytealg.abigen_runtime_cmpstring"], unfollowed := true, recurses := true, apart := false }
def GtxQuitsSaid : Prop := gtxQuitsRow.holds Try.pinned (OpenSpec.ofChange gtxQuitsSpec)

/-- ITS FALSE NEIGHBOUR: 'it returns false'. Refute it at one input. -/
def gtxQuitsWrong : ChangeSpec := { name := "gtxQuits", fn := fun _ => fun
  | [d1, d2] => { results := [.lit (.bool false)], args := [d1, d2] }
  | _ => none }
def GtxQuitsWrongFalsely : Prop := gtxQuitsRow.holds Try.pinned (OpenSpec.ofChange gtxQuitsWrong)

/-- 'posthouselaw27.GtxTurns': WHATEVER THE INPUT: true; the input reads as it did. -/
def gtxTurnsSpec : ChangeSpec := { name := "gtxTurns", fn := fun _ => fun
  | [d1, d2] => { results := [.lit (.bool true)], args := [d1, d2] }
  | _ => none }
def gtxTurnsRow : OpenClaim := { program := "ytcfhnnbgghbjfaa", sum := "199911e32252bfda442fccd0071ddbdadb72672dcf2a178779bc0afc429e5371", func := "posthouse/posthouselaw27.GtxTurns", spec := "gtxTurns", inPlace := ["internal/bytealg.abigen_runtime_cmpstring"], unfollowed := true, recurses := true, apart := false }
def GtxTurnsSaid : Prop := gtxTurnsRow.holds Try.pinned (OpenSpec.ofChange gtxTurnsSpec)

/-- ITS FALSE NEIGHBOUR: 'it returns false'. Refute it at one input. -/
def gtxTurnsWrong : ChangeSpec := { name := "gtxTurns", fn := fun _ => fun
  | [d1, d2] => { results := [.lit (.bool false)], args := [d1, d2] }
  | _ => none }
def GtxTurnsWrongFalsely : Prop := gtxTurnsRow.holds Try.pinned (OpenSpec.ofChange gtxTurnsWrong)

/-- 'posthouselaw27.GtxSure': WHATEVER THE INPUT: true; the input reads as it did. -/
def gtxSureSpec : ChangeSpec := { name := "gtxSure", fn := fun _ => fun
  | [d1, d2, d3] => { results := [.lit (.bool true)], args := [d1, d2, d3] }
  | _ => none }
def gtxSureRow : OpenClaim := { program := "ytcfhnnbgghbjfaa", sum := "199911e32252bfda442fccd0071ddbdadb72672dcf2a178779bc0afc429e5371", func := "posthouse/posthouselaw27.GtxSure", spec := "gtxSure", inPlace := ["internal/bytealg.abigen_runtime_cmpstring"], unfollowed := true, recurses := true, apart := false }
def GtxSureSaid : Prop := gtxSureRow.holds Try.pinned (OpenSpec.ofChange gtxSureSpec)

/-- ITS FALSE NEIGHBOUR: 'it returns false'. Refute it at one input. -/
def gtxSureWrong : ChangeSpec := { name := "gtxSure", fn := fun _ => fun
  | [d1, d2, d3] => { results := [.lit (.bool false)], args := [d1, d2, d3] }
  | _ => none }
def GtxSureWrongFalsely : Prop := gtxSureRow.holds Try.pinned (OpenSpec.ofChange gtxSureWrong)

/- THE SECOND FORM. 'bulk': how many values and letters a reading holds, each counted each time it is reached (what is shared counts as often as it is met; a slice's spare places count too). A statement '..UptoSaid' is the law's where the arguments, and the package variables that the reading takes, are together of bulk at most 1048576: NARROWER than '..Said'. Prove '..Said' where nothing that the law and all that it calls make is longer than what came in: it says more and counts as full. Else prove '..UptoSaid'. A law counts once. -/
mutual
def uptoBulk {H : Type} : DataW H → Nat
  | .lit (.string bytes) => bytes.length + 1
  | .lit _ => 1
  | .nil => 1
  | .ptr d => uptoBulk d + 1
  | .slice elems spare => uptoBulkAll elems + uptoBulkAll spare + 1
  | .agg parts => uptoBulkAll parts + 1
  | .iface _ d => uptoBulk d + 1
  | .map entries => uptoBulkEntries entries + 1
  | .held _ => 1
def uptoBulkAll {H : Type} : List (DataW H) → Nat
  | [] => 0
  | d :: r => uptoBulk d + uptoBulkAll r
def uptoBulkEntries {H : Type} : List (Lit × DataW H) → Nat
  | [] => 0
  | x :: r => uptoBulkEntry x + uptoBulkEntries r
def uptoBulkEntry {H : Type} : Lit × DataW H → Nat
  | (.string bytes, d) => bytes.length + uptoBulk d + 1
  | (_, d) => uptoBulk d + 1
 end
def uptoSmall : (H : Type) → List (DataW H) → Bool := fun _ ds => decide (uptoBulkAll ds ≤ 1048576)
def OpenSpec.upto (s : _root_.Go.ChangeSpec) : _root_.Go.OpenSpec := { _root_.Go.OpenSpec.ofChange s with cond := some uptoSmall }

/-- 'posthouselaw27.GtxTakes', WHERE WHAT IT READS IS OF BULK AT MOST 1048576: true; the input reads as it did. -/
def gtxTakesUptoRow : OpenClaim := { program := "ytcfhnnbgghbjfaa", sum := "199911e32252bfda442fccd0071ddbdadb72672dcf2a178779bc0afc429e5371", func := "posthouse/posthouselaw27.GtxTakes", spec := "gtxTakes", inPlace := ["internal/bytealg.abigen_runtime_cmpstring"], unfollowed := true, recurses := true, apart := false, narrowed := true }
def GtxTakesUptoSaid : Prop := gtxTakesUptoRow.holds Try.pinned (OpenSpec.upto gtxTakesSpec)

/-- 'posthouselaw27.GtxNew', WHERE WHAT IT READS IS OF BULK AT MOST 1048576: true; the input reads as it did. -/
def gtxNewUptoRow : OpenClaim := { program := "ytcfhnnbgghbjfaa", sum := "199911e32252bfda442fccd0071ddbdadb72672dcf2a178779bc0afc429e5371", func := "posthouse/posthouselaw27.GtxNew", spec := "gtxNew", inPlace := ["internal/bytealg.abigen_runtime_cmpstring"], unfollowed := true, recurses := true, apart := false, narrowed := true }
def GtxNewUptoSaid : Prop := gtxNewUptoRow.holds Try.pinned (OpenSpec.upto gtxNewSpec)

/-- 'posthouselaw27.GtxAsks', WHERE WHAT IT READS IS OF BULK AT MOST 1048576: true; the input reads as it did. -/
def gtxAsksUptoRow : OpenClaim := { program := "ytcfhnnbgghbjfaa", sum := "199911e32252bfda442fccd0071ddbdadb72672dcf2a178779bc0afc429e5371", func := "posthouse/posthouselaw27.GtxAsks", spec := "gtxAsks", inPlace := ["internal/bytealg.abigen_runtime_cmpstring"], unfollowed := true, recurses := true, apart := false, narrowed := true }
def GtxAsksUptoSaid : Prop := gtxAsksUptoRow.holds Try.pinned (OpenSpec.upto gtxAsksSpec)

/-- 'posthouselaw27.GtxQuits', WHERE WHAT IT READS IS OF BULK AT MOST 1048576: true; the input reads as it did. -/
def gtxQuitsUptoRow : OpenClaim := { program := "ytcfhnnbgghbjfaa", sum := "199911e32252bfda442fccd0071ddbdadb72672dcf2a178779bc0afc429e5371", func := "posthouse/posthouselaw27.GtxQuits", spec := "gtxQuits", inPlace := ["internal/bytealg.abigen_runtime_cmpstring"], unfollowed := true, recurses := true, apart := false, narrowed := true }
def GtxQuitsUptoSaid : Prop := gtxQuitsUptoRow.holds Try.pinned (OpenSpec.upto gtxQuitsSpec)

/-- 'posthouselaw27.GtxTurns', WHERE WHAT IT READS IS OF BULK AT MOST 1048576: true; the input reads as it did. -/
def gtxTurnsUptoRow : OpenClaim := { program := "ytcfhnnbgghbjfaa", sum := "199911e32252bfda442fccd0071ddbdadb72672dcf2a178779bc0afc429e5371", func := "posthouse/posthouselaw27.GtxTurns", spec := "gtxTurns", inPlace := ["internal/bytealg.abigen_runtime_cmpstring"], unfollowed := true, recurses := true, apart := false, narrowed := true }
def GtxTurnsUptoSaid : Prop := gtxTurnsUptoRow.holds Try.pinned (OpenSpec.upto gtxTurnsSpec)

/-- 'posthouselaw27.GtxSure', WHERE WHAT IT READS IS OF BULK AT MOST 1048576: true; the input reads as it did. -/
def gtxSureUptoRow : OpenClaim := { program := "ytcfhnnbgghbjfaa", sum := "199911e32252bfda442fccd0071ddbdadb72672dcf2a178779bc0afc429e5371", func := "posthouse/posthouselaw27.GtxSure", spec := "gtxSure", inPlace := ["internal/bytealg.abigen_runtime_cmpstring"], unfollowed := true, recurses := true, apart := false, narrowed := true }
def GtxSureUptoSaid : Prop := gtxSureUptoRow.holds Try.pinned (OpenSpec.upto gtxSureSpec)

end Rows
end Go.Proofs.Ytcfhnnbgghbjfaa

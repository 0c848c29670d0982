/-
  No cell of these rows narrows 'for every input' (looked for: loops, veiled, ifaces, maps, wideKeys, modest, calm, conditions, laid).
  DERIVED. THE GIVEN ROWS OF THIS SEAT. 7 by the template 'for every input the law returns true; each argument reads behind the call as it read before'; 0 by the template 'total and deterministic' (their statements: YtjlfjlafpgjhbaaTotals.lean).
  GIVEN WITH THE SEED: the statements are not yours to turn. If you find one false, say at which input.
  Laid BY PROGRAM, IN A SANDBOX (cutbox-rows.mjs): the forced cells as the released guide's own fill.sh prints them over the translation 8d7d5ba468989769… (all of the seat's roots in one cut). By AI agents, Wed Nov 11 2026. No macro, syntax, notation, axiom, sorry.
-/
import Derived.Test.YtjlfjlafpgjhbaaChecked
import GoSem.Claim
import GoSem.ClaimJoined
import GoSem.ClaimMapViews
import Derived.JoinedTies
import Derived.KernelRfl
namespace Go.Proofs.Ytjlfjlafpgjhbaa
/- THE CELL 'sum', in the pinned program and in every row, IS THE sha256 OF THE DUMP (.gsa) THAT YtjlfjlafpgjhbaaProg.lean LOADS. Nothing in Lean hashes anything: it is a label: what it is worth is what the hold of that sum in a sandbox is worth. -/
noncomputable def Try.pinned : Pinned := { name := "ytjlfjlafpgjhbaa", sum := "8d7d5ba46898976900bde3b39953f58b2e1a254096173a79f9db099b2775514b", checked := Try.checked }
namespace Rows
def none {H : Type} : Left H := { results := [], args := [] }

/-- 'posthouselaw03.SpansTurn': WHATEVER THE INPUT: true; the input reads as it did. -/
def spansTurnSpec : ChangeSpec := { name := "spansTurn", fn := fun _ => fun
  | [d1, d2, d3] => { results := [.lit (.bool true)], args := [d1, d2, d3] }
  | _ => none }
def spansTurnRow : OpenClaim := { program := "ytjlfjlafpgjhbaa", sum := "8d7d5ba46898976900bde3b39953f58b2e1a254096173a79f9db099b2775514b", func := "posthouse/posthouselaw03.SpansTurn", spec := "spansTurn", unfollowed := true, recurses := true, apart := false }
def SpansTurnSaid : Prop := spansTurnRow.holds Try.pinned (OpenSpec.ofChange spansTurnSpec)

/-- ITS FALSE NEIGHBOUR: 'it returns false'. Refute it at one input. -/
def spansTurnWrong : ChangeSpec := { name := "spansTurn", fn := fun _ => fun
  | [d1, d2, d3] => { results := [.lit (.bool false)], args := [d1, d2, d3] }
  | _ => none }
def SpansTurnWrongFalsely : Prop := spansTurnRow.holds Try.pinned (OpenSpec.ofChange spansTurnWrong)

/-- 'posthouselaw03.SpansAsk': WHATEVER THE INPUT: true; the input reads as it did. -/
def spansAskSpec : ChangeSpec := { name := "spansAsk", fn := fun _ => fun
  | [d1, d2] => { results := [.lit (.bool true)], args := [d1, d2] }
  | _ => none }
def spansAskRow : OpenClaim := { program := "ytjlfjlafpgjhbaa", sum := "8d7d5ba46898976900bde3b39953f58b2e1a254096173a79f9db099b2775514b", func := "posthouse/posthouselaw03.SpansAsk", spec := "spansAsk", unfollowed := true, recurses := true, apart := false }
def SpansAskSaid : Prop := spansAskRow.holds Try.pinned (OpenSpec.ofChange spansAskSpec)

/-- ITS FALSE NEIGHBOUR: 'it returns false'. Refute it at one input. -/
def spansAskWrong : ChangeSpec := { name := "spansAsk", fn := fun _ => fun
  | [d1, d2] => { results := [.lit (.bool false)], args := [d1, d2] }
  | _ => none }
def SpansAskWrongFalsely : Prop := spansAskRow.holds Try.pinned (OpenSpec.ofChange spansAskWrong)

/-- 'posthouselaw03.SpansPair': WHATEVER THE INPUT: true; the input reads as it did. -/
def spansPairSpec : ChangeSpec := { name := "spansPair", fn := fun _ => fun
  | [d1, d2] => { results := [.lit (.bool true)], args := [d1, d2] }
  | _ => none }
def spansPairRow : OpenClaim := { program := "ytjlfjlafpgjhbaa", sum := "8d7d5ba46898976900bde3b39953f58b2e1a254096173a79f9db099b2775514b", func := "posthouse/posthouselaw03.SpansPair", spec := "spansPair", unfollowed := true, recurses := true, apart := false }
def SpansPairSaid : Prop := spansPairRow.holds Try.pinned (OpenSpec.ofChange spansPairSpec)

/-- ITS FALSE NEIGHBOUR: 'it returns false'. Refute it at one input. -/
def spansPairWrong : ChangeSpec := { name := "spansPair", fn := fun _ => fun
  | [d1, d2] => { results := [.lit (.bool false)], args := [d1, d2] }
  | _ => none }
def SpansPairWrongFalsely : Prop := spansPairRow.holds Try.pinned (OpenSpec.ofChange spansPairWrong)

/-- 'posthouselaw03.SpansPuts': WHATEVER THE INPUT: true; the input reads as it did. -/
def spansPutsSpec : ChangeSpec := { name := "spansPuts", fn := fun _ => fun
  | [d] => { results := [.lit (.bool true)], args := [d] }
  | _ => none }
def spansPutsRow : OpenClaim := { program := "ytjlfjlafpgjhbaa", sum := "8d7d5ba46898976900bde3b39953f58b2e1a254096173a79f9db099b2775514b", func := "posthouse/posthouselaw03.SpansPuts", spec := "spansPuts", unfollowed := true, recurses := true, apart := false }
def SpansPutsSaid : Prop := spansPutsRow.holds Try.pinned (OpenSpec.ofChange spansPutsSpec)

/-- ITS FALSE NEIGHBOUR: 'it returns false'. Refute it at one input. -/
def spansPutsWrong : ChangeSpec := { name := "spansPuts", fn := fun _ => fun
  | [d] => { results := [.lit (.bool false)], args := [d] }
  | _ => none }
def SpansPutsWrongFalsely : Prop := spansPutsRow.holds Try.pinned (OpenSpec.ofChange spansPutsWrong)

/-- 'posthouselaw03.SpansMember': WHATEVER THE INPUT: true; the input reads as it did. -/
def spansMemberSpec : ChangeSpec := { name := "spansMember", fn := fun _ => fun
  | [d1, d2, d3] => { results := [.lit (.bool true)], args := [d1, d2, d3] }
  | _ => none }
def spansMemberRow : OpenClaim := { program := "ytjlfjlafpgjhbaa", sum := "8d7d5ba46898976900bde3b39953f58b2e1a254096173a79f9db099b2775514b", func := "posthouse/posthouselaw03.SpansMember", spec := "spansMember", unfollowed := true, recurses := true, apart := false }
def SpansMemberSaid : Prop := spansMemberRow.holds Try.pinned (OpenSpec.ofChange spansMemberSpec)

/-- ITS FALSE NEIGHBOUR: 'it returns false'. Refute it at one input. -/
def spansMemberWrong : ChangeSpec := { name := "spansMember", fn := fun _ => fun
  | [d1, d2, d3] => { results := [.lit (.bool false)], args := [d1, d2, d3] }
  | _ => none }
def SpansMemberWrongFalsely : Prop := spansMemberRow.holds Try.pinned (OpenSpec.ofChange spansMemberWrong)

/-- 'posthouselaw03.SpansGets': WHATEVER THE INPUT: true; the input reads as it did. -/
def spansGetsSpec : ChangeSpec := { name := "spansGets", fn := fun _ => fun
  | [d] => { results := [.lit (.bool true)], args := [d] }
  | _ => none }
def spansGetsRow : OpenClaim := { program := "ytjlfjlafpgjhbaa", sum := "8d7d5ba46898976900bde3b39953f58b2e1a254096173a79f9db099b2775514b", func := "posthouse/posthouselaw03.SpansGets", spec := "spansGets", unfollowed := true, recurses := true, apart := false }
def SpansGetsSaid : Prop := spansGetsRow.holds Try.pinned (OpenSpec.ofChange spansGetsSpec)

/-- ITS FALSE NEIGHBOUR: 'it returns false'. Refute it at one input. -/
def spansGetsWrong : ChangeSpec := { name := "spansGets", fn := fun _ => fun
  | [d] => { results := [.lit (.bool false)], args := [d] }
  | _ => none }
def SpansGetsWrongFalsely : Prop := spansGetsRow.holds Try.pinned (OpenSpec.ofChange spansGetsWrong)

/-- 'posthouselaw03.SpansBack': WHATEVER THE INPUT: true; the input reads as it did. -/
def spansBackSpec : ChangeSpec := { name := "spansBack", fn := fun _ => fun
  | [d1, d2] => { results := [.lit (.bool true)], args := [d1, d2] }
  | _ => none }
def spansBackRow : OpenClaim := { program := "ytjlfjlafpgjhbaa", sum := "8d7d5ba46898976900bde3b39953f58b2e1a254096173a79f9db099b2775514b", func := "posthouse/posthouselaw03.SpansBack", spec := "spansBack", unfollowed := true, recurses := true, apart := false }
def SpansBackSaid : Prop := spansBackRow.holds Try.pinned (OpenSpec.ofChange spansBackSpec)

/-- ITS FALSE NEIGHBOUR: 'it returns false'. Refute it at one input. -/
def spansBackWrong : ChangeSpec := { name := "spansBack", fn := fun _ => fun
  | [d1, d2] => { results := [.lit (.bool false)], args := [d1, d2] }
  | _ => none }
def SpansBackWrongFalsely : Prop := spansBackRow.holds Try.pinned (OpenSpec.ofChange spansBackWrong)

/- THE SECOND FORM. 'bulk': how many values and letters a reading holds, each counted each time it is reached (what is shared counts as often as it is met; a slice's spare places count too). A statement '..UptoSaid' is the law's where the arguments, and the package variables that the reading takes, are together of bulk at most 1048576: NARROWER than '..Said'. Prove '..Said' where nothing that the law and all that it calls make is longer than what came in: it says more and counts as full. Else prove '..UptoSaid'. A law counts once. -/
mutual
def uptoBulk {H : Type} : DataW H → Nat
  | .lit (.string bytes) => bytes.length + 1
  | .lit _ => 1
  | .nil => 1
  | .ptr d => uptoBulk d + 1
  | .slice elems spare => uptoBulkAll elems + uptoBulkAll spare + 1
  | .agg parts => uptoBulkAll parts + 1
  | .iface _ d => uptoBulk d + 1
  | .map entries => uptoBulkEntries entries + 1
  | .held _ => 1
def uptoBulkAll {H : Type} : List (DataW H) → Nat
  | [] => 0
  | d :: r => uptoBulk d + uptoBulkAll r
def uptoBulkEntries {H : Type} : List (Lit × DataW H) → Nat
  | [] => 0
  | x :: r => uptoBulkEntry x + uptoBulkEntries r
def uptoBulkEntry {H : Type} : Lit × DataW H → Nat
  | (.string bytes, d) => bytes.length + uptoBulk d + 1
  | (_, d) => uptoBulk d + 1
 end
def uptoSmall : (H : Type) → List (DataW H) → Bool := fun _ ds => decide (uptoBulkAll ds ≤ 1048576)
def OpenSpec.upto (s : _root_.Go.ChangeSpec) : _root_.Go.OpenSpec := { _root_.Go.OpenSpec.ofChange s with cond := some uptoSmall }

/-- 'posthouselaw03.SpansTurn', WHERE WHAT IT READS IS OF BULK AT MOST 1048576: true; the input reads as it did. -/
def spansTurnUptoRow : OpenClaim := { program := "ytjlfjlafpgjhbaa", sum := "8d7d5ba46898976900bde3b39953f58b2e1a254096173a79f9db099b2775514b", func := "posthouse/posthouselaw03.SpansTurn", spec := "spansTurn", unfollowed := true, recurses := true, apart := false, narrowed := true }
def SpansTurnUptoSaid : Prop := spansTurnUptoRow.holds Try.pinned (OpenSpec.upto spansTurnSpec)

/-- 'posthouselaw03.SpansAsk', WHERE WHAT IT READS IS OF BULK AT MOST 1048576: true; the input reads as it did. -/
def spansAskUptoRow : OpenClaim := { program := "ytjlfjlafpgjhbaa", sum := "8d7d5ba46898976900bde3b39953f58b2e1a254096173a79f9db099b2775514b", func := "posthouse/posthouselaw03.SpansAsk", spec := "spansAsk", unfollowed := true, recurses := true, apart := false, narrowed := true }
def SpansAskUptoSaid : Prop := spansAskUptoRow.holds Try.pinned (OpenSpec.upto spansAskSpec)

/-- 'posthouselaw03.SpansPair', WHERE WHAT IT READS IS OF BULK AT MOST 1048576: true; the input reads as it did. -/
def spansPairUptoRow : OpenClaim := { program := "ytjlfjlafpgjhbaa", sum := "8d7d5ba46898976900bde3b39953f58b2e1a254096173a79f9db099b2775514b", func := "posthouse/posthouselaw03.SpansPair", spec := "spansPair", unfollowed := true, recurses := true, apart := false, narrowed := true }
def SpansPairUptoSaid : Prop := spansPairUptoRow.holds Try.pinned (OpenSpec.upto spansPairSpec)

/-- 'posthouselaw03.SpansPuts', WHERE WHAT IT READS IS OF BULK AT MOST 1048576: true; the input reads as it did. -/
def spansPutsUptoRow : OpenClaim := { program := "ytjlfjlafpgjhbaa", sum := "8d7d5ba46898976900bde3b39953f58b2e1a254096173a79f9db099b2775514b", func := "posthouse/posthouselaw03.SpansPuts", spec := "spansPuts", unfollowed := true, recurses := true, apart := false, narrowed := true }
def SpansPutsUptoSaid : Prop := spansPutsUptoRow.holds Try.pinned (OpenSpec.upto spansPutsSpec)

/-- 'posthouselaw03.SpansMember', WHERE WHAT IT READS IS OF BULK AT MOST 1048576: true; the input reads as it did. -/
def spansMemberUptoRow : OpenClaim := { program := "ytjlfjlafpgjhbaa", sum := "8d7d5ba46898976900bde3b39953f58b2e1a254096173a79f9db099b2775514b", func := "posthouse/posthouselaw03.SpansMember", spec := "spansMember", unfollowed := true, recurses := true, apart := false, narrowed := true }
def SpansMemberUptoSaid : Prop := spansMemberUptoRow.holds Try.pinned (OpenSpec.upto spansMemberSpec)

/-- 'posthouselaw03.SpansGets', WHERE WHAT IT READS IS OF BULK AT MOST 1048576: true; the input reads as it did. -/
def spansGetsUptoRow : OpenClaim := { program := "ytjlfjlafpgjhbaa", sum := "8d7d5ba46898976900bde3b39953f58b2e1a254096173a79f9db099b2775514b", func := "posthouse/posthouselaw03.SpansGets", spec := "spansGets", unfollowed := true, recurses := true, apart := false, narrowed := true }
def SpansGetsUptoSaid : Prop := spansGetsUptoRow.holds Try.pinned (OpenSpec.upto spansGetsSpec)

/-- 'posthouselaw03.SpansBack', WHERE WHAT IT READS IS OF BULK AT MOST 1048576: true; the input reads as it did. -/
def spansBackUptoRow : OpenClaim := { program := "ytjlfjlafpgjhbaa", sum := "8d7d5ba46898976900bde3b39953f58b2e1a254096173a79f9db099b2775514b", func := "posthouse/posthouselaw03.SpansBack", spec := "spansBack", unfollowed := true, recurses := true, apart := false, narrowed := true }
def SpansBackUptoSaid : Prop := spansBackUptoRow.holds Try.pinned (OpenSpec.upto spansBackSpec)

end Rows
end Go.Proofs.Ytjlfjlafpgjhbaa

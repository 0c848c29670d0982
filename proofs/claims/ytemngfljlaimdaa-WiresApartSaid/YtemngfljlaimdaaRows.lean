/-
  No cell of these rows narrows 'for every input' (looked for: loops, veiled, ifaces, maps, wideKeys, modest, calm, conditions, laid).
  DERIVED. THE GIVEN ROWS OF THIS SEAT. 4 by the template 'for every input the law returns true; each argument reads behind the call as it read before'; 0 by the template 'total and deterministic' (their statements: YtemngfljlaimdaaTotals.lean).
  GIVEN WITH THE SEED: the statements are not yours to turn. If you find one false, say at which input.
  Laid BY PROGRAM, IN A SANDBOX (cutbox-rows.mjs): the forced cells as the released guide's own fill.sh prints them over the translation df93dfda3fffdc23… (all of the seat's roots in one cut). By AI agents, Wed Nov 11 2026. No macro, syntax, notation, axiom, sorry.
-/
import Derived.Test.YtemngfljlaimdaaChecked
import GoSem.Claim
import GoSem.ClaimJoined
import GoSem.ClaimMapViews
import Derived.JoinedTies
import Derived.KernelRfl
namespace Go.Proofs.Ytemngfljlaimdaa
/- THE CELL 'sum', in the pinned program and in every row, IS THE sha256 OF THE DUMP (.gsa) THAT YtemngfljlaimdaaProg.lean LOADS. Nothing in Lean hashes anything: it is a label: what it is worth is what the hold of that sum in a sandbox is worth. -/
noncomputable def Try.pinned : Pinned := { name := "ytemngfljlaimdaa", sum := "df93dfda3fffdc23457542b6e3b073dacdba0dc8e4d5c6c6af03298b148f3e4c", checked := Try.checked }
namespace Rows
def none {H : Type} : Left H := { results := [], args := [] }

/-- 'posthouselaw24.WiresOrder': WHATEVER THE INPUT: true; the input reads as it did. -/
def wiresOrderSpec : ChangeSpec := { name := "wiresOrder", fn := fun _ => fun
  | [d1, d2] => { results := [.lit (.bool true)], args := [d1, d2] }
  | _ => none }
def wiresOrderRow : OpenClaim := { program := "ytemngfljlaimdaa", sum := "df93dfda3fffdc23457542b6e3b073dacdba0dc8e4d5c6c6af03298b148f3e4c", func := "posthouse/posthouselaw24.WiresOrder", spec := "wiresOrder", unfollowed := true, recurses := true, plainKeys := false, apart := false }
def WiresOrderSaid : Prop := wiresOrderRow.holds Try.pinned (OpenSpec.ofChange wiresOrderSpec)

/-- ITS FALSE NEIGHBOUR: 'it returns false'. Refute it at one input. -/
def wiresOrderWrong : ChangeSpec := { name := "wiresOrder", fn := fun _ => fun
  | [d1, d2] => { results := [.lit (.bool false)], args := [d1, d2] }
  | _ => none }
def WiresOrderWrongFalsely : Prop := wiresOrderRow.holds Try.pinned (OpenSpec.ofChange wiresOrderWrong)

/-- 'posthouselaw24.WiresPlay': WHATEVER THE INPUT: true; the input reads as it did. -/
def wiresPlaySpec : ChangeSpec := { name := "wiresPlay", fn := fun _ => fun
  | [d] => { results := [.lit (.bool true)], args := [d] }
  | _ => none }
def wiresPlayRow : OpenClaim := { program := "ytemngfljlaimdaa", sum := "df93dfda3fffdc23457542b6e3b073dacdba0dc8e4d5c6c6af03298b148f3e4c", func := "posthouse/posthouselaw24.WiresPlay", spec := "wiresPlay", unfollowed := true, recurses := true, plainKeys := false, apart := false }
def WiresPlaySaid : Prop := wiresPlayRow.holds Try.pinned (OpenSpec.ofChange wiresPlaySpec)

/-- ITS FALSE NEIGHBOUR: 'it returns false'. Refute it at one input. -/
def wiresPlayWrong : ChangeSpec := { name := "wiresPlay", fn := fun _ => fun
  | [d] => { results := [.lit (.bool false)], args := [d] }
  | _ => none }
def WiresPlayWrongFalsely : Prop := wiresPlayRow.holds Try.pinned (OpenSpec.ofChange wiresPlayWrong)

/-- 'posthouselaw24.WiresApart': WHATEVER THE INPUT: true; the input reads as it did. -/
def wiresApartSpec : ChangeSpec := { name := "wiresApart", fn := fun _ => fun
  | [d1, d2] => { results := [.lit (.bool true)], args := [d1, d2] }
  | _ => none }
def wiresApartRow : OpenClaim := { program := "ytemngfljlaimdaa", sum := "df93dfda3fffdc23457542b6e3b073dacdba0dc8e4d5c6c6af03298b148f3e4c", func := "posthouse/posthouselaw24.WiresApart", spec := "wiresApart", unfollowed := true, recurses := true, plainKeys := false, apart := false }
def WiresApartSaid : Prop := wiresApartRow.holds Try.pinned (OpenSpec.ofChange wiresApartSpec)

/-- ITS FALSE NEIGHBOUR: 'it returns false'. Refute it at one input. -/
def wiresApartWrong : ChangeSpec := { name := "wiresApart", fn := fun _ => fun
  | [d1, d2] => { results := [.lit (.bool false)], args := [d1, d2] }
  | _ => none }
def WiresApartWrongFalsely : Prop := wiresApartRow.holds Try.pinned (OpenSpec.ofChange wiresApartWrong)

/-- 'posthouselaw24.WiresNone': WHATEVER THE INPUT: true; the input reads as it did. -/
def wiresNoneSpec : ChangeSpec := { name := "wiresNone", fn := fun _ => fun
  | [d] => { results := [.lit (.bool true)], args := [d] }
  | _ => none }
def wiresNoneRow : OpenClaim := { program := "ytemngfljlaimdaa", sum := "df93dfda3fffdc23457542b6e3b073dacdba0dc8e4d5c6c6af03298b148f3e4c", func := "posthouse/posthouselaw24.WiresNone", spec := "wiresNone", unfollowed := true, recurses := true, plainKeys := false, apart := false }
def WiresNoneSaid : Prop := wiresNoneRow.holds Try.pinned (OpenSpec.ofChange wiresNoneSpec)

/-- ITS FALSE NEIGHBOUR: 'it returns false'. Refute it at one input. -/
def wiresNoneWrong : ChangeSpec := { name := "wiresNone", fn := fun _ => fun
  | [d] => { results := [.lit (.bool false)], args := [d] }
  | _ => none }
def WiresNoneWrongFalsely : Prop := wiresNoneRow.holds Try.pinned (OpenSpec.ofChange wiresNoneWrong)

/- THE SECOND FORM. 'bulk': how many values and letters a reading holds, each counted each time it is reached (what is shared counts as often as it is met; a slice's spare places count too). A statement '..UptoSaid' is the law's where the arguments, and the package variables that the reading takes, are together of bulk at most 1048576: NARROWER than '..Said'. Prove '..Said' where nothing that the law and all that it calls make is longer than what came in: it says more and counts as full. Else prove '..UptoSaid'. A law counts once. -/
mutual
def uptoBulk {H : Type} : DataW H → Nat
  | .lit (.string bytes) => bytes.length + 1
  | .lit _ => 1
  | .nil => 1
  | .ptr d => uptoBulk d + 1
  | .slice elems spare => uptoBulkAll elems + uptoBulkAll spare + 1
  | .agg parts => uptoBulkAll parts + 1
  | .iface _ d => uptoBulk d + 1
  | .map entries => uptoBulkEntries entries + 1
  | .held _ => 1
def uptoBulkAll {H : Type} : List (DataW H) → Nat
  | [] => 0
  | d :: r => uptoBulk d + uptoBulkAll r
def uptoBulkEntries {H : Type} : List (Lit × DataW H) → Nat
  | [] => 0
  | x :: r => uptoBulkEntry x + uptoBulkEntries r
def uptoBulkEntry {H : Type} : Lit × DataW H → Nat
  | (.string bytes, d) => bytes.length + uptoBulk d + 1
  | (_, d) => uptoBulk d + 1
 end
def uptoSmall : (H : Type) → List (DataW H) → Bool := fun _ ds => decide (uptoBulkAll ds ≤ 1048576)
def OpenSpec.upto (s : _root_.Go.ChangeSpec) : _root_.Go.OpenSpec := { _root_.Go.OpenSpec.ofChange s with cond := some uptoSmall }

/-- 'posthouselaw24.WiresOrder', WHERE WHAT IT READS IS OF BULK AT MOST 1048576: true; the input reads as it did. -/
def wiresOrderUptoRow : OpenClaim := { program := "ytemngfljlaimdaa", sum := "df93dfda3fffdc23457542b6e3b073dacdba0dc8e4d5c6c6af03298b148f3e4c", func := "posthouse/posthouselaw24.WiresOrder", spec := "wiresOrder", unfollowed := true, recurses := true, plainKeys := false, apart := false, narrowed := true }
def WiresOrderUptoSaid : Prop := wiresOrderUptoRow.holds Try.pinned (OpenSpec.upto wiresOrderSpec)

/-- 'posthouselaw24.WiresPlay', WHERE WHAT IT READS IS OF BULK AT MOST 1048576: true; the input reads as it did. -/
def wiresPlayUptoRow : OpenClaim := { program := "ytemngfljlaimdaa", sum := "df93dfda3fffdc23457542b6e3b073dacdba0dc8e4d5c6c6af03298b148f3e4c", func := "posthouse/posthouselaw24.WiresPlay", spec := "wiresPlay", unfollowed := true, recurses := true, plainKeys := false, apart := false, narrowed := true }
def WiresPlayUptoSaid : Prop := wiresPlayUptoRow.holds Try.pinned (OpenSpec.upto wiresPlaySpec)

/-- 'posthouselaw24.WiresApart', WHERE WHAT IT READS IS OF BULK AT MOST 1048576: true; the input reads as it did. -/
def wiresApartUptoRow : OpenClaim := { program := "ytemngfljlaimdaa", sum := "df93dfda3fffdc23457542b6e3b073dacdba0dc8e4d5c6c6af03298b148f3e4c", func := "posthouse/posthouselaw24.WiresApart", spec := "wiresApart", unfollowed := true, recurses := true, plainKeys := false, apart := false, narrowed := true }
def WiresApartUptoSaid : Prop := wiresApartUptoRow.holds Try.pinned (OpenSpec.upto wiresApartSpec)

/-- 'posthouselaw24.WiresNone', WHERE WHAT IT READS IS OF BULK AT MOST 1048576: true; the input reads as it did. -/
def wiresNoneUptoRow : OpenClaim := { program := "ytemngfljlaimdaa", sum := "df93dfda3fffdc23457542b6e3b073dacdba0dc8e4d5c6c6af03298b148f3e4c", func := "posthouse/posthouselaw24.WiresNone", spec := "wiresNone", unfollowed := true, recurses := true, plainKeys := false, apart := false, narrowed := true }
def WiresNoneUptoSaid : Prop := wiresNoneUptoRow.holds Try.pinned (OpenSpec.upto wiresNoneSpec)

end Rows
end Go.Proofs.Ytemngfljlaimdaa

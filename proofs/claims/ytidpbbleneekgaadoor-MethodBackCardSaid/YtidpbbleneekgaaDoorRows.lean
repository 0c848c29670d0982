/-
  NARROWER THAN 'FOR EVERY INPUT', by the rows' own cells (each row's printed sentence says how): MethodBack: loops, laid · MethodOne: loops, laid · MethodTable: laid · MethodNamed: laid · MethodLeads: laid.
  DERIVED. THE GIVEN ROWS OF THIS SEAT. 5 by the template 'for every input the law returns true; each argument reads behind the call as it read before'; 0 by the template 'total and deterministic' (their statements: YtidpbbleneekgaaDoorTotals.lean).
  GIVEN WITH THE SEED: the statements are not yours to turn. If you find one false, say at which input.
  Laid BY PROGRAM, IN A SANDBOX (cutbox-rows.mjs): the forced cells as the released guide's own fill.sh prints them over the translation 7f774602bc116554… (all of the seat's roots in one cut). By AI agents, Wed Nov 11 2026. No macro, syntax, notation, axiom, sorry.
-/
import Derived.Test.YtidpbbleneekgaaDoorChecked
import GoSem.PinnedTables
import GoSem.Claim
import GoSem.ClaimJoined
import GoSem.ClaimMapViews
import Derived.JoinedTies
import Derived.KernelRfl
namespace Go.Proofs.YtidpbbleneekgaaDoor
/- THE CELL 'sum', in the pinned program and in every row, IS THE sha256 OF THE DUMP (.gsa) THAT YtidpbbleneekgaaDoorProg.lean LOADS. Nothing in Lean hashes anything: it is a label: what it is worth is what the hold of that sum in a sandbox is worth. -/
noncomputable def Tryd.pinned : Pinned := { name := "ytidpbbleneekgaadoor", sum := "7f774602bc116554acc86eba1bf3db21b88a816a4bd71eac52c5111f236ec5e8", checked := Tryd.checked }
namespace Rows
def none {H : Type} : Left H := { results := [], args := [] }

/- WHAT THE LISTED PACKAGE-LEVEL VARIABLES READ AS WHEN THE CALL BEGINS. Each datum BY PROGRAM (the guide's laid-datum.mjs) off the statement by which the dump's own 'gosem.cut.vars' lays the variable. In a bare row this is a premise. The card (YtidpbbleneekgaaDoorCards.lean) ties it to the program's text. -/
def laid_unicode_utf8_acceptRanges {H : Type} : DataW H := .agg [.agg [.lit (.int .u8 128), .lit (.int .u8 191)], .agg [.lit (.int .u8 160), .lit (.int .u8 191)], .agg [.lit (.int .u8 128), .lit (.int .u8 159)], .agg [.lit (.int .u8 144), .lit (.int .u8 191)], .agg [.lit (.int .u8 128), .lit (.int .u8 143)], .agg [.lit (.int .u8 0), .lit (.int .u8 0)], .agg [.lit (.int .u8 0), .lit (.int .u8 0)], .agg [.lit (.int .u8 0), .lit (.int .u8 0)], .agg [.lit (.int .u8 0), .lit (.int .u8 0)], .agg [.lit (.int .u8 0), .lit (.int .u8 0)], .agg [.lit (.int .u8 0), .lit (.int .u8 0)], .agg [.lit (.int .u8 0), .lit (.int .u8 0)], .agg [.lit (.int .u8 0), .lit (.int .u8 0)], .agg [.lit (.int .u8 0), .lit (.int .u8 0)], .agg [.lit (.int .u8 0), .lit (.int .u8 0)], .agg [.lit (.int .u8 0), .lit (.int .u8 0)]]
/-- One of Go's own tables, pinned by name: the form's constant. -/
def laid_unicode_utf8_first : DataW Unit := Go.Pinned.utf8First

/-- 'posthouselaw08.MethodBack': WHATEVER THE INPUT: true; the input reads as it did. -/
def methodBackSpec : ChangeSpec := { name := "methodBack", fn := fun _ => fun
  | [d1, d2] => { results := [.lit (.bool true)], args := [d1, d2] }
  | _ => none }
def methodBackRow : OpenClaim := { program := "ytidpbbleneekgaadoor", sum := "7f774602bc116554acc86eba1bf3db21b88a816a4bd71eac52c5111f236ec5e8", func := "posthouse/posthouselaw08.MethodBack", spec := "methodBack", inPlace := ["internal/bytealg.CountString", "internal/bytealg.IndexByteString", "internal/bytealg.IndexString"], unfollowed := true, recurses := true, named := ["unicode/utf8.first", "unicode/utf8.acceptRanges", "internal/bytealg.MaxLen"], loops := true, apart := false, laid := [("unicode/utf8.acceptRanges", laid_unicode_utf8_acceptRanges), ("unicode/utf8.first", laid_unicode_utf8_first)] }
def MethodBackSaid : Prop := methodBackRow.holds Tryd.pinned (OpenSpec.ofChange methodBackSpec)

/-- ITS FALSE NEIGHBOUR: 'it returns false'. Refute it at one input. -/
def methodBackWrong : ChangeSpec := { name := "methodBack", fn := fun _ => fun
  | [d1, d2] => { results := [.lit (.bool false)], args := [d1, d2] }
  | _ => none }
def MethodBackWrongFalsely : Prop := methodBackRow.holds Tryd.pinned (OpenSpec.ofChange methodBackWrong)

/-- 'posthouselaw08.MethodOne': WHATEVER THE INPUT: true; the input reads as it did. -/
def methodOneSpec : ChangeSpec := { name := "methodOne", fn := fun _ => fun
  | [d1, d2] => { results := [.lit (.bool true)], args := [d1, d2] }
  | _ => none }
def methodOneRow : OpenClaim := { program := "ytidpbbleneekgaadoor", sum := "7f774602bc116554acc86eba1bf3db21b88a816a4bd71eac52c5111f236ec5e8", func := "posthouse/posthouselaw08.MethodOne", spec := "methodOne", inPlace := ["internal/bytealg.CountString", "internal/bytealg.IndexByteString", "internal/bytealg.IndexString"], unfollowed := true, recurses := true, named := ["unicode/utf8.first", "unicode/utf8.acceptRanges", "internal/bytealg.MaxLen"], loops := true, apart := false, laid := [("unicode/utf8.acceptRanges", laid_unicode_utf8_acceptRanges), ("unicode/utf8.first", laid_unicode_utf8_first)] }
def MethodOneSaid : Prop := methodOneRow.holds Tryd.pinned (OpenSpec.ofChange methodOneSpec)

/-- ITS FALSE NEIGHBOUR: 'it returns false'. Refute it at one input. -/
def methodOneWrong : ChangeSpec := { name := "methodOne", fn := fun _ => fun
  | [d1, d2] => { results := [.lit (.bool false)], args := [d1, d2] }
  | _ => none }
def MethodOneWrongFalsely : Prop := methodOneRow.holds Tryd.pinned (OpenSpec.ofChange methodOneWrong)

/-- 'posthouselaw08.MethodTable': WHATEVER THE INPUT: true; the input reads as it did. -/
def methodTableSpec : ChangeSpec := { name := "methodTable", fn := fun _ => fun
  | [d1, d2] => { results := [.lit (.bool true)], args := [d1, d2] }
  | _ => none }
def methodTableRow : OpenClaim := { program := "ytidpbbleneekgaadoor", sum := "7f774602bc116554acc86eba1bf3db21b88a816a4bd71eac52c5111f236ec5e8", func := "posthouse/posthouselaw08.MethodTable", spec := "methodTable", inPlace := ["internal/bytealg.CountString", "internal/bytealg.IndexByteString", "internal/bytealg.IndexString"], unfollowed := true, recurses := true, named := ["unicode/utf8.first", "unicode/utf8.acceptRanges", "internal/bytealg.MaxLen"], apart := false, laid := [("unicode/utf8.acceptRanges", laid_unicode_utf8_acceptRanges), ("unicode/utf8.first", laid_unicode_utf8_first)] }
def MethodTableSaid : Prop := methodTableRow.holds Tryd.pinned (OpenSpec.ofChange methodTableSpec)

/-- ITS FALSE NEIGHBOUR: 'it returns false'. Refute it at one input. -/
def methodTableWrong : ChangeSpec := { name := "methodTable", fn := fun _ => fun
  | [d1, d2] => { results := [.lit (.bool false)], args := [d1, d2] }
  | _ => none }
def MethodTableWrongFalsely : Prop := methodTableRow.holds Tryd.pinned (OpenSpec.ofChange methodTableWrong)

/-- 'posthouselaw08.MethodNamed': WHATEVER THE INPUT: true; the input reads as it did. -/
def methodNamedSpec : ChangeSpec := { name := "methodNamed", fn := fun _ => fun
  | [d] => { results := [.lit (.bool true)], args := [d] }
  | _ => none }
def methodNamedRow : OpenClaim := { program := "ytidpbbleneekgaadoor", sum := "7f774602bc116554acc86eba1bf3db21b88a816a4bd71eac52c5111f236ec5e8", func := "posthouse/posthouselaw08.MethodNamed", spec := "methodNamed", inPlace := ["internal/bytealg.CountString", "internal/bytealg.IndexByteString", "internal/bytealg.IndexString"], unfollowed := true, recurses := true, named := ["unicode/utf8.first", "unicode/utf8.acceptRanges", "internal/bytealg.MaxLen"], apart := false, laid := [("unicode/utf8.acceptRanges", laid_unicode_utf8_acceptRanges), ("unicode/utf8.first", laid_unicode_utf8_first)] }
def MethodNamedSaid : Prop := methodNamedRow.holds Tryd.pinned (OpenSpec.ofChange methodNamedSpec)

/-- ITS FALSE NEIGHBOUR: 'it returns false'. Refute it at one input. -/
def methodNamedWrong : ChangeSpec := { name := "methodNamed", fn := fun _ => fun
  | [d] => { results := [.lit (.bool false)], args := [d] }
  | _ => none }
def MethodNamedWrongFalsely : Prop := methodNamedRow.holds Tryd.pinned (OpenSpec.ofChange methodNamedWrong)

/-- 'posthouselaw08.MethodLeads': WHATEVER THE INPUT: true; the input reads as it did. -/
def methodLeadsSpec : ChangeSpec := { name := "methodLeads", fn := fun _ => fun
  | [d1, d2] => { results := [.lit (.bool true)], args := [d1, d2] }
  | _ => none }
def methodLeadsRow : OpenClaim := { program := "ytidpbbleneekgaadoor", sum := "7f774602bc116554acc86eba1bf3db21b88a816a4bd71eac52c5111f236ec5e8", func := "posthouse/posthouselaw08.MethodLeads", spec := "methodLeads", inPlace := ["internal/bytealg.CountString", "internal/bytealg.IndexByteString", "internal/bytealg.IndexString"], unfollowed := true, recurses := true, named := ["unicode/utf8.first", "unicode/utf8.acceptRanges", "internal/bytealg.MaxLen"], apart := false, laid := [("unicode/utf8.acceptRanges", laid_unicode_utf8_acceptRanges), ("unicode/utf8.first", laid_unicode_utf8_first)] }
def MethodLeadsSaid : Prop := methodLeadsRow.holds Tryd.pinned (OpenSpec.ofChange methodLeadsSpec)

/-- ITS FALSE NEIGHBOUR: 'it returns false'. Refute it at one input. -/
def methodLeadsWrong : ChangeSpec := { name := "methodLeads", fn := fun _ => fun
  | [d1, d2] => { results := [.lit (.bool false)], args := [d1, d2] }
  | _ => none }
def MethodLeadsWrongFalsely : Prop := methodLeadsRow.holds Tryd.pinned (OpenSpec.ofChange methodLeadsWrong)

/- THE SECOND FORM. 'bulk': how many values and letters a reading holds, each counted each time it is reached (what is shared counts as often as it is met; a slice's spare places count too). A statement '..UptoSaid' is the law's where the arguments, and the package variables that the reading takes, are together of bulk at most 1048576: NARROWER than '..Said'. Prove '..Said' where nothing that the law and all that it calls make is longer than what came in: it says more and counts as full. Else prove '..UptoSaid'. A law counts once. -/
mutual
def uptoBulk {H : Type} : DataW H → Nat
  | .lit (.string bytes) => bytes.length + 1
  | .lit _ => 1
  | .nil => 1
  | .ptr d => uptoBulk d + 1
  | .slice elems spare => uptoBulkAll elems + uptoBulkAll spare + 1
  | .agg parts => uptoBulkAll parts + 1
  | .iface _ d => uptoBulk d + 1
  | .map entries => uptoBulkEntries entries + 1
  | .held _ => 1
def uptoBulkAll {H : Type} : List (DataW H) → Nat
  | [] => 0
  | d :: r => uptoBulk d + uptoBulkAll r
def uptoBulkEntries {H : Type} : List (Lit × DataW H) → Nat
  | [] => 0
  | x :: r => uptoBulkEntry x + uptoBulkEntries r
def uptoBulkEntry {H : Type} : Lit × DataW H → Nat
  | (.string bytes, d) => bytes.length + uptoBulk d + 1
  | (_, d) => uptoBulk d + 1
 end
def uptoSmall : (H : Type) → List (DataW H) → Bool := fun _ ds => decide (uptoBulkAll ds ≤ 1048576)
def OpenSpec.upto (s : _root_.Go.ChangeSpec) : _root_.Go.OpenSpec := { _root_.Go.OpenSpec.ofChange s with cond := some uptoSmall }

/-- 'posthouselaw08.MethodBack', WHERE WHAT IT READS IS OF BULK AT MOST 1048576: true; the input reads as it did. -/
def methodBackUptoRow : OpenClaim := { program := "ytidpbbleneekgaadoor", sum := "7f774602bc116554acc86eba1bf3db21b88a816a4bd71eac52c5111f236ec5e8", func := "posthouse/posthouselaw08.MethodBack", spec := "methodBack", inPlace := ["internal/bytealg.CountString", "internal/bytealg.IndexByteString", "internal/bytealg.IndexString"], unfollowed := true, recurses := true, named := ["unicode/utf8.first", "unicode/utf8.acceptRanges", "internal/bytealg.MaxLen"], loops := true, apart := false, laid := [("unicode/utf8.acceptRanges", laid_unicode_utf8_acceptRanges), ("unicode/utf8.first", laid_unicode_utf8_first)], narrowed := true }
def MethodBackUptoSaid : Prop := methodBackUptoRow.holds Tryd.pinned (OpenSpec.upto methodBackSpec)

/-- 'posthouselaw08.MethodOne', WHERE WHAT IT READS IS OF BULK AT MOST 1048576: true; the input reads as it did. -/
def methodOneUptoRow : OpenClaim := { program := "ytidpbbleneekgaadoor", sum := "7f774602bc116554acc86eba1bf3db21b88a816a4bd71eac52c5111f236ec5e8", func := "posthouse/posthouselaw08.MethodOne", spec := "methodOne", inPlace := ["internal/bytealg.CountString", "internal/bytealg.IndexByteString", "internal/bytealg.IndexString"], unfollowed := true, recurses := true, named := ["unicode/utf8.first", "unicode/utf8.acceptRanges", "internal/bytealg.MaxLen"], loops := true, apart := false, laid := [("unicode/utf8.acceptRanges", laid_unicode_utf8_acceptRanges), ("unicode/utf8.first", laid_unicode_utf8_first)], narrowed := true }
def MethodOneUptoSaid : Prop := methodOneUptoRow.holds Tryd.pinned (OpenSpec.upto methodOneSpec)

/-- 'posthouselaw08.MethodTable', WHERE WHAT IT READS IS OF BULK AT MOST 1048576: true; the input reads as it did. -/
def methodTableUptoRow : OpenClaim := { program := "ytidpbbleneekgaadoor", sum := "7f774602bc116554acc86eba1bf3db21b88a816a4bd71eac52c5111f236ec5e8", func := "posthouse/posthouselaw08.MethodTable", spec := "methodTable", inPlace := ["internal/bytealg.CountString", "internal/bytealg.IndexByteString", "internal/bytealg.IndexString"], unfollowed := true, recurses := true, named := ["unicode/utf8.first", "unicode/utf8.acceptRanges", "internal/bytealg.MaxLen"], apart := false, laid := [("unicode/utf8.acceptRanges", laid_unicode_utf8_acceptRanges), ("unicode/utf8.first", laid_unicode_utf8_first)], narrowed := true }
def MethodTableUptoSaid : Prop := methodTableUptoRow.holds Tryd.pinned (OpenSpec.upto methodTableSpec)

/-- 'posthouselaw08.MethodNamed', WHERE WHAT IT READS IS OF BULK AT MOST 1048576: true; the input reads as it did. -/
def methodNamedUptoRow : OpenClaim := { program := "ytidpbbleneekgaadoor", sum := "7f774602bc116554acc86eba1bf3db21b88a816a4bd71eac52c5111f236ec5e8", func := "posthouse/posthouselaw08.MethodNamed", spec := "methodNamed", inPlace := ["internal/bytealg.CountString", "internal/bytealg.IndexByteString", "internal/bytealg.IndexString"], unfollowed := true, recurses := true, named := ["unicode/utf8.first", "unicode/utf8.acceptRanges", "internal/bytealg.MaxLen"], apart := false, laid := [("unicode/utf8.acceptRanges", laid_unicode_utf8_acceptRanges), ("unicode/utf8.first", laid_unicode_utf8_first)], narrowed := true }
def MethodNamedUptoSaid : Prop := methodNamedUptoRow.holds Tryd.pinned (OpenSpec.upto methodNamedSpec)

/-- 'posthouselaw08.MethodLeads', WHERE WHAT IT READS IS OF BULK AT MOST 1048576: true; the input reads as it did. -/
def methodLeadsUptoRow : OpenClaim := { program := "ytidpbbleneekgaadoor", sum := "7f774602bc116554acc86eba1bf3db21b88a816a4bd71eac52c5111f236ec5e8", func := "posthouse/posthouselaw08.MethodLeads", spec := "methodLeads", inPlace := ["internal/bytealg.CountString", "internal/bytealg.IndexByteString", "internal/bytealg.IndexString"], unfollowed := true, recurses := true, named := ["unicode/utf8.first", "unicode/utf8.acceptRanges", "internal/bytealg.MaxLen"], apart := false, laid := [("unicode/utf8.acceptRanges", laid_unicode_utf8_acceptRanges), ("unicode/utf8.first", laid_unicode_utf8_first)], narrowed := true }
def MethodLeadsUptoSaid : Prop := methodLeadsUptoRow.holds Tryd.pinned (OpenSpec.upto methodLeadsSpec)

end Rows
end Go.Proofs.YtidpbbleneekgaaDoor

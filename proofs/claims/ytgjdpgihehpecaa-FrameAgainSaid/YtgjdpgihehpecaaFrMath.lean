/- Frames as plain mathematics. No program in sight. -/
import Derived.Test.YtgjdpgihehpecaaOctMath
namespace Go.PH

structure Fr where
  first : Bool
  last : Bool
  beg : Bool
  fin : Bool
  ty : Nat
  track : Nat
  chan : Nat
  load : List UInt8
deriving DecidableEq
/-- what memory can hold -/
def Fr.wf (f : Fr) : Prop := f.ty < 256 ∧ f.track < 256 ∧ f.chan < 65536
def bitv (b : Bool) (n : Nat) : Nat := if b then n else 0
def Fr.flags (f : Fr) : Nat := bitv f.first 8 + bitv f.last 4 + bitv f.beg 2 + bitv f.fin 1
def Fr.ok (f : Fr) : Bool := decide (f.ty ≤ 3) && decide (f.track ≤ 15) && decide (f.load.length ≤ 4084)
def Fr.err (f : Fr) : Nat := if f.ok then 0 else 60
def Fr.bytes (f : Fr) : List UInt8 := [UInt8.ofNat f.flags, UInt8.ofNat f.ty] ++ be 2 (12 + f.load.length) ++ [0, UInt8.ofNat f.track] ++ be 2 f.chan ++ [0, 0, 0, 0] ++ f.load
def Fr.put (f : Fr) : List UInt8 := if f.ok then f.bytes else []
theorem Fr.flags_lt (f : Fr) : f.flags < 16 := by
  unfold Fr.flags bitv
  cases f.first <;> cases f.last <;> cases f.beg <;> cases f.fin <;> decide
end Go.PH

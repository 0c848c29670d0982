/- Texts laid together: GtMath. -/
import Derived.Test.YtcfhnnbgghbjfaaMg04
section
/- Global transactions as plain mathematics: what may be, how they turn. No program in sight. -/
set_option linter.all false
set_option linter.unusedSimpArgs false
set_option linter.unusedVariables false
namespace Go.PH

/-- a part: its node, its branch's name, its state -/
structure Pt where
  node : Nat
  x : Xd
  st : Nat
deriving DecidableEq
/-- a global transaction -/
structure Gl where
  x : Xd
  st : Nat
  com : Bool
  parts : List Pt
  wait : Nat
  tries : Nat
deriving DecidableEq
/-- a letter -/
structure Lt where
  kind : Nat
  x : Xd
  xa : Nat
  no : Nat
  names : List Xd
deriving DecidableEq
def xd0' : Xd := ⟨0, [], []⟩
def Pt.wf (p : Pt) : Prop := p.node < 256 ∧ p.x.wf ∧ p.st < 256
def Gl.wf (g : Gl) : Prop := g.x.wf ∧ g.st < 256 ∧ (∀ p ∈ g.parts, p.wf) ∧ g.wait < 4294967296 ∧ g.tries < 4294967296
def Lt.wf (l : Lt) : Prop := l.kind < 256 ∧ l.x.wf ∧ l.xa < 256 ∧ l.no < 65536 ∧ ∀ x ∈ l.names, x.wf
/-- parts that may be, behind one of a node -/
def partsOk (X : Xd) : Nat → List Pt → Bool
  | _, [] => true
  | last, p :: l => decide (last < p.node) && decide (p.node ≤ 8) && decide (p.st = 0) && p.x.ok && decide (p.x.fmt = X.fmt ∧ p.x.glob = X.glob) && partsOk X p.node l
/-- a decision that may be -/
def dcOk (X : Xd) (l : List Pt) : Bool := X.ok && X.bran.isEmpty && decide (1 ≤ l.length) && decide (l.length ≤ 8) && partsOk X 0 l
def Pt.to (s : Nat) (p : Pt) : Pt := { p with st := s }
/-- parts, all in one state -/
def allTo (s : Nat) (l : List Pt) : List Pt := l.map (Pt.to s)
/-- is a part of some states? -/
def hasSt (S : List Nat) (l : List Pt) : Bool := l.any fun p => S.contains p.st
def onlySt (S : List Nat) (l : List Pt) : Bool := l.all fun p => S.contains p.st
def stateOk (g : Gl) : Bool :=
  if g.st = 1 then !g.com && onlySt [0] g.parts
  else if g.st = 2 then !g.com && onlySt [0, 1, 2] g.parts
  else if g.st = 3 then g.com && !hasSt [0] g.parts && hasSt [1] g.parts
  else if g.st = 4 then !g.com && hasSt [0, 1] g.parts
  else if g.st = 5 then !hasSt [0, 1] g.parts
  else false
def Gl.ok (g : Gl) : Bool := dcOk g.x (allTo 0 g.parts) && onlySt [0, 1, 2, 3, 4] g.parts && decide (g.wait ≤ 3) && decide (g.tries ≤ 5) && stateOk g
def Gl.err (g : Gl) : Nat := if g.ok then 0 else 270
def gl0 : Gl := ⟨xd0', 0, false, [], 0, 0⟩
/-- it ends, where nothing is left to do -/
def Gl.ends (g : Gl) : Gl := if (g.st = 3 ∨ g.st = 4) ∧ hasSt [0, 1] g.parts = false then { g with st := 5, wait := 0, tries := 0 } else g
def Gl.to (g : Gl) (s : Nat) : Gl := Gl.ends { g with st := s, wait := 0, tries := 0, com := decide (s = 3) }
def Gl.ready (g : Gl) : Bool := g.ok && decide (g.st = 2) && !hasSt [0] g.parts
def Gl.ask (g : Gl) (c : Bool) : Gl × Nat := if g.ok = false then (gl0, 270) else if g.st ≠ 1 then (gl0, 9) else if c then (g.to 2, 0) else (g.to 4, 0)
def Gl.decide' (g : Gl) : Gl × Nat := if g.ok = false then (gl0, 270) else if g.ready = false then (gl0, 9) else (g.to 3, 0)
def Gl.abort (g : Gl) : Gl × Nat := if g.ok = false then (gl0, 270) else if g.st ≠ 2 then (gl0, 9) else (g.to 4, 0)
def Gl.tick (g : Gl) : Gl × Bool × Nat :=
  if g.ok = false then (gl0, false, 270)
  else if g.st = 1 ∨ g.st = 5 then (g, false, 0)
  else if 0 < g.wait then ({ g with wait := g.wait - 1 }, false, 0)
  else
    let h := if g.st = 2 ∧ g.tries = 5 then g.to 4 else g
    if g.st = 2 ∧ g.tries = 5 ∧ h.st = 5 then (h, true, 0) else ({ h with wait := 2, tries := min (h.tries + 1) 5 }, true, 0)
def dig1 (n : Nat) : List UInt8 := [UInt8.ofNat (48 + n % 10)]
/-- the parts of nodes -/
def newParts (x : Xd) (l : List Nat) : List Pt := l.map fun n => ⟨n, ⟨x.fmt, x.glob, dig1 n⟩, 0⟩
def newGl (x : Xd) (l : List Nat) : Gl := ⟨x, 1, false, newParts x l, 0, 0⟩
def Gl.new (x : Xd) (l : List Nat) : Gl × Nat :=
  if x.ok = false ∨ x.bran ≠ [] then (gl0, 270) else if (newGl x l).ok = false then (gl0, 2) else (newGl x l, 0)
def Gl.restore (x : Xd) (l : List Pt) : Gl × Nat := if dcOk x l = false then (gl0, 260) else (⟨x, 3, true, allTo 1 l, 0, 0⟩, 0)
/-- letters that may be -/
def ltOk (l : Lt) : Bool :=
  let ans := decide (16 < l.kind)
  let k := if ans then l.kind - 16 else l.kind
  let rec_ := decide (k = 5)
  decide (1 ≤ k ∧ k ≤ 5) && (if rec_ then decide (l.x = xd0') else l.x.ok) && decide (l.xa ≤ 7) && decide (l.no ≤ 999) && decide (l.xa = 0 ∨ l.no = 0) &&
    (if !ans || rec_ then decide (l.xa = 0 ∧ l.no = 0) else true) && (decide (l.names = []) || (rec_ && ans)) && decide (l.names.length ≤ 200) && decide (l.names = xdSort l.names)
def ltErr (l : Lt) : Nat := if ltOk l then 0 else 250
/-- what an end makes of a part -/
def ended (xa no : Nat) : Nat × Bool := if xa = 0 ∧ (no = 0 ∨ no = 7) then (2, true) else if xa = 4 then (3, true) else if xa = 5 then (4, true) else (0, false)
/-- what a vote makes of a part -/
def voted (xa no : Nat) : Nat × Bool := if xa = 0 ∧ no = 0 then (1, true) else if xa ≠ 0 ∨ no = 7 then (2, true) else (0, false)
/-- which letter a part waits for, in a state: the kind; 0: none -/
def waits (s p : Nat) : Nat := if s = 2 ∧ p = 0 then 1 else if s = 3 ∧ p = 1 then 2 else if s = 4 ∧ p ≤ 1 then 3 else 0
def setPt (s i : Nat) (l : List Pt) : List Pt := l.mapIdx fun j p => if j = i then { p with st := s } else p
def findPt (node : Nat) (x : Xd) (l : List Pt) : Option Nat := l.findIdx? fun p => decide (p.node = node ∧ p.x = x)
def Gl.take (g : Gl) (node : Nat) (l : Lt) : Gl × Nat :=
  if g.ok = false then (gl0, 270)
  else if ltOk l = false then (gl0, 250)
  else match findPt node l.x g.parts with
  | none => (g, 0)
  | some i =>
    let k := waits g.st (g.parts[i]?.map (·.st)).get!
    if k = 0 ∨ k + 16 ≠ l.kind then (g, 0)
    else
      let v := if g.st = 2 then voted l.xa l.no else ended l.xa l.no
      if v.2 = false then (g, 0)
      else
        let h := { g with parts := setPt v.1 i g.parts }
        if g.st = 2 ∧ v.1 = 2 ∧ l.xa ≠ 7 then (h.to 4, 0) else (h.ends, 0)
/-- a letter to a node -/
structure Ml where
  node : Nat
  l : Lt
deriving DecidableEq
def Gl.letters (g : Gl) : List Ml := if g.ok then (g.parts.filter fun p => decide (waits g.st p.st ≠ 0)).map fun p => ⟨p.node, ⟨waits g.st p.st, p.x, 0, 0, []⟩⟩ else []
def Gl.decision (g : Gl) : Xd × List Pt := if g.ok then (g.x, (g.parts.filter fun p => decide (p.st = 1)).map fun p => ⟨p.node, p.x, 0⟩) else (xd0', [])
end Go.PH
end

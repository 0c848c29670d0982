/- Texts laid together: XdMath, XdEq, XdBase, XdHexMath. -/
import Derived.Lib.Bytealg
import Derived.Deep.QuietTactic
import Derived.BigQuiet
import Derived.Test.YtenegldhfgfokaaDoorMg01
import Derived.Test.YtenegldhfgfokaaDoorMg02
import Derived.Test.YtenegldhfgfokaaDoorMg03
import Derived.Test.YtenegldhfgfokaaDoorMg08
set_option linter.all false
set_option linter.unusedSimpArgs false
set_option linter.unusedVariables false
section
/- Names of transactions as plain mathematics. No program in sight. -/
namespace Go.PH

structure Xd where
 fmt : Nat
 glob : List UInt8
 bran : List UInt8
deriving DecidableEq
def Xd.wf (x : Xd) : Prop := x.fmt < 4294967296 ∧ x.glob.length ≤ 140737488351232 ∧ x.bran.length ≤ 140737488351232
def Xd.ok (x : Xd) : Bool := !x.glob.isEmpty && decide (x.glob.length ≤ 64) && decide (x.bran.length ≤ 64)
def Xd.err (x : Xd) : Nat := if x.ok then 0 else 40
/-- an order told by a number: below, the same, above -/
structure Ord3 {α : Type} (c : α → α → Int) : Prop where
 rng : ∀ a b, c a b = -1 ∨ c a b = 0 ∨ c a b = 1
 zero : ∀ a b, c a b = 0 ↔ a = b
 anti : ∀ a b, c b a = -c a b
 trans : ∀ a b d, c a b = -1 → c b d = -1 → c a d = -1
theorem Ord3.refl {α : Type} {c : α → α → Int} (h : Ord3 c) (a : α) : c a a = 0 := (h.zero a a).2 rfl
theorem Ord3.le {α : Type} {c : α → α → Int} (h : Ord3 c) (a b d : α) : (c a b ≤ 0 → c b d ≤ 0 → c a d ≤ 0) ∧ (c a b < 0 → c b d ≤ 0 → c a d < 0) := by
 have r1 := h.rng a b
 have r2 := h.rng b d
 have r3 := h.rng a d
 have t := h.trans a b d
 by_cases e1 : c a b = 0
 ·have := (h.zero a b).1 e1; subst this; omega
 ·by_cases e2 : c b d = 0
  ·have := (h.zero b d).1 e2; subst this; omega
  ·omega
end Go.PH
end
section
/- '==' of names. -/
namespace Go.PH
open Go.RowKit Go.Proofs

def xdV (x : Xd) : Array Value := #[.int .u32 (x.fmt : Int), .string (str x.glob), .string (str x.bran)]
/-! ### '==' of names -/
end Go.PH
end
section
/- Names as values; the walks of Check, OneGlobal, and the compares. -/
namespace Go.PH
open Go.RowKit Go.Proofs

set_option maxRecDepth 20000 in
theorem check_any (x : Xd) (w : World) (hw : x.wf) :
  Calls Tryd.prog 40 #[.agg (xdV x)] w fun e w' => e = .returned (.int .i64 x.err) ∧ Below w.heap.size w w' := by
 obtain ⟨f, g, h⟩ := x
 obtain ⟨h1, h2, h3⟩ := hw
 simp only at h1 h2 h3
 have hB : Below w.heap.size w (w.alloc (.cells #[.int .u32 (f : Int), .string (str g), .string (str h)] 69)) := (Below.refl _ _).alloc (Nat.le_refl _) _
 have hsg := str_size g
 have hsh := str_size h
 by_cases c1 : g = []
 ·have hd1 : (str g).toList.isEmpty = true := by rw [c1, str_toList]; rfl
  have he : Xd.err ⟨f, g, h⟩ = 40 := by simp [Xd.err, Xd.ok, c1]
  rw [he]
  clear hsg hsh c1 he
  unfold xdV
  go_enter Tryd.func40, Tryd.ntmps40
  go_wp2_with (with_reducible refine h_A ?_)
  go_ret
  exact ⟨rfl, hB⟩
 ·have hd1 : (str g).toList.isEmpty = false := by rw [str_toList]; simpa using c1
  by_cases c2 : 64 < g.length
  ·have hd2 : (64 : Int) < ((str g).size : Int) := by omega
   have he : Xd.err ⟨f, g, h⟩ = 40 := by simp [Xd.err, Xd.ok]; omega
   rw [he]
   clear hsg hsh c1 he
   unfold xdV
   go_enter Tryd.func40, Tryd.ntmps40
   go_wp2_with (with_reducible refine h_A ?_)
   go_ret
   exact ⟨rfl, hB⟩
  ·have hd2 : decide ((64 : Int) < ((str g).size : Int)) = false := by simp; omega
   by_cases c3 : 64 < h.length
   ·have hd3 : (64 : Int) < ((str h).size : Int) := by omega
    have he : Xd.err ⟨f, g, h⟩ = 40 := by simp [Xd.err, Xd.ok]; omega
    rw [he]
    clear hsg hsh c1 he
    unfold xdV
    go_enter Tryd.func40, Tryd.ntmps40
    go_wp2_with (with_reducible refine h_A ?_)
    go_ret
    exact ⟨rfl, hB⟩
   ·have hd3 : ¬ (64 : Int) < ((str h).size : Int) := by omega
    have he : Xd.err ⟨f, g, h⟩ = 0 := by simp [Xd.err, Xd.ok]; exact ⟨c1, by omega, by omega⟩
    rw [he]
    clear hsg hsh c1 he
    unfold xdV
    go_enter Tryd.func40, Tryd.ntmps40
    go_wp2_with (with_reducible refine h_A ?_)
    go_ret
    exact ⟨rfl, hB⟩
end Go.PH
end
section
/- Bytes as signs, numbers as digits: plain mathematics. -/
namespace Go.PH

def signU (n : Nat) : UInt8 := UInt8.ofNat (if n < 10 then 48 + n else 87 + n)
def hexB (l : List UInt8) : List UInt8 := l.flatMap (fun x => [signU (x.toNat / 16), signU (x.toNat % 16)])
theorem hexB_snoc {l : List UInt8} {k : Nat} (h : k < l.length) : hexB (l.take (k + 1)) = hexB (l.take k) ++ [signU (l[k].toNat / 16), signU (l[k].toNat % 16)] := by
 unfold hexB; rw [List.take_succ_eq_append_getElem h, List.flatMap_append]; simp
theorem hexB_len (l : List UInt8) : (hexB l).length = 2 * l.length := by
 induction l with
 | nil => rfl
 | cons x l ih => simp [hexB] at ih ⊢; omega
def signsB : ByteArray := ⟨#[48, 49, 50, 51, 52, 53, 54, 55, 56, 57, 97, 98, 99, 100, 101, 102]⟩
theorem signs_at : ∀ k : Fin 16, ((signsB[k.val]'(by have := k.isLt; simp [signsB, ByteArray.size])).toNat : Int) = ((signU k.val).toNat : Int) := by decide
end Go.PH
end

/- Texts laid together: XdBase, XdHexMath. -/
import Derived.Deep.QuietTactic
import Derived.BigQuiet
import Derived.Test.YtenegldhfgfokaaGreatDoorMg01
import Derived.Test.YtenegldhfgfokaaGreatDoorMg02
import Derived.Test.YtenegldhfgfokaaGreatDoorMg03
import Derived.Test.YtenegldhfgfokaaGreatDoorMg09
import Derived.Test.YtenegldhfgfokaaGreatDoorMg17
set_option linter.all false
set_option linter.unusedSimpArgs false
set_option linter.unusedVariables false
section
/- Names as values; the walks of Check, OneGlobal, and the compares. -/
namespace Go.PH
open Go.RowKit Go.Proofs

set_option maxRecDepth 20000 in
theorem check_any (x : Xd) (w : World) (hw : x.wf) :
  Calls Tryz.prog 33 #[.agg (xdV x)] w fun e w' => e = .returned (.int .i64 x.err) ∧ Below w.heap.size w w' := by
 obtain ⟨f, g, h⟩ := x
 obtain ⟨h1, h2, h3⟩ := hw
 simp only at h1 h2 h3
 have hB : Below w.heap.size w (w.alloc (.cells #[.int .u32 (f : Int), .string (str g), .string (str h)] 58)) := (Below.refl _ _).alloc (Nat.le_refl _) _
 have hsg := str_size g
 have hsh := str_size h
 by_cases c1 : g = []
 ·have hd1 : (str g).toList.isEmpty = true := by rw [c1, str_toList]; rfl
  have he : Xd.err ⟨f, g, h⟩ = 40 := by simp [Xd.err, Xd.ok, c1]
  rw [he]
  clear hsg hsh c1 he
  unfold xdV
  go_enter Tryz.func33, Tryz.ntmps33
  go_wp2_with (with_reducible refine h_A ?_)
  go_ret
  exact ⟨rfl, hB⟩
 ·have hd1 : (str g).toList.isEmpty = false := by rw [str_toList]; simpa using c1
  by_cases c2 : 64 < g.length
  ·have hd2 : (64 : Int) < ((str g).size : Int) := by omega
   have he : Xd.err ⟨f, g, h⟩ = 40 := by simp [Xd.err, Xd.ok]; omega
   rw [he]
   clear hsg hsh c1 he
   unfold xdV
   go_enter Tryz.func33, Tryz.ntmps33
   go_wp2_with (with_reducible refine h_A ?_)
   go_ret
   exact ⟨rfl, hB⟩
  ·have hd2 : decide ((64 : Int) < ((str g).size : Int)) = false := by simp; omega
   by_cases c3 : 64 < h.length
   ·have hd3 : (64 : Int) < ((str h).size : Int) := by omega
    have he : Xd.err ⟨f, g, h⟩ = 40 := by simp [Xd.err, Xd.ok]; omega
    rw [he]
    clear hsg hsh c1 he
    unfold xdV
    go_enter Tryz.func33, Tryz.ntmps33
    go_wp2_with (with_reducible refine h_A ?_)
    go_ret
    exact ⟨rfl, hB⟩
   ·have hd3 : ¬ (64 : Int) < ((str h).size : Int) := by omega
    have he : Xd.err ⟨f, g, h⟩ = 0 := by simp [Xd.err, Xd.ok]; exact ⟨c1, by omega, by omega⟩
    rw [he]
    clear hsg hsh c1 he
    unfold xdV
    go_enter Tryz.func33, Tryz.ntmps33
    go_wp2_with (with_reducible refine h_A ?_)
    go_ret
    exact ⟨rfl, hB⟩
end Go.PH
end
section
/- Bytes as signs, numbers as digits: plain mathematics. -/
namespace Go.PH

def signU (n : Nat) : UInt8 := UInt8.ofNat (if n < 10 then 48 + n else 87 + n)
def hexB (l : List UInt8) : List UInt8 := l.flatMap (fun x => [signU (x.toNat / 16), signU (x.toNat % 16)])
theorem hexB_snoc {l : List UInt8} {k : Nat} (h : k < l.length) : hexB (l.take (k + 1)) = hexB (l.take k) ++ [signU (l[k].toNat / 16), signU (l[k].toNat % 16)] := by
 unfold hexB; rw [List.take_succ_eq_append_getElem h, List.flatMap_append]; simp
theorem hexB_len (l : List UInt8) : (hexB l).length = 2 * l.length := by
 induction l with
 | nil => rfl
 | cons x l ih => simp [hexB] at ih ⊢; omega
def signsB : ByteArray := ⟨#[48, 49, 50, 51, 52, 53, 54, 55, 56, 57, 97, 98, 99, 100, 101, 102]⟩
theorem signs_at : ∀ k : Fin 16, ((signsB[k.val]'(by have := k.isLt; simp [signsB, ByteArray.size])).toNat : Int) = ((signU k.val).toNat : Int) := by decide
end Go.PH
end

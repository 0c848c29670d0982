/- Bytes as signs, numbers as digits: plain mathematics. -/
import Derived.Test.YtokfnonjmacpgaaDoorXdMath
set_option linter.all false
set_option linter.unusedSimpArgs false
set_option linter.unusedVariables false
namespace Go.PH

def signU (n : Nat) : UInt8 := UInt8.ofNat (if n < 10 then 48 + n else 87 + n)
def hexB (l : List UInt8) : List UInt8 := l.flatMap (fun x => [signU (x.toNat / 16), signU (x.toNat % 16)])
theorem hexB_snoc {l : List UInt8} {k : Nat} (h : k < l.length) : hexB (l.take (k + 1)) = hexB (l.take k) ++ [signU (l[k].toNat / 16), signU (l[k].toNat % 16)] := by
  unfold hexB; rw [List.take_succ_eq_append_getElem h, List.flatMap_append]; simp
theorem hexB_len (l : List UInt8) : (hexB l).length = 2 * l.length := by
  induction l with
  | nil => rfl
  | cons x l ih => simp [hexB] at ih ⊢; omega
def signsB : ByteArray := ⟨#[48, 49, 50, 51, 52, 53, 54, 55, 56, 57, 97, 98, 99, 100, 101, 102]⟩
theorem signs_at : ∀ k : Fin 16, ((signsB[k.val]'(by have := k.isLt; simp [signsB, ByteArray.size])).toNat : Int) = ((signU k.val).toNat : Int) := by decide
end Go.PH

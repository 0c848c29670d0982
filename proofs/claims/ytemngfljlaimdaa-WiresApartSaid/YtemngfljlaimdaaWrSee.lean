/- Reading the laws' calls of wires. -/
import Derived.Test.YtemngfljlaimdaaWrMem
import Derived.Test.YtemngfljlaimdaaRec
import Derived.Test.YtemngfljlaimdaaSee
set_option linter.all false
set_option linter.unusedSimpArgs false
set_option linter.unusedVariables false
namespace Go.PH
open Go.RowKit Go.Proofs Go.ChangeShapes Go.WideShapes Go.ChangeAt Go.Deep

/-- a call -/
structure Cl where
  wh : Nat
  fr : Int
  to : Int
  i : Int
  s : List UInt8
def Cl.wf (x : Cl) : Prop := x.wh < 256 ∧ i64ok x.fr ∧ i64ok x.to ∧ i64ok x.i ∧ x.s.length ≤ 140737488351232
def clV (x : Cl) : Array Value := #[.int .u8 (x.wh : Int), .int .i64 x.fr, .int .i64 x.to, .int .i64 x.i, .string (str x.s)]
def clC (x : Cl) : List Value := [.int .u8 (x.wh : Int), .int .i64 x.fr, .int .i64 x.to, .int .i64 x.i, .string (str x.s)]
theorem clShape : RecShape clC 5 where
  len a := rfl
  one a u hu := by simp [clC] at hu; rcases hu with rfl | rfl | rfl | rfl | rfl <;> rfl
  pos := by omega
variable {H : Type} {enc : TypeId × Value → H} {W : World}
def RCl (x : Cl) (cs : List Value) : Prop := cs = clC x ∧ x.wf
theorem cells5 {cs : List Value} {a b c d e : Value} (hl : cs.length = 5) (h0 : (cs.drop 0).take 1 = [a]) (h1 : (cs.drop 1).take 1 = [b]) (h2 : (cs.drop 2).take 1 = [c]) (h3 : (cs.drop 3).take 1 = [d]) (h4 : (cs.drop 4).take 1 = [e]) : cs = [a, b, c, d, e] := by
  match cs, hl with
  | [x, y, z, u, v], _ => simp_all
theorem i64ok_of {a : Int} (h : (Lit.int .i64 a).wf = true) : i64ok a := by
  have e1 : IntKind.i64.min = -9223372036854775808 := by decide
  have e2 : IntKind.i64.max = 9223372036854775807 := by decide
  simp only [Lit.wf, e1, e2, Bool.and_eq_true, decide_eq_true_eq] at h
  exact h
set_option maxRecDepth 20000 in
theorem reader_call : Reader enc Try.prog W 40 RCl := fun fuel cs d p h hw => by
  obtain ⟨hl, hf⟩ := trod_field Try.underlying40 h hw
  obtain ⟨n0, h0, w0⟩ := hf 0 _ rfl (reader_int (k := .u8) Try.underlying5)
  obtain ⟨n1, h1, w1⟩ := hf 1 _ rfl (reader_int (k := .i64) Try.underlying3)
  obtain ⟨n2, h2, w2⟩ := hf 2 _ rfl (reader_int (k := .i64) Try.underlying3)
  obtain ⟨n3, h3, w3⟩ := hf 3 _ rfl (reader_int (k := .i64) Try.underlying3)
  obtain ⟨l4, h4, w4⟩ := hf 4 _ rfl (reader_str Try.underlying9)
  have b0 := bounds_u8 w0
  rw [(by kernel_rfl : Try.prog.cellsOf 40 = 5)] at hl
  have e0 : n0 = ((n0.toNat : Nat) : Int) := by omega
  rw [e0] at h0
  exact ⟨⟨n0.toNat, n1, n2, n3, l4⟩, cells5 hl h0 h1 h2 h3 h4, by show n0.toNat < 256; omega, i64ok_of w1, i64ok_of w2, i64ok_of w3, w4⟩
set_option maxRecDepth 20000 in
theorem see_call {d : DataW H} {ps : List MemPlace} {v : Value} {r : Reach} {b0 : Nat} (hval : Value.okWide Try.prog W r b0 40 v) (hd : DataW.Trod enc Try.prog W 0 (fun _ => true) true 40 v d ps)
    {ts : List TypeId} {ds : List (DataW H)} {j : Nat} (hz : (DataW.weightsEach Try.prog ts ds).all (· ≤ reachBytes) = true) (ht : ts[j]? = some 40) (hdj : ds[j]? = some d) :
    ∃ x : Cl, v = .agg (clV x) ∧ x.wf := by
  obtain ⟨cs, rfl, _⟩ := okWide_struct Try.underlying40 hval
  obtain ⟨x, h1, h2⟩ := see_arg reader_call hd hz ht hdj
  refine ⟨x, ?_, h2⟩
  simp only [Value.cells] at h1
  congr 1
  apply Array.ext'
  rw [h1]
  rfl
end Go.PH

/- Reading the laws' own structs of octet. -/
import Derived.Test.YtejpponbhblmmaaOctLawReads
import Derived.Test.YtejpponbhblmmaaSee
namespace Go.PH
open Go.RowKit Go.Proofs Go.ChangeShapes Go.WideShapes Go.ChangeAt Go.Deep
variable {H : Type} {enc : TypeId × Value → H} {W : World}

theorem cells3 {cs : List Value} {a b c : Value} (hl : cs.length = 3) (h0 : (cs.drop 0).take 1 = [a]) (h1 : (cs.drop 1).take 1 = [b]) (h2 : (cs.drop 2).take 1 = [c]) : cs = [a, b, c] := by
  match cs, hl with
  | [x, y, z], _ => simp_all
theorem reader_ask : Reader enc Try.prog W 43 RAsk := fun fuel cs d p h hw => by
  obtain ⟨hl, hf⟩ := trod_field Try.underlying43 h hw
  obtain ⟨n0, h0, w0⟩ := hf 0 _ rfl (reader_int (k := .u8) Try.underlying5)
  obtain ⟨n1, h1, w1⟩ := hf 1 _ rfl (reader_int (k := .i64) Try.underlying3)
  obtain ⟨n2, h2, w2⟩ := hf 2 _ rfl (reader_int (k := .i64) Try.underlying3)
  have b0 := bounds_u8 w0
  have b1 := bounds_i64 w1
  have b2 := bounds_i64 w2
  rw [(by kernel_rfl : Try.prog.cellsOf 43 = 3)] at hl
  refine ⟨(n0.toNat, n1, n2), ?_, by simp; omega, b1.1, b1.2, b2.1, b2.2⟩
  rw [show ((n0.toNat : Nat) : Int) = n0 by omega]
  exact cells3 hl h0 h1 h2
end Go.PH

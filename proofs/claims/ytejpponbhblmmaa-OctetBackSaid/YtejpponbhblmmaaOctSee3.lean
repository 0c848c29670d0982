/- Reading the laws' own structs of octet: an item. -/
import Derived.Test.YtejpponbhblmmaaOctLawBack
import Derived.Test.YtejpponbhblmmaaSee
namespace Go.PH
open Go.RowKit Go.Proofs Go.ChangeShapes Go.WideShapes Go.ChangeAt Go.Deep
variable {H : Type} {enc : TypeId × Value → H} {W : World}

theorem cells4 {cs : List Value} {a b c d : Value} (hl : cs.length = 4) (h0 : (cs.drop 0).take 1 = [a]) (h1 : (cs.drop 1).take 1 = [b]) (h2 : (cs.drop 2).take 1 = [c]) (h3 : (cs.drop 3).take 1 = [d]) : cs = [a, b, c, d] := by
  match cs, hl with
  | [x, y, z, u], _ => simp_all
theorem reader_item : Reader enc Try.prog W 52 RItem := fun fuel cs d p h hw => by
  obtain ⟨hl, hf⟩ := trod_field Try.underlying52 h hw
  obtain ⟨t0, h0⟩ := hf 0 _ rfl (reader_bool Try.underlying4)
  obtain ⟨n1, h1, w1⟩ := hf 1 _ rfl (reader_int (k := .u8) Try.underlying5)
  obtain ⟨n2, h2, w2⟩ := hf 2 _ rfl (reader_int (k := .u64) Try.underlying23)
  obtain ⟨l3, h3, w3⟩ := hf 3 _ rfl (reader_str Try.underlying9)
  have b1 := bounds_u8 w1
  have b2 := bounds_u64 w2
  rw [(by kernel_rfl : Try.prog.cellsOf 52 = 4)] at hl
  refine ⟨(t0, n1.toNat, n2.toNat, l3), ?_, by simp; omega, by simp; omega, w3⟩
  simp only
  rw [show ((n1.toNat : Nat) : Int) = n1 by omega, show ((n2.toNat : Nat) : Int) = n2 by omega]
  exact cells4 hl h0 h1 h2 h3
end Go.PH

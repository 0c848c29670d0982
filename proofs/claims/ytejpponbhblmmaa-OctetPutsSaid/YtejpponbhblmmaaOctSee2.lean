/- Reading the laws' own structs of octet: a width and a text. -/
import Derived.Test.YtejpponbhblmmaaOctLawPuts
import Derived.Test.YtejpponbhblmmaaSee
namespace Go.PH
open Go.RowKit Go.Proofs Go.ChangeShapes Go.WideShapes Go.ChangeAt Go.Deep
variable {H : Type} {enc : TypeId × Value → H} {W : World}

def RSized (a : Int × List UInt8) (cs : List Value) : Prop := cs = [.int .i64 a.1, .string (str a.2)] ∧ -9223372036854775808 ≤ a.1 ∧ a.1 ≤ 9223372036854775807 ∧ a.2.length ≤ 140737488351232
theorem cells2 {cs : List Value} {a b : Value} (hl : cs.length = 2) (h0 : (cs.drop 0).take 1 = [a]) (h1 : (cs.drop 1).take 1 = [b]) : cs = [a, b] := by
  match cs, hl with
  | [x, y], _ => simp_all
theorem reader_sized : Reader enc Try.prog W 25 RSized := fun fuel cs d p h hw => by
  obtain ⟨hl, hf⟩ := trod_field Try.underlying25 h hw
  obtain ⟨n0, h0, w0⟩ := hf 0 _ rfl (reader_int (k := .i64) Try.underlying3)
  obtain ⟨l1, h1, w1⟩ := hf 1 _ rfl (reader_str Try.underlying9)
  have b0 := bounds_i64 w0
  rw [(by kernel_rfl : Try.prog.cellsOf 25 = 2)] at hl
  exact ⟨(n0, l1), cells2 hl h0 h1, b0.1, b0.2, w1⟩
theorem see_sized {d : DataW H} {ps : List MemPlace} {v : Value} {r : Reach} {b0 : Nat} (hval : Value.okWide Try.prog W r b0 25 v) (hd : DataW.Trod enc Try.prog W 0 (fun _ => true) true 25 v d ps)
    {ts : List TypeId} {ds : List (DataW H)} {j : Nat} (hz : (DataW.weightsEach Try.prog ts ds).all (· ≤ reachBytes) = true) (ht : ts[j]? = some 25) (hdj : ds[j]? = some d) :
    ∃ (x : Int) (s : List UInt8), v = .agg #[.int .i64 x, .string (str s)] ∧ -9223372036854775808 ≤ x ∧ x ≤ 9223372036854775807 ∧ s.length ≤ 140737488351232 := by
  obtain ⟨cs, rfl, _⟩ := okWide_struct Try.underlying25 hval
  obtain ⟨⟨x, s⟩, h1, h2, h3, h4⟩ := see_arg reader_sized hd hz ht hdj
  refine ⟨x, s, ?_, h2, h3, h4⟩
  simp only [Value.cells] at h1
  rw [← h1]
end Go.PH

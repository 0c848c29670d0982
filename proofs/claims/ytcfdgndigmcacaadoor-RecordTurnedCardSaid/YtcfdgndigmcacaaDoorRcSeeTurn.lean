/- Reading the law's own struct: which record, which of its bits. -/
import Derived.Test.YtcfdgndigmcacaaDoorRcSee
namespace Go.PH
open Go.RowKit Go.Proofs Go.ChangeShapes Go.WideShapes Go.ChangeAt Go.Deep
variable {H : Type} {enc : TypeId × Value → H} {W : World}

def RTurn (a : Nat × Nat × Nat) (cs : List Value) : Prop := cs = [.int .u8 (a.1 : Int), .int .u16 (a.2.1 : Int), .int .u32 (a.2.2 : Int)] ∧ a.1 < 256 ∧ a.2.1 < 65536 ∧ a.2.2 < 4294967296
theorem cells3r {cs : List Value} {a b c : Value} (hl : cs.length = 3) (h0 : (cs.drop 0).take 1 = [a]) (h1 : (cs.drop 1).take 1 = [b]) (h2 : (cs.drop 2).take 1 = [c]) : cs = [a, b, c] := by
  match cs, hl with
  | [x, y, z], _ => simp_all
theorem reader_turn : Reader enc Tryd.prog W 46 RTurn := fun fuel cs d p h hw => by
  obtain ⟨hl, hf⟩ := trod_field Tryd.underlying46 h hw
  obtain ⟨n0, h0, w0⟩ := hf 0 _ rfl (reader_int (k := .u8) Tryd.underlying5)
  obtain ⟨n1, h1, w1⟩ := hf 1 _ rfl (reader_int (k := .u16) Tryd.underlying42)
  obtain ⟨n2, h2, w2⟩ := hf 2 _ rfl (reader_int (k := .u32) Tryd.underlying44)
  have b0 := bounds_u8 w0
  have b1 := bounds_u16 w1
  have b2 := bounds_u32 w2
  rw [(by kernel_rfl : Tryd.prog.cellsOf 46 = 3)] at hl
  have e0 : n0 = ((n0.toNat : Nat) : Int) := by omega
  have e1 : n1 = ((n1.toNat : Nat) : Int) := by omega
  have e2 : n2 = ((n2.toNat : Nat) : Int) := by omega
  rw [e0] at h0
  rw [e1] at h1
  rw [e2] at h2
  exact ⟨(n0.toNat, n1.toNat, n2.toNat), cells3r hl h0 h1 h2, by simp only; omega, by simp only; omega, by simp only; omega⟩
theorem see_turn {d : DataW H} {ps : List MemPlace} {v : Value} {r : Reach} {b0 : Nat} (hval : Value.okWide Tryd.prog W r b0 46 v) (hd : DataW.Trod enc Tryd.prog W 0 (fun _ => true) true 46 v d ps)
    {ts : List TypeId} {ds : List (DataW H)} {j : Nat} (hz : (DataW.weightsEach Tryd.prog ts ds).all (· ≤ reachBytes) = true) (ht : ts[j]? = some 46) (hdj : ds[j]? = some d) :
    ∃ a b c : Nat, v = .agg #[.int .u8 (a : Int), .int .u16 (b : Int), .int .u32 (c : Int)] ∧ a < 256 ∧ b < 65536 ∧ c < 4294967296 := by
  obtain ⟨cs, rfl, _⟩ := okWide_struct Tryd.underlying46 hval
  obtain ⟨⟨a, b, c⟩, h1, h2, h3, h4⟩ := see_arg reader_turn hd hz ht hdj
  refine ⟨a, b, c, ?_, h2, h3, h4⟩
  simp only [Value.cells] at h1
  congr 1
  apply Array.ext'
  rw [h1]
end Go.PH

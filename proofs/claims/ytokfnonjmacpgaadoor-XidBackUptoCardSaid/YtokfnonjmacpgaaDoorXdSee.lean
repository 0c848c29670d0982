/- Reading names as the laws' arguments. -/
import Derived.Test.YtokfnonjmacpgaaDoorXdBase
import Derived.Test.YtokfnonjmacpgaaDoorSee
set_option linter.all false
set_option linter.unusedSimpArgs false
set_option linter.unusedVariables false
namespace Go.PH
open Go.RowKit Go.Proofs Go.ChangeShapes Go.WideShapes Go.ChangeAt Go.Deep
variable {H : Type} {enc : TypeId × Value → H} {W : World}

def xdC (x : Xd) : List Value := [.int .u32 (x.fmt : Int), .string (str x.glob), .string (str x.bran)]
def RXid (x : Xd) (cs : List Value) : Prop := cs = xdC x ∧ x.wf
theorem cells3x {cs : List Value} {a b c : Value} (hl : cs.length = 3) (h0 : (cs.drop 0).take 1 = [a]) (h1 : (cs.drop 1).take 1 = [b]) (h2 : (cs.drop 2).take 1 = [c]) : cs = [a, b, c] := by
  match cs, hl with
  | [x, y, z], _ => simp_all
set_option maxRecDepth 20000 in
theorem reader_xid : Reader enc Tryd.prog W 24 RXid := fun fuel cs d p h hw => by
  obtain ⟨hl, hf⟩ := trod_field Tryd.underlying24 h hw
  obtain ⟨n0, h0, w0⟩ := hf 0 _ rfl (reader_int (k := .u32) Tryd.underlying22)
  obtain ⟨l1, h1, w1⟩ := hf 1 _ rfl (reader_str Tryd.underlying9)
  obtain ⟨l2, h2, w2⟩ := hf 2 _ rfl (reader_str Tryd.underlying9)
  have b0 := bounds_u32 w0
  rw [(by kernel_rfl : Tryd.prog.cellsOf 24 = 3)] at hl
  have e0 : n0 = ((n0.toNat : Nat) : Int) := by omega
  rw [e0] at h0
  exact ⟨⟨n0.toNat, l1, l2⟩, cells3x hl h0 h1 h2, by show n0.toNat < 4294967296; omega, w1, w2⟩
set_option maxRecDepth 20000 in
theorem see_xid {d : DataW H} {ps : List MemPlace} {v : Value} {r : Reach} {b0 : Nat} (hval : Value.okWide Tryd.prog W r b0 24 v) (hd : DataW.Trod enc Tryd.prog W 0 (fun _ => true) true 24 v d ps)
    {ts : List TypeId} {ds : List (DataW H)} {j : Nat} (hz : (DataW.weightsEach Tryd.prog ts ds).all (· ≤ reachBytes) = true) (ht : ts[j]? = some 24) (hdj : ds[j]? = some d) :
    ∃ x : Xd, v = .agg (xdV x) ∧ x.wf := by
  obtain ⟨cs, rfl, _⟩ := okWide_struct Tryd.underlying24 hval
  obtain ⟨x, h1, h2⟩ := see_arg reader_xid hd hz ht hdj
  refine ⟨x, ?_, h2⟩
  simp only [Value.cells] at h1
  congr 1
  apply Array.ext'
  rw [h1]
  rfl
end Go.PH

/- Reading frames as the laws' arguments. -/
import Derived.Test.YtgjdpgihehpecaaFrScanMath
import Derived.Test.YtgjdpgihehpecaaFrPut
import Derived.Test.YtgjdpgihehpecaaSee
namespace Go.PH
open Go.RowKit Go.Proofs Go.ChangeShapes Go.WideShapes Go.ChangeAt Go.Deep
variable {H : Type} {enc : TypeId × Value → H} {W : World}

def RFrame (f : Fr) (cs : List Value) : Prop := cs = frC f ∧ f.wf ∧ f.load.length ≤ 140737488351232
theorem cells8 {cs : List Value} {a b c d e f g h : Value} (hl : cs.length = 8) (h0 : (cs.drop 0).take 1 = [a]) (h1 : (cs.drop 1).take 1 = [b]) (h2 : (cs.drop 2).take 1 = [c]) (h3 : (cs.drop 3).take 1 = [d]) (h4 : (cs.drop 4).take 1 = [e]) (h5 : (cs.drop 5).take 1 = [f]) (h6 : (cs.drop 6).take 1 = [g]) (h7 : (cs.drop 7).take 1 = [h]) : cs = [a, b, c, d, e, f, g, h] := by
  match cs, hl with
  | [x0, x1, x2, x3, x4, x5, x6, x7], _ => simp_all
theorem reader_frame : Reader enc Try.prog W 24 RFrame := fun fuel cs d p h hw => by
  obtain ⟨hl, hf⟩ := trod_field Try.underlying24 h hw
  obtain ⟨b0, h0⟩ := hf 0 _ rfl (reader_bool Try.underlying4)
  obtain ⟨b1, h1⟩ := hf 1 _ rfl (reader_bool Try.underlying4)
  obtain ⟨b2, h2⟩ := hf 2 _ rfl (reader_bool Try.underlying4)
  obtain ⟨b3, h3⟩ := hf 3 _ rfl (reader_bool Try.underlying4)
  obtain ⟨n4, h4, w4⟩ := hf 4 _ rfl (reader_int (k := .u8) Try.underlying5)
  obtain ⟨n5, h5, w5⟩ := hf 5 _ rfl (reader_int (k := .u8) Try.underlying5)
  obtain ⟨n6, h6, w6⟩ := hf 6 _ rfl (reader_int (k := .u16) Try.underlying22)
  obtain ⟨l7, h7, w7⟩ := hf 7 _ rfl (reader_str Try.underlying9)
  have c4 := bounds_u8 w4
  have c5 := bounds_u8 w5
  have c6 := bounds_u16 w6
  rw [(by kernel_rfl : Try.prog.cellsOf 24 = 8)] at hl
  have e4 : n4 = ((n4.toNat : Nat) : Int) := by omega
  have e5 : n5 = ((n5.toNat : Nat) : Int) := by omega
  have e6 : n6 = ((n6.toNat : Nat) : Int) := by omega
  rw [e4] at h4
  rw [e5] at h5
  rw [e6] at h6
  exact ⟨⟨b0, b1, b2, b3, n4.toNat, n5.toNat, n6.toNat, l7⟩, cells8 hl h0 h1 h2 h3 h4 h5 h6 h7, ⟨by show n4.toNat < 256; omega, by show n5.toNat < 256; omega, by show n6.toNat < 65536; omega⟩, w7⟩
theorem see_frame {d : DataW H} {ps : List MemPlace} {v : Value} {r : Reach} {b0 : Nat} (hval : Value.okWide Try.prog W r b0 24 v) (hd : DataW.Trod enc Try.prog W 0 (fun _ => true) true 24 v d ps)
    {ts : List TypeId} {ds : List (DataW H)} {j : Nat} (hz : (DataW.weightsEach Try.prog ts ds).all (· ≤ reachBytes) = true) (ht : ts[j]? = some 24) (hdj : ds[j]? = some d) :
    ∃ f : Fr, v = .agg (frV f) ∧ f.wf ∧ f.load.length ≤ 140737488351232 := by
  obtain ⟨cs, rfl, _⟩ := okWide_struct Try.underlying24 hval
  obtain ⟨f, h1, h2, h3⟩ := see_arg reader_frame hd hz ht hdj
  refine ⟨f, ?_, h2, h3⟩
  simp only [Value.cells] at h1
  congr 1
  apply Array.ext'
  rw [h1]
  rfl
/-- a row of frames -/
theorem frow_of {xs : List Value} {L : List Fr} {n : Nat} (hx : xs.length = L.length * 8) (h : ∀ i (h : i < L.length), RFrame L[i] ((xs.drop (i * 8)).take 8)) : xs = rowC frC L := by
  induction L generalizing xs with
  | nil => rw [rowC_nil]; simpa using hx
  | cons a L ih =>
    have h0 := (h 0 (by simp)).1
    simp only [Nat.zero_mul, List.drop_zero, List.getElem_cons_zero] at h0
    rw [rowC_cons, ← h0, ← ih (xs := xs.drop 8) (by simp at hx ⊢; omega) (fun i hi => by
      have := h (i + 1) (by simp; omega)
      rw [List.drop_drop, show 8 + i * 8 = (i + 1) * 8 by omega]
      simpa using this)]
    rw [List.take_append_drop]
theorem RdF.of {A : Option Addr} {n c : Nat} {xs : List Value} {L : List Fr} {w : World} {B : Nat} (hb : Rd w B 8 A n c xs) (hn : L.length = n) (h : ∀ i (h : i < L.length), RFrame L[i] ((xs.drop (i * 8)).take 8)) :
    RdF w B A n c L ∧ ∀ f ∈ L, f.wf ∧ f.load.length ≤ 140737488351232 := by
  have hx := hb.len
  subst hn
  have e := frow_of (n := 0) hx h
  subst e
  refine ⟨hb, fun f hf => ?_⟩
  obtain ⟨i, hi, rfl⟩ := List.getElem_of_mem hf
  exact (h i hi).2
end Go.PH

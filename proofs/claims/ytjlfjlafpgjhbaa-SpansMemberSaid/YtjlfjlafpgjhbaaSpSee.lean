/- Reading rows of spans. -/
import Derived.Test.YtjlfjlafpgjhbaaSpMem
import Derived.Test.YtjlfjlafpgjhbaaSee
namespace Go.PH
open Go.RowKit Go.Proofs Go.ChangeShapes Go.WideShapes Go.ChangeAt Go.Deep
variable {H : Type} {enc : TypeId × Value → H} {W : World}

def RSpan (a : Sp) (cs : List Value) : Prop := cs = sp2 a ∧ a.1 < 4294967296 ∧ a.2 < 4294967296
theorem cells2s {cs : List Value} {a b : Value} (hl : cs.length = 2) (h0 : (cs.drop 0).take 1 = [a]) (h1 : (cs.drop 1).take 1 = [b]) : cs = [a, b] := by
  match cs, hl with
  | [x, y], _ => simp_all
theorem reader_span : Reader enc Try.prog W 33 RSpan := fun fuel cs d p h hw => by
  obtain ⟨hl, hf⟩ := trod_field Try.underlying33 h hw
  obtain ⟨n0, h0, w0⟩ := hf 0 _ rfl (reader_int (k := .u32) Try.underlying23)
  obtain ⟨n1, h1, w1⟩ := hf 1 _ rfl (reader_int (k := .u32) Try.underlying23)
  have b0 := bounds_u32 w0
  have b1 := bounds_u32 w1
  rw [(by kernel_rfl : Try.prog.cellsOf 33 = 2)] at hl
  refine ⟨(n0.toNat, n1.toNat), ?_, by simp; omega, by simp; omega⟩
  simp only [sp2]
  rw [show ((n0.toNat : Nat) : Int) = n0 by omega, show ((n1.toNat : Nat) : Int) = n1 by omega]
  exact cells2s hl h0 h1
theorem spCells_of : ∀ (L : List Sp) (xs : List Value), xs.length = L.length * 2 → (∀ i (h : i < L.length), RSpan L[i] ((xs.drop (i * 2)).take 2)) → xs = spCells L ∧ spOK 4294967296 L
  | [], xs, hl, _ => by
    have := List.eq_nil_of_length_eq_zero (by simpa using hl)
    subst this
    exact ⟨rfl, fun z hz => by cases hz⟩
  | a :: L, xs, hl, h => by
    rcases xs with _ | ⟨x, _ | ⟨y, xs⟩⟩
    · simp at hl
    · simp at hl; omega
    · have h0 := h 0 (by simp)
      obtain ⟨e, b1, b2⟩ := h0
      simp [sp2] at e
      obtain ⟨i1, i2⟩ := spCells_of L xs (by simp at hl; omega) (fun i hi => by
        have := h (i + 1) (by simp; omega)
        simpa [Nat.add_mul] using this)
      refine ⟨by rw [e.1, e.2, spCells_cons, i1], fun z hz => ?_⟩
      rcases List.mem_cons.1 hz with rfl | hz
      · exact ⟨b1, b2⟩
      · exact i2 z hz
theorem RdS.of {A : Option Addr} {n c B : Nat} {xs : List Value} {L : List Sp} (hr : Rd W B 2 A n c xs) (hL : L.length = n) (hR : ∀ i (h : i < L.length), RSpan L[i] ((xs.drop (i * 2)).take 2)) : RdS W B A n c L ∧ spOK 4294967296 L := by
  obtain ⟨h1, h2⟩ := spCells_of L xs (by rw [hr.len, hL]) hR
  subst h1
  exact ⟨hr, h2⟩
end Go.PH

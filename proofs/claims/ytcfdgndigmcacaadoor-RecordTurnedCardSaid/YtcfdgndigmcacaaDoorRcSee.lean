/- Reading records as the laws' arguments. -/
import Derived.Test.YtcfdgndigmcacaaDoorRcBase
import Derived.Test.YtcfdgndigmcacaaDoorSee
namespace Go.PH
open Go.RowKit Go.Proofs Go.ChangeShapes Go.WideShapes Go.ChangeAt Go.Deep
variable {H : Type} {enc : TypeId × Value → H} {W : World}

def RRec (r : Rc) (cs : List Value) : Prop := cs = rcC r ∧ r.wf ∧ r.data.length ≤ 140737488351232
theorem cells2r {cs : List Value} {a b : Value} (hl : cs.length = 2) (h0 : (cs.drop 0).take 1 = [a]) (h1 : (cs.drop 1).take 1 = [b]) : cs = [a, b] := by
  match cs, hl with
  | [x, y], _ => simp_all
theorem reader_rec : Reader enc Tryd.prog W 33 RRec := fun fuel cs d p h hw => by
  obtain ⟨hl, hf⟩ := trod_field Tryd.underlying33 h hw
  obtain ⟨n0, h0, w0⟩ := hf 0 _ rfl (reader_int (k := .u8) Tryd.underlying5)
  obtain ⟨l1, h1, w1⟩ := hf 1 _ rfl (reader_str Tryd.underlying9)
  have b0 := bounds_u8 w0
  rw [(by kernel_rfl : Tryd.prog.cellsOf 33 = 2)] at hl
  have e0 : n0 = ((n0.toNat : Nat) : Int) := by omega
  rw [e0] at h0
  exact ⟨⟨n0.toNat, l1⟩, cells2r hl h0 h1, by show n0.toNat < 256; omega, w1⟩
/-- a row of records -/
theorem rcrow_of {xs : List Value} {L : List Rc} (hx : xs.length = L.length * 2) (h : ∀ i (h : i < L.length), RRec L[i] ((xs.drop (i * 2)).take 2)) : xs = rowC rcC L := by
  induction L generalizing xs with
  | nil => rw [rowC_nil]; simpa using hx
  | cons a L ih =>
    have h0 := (h 0 (by simp)).1
    simp only [Nat.zero_mul, List.drop_zero, List.getElem_cons_zero] at h0
    rw [rowC_cons, ← h0, ← ih (xs := xs.drop 2) (by simp at hx ⊢; omega) (fun i hi => by
      have := h (i + 1) (by simp; omega)
      rw [List.drop_drop, show 2 + i * 2 = (i + 1) * 2 by omega]
      simpa using this)]
    rw [List.take_append_drop]
theorem RdR.of {A : Option Addr} {n c : Nat} {xs : List Value} {L : List Rc} {w : World} {B : Nat} (hb : Rd w B 2 A n c xs) (hn : L.length = n) (h : ∀ i (h : i < L.length), RRec L[i] ((xs.drop (i * 2)).take 2)) :
    RdR w B A n c L ∧ ∀ f ∈ L, f.wf ∧ f.data.length ≤ 140737488351232 := by
  have hx := hb.len
  subst hn
  have e := rcrow_of hx h
  subst e
  refine ⟨hb, fun f hf => ?_⟩
  obtain ⟨i, hi, rfl⟩ := List.getElem_of_mem hf
  exact (h i hi).2
end Go.PH

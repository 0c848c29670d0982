/- A row that is read record by record is a row of records. -/
import Derived.Test.YtemngfljlaimdaaRec
set_option linter.all false
set_option linter.unusedSimpArgs false
set_option linter.unusedVariables false
namespace Go.PH
open Go.RowKit
variable {α : Type} {f : α → List Value} {sz : Nat}
theorem rec_row {C : α → Prop} (h : RecShape f sz) {L : List α} : ∀ {xs : List Value}, xs.length = L.length * sz → (∀ i (hi : i < L.length), (xs.drop (i * sz)).take sz = f L[i] ∧ C L[i]) → xs = rowC f L := by
  induction L with
  | nil => intro xs hx _; rw [rowC_nil]; simpa using hx
  | cons a L ih =>
    intro xs hx hr
    have h0 := (hr 0 (by simp)).1
    simp only [Nat.zero_mul, List.drop_zero, List.getElem_cons_zero] at h0
    have hx' : xs.length = L.length * sz + sz := by rw [hx, List.length_cons, Nat.add_mul, Nat.one_mul]
    rw [rowC_cons, ← h0, ← ih (xs := xs.drop sz) (by rw [List.length_drop]; omega) (fun i hi => by
      have := hr (i + 1) (by simp; omega)
      rw [List.drop_drop, show sz + i * sz = (i + 1) * sz by rw [Nat.add_mul, Nat.one_mul, Nat.add_comm]]
      simpa using this)]
    rw [List.take_append_drop]
theorem rec_of {C : α → Prop} (h : RecShape f sz) {A : Option Addr} {n c B : Nat} {xs : List Value} {L : List α} {w : World} (hb : Rd w B sz A n c xs) (hn : L.length = n) (hr : ∀ i (hi : i < L.length), (xs.drop (i * sz)).take sz = f L[i] ∧ C L[i]) :
    Rd w B sz A n c (rowC f L) ∧ ∀ a ∈ L, C a := by
  have hx := hb.len
  subst hn
  have e := rec_row h hx hr
  subst e
  refine ⟨hb, fun a ha => ?_⟩
  obtain ⟨i, hi, rfl⟩ := List.getElem_of_mem ha
  exact (hr i hi).2
end Go.PH

/- The walk of Double. -/
import Derived.Test.YtemngfljlaimdaaWrSend
set_option linter.all false
set_option linter.unusedSimpArgs false
set_option linter.unusedVariables false
namespace Go.PH
open Go.RowKit Go.Proofs

def DoubleR (w : World) (F : Nat → Prop) (pb n : Nat) (R : List Wl) (a b i : Int) (e : Ending) (w' : World) : Prop :=
  e = .returned (.int .i64 ((doubleW R a b i).2 : Int)) ∧ ∃ F' : Nat → Prop, (∀ g, F' g → F g ∨ w.heap.size ≤ g) ∧ Wr w' F' pb (n + 1) (doubleW R a b i).1 ∧ KeepF F w w'
theorem place_in {R : List Wl} {a b i : Int} (h0 : 0 ≤ i) (h1 : i < ((bag R a b).length : Int)) : ∃ j, placeI R a b i = some j ∧ ∃ h : j < R.length, (bag R a b)[i.toNat]? = some R[j].s ∧ ∀ c d, bag (R.eraseIdx j) c d = if c = a ∧ d = b then (bag R a b).eraseIdx i.toNat else bag R c d := by
  obtain ⟨j, h2, h3, ⟨h4, _, h5⟩, h6⟩ := place_some R a b i.toNat (by omega)
  exact ⟨j, by rw [placeI, if_neg (by omega), h2], h4, h5, h6⟩
theorem place_out {R : List Wl} {a b i : Int} (h : i < 0 ∨ ((bag R a b).length : Int) ≤ i) : placeI R a b i = none := by
  unfold placeI
  by_cases h0 : i < 0
  · rw [if_pos h0]
  · rw [if_neg h0]
    exact place_none R a b _ (by omega)
set_option maxRecDepth 20000 in
set_option maxHeartbeats 4000000 in
theorem double_any (F : Nat → Prop) (pb n : Nat) (R : List Wl) (a b i : Int) (w : World) (h : Wr w F pb n R) (ha : i64ok a) (hb : i64ok b) (hn : n < maxLen) :
    Calls Try.prog 18 #[.pointer (some ⟨pb, 0, none⟩), .int .i64 a, .int .i64 b, .int .i64 i] w (DoubleR w F pb n R a b i) := by
  have HW := Lib.hid h
  obtain ⟨⟨mb, D, hd, hx, hpF, hpm, hpr, hm⟩, hwf, hmost⟩ := h
  have hfi := find_any F pb mb n D hd R a b i w hx hm ha hb (hmost a b)
  clear hmost
  go_enter Try.func18, Try.ntmps18
  go_wp2_with (first | (with_reducible refine hold_append ?_) | (with_reducible refine hold_make ?_) | (with_reducible refine hold_copy ?_))
  refine hfi.mono ?_
  rintro e w1 ⟨hB1, ⟨h0, h1, rfl⟩ | ⟨h0, rfl⟩⟩
  · obtain ⟨j, hj, hjl, hjs, _⟩ := place_in h0 h1
    have hne : bag R a b ≠ [] := fun e => by rw [e] at h1; simp at h1; omega
    have hrw := own_below (hm.row a b ha hb hne).1 hB1
    obtain ⟨k, rfl⟩ : ∃ k : Nat, i = (k : Int) := ⟨i.toNat, by omega⟩
    have hnl : (hd a b).n = (bag R a b).length := by have := hrw.rd.len; simpa using this.symm
    obtain ⟨g, off, u, hA, _, hu, hcell⟩ := hrw.rd.at_k (k := k) (by omega)
    have hus : u = .string (str R[j].s) := by
      rw [List.getElem?_map] at hu
      rw [show ((k : Int).toNat) = k from rfl] at hjs
      rw [hjs] at hu
      simpa [strV] using hu.symm
    subst hus
    have hsn := send_any F pb n R a b R[j].s w1 (HW.out.below hB1) ha hb (by have := (hwf _ (List.getElem_mem hjl)).2.2; omega) hn
    have HD : Hid (doubleW R a b k = sendW R a b R[j].s) := Lib.hid (by rw [doubleW, hj]; simp [hjl])
    have hkl : k < (hd a b).n := by omega
    unfold Hd.v
    rw [hA]
    generalize (hd a b).n = N at *
    generalize (hd a b).c = C at *
    generalize R[j].s = s at *
    have HB := Lib.hid hB1
    clear hfi hrw hnl hu hjs hj hne hwf hm h1 hB1
    go_wp2_with (first | (with_reducible refine hold_append ?_) | (with_reducible refine hold_make ?_) | (with_reducible refine hold_copy ?_))
    refine hsn.mono ?_
    rintro e w2 ⟨rfl, F', hF', hW2, hK2⟩
    go_wp2_with (first | (with_reducible refine hold_append ?_) | (with_reducible refine hold_make ?_) | (with_reducible refine hold_copy ?_))
    go_ret
    refine ⟨by rw [HD.out]; rfl, F', fun g hg => ?_, by rw [HD.out]; exact hW2, (KeepF.below HB.out).trans hK2 (fun g hg => .inl hg)⟩
    have := HB.out.size
    exact (hF' g hg).imp id (fun h => by omega)
  · have HD : Hid (doubleW R a b i = (R, 7)) := Lib.hid (by rw [doubleW, place_out h0])
    have HB := Lib.hid hB1
    clear hfi hB1 hwf hm h0
    go_wp2_with (first | (with_reducible refine hold_append ?_) | (with_reducible refine hold_make ?_) | (with_reducible refine hold_copy ?_))
    go_ret
    exact ⟨by rw [HD.out]; rfl, F, fun g hg => .inl hg, by rw [HD.out]; exact (HW.out.below HB.out).mono (Nat.le_succ _), KeepF.below HB.out⟩
end Go.PH

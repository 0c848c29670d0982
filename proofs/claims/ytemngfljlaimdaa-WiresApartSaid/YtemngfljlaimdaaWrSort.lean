/- The library's sort at rows of ways. -/
import Derived.Test.YtemngfljlaimdaaWrCmp
import Derived.Test.YtemngfljlaimdaaWrShelf
set_option linter.all false
set_option linter.unusedSimpArgs false
set_option linter.unusedVariables false
namespace Go.PH
open Go.RowKit Go.Proofs Go.Sort

def wayC (p : Int × Int) : List Value := [.int .i64 p.1, .int .i64 p.2]
theorem wayShape : RecShape wayC 2 where
  len a := rfl
  one a u hu := by simp [wayC] at hu; rcases hu with rfl | rfl <;> rfl
  pos := by omega
theorem slPair : SlT Try.prog 43 45 2 16 (.agg #[.int .i64 0, .int .i64 0]) := SlT.mk' Try.underlying43 (by kernel_rfl) rfl (by omega)
theorem cmpP_lt (p q : Int × Int) : cmpP p q < 0 ↔ ltW p q = true := by
  rw [ltW_iff]
  unfold cmpP orW cmpI
  split <;> (split at * <;> try split at *) <;> (try split) <;> (try split) <;> omega
theorem ltP (p q : Int × Int) : ltOf cmpP p q = ltW p q := by
  have h : ltOf cmpP p q = decide (cmpP p q < 0) := rfl
  rw [h]
  cases hl : ltW p q
  · rw [decide_eq_false_iff_not, cmpP_lt, hl]; simp
  · rw [decide_eq_true_iff, cmpP_lt, hl]
theorem swoP : SWO (ltOf cmpP) where
  irrefl x := by rw [ltP]; simp [ltW]
  trans x y z h1 h2 := by rw [ltP] at *; exact ltW_trans h1 h2
  ntrans x y z h1 h2 := by
    rw [ltP] at *
    simp only [ltW, decide_eq_false_iff_not] at *
    omega
theorem totP (x y : Int × Int) (h1 : ltOf cmpP x y = false) (h2 : ltOf cmpP y x = false) : x = y := by
  rw [ltP] at h1 h2
  simp only [ltW, decide_eq_false_iff_not] at h1 h2
  exact Prod.ext (by omega) (by omega)
theorem cmpLays_way (g size : Nat) (w : World) : CmpLays Try.prog 27 #[] wayC 2 cmpP g 0 size w := fun m os dk _ x y =>
  (ways1_grow x y _).mono fun _ _ ⟨he, q, os', hw⟩ => ⟨he, q, os', hw⟩
theorem sortp_any (A : Option Addr) (n c : Nat) (l : List (Int × Int)) (base : Nat) (w : World) (ho : Own w base 45 2 A n c (rowC wayC l)) (hb : base ≤ w.heap.size) (hn9 : n ≤ 1000000000) :
    Calls Try.prog 26 #[.slice A n c, .func (.func 27) #[] #[]] w fun e w' => e = .returned (.tuple #[]) ∧ Own w' base 45 2 A n c (rowC wayC (l.mergeSort fun x y => !(ltOf cmpP) y x)) ∧ w.grownBy w' (blk A) := by
  have hn := own_len wayShape ho
  rcases ho.2 with ⟨hv, hn0⟩ | ⟨g, cap, cur, hv, hbg, hh, hnc, hcm, hcs, ht⟩
  · injection hv with e1 e2 e3
    subst e1 e3 hn0
    obtain rfl : l = [] := List.eq_nil_of_length_eq_zero hn
    refine (AnyF.slices_SortFunc_none Try.laysSlF06_f26 none 0 _ w).mono ?_
    rintro e w' ⟨he, rfl⟩
    exact ⟨he, by rw [List.mergeSort_nil]; exact Own.none_ _ _ _ _, World.grownBy.refl _ _⟩
  · injection hv with e1 e2 e3
    subst e1 e3
    have hg : g < w.heap.size := (Array.getElem?_eq_some_iff.1 hh).1
    have eg : ∀ args w, (callFunc 27 args).run Try.prog w = .ok (.enter 27 args) w := enters_of Try.func27 (by kernel_rfl) rfl
    have hcon := AnyQ.slices_SortFunc_total Try.laysSlF06_f26 2 Try.isAgg45 Try.sizeOf45 wayC (fun _ => rfl) (fun x => wayShape.one x) cmpP swoP 27 #[] g 0 c l.toArray w eg (cmpLays_way g _ w) (own_holds wayShape ho) hg (by simp; omega) totP
    change Calls Try.prog 26 _ _ _ at hcon
    rw [List.size_toArray, hn] at hcon
    refine hcon.mono ?_
    rintro e w' ⟨he, m, os, rfl⟩
    exact ⟨he, own_sortedK (m := m) (os := os) wayShape ho (d' := l.mergeSort fun x y => !(ltOf cmpP) y x) (by simp), grownBy_sortedK _⟩
/-- what is sorted are the ways -/
theorem ways_sorted {l : List (Int × Int)} (hl : l.Nodup) {R : List Wl} (h : ∀ p : Int × Int, p ∈ l ↔ bag R p.1 p.2 ≠ []) : (l.mergeSort fun x y => !(ltOf cmpP) y x) = waysW R := by
  have hp := List.mergeSort_perm l (fun x y => !(ltOf cmpP) y x)
  have hs : (l.mergeSort fun x y => !(ltOf cmpP) y x).Pairwise (fun x y => (!(ltOf cmpP) y x) = true) := List.pairwise_mergeSort (fun x y z h1 h2 => by
    simp only [ltP, ltW, Bool.not_eq_true', decide_eq_false_iff_not] at *
    omega) (fun x y => by
    simp only [ltP, ltW, Bool.or_eq_true, Bool.not_eq_true', decide_eq_false_iff_not]
    omega) l
  have hn : (l.mergeSort fun x y => !(ltOf cmpP) y x).Nodup := hp.nodup_iff.2 hl
  refine ways_eq ?_ (ways_ok R) (fun y => ?_)
  · unfold WaysOk
    refine (List.Pairwise.and hs hn).imp fun {x y} h => ?_
    obtain ⟨h1, h2⟩ := h
    simp only [ltP, ltW, Bool.not_eq_true', decide_eq_false_iff_not] at h1
    rw [ltW_iff]
    have : ¬ (x.1 = y.1 ∧ x.2 = y.2) := fun e => h2 (Prod.ext e.1 e.2)
    omega
  · rw [hp.mem_iff, h y]
    obtain ⟨a, b⟩ := y
    exact (ways_mem R a b).symm
end Go.PH

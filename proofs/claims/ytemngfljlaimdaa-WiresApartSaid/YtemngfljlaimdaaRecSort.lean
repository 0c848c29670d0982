/- Rows of records that the library has sorted: between the own rows' words and the sort's. -/
import Derived.Test.YtemngfljlaimdaaRecSet
import Derived.Sort.OwnSorted
import Derived.Shelf.SlSortCmp.InsertionK
set_option linter.all false
set_option linter.unusedSimpArgs false
set_option linter.unusedVariables false
namespace Go.PH
open Go.RowKit Go.Sort Go.Proofs
section
variable {α : Type} [Inhabited α] {f : α → List Value} {sz : Nat} {w w' : World} {base e n c g m : Nat} {d : List α} {os : Array Obj}
theorem flatK_row (h : RecShape f sz) (d : List α) : (flatK f sz d.toArray).toList = rowC f d := by
  apply List.ext_getElem?
  intro t
  by_cases ht : t < d.length * sz
  · have hk : t / sz < d.length := Nat.div_lt_of_lt_mul (by rwa [Nat.mul_comm])
    have hm : t % sz < sz := Nat.mod_lt _ h.pos
    have hg := get_flatK f sz d.toArray t (by simpa using ht)
    have hr := rowC_get h d (t / sz) hk (t % sz) hm
    rw [Nat.div_add_mod' t sz] at hr
    have hsz : t < (flatK f sz d.toArray).size := by simpa using ht
    rw [getElem!_pos _ t hsz] at hg
    have hkd : d.toArray[t / sz]! = d[t / sz] := by simp [hk]
    rw [hr, Array.getElem?_toList, Array.getElem?_eq_getElem hsz, hg, hkd, List.getElem?_eq_getElem (by rw [h.len]; exact hm), getElem!_pos _ _ (by rw [h.len]; exact hm)]
  · rw [List.getElem?_eq_none (by simp; omega), List.getElem?_eq_none (by rw [rowC_len h]; omega)]
theorem own_holds (h : RecShape f sz) (ho : Own w base e sz (some ⟨g, 0, none⟩) n c (rowC f d)) : HoldsK f sz w g 0 d.toArray := by
  obtain ⟨cur, _, hb, hnc, _, hcs, ht⟩ := own_heap ho
  have hn := own_len h ho
  intro j hj
  have hj' : j < d.length * sz := by simpa using hj
  refine ⟨?_, by simp [World.frozen?, hb]⟩
  have h1 : (cur.toList.take (n * sz))[j]? = (rowC f d)[j]? := by rw [ht]
  rw [List.getElem?_take_of_lt (by rw [← hn]; exact hj'), ← flatK_row h d, Array.getElem?_toList, Array.getElem?_toList, Array.getElem?_eq_getElem hj] at h1
  simp only [World.cell?, hb, Nat.zero_add, Option.isSome_none, Bool.false_eq_true, if_false]
  rw [h1, getElem!_pos _ j hj]
  rfl
theorem heap_sortedK {cur : Array Value} {t : TypeId} {fr : Nat × Nat} (d : Array α) (hb : w.heap[g]? = some (.cells cur t fr)) : (sortWorldK f sz w g 0 m d os).heap[g]? = some (.cells (putCells id 0 (flatK f sz d) cur) t fr) := by
  have hg : g < w.heap.size := (Array.getElem?_eq_some_iff.1 hb).1
  unfold sortWorldK putRowK
  rw [heap_grow_old _ _ (by simpa using hg)]
  simp [putRow, mapBlock, Sort.ahead, Array.getElem?_modify, hb, onCells]
theorem grownBy_sortedK (d : Array α) : w.grownBy (sortWorldK f sz w g 0 m d os) (some g) := by
  unfold sortWorldK putRowK
  refine ⟨rfl, rfl, rfl, by simp, fun k hk hne => ?_⟩
  rw [heap_grow_old _ _ (by simpa using hk)]
  have : g ≠ k := fun e => hne (by rw [e])
  simp [putRow, mapBlock, Sort.ahead, Array.getElem?_modify, this]
theorem take_putCellsK (cur F : Array Value) (h : F.size ≤ cur.size) : (putCells id 0 F cur).toList.take F.size = F.toList := by
  apply List.ext_getElem?
  intro j
  by_cases hj : j < F.size
  · rw [List.getElem?_take_of_lt hj, Array.getElem?_toList, Array.getElem?_toList]
    simp [putCells, hj, show j < cur.size by omega]
  · rw [List.getElem?_take_eq_none (by omega), List.getElem?_eq_none (by simp; omega)]
theorem own_sortedK (h : RecShape f sz) (ho : Own w base e sz (some ⟨g, 0, none⟩) n c (rowC f d)) {d' : List α} (hl : d'.length = d.length) : Own (sortWorldK f sz w g 0 m d'.toArray os) base e sz (some ⟨g, 0, none⟩) n c (rowC f d') := by
  obtain ⟨cur, hbg, hb, hnc, hcm, hcs, ht⟩ := own_heap ho
  have hn := own_len h ho
  have hF : (flatK f sz d'.toArray).size = n * sz := by simp [hl, hn]
  have hle : n * sz ≤ c * sz := Nat.mul_le_mul_right _ hnc
  refine ⟨by rw [rowC_len h, hl, hn], .inr ⟨g, c, _, rfl, hbg, heap_sortedK _ hb, hnc, hcm, by simp [putCells, hcs], ?_⟩⟩
  rw [← hF, take_putCellsK _ _ (by omega), flatK_row h]
/-- new blocks and draws alone: a world of the sort's -/
def Grows (w w' : World) : Prop := ∃ q os, w' = grow (w.drewN q) os
theorem Grows.refl (w : World) : Grows w w := ⟨0, #[], by simp [World.drewN]⟩
theorem grow_drewN (w : World) (os : Array Obj) (q : Nat) : (grow w os).drewN q = grow (w.drewN q) os := rfl
theorem Grows.trans {a b d : World} (h : Grows a b) (k : Grows b d) : Grows a d := by
  obtain ⟨q, os, rfl⟩ := h
  obtain ⟨q', os', rfl⟩ := k
  refine ⟨q + q', os ++ os', ?_⟩
  rw [grow_drewN, grow_grow]
  simp [World.drewN, Nat.add_assoc]
theorem Grows.alloc {a b : World} (h : Grows a b) (o : Obj) : Grows a (b.alloc o) := h.trans ⟨0, #[o], by rw [alloc_eq_grow]; rfl⟩
theorem Grows.drew {a b : World} (h : Grows a b) : Grows a b.drew := h.trans ⟨1, #[], by rw [grow_empty]; rfl⟩
end
end Go.PH

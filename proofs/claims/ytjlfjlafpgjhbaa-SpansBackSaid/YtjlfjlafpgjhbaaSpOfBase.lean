/- Words for the walk of the reference's Of. -/
import Derived.Test.YtjlfjlafpgjhbaaSpEdges
import Derived.Test.YtjlfjlafpgjhbaaSpRef
import Derived.Test.YtjlfjlafpgjhbaaSpPush
import Derived.Test.YtjlfjlafpgjhbaaRegion2
import Derived.Test.YtjlfjlafpgjhbaaSpMath6
namespace Go.PH
open Go.RowKit Go.Proofs

theorem OwnS.at_k {w : World} {base n c : Nat} {A : Option Addr} {l : List Sp} (h : OwnS w base A n c l) {k : Nat} (hk : k < n) : ∃ g, A = some ⟨g, 0, none⟩ ∧ base ≤ g ∧ g < w.heap.size ∧ ∃ hl : k < l.length, w.cell? ⟨g, k * 2, none⟩ = some (.int .u32 (l[k].1 : Int)) ∧ w.cell? ⟨g, k * 2 + 1, none⟩ = some (.int .u32 (l[k].2 : Int)) ∧
    w.frozen? ⟨g, k * 2 + 1, none⟩ = false ∧ ∀ v : Nat, OwnS (w.setCell ⟨g, k * 2 + 1, none⟩ (.int .u32 (v : Int))) base A n c (l.set k (l[k].1, v)) := by
  have hlen : l.length = n := RdS.length h.rd
  have hsp := spCells_get l k (by omega)
  rcases h.2 with ⟨hv, rfl⟩ | ⟨g, cap, cur, hv, hb, hh, _⟩
  · omega
  injection hv with e1 e2 e3
  subst e1 e3
  have hlc : (spCells l).length = n * 2 := by rw [spCells_len, hlen]
  refine ⟨g, rfl, hb, (Array.getElem?_eq_some_iff.1 hh).1, by omega, ?_, ?_, h.frozenAt _, fun v => ?_⟩
  · rw [h.cellAt (k * 2) (by omega)]; exact hsp.1
  · rw [h.cellAt (k * 2 + 1) (by omega)]; exact hsp.2
  · have := (h.stored (k * 2 + 1) (.int .u32 (v : Int))).1
    rwa [spCells_set l k v (by omega)] at this
theorem efold_len (l : List Sp) : (efold l).length ≤ 2 * l.length := by
  have : ∀ (l : List Sp) (o : List Nat), (l.foldl (fun out a => insE (a.2 + 1) (insE a.1 out)) o).length ≤ o.length + 2 * l.length := by
    intro l
    induction l with
    | nil => simp
    | cons a l ih =>
      intro o
      rw [List.foldl_cons]
      have h1 := ih (insE (a.2 + 1) (insE a.1 o))
      have h2 := insE_len (a.2 + 1) (insE a.1 o)
      have h3 := insE_len a.1 o
      simp only [List.length_cons]; omega
  simpa [efold] using this l []
theorem efold_edges (l : List Sp) : efold l = edgesOf l := rfl
theorem edges_bd {l : List Sp} (h : spOK 4294967296 l) : ∀ x ∈ edgesOf l, x ≤ 4294967296 := by
  intro x hx
  obtain ⟨a, ha, h1 | h1⟩ := (edgesOf_mem l x).1 hx
  · have := (h a ha).1; omega
  · have := (h a ha).2; omega
theorem rising_next {e : List Nat} (h : Rising e) {i : Nat} (hi : i + 1 < e.length) : e[i] < e[i + 1] := by
  have := List.pairwise_iff_getElem.1 h i (i + 1) (by omega) hi (by omega)
  exact this
theorem ofgo_next {p : Nat → Bool} {out : List Sp} {e : List Nat} {i : Nat} (hi : i + 1 < e.length) : spOfGo p out (e.drop i) = spOfGo p (if p e[i] then spPush out e[i] e[i + 1] else out) (e.drop (i + 1)) := by
  rw [List.drop_eq_getElem_cons (show i < e.length by omega), List.drop_eq_getElem_cons hi, spOfGo]
theorem ofgo_end {p : Nat → Bool} {out : List Sp} {e : List Nat} {i : Nat} (hi : ¬ i + 1 < e.length) : spOfGo p out (e.drop i) = out := by
  have hl : (e.drop i).length ≤ 1 := by simp; omega
  match he : e.drop i, hl with
  | [], _ => rfl
  | [x], _ => rfl
theorem push_none {x y : Nat} : spPush [] x y = [] ++ [(x, y - 1)] := rfl
theorem push_far {out : List Sp} {x y N : Nat} (hN : out.length = N) (h0 : 0 < N) (h : ∀ hl : N - 1 < out.length, out[N - 1].2 + 1 ≠ x) : spPush out x y = out ++ [(x, y - 1)] := by
  unfold spPush
  have hl : N - 1 < out.length := by omega
  have e : out.getLast? = some out[N - 1] := by subst hN; rw [List.getLast?_eq_getElem?, List.getElem?_eq_getElem hl]
  rw [e]
  simp [h hl]
theorem push_near {out : List Sp} {x y N : Nat} (hN : out.length = N) (h0 : 0 < N) (hl : N - 1 < out.length) (h : out[N - 1].2 + 1 = x) : spPush out x y = out.set (N - 1) (out[N - 1].1, y - 1) := by
  unfold spPush
  have e : out.getLast? = some out[N - 1] := by subst hN; rw [List.getLast?_eq_getElem?, List.getElem?_eq_getElem hl]
  rw [e]
  simp only [h, if_true]
  apply List.ext_getElem
  · simp; omega
  · intro j h1 h2
    rw [List.getElem_set]
    split
    · subst_vars
      simp [List.getElem_append]
    · simp at h1
      rw [List.getElem_append_left (by simp; omega)]
      simp
end Go.PH

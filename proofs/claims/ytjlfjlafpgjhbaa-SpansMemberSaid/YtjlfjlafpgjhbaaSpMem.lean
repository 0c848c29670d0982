/- Slices of spans in memory. -/
import Derived.Test.YtjlfjlafpgjhbaaSlB
import Derived.Test.YtjlfjlafpgjhbaaRegion
import Derived.Test.YtjlfjlafpgjhbaaMem2
import Derived.Test.YtjlfjlafpgjhbaaSpMath7
namespace Go.PH
open Go.RowKit Go.Proofs

def sp2 (a : Sp) : List Value := [.int .u32 (a.1 : Int), .int .u32 (a.2 : Int)]
def spCells (l : List Sp) : List Value := l.flatMap sp2
theorem spCells_cons (a : Sp) (l : List Sp) : spCells (a :: l) = .int .u32 (a.1 : Int) :: .int .u32 (a.2 : Int) :: spCells l := rfl
theorem spCells_nil : spCells [] = [] := rfl
theorem spCells_app (a b : List Sp) : spCells (a ++ b) = spCells a ++ spCells b := by simp [spCells]
theorem spCells_len (l : List Sp) : (spCells l).length = l.length * 2 := by
  induction l with
  | nil => rfl
  | cons a l ih => rw [spCells_cons]; simp only [List.length_cons, ih]; omega
theorem spCells_take : ∀ (l : List Sp) (k : Nat), (spCells l).take (k * 2) = spCells (l.take k)
  | [], k => by simp [spCells]
  | a :: l, 0 => by simp [spCells]
  | a :: l, k + 1 => by rw [spCells_cons, show (k + 1) * 2 = k * 2 + 1 + 1 by omega, List.take_succ_cons, List.take_succ_cons, spCells_take l k, List.take_succ_cons, spCells_cons]
theorem spCells_drop : ∀ (l : List Sp) (k : Nat), (spCells l).drop (k * 2) = spCells (l.drop k)
  | [], k => by simp [spCells]
  | a :: l, 0 => by simp
  | a :: l, k + 1 => by rw [spCells_cons, show (k + 1) * 2 = k * 2 + 1 + 1 by omega, List.drop_succ_cons, List.drop_succ_cons, spCells_drop l k, List.drop_succ_cons]
theorem spCells_get : ∀ (l : List Sp) (k : Nat) (h : k < l.length), (spCells l)[k * 2]? = some (.int .u32 (l[k].1 : Int)) ∧ (spCells l)[k * 2 + 1]? = some (.int .u32 (l[k].2 : Int))
  | a :: l, 0, _ => by simp [spCells_cons]
  | a :: l, k + 1, h => by
    have := spCells_get l k (by simpa using h)
    rw [spCells_cons, show (k + 1) * 2 = k * 2 + 1 + 1 by omega]
    simpa using this
theorem spCells_one (l : List Sp) : ∀ u ∈ spCells l, u.oneCell' = true := by
  intro u hu
  simp only [spCells, List.mem_flatMap, sp2, List.mem_cons, List.not_mem_nil, or_false] at hu
  obtain ⟨a, _, rfl | rfl⟩ := hu <;> rfl
theorem spCells_set : ∀ (l : List Sp) (k : Nat) (v : Nat) (h : k < l.length), (spCells l).set (k * 2 + 1) (.int .u32 (v : Int)) = spCells (l.set k (l[k].1, v))
  | a :: l, 0, v, _ => by simp [spCells_cons]
  | a :: l, k + 1, v, h => by
    have := spCells_set l k v (by simpa using h)
    rw [spCells_cons, show (k + 1) * 2 + 1 = k * 2 + 1 + 1 + 1 by omega]
    simp only [List.set_cons_succ, this, List.getElem_cons_succ, spCells_cons]
/-- a slice of spans -/
abbrev RdS (w : World) (B : Nat) (A : Option Addr) (n c : Nat) (l : List Sp) : Prop := Rd w B 2 A n c (spCells l)
variable {w w' : World} {B n c : Nat} {A : Option Addr} {l : List Sp}
theorem RdS.length (h : RdS w B A n c l) : l.length = n := by have := h.len; rw [spCells_len] at this; omega
theorem RdS.at_k (h : RdS w B A n c l) {k : Nat} (hk : k < n) : ∃ b off, A = some ⟨b, off, none⟩ ∧ b < B ∧ ∃ hl : k < l.length, w.cell? ⟨b, off + k * 2, none⟩ = some (.int .u32 (l[k].1 : Int)) ∧ w.cell? ⟨b, off + k * 2 + 1, none⟩ = some (.int .u32 (l[k].2 : Int)) := by
  obtain ⟨b, off, e, hb, hc⟩ := h.at_ (by omega)
  have hl := h.length
  have hg := spCells_get l k (by omega)
  exact ⟨b, off, e, hb, by omega, hc _ _ hg.1, by have := hc _ _ hg.2; rwa [← Nat.add_assoc] at this⟩
theorem RdS.at_p (h : RdS w B A n c l) {k : Nat} (hk : k ≤ n) (h0 : 0 < k) : ∃ b off, A = some ⟨b, off, none⟩ ∧ b < B ∧ w.cell? ⟨b, off + (k - 1) * 2 + 1, none⟩ = some (.int .u32 ((l.getD (k - 1) (0, 0)).2 : Int)) := by
  obtain ⟨b, off, e, hb, hl, _, hc⟩ := RdS.at_k h (k := k - 1) (by omega)
  refine ⟨b, off, e, hb, ?_⟩
  rw [hc]; simp [List.getD, List.getElem?_eq_getElem hl]
theorem spOK_getD {N : Nat} {l : List Sp} (h : spOK N l) (k : Nat) (hN : 0 < N) : (l.getD k (0, 0)).1 < N ∧ (l.getD k (0, 0)).2 < N := by
  rw [List.getD]
  cases hk : l[k]? with
  | none => exact ⟨hN, hN⟩
  | some a => exact h a (List.mem_of_getElem? hk)
theorem RdS.cut {lo k : Nat} (hr : RdS w B A n c l) (h : lo + k ≤ n) : RdS w B (cutA A 2 lo c) k (c - lo) ((l.drop lo).take k) := by
  have h1 := rd_cut hr lo (lo + k) c (by omega) (by have := hr.cap; omega) (Nat.le_refl _) h
  rw [spCells_take, spCells_drop, List.drop_take, Nat.add_sub_cancel_left] at h1
  exact h1
theorem slS : SlT Try.prog 22 33 2 8 (.agg #[.int .u32 0, .int .u32 0]) := SlT.mk' Try.underlying22 (by kernel_rfl) rfl (by omega)
abbrev OwnS (w : World) (base : Nat) (A : Option Addr) (n c : Nat) (l : List Sp) : Prop := Own w base 33 2 A n c (spCells l)
end Go.PH

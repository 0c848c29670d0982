/- Rows of records, whatever a record's cells are. -/
import Derived.Test.YtemngfljlaimdaaMem5
set_option linter.all false
set_option linter.unusedSimpArgs false
set_option linter.unusedVariables false
namespace Go.PH
open Go.RowKit
section
variable {α : Type} {f : α → List Value} {sz : Nat}
/-- every record has so many cells, each of one cell -/
structure RecShape (f : α → List Value) (sz : Nat) : Prop where
  len : ∀ a, (f a).length = sz
  one : ∀ a, ∀ u ∈ f a, u.oneCell' = true
  pos : 0 < sz
def rowC (f : α → List Value) (l : List α) : List Value := l.flatMap f
theorem rowC_cons (a : α) (l : List α) : rowC f (a :: l) = f a ++ rowC f l := rfl
theorem rowC_nil : rowC f ([] : List α) = [] := rfl
theorem rowC_app (a b : List α) : rowC f (a ++ b) = rowC f a ++ rowC f b := by simp [rowC]
theorem rowC_len (h : RecShape f sz) (l : List α) : (rowC f l).length = l.length * sz := by
  induction l with
  | nil => simp [rowC]
  | cons a l ih => rw [rowC_cons, List.length_append, ih, h.len, List.length_cons, Nat.add_mul]; omega
theorem rowC_take (h : RecShape f sz) : ∀ (l : List α) (k : Nat), (rowC f l).take (k * sz) = rowC f (l.take k)
  | [], k => by simp [rowC]
  | a :: l, 0 => by simp [rowC]
  | a :: l, k + 1 => by
    rw [rowC_cons, List.take_succ_cons, rowC_cons, ← rowC_take h l k, Nat.add_mul, Nat.one_mul, Nat.add_comm, List.take_add' h a]
where
  List.take_add' (h : RecShape f sz) (a : α) {x : List Value} {m : Nat} : (f a ++ x).take (sz + m) = f a ++ x.take m := by
    rw [List.take_append, h.len, List.take_of_length_le (by rw [h.len]; omega), Nat.add_sub_cancel_left]
theorem rowC_drop (h : RecShape f sz) : ∀ (l : List α) (k : Nat), (rowC f l).drop (k * sz) = rowC f (l.drop k)
  | [], k => by simp [rowC]
  | a :: l, 0 => by simp
  | a :: l, k + 1 => by
    rw [rowC_cons, List.drop_succ_cons, ← rowC_drop h l k, Nat.add_mul, Nat.one_mul, Nat.add_comm, List.drop_append, h.len, List.drop_of_length_le (by rw [h.len]; omega), Nat.add_sub_cancel_left, List.nil_append]
theorem rowC_get (h : RecShape f sz) : ∀ (l : List α) (k : Nat) (hk : k < l.length) (j : Nat), j < sz → (rowC f l)[k * sz + j]? = (f l[k])[j]?
  | a :: l, 0, _, j, hj => by
    rw [rowC_cons, Nat.zero_mul, Nat.zero_add, List.getElem?_append_left (by rw [h.len]; exact hj)]; rfl
  | a :: l, k + 1, hk, j, hj => by
    have := rowC_get h l k (by simpa using hk) j hj
    rw [rowC_cons, List.getElem?_append_right (by rw [h.len, Nat.add_mul]; omega), h.len, Nat.add_mul, show k * sz + 1 * sz + j - sz = k * sz + j by omega, this]
    rfl
theorem rowC_one (h : RecShape f sz) (l : List α) : ∀ u ∈ rowC f l, u.oneCell' = true := by
  intro u hu
  obtain ⟨a, _, hu⟩ := List.mem_flatMap.1 hu
  exact h.one a u hu
variable {w w' : World} {B n c base e : Nat} {A : Option Addr} {l : List α}
theorem rec_length (h : RecShape f sz) (hr : Rd w B sz A n c (rowC f l)) : l.length = n := by
  have := hr.len
  rw [rowC_len h] at this
  exact Nat.eq_of_mul_eq_mul_right h.pos this
theorem rec_at (h : RecShape f sz) (hr : Rd w B sz A n c (rowC f l)) {k : Nat} (hk : k < n) : ∃ b off, A = some ⟨b, off, none⟩ ∧ b < B ∧ ∃ hl : k < l.length, ∀ j u, (f l[k])[j]? = some u → w.cell? ⟨b, off + k * sz + j, none⟩ = some u := by
  obtain ⟨b, off, e, hb, hc⟩ := hr.at_ (by omega)
  have hl := rec_length h hr
  refine ⟨b, off, e, hb, by omega, fun j u hu => ?_⟩
  have hj : j < sz := by have := (List.getElem?_eq_some_iff.1 hu).1; rwa [h.len] at this
  have := hc (k * sz + j) u ((rowC_get h l k (by omega) j hj).trans hu)
  rwa [← Nat.add_assoc] at this
theorem rec_cut (h : RecShape f sz) {lo k : Nat} (hr : Rd w B sz A n c (rowC f l)) (hk : lo + k ≤ n) : Rd w B sz (cutA A sz lo c) k (c - lo) (rowC f ((l.drop lo).take k)) := by
  have h1 := rd_cut hr lo (lo + k) c (by omega) (by have := hr.cap; omega) (Nat.le_refl _) hk
  rw [rowC_take h, rowC_drop h, List.drop_take, Nat.add_sub_cancel_left] at h1
  exact h1
theorem own_len (h : RecShape f sz) (ho : Own w base e sz A n c (rowC f l)) : l.length = n := rec_length h ho.rd
theorem below_own_grown (ho : Own w base e sz A n c (rowC f l)) (hg : w.grownBy w' (blk A)) (hb : base ≤ w.heap.size) : Below base w w' :=
  (Below.refl base w).grown hg hb (fun _ hg => (ho.blk_lt hg).1)
/-- a record put behind an own row, as one operation of a drawn region -/
theorem op_rec {P : Program} {W : World} {o : Oper} {a : Act} {K : Act → World → Prop} {Q : Exit → Act → World → Prop} {s x : Operand} {t t2 e2 bytes g : Nat} {z : Value} (h : RecShape f sz) (hT : SlT P t e sz bytes z) (h2 : P.underlying t2 = some (.slice e2))
    (ho : o.op = .call { callee := .builtin .append, args := #[s, x], argTypes := #[t, t2] }) (hs : a.eval s = .slice A n c) (hx : a.eval x = .slice (some ⟨g, 0, none⟩) 1 1) (hg : g = W.heap.size) {cs : Array Value}
    (r : α) (hcs : cs.toList = f r) (hown : Own W base e sz A n c (rowC f l)) (hn : (n + 1) * bytes ≤ 140737488355328) (hn2 : n ≤ 1000000000) (hbase : base ≤ W.heap.size)
    (hk : ∀ A2 c2 w', Own w' base e sz A2 (n + 1) c2 (rowC f (l ++ [r])) → W.grownBy w' (blk A) → (blk A2 = blk A ∨ ∀ g, blk A2 = some g → W.heap.size ≤ g) → Below base W w' → K (a.put o.dst (.slice A2 (n + 1) c2)) w') :
    o.wp P a (W.alloc (.cells cs e)) K Q := by
  subst hg
  have hcz : cs.size = 1 * sz := by rw [Nat.one_mul, ← h.len r, ← hcs]; simp
  have hlit := own_lit (w := W) base cs e 1 hbase (by simp [maxLen]) hcz h.pos
  have ho2 : Own (W.alloc (.cells cs e)) base e sz A n c (rowC f l) := hown.alloc _
  refine op_app (ops := #[]) hT h2 ho hs hx ho2 hlit.rd (fun u hu => h.one r u (by rw [← hcs]; exact hu)) hn (by simp [maxLen]; omega) (by simp; omega) fun A2 c2 w' a1 a2 a3 => ?_
  have e1 : rowC f l ++ cs.toList = rowC f (l ++ [r]) := by rw [rowC_app, hcs]; simp [rowC]
  rw [e1] at a1
  have hB2 : Below base W (W.alloc (.cells cs e)) := (Below.refl _ _).alloc hbase _
  have hgr : W.grownBy w' (blk A) := ⟨a2.os, a2.tape, a2.output, Nat.le_trans hB2.size a2.size, fun k hk hne => (a2.block k (by simp; omega) hne).trans (((Below.refl W.heap.size W).alloc (Nat.le_refl _) _).block k hk)⟩
  refine hk A2 c2 w' a1 hgr ?_ ((Below.refl _ _).grown hgr hbase (fun g hg => (hown.blk_lt hg).1))
  rcases a3 with h3 | h3
  · exact .inl h3
  · refine .inr fun g hg => ?_
    rw [h3] at hg
    simp at hg; omega
theorem wp_rec {P : Program} {W : World} {ops : Array Oper} {rest : List Oper} {o : Oper} {a : Act} {Q : Exit → Act → World → Prop} {s x : Operand} {t t2 e2 bytes g : Nat} {z : Value} (h : RecShape f sz) (hT : SlT P t e sz bytes z) (h2 : P.underlying t2 = some (.slice e2)) (hw : Region.wanted o (yielded ops a.tmps) = true)
    (ho : o.op = .call { callee := .builtin .append, args := #[s, x], argTypes := #[t, t2] }) (hs : a.eval s = .slice A n c) (hx : a.eval x = .slice (some ⟨g, 0, none⟩) 1 1) (hg : g = W.heap.size) {cs : Array Value}
    (r : α) (hcs : cs.toList = f r) (hown : Own W base e sz A n c (rowC f l)) (hn : (n + 1) * bytes ≤ 140737488355328) (hn2 : n ≤ 1000000000) (hbase : base ≤ W.heap.size)
    (hk : ∀ A2 c2 w', Own w' base e sz A2 (n + 1) c2 (rowC f (l ++ [r])) → W.grownBy w' (blk A) → (blk A2 = blk A ∨ ∀ g, blk A2 = some g → W.heap.size ≤ g) → Below base W w' → wpList P ops Q rest (a.put o.dst (.slice A2 (n + 1) c2)) w') :
    wpList P ops Q (o :: rest) a (W.alloc (.cells cs e)) := by
  refine BigFrame.wpList_want hw fun K hK => ?_
  exact op_rec h hT h2 ho hs hx hg r hcs hown hn hn2 hbase fun A2 c2 w' a1 a2 a3 a4 => hK _ _ (hk A2 c2 w' a1 a2 a3 a4)
end
end Go.PH

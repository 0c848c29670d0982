/- What Take leaves in memory. -/
import Derived.Test.YtemngfljlaimdaaWrDouble
import Derived.Test.YtemngfljlaimdaaWrGone
import Derived.Test.YtemngfljlaimdaaWrShelfD
import Derived.Sort.OwnSorted
set_option linter.all false
set_option linter.unusedSimpArgs false
set_option linter.unusedVariables false
namespace Go.PH
open Go.RowKit Go.Proofs Go.ChangeMaps Go.Sort

theorem op_delete {P : Program} {o : Oper} {a : Act} {w w' : World} {K : Act → World → Prop} {Q : Exit → Act → World → Prop} {t k : TypeId} {m x : Operand} {mv kv : Value} (ho : o.op = Op.call { callee := Callee.builtin Builtin.delete, args := #[m, x], argTypes := #[t, k] }) (hm : a.eval m = mv) (hk : a.eval x = kv) {ty : TypeId} (hty : o.type = ty) (hrun : (Builtin.delete_ #[t, k] ty #[mv, kv]).run P w = .ok (.tuple #[]) w') (h : K (a.put o.dst (.tuple #[])) w') : o.wp P a w K Q := by
  unfold Oper.wp
  simp [execOp, ho, resolve, invoke, builtin, hm, hk, hty, hrun, Result.andThen]
  exact h
theorem op_mapUpdate {P : Program} {o : Oper} {a : Act} {w w' : World} {K : Act → World → Prop} {Q : Exit → Act → World → Prop} {t : TypeId} {m x v : Operand} {mv kv vv : Value} (ho : o.op = Op.mapUpdate t m x v) (hm : a.eval m = mv) (hk : a.eval x = kv) (hv : a.eval v = vv) (hrun : (Instr.mapUpdate t mv kv vv).run P w = .ok () w') (h : K (a.put o.dst undef) w') : o.wp P a w K Q := by
  unfold Oper.wp
  simp [execOp, ho, hm, hk, hv, hrun, Result.andThen]
  exact h
theorem encStr_row (l : List (List UInt8)) : l.map encStr = l.map strV := rfl
/-- slices.Delete of one element of an own row of texts -/
theorem del_any (A : Option Addr) (M c i : Nat) (l : List (List UInt8)) (w : World) (ho : OwnS w ⟨A, M + 1, c⟩ l) (hi : i < M + 1) :
    Calls Try.prog 21 #[.slice A (M + 1) c, .int .i64 (i : Int), .int .i64 ((i : Int) + 1)] w fun e w' => e = .returned (.slice A M c) ∧ OwnS w' ⟨A, M, c⟩ (l.eraseIdx i) ∧ w.grownBy w' (blk A) := by
  have hl : l.length = M + 1 := by have := ho.1; simpa using this
  rcases ho.2 with ⟨hv, hn0⟩ | ⟨g, cap, cur, hv, hbg, hh, hnc, hcm, hcs, ht⟩
  · simp at hn0
  · injection hv with e1 e2 e3
    subst e1
    subst e3
    have hg : g < w.heap.size := (Array.getElem?_eq_some_iff.1 hh).1
    have hH : Holds encStr w g 0 l.toArray := holds_of_block hh (by rw [hl]; simpa [encStr_row] using ht)
    have h1 := Try.slices_Delete_string g 0 c i (i + 1) l w hH (by rw [hl]; exact hnc) (by have := hcm; simp [maxLen] at this; omega) (by omega) (by omega)
    rw [hl] at h1
    refine (show Calls Try.prog 21 _ w _ from h1).mono ?_
    have hts : List.take i l ++ List.drop (i + 1) l ++ List.replicate (i + 1 - i) [] = l.eraseIdx i ++ [[]] := by
      rw [List.eraseIdx_eq_take_drop_succ, show i + 1 - i = 1 by omega]
      rfl
    rw [hts]
    rintro e w' ⟨rfl, q, rfl⟩
    have he : (l.eraseIdx i).length = M := by rw [List.length_eraseIdx_of_lt (by omega)]; omega
    have hlen : (l.eraseIdx i ++ [[]]).length = l.length := by rw [List.length_append, he]; simp; omega
    have hrow := ownsRow_sorted (n := q) (os := #[]) hlen hbg hh (by rw [hl]; exact hnc) hcm hcs
    have hgb := grownBy_sorted (w := w) (g := g) (n := q) (os := #[]) (l.eraseIdx i ++ [[]]).toArray
    rw [grow_empty] at hrow hgb
    refine ⟨by rw [show M + 1 - (i + 1 - i) = M by omega], ?_, hgb⟩
    rcases hrow.2 with ⟨hv, hn0⟩ | ⟨g2, cap2, cur2, hv, hbg2, hh2, hnc2, hcm2, hcs2, ht2⟩
    · cases hv
    · injection hv with e1 e2 e3
      injection e1 with e1
      injection e1 with e1
      subst e1
      subst e3
      have hnc' : M + 1 ≤ c := hnc
      refine ⟨by simp [he], .inr ⟨_, c, cur2, rfl, hbg2, hh2, show M ≤ c by omega, hcm2, hcs2, ?_⟩⟩
      rw [hl, Nat.mul_one] at ht2
      have h3 := congrArg (List.take M) ht2
      rw [List.take_take, Nat.min_eq_left (by omega)] at h3
      show cur2.toList.take (M * 1) = _
      rw [Nat.mul_one, h3, List.map_append, List.take_append_of_le_length (by rw [List.length_map, he]; exact Nat.le_refl _), List.take_of_length_le (by rw [List.length_map, he]; exact Nat.le_refl _)]
      rfl
theorem WrMap.taken {w w5 : World} {F : Nat → Prop} {mb n : Nat} {D : DataW Value} {hd : Int → Int → Hd} {R R' : List Wl} (h : WrMap w F mb n D hd R) {a b : Int} (ha : i64ok a) (hb : i64ok b) {l : List (List UInt8)} (hl : l ≠ []) (hne : bag R a b ≠ []) (hR : ∀ x y, bag R' x y = if x = a ∧ y = b then l else bag R x y) {N c : Nat} (o4 : OwnS w5 ⟨(hd a b).A, N, c⟩ l)
    (k5 : ∀ g, g < w.heap.size → g ≠ mb → blk (hd a b).A ≠ some g → w5.heap[g]? = w.heap[g]?) (s5 : w.heap.size ≤ w5.heap.size)
    (o5 : w5.ownsMap Try.prog 54 rawW mb (n + 1) (D.put (wayL a b) (.held (.slice (hd a b).A N c)))) :
    WrMap w5 F mb (n + 1) (D.put (wayL a b) (.held (.slice (hd a b).A N c))) (fun x y => if x = a ∧ y = b then ⟨(hd a b).A, N, c⟩ else hd x y) R' := by
  have hke : ∀ x y, i64ok x → i64ok y → ¬ (x = a ∧ y = b) → wayL x y ≠ wayL a b := fun x y hx hy hne e => hne (wayL_inj hx hy ha hb e)
  refine ⟨o5, h.inF, fun x y hx hy e => ?_, fun x y hx hy e => ?_, fun x y hx hy e => ?_, fun x y c d hx hy hc hd' e1 e2 hne' => ?_, fun g hg => Nat.lt_of_lt_of_le (h.lt g hg) s5⟩
  · rw [hR] at e
    by_cases hxy : x = a ∧ y = b
    · rw [if_pos hxy] at e; exact absurd e hl
    · rw [if_neg hxy] at e
      rw [Maps.has_put_other (hke x y hx hy hxy)]
      exact h.miss x y hx hy e
  · rw [hR] at e
    by_cases hxy : x = a ∧ y = b
    · obtain ⟨rfl, rfl⟩ := hxy
      refine ⟨Maps.has_put_same (ownsMap_is h.owns) (way_keyed.key (way_key hx hy)) _, fun z => ?_⟩
      rw [Maps.atKey_put_same (ownsMap_is h.owns) (way_keyed.key (way_key hx hy)), if_pos ⟨rfl, rfl⟩]
      rfl
    · rw [if_neg hxy] at e
      rw [Maps.has_put_other (hke x y hx hy hxy), if_neg hxy]
      refine ⟨(h.has x y hx hy e).1, fun z => ?_⟩
      rw [Maps.atKey_put_other (hke x y hx hy hxy)]
      exact (h.has x y hx hy e).2 z
  · rw [hR] at e ⊢
    by_cases hxy : x = a ∧ y = b
    · simp only [if_pos hxy]
      exact ⟨o4, (h.row a b ha hb hne).2⟩
    · rw [if_neg hxy] at e
      simp only [if_neg hxy]
      obtain ⟨q1, q2⟩ := h.row x y hx hy e
      exact ⟨own_keep q1 (fun g hg => k5 g (h.lt _ (q2 g hg).1) (q2 g hg).2 (fun e' => h.apart x y a b hx hy ha hb e hne hxy (hg.trans e'.symm))) s5, q2⟩
  · rw [hR] at e1 e2
    by_cases p1 : x = a ∧ y = b
    · by_cases p2 : c = a ∧ d = b
      · exact absurd ⟨p1.1.trans p2.1.symm, p1.2.trans p2.2.symm⟩ hne'
      · rw [if_neg p2] at e2
        simp only [if_pos p1, if_neg p2]
        exact h.apart a b c d ha hb hc hd' hne e2 (fun e => p2 ⟨e.1.symm, e.2.symm⟩)
    · rw [if_neg p1] at e1
      by_cases p2 : c = a ∧ d = b
      · simp only [if_neg p1, if_pos p2]
        exact h.apart x y a b hx hy ha hb e1 hne p1
      · rw [if_neg p2] at e2
        simp only [if_neg p1, if_neg p2]
        exact h.apart x y c d hx hy hc hd' e1 e2 hne'
end Go.PH

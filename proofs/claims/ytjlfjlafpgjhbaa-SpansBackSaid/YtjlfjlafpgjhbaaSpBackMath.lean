/- What is put is got, and what is got is put, as plain mathematics. -/
import Derived.Test.YtjlfjlafpgjhbaaSpGet
import Derived.Test.YtjlfjlafpgjhbaaSpPut
namespace Go.PH

theorem be_unbe : ∀ (n : Nat) (l : List UInt8), l.length = n → be n (unbe l) = l
  | 0, l, h => by rw [List.eq_nil_of_length_eq_zero h]; rfl
  | n + 1, l, h => by
    rcases List.eq_nil_or_concat l with rfl | ⟨a, c, rfl⟩
    · simp at h
    · simp only [List.concat_eq_append] at h ⊢
      have hc := c.toNat_lt
      rw [unbe_snoc, ← be_succ', be_unbe n a |> fun f => show be n ((256 * unbe a + c.toNat) / 256) = a by rw [show (256 * unbe a + c.toNat) / 256 = unbe a by omega]; exact f (by simpa using h)]
      congr 1
      simp only [List.cons.injEq, and_true]
      apply UInt8.toNat_inj.1
      simp
theorem getSpans_cons (k : Nat) (l : List UInt8) : getSpans (k + 1) l = (unbe (l.take 4), unbe ((l.drop 4).take 4)) :: getSpans k (l.drop 8) := by
  unfold getSpans
  rw [List.range_succ_eq_map, List.map_cons, List.map_map]
  congr 1
  apply List.map_congr_left
  intro i _
  simp only [Function.comp, List.drop_drop]
  rw [show 8 * Nat.succ i = 8 + 8 * i by omega, show 8 + 8 * i + 4 = 8 + (8 * i + 4) by omega]
theorem getSpans_put : ∀ (l : List Sp) (r : List UInt8), spOK 4294967296 l → getSpans l.length (spBytes l ++ r) = l
  | [], r, _ => rfl
  | a :: l, r, h => by
    have ha := h a (by simp)
    have e : spBytes (a :: l) ++ r = be 4 a.1 ++ (be 4 a.2 ++ (spBytes l ++ r)) := by
      show be 4 a.1 ++ be 4 a.2 ++ spBytes l ++ r = _
      simp
    rw [List.length_cons, getSpans_cons, e]
    have l1 := be_length 4 a.1
    have l2 := be_length 4 a.2
    have d1 : (be 4 a.1 ++ (be 4 a.2 ++ (spBytes l ++ r))).drop 4 = be 4 a.2 ++ (spBytes l ++ r) := by rw [List.drop_append_of_le_length (by omega), List.drop_of_length_le (by omega)]; rfl
    have d2 : (be 4 a.1 ++ (be 4 a.2 ++ (spBytes l ++ r))).drop 8 = spBytes l ++ r := by
      rw [show (8 : Nat) = 4 + 4 from rfl, ← List.drop_drop, d1, List.drop_append_of_le_length (by omega), List.drop_of_length_le (by omega)]; rfl
    rw [d1, d2, List.take_append_of_le_length (by omega), List.take_of_length_le (by omega), List.take_append_of_le_length (by omega), List.take_of_length_le (by omega), unbe_be, unbe_be, getSpans_put l r (fun z hz => h z (by simp [hz]))]
    congr 1
    exact Prod.ext (Nat.mod_eq_of_lt ha.1) (Nat.mod_eq_of_lt ha.2)
theorem spBytes_get : ∀ (k : Nat) (l : List UInt8), 8 * k ≤ l.length → spBytes (getSpans k l) = l.take (8 * k)
  | 0, l, _ => by simp [getSpans, spBytes]
  | k + 1, l, h => by
    have e : spBytes (getSpans (k + 1) l) = be 4 (unbe (l.take 4)) ++ be 4 (unbe ((l.drop 4).take 4)) ++ spBytes (getSpans k (l.drop 8)) := by rw [getSpans_cons]; rfl
    rw [e, be_unbe 4 _ (by simp; omega), be_unbe 4 _ (by simp; omega), spBytes_get k (l.drop 8) (by simp; omega)]
    rw [show 8 * (k + 1) = 4 + (4 + 8 * k) by omega, List.take_add, List.take_add, List.drop_drop, List.append_assoc]
theorem put_got {l : List Sp} (r : List UInt8) (hr : spRight l = true) (hn : l.length ≤ 300) (h : spOK 4294967296 l) : spGetErr (spPut l ++ r) = 0 ∧ spGet (spPut l ++ r) = l ∧ spGetN (spPut l ++ r) = (spPut l).length := by
  have e : spPut l = be 2 (8 * l.length) ++ spBytes l := by rw [spPut, if_pos ⟨hr, by omega⟩]
  have lb := be_length 2 (8 * l.length)
  have ls := spBytes_len l
  have hN : getN (spPut l ++ r) = 8 * l.length := by
    unfold getN
    rw [e, List.append_assoc, List.take_append_of_le_length (by omega), List.take_of_length_le (by omega), unbe_be, Nat.mod_eq_of_lt (by omega)]
  have hd : (spPut l ++ r).drop 2 = spBytes l ++ r := by
    rw [e, List.append_assoc, List.drop_append_of_le_length (by omega), List.drop_of_length_le (by omega)]; rfl
  have hl : (spPut l ++ r).length = 2 + 8 * l.length + r.length := by rw [e]; simp only [List.length_append, lb, ls]
  have hq : 8 * l.length / 8 = l.length := by omega
  have h0 : spGetErr (spPut l ++ r) = 0 := by
    rw [spGetErr, hN, hd, hq, if_neg (by omega), if_neg (by omega), if_neg (by omega), getSpans_put l r h, hr]; rfl
  refine ⟨h0, ?_, ?_⟩
  · rw [spGet, h0, hN, hd, hq, getSpans_put l r h]; rfl
  · rw [spGetN, h0, hN, e]; simp only [List.length_append, lb, ls]; simp; omega
theorem get_put {b : List UInt8} (h : spGetErr b = 0) : spPutErr (spGet b) = 0 ∧ spGetN b ≤ b.length ∧ spPut (spGet b) = b.take (spGetN b) := by
  have h' := h
  unfold spGetErr at h'
  split at h'
  · cases h'
  · split at h'
    · cases h'
    · split at h'
      · cases h'
      · split at h'
        · rename_i h1 h2 h3 h4
          have hN : getN b < 65536 := unbe_take
          have hg : spGet b = getSpans (getN b / 8) (b.drop 2) := by rw [spGet, h]; rfl
          have hn : spGetN b = getN b + 2 := by rw [spGetN, h]; rfl
          have hl := getSpans_len (getN b / 8) (b.drop 2)
          have h8 : 8 * (getN b / 8) = getN b := by omega
          rw [hg, hn]
          refine ⟨by rw [spPutErr, if_pos h4, if_pos (by omega)], by omega, ?_⟩
          rw [spPut, if_pos ⟨h4, by omega⟩, hl, h8, spBytes_get _ _ (by simp; omega), h8]
          have e2 : be 2 (getN b) = b.take 2 := be_unbe 2 _ (by simp; omega)
          rw [e2, show getN b + 2 = 2 + getN b by omega, List.take_add]
        · cases h'
end Go.PH

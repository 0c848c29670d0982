/- Records' bytes, some bits within 32 turned. No program in sight. -/
import Derived.Test.YtcfdgndigmcacaaDoorRcMathCut
namespace Go.PH

theorem val_lt : ∀ l : List UInt8, val l < 2 ^ (8 * l.length)
  | [] => by simp [val]
  | b :: l => by
    have h := val_lt l
    have hb := b.toNat_lt
    have e : 2 ^ (8 * (b :: l).length) = 256 * 2 ^ (8 * l.length) := by
      rw [List.length_cons, show 8 * (l.length + 1) = 8 + 8 * l.length by omega, Nat.pow_add]
    rw [e]
    simp only [val]
    omega
theorem xor_mod_pow (x y a : Nat) : (x ^^^ y) % 2 ^ a = (x % 2 ^ a) ^^^ (y % 2 ^ a) := by
  apply Nat.eq_of_testBit_eq
  intro i
  rw [Nat.testBit_xor, Nat.testBit_mod_two_pow, Nat.testBit_mod_two_pow, Nat.testBit_mod_two_pow, Nat.testBit_xor]
  cases decide (i < a) <;> simp
theorem xor_div_pow (x y a : Nat) : (x ^^^ y) / 2 ^ a = (x / 2 ^ a) ^^^ (y / 2 ^ a) := by
  apply Nat.eq_of_testBit_eq
  intro i
  rw [Nat.testBit_xor, Nat.testBit_div_two_pow, Nat.testBit_div_two_pow, Nat.testBit_div_two_pow, Nat.testBit_xor]
theorem val_split {u : List UInt8} {m : Nat} (h : m ≤ u.length) : val (u.take m) = val u % 2 ^ (8 * m) ∧ val (u.drop m) = val u / 2 ^ (8 * m) := by
  have hl : (u.take m).length = m := by rw [List.length_take]; omega
  have h1 := val_append (u.take m) (u.drop m)
  rw [List.take_append_drop, hl] at h1
  have h2 := val_lt (u.take m)
  rw [hl] at h2
  rw [h1, Nat.add_mul_mod_self_left, Nat.mod_eq_of_lt h2, Nat.add_mul_div_left _ _ (Nat.two_pow_pos _), Nat.div_eq_of_lt h2, Nat.zero_add]
  exact ⟨rfl, rfl⟩
theorem pow_mod_pow {fr a W : Nat} (h : fr ≤ a) : (2 ^ fr * W) % 2 ^ a = 2 ^ fr * (W % 2 ^ (a - fr)) := by
  have e : 2 ^ a = 2 ^ fr * 2 ^ (a - fr) := by rw [← Nat.pow_add]; congr 1; omega
  rw [e, Nat.mul_mod_mul_left]
theorem pow_div_pow {fr a W : Nat} (h : fr ≤ a) : (2 ^ fr * W) / 2 ^ a = W / 2 ^ (a - fr) := by
  have e : 2 ^ a = 2 ^ fr * 2 ^ (a - fr) := by rw [← Nat.pow_add]; congr 1; omega
  rw [e, Nat.mul_div_mul_left _ _ (Nat.two_pow_pos _)]
theorem win_small {W lim : Nat} (h1 : W < 2 ^ 32) (h2 : W < 2 ^ lim) : win W lim 32 = W := by
  unfold win
  rcases Nat.le_total 32 lim with h | h
  · rw [Nat.min_eq_left h]; exact Nat.mod_eq_of_lt h1
  · rw [Nat.min_eq_right h]; exact Nat.mod_eq_of_lt h2
theorem mod_mod_pow (x a b : Nat) : x % 2 ^ a % 2 ^ b = x % 2 ^ (min a b) := by
  apply Nat.eq_of_testBit_eq
  intro i
  rw [Nat.testBit_mod_two_pow, Nat.testBit_mod_two_pow, Nat.testBit_mod_two_pow]
  have e : decide (i < min a b) = (decide (i < b) && decide (i < a)) := by
    rw [Bool.eq_iff_iff]; simp; omega
  rw [e, Bool.and_assoc]
/-- bits within 32 of two sealed texts, one behind the other, turned: the first one is not opened, or it is as it was and the second one is not -/
theorem burst_two {s1 s2 u : List UInt8} {bits lim fr : Nat} (h1 : opens s1 = true) (h2 : opens s2 = true) (l1 : 4 ≤ s1.length) (l2 : 4 ≤ s2.length) (hl : u.length = s1.length + s2.length) (hf : fr + lim = 8 * (s1.length + s2.length))
    (hv : val u = val (s1 ++ s2) ^^^ 2 ^ fr * win bits lim 32) (hw : win bits lim 32 ≠ 0) : opens (u.take s1.length) = false ∨ (u.take s1.length = s1 ∧ opens (u.drop s1.length) = false) := by
  obtain ⟨a, ha⟩ : ∃ a, a = 8 * s1.length := ⟨_, rfl⟩
  obtain ⟨v1, v2⟩ := val_split (u := u) (m := s1.length) (by omega)
  have hs := val_split (u := s1 ++ s2) (m := s1.length) (by simp)
  rw [List.take_left' rfl, List.drop_left' rfl] at hs
  obtain ⟨q1, q2⟩ := hs
  have t1 : (u.take s1.length).length = s1.length := by rw [List.length_take]; omega
  have t2 : (u.drop s1.length).length = s2.length := by rw [List.length_drop]; omega
  rw [hv, xor_mod_pow, ← q1, ← ha] at v1
  rw [hv, xor_div_pow, ← q2, ← ha] at v2
  have hW : win bits lim 32 < 2 ^ 32 := Nat.lt_of_lt_of_le (Nat.mod_lt _ (Nat.two_pow_pos _)) (Nat.pow_le_pow_right (by omega) (Nat.min_le_left _ _) : 2 ^ (min 32 lim) ≤ 2 ^ 32)
  have hWl : win bits lim 32 < 2 ^ lim := Nat.lt_of_lt_of_le (Nat.mod_lt _ (Nat.two_pow_pos _)) (Nat.pow_le_pow_right (by omega) (Nat.min_le_right _ _) : 2 ^ (min 32 lim) ≤ 2 ^ lim)
  rcases Nat.lt_or_ge fr a with hfr | hfr
  · have e1 : win bits lim 32 % 2 ^ (a - fr) = win bits (a - fr) 32 := by
      unfold win
      rw [mod_mod_pow, Nat.min_assoc, Nat.min_eq_right (a := lim) (by omega)]
    rw [pow_mod_pow (by omega), e1] at v1
    rw [pow_div_pow (by omega)] at v2
    by_cases hz : win bits (a - fr) 32 = 0
    · right
      rw [hz, Nat.mul_zero, Nat.xor_zero] at v1
      have hne : win bits lim 32 / 2 ^ (a - fr) ≠ 0 := by
        intro h0
        have := Nat.div_add_mod (win bits lim 32) (2 ^ (a - fr))
        rw [h0, e1, hz] at this
        omega
      have hsm : win (win bits lim 32 / 2 ^ (a - fr)) (8 * s2.length) 32 = win bits lim 32 / 2 ^ (a - fr) := by
        refine win_small (Nat.lt_of_le_of_lt (Nat.div_le_self _ _) hW) ?_
        rw [Nat.div_lt_iff_lt_mul (Nat.two_pow_pos _), ← Nat.pow_add, show 8 * s2.length + (a - fr) = lim by omega]
        exact hWl
      refine ⟨val_inj t1 v1, ?_⟩
      rw [burst (bits := win bits lim 32 / 2 ^ (a - fr)) (lim := 8 * s2.length) (fr := 0) h2 l2 t2 (by omega) (by rw [hsm, Nat.pow_zero, Nat.one_mul]; exact v2), hsm]
      exact decide_eq_false hne
    · left
      rw [burst (bits := bits) (lim := a - fr) (fr := fr) h1 l1 t1 (by omega) v1]
      exact decide_eq_false hz
  · right
    obtain ⟨f2, hf2⟩ : ∃ f2, fr = a + f2 := ⟨fr - a, by omega⟩
    have em : 2 ^ fr * win bits lim 32 = 2 ^ a * (2 ^ f2 * win bits lim 32) := by rw [hf2, Nat.pow_add, Nat.mul_assoc]
    rw [em, Nat.mul_mod_right, Nat.xor_zero] at v1
    rw [em, Nat.mul_div_right _ (Nat.two_pow_pos _)] at v2
    refine ⟨val_inj t1 v1, ?_⟩
    rw [burst (bits := bits) (lim := lim) (fr := f2) h2 l2 t2 (by omega) v2]
    exact decide_eq_false hw
theorem rcOne_turned {r : Rc} (hd : r.data.length ≤ 65536) {u : List UInt8} (p : List UInt8) {bits lim fr : Nat} (hl : u.length = r.bytes.length) (hf : fr + lim = 8 * r.bytes.length) (hv : val u = val r.bytes ^^^ 2 ^ fr * win bits lim 32) (hw : win bits lim 32 ≠ 0) :
    rcOne (u ++ p) = (⟨0, []⟩, 0, 2) := by
  have hbl := r.bytes_length
  have h1 : (seal' r.hd).length = 9 := by rw [seal_length, r.hd_length]
  have h2 : (seal' r.data).length = r.data.length + 4 := seal_length _
  have hb := burst_two (u := u) (opens_seal r.hd) (opens_seal r.data) (by omega) (by omega) (by omega) (by rw [hf, hbl]; omega) hv hw
  rw [h1] at hb
  have ht : (u ++ p).take 9 = u.take 9 := List.take_append_of_le_length (by omega)
  rcases hb with hb | ⟨hb1, hb2⟩
  · exact rcOne_head (by rw [List.length_append]; omega) (by rw [ht]; exact hb)
  · have ht2 : (u ++ p).take 9 = seal' r.hd := by rw [ht, hb1]
    have hN : rcN (u ++ p) = r.data.length := by rw [rcN_seal ht2]; omega
    refine rcOne_data (by rw [List.length_append]; omega) (by rw [ht2]; exact opens_seal _) (by omega) (by rw [List.length_append]; omega) ?_
    rw [hN, List.take_append_of_le_length (by omega), List.take_of_length_le (by omega)]
    exact hb2
theorem rcScan_turned {l : List Rc} (hw : ∀ r ∈ l, r.wf ∧ r.data.length ≤ 65536) {k : Nat} (hk : k < l.length) {u : List UInt8} {bits lim fr : Nat} (hl : u.length = l[k].bytes.length) (hf : fr + lim = 8 * l[k].bytes.length) (hv : val u = val l[k].bytes ^^^ 2 ^ fr * win bits lim 32) (hn : win bits lim 32 ≠ 0) (p : List UInt8) :
    rcScan (rcBytes (l.take k) ++ (u ++ p)) = (l.take k, (rcBytes (l.take k)).length, 2) := by
  rw [rcScan_bytes (fun r hr => hw r (List.mem_of_mem_take hr))]
  have h1 := rcOne_turned (hw _ (List.getElem_mem hk)).2 p hl hf hv hn
  rw [rcScan_none (by rw [h1]), h1]
  simp
end Go.PH

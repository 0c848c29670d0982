/- CRC-32C: bytes as one number; bits that are turned. No program in sight. -/
import Derived.Test.YtcfdgndigmcacaaDoorCrcMath
namespace Go.PH

/-- bytes as one number, the first one lowest -/
def val : List UInt8 → Nat
  | [] => 0
  | b :: l => b.toNat + 256 * val l

theorem mul_xor (k a b : Nat) : 2 ^ k * (a ^^^ b) = (2 ^ k * a) ^^^ (2 ^ k * b) := by
  apply Nat.eq_of_testBit_eq
  intro i
  rw [Nat.testBit_xor, Nat.testBit_two_pow_mul, Nat.testBit_two_pow_mul, Nat.testBit_two_pow_mul, Nat.testBit_xor]
  cases decide (k ≤ i) <;> simp
theorem val_cons (b : UInt8) (l : List UInt8) : val (b :: l) = b.toNat ^^^ (2 ^ 8 * val l) := by
  have h := add_low (val l) b.toNat 8 b.toNat_lt
  show b.toNat + 256 * val l = _
  rw [Nat.xor_comm, ← h, Nat.add_comm]
theorem reg_val (l : List UInt8) : ∀ r : Nat, reg r l = bitN (8 * l.length) (r ^^^ val l) := by
  induction l with
  | nil => intro r; simp [reg, bitN, val]
  | cons b l ih =>
    intro r
    have e : reg r (b :: l) = reg (stepR r b.toNat) l := rfl
    rw [e, ih, List.length_cons, show 8 * (l.length + 1) = 8 + 8 * l.length by omega, bitN_add, val_cons, ← Nat.xor_assoc, bitN_xor 8, bitN_pow]
    rfl
theorem val_le4 (s : Nat) (h : s < 4294967296) : val (le4 s) = s := by
  simp only [le4, val, UInt8.toNat_ofNat']
  omega
theorem val_inj : ∀ {a b : List UInt8}, a.length = b.length → val a = val b → a = b
  | [], [], _, _ => rfl
  | [], _ :: _, h, _ => by simp at h
  | _ :: _, [], h, _ => by simp at h
  | x :: a, y :: b, h, e => by
    simp only [val] at e
    have hx := x.toNat_lt
    have hy := y.toNat_lt
    have h1 : x.toNat = y.toNat := by omega
    have h2 : val a = val b := by omega
    rw [UInt8.toNat_inj.1 h1, val_inj (by simpa using h) h2]
theorem bit_ker {x : Nat} (h : x < 4294967296) (e : bit x = 0) : x = 0 := by
  unfold bit at e
  split at e
  · have h1 : x / 2 = 2197175160 := by
      have := congrArg (· ^^^ 2197175160) e
      simp only [Nat.xor_assoc, Nat.xor_self, Nat.xor_zero, Nat.zero_xor] at this
      exact this
    omega
  · omega
theorem bitN_ker (k : Nat) : ∀ {x : Nat}, x < 4294967296 → bitN k x = 0 → x = 0 := by
  induction k with
  | zero => intro x _ e; exact e
  | succ k ih => intro x h e; exact bit_ker h (ih (bit_lt h) e)
theorem bitN_zero (k : Nat) : bitN k 0 = 0 := by
  induction k with
  | zero => rfl
  | succ k ih => exact ih
theorem xor_eq_zero' {a b : Nat} (h : a ^^^ b = 0) : a = b := by
  have := congrArg (· ^^^ b) h
  simpa [Nat.xor_assoc] using this
theorem bitN_inj (k : Nat) {x y : Nat} (hx : x < 4294967296) (hy : y < 4294967296) (e : bitN k x = bitN k y) : x = y := by
  refine xor_eq_zero' (bitN_ker k (xor_lt32 hx hy) ?_)
  rw [bitN_xor, e, Nat.xor_self]
theorem val_append (a b : List UInt8) : val (a ++ b) = val a + 2 ^ (8 * a.length) * val b := by
  induction a with
  | nil => simp [val]
  | cons x a ih =>
    simp only [List.cons_append, val, ih, List.length_cons]
    rw [show 8 * (a.length + 1) = 8 * a.length + 8 by omega, Nat.pow_add, Nat.mul_add, Nat.add_assoc]
    congr 2
    rw [show (2 : Nat) ^ 8 = 256 by rfl, Nat.mul_comm (2 ^ (8 * a.length)) 256, Nat.mul_assoc]
theorem opens_val {l : List UInt8} (h : 4 ≤ l.length) : opens l = true ↔ bitN (8 * l.length) (4294967295 ^^^ val l) = bitN 32 4294967295 := by
  have hm : (l.take (l.length - 4)).length = l.length - 4 := by rw [List.length_take]; omega
  have ht : (l.drop (l.length - 4)).length = 4 := by rw [List.length_drop]; omega
  have hv : reg 4294967295 l = bitN 32 (reg 4294967295 (l.take (l.length - 4)) ^^^ val (l.drop (l.length - 4))) := by
    conv => lhs; rw [← List.take_append_drop (l.length - 4) l]
    rw [reg_append, reg_val (l.drop (l.length - 4)), ht]
  have hR : reg 4294967295 (l.take (l.length - 4)) < 4294967296 := reg_lt _ (by omega)
  have hvl : val (l.drop (l.length - 4)) < 4294967296 := by
    match hd : l.drop (l.length - 4), ht with
    | [a, b, c, d], _ =>
      have := a.toNat_lt; have := b.toNat_lt; have := c.toNat_lt; have := d.toNat_lt
      simp only [val]; omega
  rw [← reg_val, hv]
  unfold opens
  rw [decide_eq_true h, Bool.true_and, beq_iff_eq]
  constructor
  · intro e
    rw [e, val_le4 _ (sum_lt _)]
    congr 1
    show reg 4294967295 _ ^^^ (4294967295 ^^^ reg (4294967295 ^^^ 0) _) = _
    rw [Nat.xor_zero, Nat.xor_comm 4294967295, ← Nat.xor_assoc, Nat.xor_self, Nat.zero_xor]
  · intro e
    have e1 := bitN_inj 32 (xor_lt32 hR hvl) (by omega) e
    refine val_inj (by rw [ht]; rfl) ?_
    rw [val_le4 _ (sum_lt _)]
    show _ = 4294967295 ^^^ reg (4294967295 ^^^ 0) _
    rw [Nat.xor_zero]
    generalize reg 4294967295 (l.take (l.length - 4)) = R at *
    rw [← e1, Nat.xor_comm R, Nat.xor_assoc, Nat.xor_self, Nat.xor_zero]
/-- one bit turned -/
theorem val_flip : ∀ (l : List UInt8) (q m : Nat) (hq : q < l.length), m < 8 → val (l.set q (l[q] ^^^ UInt8.ofNat (2 ^ m))) = val l ^^^ 2 ^ (8 * q + m)
  | [], _, _, hq, _ => by simp at hq
  | b :: l, 0, m, _, hm => by
    have h2 : (2 : Nat) ^ m < 256 := Nat.pow_lt_pow_right (a := 2) (by omega) hm
    simp only [List.set_cons_zero, List.getElem_cons_zero, val_cons, UInt8.toNat_xor, UInt8.toNat_ofNat', Nat.mul_zero, Nat.zero_add]
    rw [Nat.mod_eq_of_lt h2, Nat.xor_assoc, Nat.xor_comm (2 ^ m), ← Nat.xor_assoc]
  | b :: l, q + 1, m, hq, hm => by
    have ih := val_flip l q m (by simpa using hq) hm
    simp only [List.set_cons_succ, List.getElem_cons_succ, val_cons, ih]
    have e : 2 ^ 8 * (val l ^^^ 2 ^ (8 * q + m)) = 2 ^ 8 * val l ^^^ 2 ^ (8 * (q + 1) + m) := by
      rw [mul_xor, ← Nat.pow_add, show 8 + (8 * q + m) = 8 * (q + 1) + m by omega]
    rw [e, Nat.xor_assoc]
/-- the bits that are turned so far: of 'bits' the lowest i, none beyond the end -/
def win (bits lim i : Nat) : Nat := bits % 2 ^ (min i lim)
theorem burst {s t : List UInt8} {bits lim fr : Nat} (hs : opens s = true) (h4 : 4 ≤ s.length) (hl : t.length = s.length) (hf : fr + lim = 8 * s.length) (hv : val t = val s ^^^ 2 ^ fr * win bits lim 32) : opens t = decide (win bits lim 32 = 0) := by
  have h1 := (opens_val h4).1 hs
  have hw : win bits lim 32 < 4294967296 := Nat.lt_of_lt_of_le (Nat.mod_lt _ (Nat.two_pow_pos _)) (Nat.pow_le_pow_right (by omega) (Nat.min_le_left _ _) : 2 ^ (min 32 lim) ≤ 2 ^ 32)
  have h2 : bitN (8 * t.length) (4294967295 ^^^ val t) = bitN 32 4294967295 ^^^ bitN lim (win bits lim 32) := by
    rw [hl, hv, ← Nat.xor_assoc, bitN_xor, h1, ← hf, bitN_add, bitN_pow]
  rw [Bool.eq_iff_iff, opens_val (by omega), h2, decide_eq_true_eq]
  constructor
  · intro e
    refine bitN_ker lim hw ?_
    have := congrArg (bitN 32 4294967295 ^^^ ·) e
    simpa [← Nat.xor_assoc] using this
  · intro e; rw [e, bitN_zero, Nat.xor_zero]
theorem mod_succ (x i : Nat) : x % 2 ^ (i + 1) = 2 ^ i * (x.testBit i).toNat + x % 2 ^ i := by
  have h1 := Nat.mod_mul (x := x) (a := 2 ^ i) (b := 2)
  rw [Nat.pow_succ, h1, Nat.add_comm, Nat.testBit_eq_decide_div_mod_eq]
  rcases Nat.mod_two_eq_zero_or_one (x / 2 ^ i) with h | h <;> simp [h]
theorem win_zero (bits lim : Nat) : win bits lim 0 = 0 := by simp [win, Nat.mod_one]
theorem win_same (bits lim i : Nat) (h : bits.testBit i = false ∨ lim ≤ i) : win bits lim (i + 1) = win bits lim i := by
  unfold win
  rcases Nat.lt_or_ge i lim with h1 | h1
  · rcases h with h | h
    · rw [Nat.min_eq_left (by omega), Nat.min_eq_left (by omega), mod_succ, h]; simp
    · omega
  · rw [Nat.min_eq_right (by omega), Nat.min_eq_right h1]
theorem win_step (bits lim i : Nat) (h : bits.testBit i = true) (hl : i < lim) : win bits lim (i + 1) = win bits lim i ^^^ 2 ^ i := by
  unfold win
  rw [Nat.min_eq_left (by omega), Nat.min_eq_left (by omega), mod_succ, h]
  have := add_low 1 (bits % 2 ^ i) i (Nat.mod_lt _ (Nat.two_pow_pos _))
  simp only [Nat.mul_one] at this
  simp only [Bool.toNat_true, Nat.mul_one]
  rw [this, Nat.xor_comm]
theorem win_ne (bits lim i : Nat) (h : bits.testBit i = true) (hl : i < lim) : win bits lim (i + 1) ≠ 0 := by
  unfold win
  rw [Nat.min_eq_left (by omega), mod_succ, h]
  have := Nat.two_pow_pos i
  simp
theorem win_ne_mono (bits lim i : Nat) (h : win bits lim i ≠ 0) : win bits lim (i + 1) ≠ 0 := by
  cases hb : bits.testBit i
  · rw [win_same _ _ _ (.inl hb)]; exact h
  · rcases Nat.lt_or_ge i lim with h1 | h1
    · exact win_ne _ _ _ hb h1
    · rw [win_same _ _ _ (.inr h1)]; exact h
theorem flip_win (fr bits lim i v : Nat) (h : bits.testBit i = true) (hl : i < lim) : (v ^^^ 2 ^ fr * win bits lim i) ^^^ 2 ^ (fr + i) = v ^^^ 2 ^ fr * win bits lim (i + 1) := by
  rw [win_step _ _ _ h hl, mul_xor, ← Nat.pow_add, Nat.xor_assoc]
end Go.PH

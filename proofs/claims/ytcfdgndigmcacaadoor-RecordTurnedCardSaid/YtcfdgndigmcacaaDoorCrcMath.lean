/- CRC-32C as plain mathematics: the register's steps by bits and by four bits, sums, sealing, opening. No program in sight. -/
namespace Go.PH

def crcTab : List Nat := [0x00000000, 0x105ec76f, 0x20bd8ede, 0x30e349b1, 0x417b1dbc, 0x5125dad3, 0x61c69362, 0x7198540d, 0x82f63b78, 0x92a8fc17, 0xa24bb5a6, 0xb21572c9, 0xc38d26c4, 0xd3d3e1ab, 0xe330a81a, 0xf36e6f75]
def tab (i : Nat) : Nat := crcTab.getD i 0
def nib (r : Nat) : Nat := (r / 16) ^^^ tab (r % 16)
def stepT (r : Nat) (b : Nat) : Nat := nib (nib (r ^^^ b))
/-- one bit -/
def bit (r : Nat) : Nat := if r % 2 = 1 then (r / 2) ^^^ 2197175160 else r / 2
def bitN : Nat → Nat → Nat
  | 0, r => r
  | k + 1, r => bitN k (bit r)
def stepR (r : Nat) (b : Nat) : Nat := bitN 8 (r ^^^ b)
def reg (r : Nat) (l : List UInt8) : Nat := l.foldl (fun r b => stepR r b.toNat) r
def more (s : Nat) (l : List UInt8) : Nat := 4294967295 ^^^ reg (4294967295 ^^^ s) l
def sum (l : List UInt8) : Nat := more 0 l
def le4 (s : Nat) : List UInt8 := [UInt8.ofNat s, UInt8.ofNat (s / 256), UInt8.ofNat (s / 65536), UInt8.ofNat (s / 16777216)]
def seal' (l : List UInt8) : List UInt8 := l ++ le4 (sum l)
def opens (l : List UInt8) : Bool := decide (4 ≤ l.length) && (l.drop (l.length - 4) == le4 (sum (l.take (l.length - 4))))

theorem xor_lt32 {a b : Nat} (ha : a < 4294967296) (hb : b < 4294967296) : a ^^^ b < 4294967296 := Nat.xor_lt_two_pow (n := 32) ha hb
theorem tab_lt (i : Nat) : tab i < 4294967296 := by
  unfold tab
  rcases Nat.lt_or_ge i 16 with h | h
  · have : ∀ i : Fin 16, crcTab.getD i.val 0 < 4294967296 := by decide
    exact this ⟨i, h⟩
  · simp only [List.getD]; rw [List.getElem?_eq_none (by simpa [crcTab] using h)]; simp
theorem nib_lt {r : Nat} (h : r < 4294967296) : nib r < 4294967296 := xor_lt32 (by omega) (tab_lt _)
theorem bit_lt {r : Nat} (h : r < 4294967296) : bit r < 4294967296 := by
  unfold bit; split
  · exact xor_lt32 (by omega) (by omega)
  · omega
theorem bitN_lt (k : Nat) : ∀ {r : Nat}, r < 4294967296 → bitN k r < 4294967296 := by
  induction k with
  | zero => intro r h; exact h
  | succ k ih => intro r h; exact ih (bit_lt h)
theorem stepR_lt {r b : Nat} (h : r < 4294967296) (hb : b < 256) : stepR r b < 4294967296 := bitN_lt 8 (xor_lt32 h (by omega))
theorem reg_lt (l : List UInt8) : ∀ {r : Nat}, r < 4294967296 → reg r l < 4294967296 := by
  induction l with
  | nil => intro r h; exact h
  | cons b l ih => intro r h; exact ih (stepR_lt h b.toNat_lt)
theorem more_lt (s : Nat) (l : List UInt8) (h : s < 4294967296) : more s l < 4294967296 := xor_lt32 (by omega) (reg_lt l (xor_lt32 (by omega) h))
theorem sum_lt (l : List UInt8) : sum l < 4294967296 := more_lt 0 l (by omega)

/-! linearity -/
theorem xor_div2 (a b : Nat) : (a ^^^ b) / 2 = (a / 2) ^^^ (b / 2) := by
  have h : ∀ x : Nat, x / 2 = x >>> 1 := fun x => by simp [Nat.shiftRight_eq_div_pow]
  rw [h, h, h, Nat.shiftRight_xor_distrib]
theorem xor_mod2 (a b : Nat) : (a ^^^ b) % 2 = (a % 2 + b % 2) % 2 := by
  have h : ∀ x : Nat, x % 2 = (x.testBit 0).toNat := fun x => by rw [Nat.testBit_zero]; rcases Nat.mod_two_eq_zero_or_one x with h | h <;> simp [h]
  rw [h (a ^^^ b), Nat.testBit_xor, h a, h b]
  cases a.testBit 0 <;> cases b.testBit 0 <;> rfl
theorem bit_xor (a b : Nat) : bit (a ^^^ b) = bit a ^^^ bit b := by
  unfold bit
  rw [xor_mod2, xor_div2]
  rcases Nat.mod_two_eq_zero_or_one a with h | h <;> rcases Nat.mod_two_eq_zero_or_one b with h' | h' <;> simp only [h, h']
  · rfl
  · simp [Nat.xor_assoc]
  · simp only [Nat.add_zero, Nat.mod_succ, ↓reduceIte, Nat.zero_ne_one, if_false]; rw [Nat.xor_assoc, Nat.xor_comm (b / 2), ← Nat.xor_assoc]
  · simp only [Nat.reduceAdd, Nat.mod_self, Nat.zero_ne_one, if_false, if_true]
    rw [Nat.xor_assoc, ← Nat.xor_assoc 2197175160, Nat.xor_comm 2197175160, Nat.xor_assoc, Nat.xor_self, Nat.xor_zero]
theorem bit_zero : bit 0 = 0 := rfl
theorem bit_double (a : Nat) : bit (2 * a) = a := by unfold bit; rw [if_neg (by omega)]; omega
theorem bitN_xor (k : Nat) : ∀ a b : Nat, bitN k (a ^^^ b) = bitN k a ^^^ bitN k b := by
  induction k with
  | zero => intro a b; rfl
  | succ k ih => intro a b; show bitN k (bit (a ^^^ b)) = _; rw [bit_xor, ih]; rfl
theorem bitN_add (j k r : Nat) : bitN (j + k) r = bitN k (bitN j r) := by
  induction j generalizing r with
  | zero => simp [bitN]
  | succ j ih => rw [Nat.succ_add]; exact ih (bit r)
theorem bitN_pow (k a : Nat) : bitN k (2 ^ k * a) = a := by
  induction k generalizing a with
  | zero => simp [bitN]
  | succ k ih =>
    show bitN k (bit (2 ^ (k + 1) * a)) = a
    rw [show 2 ^ (k + 1) * a = 2 * (2 ^ k * a) by rw [Nat.pow_succ, Nat.mul_comm (2 ^ k) 2, Nat.mul_assoc], bit_double, ih]
theorem add_low (q m : Nat) (k : Nat) (h : m < 2 ^ k) : 2 ^ k * q + m = (2 ^ k * q) ^^^ m := by
  rw [Nat.two_pow_add_eq_or_of_lt h]
  apply Nat.eq_of_testBit_eq
  intro i
  rw [Nat.testBit_or, Nat.testBit_xor]
  rcases Nat.lt_or_ge i k with hi | hi
  · rw [Nat.testBit_two_pow_mul]; simp [Nat.not_le.2 hi]
  · rw [Nat.testBit_lt_two_pow (x := m) (Nat.lt_of_lt_of_le h (Nat.pow_le_pow_right (by omega) hi))]; simp
theorem bitN4_low : ∀ m : Fin 16, bitN 4 m.val = tab m.val := by decide
theorem nib_eq (r : Nat) : nib r = bitN 4 r := by
  have e : r = 2 ^ 4 * (r / 16) + r % 16 := by omega
  have hm : r % 16 < 16 := Nat.mod_lt _ (by omega)
  conv => rhs; rw [e, add_low _ _ 4 hm, bitN_xor, bitN_pow]
  have := bitN4_low ⟨r % 16, hm⟩
  simp only at this
  rw [this]; rfl
theorem stepT_eq (r b : Nat) : stepT r b = stepR r b := by
  unfold stepT stepR
  rw [nib_eq, nib_eq, ← bitN_add]

theorem reg_append (r : Nat) (a b : List UInt8) : reg r (a ++ b) = reg (reg r a) b := by simp [reg]
theorem reg_snoc (r : Nat) (a : List UInt8) (b : UInt8) : reg r (a ++ [b]) = stepR (reg r a) b.toNat := by simp [reg]
theorem xor_cancel (a b : Nat) : a ^^^ (a ^^^ b) = b := by rw [← Nat.xor_assoc, Nat.xor_self, Nat.zero_xor]
theorem more_append (s : Nat) (a b : List UInt8) : more s (a ++ b) = more (more s a) b := by
  unfold more; rw [xor_cancel, reg_append]
theorem length_le4 (s : Nat) : (le4 s).length = 4 := rfl
theorem opens_seal (l : List UInt8) : opens (seal' l) = true := by
  have e : (seal' l).length - 4 = l.length := by simp [seal', length_le4]
  unfold opens
  rw [e]
  simp [seal', length_le4]
theorem take_seal (l : List UInt8) : (seal' l).take ((seal' l).length - 4) = l := by
  have e : (seal' l).length - 4 = l.length := by simp [seal', length_le4]
  rw [e]; simp [seal']
/-- what opening tells -/
def opn (l : List UInt8) : List UInt8 := if opens l then l.take (l.length - 4) else []
theorem opn_of {l : List UInt8} (h : opens l = true) : opn l = l.take (l.length - 4) := by unfold opn; rw [if_pos h]
theorem opn_no {l : List UInt8} (h : opens l = false) : opn l = [] := by unfold opn; rw [if_neg (by simp [h])]
theorem opens_short {l : List UInt8} (h : l.length < 4) : opens l = false := by unfold opens; rw [decide_eq_false (by omega)]; rfl
theorem opens_seal_iff {l : List UInt8} (h : 4 ≤ l.length) : opens l = true ↔ seal' (l.take (l.length - 4)) = l := by
  unfold opens
  rw [decide_eq_true h, Bool.true_and, beq_iff_eq]
  conv => rhs; rhs; rw [← List.take_append_drop (l.length - 4) l]
  unfold seal'
  rw [List.append_cancel_left_eq]
  exact ⟨fun e => e.symm, fun e => e.symm⟩
theorem le4_get (s k : Nat) (hk : k < 4) : (le4 s)[k]? = some (UInt8.ofNat (s / 256 ^ k)) := by
  obtain rfl | rfl | rfl | rfl : k = 0 ∨ k = 1 ∨ k = 2 ∨ k = 3 := by omega
  all_goals simp [le4]
/-- byte by byte -/
theorem opens_iff {l : List UInt8} (h : 4 ≤ l.length) : opens l = true ↔ ∀ k, k < 4 → l[l.length - 4 + k]? = (le4 (sum (l.take (l.length - 4))))[k]? := by
  unfold opens
  rw [decide_eq_true h, Bool.true_and, beq_iff_eq]
  constructor
  · intro e k hk
    rw [← e, List.getElem?_drop]
  · intro hk
    apply List.ext_getElem?
    intro k
    rw [List.getElem?_drop]
    rcases Nat.lt_or_ge k 4 with h4 | h4
    · exact hk k h4
    · rw [List.getElem?_eq_none (by omega), List.getElem?_eq_none (by simpa [length_le4] using h4)]
theorem sum_check : sum [49, 50, 51, 52, 53, 54, 55, 56, 57] = 3808858755 := by decide +kernel
theorem sum_nil : sum [] = 0 := by decide
end Go.PH

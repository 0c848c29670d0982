/- Numbers and texts as bytes, as plain mathematics. No program in sight. -/
namespace Go.PH

/-- a number's lowest i bytes, the highest first -/
def be : Nat → Nat → List UInt8
  | 0, _ => []
  | i + 1, n => UInt8.ofNat (n / 256 ^ i) :: be i n
theorem be_length (i n : Nat) : (be i n).length = i := by
  induction i with
  | zero => rfl
  | succ i ih => simp [be, ih]
/-- the widths that numbers may have -/
def wideB (w : Int) : Bool := w == 1 || w == 2 || w == 4 || w == 8
theorem wideB_iff (w : Int) : wideB w = true ↔ (w = 1 ∨ w = 2 ∨ w = 4 ∨ w = 8) := by unfold wideB; simp [or_assoc]
theorem wideB_yes {w : Int} (h : w = 1 ∨ w = 2 ∨ w = 4 ∨ w = 8) : wideB w = true := (wideB_iff w).2 h
theorem wideB_no {w : Int} (h1 : w ≠ 1) (h2 : w ≠ 2) (h4 : w ≠ 4) (h8 : w ≠ 8) : wideB w = false := by unfold wideB; simp [h1, h2, h4, h8]
theorem wideB_le {w : Int} (h : wideB w = true) : 1 ≤ w ∧ w ≤ 8 := by rw [wideB_iff] at h; omega
/-- bytes as a number, the highest first -/
def unbe (l : List UInt8) : Nat := l.foldl (fun n c => 256 * n + c.toNat) 0
theorem unbe_snoc (l : List UInt8) (c : UInt8) : unbe (l ++ [c]) = 256 * unbe l + c.toNat := by simp [unbe]
theorem unbe_lt (l : List UInt8) : unbe l < 256 ^ l.length := by
  have key : ∀ (l : List UInt8) (n k : Nat), n < 256 ^ k → l.foldl (fun n c => 256 * n + c.toNat) n < 256 ^ (k + l.length) := by
    intro l
    induction l with
    | nil => intro n k h; simpa using h
    | cons c l ih =>
      intro n k h
      simp only [List.foldl_cons, List.length_cons]
      have := ih (256 * n + c.toNat) (k + 1) (by have := c.toNat_lt; rw [Nat.pow_succ]; omega)
      rwa [Nat.add_right_comm, Nat.add_assoc] at this
  have := key l 0 0 (by simp)
  rwa [Nat.zero_add] at this
theorem unbe_be_gen (i n : Nat) : ∀ acc : Nat, (be i n).foldl (fun n c => 256 * n + c.toNat) acc = acc * 256 ^ i + n % 256 ^ i := by
  induction i with
  | zero => intro acc; simp [be, Nat.mod_one]
  | succ i ih =>
    intro acc
    simp only [be, List.foldl_cons, ih, UInt8.toNat_ofNat']
    have h1 : n % 256 ^ (i + 1) = n % 256 ^ i + 256 ^ i * (n / 256 ^ i % 256) := by rw [Nat.pow_succ, Nat.mod_mul]
    have h2 : acc * 256 ^ (i + 1) = 256 * acc * 256 ^ i := by rw [Nat.pow_succ, Nat.mul_comm 256 acc, Nat.mul_assoc, Nat.mul_comm 256]
    have h3 : (256 * acc + n / 256 ^ i % 2 ^ 8) * 256 ^ i = 256 * acc * 256 ^ i + 256 ^ i * (n / 256 ^ i % 256) := by rw [Nat.add_mul, Nat.mul_comm (256 ^ i)]
    rw [h1, h2, h3]
    omega
theorem unbe_be (i n : Nat) : unbe (be i n) = n % 256 ^ i := by unfold unbe; rw [unbe_be_gen]; simp
/-- what Put answers -/
def puts (b : List UInt8) (n : Nat) (w : Int) : List UInt8 := if wideB w then b ++ be w.toNat n else b
theorem puts_yes {b : List UInt8} {n : Nat} {w : Int} (h : wideB w = true) : puts b n w = b ++ be w.toNat n := by unfold puts; rw [if_pos h]
theorem puts_no {b : List UInt8} {n : Nat} {w : Int} (h : wideB w = false) : puts b n w = b := by unfold puts; rw [if_neg (by simp [h])]
/-- what PutText answers: bytes, and an error's number -/
def textErr (n : Nat) (w : Int) : Int := if w = 1 ∨ w = 2 ∨ w = 4 then (if n < 256 ^ w.toNat then 0 else 3) else 2
def putsText (b s : List UInt8) (w : Int) : List UInt8 := if textErr s.length w = 0 then b ++ be w.toNat s.length ++ s else []
theorem be_set (i n k : Nat) (h : k < i) : (List.replicate (i - k) 0 ++ be k n).set (i - 1 - k) (UInt8.ofNat (n / 256 ^ k)) = List.replicate (i - (k + 1)) 0 ++ be (k + 1) n := by
  have e : i - k = (i - 1 - k) + 1 := by omega
  rw [e, List.replicate_succ', List.append_assoc]
  have e2 : i - (k + 1) = i - 1 - k := by omega
  rw [e2, List.set_append_right _ _ (by simp)]
  simp [be]
/-- from the lowest up -/
theorem be_succ' (i n : Nat) : be i (n / 256) ++ [UInt8.ofNat n] = be (i + 1) n := by
  induction i with
  | zero => simp [be]
  | succ i ih =>
    rw [be, List.cons_append, ih, be]
    congr 2
    rw [Nat.div_div_eq_div_mul, Nat.pow_succ, Nat.mul_comm]
/-- what a reader answers: what was read, what is left, is it bad -/
def mtake (l : List UInt8) (bad : Bool) (x : Int) : List UInt8 × List UInt8 × Bool := if bad = true ∨ x < 0 ∨ (l.length : Int) < x then ([], [], true) else (l.take x.toNat, l.drop x.toNat, false)
theorem mtake_no {l : List UInt8} {bad : Bool} {x : Int} (h : bad = true ∨ x < 0 ∨ (l.length : Int) < x) : mtake l bad x = ([], [], true) := by unfold mtake; rw [if_pos h]
theorem mtake_yes {l : List UInt8} {n : Nat} (h : n ≤ l.length) : mtake l false (n : Int) = (l.take n, l.drop n, false) := by unfold mtake; rw [if_neg (by simp; omega)]; simp
def mnum (l : List UInt8) (bad : Bool) (x : Int) : Nat × List UInt8 × Bool := if wideB x then (unbe (mtake l bad x).1, (mtake l bad x).2) else (0, [], true)
theorem mnum_no {l : List UInt8} {bad : Bool} {x : Int} (h : wideB x = false) : mnum l bad x = (0, [], true) := by unfold mnum; rw [if_neg (by simp [h])]
theorem mnum_yes {l : List UInt8} {bad : Bool} {x : Int} (h : wideB x = true) : mnum l bad x = (unbe (mtake l bad x).1, (mtake l bad x).2) := by unfold mnum; rw [if_pos h]
theorem unbe_nil : unbe [] = 0 := rfl
theorem mnum_lt (l : List UInt8) (bad : Bool) (x : Int) : (mnum l bad x).1 < 18446744073709551616 := by
  unfold mnum mtake
  split
  · rename_i h
    have := wideB_le h
    split
    · simp [unbe_nil]
    · simp only
      refine Nat.lt_of_lt_of_le (unbe_lt _) ?_
      refine Nat.le_trans (Nat.pow_le_pow_right (by omega) (show (l.take x.toNat).length ≤ 8 by rw [List.length_take]; omega)) (by decide)
  · simp
def mtext (l : List UInt8) (bad : Bool) (x most : Int) : List UInt8 × List UInt8 × Bool :=
  if x = 1 ∨ x = 2 ∨ x = 4 then
    let r := mnum l bad x
    if r.2.2 = true ∨ most < 0 ∨ most < (r.1 : Int) ∨ r.2.1.length < r.1 then ([], [], true) else mtake r.2.1 r.2.2 (r.1 : Int)
  else ([], [], true)
theorem mtext_no {l : List UInt8} {bad : Bool} {x most : Int} (h : ¬(x = 1 ∨ x = 2 ∨ x = 4)) : mtext l bad x most = ([], [], true) := by unfold mtext; rw [if_neg h]
theorem mtext_eq {l : List UInt8} {bad : Bool} {x most : Int} (h8 : x ≠ 8) : mtext l bad x most = if (mnum l bad x).2.2 = true ∨ most < 0 ∨ most < ((mnum l bad x).1 : Int) ∨ (mnum l bad x).2.1.length < (mnum l bad x).1 then ([], [], true) else mtake (mnum l bad x).2.1 (mnum l bad x).2.2 ((mnum l bad x).1 : Int) := by
  unfold mtext
  by_cases h : x = 1 ∨ x = 2 ∨ x = 4
  · rw [if_pos h]
  · rw [if_neg h, mnum_no (wideB_no (by omega) (by omega) (by omega) h8), if_pos (.inl rfl)]
end Go.PH

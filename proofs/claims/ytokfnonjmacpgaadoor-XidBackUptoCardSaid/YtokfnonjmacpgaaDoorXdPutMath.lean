/- Names as bytes, and read again. No program in sight. -/
import Derived.Test.YtokfnonjmacpgaaDoorXdMath
import Derived.Test.YtokfnonjmacpgaaDoorOctBackMath
set_option linter.all false
set_option linter.unusedSimpArgs false
set_option linter.unusedVariables false
namespace Go.PH

def Xd.bytes (x : Xd) : List UInt8 := be 4 x.fmt ++ be 1 x.glob.length ++ x.glob ++ be 1 x.bran.length ++ x.bran
def Xd.put (x : Xd) : List UInt8 := if x.ok then x.bytes else []
theorem Xd.put_ok {x : Xd} (h : x.ok = true) : x.put = x.bytes := by unfold Xd.put; rw [if_pos h]
theorem Xd.put_no {x : Xd} (h : x.ok = false) : x.put = [] := by unfold Xd.put; rw [if_neg (by simp [h])]
theorem Xd.bytes_length (x : Xd) : x.bytes.length = 6 + x.glob.length + x.bran.length := by
  simp [Xd.bytes, be_length]; omega
theorem puts4 {v : Nat} : puts [] v 4 = be 4 v := by rw [puts_yes (by decide)]; simp
theorem textErr1 {n : Nat} (h : n ≤ 64) : textErr n 1 = 0 := by
  unfold textErr
  rw [if_pos (.inl rfl), if_pos (show n < 256 ^ (1 : Int).toNat by show n < 256; omega)]
theorem putsText1 {b s : List UInt8} (h : s.length ≤ 64) : putsText b s 1 = b ++ be 1 s.length ++ s := by
  unfold putsText
  rw [if_pos (textErr1 h)]
  rfl
theorem be1 {n : Nat} : be 1 n = [UInt8.ofNat n] := by simp [be]
/-- what is read -/
def xd00 : Xd := ⟨0, [], []⟩
def getT (l : List UInt8) (bad : Bool) : List UInt8 × List UInt8 × Bool := mtext l bad 1 255
def getX (l : List UInt8) : Xd × List UInt8 × Bool :=
  (⟨(mnum l false 4).1 % 4294967296, (getT (mnum l false 4).2.1 (mnum l false 4).2.2).1, (getT (getT (mnum l false 4).2.1 (mnum l false 4).2.2).2.1 (getT (mnum l false 4).2.1 (mnum l false 4).2.2).2.2).1⟩,
    (getT (getT (mnum l false 4).2.1 (mnum l false 4).2.2).2.1 (getT (mnum l false 4).2.1 (mnum l false 4).2.2).2.2).2)
def getR (l : List UInt8) : Xd × Nat × Nat :=
  if (getX l).2.2 = true then (xd00, 0, 4) else if (getX l).1.ok = true then ((getX l).1, l.length - (getX l).2.1.length, 0) else (xd00, 0, 40)
theorem mnum4_lt (l : List UInt8) : (mnum l false 4).1 < 4294967296 := by
  rw [mnum_yes (by decide)]
  unfold mtake
  split
  · simp [unbe_nil]
  · simp only
    refine Nat.lt_of_lt_of_le (unbe_lt _) ?_
    refine Nat.le_trans (Nat.pow_le_pow_right (by omega) (show (l.take (4 : Int).toNat).length ≤ 4 by rw [List.length_take]; show min 4 _ ≤ 4; omega)) (by decide)
theorem mtake_le (l : List UInt8) (bad : Bool) (x : Int) : (mtake l bad x).1.length ≤ l.length ∧ (mtake l bad x).2.1.length ≤ l.length := by
  unfold mtake
  split
  · simp
  · simp only [List.length_take, List.length_drop]; omega
theorem mnum_le (l : List UInt8) (bad : Bool) (x : Int) : (mnum l bad x).2.1.length ≤ l.length := by
  unfold mnum
  split
  · exact (mtake_le l bad x).2
  · simp
theorem mtext_le (l : List UInt8) (bad : Bool) (x most : Int) : (mtext l bad x most).1.length ≤ l.length ∧ (mtext l bad x most).2.1.length ≤ l.length := by
  unfold mtext
  split
  · simp only
    split
    · simp
    · have h1 := mtake_le (mnum l bad x).2.1 (mnum l bad x).2.2 ((mnum l bad x).1 : Int)
      have h2 := mnum_le l bad x
      omega
  · simp
theorem getX_le (l : List UInt8) : (getX l).1.glob.length ≤ l.length ∧ (getX l).1.bran.length ≤ l.length ∧ (getX l).2.1.length ≤ l.length := by
  unfold getX getT
  simp only
  have h1 := mnum_le l false 4
  have h2 := mtext_le (mnum l false 4).2.1 (mnum l false 4).2.2 1 255
  have h3 := mtext_le (mtext (mnum l false 4).2.1 (mnum l false 4).2.2 1 255).2.1 (mtext (mnum l false 4).2.1 (mnum l false 4).2.2 1 255).2.2 1 255
  omega
/-- a text of at most 255 bytes read back -/
theorem getT_app {s rest : List UInt8} (h : s.length ≤ 64) : getT (be 1 s.length ++ s ++ rest) false = (s, rest, false) := by
  unfold getT
  have hn := mnum_app 1 (by decide) s.length (s ++ rest)
  rw [Nat.mod_eq_of_lt (by show s.length < 256; omega)] at hn
  have hn : mnum (be 1 s.length ++ (s ++ rest)) false 1 = (s.length, s ++ rest, false) := hn
  rw [mtext_eq (by omega), List.append_assoc, hn]
  simp only
  rw [if_neg (by simp; omega), mtake_app]
theorem getX_bytes {x : Xd} (hf : x.fmt < 4294967296) (hk : x.ok = true) (rest : List UInt8) : getX (x.bytes ++ rest) = (x, rest, false) := by
  obtain ⟨h1, h2, h3⟩ := (Xd.ok_iff x).1 hk
  have e : x.bytes ++ rest = be 4 x.fmt ++ (be 1 x.glob.length ++ x.glob ++ (be 1 x.bran.length ++ x.bran ++ rest)) := by simp [Xd.bytes]
  have hn : mnum (x.bytes ++ rest) false 4 = (x.fmt, be 1 x.glob.length ++ x.glob ++ (be 1 x.bran.length ++ x.bran ++ rest), false) := by
    rw [e]
    have := mnum_app 4 (by decide) x.fmt (be 1 x.glob.length ++ x.glob ++ (be 1 x.bran.length ++ x.bran ++ rest))
    rw [Nat.mod_eq_of_lt (by show x.fmt < 256 ^ 4; omega)] at this
    exact this
  unfold getX
  rw [hn]
  simp only
  rw [getT_app h2]
  simp only
  rw [getT_app h3, Nat.mod_eq_of_lt hf]
theorem getR_bytes {x : Xd} (hf : x.fmt < 4294967296) (hk : x.ok = true) (rest : List UInt8) : getR (x.bytes ++ rest) = (x, x.bytes.length, 0) := by
  unfold getR
  rw [getX_bytes hf hk]
  simp [hk]
theorem bytes_inj {x y : Xd} (hx : x.fmt < 4294967296) (hy : y.fmt < 4294967296) (kx : x.ok = true) (ky : y.ok = true) (h : x.bytes = y.bytes) : x = y := by
  have h1 := getX_bytes hx kx []
  have h2 := getX_bytes hy ky []
  rw [h, h2] at h1
  injection h1 with h1 _
  exact h1.symm
end Go.PH

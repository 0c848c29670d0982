/- Cutting frames off bytes, as plain mathematics; frames as cells. -/
import Derived.Test.YtgjdpgihehpecaaFrWell
import Derived.Test.YtgjdpgihehpecaaRec
namespace Go.PH
open Go.RowKit Go.Proofs

def byteN (b : List UInt8) (i : Nat) : Nat := (b.getD i 0).toNat
/-- the frame whose bytes are the first n -/
def frAt (b : List UInt8) (n : Nat) : Fr := ⟨byteN b 0 / 8 % 2 == 1, byteN b 0 / 4 % 2 == 1, byteN b 0 / 2 % 2 == 1, byteN b 0 % 2 == 1, byteN b 1, byteN b 5, 256 * byteN b 6 + byteN b 7, (b.take n).drop 12⟩
def frScanF : Nat → List UInt8 → List Fr × Nat × Nat
  | 0, _ => ([], 0, 0)
  | k + 1, b => if frWell b = false then ([], 0, 60) else if b.length < 12 then ([], 0, 0) else if b.length < frN b then ([], 0, 0) else
    (frAt b (frN b) :: (frScanF k (b.drop (frN b))).1, frN b + (frScanF k (b.drop (frN b))).2.1, (frScanF k (b.drop (frN b))).2.2)
def frScan (b : List UInt8) : List Fr × Nat × Nat := frScanF (b.length + 1) b
theorem frWell_n {b : List UInt8} (h : frWell b = true) (hl : 4 ≤ b.length) : 12 ≤ frN b ∧ frN b ≤ 4096 := by
  unfold frWell at h
  rw [List.all_eq_true] at h
  have := h 3 (List.mem_range.2 (by omega))
  simpa [placeOk] using this
theorem frWell_at {b : List UInt8} (h : frWell b = true) {k : Nat} (hk : k < b.length) (hk2 : k < 12) (h3 : k ≠ 3) : byteN b k ≤ frMost k := by
  unfold frWell at h
  rw [List.all_eq_true] at h
  have := h k (List.mem_range.2 (by omega))
  simpa [placeOk, h3, byteN] using this
theorem frScanF_fuel : ∀ (k j : Nat) (b : List UInt8), b.length < k → b.length < j → frScanF k b = frScanF j b
  | 0, _, b, h, _ => by omega
  | _, 0, b, _, h => by omega
  | k + 1, j + 1, b, hk, hj => by
    rw [frScanF, frScanF]
    split
    · rfl
    · split
      · rfl
      · split
        · rfl
        · rename_i h1 h2 h3
          have hn := (frWell_n (by simpa using h1) (by omega)).1
          have hl : (b.drop (frN b)).length < k ∧ (b.drop (frN b)).length < j := by simp; omega
          rw [frScanF_fuel k j _ hl.1 hl.2]
theorem frScan_bad {b : List UInt8} (h : frWell b = false) : frScan b = ([], 0, 60) := by rw [frScan, frScanF, if_pos h]
theorem frScan_short {b : List UInt8} (h : frWell b = true) (hl : b.length < 12) : frScan b = ([], 0, 0) := by rw [frScan, frScanF, if_neg (by simp [h]), if_pos hl]
theorem frScan_wait {b : List UInt8} (h : frWell b = true) (hl : 12 ≤ b.length) (hn : b.length < frN b) : frScan b = ([], 0, 0) := by rw [frScan, frScanF, if_neg (by simp [h]), if_neg (by omega), if_pos hn]
theorem frScan_more {b : List UInt8} (h : frWell b = true) (hl : 12 ≤ b.length) (hn : frN b ≤ b.length) : frScan b = (frAt b (frN b) :: (frScan (b.drop (frN b))).1, frN b + (frScan (b.drop (frN b))).2.1, (frScan (b.drop (frN b))).2.2) := by
  have h12 := (frWell_n h (by omega)).1
  rw [frScan, frScanF, if_neg (by simp [h]), if_neg (by omega), if_neg (by omega), frScanF_fuel b.length ((b.drop (frN b)).length + 1) _ (by simp; omega) (by omega)]
  rfl
theorem frAt_wf (b : List UInt8) (n : Nat) : (frAt b n).wf := by
  have h : ∀ i, byteN b i < 256 := fun i => (b.getD i 0).toNat_lt
  exact ⟨h 1, h 5, by show 256 * byteN b 6 + byteN b 7 < 65536; have := h 6; have := h 7; omega⟩
def frC (f : Fr) : List Value := [.bool f.first, .bool f.last, .bool f.beg, .bool f.fin, .int .u8 (f.ty : Int), .int .u8 (f.track : Int), .int .u16 (f.chan : Int), .string (str f.load)]
theorem frShape : RecShape frC 8 where
  len := fun _ => rfl
  one := fun a u hu => by simp [frC] at hu; rcases hu with rfl | rfl | rfl | rfl | rfl | rfl | rfl | rfl <;> rfl
  pos := by omega
theorem slF : SlT Try.prog 34 24 8 24 (.agg #[.bool false, .bool false, .bool false, .bool false, .int .u8 0, .int .u8 0, .int .u16 0, .string ⟨#[]⟩]) := SlT.mk' Try.underlying34 (by kernel_rfl) rfl (by omega)
abbrev OwnF (w : World) (base : Nat) (A : Option Addr) (n c : Nat) (l : List Fr) : Prop := Own w base 24 8 A n c (rowC frC l)
abbrev RdF (w : World) (B : Nat) (A : Option Addr) (n c : Nat) (l : List Fr) : Prop := Rd w B 8 A n c (rowC frC l)
theorem and_bit : ∀ x : Fin 16, ((bits .and .u8 ((x.val : Nat) : Int) 8 != 0) = (x.val / 8 % 2 == 1)) ∧ ((bits .and .u8 ((x.val : Nat) : Int) 4 != 0) = (x.val / 4 % 2 == 1)) ∧ ((bits .and .u8 ((x.val : Nat) : Int) 2 != 0) = (x.val / 2 % 2 == 1)) ∧ ((bits .and .u8 ((x.val : Nat) : Int) 1 != 0) = (x.val % 2 == 1)) := by decide +kernel
end Go.PH

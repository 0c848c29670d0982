/- What is scanned, put again; frames' bytes scanned; pieces. -/
import Derived.Test.YtgjdpgihehpecaaFrScanMath2
namespace Go.PH

theorem flags_all : ∀ x : Fin 16, bitv (x.val / 8 % 2 == 1) 8 + bitv (x.val / 4 % 2 == 1) 4 + bitv (x.val / 2 % 2 == 1) 2 + bitv (x.val % 2 == 1) 1 = x.val := by decide
theorem ofNat_at {x : UInt8} {n : Nat} (h : n % 256 = x.toNat) : UInt8.ofNat n = x := by
  apply UInt8.toNat_inj.1
  rw [UInt8.toNat_ofNat']
  exact h
theorem zero_of {x : UInt8} (h : x.toNat ≤ 0) : x = 0 := UInt8.toNat_inj.1 (by simpa using h)
theorem be2 (n : Nat) : be 2 n = [UInt8.ofNat (n / 256), UInt8.ofNat n] := by simp [be]
theorem frAt_bytes {b : List UInt8} (hw : frWell b = true) (hl : 12 ≤ b.length) (hN : frN b ≤ b.length) : (frAt b (frN b)).bytes = b.take (frN b) ∧ (frAt b (frN b)).ok = true := by
  have h0 := frWell_at hw (k := 0) (by omega) (by omega) (by omega)
  have h1 := frWell_at hw (k := 1) (by omega) (by omega) (by omega)
  have h4 := frWell_at hw (k := 4) (by omega) (by omega) (by omega)
  have h5 := frWell_at hw (k := 5) (by omega) (by omega) (by omega)
  have h8 := frWell_at hw (k := 8) (by omega) (by omega) (by omega)
  have h9 := frWell_at hw (k := 9) (by omega) (by omega) (by omega)
  have h10 := frWell_at hw (k := 10) (by omega) (by omega) (by omega)
  have h11 := frWell_at hw (k := 11) (by omega) (by omega) (by omega)
  obtain ⟨hn1, hn2⟩ := frWell_n hw (by omega)
  clear hw
  have hNe := frN_eq b
  generalize frN b = N at *
  match b, hl with
  | x0 :: x1 :: x2 :: x3 :: x4 :: x5 :: x6 :: x7 :: x8 :: x9 :: x10 :: x11 :: r, _ =>
    simp only [byteN, List.getD_cons_zero, List.getD_cons_succ, frMost] at h0 h1 h4 h5 h8 h9 h10 h11 hNe
    have hx2 := x2.toNat_lt
    have hx3 := x3.toNat_lt
    have hx6 := x6.toNat_lt
    have hx7 := x7.toNat_lt
    have hx5 := x5.toNat_lt
    have hx1 := x1.toNat_lt
    obtain rfl := zero_of h4
    obtain rfl := zero_of h8
    obtain rfl := zero_of h9
    obtain rfl := zero_of h10
    obtain rfl := zero_of h11
    obtain ⟨M, rfl⟩ : ∃ M, N = M + 12 := ⟨N - 12, by omega⟩
    simp only [List.length_cons] at hN
    have hrl : (r.take M).length = M := by rw [List.length_take]; omega
    have hfl := flags_all ⟨x0.toNat, by omega⟩
    simp only at hfl
    constructor
    · simp only [frAt, Fr.bytes, Fr.flags, byteN, List.getD_cons_zero, List.getD_cons_succ, List.take_succ_cons, List.drop_succ_cons, List.drop_zero, be2, hfl, hrl]
      rw [ofNat_at (x := x0) (by omega), ofNat_at (x := x1) (by omega), ofNat_at (x := x2) (n := (12 + M) / 256) (by omega), ofNat_at (x := x3) (n := 12 + M) (by omega), ofNat_at (x := x5) (by omega), ofNat_at (x := x6) (by omega), ofNat_at (x := x7) (by omega)]
      rfl
    · simp only [frAt, Fr.ok, byteN, List.getD_cons_zero, List.getD_cons_succ, List.take_succ_cons, List.drop_succ_cons, List.drop_zero, hrl]
      simp
      omega

theorem frScan_put (b : List UInt8) : frOks (frScan b).1 = (frScan b).1 ∧ frBytes (frScan b).1 = b.take (frScan b).2.1 := by
  induction hn : b.length using Nat.strongRecOn generalizing b with
  | ind n ih =>
    subst hn
    by_cases hw : frWell b = false
    · rw [frScan_bad hw]; simp [frOks, frBytes]
    · have hw1 : frWell b = true := by simpa using hw
      by_cases h12 : b.length < 12
      · rw [frScan_short hw1 h12]; simp [frOks, frBytes]
      · by_cases hl : b.length < frN b
        · rw [frScan_wait hw1 (by omega) hl]; simp [frOks, frBytes]
        · have hN := (frWell_n hw1 (by omega)).1
          obtain ⟨hb, hok⟩ := frAt_bytes hw1 (by omega) (by omega)
          rw [frScan_more hw1 (by omega) (by omega)]
          obtain ⟨i1, i2⟩ := ih _ (by rw [List.length_drop]; omega) (b.drop (frN b)) rfl
          have e1 : frOks (frAt b (frN b) :: (frScan (b.drop (frN b))).1) = frAt b (frN b) :: frOks (frScan (b.drop (frN b))).1 := by simp [frOks, hok]
          refine ⟨by rw [e1, i1], ?_⟩
          have e2 : frBytes (frAt b (frN b) :: (frScan (b.drop (frN b))).1) = (frAt b (frN b)).bytes ++ frBytes (frScan (b.drop (frN b))).1 := by unfold frBytes; rw [e1]; simp
          rw [e2, i2, hb, ← List.take_add]

theorem place_take {b : List UInt8} {j k : Nat} (h : j < k) : placeOk (b.take k) j = placeOk b j := by
  have e : ∀ i, i < k → (b.take k).getD i 0 = b.getD i 0 := fun i hi => by simp [List.getD, List.getElem?_take, hi]
  unfold placeOk
  split
  · next e3 => subst e3; unfold frN; rw [e 2 (by omega), e 3 (by omega)]
  · rw [e j h]
theorem frWell_take {b : List UInt8} (h : frWell b = true) (k : Nat) : frWell (b.take k) = true := by
  unfold frWell at h ⊢
  rw [List.all_eq_true] at h ⊢
  intro j hj
  have hj := List.mem_range.1 hj
  rw [List.length_take] at hj
  rw [place_take (by omega)]
  exact h j (List.mem_range.2 (by omega))
theorem frWell_app {a : List UInt8} (p : List UInt8) (h : 12 ≤ a.length) : frWell (a ++ p) = frWell a := by
  cases hw : frWell a
  · cases hw2 : frWell (a ++ p)
    · rfl
    · have := frWell_take hw2 a.length
      rw [List.take_left' rfl, hw] at this
      cases this
  · unfold frWell at hw ⊢
    rw [List.all_eq_true] at hw ⊢
    intro j hj
    have hj := List.mem_range.1 hj
    rw [← place_take (k := a.length) (by omega), List.take_left' rfl]
    exact hw j (List.mem_range.2 (by omega))
theorem frWell_bad {a : List UInt8} (p : List UInt8) (h : frWell a = false) : frWell (a ++ p) = false := by
  cases hw2 : frWell (a ++ p)
  · rfl
  · have := frWell_take hw2 a.length
    rw [List.take_left' rfl, h] at this
    cases this
theorem byteN_app {a : List UInt8} (p : List UInt8) {i : Nat} (h : i < a.length) : byteN (a ++ p) i = byteN a i := by
  simp [byteN, List.getD, List.getElem?_append_left h]
theorem frN_app {a : List UInt8} (p : List UInt8) (h : 4 ≤ a.length) : frN (a ++ p) = frN a := by
  rw [frN_eq, frN_eq, byteN_app p (by omega), byteN_app p (by omega)]
theorem frAt_app {a : List UInt8} (p : List UInt8) {n : Nat} (h : 12 ≤ a.length) (hn : n ≤ a.length) : frAt (a ++ p) n = frAt a n := by
  unfold frAt
  rw [byteN_app p (by omega), byteN_app p (by omega), byteN_app p (by omega), byteN_app p (by omega), byteN_app p (by omega), List.take_append_of_le_length hn]
/-- pieces -/
theorem frScan_app (a p : List UInt8) : ((frScan a).2.2 = 0 → frScan (a ++ p) = ((frScan a).1 ++ (frScan (a.drop (frScan a).2.1 ++ p)).1, (frScan a).2.1 + (frScan (a.drop (frScan a).2.1 ++ p)).2.1, (frScan (a.drop (frScan a).2.1 ++ p)).2.2)) ∧
    ((frScan a).2.2 ≠ 0 → frScan (a ++ p) = frScan a) := by
  induction hn : a.length using Nat.strongRecOn generalizing a with
  | ind n ih =>
    subst hn
    by_cases hw : frWell a = false
    · rw [frScan_bad hw, frScan_bad (frWell_bad p hw)]
      exact ⟨fun h => by simp at h, fun _ => rfl⟩
    · have hw1 : frWell a = true := by simpa using hw
      by_cases h12 : a.length < 12
      · rw [frScan_short hw1 h12]
        exact ⟨fun _ => by simp, fun h => absurd rfl h⟩
      · by_cases hl : a.length < frN a
        · rw [frScan_wait hw1 (by omega) hl]
          exact ⟨fun _ => by simp, fun h => absurd rfl h⟩
        · have hN := (frWell_n hw1 (by omega)).1
          rw [frScan_more hw1 (by omega) (by omega)]
          have hw2 : frWell (a ++ p) = true := by rw [frWell_app p (by omega)]; exact hw1
          have hN2 := frN_app (a := a) p (by omega)
          rw [frScan_more hw2 (by simp; omega) (by rw [hN2]; simp; omega), hN2, frAt_app p (by omega) (by omega), List.drop_append_of_le_length (by omega)]
          obtain ⟨i1, i2⟩ := ih _ (by rw [List.length_drop]; omega) (a.drop (frN a)) rfl
          simp only
          refine ⟨fun h => ?_, fun h => ?_⟩
          · rw [i1 h]
            simp [List.drop_drop, Nat.add_assoc]
          · rw [i2 h]
end Go.PH

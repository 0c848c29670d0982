/- WiresOrder: the walk. -/
import Derived.Test.YtemngfljlaimdaaWrHead
import Derived.Test.YtemngfljlaimdaaSlB
import Derived.Test.YtemngfljlaimdaaSee
set_option linter.all false
set_option linter.unusedSimpArgs false
set_option linter.unusedVariables false
namespace Go.PH
open Go.RowKit Go.Proofs

/-- letters of one way -/
def ltrs (l : List (List UInt8)) : List Wl := l.map fun s => ⟨3, -7, s⟩
theorem bag_ltrs (l : List (List UInt8)) : bag (ltrs l) 3 (-7) = l := by
  induction l with
  | nil => rfl
  | cons a l ih => rw [ltrs, List.map_cons, bag_cons, if_pos (by rfl)]; exact congrArg _ ih
theorem bag_ltrs' (l : List (List UInt8)) : bag (ltrs l) 1 2 = [] := by
  induction l with
  | nil => rfl
  | cons a l ih => rw [ltrs, List.map_cons, bag_cons, if_neg (by simp [Wl.on])]; exact ih
theorem ltrs_app (l : List (List UInt8)) (s : List UInt8) : ltrs l ++ [⟨3, -7, s⟩] = ltrs (l ++ [s]) := by simp [ltrs]
theorem send_ltrs (l : List (List UInt8)) (s : List UInt8) (hs : s.length ≤ 300) : sendW (ltrs l) 3 (-7) s = if 64 ≤ l.length then (ltrs l, 6) else (ltrs (l ++ [s]), 0) := by
  rw [sendW, if_neg (by omega), bag_ltrs, ltrs_app]
theorem send_long (l : List (List UInt8)) (s : List UInt8) : sendW (ltrs l) 1 2 s = if 32768 < s.length then (ltrs l, 3) else (ltrs l ++ [⟨1, 2, s⟩], 0) := by
  rw [sendW, bag_ltrs', if_neg (by simp : ¬ 64 ≤ ([] : List (List UInt8)).length)]
theorem take_ltrs (s : List UInt8) (l : List (List UInt8)) (X : List Wl) : takeW (ltrs (s :: l) ++ X) 3 (-7) 0 = (ltrs l ++ X, s, 0) := by rfl
theorem take_end {X : List Wl} (h : ∀ x ∈ X, x.fr = 1) : takeW X 3 (-7) 0 = (X, [], 7) := by
  have hb : bag X 3 (-7) = [] := by
    unfold bag
    rw [List.map_eq_nil_iff, List.filter_eq_nil_iff]
    intro x hx
    simp [Wl.on, h x hx]
  rw [takeW, place_out (.inr (by rw [hb]; simp))]
theorem texts_row {xs : List Value} {L : List (List UInt8)} (hx : xs.length = L.length) (h : ∀ i (h : i < L.length), RStr L[i] ((xs.drop (i * 1)).take 1)) : xs = L.map strV := by
  induction L generalizing xs with
  | nil => simpa using hx
  | cons a L ih =>
    match xs, hx with
    | x :: xs, hx =>
      have h0 := (h 0 (by simp)).1
      simp at h0
      rw [List.map_cons, ← ih (xs := xs) (by simpa using hx) (fun i hi => by
        have := h (i + 1) (by simp; omega)
        rw [show (i + 1) * 1 = i * 1 + 1 by omega, List.drop_succ_cons] at this
        exact this), h0]
      rfl
theorem Hw.toB {w0 w : World} {pb n : Nat} {R : List Wl} (h : Hw w0 w pb n R) : Below w0.heap.size w0 w := by
  obtain ⟨F, _, _, h⟩ := h
  exact h
theorem texts_cell {w : World} {B n c : Nat} {A : Option Addr} {L : List (List UInt8)} (hr : Rd w B 1 A n c (L.map strV)) {k : Nat} (hk : k < n) (hkl : k < L.length) : ∃ b off, A = some ⟨b, off, none⟩ ∧ ∀ W, Below B w W → W.cell? ⟨b, off + k, none⟩ = some (.string (str L[k])) := by
  obtain ⟨b, off, u, hA, hb, hu, hcell⟩ := hr.at_k (k := k) hk
  refine ⟨b, off, hA, fun W hW => ?_⟩
  obtain rfl : u = .string (str L[k]) := by
    rw [List.getElem?_map, List.getElem?_eq_getElem hkl] at hu
    simpa [strV] using hu.symm
  rw [← hcell]
  exact hW.cell hb
theorem Hw.mono {w0 w : World} {pb n m : Nat} {R : List Wl} (h : Hw w0 w pb n R) (hn : n ≤ m) : Hw w0 w pb m R := by
  obtain ⟨F, h1, h2, h3⟩ := h
  exact ⟨F, h1.mono hn, h2, h3⟩
set_option maxRecDepth 20000 in
set_option maxHeartbeats 4000000 in
theorem law_WiresOrder (A : Option Addr) (n c : Nat) (xs : List Value) (L : List (List UInt8)) (x : Int) (w : World) (hr : Rd w w.heap.size 1 A n c xs) (hn : L.length = n) (hR : ∀ i (h : i < L.length), RStr L[i] ((xs.drop (i * 1)).take 1)) (hc : c ≤ 9007199254740992) (hx1 : -128 ≤ x) (hx2 : x ≤ 127) :
    Calls Try.prog 3 #[.slice A n c, .int .i8 x] w fun e w' => e = .returned (.bool true) ∧ Below w.heap.size w w' := by
  have hxs : xs = L.map strV := texts_row (by have := hr.len; omega) hR
  subst hxs
  have hnw := newH w w (Below.refl _ _)
  go_enter Try.func3, Try.ntmps3
  go_wp2_with (first | (with_reducible refine hold_append ?_) | (with_reducible refine hold_make ?_) | (with_reducible refine hold_copy ?_))
  refine hnw.mono ?_
  rintro e w1 ⟨pb, rfl, hH⟩
  clear hnw hR
  have HN := Lib.hid hn
  clear hn
  go_wp2_with (first | (with_reducible refine hold_append ?_) | (with_reducible refine hold_make ?_) | (with_reducible refine hold_copy ?_))
  try go_frame
  go_loopw [6] (fun s wr => ∃ k : Nat, k ≤ n ∧ k ≤ 70 ∧ s = .int .i64 k ∧ Hw w wr pb k (ltrs (L.take (min k 64)))) (fun s _ => 70 - (Proofs.intOf s).toNat)
  case atStart => exact ⟨0, by omega, by omega, rfl, hH⟩
  case round =>
    clear hH
    obtain ⟨k, hk, hk70, rfl, hH⟩ := hrel
    by_cases hlt : k < n ∧ k < 70
    · obtain ⟨d1, d2⟩ := hlt
      have g1 : (k : Int) < (n : Int) := by omega
      have g2 : (k : Int) < 70 := by omega
      obtain ⟨b, off, u, rfl, _, hu, hcell⟩ := (hr.below hH.toB).at_k (k := k) d1
      have hkl : k < L.length := by rw [HN.out]; exact d1
      obtain rfl : u = .string (str L[k]) := by
        rw [List.getElem?_map, List.getElem?_eq_getElem hkl] at hu
        simpa [strV] using hu.symm
      have hsz := str_size L[k]
      by_cases hgr : 300 < L[k].length
      · have g3 : (300 : Int) < ((str L[k]).size : Int) := by omega
        have hBx := hH.toB
        clear hH hu
        go_wp2_with (first | (with_reducible refine hold_append ?_) | (with_reducible refine hold_make ?_) | (with_reducible refine hold_copy ?_))
        refine (head_any _).mono ?_
        rintro e wh ⟨rfl, hBh⟩
        go_wp2_with (first | (with_reducible refine hold_append ?_) | (with_reducible refine hold_make ?_) | (with_reducible refine hold_copy ?_))
        go_ret
        exact ⟨rfl, (hBx).trans (hBh.mono (hBx).size)⟩
      · have g3 : ¬ (300 : Int) < ((str L[k]).size : Int) := by omega
        have hs := sendH hH 3 (-7) L[k] ⟨by omega, by omega⟩ ⟨by omega, by omega⟩ (by omega) (by simp [maxLen]; omega)
        rw [send_ltrs _ _ (by omega)] at hs
        by_cases h64 : k < 64
        · have g4 : (k : Int) < 64 := by omega
          have e64 : ¬ 64 ≤ (L.take (min k 64)).length := by rw [List.length_take]; omega
          have HT : Hid (L.take (min k 64) ++ [L[k]] = L.take (min (k + 1) 64)) := Lib.hid (by rw [Nat.min_eq_left (by omega), Nat.min_eq_left (by omega), List.take_succ_eq_append_getElem hkl])
          rw [if_neg e64, HT.out] at hs
          clear e64 hu hH
          generalize L[k] = s at *
          go_wp2_with (first | (with_reducible refine hold_append ?_) | (with_reducible refine hold_make ?_) | (with_reducible refine hold_copy ?_))
          refine hs.mono ?_
          rintro e w2 ⟨rfl, hH⟩
          clear hs
          go_wp2_with (first | (with_reducible refine hold_append ?_) | (with_reducible refine hold_make ?_) | (with_reducible refine hold_copy ?_))
          exact ⟨⟨k + 1, by omega, by omega, by go_num, hH⟩, by simp [Proofs.intOf]; omega⟩
        · have g4 : decide ((k : Int) < 64) = false := by simp; omega
          have e64 : 64 ≤ (L.take (min k 64)).length := by rw [List.length_take]; omega
          have HT : Hid (min k 64 = min (k + 1) 64) := Lib.hid (by omega)
          rw [if_pos e64, HT.out] at hs
          clear e64 hu hH
          generalize L[k] = s at *
          go_wp2_with (first | (with_reducible refine hold_append ?_) | (with_reducible refine hold_make ?_) | (with_reducible refine hold_copy ?_))
          refine hs.mono ?_
          rintro e w2 ⟨rfl, hH⟩
          clear hs
          go_wp2_with (first | (with_reducible refine hold_append ?_) | (with_reducible refine hold_make ?_) | (with_reducible refine hold_copy ?_))
          exact ⟨⟨k + 1, by omega, by omega, by go_num, hH⟩, by simp [Proofs.intOf]; omega⟩
    · have HK : Hid (L.take (min k 64) = L.take 64) := Lib.hid (by
        by_cases h : k < 64
        · rw [Nat.min_eq_left (by omega), List.take_of_length_le (by rw [HN.out]; omega), List.take_of_length_le (by rw [HN.out]; omega)]
        · rw [Nat.min_eq_right (by omega)])
      rw [HK.out] at hH
      obtain ⟨M, hM⟩ : ∃ M : Nat, (M : Int) = 32768 + x := ⟨(32768 + x).toNat, by omega⟩
      have hw0 : IntKind.i64.wrap x = x := IntWalk.i64_in _ ⟨by omega, by omega⟩
      have hw1 : IntKind.i64.wrap (32768 + x) = (M : Int) := by rw [IntWalk.i64_in _ ⟨by omega, by omega⟩]; omega
      have hM2 : M ≤ 32895 := by omega
      have HMM := Lib.hid hM
      clear hM
      have hH := hH.mono (show k ≤ 70 by omega)
      have hkn : ¬ (k < n ∧ k < 70) := hlt
      have hz := hH.size
      have ho0 := fun W (h : Below w.heap.size w W) => hr.below h
      by_cases hpos : 0 < x
      · have hsl := send_long (L.take 64) (List.replicate M 0)
        rw [if_pos (by have := HMM.out; simp; omega), show ltrs (L.take 64) = ltrs (L.take 64) ++ [] by simp] at hsl
        have hXf : ∀ y ∈ ([] : List Wl), y.fr = 1 := fun y hy => by cases hy
        rw [show ltrs (L.take 64) = ltrs (L.take 64) ++ [] by simp] at hH
        generalize ([] : List Wl) = X at *
        by_cases hq : k < n
        · have g8 : (k : Int) < (n : Int) := by omega
          have g9 : decide ((k : Int) < 70) = false := by simp; omega
          clear hkn
          go_wp2_with (first | (with_reducible refine hold_append ?_) | (with_reducible refine hold_make ?_) | (with_reducible refine hold_copy ?_))
          clear g8
          refine unhold (wp_make slB rfl rfl M M rfl rfl (by omega) (by omega) (Nat.le_refl _) (by omega) (by simp [maxLen]; omega) w.heap.size hz ?_)
          intro w2 ho2 hg2
          have hx0 : (madeCells (Value.int .u8 0).cells (M * 1)).toList.take (M * 1) = (List.replicate M (0 : UInt8)).map u8v := by
            simp [Value.cells, toList_madeCells_one, u8v]
          rw [hx0] at ho2
          have hB2 : Below wr.heap.size wr w2 := (Below.refl _ _).grown hg2 (Nat.le_refl _) (fun g hg => by cases hg)
          have hH2 := hH.on hB2
          have hst := run_strB (w := w2) ho2.rd
          have hs2 := sendH hH2 1 2 (List.replicate M 0) ⟨by omega, by omega⟩ ⟨by omega, by omega⟩ (by simp; omega) (by simp [maxLen])
          rw [hsl] at hs2
          clear hx0 hg2 ho2 hB2 hH hH2 hsl
          generalize List.replicate M (0 : UInt8) = lg at *
          go_wp2_with (first | (with_reducible refine hold_append ?_) | (with_reducible refine hold_make ?_) | (with_reducible refine hold_copy ?_))
          refine hs2.mono ?_
          rintro e w3 ⟨rfl, hH⟩
          clear hs2 hst
          have HXF := Lib.hid hXf
          clear hXf
          generalize hL6 : L.take 64 = L6 at *
          have HL6 := Lib.hid hL6
          clear hL6
          go_wp2_with (first | (with_reducible refine hold_append ?_) | (with_reducible refine hold_make ?_) | (with_reducible refine hold_copy ?_))
          try go_frame
          go_loopw [10] (fun s wr => ∃ k : Nat, k ≤ n ∧ k ≤ 64 ∧ s = .int .i64 k ∧ Hw w wr pb (71 + k) (ltrs (L6.drop k) ++ X)) (fun s _ => 64 - (Proofs.intOf s).toNat)
          case atStart => exact ⟨0, by omega, by omega, rfl, hH⟩
          case round =>
            clear hH
            obtain ⟨k, hk, hk64, rfl, hH⟩ := hrel
            by_cases hlt : k < n ∧ k < 64
            · obtain ⟨d1, d2⟩ := hlt
              have g1 : (k : Int) < (n : Int) := by omega
              have g2 : (k : Int) < 64 := by omega
              have hkl : k < L.length := by rw [HN.out]; exact d1
              obtain ⟨b, off, rfl, HC⟩ := texts_cell hr d1 hkl
              have hdr : L6.drop k = L[k] :: L6.drop (k + 1) := by
                have h6 : k < L6.length := by rw [← HL6.out, List.length_take]; omega
                rw [List.drop_eq_getElem_cons h6]
                congr 1
                simp only [← HL6.out, List.getElem_take]
              have hs := takeH hH 3 (-7) 0 ⟨by omega, by omega⟩ ⟨by omega, by omega⟩ (by simp [maxLen]; omega)
              rw [hdr, take_ltrs] at hs
              clear hdr hH
              generalize L[k] = s at *
              have hq : ((str s).toList == (str s).toList) = true := by simp
              go_wp2_with (first | (with_reducible refine hold_append ?_) | (with_reducible refine hold_make ?_) | (with_reducible refine hold_copy ?_))
              refine hs.mono ?_
              rintro e w4 ⟨rfl, hH⟩
              clear hs
              have hcell := HC w4 hH.toB
              clear HC
              go_wp2_with (first | (with_reducible refine hold_append ?_) | (with_reducible refine hold_make ?_) | (with_reducible refine hold_copy ?_))
              exact ⟨⟨k + 1, by omega, by omega, by go_num, hH⟩, by simp [Proofs.intOf]; omega⟩
            · have hdr : L6.drop k = [] := List.drop_eq_nil_of_le (by rw [← HL6.out, List.length_take]; have := HN.out; omega)
              have hs := takeH hH 3 (-7) 0 ⟨by omega, by omega⟩ ⟨by omega, by omega⟩ (by simp [maxLen]; omega)
              rw [hdr, show ltrs [] ++ X = X from rfl, take_end HXF.out] at hs
              clear hdr hH
              by_cases hq : k < n
              · have g8 : (k : Int) < (n : Int) := by omega
                have g9 : decide ((k : Int) < 64) = false := by simp; omega
                go_wp2_with (first | (with_reducible refine hold_append ?_) | (with_reducible refine hold_make ?_) | (with_reducible refine hold_copy ?_))
                refine hs.mono ?_
                rintro e w4 ⟨rfl, hH⟩
                clear hs g8
                have hBx := hH.toB
                clear hH
                go_wp2_with (first | (with_reducible refine hold_append ?_) | (with_reducible refine hold_make ?_) | (with_reducible refine hold_copy ?_))
                refine (head_any _).mono ?_
                rintro e wh ⟨rfl, hBh⟩
                go_wp2_with (first | (with_reducible refine hold_append ?_) | (with_reducible refine hold_make ?_) | (with_reducible refine hold_copy ?_))
                go_ret
                exact ⟨rfl, (hBx).trans (hBh.mono (hBx).size)⟩
              · have g8 : decide ((k : Int) < (n : Int)) = false := by simp; omega
                go_wp2_with (first | (with_reducible refine hold_append ?_) | (with_reducible refine hold_make ?_) | (with_reducible refine hold_copy ?_))
                refine hs.mono ?_
                rintro e w4 ⟨rfl, hH⟩
                clear hs g8
                have hBx := hH.toB
                clear hH
                go_wp2_with (first | (with_reducible refine hold_append ?_) | (with_reducible refine hold_make ?_) | (with_reducible refine hold_copy ?_))
                refine (head_any _).mono ?_
                rintro e wh ⟨rfl, hBh⟩
                go_wp2_with (first | (with_reducible refine hold_append ?_) | (with_reducible refine hold_make ?_) | (with_reducible refine hold_copy ?_))
                go_ret
                exact ⟨rfl, (hBx).trans (hBh.mono (hBx).size)⟩
        · have g8 : decide ((k : Int) < (n : Int)) = false := by simp; omega
          clear hkn
          go_wp2_with (first | (with_reducible refine hold_append ?_) | (with_reducible refine hold_make ?_) | (with_reducible refine hold_copy ?_))
          clear g8
          refine unhold (wp_make slB rfl rfl M M rfl rfl (by omega) (by omega) (Nat.le_refl _) (by omega) (by simp [maxLen]; omega) w.heap.size hz ?_)
          intro w2 ho2 hg2
          have hx0 : (madeCells (Value.int .u8 0).cells (M * 1)).toList.take (M * 1) = (List.replicate M (0 : UInt8)).map u8v := by
            simp [Value.cells, toList_madeCells_one, u8v]
          rw [hx0] at ho2
          have hB2 : Below wr.heap.size wr w2 := (Below.refl _ _).grown hg2 (Nat.le_refl _) (fun g hg => by cases hg)
          have hH2 := hH.on hB2
          have hst := run_strB (w := w2) ho2.rd
          have hs2 := sendH hH2 1 2 (List.replicate M 0) ⟨by omega, by omega⟩ ⟨by omega, by omega⟩ (by simp; omega) (by simp [maxLen])
          rw [hsl] at hs2
          clear hx0 hg2 ho2 hB2 hH hH2 hsl
          generalize List.replicate M (0 : UInt8) = lg at *
          go_wp2_with (first | (with_reducible refine hold_append ?_) | (with_reducible refine hold_make ?_) | (with_reducible refine hold_copy ?_))
          refine hs2.mono ?_
          rintro e w3 ⟨rfl, hH⟩
          clear hs2 hst
          have HXF := Lib.hid hXf
          clear hXf
          generalize hL6 : L.take 64 = L6 at *
          have HL6 := Lib.hid hL6
          clear hL6
          go_wp2_with (first | (with_reducible refine hold_append ?_) | (with_reducible refine hold_make ?_) | (with_reducible refine hold_copy ?_))
          try go_frame
          go_loopw [10] (fun s wr => ∃ k : Nat, k ≤ n ∧ k ≤ 64 ∧ s = .int .i64 k ∧ Hw w wr pb (71 + k) (ltrs (L6.drop k) ++ X)) (fun s _ => 64 - (Proofs.intOf s).toNat)
          case atStart => exact ⟨0, by omega, by omega, rfl, hH⟩
          case round =>
            clear hH
            obtain ⟨k, hk, hk64, rfl, hH⟩ := hrel
            by_cases hlt : k < n ∧ k < 64
            · obtain ⟨d1, d2⟩ := hlt
              have g1 : (k : Int) < (n : Int) := by omega
              have g2 : (k : Int) < 64 := by omega
              have hkl : k < L.length := by rw [HN.out]; exact d1
              obtain ⟨b, off, rfl, HC⟩ := texts_cell hr d1 hkl
              have hdr : L6.drop k = L[k] :: L6.drop (k + 1) := by
                have h6 : k < L6.length := by rw [← HL6.out, List.length_take]; omega
                rw [List.drop_eq_getElem_cons h6]
                congr 1
                simp only [← HL6.out, List.getElem_take]
              have hs := takeH hH 3 (-7) 0 ⟨by omega, by omega⟩ ⟨by omega, by omega⟩ (by simp [maxLen]; omega)
              rw [hdr, take_ltrs] at hs
              clear hdr hH
              generalize L[k] = s at *
              have hq : ((str s).toList == (str s).toList) = true := by simp
              go_wp2_with (first | (with_reducible refine hold_append ?_) | (with_reducible refine hold_make ?_) | (with_reducible refine hold_copy ?_))
              refine hs.mono ?_
              rintro e w4 ⟨rfl, hH⟩
              clear hs
              have hcell := HC w4 hH.toB
              clear HC
              go_wp2_with (first | (with_reducible refine hold_append ?_) | (with_reducible refine hold_make ?_) | (with_reducible refine hold_copy ?_))
              exact ⟨⟨k + 1, by omega, by omega, by go_num, hH⟩, by simp [Proofs.intOf]; omega⟩
            · have hdr : L6.drop k = [] := List.drop_eq_nil_of_le (by rw [← HL6.out, List.length_take]; have := HN.out; omega)
              have hs := takeH hH 3 (-7) 0 ⟨by omega, by omega⟩ ⟨by omega, by omega⟩ (by simp [maxLen]; omega)
              rw [hdr, show ltrs [] ++ X = X from rfl, take_end HXF.out] at hs
              clear hdr hH
              by_cases hq : k < n
              · have g8 : (k : Int) < (n : Int) := by omega
                have g9 : decide ((k : Int) < 64) = false := by simp; omega
                go_wp2_with (first | (with_reducible refine hold_append ?_) | (with_reducible refine hold_make ?_) | (with_reducible refine hold_copy ?_))
                refine hs.mono ?_
                rintro e w4 ⟨rfl, hH⟩
                clear hs g8
                have hBx := hH.toB
                clear hH
                go_wp2_with (first | (with_reducible refine hold_append ?_) | (with_reducible refine hold_make ?_) | (with_reducible refine hold_copy ?_))
                refine (head_any _).mono ?_
                rintro e wh ⟨rfl, hBh⟩
                go_wp2_with (first | (with_reducible refine hold_append ?_) | (with_reducible refine hold_make ?_) | (with_reducible refine hold_copy ?_))
                go_ret
                exact ⟨rfl, (hBx).trans (hBh.mono (hBx).size)⟩
              · have g8 : decide ((k : Int) < (n : Int)) = false := by simp; omega
                go_wp2_with (first | (with_reducible refine hold_append ?_) | (with_reducible refine hold_make ?_) | (with_reducible refine hold_copy ?_))
                refine hs.mono ?_
                rintro e w4 ⟨rfl, hH⟩
                clear hs g8
                have hBx := hH.toB
                clear hH
                go_wp2_with (first | (with_reducible refine hold_append ?_) | (with_reducible refine hold_make ?_) | (with_reducible refine hold_copy ?_))
                refine (head_any _).mono ?_
                rintro e wh ⟨rfl, hBh⟩
                go_wp2_with (first | (with_reducible refine hold_append ?_) | (with_reducible refine hold_make ?_) | (with_reducible refine hold_copy ?_))
                go_ret
                exact ⟨rfl, (hBx).trans (hBh.mono (hBx).size)⟩
      · have hsl := send_long (L.take 64) (List.replicate M 0)
        rw [if_neg (by have := HMM.out; simp; omega)] at hsl
        have hXf : ∀ y ∈ ([⟨1, 2, List.replicate M 0⟩] : List Wl), y.fr = 1 := fun y hy => by rw [List.mem_singleton.1 hy]
        generalize ([⟨1, 2, List.replicate M 0⟩] : List Wl) = X at *
        by_cases hq : k < n
        · have g8 : (k : Int) < (n : Int) := by omega
          have g9 : decide ((k : Int) < 70) = false := by simp; omega
          have g7 : ¬ (0 < x) := hpos
          clear hkn
          go_wp2_with (first | (with_reducible refine hold_append ?_) | (with_reducible refine hold_make ?_) | (with_reducible refine hold_copy ?_))
          clear g8
          refine unhold (wp_make slB rfl rfl M M rfl rfl (by omega) (by omega) (Nat.le_refl _) (by omega) (by simp [maxLen]; omega) w.heap.size hz ?_)
          intro w2 ho2 hg2
          have hx0 : (madeCells (Value.int .u8 0).cells (M * 1)).toList.take (M * 1) = (List.replicate M (0 : UInt8)).map u8v := by
            simp [Value.cells, toList_madeCells_one, u8v]
          rw [hx0] at ho2
          have hB2 : Below wr.heap.size wr w2 := (Below.refl _ _).grown hg2 (Nat.le_refl _) (fun g hg => by cases hg)
          have hH2 := hH.on hB2
          have hst := run_strB (w := w2) ho2.rd
          have hs2 := sendH hH2 1 2 (List.replicate M 0) ⟨by omega, by omega⟩ ⟨by omega, by omega⟩ (by simp; omega) (by simp [maxLen])
          rw [hsl] at hs2
          clear hx0 hg2 ho2 hB2 hH hH2 hsl
          generalize List.replicate M (0 : UInt8) = lg at *
          go_wp2_with (first | (with_reducible refine hold_append ?_) | (with_reducible refine hold_make ?_) | (with_reducible refine hold_copy ?_))
          refine hs2.mono ?_
          rintro e w3 ⟨rfl, hH⟩
          clear hs2 hst
          have HXF := Lib.hid hXf
          clear hXf
          generalize hL6 : L.take 64 = L6 at *
          have HL6 := Lib.hid hL6
          clear hL6
          go_wp2_with (first | (with_reducible refine hold_append ?_) | (with_reducible refine hold_make ?_) | (with_reducible refine hold_copy ?_))
          try go_frame
          go_loopw [10] (fun s wr => ∃ k : Nat, k ≤ n ∧ k ≤ 64 ∧ s = .int .i64 k ∧ Hw w wr pb (71 + k) (ltrs (L6.drop k) ++ X)) (fun s _ => 64 - (Proofs.intOf s).toNat)
          case atStart => exact ⟨0, by omega, by omega, rfl, hH⟩
          case round =>
            clear hH
            obtain ⟨k, hk, hk64, rfl, hH⟩ := hrel
            by_cases hlt : k < n ∧ k < 64
            · obtain ⟨d1, d2⟩ := hlt
              have g1 : (k : Int) < (n : Int) := by omega
              have g2 : (k : Int) < 64 := by omega
              have hkl : k < L.length := by rw [HN.out]; exact d1
              obtain ⟨b, off, rfl, HC⟩ := texts_cell hr d1 hkl
              have hdr : L6.drop k = L[k] :: L6.drop (k + 1) := by
                have h6 : k < L6.length := by rw [← HL6.out, List.length_take]; omega
                rw [List.drop_eq_getElem_cons h6]
                congr 1
                simp only [← HL6.out, List.getElem_take]
              have hs := takeH hH 3 (-7) 0 ⟨by omega, by omega⟩ ⟨by omega, by omega⟩ (by simp [maxLen]; omega)
              rw [hdr, take_ltrs] at hs
              clear hdr hH
              generalize L[k] = s at *
              have hq : ((str s).toList == (str s).toList) = true := by simp
              go_wp2_with (first | (with_reducible refine hold_append ?_) | (with_reducible refine hold_make ?_) | (with_reducible refine hold_copy ?_))
              refine hs.mono ?_
              rintro e w4 ⟨rfl, hH⟩
              clear hs
              have hcell := HC w4 hH.toB
              clear HC
              go_wp2_with (first | (with_reducible refine hold_append ?_) | (with_reducible refine hold_make ?_) | (with_reducible refine hold_copy ?_))
              exact ⟨⟨k + 1, by omega, by omega, by go_num, hH⟩, by simp [Proofs.intOf]; omega⟩
            · have hdr : L6.drop k = [] := List.drop_eq_nil_of_le (by rw [← HL6.out, List.length_take]; have := HN.out; omega)
              have hs := takeH hH 3 (-7) 0 ⟨by omega, by omega⟩ ⟨by omega, by omega⟩ (by simp [maxLen]; omega)
              rw [hdr, show ltrs [] ++ X = X from rfl, take_end HXF.out] at hs
              clear hdr hH
              by_cases hq : k < n
              · have g8 : (k : Int) < (n : Int) := by omega
                have g9 : decide ((k : Int) < 64) = false := by simp; omega
                go_wp2_with (first | (with_reducible refine hold_append ?_) | (with_reducible refine hold_make ?_) | (with_reducible refine hold_copy ?_))
                refine hs.mono ?_
                rintro e w4 ⟨rfl, hH⟩
                clear hs g8
                have hBx := hH.toB
                clear hH
                go_wp2_with (first | (with_reducible refine hold_append ?_) | (with_reducible refine hold_make ?_) | (with_reducible refine hold_copy ?_))
                refine (head_any _).mono ?_
                rintro e wh ⟨rfl, hBh⟩
                go_wp2_with (first | (with_reducible refine hold_append ?_) | (with_reducible refine hold_make ?_) | (with_reducible refine hold_copy ?_))
                go_ret
                exact ⟨rfl, (hBx).trans (hBh.mono (hBx).size)⟩
              · have g8 : decide ((k : Int) < (n : Int)) = false := by simp; omega
                go_wp2_with (first | (with_reducible refine hold_append ?_) | (with_reducible refine hold_make ?_) | (with_reducible refine hold_copy ?_))
                refine hs.mono ?_
                rintro e w4 ⟨rfl, hH⟩
                clear hs g8
                have hBx := hH.toB
                clear hH
                go_wp2_with (first | (with_reducible refine hold_append ?_) | (with_reducible refine hold_make ?_) | (with_reducible refine hold_copy ?_))
                refine (head_any _).mono ?_
                rintro e wh ⟨rfl, hBh⟩
                go_wp2_with (first | (with_reducible refine hold_append ?_) | (with_reducible refine hold_make ?_) | (with_reducible refine hold_copy ?_))
                go_ret
                exact ⟨rfl, (hBx).trans (hBh.mono (hBx).size)⟩
        · have g8 : decide ((k : Int) < (n : Int)) = false := by simp; omega
          clear hkn
          go_wp2_with (first | (with_reducible refine hold_append ?_) | (with_reducible refine hold_make ?_) | (with_reducible refine hold_copy ?_))
          clear g8
          refine unhold (wp_make slB rfl rfl M M rfl rfl (by omega) (by omega) (Nat.le_refl _) (by omega) (by simp [maxLen]; omega) w.heap.size hz ?_)
          intro w2 ho2 hg2
          have hx0 : (madeCells (Value.int .u8 0).cells (M * 1)).toList.take (M * 1) = (List.replicate M (0 : UInt8)).map u8v := by
            simp [Value.cells, toList_madeCells_one, u8v]
          rw [hx0] at ho2
          have hB2 : Below wr.heap.size wr w2 := (Below.refl _ _).grown hg2 (Nat.le_refl _) (fun g hg => by cases hg)
          have hH2 := hH.on hB2
          have hst := run_strB (w := w2) ho2.rd
          have hs2 := sendH hH2 1 2 (List.replicate M 0) ⟨by omega, by omega⟩ ⟨by omega, by omega⟩ (by simp; omega) (by simp [maxLen])
          rw [hsl] at hs2
          clear hx0 hg2 ho2 hB2 hH hH2 hsl
          generalize List.replicate M (0 : UInt8) = lg at *
          go_wp2_with (first | (with_reducible refine hold_append ?_) | (with_reducible refine hold_make ?_) | (with_reducible refine hold_copy ?_))
          refine hs2.mono ?_
          rintro e w3 ⟨rfl, hH⟩
          clear hs2 hst
          have HXF := Lib.hid hXf
          clear hXf
          generalize hL6 : L.take 64 = L6 at *
          have HL6 := Lib.hid hL6
          clear hL6
          go_wp2_with (first | (with_reducible refine hold_append ?_) | (with_reducible refine hold_make ?_) | (with_reducible refine hold_copy ?_))
          try go_frame
          go_loopw [10] (fun s wr => ∃ k : Nat, k ≤ n ∧ k ≤ 64 ∧ s = .int .i64 k ∧ Hw w wr pb (71 + k) (ltrs (L6.drop k) ++ X)) (fun s _ => 64 - (Proofs.intOf s).toNat)
          case atStart => exact ⟨0, by omega, by omega, rfl, hH⟩
          case round =>
            clear hH
            obtain ⟨k, hk, hk64, rfl, hH⟩ := hrel
            by_cases hlt : k < n ∧ k < 64
            · obtain ⟨d1, d2⟩ := hlt
              have g1 : (k : Int) < (n : Int) := by omega
              have g2 : (k : Int) < 64 := by omega
              have hkl : k < L.length := by rw [HN.out]; exact d1
              obtain ⟨b, off, rfl, HC⟩ := texts_cell hr d1 hkl
              have hdr : L6.drop k = L[k] :: L6.drop (k + 1) := by
                have h6 : k < L6.length := by rw [← HL6.out, List.length_take]; omega
                rw [List.drop_eq_getElem_cons h6]
                congr 1
                simp only [← HL6.out, List.getElem_take]
              have hs := takeH hH 3 (-7) 0 ⟨by omega, by omega⟩ ⟨by omega, by omega⟩ (by simp [maxLen]; omega)
              rw [hdr, take_ltrs] at hs
              clear hdr hH
              generalize L[k] = s at *
              have hq : ((str s).toList == (str s).toList) = true := by simp
              go_wp2_with (first | (with_reducible refine hold_append ?_) | (with_reducible refine hold_make ?_) | (with_reducible refine hold_copy ?_))
              refine hs.mono ?_
              rintro e w4 ⟨rfl, hH⟩
              clear hs
              have hcell := HC w4 hH.toB
              clear HC
              go_wp2_with (first | (with_reducible refine hold_append ?_) | (with_reducible refine hold_make ?_) | (with_reducible refine hold_copy ?_))
              exact ⟨⟨k + 1, by omega, by omega, by go_num, hH⟩, by simp [Proofs.intOf]; omega⟩
            · have hdr : L6.drop k = [] := List.drop_eq_nil_of_le (by rw [← HL6.out, List.length_take]; have := HN.out; omega)
              have hs := takeH hH 3 (-7) 0 ⟨by omega, by omega⟩ ⟨by omega, by omega⟩ (by simp [maxLen]; omega)
              rw [hdr, show ltrs [] ++ X = X from rfl, take_end HXF.out] at hs
              clear hdr hH
              by_cases hq : k < n
              · have g8 : (k : Int) < (n : Int) := by omega
                have g9 : decide ((k : Int) < 64) = false := by simp; omega
                go_wp2_with (first | (with_reducible refine hold_append ?_) | (with_reducible refine hold_make ?_) | (with_reducible refine hold_copy ?_))
                refine hs.mono ?_
                rintro e w4 ⟨rfl, hH⟩
                clear hs g8
                have hBx := hH.toB
                clear hH
                go_wp2_with (first | (with_reducible refine hold_append ?_) | (with_reducible refine hold_make ?_) | (with_reducible refine hold_copy ?_))
                refine (head_any _).mono ?_
                rintro e wh ⟨rfl, hBh⟩
                go_wp2_with (first | (with_reducible refine hold_append ?_) | (with_reducible refine hold_make ?_) | (with_reducible refine hold_copy ?_))
                go_ret
                exact ⟨rfl, (hBx).trans (hBh.mono (hBx).size)⟩
              · have g8 : decide ((k : Int) < (n : Int)) = false := by simp; omega
                go_wp2_with (first | (with_reducible refine hold_append ?_) | (with_reducible refine hold_make ?_) | (with_reducible refine hold_copy ?_))
                refine hs.mono ?_
                rintro e w4 ⟨rfl, hH⟩
                clear hs g8
                have hBx := hH.toB
                clear hH
                go_wp2_with (first | (with_reducible refine hold_append ?_) | (with_reducible refine hold_make ?_) | (with_reducible refine hold_copy ?_))
                refine (head_any _).mono ?_
                rintro e wh ⟨rfl, hBh⟩
                go_wp2_with (first | (with_reducible refine hold_append ?_) | (with_reducible refine hold_make ?_) | (with_reducible refine hold_copy ?_))
                go_ret
                exact ⟨rfl, (hBx).trans (hBh.mono (hBx).size)⟩
end Go.PH

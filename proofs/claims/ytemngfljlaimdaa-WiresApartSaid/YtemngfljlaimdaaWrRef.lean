/- The document's wires: one row of letters; the walks of place and Count. -/
import Derived.Test.YtemngfljlaimdaaWrKey
import Derived.Test.YtemngfljlaimdaaWrMem
import Derived.Test.YtemngfljlaimdaaRec
import Derived.Test.YtemngfljlaimdaaRecSet
import Derived.Test.YtemngfljlaimdaaMem5
import Derived.Test.YtemngfljlaimdaaBox
set_option linter.all false
set_option linter.unusedSimpArgs false
set_option linter.unusedVariables false
namespace Go.PH
open Go.RowKit Go.Proofs

def lwC (x : Wl) : List Value := [.int .i64 x.fr, .int .i64 x.to, .string (str x.s)]
theorem lwShape : RecShape lwC 3 where
  len a := rfl
  one a u hu := by simp [lwC] at hu; rcases hu with rfl | rfl | rfl <;> rfl
  pos := by omega
theorem slL : SlT Try.prog 35 63 3 32 (.agg #[.int .i64 0, .int .i64 0, .string ⟨#[]⟩]) := SlT.mk' Try.underlying35 (by kernel_rfl) rfl (by omega)
/-- the document's wires at a pointer -/
structure Rw (w : World) (F : Nat → Prop) (qb : Nat) (R : List Wl) : Prop where
  ex : ∃ A c, Box w qb 37 #[.slice A R.length c] ∧ Own w 0 63 3 A R.length c (rowC lwC R) ∧ F qb ∧ (∀ g, blk A = some g → F g ∧ g ≠ qb)
  lt : ∀ g, F g → g < w.heap.size
theorem Rw.keep {w w' : World} {F : Nat → Prop} {qb : Nat} {R : List Wl} (h : Rw w F qb R) (hk : ∀ g, F g → w'.heap[g]? = w.heap[g]?) (hs : w.heap.size ≤ w'.heap.size) : Rw w' F qb R where
  ex := by
    obtain ⟨A, c, h1, h2, h3, h4⟩ := h.ex
    exact ⟨A, c, (hk _ h3).trans h1, own_keep h2 (fun g hg => hk g (h4 g hg).1) hs, h3, h4⟩
  lt g hg := Nat.lt_of_lt_of_le (h.lt g hg) hs
theorem Rw.below {w w' : World} {F : Nat → Prop} {qb : Nat} {R : List Wl} (h : Rw w F qb R) (hB : Below w.heap.size w w') : Rw w' F qb R := h.keep (fun g hg => hB.block g (h.lt g hg)) hB.size
/-- a place as the document tells it -/
def plc (o : Option Nat) : Int := match o with | some j => (j : Int) | none => -1
theorem placeI_cons (x : Wl) (R : List Wl) (a b j : Int) (hj : ¬ j < 0) : placeI (x :: R) a b j = if x.on a b = true then (if j = 0 then some 0 else (placeI R a b (j - 1)).map (· + 1)) else (placeI R a b j).map (· + 1) := by
  unfold placeI
  rw [if_neg hj]
  by_cases hx : x.on a b = true
  · rw [if_pos hx]
    by_cases h0 : j = 0
    · subst h0
      rw [if_pos rfl, show Int.toNat 0 = 0 from rfl, placeW, if_pos hx]
    · rw [if_neg h0, if_neg (by omega), show j.toNat = (j - 1).toNat + 1 by omega, placeW, if_pos hx]
  · rw [if_neg hx, if_neg hj, placeW_no hx]
theorem on_iff (x : Wl) (a b : Int) : x.on a b = true ↔ x.fr = a ∧ x.to = b := by simp [Wl.on]
theorem plc_map (o : Option Nat) (k : Nat) : (o.map (· + 1)).map (· + k) = o.map (· + (k + 1)) := by
  cases o <;> simp; omega
set_option maxRecDepth 20000 in
set_option maxHeartbeats 2000000 in
theorem place_any (F : Nat → Prop) (qb : Nat) (R : List Wl) (a b i : Int) (w : World) (h : Rw w F qb R) (hi : i64ok i) (hR : R.length ≤ 1000000) :
    Calls Try.prog 30 #[.pointer (some ⟨qb, 0, none⟩), .int .i64 a, .int .i64 b, .int .i64 i] w fun e w' => e = .returned (.int .i64 (plc (placeI R a b i))) ∧ w' = w := by
  obtain ⟨A, c, hx, ho, _, _⟩ := h.ex
  clear h
  obtain ⟨n, hn⟩ : ∃ n, n = R.length := ⟨_, rfl⟩
  rw [← hn] at hx ho hR
  have HN := Lib.hid hn
  clear hn
  have c0 := hx.cell (j := 0) rfl
  have hrd := ho.rd
  have HO := Lib.hid ho
  clear ho hx
  unfold i64ok at hi
  go_enter Try.func30, Try.ntmps30
  go_wp2_with (first | (with_reducible refine hold_append ?_) | (with_reducible refine hold_make ?_) | (with_reducible refine hold_copy ?_))
  try go_frame
  go_loopw [3, 9] (fun s x wr => ∃ (k : Nat) (j : Int), k ≤ n ∧ j ≤ i ∧ -1 ≤ j + (if i < 0 then -i else 0) ∧ s = .int .i64 j ∧ x = .int .i64 k ∧ Hid (placeI R a b i = (placeI (R.drop k) a b j).map (· + k)) ∧ wr = w) (fun _ x _ => n - (intOf x).toNat)
  case atStart => exact ⟨0, i, by omega, by omega, by split <;> omega, rfl, rfl, Lib.hid (by simp), rfl⟩
  case round =>
    obtain ⟨k, j, hk, hj, hj2, rfl, rfl, HP, hw⟩ := hrel
    subst wr
    by_cases hlt : k < n
    · have d1 : (k : Int) < (n : Int) := by omega
      by_cases hj0 : j < 0
      · have d2 : decide (0 ≤ j) = false := by simp; omega
        have HR : Hid (plc (placeI R a b i) = -1) := Lib.hid (by rw [HP.out, placeI, if_pos hj0]; rfl)
        go_wp2_with (first | (with_reducible refine hold_append ?_) | (with_reducible refine hold_make ?_) | (with_reducible refine hold_copy ?_))
        go_ret
        exact ⟨by rw [HR.out]; rfl, rfl⟩
      · have d2 : 0 ≤ j := by omega
        have hkl : k < R.length := by rw [← HN.out]; exact hlt
        obtain ⟨bb, off, rfl, _, _, hc⟩ := rec_at lwShape hrd (k := k) hlt
        have k0 := hc 0 (.int .i64 R[k].fr) rfl
        have k1 := hc 1 (.int .i64 R[k].to) rfl
        simp only [Nat.add_zero] at k0
        have hdr := List.drop_eq_getElem_cons hkl
        have hpc := placeI_cons R[k] (R.drop (k + 1)) a b j hj0
        rw [← hdr] at hpc
        simp only [on_iff] at hpc
        clear hdr hc
        have hP := HP.out
        clear HP
        generalize R[k] = x at *
        by_cases e1 : x.fr = a
        · have g1 : (x.fr == a) = true := by simp [e1]
          by_cases e2 : x.to = b
          · have g2 : (x.to == b) = true := by simp [e2]
            rw [if_pos ⟨e1, e2⟩] at hpc
            by_cases e3 : j = 0
            · have g3 : (j == 0) = true := by simp [e3]
              rw [if_pos e3] at hpc
              have HR : Hid (plc (placeI R a b i) = (k : Int)) := Lib.hid (by rw [hP, hpc]; simp [plc])
              clear hpc hP e1 e2 e3
              go_wp2_with (first | (with_reducible refine hold_append ?_) | (with_reducible refine hold_make ?_) | (with_reducible refine hold_copy ?_))
              go_ret
              exact ⟨by rw [HR.out]; rfl, rfl⟩
            · have g3 : (j == 0) = false := by simp [e3]
              rw [if_neg e3] at hpc
              have HP2 : Hid (placeI R a b i = (placeI (R.drop (k + 1)) a b (j - 1)).map (· + (k + 1))) := Lib.hid (by rw [hP, hpc, plc_map])
              have hw1 : IntKind.i64.wrap (j - 1) = j - 1 := IntWalk.i64_in _ ⟨by omega, by omega⟩
              clear hpc hP e1 e2
              go_wp2_with (first | (with_reducible refine hold_append ?_) | (with_reducible refine hold_make ?_) | (with_reducible refine hold_copy ?_))
              exact ⟨⟨k + 1, j - 1, by omega, by omega, by split <;> omega, by first | rfl | go_num, by first | rfl | go_num, HP2, by first | rfl | trivial⟩, by simp [intOf]; omega⟩
          · have g2 : (x.to == b) = false := by simp [e2]
            rw [if_neg (fun e => e2 e.2)] at hpc
            have HP2 : Hid (placeI R a b i = (placeI (R.drop (k + 1)) a b j).map (· + (k + 1))) := Lib.hid (by rw [hP, hpc, plc_map])
            clear hpc hP e1 e2
            go_wp2_with (first | (with_reducible refine hold_append ?_) | (with_reducible refine hold_make ?_) | (with_reducible refine hold_copy ?_))
            exact ⟨⟨k + 1, j, by omega, by omega, by split <;> omega, by first | rfl | go_num, by first | rfl | go_num, HP2, by first | rfl | trivial⟩, by simp [intOf]; omega⟩
        · have g1 : (x.fr == a) = false := by simp [e1]
          rw [if_neg (fun e => e1 e.1)] at hpc
          have HP2 : Hid (placeI R a b i = (placeI (R.drop (k + 1)) a b j).map (· + (k + 1))) := Lib.hid (by rw [hP, hpc, plc_map])
          clear hpc hP e1
          go_wp2_with (first | (with_reducible refine hold_append ?_) | (with_reducible refine hold_make ?_) | (with_reducible refine hold_copy ?_))
          exact ⟨⟨k + 1, j, by omega, by omega, by split <;> omega, by first | rfl | go_num, by first | rfl | go_num, HP2, by first | rfl | trivial⟩, by simp [intOf]; omega⟩
    · have d1 : decide ((k : Int) < (n : Int)) = false := by simp; omega
      have HR : Hid (plc (placeI R a b i) = -1) := Lib.hid (by
        rw [HP.out, List.drop_eq_nil_of_le (by rw [← HN.out]; omega)]
        unfold placeI
        split
        · rfl
        · rw [placeW]; rfl)
      go_wp2_with (first | (with_reducible refine hold_append ?_) | (with_reducible refine hold_make ?_) | (with_reducible refine hold_copy ?_))
      go_ret
      exact ⟨by rw [HR.out]; rfl, rfl⟩
set_option maxRecDepth 20000 in
set_option maxHeartbeats 2000000 in
theorem rcount_any (F : Nat → Prop) (qb : Nat) (R : List Wl) (a b : Int) (w : World) (h : Rw w F qb R) (hR : R.length ≤ 1000000) :
    Calls Try.prog 14 #[.pointer (some ⟨qb, 0, none⟩), .int .i64 a, .int .i64 b] w fun e w' => e = .returned (.int .i64 ((bag R a b).length : Int)) ∧ w' = w := by
  obtain ⟨A, c, hx, ho, _, _⟩ := h.ex
  clear h
  obtain ⟨n, hn⟩ : ∃ n, n = R.length := ⟨_, rfl⟩
  rw [← hn] at hx ho hR
  have HN := Lib.hid hn
  clear hn
  have c0 := hx.cell (j := 0) rfl
  have hrd := ho.rd
  have HO := Lib.hid ho
  clear ho hx
  go_enter Try.func14, Try.ntmps14
  go_wp2_with (first | (with_reducible refine hold_append ?_) | (with_reducible refine hold_make ?_) | (with_reducible refine hold_copy ?_))
  try go_frame
  go_loopw [7, 8] (fun s x wr => ∃ (k j : Nat), k ≤ n ∧ j ≤ k ∧ s = .int .i64 j ∧ x = .int .i64 k ∧ Hid ((bag R a b).length = j + (bag (R.drop k) a b).length) ∧ wr = w) (fun _ x _ => n - (intOf x).toNat)
  case atStart => exact ⟨0, 0, by omega, by omega, rfl, rfl, Lib.hid (by simp), rfl⟩
  case round =>
    obtain ⟨k, j, hk, hj, rfl, rfl, HP, hw⟩ := hrel
    subst wr
    by_cases hlt : k < n
    · have d1 : (k : Int) < (n : Int) := by omega
      have hkl : k < R.length := by rw [← HN.out]; exact hlt
      obtain ⟨bb, off, rfl, _, _, hc⟩ := rec_at lwShape hrd (k := k) hlt
      have k0 := hc 0 (.int .i64 R[k].fr) rfl
      have k1 := hc 1 (.int .i64 R[k].to) rfl
      simp only [Nat.add_zero] at k0
      have hdr := List.drop_eq_getElem_cons hkl
      have hpc := bag_cons R[k] (R.drop (k + 1)) a b
      rw [← hdr] at hpc
      simp only [on_iff] at hpc
      clear hdr hc
      have hP := HP.out
      clear HP
      generalize R[k] = x at *
      by_cases e1 : x.fr = a
      · have g1 : (x.fr == a) = true := by simp [e1]
        by_cases e2 : x.to = b
        · have g2 : (x.to == b) = true := by simp [e2]
          rw [if_pos ⟨e1, e2⟩] at hpc
          have HP2 : Hid ((bag R a b).length = (j + 1) + (bag (R.drop (k + 1)) a b).length) := Lib.hid (by rw [hP, hpc, List.length_cons]; omega)
          clear hpc hP e1 e2
          go_wp2_with (first | (with_reducible refine hold_append ?_) | (with_reducible refine hold_make ?_) | (with_reducible refine hold_copy ?_))
          exact ⟨⟨k + 1, j + 1, by omega, by omega, by first | rfl | go_num, by first | rfl | go_num, HP2, by first | rfl | trivial⟩, by simp [intOf]; omega⟩
        · have g2 : (x.to == b) = false := by simp [e2]
          rw [if_neg (fun e => e2 e.2)] at hpc
          have HP2 : Hid ((bag R a b).length = j + (bag (R.drop (k + 1)) a b).length) := Lib.hid (by rw [hP, hpc])
          clear hpc hP e1 e2
          go_wp2_with (first | (with_reducible refine hold_append ?_) | (with_reducible refine hold_make ?_) | (with_reducible refine hold_copy ?_))
          exact ⟨⟨k + 1, j, by omega, by omega, by first | rfl | go_num, by first | rfl | go_num, HP2, by first | rfl | trivial⟩, by simp [intOf]; omega⟩
      · have g1 : (x.fr == a) = false := by simp [e1]
        rw [if_neg (fun e => e1 e.1)] at hpc
        have HP2 : Hid ((bag R a b).length = j + (bag (R.drop (k + 1)) a b).length) := Lib.hid (by rw [hP, hpc])
        clear hpc hP e1
        go_wp2_with (first | (with_reducible refine hold_append ?_) | (with_reducible refine hold_make ?_) | (with_reducible refine hold_copy ?_))
        exact ⟨⟨k + 1, j, by omega, by omega, by first | rfl | go_num, by first | rfl | go_num, HP2, by first | rfl | trivial⟩, by simp [intOf]; omega⟩
    · have d1 : decide ((k : Int) < (n : Int)) = false := by simp; omega
      have HR : Hid ((bag R a b).length = j) := Lib.hid (by
        rw [HP.out, List.drop_eq_nil_of_le (by rw [← HN.out]; omega)]; rfl)
      go_wp2_with (first | (with_reducible refine hold_append ?_) | (with_reducible refine hold_make ?_) | (with_reducible refine hold_copy ?_))
      go_ret
      exact ⟨by rw [HR.out]; rfl, rfl⟩
end Go.PH

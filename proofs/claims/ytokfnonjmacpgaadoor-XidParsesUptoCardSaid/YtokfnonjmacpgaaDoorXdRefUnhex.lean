/- The walks of the document's number and Unhex. -/
import Derived.Test.YtokfnonjmacpgaaDoorXdUnhex
import Derived.Test.YtokfnonjmacpgaaDoorXdHex
import Derived.Test.YtokfnonjmacpgaaDoorXdPut
set_option linter.all false
set_option linter.unusedSimpArgs false
set_option linter.unusedVariables false
namespace Go.PH
open Go.RowKit Go.Proofs

theorem pairs_lenQ : ∀ l : List UInt8, (pairsU l).length ≤ l.length
  | [] => by simp [pairsU]
  | [_] => by simp [pairsU]
  | a :: b :: r => by
    have := pairs_lenQ r
    simp only [pairsU, List.length_cons]
    omega
def numQ (c : UInt8) : Nat := if isHex c = true then valU c else 16
def unhexQ (l : List UInt8) : List UInt8 × Bool := if l.length % 2 = 0 ∧ allHex l = true then (pairsU l, true) else ([], false)
theorem unhexQ_2 (l : List UInt8) : (unhexQ l).2 = (unhexR l).2 := by
  unfold unhexQ unhexR
  by_cases h1 : l.length % 2 = 0
  · by_cases h2 : allHex l = true
    · simp [h1, h2]
    · simp [h2]
  · by_cases h2 : allHex l = true
    · simp [h1, h2]
    · simp [h2]
theorem unhexQ_ok {l g : List UInt8} (h : unhexQ l = (g, true)) : unhexR l = (g, true) := by
  unfold unhexQ at h
  split at h
  · rename_i hc
    unfold unhexR
    rw [if_pos hc.2]
    simp [hc.1] at h ⊢
    exact h
  · simp at h
theorem unhexQ_hex (l : List UInt8) : unhexQ (hexB l) = (l, true) := by
  have h := unhex_hex l
  unfold unhexR at h
  split at h
  · rename_i hc
    unfold unhexQ
    simp at h
    rw [if_pos ⟨by omega, hc⟩, h.1]
  · simp at h
theorem unhexQ_len (l : List UInt8) : (unhexQ l).1.length ≤ l.length := by
  unfold unhexQ
  split
  · exact pairs_lenQ l
  · simp
theorem unhexQ_odd {l : List UInt8} (h : l.length % 2 ≠ 0) : unhexQ l = ([], false) := by unfold unhexQ; rw [if_neg (fun hc => h hc.1)]
theorem unhexQ_bad {l : List UInt8} {p : Nat} (hp : p < l.length) (hx : isHex l[p] = false) : unhexQ l = ([], false) := by
  unfold unhexQ
  rw [if_neg]
  rintro ⟨_, h⟩
  unfold allHex at h
  have := (List.all_eq_true.1 h) _ (List.getElem_mem hp)
  rw [hx] at this
  cases this
theorem numQ_lt {c : UInt8} (h : isHex c = true) : numQ c = valU c ∧ numQ c < 16 := by
  have := valU_lt h
  unfold numQ
  rw [if_pos h]
  exact ⟨rfl, this⟩
theorem numQ_no {c : UInt8} (h : isHex c = false) : numQ c = 16 := by unfold numQ; rw [if_neg (by simp [h])]
set_option maxRecDepth 20000 in
theorem rxnumber_any (c : UInt8) (w : World) : Calls Tryd.prog 57 #[.int .u8 (c.toNat : Int)] w fun e w' => e = .returned (.int .u8 (numQ c : Nat)) ∧ w' = w := by
  go_enter Tryd.func57, Tryd.ntmps57
  go_wp2_with (first | (with_reducible refine hold_append ?_) | (with_reducible refine hold_make ?_) | (with_reducible refine hold_copy ?_))
  go_loopw [3] (fun s wr => ∃ k : Nat, k ≤ 16 ∧ s = .int .u8 k ∧ (∀ j < k, signU j ≠ c) ∧ wr = w) (fun s _ => 16 - (intOf s).toNat)
  case atStart => exact ⟨0, by omega, rfl, by omega, rfl⟩
  case round =>
    obtain ⟨k, hk, rfl, hj, rfl⟩ := hrel
    by_cases hlt : k < 16
    · have hd : (k : Int) < 16 := by omega
      have hs := sign_any k wr hlt
      have hwk : IntKind.u8.wrap ((k : Int) + 1) = ((k + 1 : Nat) : Int) := by rw [IntWalk.u8_in _ ⟨by omega, by omega⟩]; omega
      by_cases hc : signU k = c
      · have hq : (((signU k).toNat : Int) == (c.toNat : Int)) = true := by rw [hc]; simp
        have HF := Lib.hid (show numQ c = k by
          have := val_sign hlt
          rw [hc] at this
          unfold numQ
          rw [if_pos this.1, this.2])
        generalize (signU k).toNat = sk at *
        generalize c.toNat = cn at *
        clear hc
        go_wp2_with (first | (with_reducible refine hold_append ?_) | (with_reducible refine hold_make ?_) | (with_reducible refine hold_copy ?_))
        refine hs.mono ?_
        rintro e w1 ⟨rfl, hw1⟩
        subst w1
        go_wp2_with (first | (with_reducible refine hold_append ?_) | (with_reducible refine hold_make ?_) | (with_reducible refine hold_copy ?_))
        go_ret
        rw [HF.out]
        exact ⟨rfl, rfl⟩
      · have hq : (((signU k).toNat : Int) == (c.toNat : Int)) = false := by
          rw [beq_eq_false_iff_ne]
          intro h
          exact hc (UInt8.toNat_inj.1 (by omega))
        have HJ := Lib.hid (show ∀ j < k + 1, signU j ≠ c from fun j hj1 => by
          by_cases e : j = k
          · rw [e]; exact hc
          · exact hj j (by omega))
        generalize (signU k).toNat = sk at *
        clear hc
        go_wp2_with (first | (with_reducible refine hold_append ?_) | (with_reducible refine hold_make ?_) | (with_reducible refine hold_copy ?_))
        refine hs.mono ?_
        rintro e w1 ⟨rfl, hw1⟩
        subst w1
        go_wp2_with (first | (with_reducible refine hold_append ?_) | (with_reducible refine hold_make ?_) | (with_reducible refine hold_copy ?_))
        exact ⟨⟨k + 1, by omega, rfl, HJ.out, by first | rfl | trivial⟩, by simp [intOf]; omega⟩
    · obtain rfl : k = 16 := by omega
      have hh : isHex c = false := by
        rw [Bool.eq_false_iff]
        intro h
        exact hj _ (valU_lt h) (sign_val h)
      have HF := Lib.hid (numQ_no hh)
      go_wp2_with (first | (with_reducible refine hold_append ?_) | (with_reducible refine hold_make ?_) | (with_reducible refine hold_copy ?_))
      go_ret
      rw [HF.out]
      exact ⟨rfl, rfl⟩
theorem allHex_take {l : List UInt8} {p : Nat} (h : allHex (l.take p) = true) (hp : l.length ≤ p) : allHex l = true := by rwa [List.take_of_length_le hp] at h
theorem unhexQ_fin {l : List UInt8} (h2 : l.length % 2 = 0) (h : allHex (l.take l.length) = true) : unhexQ l = (pairsU (l.take l.length), true) := by
  rw [List.take_length] at *
  unfold unhexQ
  rw [if_pos ⟨h2, h⟩]
theorem take_two {l : List UInt8} {k : Nat} (h1 : k < l.length) (h2 : k + 1 < l.length) : l.take (k + 2) = l.take k ++ [l[k], l[k + 1]] := by
  rw [show k + 2 = k + 1 + 1 by omega, List.take_succ_eq_append_getElem h2, List.take_succ_eq_append_getElem h1, List.append_assoc]
  rfl
theorem pairs_step {l : List UInt8} {k : Nat} (hk : k % 2 = 0) (h1 : k < l.length) (h2 : k + 1 < l.length) : pairsU (l.take (k + 2)) = pairsU (l.take k) ++ [UInt8.ofNat (16 * valU l[k] + valU l[k + 1])] := by
  rw [take_two h1 h2, pairs_two _ _ _ (by rw [List.length_take]; omega)]
theorem allHex_step {l : List UInt8} {k : Nat} (h1 : k < l.length) (h2 : k + 1 < l.length) (h : allHex (l.take k) = true) (a : isHex l[k] = true) (b : isHex l[k + 1] = true) : allHex (l.take (k + 2)) = true := by
  rw [take_two h1 h2]
  unfold allHex at *
  rw [List.all_append, h]
  simp [a, b]
set_option maxRecDepth 20000 in
set_option maxHeartbeats 4000000 in
theorem rxunhex_any (l : List UInt8) (w : World) (hl : l.length ≤ 140737488351232) :
    Calls Tryd.prog 32 #[.string (str l)] w fun e w' => e = .returned (.tuple #[.string (str (unhexQ l).1), .bool (unhexQ l).2]) ∧ Below w.heap.size w w' := by
  obtain ⟨n, hn⟩ : ∃ n, n = l.length := ⟨_, rfl⟩
  have hss : (str l).size = n := by rw [str_size]; exact hn.symm
  rw [← hn] at hl
  have HN := Lib.hid hn
  by_cases hp2 : n % 2 = 0
  · have hd2 : ((n : Int) % 2 != 0) = false := by simp; omega
    have hd2' : ((n : Int).tmod 2 != 0) = false := by rw [Int.tmod_eq_emod_of_nonneg (by omega)]; exact hd2
    clear hn
    go_enter Tryd.func32, Tryd.ntmps32
    go_wp2_with (first | (with_reducible refine hold_append ?_) | (with_reducible refine hold_make ?_) | (with_reducible refine hold_copy ?_))
    go_loopw [5, 4] (fun s v wr => ∃ (k N c : Nat) (A : Option Addr), k ≤ n ∧ k % 2 = 0 ∧ s = .int .i64 k ∧ v = .slice A N c ∧ N ≤ k ∧ Hid (allHex (l.take k) = true) ∧ Own wr w.heap.size 5 1 A N c ((pairsU (l.take k)).map u8v) ∧ Below w.heap.size w wr) (fun s _ _ => n - (intOf s).toNat)
    case atStart => exact ⟨0, 0, 0, none, by omega, rfl, rfl, rfl, by omega, Lib.hid rfl, by simpa [pairsU] using Own.none_ w w.heap.size _ _, Below.refl _ _⟩
    case round =>
      obtain ⟨k, N, c, A, hk, hk2, rfl, rfl, hN, HA, ho, hB⟩ := hrel
      by_cases hlt : k < n
      · have hkn : (k : Int) < (n : Int) := by omega
        have hkl : k < l.length := by rw [← HN.out]; exact hlt
        have hkl1 : k + 1 < l.length := by rw [← HN.out]; omega
        obtain ⟨k1, hk1⟩ : ∃ k1, k1 = k + 1 := ⟨_, rfl⟩
        have hwk1 : IntKind.i64.wrap ((k : Int) + 1) = (k1 : Int) := by rw [IntWalk.i64_in _ ⟨by omega, by omega⟩]; omega
        have hk1n : (k1 : Int) < (n : Int) := by omega
        have hlt1 : k1 < n := by omega
        have hx : (((str l)[k]'(by rw [hss]; exact hlt)).toNat : Int) = (l[k].toNat : Int) := rfl
        have hx1 : (((str l)[k1]'(by rw [hss]; exact hlt1)).toNat : Int) = (l[k + 1].toNat : Int) := by subst hk1; rfl
        have HB1 := fun h => Lib.hid (unhexQ_bad hkl h)
        have HB2 := fun h => Lib.hid (unhexQ_bad hkl1 h)
        have HST := Lib.hid (pairs_step hk2 hkl hkl1)
        have HAS := fun a b => Lib.hid (allHex_step hkl hkl1 HA.out a b)
        generalize l[k] = x at *
        generalize l[k + 1] = y at *
        have hs1 := fun w => rxnumber_any x w
        have hs2 := fun w => rxnumber_any y w
        have HK1 := Lib.hid hk1
        clear hk1
        cases hhx : isHex x
        · rw [numQ_no hhx] at hs1
          have HF := HB1 hhx
          generalize numQ y = b at *
          clear HB1 HB2 HST HAS hhx
          go_wp2_with (first | (with_reducible refine hold_append ?_) | (with_reducible refine hold_make ?_) | (with_reducible refine hold_copy ?_))
          refine rg_start (fun wx : World => Own wx w.heap.size 5 1 A N c ((pairsU (l.take k)).map u8v) ∧ Below w.heap.size w wx) (by kernel_rfl) ?_
          have hS : Own wr.drew w.heap.size 5 1 A N c ((pairsU (l.take k)).map u8v) ∧ Below w.heap.size w wr.drew := ⟨ho, below_drewN hB 1⟩
          clear ho hB
          generalize wr.drew = wd at *
          refine rg_take 0 (v := ?_) rfl (by kernel_rfl) (by kernel_rfl) (by kernel_rfl) hS rfl ?_ ?_
          rotate_left
          · intro wS hSw; go_simp; (with_reducible rfl)
          simp only [List.getElem_toArray, List.getElem_cons_zero, Act.put, List.setIfInBounds_toArray, List.set_cons_zero, List.set_cons_succ]
          refine rg_take 1 (v := ?_) rfl (by kernel_rfl) (by kernel_rfl) (by kernel_rfl) hS rfl ?_ ?_
          rotate_left
          · intro wS hSw; go_simp; (with_reducible rfl)
          simp only [List.getElem_toArray, List.getElem_cons_succ, List.getElem_cons_zero, Act.put, List.setIfInBounds_toArray, List.set_cons_zero, List.set_cons_succ]
          refine rg_take 2 (v := ?_) rfl (by kernel_rfl) (by kernel_rfl) (by kernel_rfl) hS rfl ?_ ?_
          rotate_left
          · intro wS hSw; go_simp; (with_reducible rfl)
          simp only [List.getElem_toArray, List.getElem_cons_succ, List.getElem_cons_zero, Act.put, List.setIfInBounds_toArray, List.set_cons_zero, List.set_cons_succ]
          refine rg_take 4 (v := ?_) rfl (by kernel_rfl) (by kernel_rfl) (by kernel_rfl) hS rfl ?_ ?_
          rotate_left
          · intro wS hSw; go_simp; (with_reducible rfl)
          simp only [List.getElem_toArray, List.getElem_cons_succ, List.getElem_cons_zero, Act.put, List.setIfInBounds_toArray, List.set_cons_zero, List.set_cons_succ]
          refine rg_take 5 (v := ?_) rfl (by kernel_rfl) (by kernel_rfl) (by kernel_rfl) hS rfl ?_ ?_
          rotate_left
          · intro wS hSw; go_simp; (with_reducible rfl)
          simp only [List.getElem_toArray, List.getElem_cons_succ, List.getElem_cons_zero, Act.put, List.setIfInBounds_toArray, List.set_cons_zero, List.set_cons_succ]
          refine rg_take 6 (v := ?_) rfl (by kernel_rfl) (by kernel_rfl) (by kernel_rfl) hS rfl ?_ ?_
          rotate_left
          · intro wS hSw; go_simp; (with_reducible rfl)
          simp only [List.getElem_toArray, List.getElem_cons_succ, List.getElem_cons_zero, Act.put, List.setIfInBounds_toArray, List.set_cons_zero, List.set_cons_succ]
          refine rg_take 7 (v := ?_) rfl (by kernel_rfl) (by kernel_rfl) (by kernel_rfl) hS rfl ?_ ?_
          rotate_left
          · intro wS hSw; go_simp; (with_reducible rfl)
          simp only [List.getElem_toArray, List.getElem_cons_succ, List.getElem_cons_zero, Act.put, List.setIfInBounds_toArray, List.set_cons_zero, List.set_cons_succ]
          refine rg_one 3 rfl (by kernel_rfl) rfl (fun K hK => ?_)
          go_simp
          refine (hs1 wd).mono ?_
          rintro e w3 ⟨rfl, hww⟩
          subst w3
          refine hK _ _ hS ?_; clear hK K
          refine rg_one 8 rfl (by kernel_rfl) rfl (fun K hK => ?_)
          go_simp
          refine (hs2 wd).mono ?_
          rintro e w3 ⟨rfl, hww⟩
          subst w3
          refine hK _ _ hS ?_; clear hK K
          refine rg_take 9 (v := ?_) rfl (by kernel_rfl) (by kernel_rfl) (by kernel_rfl) hS rfl ?_ ?_
          rotate_left
          · intro wS hSw; go_simp; (with_reducible rfl)
          simp only [List.getElem_toArray, List.getElem_cons_succ, List.getElem_cons_zero, Act.put, List.setIfInBounds_toArray, List.set_cons_zero, List.set_cons_succ]
          refine rg_take 10 (v := ?_) rfl (by kernel_rfl) (by kernel_rfl) (by kernel_rfl) hS rfl ?_ ?_
          rotate_left
          · intro wS hSw; go_simp; (with_reducible rfl)
          simp only [List.getElem_toArray, List.getElem_cons_succ, List.getElem_cons_zero, Act.put, List.setIfInBounds_toArray, List.set_cons_zero, List.set_cons_succ]
          refine rg_end (by kernel_rfl) ?_
          obtain ⟨ho, hB⟩ := hS
          clear hs1 hs2
          go_wp2_with (first | (with_reducible refine hold_append ?_) | (with_reducible refine hold_make ?_) | (with_reducible refine hold_copy ?_))
          go_ret2
          rw [HF.out]
          exact ⟨rfl, hB⟩
        · cases hhy : isHex y
          · obtain ⟨e1, b1⟩ := numQ_lt hhx
            rw [numQ_no hhy] at hs2
            have HF := HB2 hhy
            generalize numQ x = a at *
            have d1 : decide ((15 : Int) < (a : Int)) = false := by simp; omega
            clear HB1 HB2 HST HAS hhx hhy e1
            go_wp2_with (first | (with_reducible refine hold_append ?_) | (with_reducible refine hold_make ?_) | (with_reducible refine hold_copy ?_))
            refine rg_start (fun wx : World => Own wx w.heap.size 5 1 A N c ((pairsU (l.take k)).map u8v) ∧ Below w.heap.size w wx) (by kernel_rfl) ?_
            have hS : Own wr.drew w.heap.size 5 1 A N c ((pairsU (l.take k)).map u8v) ∧ Below w.heap.size w wr.drew := ⟨ho, below_drewN hB 1⟩
            clear ho hB
            generalize wr.drew = wd at *
            refine rg_take 0 (v := ?_) rfl (by kernel_rfl) (by kernel_rfl) (by kernel_rfl) hS rfl ?_ ?_
            rotate_left
            · intro wS hSw; go_simp; (with_reducible rfl)
            simp only [List.getElem_toArray, List.getElem_cons_zero, Act.put, List.setIfInBounds_toArray, List.set_cons_zero, List.set_cons_succ]
            refine rg_take 1 (v := ?_) rfl (by kernel_rfl) (by kernel_rfl) (by kernel_rfl) hS rfl ?_ ?_
            rotate_left
            · intro wS hSw; go_simp; (with_reducible rfl)
            simp only [List.getElem_toArray, List.getElem_cons_succ, List.getElem_cons_zero, Act.put, List.setIfInBounds_toArray, List.set_cons_zero, List.set_cons_succ]
            refine rg_take 2 (v := ?_) rfl (by kernel_rfl) (by kernel_rfl) (by kernel_rfl) hS rfl ?_ ?_
            rotate_left
            · intro wS hSw; go_simp; (with_reducible rfl)
            simp only [List.getElem_toArray, List.getElem_cons_succ, List.getElem_cons_zero, Act.put, List.setIfInBounds_toArray, List.set_cons_zero, List.set_cons_succ]
            refine rg_take 4 (v := ?_) rfl (by kernel_rfl) (by kernel_rfl) (by kernel_rfl) hS rfl ?_ ?_
            rotate_left
            · intro wS hSw; go_simp; (with_reducible rfl)
            simp only [List.getElem_toArray, List.getElem_cons_succ, List.getElem_cons_zero, Act.put, List.setIfInBounds_toArray, List.set_cons_zero, List.set_cons_succ]
            refine rg_take 5 (v := ?_) rfl (by kernel_rfl) (by kernel_rfl) (by kernel_rfl) hS rfl ?_ ?_
            rotate_left
            · intro wS hSw; go_simp; (with_reducible rfl)
            simp only [List.getElem_toArray, List.getElem_cons_succ, List.getElem_cons_zero, Act.put, List.setIfInBounds_toArray, List.set_cons_zero, List.set_cons_succ]
            refine rg_take 6 (v := ?_) rfl (by kernel_rfl) (by kernel_rfl) (by kernel_rfl) hS rfl ?_ ?_
            rotate_left
            · intro wS hSw; go_simp; (with_reducible rfl)
            simp only [List.getElem_toArray, List.getElem_cons_succ, List.getElem_cons_zero, Act.put, List.setIfInBounds_toArray, List.set_cons_zero, List.set_cons_succ]
            refine rg_take 7 (v := ?_) rfl (by kernel_rfl) (by kernel_rfl) (by kernel_rfl) hS rfl ?_ ?_
            rotate_left
            · intro wS hSw; go_simp; (with_reducible rfl)
            simp only [List.getElem_toArray, List.getElem_cons_succ, List.getElem_cons_zero, Act.put, List.setIfInBounds_toArray, List.set_cons_zero, List.set_cons_succ]
            refine rg_one 3 rfl (by kernel_rfl) rfl (fun K hK => ?_)
            go_simp
            refine (hs1 wd).mono ?_
            rintro e w3 ⟨rfl, hww⟩
            subst w3
            refine hK _ _ hS ?_; clear hK K
            refine rg_one 8 rfl (by kernel_rfl) rfl (fun K hK => ?_)
            go_simp
            refine (hs2 wd).mono ?_
            rintro e w3 ⟨rfl, hww⟩
            subst w3
            refine hK _ _ hS ?_; clear hK K
            refine rg_take 9 (v := ?_) rfl (by kernel_rfl) (by kernel_rfl) (by kernel_rfl) hS rfl ?_ ?_
            rotate_left
            · intro wS hSw; go_simp; (with_reducible rfl)
            simp only [List.getElem_toArray, List.getElem_cons_succ, List.getElem_cons_zero, Act.put, List.setIfInBounds_toArray, List.set_cons_zero, List.set_cons_succ]
            refine rg_take 10 (v := ?_) rfl (by kernel_rfl) (by kernel_rfl) (by kernel_rfl) hS rfl ?_ ?_
            rotate_left
            · intro wS hSw; go_simp; (with_reducible rfl)
            simp only [List.getElem_toArray, List.getElem_cons_succ, List.getElem_cons_zero, Act.put, List.setIfInBounds_toArray, List.set_cons_zero, List.set_cons_succ]
            refine rg_end (by kernel_rfl) ?_
            obtain ⟨ho, hB⟩ := hS
            clear hs1 hs2
            go_wp2_with (first | (with_reducible refine hold_append ?_) | (with_reducible refine hold_make ?_) | (with_reducible refine hold_copy ?_))
            go_ret2
            rw [HF.out]
            exact ⟨rfl, hB⟩
          · obtain ⟨e1, b1⟩ := numQ_lt hhx
            obtain ⟨e2, b2⟩ := numQ_lt hhy
            have HA2 := HAS hhx hhy
            rw [← e1, ← e2] at HST
            generalize numQ x = a at *
            generalize numQ y = b at *
            clear HB1 HB2 HAS hhx hhy e1 e2
            have d1 : ¬ (15 : Int) < (a : Int) := by omega
            have d2 : ¬ (15 : Int) < (b : Int) := by omega
            have d1' : decide ((15 : Int) < (a : Int)) = false := by simp; omega
            have d2' : decide ((15 : Int) < (b : Int)) = false := by simp; omega
            obtain ⟨a16, ha16⟩ : ∃ a16, a16 = 16 * a := ⟨_, rfl⟩
            obtain ⟨v, hv⟩ : ∃ v, v = 16 * a + b := ⟨_, rfl⟩
            have hw1 : IntKind.u8.wrap (16 * (a : Int)) = (a16 : Int) := by rw [IntWalk.u8_in _ ⟨by omega, by omega⟩]; omega
            have hw2 : IntKind.u8.wrap ((a16 : Int) + (b : Int)) = (v : Int) := by rw [IntWalk.u8_in _ ⟨by omega, by omega⟩]; omega
            rw [← hv] at HST
            have hv256 : v < 256 := by omega
            clear ha16 hv
            go_wp2_with (first | (with_reducible refine hold_append ?_) | (with_reducible refine hold_make ?_) | (with_reducible refine hold_copy ?_))
            refine rg_start (fun wx : World => Own wx w.heap.size 5 1 A N c ((pairsU (l.take k)).map u8v) ∧ Below w.heap.size w wx) (by kernel_rfl) ?_
            have hS : Own wr.drew w.heap.size 5 1 A N c ((pairsU (l.take k)).map u8v) ∧ Below w.heap.size w wr.drew := ⟨ho, below_drewN hB 1⟩
            clear ho hB
            generalize wr.drew = wd at *
            refine rg_take 0 (v := ?_) rfl (by kernel_rfl) (by kernel_rfl) (by kernel_rfl) hS rfl ?_ ?_
            rotate_left
            · intro wS hSw; go_simp; (with_reducible rfl)
            simp only [List.getElem_toArray, List.getElem_cons_zero, Act.put, List.setIfInBounds_toArray, List.set_cons_zero, List.set_cons_succ]
            refine rg_take 1 (v := ?_) rfl (by kernel_rfl) (by kernel_rfl) (by kernel_rfl) hS rfl ?_ ?_
            rotate_left
            · intro wS hSw; go_simp; (with_reducible rfl)
            simp only [List.getElem_toArray, List.getElem_cons_succ, List.getElem_cons_zero, Act.put, List.setIfInBounds_toArray, List.set_cons_zero, List.set_cons_succ]
            refine rg_take 2 (v := ?_) rfl (by kernel_rfl) (by kernel_rfl) (by kernel_rfl) hS rfl ?_ ?_
            rotate_left
            · intro wS hSw; go_simp; (with_reducible rfl)
            simp only [List.getElem_toArray, List.getElem_cons_succ, List.getElem_cons_zero, Act.put, List.setIfInBounds_toArray, List.set_cons_zero, List.set_cons_succ]
            refine rg_take 4 (v := ?_) rfl (by kernel_rfl) (by kernel_rfl) (by kernel_rfl) hS rfl ?_ ?_
            rotate_left
            · intro wS hSw; go_simp; (with_reducible rfl)
            simp only [List.getElem_toArray, List.getElem_cons_succ, List.getElem_cons_zero, Act.put, List.setIfInBounds_toArray, List.set_cons_zero, List.set_cons_succ]
            refine rg_take 5 (v := ?_) rfl (by kernel_rfl) (by kernel_rfl) (by kernel_rfl) hS rfl ?_ ?_
            rotate_left
            · intro wS hSw; go_simp; (with_reducible rfl)
            simp only [List.getElem_toArray, List.getElem_cons_succ, List.getElem_cons_zero, Act.put, List.setIfInBounds_toArray, List.set_cons_zero, List.set_cons_succ]
            refine rg_take 6 (v := ?_) rfl (by kernel_rfl) (by kernel_rfl) (by kernel_rfl) hS rfl ?_ ?_
            rotate_left
            · intro wS hSw; go_simp; (with_reducible rfl)
            simp only [List.getElem_toArray, List.getElem_cons_succ, List.getElem_cons_zero, Act.put, List.setIfInBounds_toArray, List.set_cons_zero, List.set_cons_succ]
            refine rg_take 7 (v := ?_) rfl (by kernel_rfl) (by kernel_rfl) (by kernel_rfl) hS rfl ?_ ?_
            rotate_left
            · intro wS hSw; go_simp; (with_reducible rfl)
            simp only [List.getElem_toArray, List.getElem_cons_succ, List.getElem_cons_zero, Act.put, List.setIfInBounds_toArray, List.set_cons_zero, List.set_cons_succ]
            refine rg_one 3 rfl (by kernel_rfl) rfl (fun K hK => ?_)
            go_simp
            refine (hs1 wd).mono ?_
            rintro e w3 ⟨rfl, hww⟩
            subst w3
            refine hK _ _ hS ?_; clear hK K
            refine rg_one 8 rfl (by kernel_rfl) rfl (fun K hK => ?_)
            go_simp
            refine (hs2 wd).mono ?_
            rintro e w3 ⟨rfl, hww⟩
            subst w3
            refine hK _ _ hS ?_; clear hK K
            refine rg_take 9 (v := ?_) rfl (by kernel_rfl) (by kernel_rfl) (by kernel_rfl) hS rfl ?_ ?_
            rotate_left
            · intro wS hSw; go_simp; (with_reducible rfl)
            simp only [List.getElem_toArray, List.getElem_cons_succ, List.getElem_cons_zero, Act.put, List.setIfInBounds_toArray, List.set_cons_zero, List.set_cons_succ]
            refine rg_take 10 (v := ?_) rfl (by kernel_rfl) (by kernel_rfl) (by kernel_rfl) hS rfl ?_ ?_
            rotate_left
            · intro wS hSw; go_simp; (with_reducible rfl)
            simp only [List.getElem_toArray, List.getElem_cons_succ, List.getElem_cons_zero, Act.put, List.setIfInBounds_toArray, List.set_cons_zero, List.set_cons_succ]
            refine rg_end (by kernel_rfl) ?_
            obtain ⟨ho, hB⟩ := hS
            clear hs1 hs2
            go_wp2_with (first | (with_reducible refine hold_append ?_) | (with_reducible refine hold_make ?_) | (with_reducible refine hold_copy ?_))
            have hz := hB.size
            have hlit : Own (wd.alloc (.cells #[.int .u8 (v : Int)] 5)) wd.heap.size 5 1 (some ⟨wd.heap.size, 0, none⟩) 1 1 ([UInt8.ofNat v].map u8v) := by
              have h := own_lit (w := wd) wd.heap.size #[.int .u8 (v : Int)] 5 1 (Nat.le_refl _) (by simp [maxLen]) rfl (size := 1) (by omega)
              rw [xb_of hv256] at h ⊢
              exact h
            have hBl : Below w.heap.size w (wd.alloc (.cells #[.int .u8 (v : Int)] 5)) := hB.alloc hz _
            have hol : Own (wd.alloc (.cells #[.int .u8 (v : Int)] 5)) w.heap.size 5 1 A N c ((pairsU (l.take k)).map u8v) := ho.alloc _
            refine unhold (wp_app slB rfl rfl rfl rfl hol hlit.rd (map_one _) (by omega) (by unfold maxLen; omega) hBl.size ?_)
            intro A5 c5 w5 ho5 hg5 _
            have hB5 := hBl.grown hg5 hBl.size (fun g hg => (hol.blk_lt hg).1)
            rw [← List.map_append, ← HST.out] at ho5
            go_wp2_with (first | (with_reducible refine hold_append ?_) | (with_reducible refine hold_make ?_) | (with_reducible refine hold_copy ?_))
            have hk1' := HK1.out
            exact ⟨⟨k + 2, N + 1, c5, A5, by omega, by omega, by go_num, by first | rfl | simp, by omega, HA2, ho5, hB5⟩, by simp [intOf]; omega⟩
      · obtain rfl : k = n := by omega
        have HF := Lib.hid (show unhexQ l = (pairsU (l.take k), true) by
          have e := HN.out
          have ha := HA.out
          rw [e] at ha hp2 ⊢
          exact unhexQ_fin hp2 ha)
        have hst := run_strB (w := wr) ho.rd
        go_wp2_with (first | (with_reducible refine hold_append ?_) | (with_reducible refine hold_make ?_) | (with_reducible refine hold_copy ?_))
        go_ret2
        rw [HF.out]
        exact ⟨rfl, hB⟩
  · have hd2 : ((n : Int) % 2 != 0) = true := by simp; omega
    have hd2' : ((n : Int).tmod 2 != 0) = true := by rw [Int.tmod_eq_emod_of_nonneg (by omega)]; exact hd2
    have HF := Lib.hid (unhexQ_odd (l := l) (by omega))
    clear hn
    go_enter Tryd.func32, Tryd.ntmps32
    go_wp2_with (first | (with_reducible refine hold_append ?_) | (with_reducible refine hold_make ?_) | (with_reducible refine hold_copy ?_))
    go_ret2
    rw [HF.out]
    exact ⟨rfl, Below.refl _ _⟩
end Go.PH

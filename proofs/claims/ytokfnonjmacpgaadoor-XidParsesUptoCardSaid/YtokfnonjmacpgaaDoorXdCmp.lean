/- The walks of the compares of names. -/
import Derived.Test.YtokfnonjmacpgaaDoorXdBase
import Derived.Test.YtokfnonjmacpgaaDoorXdShelf
set_option linter.all false
set_option linter.unusedSimpArgs false
set_option linter.unusedVariables false
namespace Go.PH
open Go.RowKit Go.Proofs

set_option maxRecDepth 20000 in
theorem less_any (a b : List UInt8) (w : World) (ha : a.length ≤ 140737488351232) (hb : b.length ≤ 140737488351232) :
    Calls Tryd.prog 36 #[.string (str a), .string (str b)] w fun e w' => e = .returned (.bool (lessB a b)) ∧ Below w.heap.size w w' := by
  have hsa := str_size a
  have hsb := str_size b
  obtain ⟨n, hn⟩ : ∃ n, n = a.length := ⟨_, rfl⟩
  obtain ⟨m, hm⟩ : ∃ m, m = b.length := ⟨_, rfl⟩
  rw [← hn] at hsa ha
  rw [← hm] at hsb hb
  have HN := Lib.hid hn
  have HM := Lib.hid hm
  clear hn hm
  go_enter Tryd.func36, Tryd.ntmps36
  go_wp2_with (first | (with_reducible refine hold_append ?_) | (with_reducible refine hold_make ?_) | (with_reducible refine hold_copy ?_))
  go_loopw [5] (fun s wr => ∃ k : Nat, k ≤ n ∧ k ≤ m ∧ s = .int .i64 k ∧ Hid (a.take k = b.take k) ∧ Below w.heap.size w wr) (fun s _ => n - (intOf s).toNat)
  case atStart => exact ⟨0, by omega, by omega, rfl, Lib.hid (by simp), Below.refl _ _⟩
  case round =>
    obtain ⟨k, hk, hkm, rfl, HT, hB⟩ := hrel
    by_cases hlt : k < n ∧ k < m
    · obtain ⟨h1, h2⟩ := hlt
      have d1 : (k : Int) < (n : Int) := by omega
      have d2 : (k : Int) < (m : Int) := by omega
      have e1 : k < a.length := by rw [← HN.out]; exact h1
      have e2 : k < b.length := by rw [← HM.out]; exact h2
      have HL := fun (h : a[k] ≠ b[k]) => cb_less_at e1 e2 HT.out h
      have HS := Lib.hid (List.take_succ_eq_append_getElem e1)
      have HS2 := Lib.hid (List.take_succ_eq_append_getElem e2)
      have hxa : (((str a)[k]'(by rw [hsa]; exact h1)).toNat : Int) = (a[k].toNat : Int) := rfl
      have hxb : (((str b)[k]'(by rw [hsb]; exact h2)).toNat : Int) = (b[k].toNat : Int) := rfl
      generalize a[k] = x at *
      generalize b[k] = y at *
      by_cases hxy : x = y
      · have hne : ((x.toNat : Int) != (y.toNat : Int)) = false := by simp [hxy]
        have HT2 : Hid (a.take (k + 1) = b.take (k + 1)) := Lib.hid (by rw [HS.out, HS2.out, HT.out, hxy])
        clear HL HS HS2 hxy
        go_wp2_with (first | (with_reducible refine hold_append ?_) | (with_reducible refine hold_make ?_) | (with_reducible refine hold_copy ?_))
        go_quiet (fail)
        go_wp2_with (first | (with_reducible refine hold_append ?_) | (with_reducible refine hold_make ?_) | (with_reducible refine hold_copy ?_))
        exact ⟨⟨k + 1, by omega, by omega, by go_num, HT2, below_drewN hB _⟩, by simp [intOf]; omega⟩
      · have hn : x.toNat ≠ y.toNat := fun h => hxy (UInt8.toNat_inj.1 h)
        have hne : ((x.toNat : Int) != (y.toNat : Int)) = true := by simp; omega
        have HF := HL hxy
        have HF2 : Hid (lessB a b = decide (x.toNat < y.toNat)) := Lib.hid (by unfold lessB; rw [HF])
        clear HL HF HS HS2 hxy hn
        go_wp2_with (first | (with_reducible refine hold_append ?_) | (with_reducible refine hold_make ?_) | (with_reducible refine hold_copy ?_))
        go_quiet (fail)
        go_wp2_with (first | (with_reducible refine hold_append ?_) | (with_reducible refine hold_make ?_) | (with_reducible refine hold_copy ?_))
        go_quiet (fail)
        go_wp2_with (first | (with_reducible refine hold_append ?_) | (with_reducible refine hold_make ?_) | (with_reducible refine hold_copy ?_))
        go_ret
        rw [HF2.out]
        exact ⟨rfl, below_drewN (below_drewN hB _) _⟩
    · have HF : Hid (lessB a b = decide (n < m)) := Lib.hid (by
        unfold lessB
        rw [cb_less_end HT.out (by rw [← HN.out, ← HM.out]; omega), ← HN.out, ← HM.out])
      by_cases h1 : k < n
      · have d1 : (k : Int) < (n : Int) := by omega
        have d2 : ¬ (k : Int) < (m : Int) := by omega
        go_wp2_with (first | (with_reducible refine hold_append ?_) | (with_reducible refine hold_make ?_) | (with_reducible refine hold_copy ?_))
        go_ret
        rw [HF.out]
        exact ⟨rfl, hB⟩
      · have d1 : decide ((k : Int) < (n : Int)) = false := by simp; omega
        go_wp2_with (first | (with_reducible refine hold_append ?_) | (with_reducible refine hold_make ?_) | (with_reducible refine hold_copy ?_))
        go_ret
        rw [HF.out]
        exact ⟨rfl, hB⟩
/-! ### cmp -/
theorem isnan_any (x : Nat) (w : World) : Calls Tryd.prog 58 #[.int .u32 (x : Int)] w fun e w' => e = .returned (.bool false) ∧ w' = w := by
  have h : ((x : Int) != (x : Int)) = false := by simp
  go_enter Tryd.func58, Tryd.ntmps58
  go_wp2_with (first | (with_reducible refine hold_append ?_) | (with_reducible refine hold_make ?_) | (with_reducible refine hold_copy ?_))
  go_ret
  exact ⟨rfl, rfl⟩
theorem cmp_any (x y : Nat) (w : World) : Calls Tryd.prog 34 #[.int .u32 (x : Int), .int .u32 (y : Int)] w fun e w' => e = .returned (.int .i64 (cmpN x y)) ∧ w' = w := by
  have h1 := fun w => isnan_any x w
  have h2 := fun w => isnan_any y w
  by_cases c1 : x < y
  · have d : (x : Int) < (y : Int) := by omega
    have he : cmpN x y = -1 := by simp [cmpN, c1]
    rw [he]
    clear he
    go_enter Tryd.func34, Tryd.ntmps34
    go_wp2_with (first | (with_reducible refine hold_append ?_) | (with_reducible refine hold_make ?_) | (with_reducible refine hold_copy ?_))
    refine (h1 w).mono ?_
    rintro e w1 ⟨rfl, hw⟩
    subst w1
    go_wp2_with (first | (with_reducible refine hold_append ?_) | (with_reducible refine hold_make ?_) | (with_reducible refine hold_copy ?_))
    refine (h2 w).mono ?_
    rintro e w1 ⟨rfl, hw⟩
    subst w1
    go_wp2_with (first | (with_reducible refine hold_append ?_) | (with_reducible refine hold_make ?_) | (with_reducible refine hold_copy ?_))
    go_ret
    exact ⟨rfl, rfl⟩
  · by_cases c2 : y < x
    · have d : ¬ (x : Int) < (y : Int) := by omega
      have d2 : (y : Int) < (x : Int) := by omega
      have he : cmpN x y = 1 := by simp [cmpN, c1, c2]
      rw [he]
      clear he
      go_enter Tryd.func34, Tryd.ntmps34
      go_wp2_with (first | (with_reducible refine hold_append ?_) | (with_reducible refine hold_make ?_) | (with_reducible refine hold_copy ?_))
      refine (h1 w).mono ?_
      rintro e w1 ⟨rfl, hw⟩
      subst w1
      go_wp2_with (first | (with_reducible refine hold_append ?_) | (with_reducible refine hold_make ?_) | (with_reducible refine hold_copy ?_))
      refine (h2 w).mono ?_
      rintro e w1 ⟨rfl, hw⟩
      subst w1
      go_wp2_with (first | (with_reducible refine hold_append ?_) | (with_reducible refine hold_make ?_) | (with_reducible refine hold_copy ?_))
      go_ret
      exact ⟨rfl, rfl⟩
    · have d : ¬ (x : Int) < (y : Int) := by omega
      have d2 : ¬ (y : Int) < (x : Int) := by omega
      have he : cmpN x y = 0 := by simp [cmpN, c1, c2]
      rw [he]
      clear he
      go_enter Tryd.func34, Tryd.ntmps34
      go_wp2_with (first | (with_reducible refine hold_append ?_) | (with_reducible refine hold_make ?_) | (with_reducible refine hold_copy ?_))
      refine (h1 w).mono ?_
      rintro e w1 ⟨rfl, hw⟩
      subst w1
      go_wp2_with (first | (with_reducible refine hold_append ?_) | (with_reducible refine hold_make ?_) | (with_reducible refine hold_copy ?_))
      refine (h2 w).mono ?_
      rintro e w1 ⟨rfl, hw⟩
      subst w1
      go_wp2_with (first | (with_reducible refine hold_append ?_) | (with_reducible refine hold_make ?_) | (with_reducible refine hold_copy ?_))
      go_ret
      exact ⟨rfl, rfl⟩
set_option maxRecDepth 20000 in
theorem or_any (B : Nat) (A : Option Addr) (c : Nat) (x y z : Int) (w : World) (hr : Rd w B 1 A 3 c [.int .i64 x, .int .i64 y, .int .i64 z]) :
    Calls Tryd.prog 33 #[.slice A 3 c] w fun e w' => e = .returned (.int .i64 (orI x (orI y z))) ∧ w' = w := by
  obtain ⟨b, off, u, rfl, _, hx0, hc0⟩ := hr.at_k (k := 0) (by omega)
  obtain ⟨b1, off1, u1, e1, _, hx1, hc1⟩ := hr.at_k (k := 1) (by omega)
  obtain ⟨b2, off2, u2, e2, _, hx2, hc2⟩ := hr.at_k (k := 2) (by omega)
  cases e1
  cases e2
  simp only [List.getElem?_cons_zero, List.getElem?_cons_succ, Option.some.injEq] at hx0 hx1 hx2
  subst hx0 hx1 hx2
  simp only [Nat.add_zero] at hc0
  go_enter Tryd.func33, Tryd.ntmps33
  go_wp2_with (first | (with_reducible refine hold_append ?_) | (with_reducible refine hold_make ?_) | (with_reducible refine hold_copy ?_))
  go_loopw [8] (fun s wr => ∃ k : Nat, k ≤ 3 ∧ s = .int .i64 k ∧ (0 < k → x = 0) ∧ (1 < k → y = 0) ∧ (2 < k → z = 0) ∧ wr = w) (fun s _ => 3 - (intOf s).toNat)
  case atStart => exact ⟨0, by omega, rfl, by omega, by omega, by omega, rfl⟩
  case round =>
    obtain ⟨k, hk, rfl, g0, g1, g2, hw⟩ := hrel
    subst wr
    obtain rfl | rfl | rfl | rfl : k = 0 ∨ k = 1 ∨ k = 2 ∨ k = 3 := by omega
    · by_cases q : x = 0
      · have hq : (x != 0) = false := by simp [q]
        have HQ := Lib.hid q
        clear q g0 g1 g2
        go_wp2_with (first | (with_reducible refine hold_append ?_) | (with_reducible refine hold_make ?_) | (with_reducible refine hold_copy ?_))
        exact ⟨⟨1, by omega, by first | rfl | go_num, fun _ => HQ.out, by omega, by omega, by first | rfl | trivial⟩, by simp [intOf]⟩
      · have hq : (x != 0) = true := by simp [q]
        have HF := Lib.hid (show orI x (orI y z) = x by rw [orI, if_neg q])
        clear q g0 g1 g2
        go_wp2_with (first | (with_reducible refine hold_append ?_) | (with_reducible refine hold_make ?_) | (with_reducible refine hold_copy ?_))
        go_ret
        rw [HF.out]
        exact ⟨rfl, rfl⟩
    · have HX := Lib.hid (g0 (by omega))
      by_cases q : y = 0
      · have hq : (y != 0) = false := by simp [q]
        have HQ := Lib.hid q
        clear q g0 g1 g2
        go_wp2_with (first | (with_reducible refine hold_append ?_) | (with_reducible refine hold_make ?_) | (with_reducible refine hold_copy ?_))
        exact ⟨⟨2, by omega, by first | rfl | go_num, fun _ => HX.out, fun _ => HQ.out, by omega, by first | rfl | trivial⟩, by simp [intOf]⟩
      · have hq : (y != 0) = true := by simp [q]
        have HF := Lib.hid (show orI x (orI y z) = y by rw [orI, if_pos HX.out, orI, if_neg q])
        clear q g0 g1 g2
        go_wp2_with (first | (with_reducible refine hold_append ?_) | (with_reducible refine hold_make ?_) | (with_reducible refine hold_copy ?_))
        go_ret
        rw [HF.out]
        exact ⟨rfl, rfl⟩
    · have HX := Lib.hid (g0 (by omega))
      have HY := Lib.hid (g1 (by omega))
      by_cases q : z = 0
      · have hq : (z != 0) = false := by simp [q]
        have HQ := Lib.hid q
        clear q g0 g1 g2
        go_wp2_with (first | (with_reducible refine hold_append ?_) | (with_reducible refine hold_make ?_) | (with_reducible refine hold_copy ?_))
        exact ⟨⟨3, by omega, by first | rfl | go_num, fun _ => HX.out, fun _ => HY.out, fun _ => HQ.out, by first | rfl | trivial⟩, by simp [intOf]⟩
      · have hq : (z != 0) = true := by simp [q]
        have HF := Lib.hid (show orI x (orI y z) = z by rw [orI, if_pos HX.out, orI, if_pos HY.out])
        clear q g0 g1 g2
        go_wp2_with (first | (with_reducible refine hold_append ?_) | (with_reducible refine hold_make ?_) | (with_reducible refine hold_copy ?_))
        go_ret
        rw [HF.out]
        exact ⟨rfl, rfl⟩
    · have HX := Lib.hid (g0 (by omega))
      have HY := Lib.hid (g1 (by omega))
      have HZ := Lib.hid (g2 (by omega))
      have HF := Lib.hid (show orI x (orI y z) = 0 by rw [orI, if_pos HX.out, orI, if_pos HY.out, HZ.out])
      clear g0 g1 g2
      go_wp2_with (first | (with_reducible refine hold_append ?_) | (with_reducible refine hold_make ?_) | (with_reducible refine hold_copy ?_))
      go_ret
      rw [HF.out]
      exact ⟨rfl, rfl⟩
end Go.PH

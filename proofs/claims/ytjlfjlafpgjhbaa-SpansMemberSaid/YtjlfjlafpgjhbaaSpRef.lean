/- The walks of the reference's Right and in. -/
import Derived.Test.YtjlfjlafpgjhbaaSpMem
import Derived.Deep.QuietTactic
import Derived.BigQuiet
namespace Go.PH
open Go.RowKit Go.Proofs

set_option maxRecDepth 20000 in
theorem rright_any (A : Option Addr) (n c : Nat) (l : List Sp) (B : Nat) (w : World) (hr : RdS w B A n c l) (hb : spOK 4294967296 l) (hB : B ≤ w.heap.size) (hn : n ≤ 140737488355328) :
    Calls Try.prog 17 #[.slice A n c] w fun e w' => e = .returned (.bool (spRight l)) ∧ Below w.heap.size w w' := by
  have hl := hr.length
  go_enter Try.func17, Try.ntmps17
  go_wp2_with (first | (with_reducible refine hold_append ?_) | (with_reducible refine hold_make ?_) | (with_reducible refine hold_copy ?_))
  go_loopw [3] (fun s wr => ∃ (k : Nat), k ≤ n ∧ s = .int .i64 k ∧ spRight (l.take k) = true ∧ Below w.heap.size w wr) (fun s _ => n - (intOf s).toNat)
  case atStart => exact ⟨0, by omega, rfl, by simp [spRight], Below.refl _ _⟩
  case round =>
    obtain ⟨k, hk, rfl, hrk, hBr⟩ := hrel
    by_cases hlt : k < n
    · have hrr := hr.below (hBr.mono hB)
      obtain ⟨b, off, rfl, hbB, hkl, hc0, hc1⟩ := RdS.at_k hrr hlt
      have hbk := hb l[k] (List.getElem_mem hkl)
      have HN := Lib.hid (spNext_iff hkl)
      have hcp := RdS.at_p hrr hk
      have hbp := (spOK_getD hb (k - 1) (by omega)).2
      generalize (l.getD (k - 1) (0, 0)).2 = t0 at *
      generalize l[k].1 = f at *
      generalize l[k].2 = t at *
      by_cases h1 : t < f
      · have hd : (t : Int) < (f : Int) := by omega
        have hno := spRight_no hkl hrk (by rw [HN.out]; omega)
        go_wp2_with (first | (with_reducible refine hold_append ?_) | (with_reducible refine hold_make ?_) | (with_reducible refine hold_copy ?_))
        go_quiet (fail)
        go_wp2_with (first | (with_reducible refine hold_append ?_) | (with_reducible refine hold_make ?_) | (with_reducible refine hold_copy ?_))
        go_ret
        rw [hno]
        exact ⟨rfl, below_drewN hBr _⟩
      · have hd : decide ((t : Int) < (f : Int)) = false := by simp; omega
        rcases Nat.eq_zero_or_pos k with hk0 | h0
        · have hd0 : decide (0 < k) = false := by simp; omega
          have hy := spRight_yes hkl hrk (by rw [HN.out]; omega)
          clear hk0
          go_wp2_with (first | (with_reducible refine hold_append ?_) | (with_reducible refine hold_make ?_) | (with_reducible refine hold_copy ?_))
          go_quiet (fail)
          go_wp2_with (first | (with_reducible refine hold_append ?_) | (with_reducible refine hold_make ?_) | (with_reducible refine hold_copy ?_))
          go_quiet (fail)
          go_wp2_with (first | (with_reducible refine hold_append ?_) | (with_reducible refine hold_make ?_) | (with_reducible refine hold_copy ?_))
          exact ⟨⟨k + 1, by omega, by go_num, hy, by first | exact below_drewN hBr _ | exact below_drewN (below_drewN hBr _) _⟩, by simp [intOf]; omega⟩
        · have hd0 : (0 : Int) < (k : Int) := by omega
          obtain ⟨b', off', e', _, hc2⟩ := hcp h0
          obtain ⟨rfl, rfl⟩ : b = b' ∧ off = off' := by simpa using e'
          clear e' hcp
          have hw1 : IntKind.i64.wrap ((k : Int) - 1) = ((k - 1 : Nat) : Int) := by rw [IntWalk.i64_in _ ⟨by omega, by omega⟩]; omega
          have hlt1 : ((k - 1 : Nat) : Int) < (n : Int) := by omega
          by_cases h2 : f < t0 + 2
          · have hd1 : (f : Int) < (t0 : Int) + 2 := by omega
            have hno := spRight_no hkl hrk (by rw [HN.out]; omega)
            go_wp2_with (first | (with_reducible refine hold_append ?_) | (with_reducible refine hold_make ?_) | (with_reducible refine hold_copy ?_))
            go_quiet (fail)
            go_wp2_with (first | (with_reducible refine hold_append ?_) | (with_reducible refine hold_make ?_) | (with_reducible refine hold_copy ?_))
            go_quiet (fail)
            go_wp2_with (first | (with_reducible refine hold_append ?_) | (with_reducible refine hold_make ?_) | (with_reducible refine hold_copy ?_))
            go_ret
            rw [hno]
            exact ⟨rfl, by first | exact below_drewN hBr _ | exact below_drewN (below_drewN hBr _) _⟩
          · have hd1 : decide ((f : Int) < (t0 : Int) + 2) = false := by simp; omega
            have hy := spRight_yes hkl hrk (by rw [HN.out]; omega)
            go_wp2_with (first | (with_reducible refine hold_append ?_) | (with_reducible refine hold_make ?_) | (with_reducible refine hold_copy ?_))
            go_quiet (fail)
            go_wp2_with (first | (with_reducible refine hold_append ?_) | (with_reducible refine hold_make ?_) | (with_reducible refine hold_copy ?_))
            go_quiet (fail)
            go_wp2_with (first | (with_reducible refine hold_append ?_) | (with_reducible refine hold_make ?_) | (with_reducible refine hold_copy ?_))
            exact ⟨⟨k + 1, by omega, by go_num, hy, by first | exact below_drewN hBr _ | exact below_drewN (below_drewN hBr _) _⟩, by simp [intOf]; omega⟩
    · obtain rfl : k = n := by omega
      go_wp2_with (first | (with_reducible refine hold_append ?_) | (with_reducible refine hold_make ?_) | (with_reducible refine hold_copy ?_))
      go_ret
      rw [← hl, List.take_length] at hrk
      rw [hrk]
      exact ⟨rfl, hBr⟩

set_option maxRecDepth 20000 in
theorem in_any (A : Option Addr) (n c : Nat) (l : List Sp) (m : Nat) (B : Nat) (w : World) (hr : RdS w B A n c l) (hb : spOK 4294967296 l) (hm : m < 18446744073709551616) (hB : B ≤ w.heap.size) (hn : n ≤ 140737488355328) :
    Calls Try.prog 32 #[.slice A n c, .int .u64 m] w fun e w' => e = .returned (.bool (spIn l m)) ∧ w' = w := by
  have hl := hr.length
  go_enter Try.func32, Try.ntmps32
  go_wp2_with (first | (with_reducible refine hold_append ?_) | (with_reducible refine hold_make ?_) | (with_reducible refine hold_copy ?_))
  go_loopw [5] (fun s wr => ∃ (k : Nat), k ≤ n ∧ s = .int .i64 k ∧ spIn (l.take k) m = false ∧ wr = w) (fun s _ => n - (intOf s).toNat)
  case atStart => exact ⟨0, by omega, rfl, by simp [spIn], rfl⟩
  case round =>
    obtain ⟨k, hk, rfl, hrk, hww⟩ := hrel
    subst hww
    by_cases hlt : k < n
    · have hrr := hr
      obtain ⟨b, off, rfl, hbB, hkl, hc0, hc1⟩ := RdS.at_k hrr hlt
      have hbk := hb l[k] (List.getElem_mem hkl)
      have HY := Lib.hid (spIn_hit hkl (m := m))
      have HN := Lib.hid (spIn_miss hkl (m := m) hrk)
      generalize l[k].1 = f at *
      generalize l[k].2 = t at *
      by_cases h1 : f ≤ m
      · have hd : (f : Int) ≤ (m : Int) := by omega
        by_cases h2 : m ≤ t
        · have hd2 : (m : Int) ≤ (t : Int) := by omega
          have hy := HY.out h1 h2
          go_wp2_with (first | (with_reducible refine hold_append ?_) | (with_reducible refine hold_make ?_) | (with_reducible refine hold_copy ?_))
          go_ret
          rw [hy]
          exact ⟨rfl, rfl⟩
        · have hd2 : decide ((m : Int) ≤ (t : Int)) = false := by simp; omega
          have hy := HN.out (by omega)
          go_wp2_with (first | (with_reducible refine hold_append ?_) | (with_reducible refine hold_make ?_) | (with_reducible refine hold_copy ?_))
          exact ⟨⟨k + 1, by omega, by go_num, hy, by first | trivial | rfl⟩, by simp [intOf]; omega⟩
      · have hd : decide ((f : Int) ≤ (m : Int)) = false := by simp; omega
        have hy := HN.out (by omega)
        go_wp2_with (first | (with_reducible refine hold_append ?_) | (with_reducible refine hold_make ?_) | (with_reducible refine hold_copy ?_))
        exact ⟨⟨k + 1, by omega, by go_num, hy, by first | trivial | rfl⟩, by simp [intOf]; omega⟩
    · obtain rfl : k = n := by omega
      go_wp2_with (first | (with_reducible refine hold_append ?_) | (with_reducible refine hold_make ?_) | (with_reducible refine hold_copy ?_))
      go_ret
      rw [← hl, List.take_length] at hrk
      rw [hrk]
      exact ⟨rfl, rfl⟩
end Go.PH

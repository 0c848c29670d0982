/- SpansAsk: the walks of Count and of the law. -/
import Derived.Test.YtjlfjlafpgjhbaaSpHead
namespace Go.PH
open Go.RowKit Go.Proofs

def spCount (l : List Sp) : Nat := if spRight l = true then spSum l else 0
set_option maxRecDepth 20000 in
theorem count_any (A : Option Addr) (n c : Nat) (l : List Sp) (B : Nat) (w : World) (hr : RdS w B A n c l) (hb : spOK 4294967296 l) (hB : B ≤ w.heap.size) (hn : n ≤ 1000000000) :
    Calls Try.prog 20 #[.slice A n c] w fun e w' => e = .returned (.int .u64 (spCount l)) ∧ Below w.heap.size w w' := by
  have hl := hr.length
  have hra := right_any A n c l B w hr hb hB (by omega)
  cases hright : spRight l
  · rw [hright] at hra
    have e1 : spCount l = 0 := by simp [spCount, hright]
    rw [e1]
    go_enter Try.func20, Try.ntmps20
    go_wp2_with (first | (with_reducible refine hold_append ?_) | (with_reducible refine hold_make ?_) | (with_reducible refine hold_copy ?_))
    refine hra.mono ?_
    rintro e w1 ⟨rfl, hB1⟩
    go_wp2_with (first | (with_reducible refine hold_append ?_) | (with_reducible refine hold_make ?_) | (with_reducible refine hold_copy ?_))
    go_ret
    exact ⟨rfl, hB1⟩
  · rw [hright] at hra
    have e1 : spCount l = spSum l := by simp [spCount, hright]
    rw [e1]
    have HE := Lib.hid (spRight_each hright)
    clear hright e1
    go_enter Try.func20, Try.ntmps20
    go_wp2_with (first | (with_reducible refine hold_append ?_) | (with_reducible refine hold_make ?_) | (with_reducible refine hold_copy ?_))
    refine hra.mono ?_
    rintro e w1 ⟨rfl, hB1⟩
    go_wp2_with (first | (with_reducible refine hold_append ?_) | (with_reducible refine hold_make ?_) | (with_reducible refine hold_copy ?_))
    go_loopw [11, 3] (fun s v wr => ∃ (k m : Nat), k ≤ n ∧ s = .int .i64 k ∧ v = .int .u64 m ∧ m = spSum (l.take k) ∧ Below w.heap.size w wr) (fun s _ _ => n - (intOf s).toNat)
    case atStart => exact ⟨0, 0, by omega, rfl, rfl, by simp [spSum], hB1⟩
    case round =>
      obtain ⟨k, m, hk, rfl, rfl, hm, hBr⟩ := hrel
      have hle := spSum_le (N := 4294967296) (l := l.take k) (fun z hz => hb z (List.mem_of_mem_take hz))
      rw [← hm, List.length_take, hl, Nat.min_eq_left hk] at hle
      by_cases hlt : k < n
      · obtain ⟨b, off, rfl, hbB, hkl, hc0, hc1⟩ := RdS.at_k (hr.below (hBr.mono hB)) hlt
        have hbk := hb l[k] (List.getElem_mem hkl)
        have hek := HE.out l[k] (List.getElem_mem hkl)
        have hnx := spSum_next hkl
        rw [← hm] at hnx
        have HN := Lib.hid hnx
        clear hnx hm
        generalize l[k].1 = f at *
        generalize l[k].2 = t at *
        have hB2 : Below w.heap.size w (wr.alloc (.cells #[.int .u32 (f : Int), .int .u32 (t : Int)] 33)) := hBr.alloc hBr.size _
        have hw1 : IntKind.u32.wrap ((t : Int) - (f : Int)) = ((t - f : Nat) : Int) := by rw [IntWalk.u32_in _ ⟨by omega, by omega⟩]; omega
        go_wp2_with (first | (with_reducible refine hold_append ?_) | (with_reducible refine hold_make ?_) | (with_reducible refine hold_copy ?_))
        exact ⟨⟨k + 1, m + (t - f + 1), by omega, by go_num, by go_num, HN.out.symm, hB2⟩, by simp [intOf]; omega⟩
      · obtain rfl : k = n := by omega
        rw [← hl, List.take_length] at hm
        have HM := Lib.hid hm
        clear hm
        go_wp2_with (first | (with_reducible refine hold_append ?_) | (with_reducible refine hold_make ?_) | (with_reducible refine hold_copy ?_))
        go_ret
        rw [← HM.out]
        exact ⟨rfl, hBr⟩
set_option maxRecDepth 20000 in
theorem rcount_any (A : Option Addr) (n c : Nat) (l : List Sp) (B : Nat) (w : World) (hr : RdS w B A n c l) (hb : spOK 4294967296 l) (hB : B ≤ w.heap.size) (hn : n ≤ 1000000000) :
    Calls Try.prog 21 #[.slice A n c] w fun e w' => e = .returned (.int .u64 (spCount l)) ∧ Below w.heap.size w w' := by
  have hl := hr.length
  have hra := fun w1 (h : Below w.heap.size w w1) => rright_any A n c l B w1 (hr.below (h.mono hB)) hb (by have := h.size; omega) (by omega)
  cases hright : spRight l
  · rw [hright] at hra
    have e1 : spCount l = 0 := by simp [spCount, hright]
    rw [e1]
    clear hright e1
    by_cases hn0 : 0 < n
    · have hd0 : (0 : Int) < (n : Int) := by omega
      go_enter Try.func21, Try.ntmps21
      go_wp2_with (first | (with_reducible refine hold_append ?_) | (with_reducible refine hold_make ?_) | (with_reducible refine hold_copy ?_))
      go_loopw [4, 3] (fun s v wr => s = .int .i64 0 ∧ v = .int .u64 0 ∧ Below w.heap.size w wr) (fun s _ _ => n - (intOf s).toNat)
      case atStart => exact ⟨rfl, rfl, Below.refl _ _⟩
      case round =>
        obtain ⟨rfl, rfl, hBr⟩ := hrel
        go_wp2_with (first | (with_reducible refine hold_append ?_) | (with_reducible refine hold_make ?_) | (with_reducible refine hold_copy ?_))
        refine (hra wr hBr).mono ?_
        rintro e w1 ⟨rfl, hB1⟩
        have hB2 := hBr.trans (hB1.mono hBr.size)
        go_wp2_with (first | (with_reducible refine hold_append ?_) | (with_reducible refine hold_make ?_) | (with_reducible refine hold_copy ?_))
        go_ret
        exact ⟨rfl, hB2⟩
    · have hd0 : decide (0 < n) = false := by simp; omega
      go_enter Try.func21, Try.ntmps21
      go_wp2_with (first | (with_reducible refine hold_append ?_) | (with_reducible refine hold_make ?_) | (with_reducible refine hold_copy ?_))
      go_loopw [4, 3] (fun s v wr => s = .int .i64 0 ∧ v = .int .u64 0 ∧ Below w.heap.size w wr) (fun s _ _ => n - (intOf s).toNat)
      case atStart => exact ⟨rfl, rfl, Below.refl _ _⟩
      case round =>
        obtain ⟨rfl, rfl, hBr⟩ := hrel
        go_wp2_with (first | (with_reducible refine hold_append ?_) | (with_reducible refine hold_make ?_) | (with_reducible refine hold_copy ?_))
        go_ret
        exact ⟨rfl, hBr⟩
  · rw [hright] at hra
    have e1 : spCount l = spSum l := by simp [spCount, hright]
    rw [e1]
    have HE := Lib.hid (spRight_each hright)
    clear hright e1
    go_enter Try.func21, Try.ntmps21
    go_wp2_with (first | (with_reducible refine hold_append ?_) | (with_reducible refine hold_make ?_) | (with_reducible refine hold_copy ?_))
    go_loopw [4, 3] (fun s v wr => ∃ (k m : Nat), k ≤ n ∧ s = .int .i64 k ∧ v = .int .u64 m ∧ m = spSum (l.take k) ∧ Below w.heap.size w wr) (fun s _ _ => n - (intOf s).toNat)
    case atStart => exact ⟨0, 0, by omega, rfl, rfl, by simp [spSum], Below.refl _ _⟩
    case round =>
      obtain ⟨k, m, hk, rfl, rfl, hm, hBr⟩ := hrel
      have hle := spSum_le (N := 4294967296) (l := l.take k) (fun z hz => hb z (List.mem_of_mem_take hz))
      rw [← hm, List.length_take, hl, Nat.min_eq_left hk] at hle
      by_cases hlt : k < n
      · have hrr := hra wr hBr
        have hd0 : (k : Int) < (n : Int) := by omega
        go_wp2_with (first | (with_reducible refine hold_append ?_) | (with_reducible refine hold_make ?_) | (with_reducible refine hold_copy ?_))
        refine hrr.mono ?_
        rintro e w1 ⟨rfl, hB1⟩
        have hB2 := hBr.trans (hB1.mono hBr.size)
        obtain ⟨b, off, rfl, hbB, hkl, hc0, hc1⟩ := RdS.at_k (hr.below (hB2.mono hB)) hlt
        have hbk := hb l[k] (List.getElem_mem hkl)
        have hek := HE.out l[k] (List.getElem_mem hkl)
        have hnx := spSum_next hkl
        rw [← hm] at hnx
        have HN := Lib.hid hnx
        clear hnx hm
        generalize l[k].1 = f at *
        generalize l[k].2 = t at *
        go_wp2_with (first | (with_reducible refine hold_append ?_) | (with_reducible refine hold_make ?_) | (with_reducible refine hold_copy ?_))
        go_quiet (fail)
        go_wp2_with (first | (with_reducible refine hold_append ?_) | (with_reducible refine hold_make ?_) | (with_reducible refine hold_copy ?_))
        exact ⟨⟨k + 1, m + (t - f + 1), by omega, by go_num, by go_num, HN.out.symm, below_drewN hB2 _⟩, by simp [intOf]; omega⟩
      · obtain rfl : k = n := by omega
        rw [← hl, List.take_length] at hm
        have HM := Lib.hid hm
        clear hm
        have hd0 : decide ((k : Int) < (k : Int)) = false := by simp
        go_wp2_with (first | (with_reducible refine hold_append ?_) | (with_reducible refine hold_make ?_) | (with_reducible refine hold_copy ?_))
        go_ret
        rw [← HM.out]
        exact ⟨rfl, hBr⟩

set_option maxRecDepth 20000 in
theorem rhas_any (A : Option Addr) (n c : Nat) (l : List Sp) (m : Nat) (B : Nat) (w : World) (hr : RdS w B A n c l) (hB : B ≤ w.heap.size) (hb : spOK 4294967296 l) (hm : m < 4294967296) (hn : n ≤ 140737488355328) :
    Calls Try.prog 19 #[.slice A n c, .int .u32 m] w fun e w' => e = .returned (.bool (spRight l && spIn l m)) ∧ Below w.heap.size w w' := by
  have hl := hr.length
  have hra := rright_any A n c l B w hr hb hB hn
  cases hright : spRight l
  · rw [hright] at hra
    rw [Bool.false_and]
    go_enter Try.func19, Try.ntmps19
    go_wp2_with (first | (with_reducible refine hold_append ?_) | (with_reducible refine hold_make ?_) | (with_reducible refine hold_copy ?_))
    refine hra.mono ?_
    rintro e w1 ⟨rfl, hB1⟩
    go_wp2_with (first | (with_reducible refine hold_append ?_) | (with_reducible refine hold_make ?_) | (with_reducible refine hold_copy ?_))
    go_ret
    exact ⟨rfl, hB1⟩
  · rw [hright] at hra
    rw [Bool.true_and]
    clear hright
    go_enter Try.func19, Try.ntmps19
    go_wp2_with (first | (with_reducible refine hold_append ?_) | (with_reducible refine hold_make ?_) | (with_reducible refine hold_copy ?_))
    refine hra.mono ?_
    rintro e w1 ⟨rfl, hB1⟩
    go_wp2_with (first | (with_reducible refine hold_append ?_) | (with_reducible refine hold_make ?_) | (with_reducible refine hold_copy ?_))
    refine (in_any A n c l m B w1 (hr.below (hB1.mono hB)) hb (by omega) (by have := hB1.size; omega) hn).mono ?_
    rintro e w2 ⟨rfl, rfl⟩
    go_wp2_with (first | (with_reducible refine hold_append ?_) | (with_reducible refine hold_make ?_) | (with_reducible refine hold_copy ?_))
    go_ret
    exact ⟨rfl, hB1⟩
set_option maxRecDepth 20000 in
theorem law_SpansAsk (A : Option Addr) (n c : Nat) (l : List Sp) (m : Nat) (w : World) (hr : RdS w w.heap.size A n c l) (hb : spOK 4294967296 l) (hm : m < 4294967296) (hn : n ≤ 140737488351232) :
    Calls Try.prog 4 #[.slice A n c, .int .u32 m] w fun e w' => e = .returned (.bool true) ∧ Below w.heap.size w w' := by
  by_cases h60 : 60 < n
  · go_enter Try.func4, Try.ntmps4
    go_wp2_with (first | (with_reducible refine hold_append ?_) | (with_reducible refine hold_make ?_) | (with_reducible refine hold_copy ?_))
    refine (head_any w).mono ?_
    rintro e w1 ⟨rfl, hB1⟩
    go_wp2_with (first | (with_reducible refine hold_append ?_) | (with_reducible refine hold_make ?_) | (with_reducible refine hold_copy ?_))
    go_ret
    exact ⟨rfl, hB1⟩
  · have h60' : ¬ (60 : Int) < (n : Int) := by omega
    have q1 : (spRight l == spRight l) = true := by simp
    have q2 : ((spRight l && spIn l m) == (spRight l && spIn l m)) = true := by simp
    have q3 : (((spCount l : Nat) : Int) == ((spCount l : Nat) : Int)) = true := by simp
    go_enter Try.func4, Try.ntmps4
    go_wp2_with (first | (with_reducible refine hold_append ?_) | (with_reducible refine hold_make ?_) | (with_reducible refine hold_copy ?_))
    refine (right_any A n c l _ w hr hb (Nat.le_refl _) (by omega)).mono ?_
    rintro e w1 ⟨rfl, hB1⟩
    have hz1 := hB1.size
    go_wp2_with (first | (with_reducible refine hold_append ?_) | (with_reducible refine hold_make ?_) | (with_reducible refine hold_copy ?_))
    refine (rright_any A n c l _ w1 (hr.below hB1) hb hz1 (by omega)).mono ?_
    rintro e w2 ⟨rfl, hB2'⟩
    have hB2 := hB1.trans (hB2'.mono hz1)
    have hz2 := hB2.size
    go_wp2_with (first | (with_reducible refine hold_append ?_) | (with_reducible refine hold_make ?_) | (with_reducible refine hold_copy ?_))
    refine (has_any A n c l m _ w2 (hr.below hB2) hz2 hb hm (by omega)).mono ?_
    rintro e w3 ⟨rfl, hB3'⟩
    have hB3 := hB2.trans (hB3'.mono hz2)
    have hz3 := hB3.size
    go_wp2_with (first | (with_reducible refine hold_append ?_) | (with_reducible refine hold_make ?_) | (with_reducible refine hold_copy ?_))
    refine (rhas_any A n c l m _ w3 (hr.below hB3) hz3 hb hm (by omega)).mono ?_
    rintro e w4 ⟨rfl, hB4'⟩
    have hB4 := hB3.trans (hB4'.mono hz3)
    have hz4 := hB4.size
    go_wp2_with (first | (with_reducible refine hold_append ?_) | (with_reducible refine hold_make ?_) | (with_reducible refine hold_copy ?_))
    refine (count_any A n c l _ w4 (hr.below hB4) hb hz4 (by omega)).mono ?_
    rintro e w5 ⟨rfl, hB5'⟩
    have hB5 := hB4.trans (hB5'.mono hz4)
    have hz5 := hB5.size
    go_wp2_with (first | (with_reducible refine hold_append ?_) | (with_reducible refine hold_make ?_) | (with_reducible refine hold_copy ?_))
    refine (rcount_any A n c l _ w5 (hr.below hB5) hb hz5 (by omega)).mono ?_
    rintro e w6 ⟨rfl, hB6'⟩
    have hB6 := hB5.trans (hB6'.mono hz5)
    go_wp2_with (first | (with_reducible refine hold_append ?_) | (with_reducible refine hold_make ?_) | (with_reducible refine hold_copy ?_))
    refine (head_any w6).mono ?_
    rintro e w7 ⟨rfl, hB7⟩
    go_wp2_with (first | (with_reducible refine hold_append ?_) | (with_reducible refine hold_make ?_) | (with_reducible refine hold_copy ?_))
    go_ret
    exact ⟨rfl, hB6.trans (hB7.mono hB6.size)⟩
end Go.PH

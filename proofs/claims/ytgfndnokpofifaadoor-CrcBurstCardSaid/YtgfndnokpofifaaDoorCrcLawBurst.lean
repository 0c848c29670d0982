/- CrcBurst: for every input of the form's own reach the law returns true and writes nothing that was there. Condition: the listed table reads as its numbers. -/
import Derived.Test.YtgfndnokpofifaaDoorCrcLawSeals
import Derived.Test.YtgfndnokpofifaaDoorCrcMath2
namespace Go.PH
open Go.RowKit Go.Proofs

theorem and1_bit (bs j : Nat) (h : bs < 4294967296) : bits .and .u32 ((bs : Int) / 2 ^ j) 1 = ((bs.testBit j).toNat : Int) := by
  have h1 := u32_and_nat (bs / 2 ^ j) 1 (Nat.lt_of_le_of_lt (Nat.div_le_self _ _) h) (by omega)
  have e : ((bs / 2 ^ j : Nat) : Int) = (bs : Int) / 2 ^ j := by simp
  rw [e] at h1
  rw [show ((1 : Nat) : Int) = 1 from rfl] at h1
  rw [h1, Nat.and_one_is_mod, Nat.testBit_eq_decide_div_mod_eq]
  rcases Nat.mod_two_eq_zero_or_one (bs / 2 ^ j) with h | h <;> simp [h]
theorem u8_flip (y : UInt8) (m : Nat) (hm : m < 8) : Value.int .u8 (bits .xor .u8 (y.toNat : Int) (2 ^ m % 256)) = u8v (y ^^^ UInt8.ofNat (2 ^ m)) := by
  have h2 : (2 : Nat) ^ m < 256 := Nat.pow_lt_pow_right (a := 2) (by omega) hm
  have h1 := u8_xor_nat y.toNat (2 ^ m) y.toNat_lt h2
  have e : ((2 ^ m : Nat) : Int) = (2 : Int) ^ m % 256 := by
    obtain rfl | rfl | rfl | rfl | rfl | rfl | rfl | rfl : m = 0 ∨ m = 1 ∨ m = 2 ∨ m = 3 ∨ m = 4 ∨ m = 5 ∨ m = 6 ∨ m = 7 := by omega
    all_goals rfl
  rw [e] at h1
  rw [h1]
  simp only [u8v, UInt8.toNat_xor, UInt8.toNat_ofNat', Nat.mod_eq_of_lt h2]
set_option maxHeartbeats 1000000 in
theorem law_CrcBurst (at_ bs : Nat) (A : Option Addr) (n c : Nat) (l : List UInt8) (w : World) (hb : RdB w w.heap.size A n c l) (ht : TabAt w) (hg0 : 0 < w.heap.size) (hn : n ≤ 140737488351232)
    (hat : at_ < 4294967296) (hbs : bs < 4294967296) :
    Calls Tryd.prog 7 #[.slice A n c, .int .u32 at_, .int .u32 bs] w fun e w' => e = .returned (.bool true) ∧ Below w.heap.size w w' := by
  have hl := hb.length
  go_enter Tryd.func7, Tryd.ntmps7
  go_wp2_with (first | (with_reducible refine hold_append ?_) | (with_reducible refine hold_make ?_) | (with_reducible refine hold_copy ?_))
  refine (seal_any A n c l w hb ht hg0 (by omega)).mono ?_
  rintro e w1 ⟨A1, c1, rfl, ho1, hB1⟩
  have hz1 := hB1.size
  have hne : (((n : Int) + 4) != ((n : Int) + 4)) = false := by simp
  obtain ⟨fr, hfr, hfl⟩ : ∃ fr : Nat, (at_ : Int) % (8 * ((n : Int) + 4)) = (fr : Int) ∧ fr < 8 * (n + 4) :=
    ⟨at_ % (8 * (n + 4)), by simp, Nat.mod_lt _ (by omega)⟩
  obtain ⟨lim, hlim⟩ : ∃ lim, fr + lim = 8 * (n + 4) := ⟨8 * (n + 4) - fr, by omega⟩
  have hsl : (seal' l).length = n + 4 := OwnB.length ho1
  have HLIM := Lib.hid hlim
  have HSL := Lib.hid hsl
  clear hlim hsl
  go_wp2_with (first | (with_reducible refine hold_append ?_) | (with_reducible refine hold_make ?_) | (with_reducible refine hold_copy ?_))
  go_loopw [9, 10] (fun tu i wr => ∃ (j : Nat) (t : List UInt8) (tb : Bool), j ≤ 32 ∧ i = .int .i64 j ∧ tu = .bool tb ∧ tb = decide (win bs lim j ≠ 0) ∧ val t = val (seal' l) ^^^ 2 ^ fr * win bs lim j ∧ Own wr w.heap.size 5 1 A1 (n + 4) c1 (t.map u8v) ∧ Below w.heap.size w wr) (fun _ i _ => 32 - (intOf i).toNat)
  case atStart => exact ⟨0, seal' l, false, by omega, rfl, rfl, by simp [win_zero], by simp [win_zero], ho1, hB1⟩
  case round =>
    obtain ⟨j, t, tb, hj, rfl, rfl, htb, hv, ho, hB⟩ := hrel
    have HTB := Lib.hid htb
    have HV := Lib.hid hv
    clear htb hv
    by_cases hlt : j < 32
    · cases hbit : bs.testBit j
      · have hb1 := and1_bit bs j hbs
        rw [hbit] at hb1
        simp only [Bool.toNat_false, Int.natCast_zero] at hb1
        have HBIT := Lib.hid hbit
        clear hbit
        go_wp2
        exact ⟨⟨j + 1, t, tb, by omega, by go_num, rfl, by rw [win_same _ _ _ (.inl HBIT.out)]; exact HTB.out, by rw [win_same _ _ _ (.inl HBIT.out)]; exact HV.out, ho, hB⟩, by simp [intOf]; omega⟩
      · have hb1 := and1_bit bs j hbs
        rw [hbit] at hb1
        simp only [Bool.toNat_true, Int.natCast_one] at hb1
        have HBIT := Lib.hid hbit
        clear hbit
        by_cases hend : fr + j < 8 * (n + 4)
        · obtain ⟨q, hq, hql⟩ : ∃ q : Nat, ((fr : Int) + (j : Int)) / 8 = (q : Int) ∧ q < n + 4 := ⟨(fr + j) / 8, by omega, by omega⟩
          obtain ⟨m, hm, hml⟩ : ∃ m : Nat, ((fr : Int) + (j : Int)) % 8 = (m : Int) ∧ m < 8 := ⟨(fr + j) % 8, by omega, by omega⟩
          obtain ⟨g, rfl, hbg, hgl, hkl, hcell, hfrz, hst⟩ := OwnB.at_k ho hql
          have hlj : j < lim := by have := HLIM.out; omega
          have h8 : 8 * q + m = fr + j := by omega
          have hst' := hst (t[q] ^^^ UInt8.ofNat (2 ^ m))
          rw [← u8_flip _ _ hml] at hst'
          have hvv : val (t.set q (t[q] ^^^ UInt8.ofNat (2 ^ m))) = val (seal' l) ^^^ 2 ^ fr * win bs lim (j + 1) := by
            rw [val_flip _ _ _ hkl hml, HV.out, h8, flip_win _ _ _ _ _ HBIT.out hlj]
          have HVV := Lib.hid hvv
          have HT1 : Hid (true = decide (win bs lim (j + 1) ≠ 0)) := by show _ = _; rw [decide_eq_true (win_ne _ _ _ HBIT.out hlj)]
          clear hvv h8 hst
          go_wp2
          exact ⟨⟨j + 1, _, true, by omega, by go_num, rfl, HT1.out, HVV.out, hst', hB.setCell hbg _⟩, by simp [intOf]; omega⟩
        · have hge : lim ≤ j := by have := HLIM.out; omega
          go_wp2
          exact ⟨⟨j + 1, t, tb, by omega, by go_num, rfl, by rw [win_same _ _ _ (.inr hge)]; exact HTB.out, by rw [win_same _ _ _ (.inr hge)]; exact HV.out, ho, hB⟩, by simp [intOf]; omega⟩
    · have h32 : j = 32 := by omega
      subst h32
      have htl : t.length = n + 4 := OwnB.length ho
      have hop : opens t = !tb := by
        rw [burst (fr := fr) (opens_seal l) (by rw [HSL.out]; omega) (by rw [htl, HSL.out]) (by rw [HSL.out]; exact HLIM.out) HV.out, HTB.out]
        simp
      clear htl
      have hzr := hB.size
      go_wp2_with (first | (with_reducible refine hold_append ?_) | (with_reducible refine hold_make ?_) | (with_reducible refine hold_copy ?_))
      refine (open_any A1 (n + 4) c1 t wr ho.rd (ht.below hB hg0) (by omega) (by omega)).mono ?_
      rw [hop]
      rintro e w4 ⟨A4, c4, rfl, ho4, hB4⟩
      have hBw := hB.trans (hB4.mono hzr)
      have heq : (!tb == !tb) = true := by simp
      clear hop
      generalize (opn t).length = m at *
      go_wp2_with (first | (with_reducible refine hold_append ?_) | (with_reducible refine hold_make ?_) | (with_reducible refine hold_copy ?_))
      refine (head_any w4 (ht.below hBw hg0) (Nat.lt_of_lt_of_le hg0 hBw.size)).mono ?_
      rintro e w5 ⟨rfl, hB5⟩
      go_wp2_with (first | (with_reducible refine hold_append ?_) | (with_reducible refine hold_make ?_) | (with_reducible refine hold_copy ?_))
      go_ret
      exact ⟨rfl, hBw.trans (hB5.mono hBw.size)⟩
end Go.PH

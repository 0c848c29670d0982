/- The walks of the reference's Put and PutText. -/
import Derived.Test.YtejpponbhblmmaaOctPut
import Derived.Test.YtejpponbhblmmaaMem3
namespace Go.PH
open Go.RowKit Go.Proofs

theorem be_div (n k : Nat) : UInt8.ofNat (n / 256 ^ k) = UInt8.ofNat ((n / 256 ^ k) % 256) := by
  apply UInt8.toNat_inj.1
  simp
set_option maxHeartbeats 1000000 in
theorem rnumber_any (n i : Nat) (w : World) (hn : n < 18446744073709551616) (hi8 : i ≤ 8) :
    Calls Try.prog 29 #[.int .u64 n, .int .i64 i] w fun e w' => ∃ A2 c2, e = .returned (.slice A2 i c2) ∧ Own w' w.heap.size 5 1 A2 i c2 ((be i n).map u8v) ∧ Below w.heap.size w w' := by
  go_enter Try.func29, Try.ntmps29
  go_wp2_with (first | (with_reducible refine hold_append ?_) | (with_reducible refine hold_make ?_) | (with_reducible refine hold_copy ?_))
  go_loopw [6, 5, 0] (fun x v s wr => ∃ (k c2 m : Nat) (A2 : Option Addr), k ≤ i ∧ x = .int .i64 k ∧ v = .slice A2 k c2 ∧ s = .int .u64 (m : Nat) ∧ m = n / 256 ^ k ∧ m < 18446744073709551616 ∧ Own wr w.heap.size 5 1 A2 k c2 ((be k n).map u8v) ∧ Below w.heap.size w wr) (fun x _ _ _ => i - (intOf x).toNat)
  case atStart => exact ⟨0, 0, n, none, by omega, rfl, rfl, rfl, by simp, hn, by simpa [be] using Own.none_ _ _ _ _, Below.refl _ _⟩
  case round =>
    obtain ⟨k, c2, m, A2, hk, rfl, rfl, rfl, hm, hm64, ho, hB⟩ := hrel
    have HM := Lib.hid hm
    clear hm
    by_cases hlt : k < i
    · have hlit := own_lit (w := wr) wr.heap.size #[Value.int .u8 ((m : Int) % 256)] 5 1 (Nat.le_refl _) (by simp [maxLen]) rfl (size := 1) (by omega)
      have hB1 : Below w.heap.size w (wr.alloc (.cells #[Value.int .u8 ((m : Int) % 256)] 5)) := hB.alloc hB.size _
      have hr1 := Own.rd (base := w.heap.size) (e := 5) (ho.alloc (.cells #[Value.int .u8 ((m : Int) % 256)] 5))
      go_wp2_with (first | (with_reducible refine hold_append ?_) | (with_reducible refine hold_make ?_) | (with_reducible refine hold_copy ?_))
      refine unhold (wp_app (base := wr.heap.size) slB rfl rfl rfl rfl hlit hr1 (map_one _) (by omega) (by simp [maxLen]; omega) (by simp) ?_)
      intro A3 c3 w3 ho3 hg3 _
      have hB3 : Below w.heap.size w w3 := hB1.grown hg3 (by have := hB.size; simp; omega) (fun g hg => by have := (hlit.blk_lt hg).1; have := hB.size; omega)
      have e3 : ((#[Value.int .u8 ((m : Int) % 256)] : Array Value).toList ++ (be k n).map u8v) = (be (k + 1) n).map u8v := by
        simp only [be, List.map_cons, u8v, List.cons_append, List.nil_append]
        rw [HM.out]
        simp
      rw [e3, Nat.add_comm] at ho3
      have ho3' := ho3.base_le hB.size
      have hmq : m / 256 = n / 256 ^ (k + 1) := by rw [HM.out, Nat.div_div_eq_div_mul, Nat.pow_succ]
      have HMQ := Lib.hid hmq
      clear hmq e3
      go_wp2_with (first | (with_reducible refine hold_append ?_) | (with_reducible refine hold_make ?_) | (with_reducible refine hold_copy ?_))
      exact ⟨⟨k + 1, c3, m / 256, A3, by omega, by go_num, by simp [Nat.add_comm], by first | rfl | simp, HMQ.out, by omega, ho3', hB3⟩, by simp [intOf]; omega⟩
    · obtain rfl : k = i := by omega
      go_wp2_with (first | (with_reducible refine hold_append ?_) | (with_reducible refine hold_make ?_) | (with_reducible refine hold_copy ?_))
      go_ret
      exact ⟨A2, c2, rfl, ho, hB⟩

set_option maxHeartbeats 1000000 in
theorem rput_any (A : Option Addr) (n c : Nat) (l : List UInt8) (v : Nat) (x : Int) (w : World) (hb : RdB w w.heap.size A n c l) (hv : v < 18446744073709551616) (hn : n ≤ 140737488355320) :
    Calls Try.prog 12 #[.slice A n c, .int .u64 v, .int .i64 x] w fun e w' => ∃ A2 c2, e = .returned (.slice A2 (puts l v x).length c2) ∧ Own w' w.heap.size 5 1 A2 (puts l v x).length c2 ((puts l v x).map u8v) ∧ Below w.heap.size w w' := by
  have hl := hb.length
  go_enter Try.func12, Try.ntmps12
  go_wp2_with (first | (with_reducible refine hold_append ?_) | (with_reducible refine hold_make ?_) | (with_reducible refine hold_copy ?_))
  refine unhold (wp_app slB rfl rfl rfl rfl (Own.none_ w w.heap.size _ _) hb (map_one _) (by omega) (by simp [maxLen]; omega) (Nat.le_refl _) ?_)
  intro A1 c1 w1 ho1 hg1 _
  have hB1 : Below w.heap.size w w1 := (Below.refl _ _).grown hg1 (Nat.le_refl _) (by simp [blk])
  simp only [Nat.zero_add, List.nil_append] at ho1
  have hz1 := hB1.size
  go_wp2_with (first | (with_reducible refine hold_append ?_) | (with_reducible refine hold_make ?_) | (with_reducible refine hold_copy ?_))
  refine (rwidth_any x w1).mono ?_
  rintro e w2 ⟨rfl, rfl⟩
  by_cases hw : wideB x = true
  · have h8 := wideB_le hw
    obtain ⟨i, rfl⟩ : ∃ i : Nat, x = i := ⟨x.toNat, by omega⟩
    have HP := Lib.hid (puts_yes (b := l) (n := v) hw)
    rw [hw]
    go_wp2_with (first | (with_reducible refine hold_append ?_) | (with_reducible refine hold_make ?_) | (with_reducible refine hold_copy ?_))
    refine (rnumber_any v i w2 hv (by omega)).mono ?_
    rintro e w3 ⟨A3, c3, rfl, ho3, hB3⟩
    have ho13 : Own w3 w.heap.size 5 1 A1 n c1 (l.map u8v) := ho1.kept (row := none) ⟨hB3.os, hB3.tape, hB3.output, hB3.size, fun k hk _ => hB3.block k hk⟩ (by cases hv : (Value.slice A1 n c1).ownBlock <;> simp)
    have hB13 := hB1.trans (hB3.mono hz1)
    go_wp2_with (first | (with_reducible refine hold_append ?_) | (with_reducible refine hold_make ?_) | (with_reducible refine hold_copy ?_))
    refine unhold (wp_app slB rfl rfl rfl rfl ho13 ho3.rd (map_one _) (by omega) (by simp [maxLen]; omega) hB13.size ?_)
    intro A4 c4 w4 ho4 hg4 _
    have hB4 := hB13.grown hg4 hB13.size (fun g hg => (ho13.blk_lt hg).1)
    rw [← List.map_append] at ho4
    go_wp2_with (first | (with_reducible refine hold_append ?_) | (with_reducible refine hold_make ?_) | (with_reducible refine hold_copy ?_))
    go_ret
    rw [HP.out]
    simp only [List.length_append, be_length, Int.toNat_natCast, hl]
    exact ⟨A4, c4, by first | rfl | simp, ho4, hB4⟩
  · have hw' : wideB x = false := by simpa using hw
    have HP := Lib.hid (puts_no (b := l) (n := v) hw')
    rw [hw']
    go_wp2_with (first | (with_reducible refine hold_append ?_) | (with_reducible refine hold_make ?_) | (with_reducible refine hold_copy ?_))
    go_ret
    rw [HP.out, hl]
    exact ⟨A1, c1, rfl, ho1, hB1⟩

theorem most_any (w : World) (x : Int) (h : x = 1 ∨ x = 2 ∨ x = 4) : Calls Try.prog 27 #[.int .i64 x] w fun e w' => e = .returned (.int .i64 ((256 ^ x.toNat - 1 : Nat) : Int)) ∧ w' = w := by
  rcases h with rfl | rfl | rfl
  all_goals
    go_enter Try.func27, Try.ntmps27
    go_wp2_with (first | (with_reducible refine hold_append ?_) | (with_reducible refine hold_make ?_) | (with_reducible refine hold_copy ?_))
    go_ret
    exact ⟨rfl, rfl⟩

set_option maxHeartbeats 1000000 in
theorem rputtext_any (A : Option Addr) (n c : Nat) (l s : List UInt8) (x : Int) (w : World) (hb : RdB w w.heap.size A n c l) (hs : s.length ≤ 140737488351232) (hn : n ≤ 140737488351240) :
    Calls Try.prog 10 #[.slice A n c, .string (str s), .int .i64 x] w fun e w' => ∃ A2 c2, e = .returned (.tuple #[.slice A2 (putsText l s x).length c2, .int .i64 (textErr s.length x)]) ∧ Own w' w.heap.size 5 1 A2 (putsText l s x).length c2 ((putsText l s x).map u8v) ∧ Below w.heap.size w w' := by
  have hl := hb.length
  have hss := str_size s
  by_cases hw : x = 1 ∨ x = 2 ∨ x = 4
  · have hwide := wideB_yes (w := x) (by omega)
    by_cases hlen : s.length < 256 ^ x.toNat
    · have he : textErr s.length x = 0 := by unfold textErr; rw [if_pos hw, if_pos hlen]
      have hsl : s.length < 4294967296 := by
        rcases hw with rfl | rfl | rfl
        all_goals (simp at hlen; omega)
      have hcmp : ¬ ((256 ^ x.toNat - 1 : Nat) : Int) < (s.length : Int) := by
        have := Nat.pow_pos (n := x.toNat) (show 0 < 256 by omega)
        omega
      have hMx := most_any w x hw
      rw [he, putsText_ok he]
      have hpy := puts_yes (b := l) (n := s.length) hwide
      have hP := rput_any A n c l s.length x w hb (by omega) (by omega)
      rw [hpy] at hP
      have hbl : (l ++ be x.toNat s.length).length ≤ n + 8 := by
        rw [List.length_append, be_length, hl]
        have := wideB_le hwide
        omega
      generalize l ++ be x.toNat s.length = l2 at hP hbl ⊢
      generalize (256 ^ x.toNat - 1 : Nat) = M at hMx hcmp
      clear hpy hlen
      rcases hw with rfl | rfl | rfl
      all_goals
        go_enter Try.func10, Try.ntmps10
        go_wp2_with (first | (with_reducible refine hold_append ?_) | (with_reducible refine hold_make ?_) | (with_reducible refine hold_copy ?_))
        refine hMx.mono ?_
        rintro e w1 ⟨rfl, rfl⟩
        go_wp2_with (first | (with_reducible refine hold_append ?_) | (with_reducible refine hold_make ?_) | (with_reducible refine hold_copy ?_))
        refine hP.mono ?_
        rintro e w2 ⟨A2, c2, rfl, ho2, hB2⟩
        go_wp2_with (first | (with_reducible refine hold_append ?_) | (with_reducible refine hold_make ?_) | (with_reducible refine hold_copy ?_))
        refine unhold (wp_app_strW slB Try.underlying9 rfl rfl rfl rfl ho2 (by omega) (by omega) hB2.size ?_)
        intro A3 c3 w3 ho3 hg3
        have hB3 := hB2.grown hg3 hB2.size (fun g hg => (ho2.blk_lt hg).1)
        rw [← List.map_append] at ho3
        go_wp2_with (first | (with_reducible refine hold_append ?_) | (with_reducible refine hold_make ?_) | (with_reducible refine hold_copy ?_))
        go_ret2
        rw [List.length_append]
        exact ⟨A3, c3, by first | rfl | simp, ho3, hB3⟩
    · have he : textErr s.length x = 3 := by unfold textErr; rw [if_pos hw, if_neg hlen]
      have hcmp : ((256 ^ x.toNat - 1 : Nat) : Int) < (s.length : Int) := by
        have := Nat.pow_pos (n := x.toNat) (show 0 < 256 by omega)
        omega
      have hMx := most_any w x hw
      rw [he, putsText_err (by rw [he]; omega)]
      generalize (256 ^ x.toNat - 1 : Nat) = M at hMx hcmp
      clear hlen
      rcases hw with rfl | rfl | rfl
      all_goals
        go_enter Try.func10, Try.ntmps10
        go_wp2_with (first | (with_reducible refine hold_append ?_) | (with_reducible refine hold_make ?_) | (with_reducible refine hold_copy ?_))
        refine hMx.mono ?_
        rintro e w1 ⟨rfl, rfl⟩
        go_wp2_with (first | (with_reducible refine hold_append ?_) | (with_reducible refine hold_make ?_) | (with_reducible refine hold_copy ?_))
        go_ret2
        exact ⟨none, 0, rfl, Own.none_ _ _ _ _, Below.refl _ _⟩
  · have he : textErr s.length x = 2 := by unfold textErr; rw [if_neg hw]
    have b1 : (x != 1) = true := by simp; omega
    have b2 : (x != 2) = true := by simp; omega
    have b4 : (x != 4) = true := by simp; omega
    rw [he, putsText_err (by rw [he]; omega)]
    go_enter Try.func10, Try.ntmps10
    go_wp2_with (first | (with_reducible refine hold_append ?_) | (with_reducible refine hold_make ?_) | (with_reducible refine hold_copy ?_))
    go_ret2
    exact ⟨none, 0, rfl, Own.none_ _ _ _ _, Below.refl _ _⟩
end Go.PH

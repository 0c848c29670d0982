/- The walk of octet's PutText. -/
import Derived.Test.YtidpbbleneekgaaDoorOctPut
set_option linter.all false
set_option linter.unusedSimpArgs false
set_option linter.unusedVariables false
namespace Go.PH
open Go.RowKit Go.Proofs

theorem textErr_wide {n : Nat} {x : Int} (h : x = 8 ∨ wideB x = false) : textErr n x = 2 := by
  unfold textErr
  rw [if_neg]
  intro h'
  rcases h with rfl | h
  · omega
  · have := wideB_yes (w := x) (by omega)
    rw [h] at this; cases this
theorem putsText_err {l s : List UInt8} {x : Int} (h : textErr s.length x ≠ 0) : putsText l s x = [] := by unfold putsText; rw [if_neg h]
theorem putsText_ok {l s : List UInt8} {x : Int} (h : textErr s.length x = 0) : putsText l s x = l ++ be x.toNat s.length ++ s := by unfold putsText; rw [if_pos h]

set_option maxHeartbeats 1000000 in
theorem puttext_any (A : Option Addr) (n c : Nat) (l s : List UInt8) (x : Int) (w : World) (hb : RdB w w.heap.size A n c l) (hs : s.length ≤ 140737488351232) (hn : n ≤ 140737488351240) :
    Calls Tryd.prog 35 #[.slice A n c, .string (str s), .int .i64 x] w fun e w' => ∃ A2 c2, e = .returned (.tuple #[.slice A2 (putsText l s x).length c2, .int .i64 (textErr s.length x)]) ∧ Own w' w.heap.size 5 1 A2 (putsText l s x).length c2 ((putsText l s x).map u8v) ∧ Below w.heap.size w w' := by
  have hl := hb.length
  have hss := str_size s
  by_cases h8 : x = 8
  · rw [textErr_wide (.inl h8), putsText_err (by rw [textErr_wide (.inl h8)]; omega)]
    subst h8
    go_enter Tryd.func35, Tryd.ntmps35
    go_wp2_with (first | (with_reducible refine hold_append ?_) | (with_reducible refine hold_make ?_) | (with_reducible refine hold_copy ?_))
    go_ret2
    exact ⟨none, 0, rfl, Own.none_ _ _ _ _, Below.refl _ _⟩
  by_cases hw : wideB x = true
  · rcases (show x = 1 ∨ x = 2 ∨ x = 4 by rw [wideB_iff] at hw; omega) with rfl | rfl | rfl
    · by_cases hlen : s.length < 256
      · have he : textErr s.length 1 = 0 := by unfold textErr; simp; omega
        rw [he, putsText_ok he]
        have hz : (s.length : Int) / 256 = 0 := by omega
        simp only [List.length_append, be_length, show (1 : Int).toNat = 1 from rfl, hl]
        go_enter Tryd.func35, Tryd.ntmps35
        go_wp2_with (first | (with_reducible refine hold_append ?_) | (with_reducible refine hold_make ?_) | (with_reducible refine hold_copy ?_))
        refine (wide_any _ w).mono ?_
        rw [hw]
        rintro e w' ⟨rfl, rfl⟩
        go_wp2_with (first | (with_reducible refine hold_append ?_) | (with_reducible refine hold_make ?_) | (with_reducible refine hold_copy ?_))
        refine (number_any s.length 1 w' (by omega) (by omega) (by omega)).mono ?_
        rintro e w1 ⟨A1, rfl, ho1, hB1⟩
        go_wp2_with (first | (with_reducible refine hold_append ?_) | (with_reducible refine hold_make ?_) | (with_reducible refine hold_copy ?_))
        refine unhold (wp_app_str slB Tryd.underlying9 rfl rfl rfl rfl ho1 (by omega) hB1.size ?_)
        intro A2 c2 w2 ho2 hg2
        have hB2 : Below w'.heap.size w' w2 := hB1.grown hg2 hB1.size (fun g hg => (ho1.blk_lt hg).1)
        rw [← List.map_append] at ho2
        go_wp2_with (first | (with_reducible refine hold_append ?_) | (with_reducible refine hold_make ?_) | (with_reducible refine hold_copy ?_))
        refine (behind_any A n c l A2 (1 + s.length) c2 (be 1 s.length ++ s) w2 ((hb.below hB2).more hB2.size) ho2.rd (by omega)).mono ?_
        rintro e w3 ⟨A3, rfl, ho3, hB3⟩
        rw [← List.append_assoc] at ho3
        go_wp2_with (first | (with_reducible refine hold_append ?_) | (with_reducible refine hold_make ?_) | (with_reducible refine hold_copy ?_))
        go_ret2
        rw [Nat.add_assoc]
        exact ⟨A3, _, rfl, ho3.base_le hB2.size, hB2.trans (hB3.mono hB2.size)⟩
      · have he : textErr s.length 1 = 3 := by unfold textErr; simp; omega
        rw [he, putsText_err (by rw [he]; omega)]
        have hz : ((s.length : Int) / 256 != 0) = true := by simp; omega
        go_enter Tryd.func35, Tryd.ntmps35
        go_wp2_with (first | (with_reducible refine hold_append ?_) | (with_reducible refine hold_make ?_) | (with_reducible refine hold_copy ?_))
        refine (wide_any _ w).mono ?_
        rw [hw]
        rintro e w' ⟨rfl, rfl⟩
        go_wp2_with (first | (with_reducible refine hold_append ?_) | (with_reducible refine hold_make ?_) | (with_reducible refine hold_copy ?_))
        go_ret2
        exact ⟨none, 0, rfl, Own.none_ _ _ _ _, Below.refl _ _⟩
    · by_cases hlen : s.length < 65536
      · have he : textErr s.length 2 = 0 := by unfold textErr; simp; omega
        rw [he, putsText_ok he]
        have hz : (s.length : Int) / 65536 = 0 := by omega
        simp only [List.length_append, be_length, show (2 : Int).toNat = 2 from rfl, hl]
        go_enter Tryd.func35, Tryd.ntmps35
        go_wp2_with (first | (with_reducible refine hold_append ?_) | (with_reducible refine hold_make ?_) | (with_reducible refine hold_copy ?_))
        refine (wide_any _ w).mono ?_
        rw [hw]
        rintro e w' ⟨rfl, rfl⟩
        go_wp2_with (first | (with_reducible refine hold_append ?_) | (with_reducible refine hold_make ?_) | (with_reducible refine hold_copy ?_))
        refine (number_any s.length 2 w' (by omega) (by omega) (by omega)).mono ?_
        rintro e w1 ⟨A1, rfl, ho1, hB1⟩
        go_wp2_with (first | (with_reducible refine hold_append ?_) | (with_reducible refine hold_make ?_) | (with_reducible refine hold_copy ?_))
        refine unhold (wp_app_str slB Tryd.underlying9 rfl rfl rfl rfl ho1 (by omega) hB1.size ?_)
        intro A2 c2 w2 ho2 hg2
        have hB2 : Below w'.heap.size w' w2 := hB1.grown hg2 hB1.size (fun g hg => (ho1.blk_lt hg).1)
        rw [← List.map_append] at ho2
        go_wp2_with (first | (with_reducible refine hold_append ?_) | (with_reducible refine hold_make ?_) | (with_reducible refine hold_copy ?_))
        refine (behind_any A n c l A2 (2 + s.length) c2 (be 2 s.length ++ s) w2 ((hb.below hB2).more hB2.size) ho2.rd (by omega)).mono ?_
        rintro e w3 ⟨A3, rfl, ho3, hB3⟩
        rw [← List.append_assoc] at ho3
        go_wp2_with (first | (with_reducible refine hold_append ?_) | (with_reducible refine hold_make ?_) | (with_reducible refine hold_copy ?_))
        go_ret2
        rw [Nat.add_assoc]
        exact ⟨A3, _, rfl, ho3.base_le hB2.size, hB2.trans (hB3.mono hB2.size)⟩
      · have he : textErr s.length 2 = 3 := by unfold textErr; simp; omega
        rw [he, putsText_err (by rw [he]; omega)]
        have hz : ((s.length : Int) / 65536 != 0) = true := by simp; omega
        go_enter Tryd.func35, Tryd.ntmps35
        go_wp2_with (first | (with_reducible refine hold_append ?_) | (with_reducible refine hold_make ?_) | (with_reducible refine hold_copy ?_))
        refine (wide_any _ w).mono ?_
        rw [hw]
        rintro e w' ⟨rfl, rfl⟩
        go_wp2_with (first | (with_reducible refine hold_append ?_) | (with_reducible refine hold_make ?_) | (with_reducible refine hold_copy ?_))
        go_ret2
        exact ⟨none, 0, rfl, Own.none_ _ _ _ _, Below.refl _ _⟩
    · by_cases hlen : s.length < 4294967296
      · have he : textErr s.length 4 = 0 := by unfold textErr; simp; omega
        rw [he, putsText_ok he]
        have hz : (s.length : Int) / 4294967296 = 0 := by omega
        simp only [List.length_append, be_length, show (4 : Int).toNat = 4 from rfl, hl]
        go_enter Tryd.func35, Tryd.ntmps35
        go_wp2_with (first | (with_reducible refine hold_append ?_) | (with_reducible refine hold_make ?_) | (with_reducible refine hold_copy ?_))
        refine (wide_any _ w).mono ?_
        rw [hw]
        rintro e w' ⟨rfl, rfl⟩
        go_wp2_with (first | (with_reducible refine hold_append ?_) | (with_reducible refine hold_make ?_) | (with_reducible refine hold_copy ?_))
        refine (number_any s.length 4 w' (by omega) (by omega) (by omega)).mono ?_
        rintro e w1 ⟨A1, rfl, ho1, hB1⟩
        go_wp2_with (first | (with_reducible refine hold_append ?_) | (with_reducible refine hold_make ?_) | (with_reducible refine hold_copy ?_))
        refine unhold (wp_app_str slB Tryd.underlying9 rfl rfl rfl rfl ho1 (by omega) hB1.size ?_)
        intro A2 c2 w2 ho2 hg2
        have hB2 : Below w'.heap.size w' w2 := hB1.grown hg2 hB1.size (fun g hg => (ho1.blk_lt hg).1)
        rw [← List.map_append] at ho2
        go_wp2_with (first | (with_reducible refine hold_append ?_) | (with_reducible refine hold_make ?_) | (with_reducible refine hold_copy ?_))
        refine (behind_any A n c l A2 (4 + s.length) c2 (be 4 s.length ++ s) w2 ((hb.below hB2).more hB2.size) ho2.rd (by omega)).mono ?_
        rintro e w3 ⟨A3, rfl, ho3, hB3⟩
        rw [← List.append_assoc] at ho3
        go_wp2_with (first | (with_reducible refine hold_append ?_) | (with_reducible refine hold_make ?_) | (with_reducible refine hold_copy ?_))
        go_ret2
        rw [Nat.add_assoc]
        exact ⟨A3, _, rfl, ho3.base_le hB2.size, hB2.trans (hB3.mono hB2.size)⟩
      · have he : textErr s.length 4 = 3 := by unfold textErr; simp; omega
        rw [he, putsText_err (by rw [he]; omega)]
        have hz : ((s.length : Int) / 4294967296 != 0) = true := by simp; omega
        go_enter Tryd.func35, Tryd.ntmps35
        go_wp2_with (first | (with_reducible refine hold_append ?_) | (with_reducible refine hold_make ?_) | (with_reducible refine hold_copy ?_))
        refine (wide_any _ w).mono ?_
        rw [hw]
        rintro e w' ⟨rfl, rfl⟩
        go_wp2_with (first | (with_reducible refine hold_append ?_) | (with_reducible refine hold_make ?_) | (with_reducible refine hold_copy ?_))
        go_ret2
        exact ⟨none, 0, rfl, Own.none_ _ _ _ _, Below.refl _ _⟩
  · have hw' : wideB x = false := by simpa using hw
    rw [textErr_wide (.inr hw'), putsText_err (by rw [textErr_wide (.inr hw')]; omega)]
    go_enter Tryd.func35, Tryd.ntmps35
    go_wp2_with (first | (with_reducible refine hold_append ?_) | (with_reducible refine hold_make ?_) | (with_reducible refine hold_copy ?_))
    refine (wide_any x w).mono ?_
    rw [hw']
    rintro e w' ⟨rfl, rfl⟩
    go_wp2_with (first | (with_reducible refine hold_append ?_) | (with_reducible refine hold_make ?_) | (with_reducible refine hold_copy ?_))
    go_ret2
    exact ⟨none, 0, rfl, Own.none_ _ _ _ _, Below.refl _ _⟩
end Go.PH

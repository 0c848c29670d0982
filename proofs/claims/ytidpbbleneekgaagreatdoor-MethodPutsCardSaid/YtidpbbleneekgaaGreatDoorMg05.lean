/- Texts laid together: OctRefNum, OctRefPut, SpMath, SpMath2, SpMath3, SpMath4, SpMath5. -/
import Derived.Test.YtidpbbleneekgaaGreatDoorMg01
import Derived.Test.YtidpbbleneekgaaGreatDoorMg03
section
/- The walk of the reference's Number. -/
set_option linter.all false
set_option linter.unusedSimpArgs false
set_option linter.unusedVariables false
namespace Go.PH
open Go.RowKit Go.Proofs

theorem be_div (n k : Nat) : UInt8.ofNat (n / 256 ^ k) = UInt8.ofNat ((n / 256 ^ k) % 256) := by
  apply UInt8.toNat_inj.1
  simp
set_option maxHeartbeats 1000000 in
theorem rnumber_any (n i : Nat) (w : World) (hn : n < 18446744073709551616) (hi8 : i ≤ 8) :
    Calls Tryz.prog 70 #[.int .u64 n, .int .i64 i] w fun e w' => ∃ A2 c2, e = .returned (.slice A2 i c2) ∧ Own w' w.heap.size 5 1 A2 i c2 ((be i n).map u8v) ∧ Below w.heap.size w w' := by
  go_enter Tryz.func70, Tryz.ntmps70
  go_wp2_with (first | (with_reducible refine hold_append ?_) | (with_reducible refine hold_make ?_) | (with_reducible refine hold_copy ?_))
  go_loopw [6, 5, 0] (fun x v s wr => ∃ (k c2 m : Nat) (A2 : Option Addr), k ≤ i ∧ x = .int .i64 k ∧ v = .slice A2 k c2 ∧ s = .int .u64 (m : Nat) ∧ m = n / 256 ^ k ∧ m < 18446744073709551616 ∧ Own wr w.heap.size 5 1 A2 k c2 ((be k n).map u8v) ∧ Below w.heap.size w wr) (fun x _ _ _ => i - (RowKit.intOf x).toNat)
  case atStart => exact ⟨0, 0, n, none, by omega, rfl, rfl, rfl, by simp, hn, by simpa [be] using Own.none_ _ _ _ _, Below.refl _ _⟩
  case round =>
    obtain ⟨k, c2, m, A2, hk, rfl, rfl, rfl, hm, hm64, ho, hB⟩ := hrel
    have HM := Lib.hid hm
    clear hm
    by_cases hlt : k < i
    · have hlit := own_lit (w := wr) wr.heap.size #[Value.int .u8 ((m : Int) % 256)] 5 1 (Nat.le_refl _) (by simp [maxLen]) rfl (size := 1) (by omega)
      have hB1 : Below w.heap.size w (wr.alloc (.cells #[Value.int .u8 ((m : Int) % 256)] 5)) := hB.alloc hB.size _
      have hr1 := Own.rd (base := w.heap.size) (e := 5) (ho.alloc (.cells #[Value.int .u8 ((m : Int) % 256)] 5))
      go_wp2_with (first | (with_reducible refine hold_append ?_) | (with_reducible refine hold_make ?_) | (with_reducible refine hold_copy ?_))
      refine unhold (wp_app (base := wr.heap.size) slB rfl rfl rfl rfl hlit hr1 (map_one _) (by omega) (by simp [maxLen]; omega) (by simp) ?_)
      intro A3 c3 w3 ho3 hg3 _
      have hB3 : Below w.heap.size w w3 := hB1.grown hg3 (by have := hB.size; simp; omega) (fun g hg => by have := (hlit.blk_lt hg).1; have := hB.size; omega)
      have e3 : ((#[Value.int .u8 ((m : Int) % 256)] : Array Value).toList ++ (be k n).map u8v) = (be (k + 1) n).map u8v := by
        simp only [be, List.map_cons, u8v, List.cons_append, List.nil_append]
        rw [HM.out]
        simp
      rw [e3, Nat.add_comm] at ho3
      have ho3' := ho3.base_le hB.size
      have hmq : m / 256 = n / 256 ^ (k + 1) := by rw [HM.out, Nat.div_div_eq_div_mul, Nat.pow_succ]
      have HMQ := Lib.hid hmq
      clear hmq e3
      go_wp2_with (first | (with_reducible refine hold_append ?_) | (with_reducible refine hold_make ?_) | (with_reducible refine hold_copy ?_))
      exact ⟨⟨k + 1, c3, m / 256, A3, by omega, by go_num, by simp [Nat.add_comm], by first | rfl | simp, HMQ.out, by omega, ho3', hB3⟩, by simp [RowKit.intOf]; omega⟩
    · obtain rfl : k = i := by omega
      go_wp2_with (first | (with_reducible refine hold_append ?_) | (with_reducible refine hold_make ?_) | (with_reducible refine hold_copy ?_))
      go_ret
      exact ⟨A2, c2, rfl, ho, hB⟩

end Go.PH
end
section
/- The walks of the reference's Put and PutText. -/
set_option linter.all false
set_option linter.unusedSimpArgs false
set_option linter.unusedVariables false
namespace Go.PH
open Go.RowKit Go.Proofs

set_option maxHeartbeats 1000000 in
theorem rput_any (A : Option Addr) (n c : Nat) (l : List UInt8) (v : Nat) (x : Int) (w : World) (hb : RdB w w.heap.size A n c l) (hv : v < 18446744073709551616) (hn : n ≤ 140737488355320) :
    Calls Tryz.prog 105 #[.slice A n c, .int .u64 v, .int .i64 x] w fun e w' => ∃ A2 c2, e = .returned (.slice A2 (puts l v x).length c2) ∧ Own w' w.heap.size 5 1 A2 (puts l v x).length c2 ((puts l v x).map u8v) ∧ Below w.heap.size w w' := by
  have hl := hb.length
  go_enter Tryz.func105, Tryz.ntmps105
  go_wp2_with (first | (with_reducible refine hold_append ?_) | (with_reducible refine hold_make ?_) | (with_reducible refine hold_copy ?_))
  refine unhold (wp_app slB rfl rfl rfl rfl (Own.none_ w w.heap.size _ _) hb (map_one _) (by omega) (by simp [maxLen]; omega) (Nat.le_refl _) ?_)
  intro A1 c1 w1 ho1 hg1 _
  have hB1 : Below w.heap.size w w1 := (Below.refl _ _).grown hg1 (Nat.le_refl _) (by simp [blk])
  simp only [Nat.zero_add, List.nil_append] at ho1
  have hz1 := hB1.size
  go_wp2_with (first | (with_reducible refine hold_append ?_) | (with_reducible refine hold_make ?_) | (with_reducible refine hold_copy ?_))
  refine (rwidth_any x w1).mono ?_
  rintro e w2 ⟨rfl, rfl⟩
  by_cases hw : wideB x = true
  · have h8 := wideB_le hw
    obtain ⟨i, rfl⟩ : ∃ i : Nat, x = i := ⟨x.toNat, by omega⟩
    have HP := Lib.hid (puts_yes (b := l) (n := v) hw)
    rw [hw]
    go_wp2_with (first | (with_reducible refine hold_append ?_) | (with_reducible refine hold_make ?_) | (with_reducible refine hold_copy ?_))
    refine (rnumber_any v i w2 hv (by omega)).mono ?_
    rintro e w3 ⟨A3, c3, rfl, ho3, hB3⟩
    have ho13 : Own w3 w.heap.size 5 1 A1 n c1 (l.map u8v) := ho1.kept (row := none) ⟨hB3.os, hB3.tape, hB3.output, hB3.size, fun k hk _ => hB3.block k hk⟩ (by cases hv : (Value.slice A1 n c1).ownBlock <;> simp)
    have hB13 := hB1.trans (hB3.mono hz1)
    go_wp2_with (first | (with_reducible refine hold_append ?_) | (with_reducible refine hold_make ?_) | (with_reducible refine hold_copy ?_))
    refine unhold (wp_app slB rfl rfl rfl rfl ho13 ho3.rd (map_one _) (by omega) (by simp [maxLen]; omega) hB13.size ?_)
    intro A4 c4 w4 ho4 hg4 _
    have hB4 := hB13.grown hg4 hB13.size (fun g hg => (ho13.blk_lt hg).1)
    rw [← List.map_append] at ho4
    go_wp2_with (first | (with_reducible refine hold_append ?_) | (with_reducible refine hold_make ?_) | (with_reducible refine hold_copy ?_))
    go_ret
    rw [HP.out]
    simp only [List.length_append, be_length, Int.toNat_natCast, hl]
    exact ⟨A4, c4, by first | rfl | simp, ho4, hB4⟩
  · have hw' : wideB x = false := by simpa using hw
    have HP := Lib.hid (puts_no (b := l) (n := v) hw')
    rw [hw']
    go_wp2_with (first | (with_reducible refine hold_append ?_) | (with_reducible refine hold_make ?_) | (with_reducible refine hold_copy ?_))
    go_ret
    rw [HP.out, hl]
    exact ⟨A1, c1, rfl, ho1, hB1⟩

theorem most_any (w : World) (x : Int) (h : x = 1 ∨ x = 2 ∨ x = 4) : Calls Tryz.prog 104 #[.int .i64 x] w fun e w' => e = .returned (.int .i64 ((256 ^ x.toNat - 1 : Nat) : Int)) ∧ w' = w := by
  rcases h with rfl | rfl | rfl
  all_goals
    go_enter Tryz.func104, Tryz.ntmps104
    go_wp2_with (first | (with_reducible refine hold_append ?_) | (with_reducible refine hold_make ?_) | (with_reducible refine hold_copy ?_))
    go_ret
    exact ⟨rfl, rfl⟩

set_option maxHeartbeats 1000000 in
theorem rputtext_any (A : Option Addr) (n c : Nat) (l s : List UInt8) (x : Int) (w : World) (hb : RdB w w.heap.size A n c l) (hs : s.length ≤ 140737488351232) (hn : n ≤ 140737488351240) :
    Calls Tryz.prog 71 #[.slice A n c, .string (str s), .int .i64 x] w fun e w' => ∃ A2 c2, e = .returned (.tuple #[.slice A2 (putsText l s x).length c2, .int .i64 (textErr s.length x)]) ∧ Own w' w.heap.size 5 1 A2 (putsText l s x).length c2 ((putsText l s x).map u8v) ∧ Below w.heap.size w w' := by
  have hl := hb.length
  have hss := str_size s
  by_cases hw : x = 1 ∨ x = 2 ∨ x = 4
  · have hwide := wideB_yes (w := x) (by omega)
    by_cases hlen : s.length < 256 ^ x.toNat
    · have he : textErr s.length x = 0 := by unfold textErr; rw [if_pos hw, if_pos hlen]
      have hsl : s.length < 4294967296 := by
        rcases hw with rfl | rfl | rfl
        all_goals (simp at hlen; omega)
      have hcmp : ¬ ((256 ^ x.toNat - 1 : Nat) : Int) < (s.length : Int) := by
        have := Nat.pow_pos (n := x.toNat) (show 0 < 256 by omega)
        omega
      have hMx := most_any w x hw
      rw [he, putsText_ok he]
      have hpy := puts_yes (b := l) (n := s.length) hwide
      have hP := rput_any A n c l s.length x w hb (by omega) (by omega)
      rw [hpy] at hP
      have hbl : (l ++ be x.toNat s.length).length ≤ n + 8 := by
        rw [List.length_append, be_length, hl]
        have := wideB_le hwide
        omega
      generalize l ++ be x.toNat s.length = l2 at hP hbl ⊢
      generalize (256 ^ x.toNat - 1 : Nat) = M at hMx hcmp
      clear hpy hlen
      rcases hw with rfl | rfl | rfl
      all_goals
        go_enter Tryz.func71, Tryz.ntmps71
        go_wp2_with (first | (with_reducible refine hold_append ?_) | (with_reducible refine hold_make ?_) | (with_reducible refine hold_copy ?_))
        refine hMx.mono ?_
        rintro e w1 ⟨rfl, rfl⟩
        go_wp2_with (first | (with_reducible refine hold_append ?_) | (with_reducible refine hold_make ?_) | (with_reducible refine hold_copy ?_))
        refine hP.mono ?_
        rintro e w2 ⟨A2, c2, rfl, ho2, hB2⟩
        go_wp2_with (first | (with_reducible refine hold_append ?_) | (with_reducible refine hold_make ?_) | (with_reducible refine hold_copy ?_))
        refine unhold (wp_app_strW slB Tryz.underlying9 rfl rfl rfl rfl ho2 (by omega) (by omega) hB2.size ?_)
        intro A3 c3 w3 ho3 hg3
        have hB3 := hB2.grown hg3 hB2.size (fun g hg => (ho2.blk_lt hg).1)
        rw [← List.map_append] at ho3
        go_wp2_with (first | (with_reducible refine hold_append ?_) | (with_reducible refine hold_make ?_) | (with_reducible refine hold_copy ?_))
        go_ret2
        rw [List.length_append]
        exact ⟨A3, c3, by first | rfl | simp, ho3, hB3⟩
    · have he : textErr s.length x = 3 := by unfold textErr; rw [if_pos hw, if_neg hlen]
      have hcmp : ((256 ^ x.toNat - 1 : Nat) : Int) < (s.length : Int) := by
        have := Nat.pow_pos (n := x.toNat) (show 0 < 256 by omega)
        omega
      have hMx := most_any w x hw
      rw [he, putsText_err (by rw [he]; omega)]
      generalize (256 ^ x.toNat - 1 : Nat) = M at hMx hcmp
      clear hlen
      rcases hw with rfl | rfl | rfl
      all_goals
        go_enter Tryz.func71, Tryz.ntmps71
        go_wp2_with (first | (with_reducible refine hold_append ?_) | (with_reducible refine hold_make ?_) | (with_reducible refine hold_copy ?_))
        refine hMx.mono ?_
        rintro e w1 ⟨rfl, rfl⟩
        go_wp2_with (first | (with_reducible refine hold_append ?_) | (with_reducible refine hold_make ?_) | (with_reducible refine hold_copy ?_))
        go_ret2
        exact ⟨none, 0, rfl, Own.none_ _ _ _ _, Below.refl _ _⟩
  · have he : textErr s.length x = 2 := by unfold textErr; rw [if_neg hw]
    have b1 : (x != 1) = true := by simp; omega
    have b2 : (x != 2) = true := by simp; omega
    have b4 : (x != 4) = true := by simp; omega
    rw [he, putsText_err (by rw [he]; omega)]
    go_enter Tryz.func71, Tryz.ntmps71
    go_wp2_with (first | (with_reducible refine hold_append ?_) | (with_reducible refine hold_make ?_) | (with_reducible refine hold_copy ?_))
    go_ret2
    exact ⟨none, 0, rfl, Own.none_ _ _ _ _, Below.refl _ _⟩
end Go.PH
end
section
/- Rows of spans as plain mathematics: a right row is told by its members. No program in sight. -/
namespace Go.PH

abbrev Sp := Nat × Nat
/-- a row is right: each span the right way round, a gap ahead of each but the first -/
def spRight : List Sp → Bool
  | [] => true
  | [a] => decide (a.1 ≤ a.2)
  | a :: b :: l => decide (a.1 ≤ a.2) && decide (a.2 + 2 ≤ b.1) && spRight (b :: l)
def spIn (l : List Sp) (n : Nat) : Bool := l.any fun a => decide (a.1 ≤ n) && decide (n ≤ a.2)
theorem spRight_tail {a : Sp} {l : List Sp} (h : spRight (a :: l) = true) : spRight l = true := by
  cases l with
  | nil => rfl
  | cons b l => simp [spRight] at h; exact h.2
theorem spRight_head {a : Sp} {l : List Sp} (h : spRight (a :: l) = true) : a.1 ≤ a.2 := by
  cases l with
  | nil => simpa [spRight] using h
  | cons b l => simp [spRight] at h; exact h.1.1
/-- whoever is in the tail lies past the head and a gap -/
theorem spRight_far {a : Sp} {l : List Sp} (h : spRight (a :: l) = true) {n : Nat} (hn : spIn l n = true) : a.2 + 2 ≤ n := by
  induction l generalizing a with
  | nil => simp [spIn] at hn
  | cons b l ih =>
    simp [spRight] at h
    obtain ⟨⟨h1, h2⟩, h3⟩ := h
    simp only [spIn, List.any_cons, Bool.or_eq_true, Bool.and_eq_true, decide_eq_true_eq] at hn
    rcases hn with hn | hn
    · omega
    · have := ih h3 hn
      have := spRight_head h3
      omega
/-- right rows with the same members are the same -/
theorem spRight_ext : ∀ {a b : List Sp}, spRight a = true → spRight b = true → (∀ n, spIn a n = spIn b n) → a = b := by
  intro a
  induction a with
  | nil =>
    intro b _ hb h
    cases b with
    | nil => rfl
    | cons y b =>
      have h1 := h y.1
      have := spRight_head hb
      simp [spIn] at h1
      have := h1.1
      omega
  | cons x a ih =>
    intro b ha hb h
    cases b with
    | nil =>
      have h1 := h x.1
      have := spRight_head ha
      simp [spIn] at h1
      have := h1.1
      omega
    | cons y b =>
      have hx := spRight_head ha
      have hy := spRight_head hb
      have mem : ∀ (z : Sp) (l : List Sp) (n : Nat), spIn (z :: l) n = true ↔ ((z.1 ≤ n ∧ n ≤ z.2) ∨ spIn l n = true) := fun z l n => by simp [spIn]
      have low : ∀ n, spIn (x :: a) n = true → x.1 ≤ n := fun n hn => by
        rcases (mem _ _ _).1 hn with h1 | h1
        · exact h1.1
        · have := spRight_far ha h1; omega
      have low' : ∀ n, spIn (y :: b) n = true → y.1 ≤ n := fun n hn => by
        rcases (mem _ _ _).1 hn with h1 | h1
        · exact h1.1
        · have := spRight_far hb h1; omega
      have h1 : x.1 = y.1 := by
        have e1 := low' x.1 (by rw [← h]; exact (mem _ _ _).2 (.inl ⟨Nat.le_refl _, hx⟩))
        have e2 := low y.1 (by rw [h]; exact (mem _ _ _).2 (.inl ⟨Nat.le_refl _, hy⟩))
        omega
      have h2 : x.2 = y.2 := by
        rcases Nat.lt_trichotomy x.2 y.2 with hlt | he | hlt
        · have e1 : spIn (x :: a) (x.2 + 1) = true := by rw [h]; exact (mem _ _ _).2 (.inl ⟨by omega, by omega⟩)
          rcases (mem _ _ _).1 e1 with h3 | h3
          · omega
          · have := spRight_far ha h3; omega
        · exact he
        · have e1 : spIn (y :: b) (y.2 + 1) = true := by rw [← h]; exact (mem _ _ _).2 (.inl ⟨by omega, by omega⟩)
          rcases (mem _ _ _).1 e1 with h3 | h3
          · omega
          · have := spRight_far hb h3; omega
      have hxy : x = y := Prod.ext h1 h2
      subst hxy
      congr 1
      refine ih (spRight_tail ha) (spRight_tail hb) fun n => ?_
      have h3 := h n
      rcases Nat.lt_or_ge n (x.2 + 1) with hn | hn
      · have n1 : spIn a n = false := by
          rcases hb1 : spIn a n with _ | _
          · rfl
          · have := spRight_far ha hb1; omega
        have n2 : spIn b n = false := by
          rcases hb1 : spIn b n with _ | _
          · rfl
          · have := spRight_far hb hb1; omega
        rw [n1, n2]
      · have e1 : (decide (x.1 ≤ n) && decide (n ≤ x.2)) = false := by simp; omega
        simpa [spIn, e1] using h3
end Go.PH
end
section
/- Adding to, and cutting out of, a right row, as plain mathematics. -/
set_option linter.all false
set_option linter.unusedSimpArgs false
set_option linter.unusedVariables false
namespace Go.PH

/-- what the loop of Add does behind the place: spans that touch are taken into s -/
def spTake (s : Sp) (t : Nat) : List Sp → Sp × List Sp
  | [] => (s, [])
  | a :: l => if a.1 ≤ t + 1 then spTake (min s.1 a.1, max s.2 a.2) t l else (s, a :: l)
/-- Add: the spans that end ahead of f - 1 stay -/
def spAdd (f t : Nat) : List Sp → List Sp
  | [] => [(f, t)]
  | a :: l => if a.2 < f - 1 then a :: spAdd f t l else (spTake (f, t) t (a :: l)).1 :: (spTake (f, t) t (a :: l)).2
/-- Cut -/
def spCut (f t : Nat) : List Sp → List Sp
  | [] => []
  | a :: l => (if a.2 < f ∨ t < a.1 then [a] else (if a.1 < f then [(a.1, f - 1)] else []) ++ (if t < a.2 then [(t + 1, a.2)] else [])) ++ spCut f t l

theorem spIn_cons (a : Sp) (l : List Sp) (n : Nat) : spIn (a :: l) n = true ↔ ((a.1 ≤ n ∧ n ≤ a.2) ∨ spIn l n = true) := by simp [spIn]
theorem spIn_app (a b : List Sp) (n : Nat) : spIn (a ++ b) n = true ↔ (spIn a n = true ∨ spIn b n = true) := by simp [spIn]
theorem spCut_in (f t : Nat) (hft : f ≤ t) (l : List Sp) (n : Nat) : spIn (spCut f t l) n = true ↔ (spIn l n = true ∧ ¬ (f ≤ n ∧ n ≤ t)) := by
  induction l with
  | nil => simp [spCut, spIn]
  | cons a l ih =>
    rw [spCut, spIn_app, ih, spIn_cons]
    have key : spIn (if a.2 < f ∨ t < a.1 then [a] else (if a.1 < f then [(a.1, f - 1)] else []) ++ (if t < a.2 then [(t + 1, a.2)] else [])) n = true ↔ ((a.1 ≤ n ∧ n ≤ a.2) ∧ ¬ (f ≤ n ∧ n ≤ t)) := by
      split
      · simp [spIn]; omega
      · rw [spIn_app]
        split <;> split <;> simp [spIn] <;> omega
    rw [key]
    constructor
    · rintro (⟨h1, h2⟩ | ⟨h1, h2⟩)
      · exact ⟨.inl h1, h2⟩
      · exact ⟨.inr h1, h2⟩
    · rintro ⟨h1 | h1, h2⟩
      · exact .inl ⟨h1, h2⟩
      · exact .inr ⟨h1, h2⟩
/-- a row is right behind a number: its first span begins at m or later -/
def spFrom (m : Nat) : List Sp → Prop
  | [] => True
  | a :: _ => m ≤ a.1
theorem spRight_cons {a : Sp} {l : List Sp} : spRight (a :: l) = true ↔ (a.1 ≤ a.2 ∧ spFrom (a.2 + 2) l ∧ spRight l = true) := by
  cases l with
  | nil => simp [spRight, spFrom]
  | cons b l => simp [spRight, spFrom, and_assoc]
theorem spCut_right (f t : Nat) (hft : f ≤ t) (l : List Sp) (h : spRight l = true) : spRight (spCut f t l) = true ∧ ∀ m, spFrom m l → spFrom m (spCut f t l) := by
  induction l with
  | nil => exact ⟨rfl, fun m h => h⟩
  | cons a l ih =>
    obtain ⟨h1, h2, h3⟩ := spRight_cons.1 h
    obtain ⟨i1, i2⟩ := ih h3
    have i3 := i2 _ h2
    have wk : ∀ m, m ≤ a.2 + 2 → spFrom m (spCut f t l) := fun m hm => by
      cases hc : spCut f t l with
      | nil => trivial
      | cons b r => rw [hc] at i3; simp only [spFrom] at i3 ⊢; omega
    rw [spCut]
    split
    · exact ⟨spRight_cons.2 ⟨h1, i3, i1⟩, fun m hm => hm⟩
    · split <;> split
      · refine ⟨?_, fun m hm => hm⟩
        simp only [List.cons_append, List.nil_append]
        exact spRight_cons.2 ⟨by simp; omega, by simp [spFrom]; omega, spRight_cons.2 ⟨by simp; omega, wk _ (by simp), i1⟩⟩
      · refine ⟨?_, fun m hm => hm⟩
        simp only [List.cons_append, List.nil_append]
        exact spRight_cons.2 ⟨by simp; omega, wk _ (by simp; omega), i1⟩
      · refine ⟨?_, fun m hm => ?_⟩
        · simp only [List.cons_append, List.nil_append]
          exact spRight_cons.2 ⟨by simp; omega, wk _ (by simp), i1⟩
        · simp only [List.cons_append, List.nil_append, spFrom] at hm ⊢
          omega
      · refine ⟨by simpa using i1, fun m hm => ?_⟩
        simp only [List.nil_append]
        exact wk m (by simp only [spFrom] at hm; omega)
end Go.PH
end
section
/- What Add tells: a right row with the numbers put in. -/
set_option linter.all false
set_option linter.unusedSimpArgs false
set_option linter.unusedVariables false
namespace Go.PH

theorem spTake_in (t : Nat) : ∀ (l : List Sp) (s : Sp), spRight l = true → s.1 ≤ s.2 → t ≤ s.2 → (∀ n, spIn l n = true → s.1 ≤ n + 1) → (s.2 = t ∨ spFrom (s.2 + 2) l) →
    ∀ n, spIn ((spTake s t l).1 :: (spTake s t l).2) n = true ↔ ((s.1 ≤ n ∧ n ≤ s.2) ∨ spIn l n = true) := by
  intro l
  induction l with
  | nil => intro s _ _ _ _ _ n; simp [spTake, spIn]
  | cons a l ih =>
    intro s hr hs ht hlow hcase n
    obtain ⟨h1, h2, h3⟩ := spRight_cons.1 hr
    rw [spTake]
    split
    · rename_i hle
      have ha := hlow a.1 ((spIn_cons _ _ _).2 (.inl ⟨Nat.le_refl _, h1⟩))
      have hst : s.2 = t := by
        rcases hcase with h | h
        · exact h
        · simp only [spFrom] at h; omega
      have hfar : ∀ n, spIn l n = true → a.2 + 2 ≤ n := fun n hn => spRight_far hr hn
      have := ih (min s.1 a.1, max s.2 a.2) h3 (by simp; omega) (by simp; omega) (fun n hn => by have := hfar n hn; simp; omega) (by
        simp only
        rcases Nat.le_total a.2 s.2 with hq | hq
        · left; omega
        · right; rw [Nat.max_eq_right hq]; exact h2) n
      rw [this, spIn_cons]
      simp only
      constructor
      · rintro (h | h)
        · by_cases h4 : s.1 ≤ n ∧ n ≤ s.2
          · exact .inl h4
          · right; left; omega
        · exact .inr (.inr h)
      · rintro (h | h | h)
        · left; omega
        · left; omega
        · exact .inr h
    · rw [spIn_cons]
theorem spTake_right (t : Nat) : ∀ (l : List Sp) (s : Sp), spRight l = true → s.1 ≤ s.2 → t ≤ s.2 → (s.2 = t ∨ spFrom (s.2 + 2) l) →
    spRight ((spTake s t l).1 :: (spTake s t l).2) = true ∧ ∀ m, m ≤ s.1 → spFrom m l → m ≤ (spTake s t l).1.1 := by
  intro l
  induction l with
  | nil => intro s _ hs _ _; exact ⟨spRight_cons.2 ⟨hs, trivial, rfl⟩, fun m hm _ => hm⟩
  | cons a l ih =>
    intro s hr hs ht hcase
    obtain ⟨h1, h2, h3⟩ := spRight_cons.1 hr
    rw [spTake]
    split
    · rename_i hle
      have hst : s.2 = t := by
        rcases hcase with h | h
        · exact h
        · simp only [spFrom] at h; omega
      obtain ⟨i1, i2⟩ := ih (min s.1 a.1, max s.2 a.2) h3 (by simp; omega) (by simp; omega) (by
        simp only
        rcases Nat.le_total a.2 s.2 with hq | hq
        · left; omega
        · right; rw [Nat.max_eq_right hq]; exact h2)
      refine ⟨i1, fun m hm hf => i2 m (by simp only [spFrom] at hf; simp; omega) ?_⟩
      simp only [spFrom] at hf
      cases l with
      | nil => trivial
      | cons b l => simp only [spFrom] at h2 ⊢; omega
    · rename_i hle
      refine ⟨spRight_cons.2 ⟨hs, ?_, hr⟩, fun m hm _ => hm⟩
      rcases hcase with h | h
      · simp only [spFrom]; omega
      · exact h
theorem spAdd_right (f t : Nat) (hft : f ≤ t) (l : List Sp) (hr : spRight l = true) : spRight (spAdd f t l) = true ∧ ∀ m, m ≤ f → spFrom m l → spFrom m (spAdd f t l) := by
  induction l with
  | nil => exact ⟨spRight_cons.2 ⟨hft, trivial, rfl⟩, fun m hm _ => hm⟩
  | cons a l ih =>
    obtain ⟨h1, h2, h3⟩ := spRight_cons.1 hr
    rw [spAdd]
    split
    · rename_i hlt
      obtain ⟨i1, i2⟩ := ih h3
      exact ⟨spRight_cons.2 ⟨h1, i2 _ (by omega) h2, i1⟩, fun m _ hm => hm⟩
    · obtain ⟨i1, i2⟩ := spTake_right t (a :: l) (f, t) hr hft (Nat.le_refl _) (.inl rfl)
      exact ⟨i1, fun m hm hf => i2 m hm hf⟩
theorem spAdd_in (f t : Nat) (hft : f ≤ t) (l : List Sp) (hr : spRight l = true) (n : Nat) : spIn (spAdd f t l) n = true ↔ ((f ≤ n ∧ n ≤ t) ∨ spIn l n = true) := by
  induction l with
  | nil => simp [spAdd, spIn]
  | cons a l ih =>
    obtain ⟨h1, h2, h3⟩ := spRight_cons.1 hr
    rw [spAdd]
    split
    · rw [spIn_cons, ih h3, spIn_cons]
      constructor
      · rintro (h | h | h)
        · exact .inr (.inl h)
        · exact .inl h
        · exact .inr (.inr h)
      · rintro (h | h | h)
        · exact .inr (.inl h)
        · exact .inl h
        · exact .inr (.inr h)
    · rename_i hge
      rw [spTake]
      split
      · rename_i hle
        have := spTake_in t l (min f a.1, max t a.2) h3 (by simp; omega) (by simp; omega) (fun m hm => by have := spRight_far hr hm; simp; omega) (by
          simp only
          rcases Nat.le_total a.2 t with hq | hq
          · left; omega
          · right; rw [Nat.max_eq_right hq]; exact h2) n
        rw [this, spIn_cons]
        simp only
        constructor
        · rintro (h | h)
          · by_cases h4 : f ≤ n ∧ n ≤ t
            · exact .inl h4
            · right; left; omega
          · exact .inr (.inr h)
        · rintro (h | h | h)
          · left; omega
          · left; omega
          · exact .inr h
      · rw [spIn_cons]
end Go.PH
end
section
/- The reference's way: edges, and the spans between them, as plain mathematics. -/
set_option linter.all false
set_option linter.unusedSimpArgs false
set_option linter.unusedVariables false
namespace Go.PH

/-- a number put into a rising row, once -/
def insE (n : Nat) : List Nat → List Nat
  | [] => [n]
  | x :: l => if x < n then x :: insE n l else if x = n then x :: l else n :: x :: l
def Rising (l : List Nat) : Prop := l.Pairwise (· < ·)
theorem insE_mem (n : Nat) (l : List Nat) (m : Nat) : m ∈ insE n l ↔ (m = n ∨ m ∈ l) := by
  induction l with
  | nil => simp [insE]
  | cons x l ih =>
    rw [insE]
    split
    · simp only [List.mem_cons, ih]
      constructor
      · rintro (h | h | h) <;> simp [h]
      · rintro (h | h | h) <;> simp [h]
    · split
      · rename_i h1 h2
        subst h2
        simp
      · simp
theorem insE_rising (n : Nat) (l : List Nat) (h : Rising l) : Rising (insE n l) := by
  induction l with
  | nil => simp [insE, Rising]
  | cons x l ih =>
    simp only [Rising, List.pairwise_cons] at h
    rw [insE]
    split
    · rename_i hx
      simp only [Rising, List.pairwise_cons]
      refine ⟨fun m hm => ?_, ih h.2⟩
      rcases (insE_mem n l m).1 hm with rfl | hm
      · exact hx
      · exact h.1 m hm
    · split
      · simp only [Rising, List.pairwise_cons]; exact h
      · simp only [Rising, List.pairwise_cons]
        refine ⟨fun m hm => ?_, h⟩
        rcases List.mem_cons.1 hm with rfl | hm
        · omega
        · have := h.1 m hm; omega
/-- the edges of a row -/
def edgesOf (l : List Sp) : List Nat := l.foldl (fun out a => insE (a.2 + 1) (insE a.1 out)) []
theorem edges_fold_rising (l : List Sp) (o : List Nat) (h : Rising o) : Rising (l.foldl (fun out a => insE (a.2 + 1) (insE a.1 out)) o) := by
  induction l generalizing o with
  | nil => exact h
  | cons a l ih => exact ih _ (insE_rising _ _ (insE_rising _ _ h))
theorem edges_fold_mem (l : List Sp) (o : List Nat) (m : Nat) : m ∈ l.foldl (fun out a => insE (a.2 + 1) (insE a.1 out)) o ↔ (m ∈ o ∨ ∃ a ∈ l, m = a.1 ∨ m = a.2 + 1) := by
  induction l generalizing o with
  | nil => simp
  | cons a l ih =>
    rw [List.foldl_cons, ih, insE_mem, insE_mem]
    simp only [List.mem_cons, exists_eq_or_imp]
    constructor
    · rintro ((h | h | h) | h)
      · exact .inr (.inl (.inr h))
      · exact .inr (.inl (.inl h))
      · exact .inl h
      · exact .inr (.inr h)
    · rintro (h | (h | h) | h)
      · exact .inl (.inr (.inr h))
      · exact .inl (.inr (.inl h))
      · exact .inl (.inl h)
      · exact .inr h
/-- between two edges that stand side by side membership does not turn -/
theorem spIn_between (l : List Sp) (x y : Nat) (hno : ∀ a ∈ l, (a.1 ≤ x ∨ y ≤ a.1) ∧ (a.2 + 1 ≤ x ∨ y ≤ a.2 + 1)) (n : Nat) (h1 : x ≤ n) (h2 : n < y) : spIn l n = spIn l x := by
  induction l with
  | nil => rfl
  | cons a l ih =>
    have h3 := hno a (by simp)
    have h4 := ih fun b hb => hno b (by simp [hb])
    have h5 : (decide (a.1 ≤ n) && decide (n ≤ a.2)) = (decide (a.1 ≤ x) && decide (x ≤ a.2)) := by
      rw [Bool.eq_iff_iff]
      simp only [Bool.and_eq_true, decide_eq_true_eq]
      omega
    simp only [spIn, List.any_cons] at h4 ⊢
    rw [h5, h4]
/-- a span put behind a right row that ends ahead of it -/
def spPush (out : List Sp) (x y : Nat) : List Sp :=
  match out.getLast? with
  | some z => if z.2 + 1 = x then out.dropLast ++ [(z.1, y - 1)] else out ++ [(x, y - 1)]
  | none => [(x, y - 1)]
theorem spRight_app (a : List Sp) (z : Sp) : spRight (a ++ [z]) = true ↔ (spRight a = true ∧ z.1 ≤ z.2 ∧ ∀ b ∈ a.getLast?, b.2 + 2 ≤ z.1) := by
  induction a with
  | nil => simp [spRight]
  | cons b a ih =>
    rw [List.cons_append, spRight_cons, ih, spRight_cons]
    cases a with
    | nil =>
      simp [spFrom, spRight]
      intro _
      exact and_comm
    | cons c a =>
      simp only [List.cons_append, spFrom, List.getLast?_cons_cons]
      constructor
      · rintro ⟨h1, h2, h3, h4, h5⟩; exact ⟨⟨h1, h2, h3⟩, h4, h5⟩
      · rintro ⟨⟨h1, h2, h3⟩, h4, h5⟩; exact ⟨h1, h2, h3, h4, h5⟩
theorem spPush_ok (out : List Sp) (x y : Nat) (hxy : x < y) (hr : spRight out = true) (hl : ∀ z ∈ out.getLast?, z.2 + 1 ≤ x) :
    spRight (spPush out x y) = true ∧ (∀ z ∈ (spPush out x y).getLast?, z.2 + 1 ≤ y) ∧ ∀ n, spIn (spPush out x y) n = true ↔ (spIn out n = true ∨ (x ≤ n ∧ n < y)) := by
  rcases List.eq_nil_or_concat out with rfl | ⟨a, z, rfl⟩
  · refine ⟨?_, ?_, fun n => ?_⟩
    · simp [spPush, spRight]; omega
    · simp [spPush]; omega
    · simp [spPush, spIn]; omega
  · simp only [List.concat_eq_append] at hr hl ⊢
    have hz := hl z (by simp)
    obtain ⟨h1, h2, h3⟩ := (spRight_app a z).1 hr
    unfold spPush
    simp only [List.getLast?_append, List.getLast?_singleton, Option.some_or, List.dropLast_concat]
    split
    · rename_i he
      refine ⟨(spRight_app _ _).2 ⟨h1, by simp; omega, h3⟩, by simp; omega, fun n => ?_⟩
      rw [spIn_app, spIn_app]
      simp [spIn]
      constructor
      · rintro (h | h)
        · exact .inl (.inl h)
        · by_cases h5 : n ≤ z.2
          · exact .inl (.inr ⟨h.1, h5⟩)
          · right; omega
      · rintro ((h | h) | h)
        · exact .inl h
        · right; omega
        · right; omega
    · refine ⟨(spRight_app _ _).2 ⟨hr, by simp; omega, by simp; omega⟩, by simp; omega, fun n => ?_⟩
      rw [spIn_app, show (spIn [(x, y - 1)] n = true) = (x ≤ n ∧ n < y) by simp [spIn]; intro _; omega]
end Go.PH
end
section
/- The reference's row between edges, as plain mathematics: right, with the members that are asked for. -/
set_option linter.all false
set_option linter.unusedSimpArgs false
set_option linter.unusedVariables false
namespace Go.PH

/-- the pairs of neighbours among rising edges, put behind a row where the predicate holds -/
def spOfGo (p : Nat → Bool) (out : List Sp) : List Nat → List Sp
  | x :: y :: l => spOfGo p (if p x then spPush out x y else out) (y :: l)
  | _ => out
theorem spOfGo_ok (p q : Nat → Bool) : ∀ (e : List Nat) (out : List Sp), Rising e → spRight out = true → (∀ z ∈ out.getLast?, ∀ x ∈ e.head?, z.2 + 1 ≤ x) →
    (∀ x y, (∃ a b, e = a ++ x :: y :: b) → ∀ n, x ≤ n → n < y → q n = p x) →
    spRight (spOfGo p out e) = true ∧ ∀ n, spIn (spOfGo p out e) n = true ↔ (spIn out n = true ∨ (q n = true ∧ (∃ x ∈ e.head?, x ≤ n) ∧ ∃ y ∈ e.getLast?, n < y)) := by
  intro e
  induction e with
  | nil => intro out _ hr _ _; exact ⟨hr, fun n => by simp [spOfGo]⟩
  | cons x l ih =>
    intro out hri hr hl hq
    cases l with
    | nil =>
      refine ⟨hr, fun n => ?_⟩
      simp only [spOfGo, List.head?_cons, Option.mem_def, Option.some.injEq, exists_eq_left', List.getLast?_singleton]
      constructor
      · exact .inl
      · rintro (h | ⟨_, h1, h2⟩)
        · exact h
        · omega
    | cons y l =>
      have hri' : Rising (y :: l) := (List.pairwise_cons.1 hri).2
      have hxy : x < y := (List.pairwise_cons.1 hri).1 y (by simp)
      have hlast : ∀ z ∈ (y :: l).getLast?, y ≤ z := by
        intro z hz
        have hm : z ∈ y :: l := List.mem_of_getLast? hz
        rcases List.mem_cons.1 hm with rfl | hm
        · exact Nat.le_refl _
        · exact Nat.le_of_lt ((List.pairwise_cons.1 hri').1 z hm)
      have hne : ∃ z, (y :: l).getLast? = some z := by
        cases hz : (y :: l).getLast? with
        | none => simp at hz
        | some z => exact ⟨z, rfl⟩
      obtain ⟨z, hz⟩ := hne
      have hyz := hlast z hz
      have hgl : (x :: y :: l).getLast? = some z := by rw [List.getLast?_cons_cons]; exact hz
      have hq0 := hq x y ⟨[], l, rfl⟩
      have hq' : ∀ x' y', (∃ a b, y :: l = a ++ x' :: y' :: b) → ∀ n, x' ≤ n → n < y' → q n = p x' := fun x' y' ⟨a, b, h⟩ => hq x' y' ⟨x :: a, b, by rw [h]; rfl⟩
      rw [spOfGo]
      cases hp : p x
      · obtain ⟨i1, i2⟩ := ih out hri' hr (fun w hw v hv => by
          simp at hv; subst hv
          have := hl w hw x (by simp)
          omega) hq'
        simp only [Bool.false_eq_true, if_false]
        refine ⟨i1, fun n => ?_⟩
        rw [i2]
        simp only [hz, hgl, List.head?_cons, Option.mem_def, Option.some.injEq, exists_eq_left']
        constructor
        · rintro (h | ⟨h1, h2, h3⟩)
          · exact .inl h
          · exact .inr ⟨h1, by omega, h3⟩
        · rintro (h | ⟨h1, h2, h3⟩)
          · exact .inl h
          · rcases Nat.lt_or_ge n y with h4 | h4
            · rw [hq0 n h2 h4, hp] at h1; cases h1
            · exact .inr ⟨h1, h4, h3⟩
      · obtain ⟨p1, p2, p3⟩ := spPush_ok out x y hxy hr (fun w hw => hl w hw x (by simp))
        obtain ⟨i1, i2⟩ := ih (spPush out x y) hri' p1 (fun w hw v hv => by
          simp at hv; subst hv
          exact p2 w hw) hq'
        simp only [if_true]
        refine ⟨i1, fun n => ?_⟩
        rw [i2, p3]
        simp only [hz, hgl, List.head?_cons, Option.mem_def, Option.some.injEq, exists_eq_left']
        constructor
        · rintro ((h | ⟨h1, h2⟩) | ⟨h1, h2, h3⟩)
          · exact .inl h
          · exact .inr ⟨by rw [hq0 n h1 h2, hp], h1, by omega⟩
          · exact .inr ⟨h1, by omega, h3⟩
        · rintro (h | ⟨h1, h2, h3⟩)
          · exact .inl (.inl h)
          · rcases Nat.lt_or_ge n y with h4 | h4
            · exact .inl (.inr ⟨h2, h4⟩)
            · exact .inr ⟨h1, h4, h3⟩
/-- the reference's Of -/
def spOf (f : Bool → Bool → Bool) (a b : List Sp) : List Sp := spOfGo (fun x => f (spIn a x) (spIn b x)) [] (edgesOf (a ++ b))
theorem rising_split {l a b : List Nat} {x y m : Nat} (h : Rising l) (e : l = a ++ x :: y :: b) (hm : m ∈ l) : m ≤ x ∨ y ≤ m := by
  subst e
  rw [Rising, List.pairwise_append] at h
  obtain ⟨h1, h2, h3⟩ := h
  rcases List.mem_append.1 hm with hm | hm
  · exact .inl (Nat.le_of_lt (h3 m hm x (by simp)))
  · rcases List.mem_cons.1 hm with rfl | hm
    · exact .inl (Nat.le_refl _)
    · rcases List.mem_cons.1 hm with rfl | hm
      · exact .inr (Nat.le_refl _)
      · have := (List.pairwise_cons.1 (List.pairwise_cons.1 h2).2).1 m hm
        exact .inr (Nat.le_of_lt this)
theorem edgesOf_rising (l : List Sp) : Rising (edgesOf l) := edges_fold_rising l [] (by simp [Rising])
theorem edgesOf_mem (l : List Sp) (m : Nat) : m ∈ edgesOf l ↔ ∃ a ∈ l, m = a.1 ∨ m = a.2 + 1 := by
  rw [edgesOf, edges_fold_mem]; simp
theorem rising_head {l : List Nat} (h : Rising l) {m : Nat} (hm : m ∈ l) : ∃ x ∈ l.head?, x ≤ m := by
  cases l with
  | nil => cases hm
  | cons y l =>
    refine ⟨y, by simp, ?_⟩
    rcases List.mem_cons.1 hm with rfl | hm
    · exact Nat.le_refl _
    · exact Nat.le_of_lt ((List.pairwise_cons.1 h).1 m hm)
theorem rising_last {l : List Nat} (h : Rising l) {m : Nat} (hm : m ∈ l) : ∃ x ∈ l.getLast?, m ≤ x := by
  rcases List.eq_nil_or_concat l with rfl | ⟨a, z, rfl⟩
  · cases hm
  · simp only [List.concat_eq_append] at *
    refine ⟨z, by simp, ?_⟩
    rw [Rising, List.pairwise_append] at h
    rcases List.mem_append.1 hm with hm | hm
    · exact Nat.le_of_lt (h.2.2 m hm z (by simp))
    · simp at hm; omega
theorem spIn_edges (l k : List Sp) (hlk : ∀ a ∈ l, a ∈ k) (n : Nat) (hn : spIn l n = true) : (∃ x ∈ (edgesOf k).head?, x ≤ n) ∧ ∃ y ∈ (edgesOf k).getLast?, n < y := by
  simp only [spIn, List.any_eq_true, Bool.and_eq_true, decide_eq_true_eq] at hn
  obtain ⟨a, ha, h1, h2⟩ := hn
  obtain ⟨x, hx, hxl⟩ := rising_head (edgesOf_rising k) ((edgesOf_mem k a.1).2 ⟨a, hlk a ha, .inl rfl⟩)
  obtain ⟨y, hy, hyl⟩ := rising_last (edgesOf_rising k) ((edgesOf_mem k (a.2 + 1)).2 ⟨a, hlk a ha, .inr rfl⟩)
  exact ⟨⟨x, hx, by omega⟩, ⟨y, hy, by omega⟩⟩
theorem spOf_ok (f : Bool → Bool → Bool) (hf : f false false = false) (a b : List Sp) : spRight (spOf f a b) = true ∧ ∀ n, spIn (spOf f a b) n = f (spIn a n) (spIn b n) := by
  have hri := edgesOf_rising (a ++ b)
  have hbt : ∀ (l : List Sp), (∀ z ∈ l, z ∈ a ++ b) → ∀ x y, (∃ u v, edgesOf (a ++ b) = u ++ x :: y :: v) → ∀ n, x ≤ n → n < y → spIn l n = spIn l x := by
    intro l hl x y ⟨u, v, e⟩ n h1 h2
    refine spIn_between l x y (fun z hz => ?_) n h1 h2
    have m1 := rising_split hri e ((edgesOf_mem _ z.1).2 ⟨z, hl z hz, .inl rfl⟩)
    have m2 := rising_split hri e ((edgesOf_mem _ (z.2 + 1)).2 ⟨z, hl z hz, .inr rfl⟩)
    exact ⟨m1, m2⟩
  obtain ⟨h1, h2⟩ := spOfGo_ok (fun x => f (spIn a x) (spIn b x)) (fun n => f (spIn a n) (spIn b n)) (edgesOf (a ++ b)) [] hri rfl (by simp) (fun x y hxy n hn1 hn2 => by
    show f (spIn a n) (spIn b n) = f (spIn a x) (spIn b x)
    rw [hbt a (fun z hz => by simp [hz]) x y hxy n hn1 hn2, hbt b (fun z hz => by simp [hz]) x y hxy n hn1 hn2])
  refine ⟨h1, fun n => ?_⟩
  rw [Bool.eq_iff_iff]
  show spIn (spOfGo _ [] _) n = true ↔ _
  rw [h2]
  constructor
  · rintro (h | h)
    · simp [spIn] at h
    · exact h.1
  · intro h
    refine .inr ⟨h, ?_⟩
    rcases ha : spIn a n with _ | _
    · rcases hb : spIn b n with _ | _
      · rw [ha, hb, hf] at h; cases h
      · exact spIn_edges b (a ++ b) (fun z hz => by simp [hz]) n hb
    · exact spIn_edges a (a ++ b) (fun z hz => by simp [hz]) n ha
end Go.PH
end

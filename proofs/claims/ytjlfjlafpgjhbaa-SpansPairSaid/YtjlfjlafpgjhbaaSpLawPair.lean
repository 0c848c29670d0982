/- SpansPair: for every input of the form's own reach the law returns true and writes nothing that was there. -/
import Derived.Test.YtjlfjlafpgjhbaaSpHead
import Derived.Test.YtjlfjlafpgjhbaaSpRefAdd
import Derived.Test.YtjlfjlafpgjhbaaSpEither
namespace Go.PH
open Go.RowKit Go.Proofs

theorem bothR_len {l l' : List Sp} : (bothR l l').length ≤ l'.length * l.length := by
  unfold bothR
  split
  · exact spBoth_len l' l
  · simp
theorem eitherR_len {l l' : List Sp} : (eitherR l l').length ≤ l.length + l'.length := by
  unfold eitherR
  split
  · exact spEither_len l' l
  · simp
set_option maxRecDepth 20000 in
set_option maxHeartbeats 2000000 in
theorem law_SpansPair (A : Option Addr) (n c : Nat) (l : List Sp) (B : Option Addr) (m d : Nat) (k : List Sp) (w : World) (hr : RdS w w.heap.size A n c l) (hb : spOK 4294967296 l) (hr' : RdS w w.heap.size B m d k) (hb' : spOK 4294967296 k) (hn : n ≤ 140737488351232) (hm : m ≤ 140737488351232) :
    Calls Try.prog 5 #[.slice A n c, .slice B m d] w fun e w' => e = .returned (.bool true) ∧ Below w.heap.size w w' := by
  have hl := hr.length
  have hl' := hr'.length
  by_cases h20 : 20 < n
  · have h20' : (20 : Int) < (n : Int) := by omega
    go_enter Try.func5, Try.ntmps5
    go_wp2_with (first | (with_reducible refine hold_append ?_) | (with_reducible refine hold_make ?_) | (with_reducible refine hold_copy ?_))
    refine (head_any w).mono ?_
    rintro e w1 ⟨rfl, hB1⟩
    go_wp2_with (first | (with_reducible refine hold_append ?_) | (with_reducible refine hold_make ?_) | (with_reducible refine hold_copy ?_))
    go_ret
    exact ⟨rfl, hB1⟩
  · have h20' : decide ((20 : Int) < (n : Int)) = false := by simp; omega
    by_cases h21 : 20 < m
    · have h21' : (20 : Int) < (m : Int) := by omega
      go_enter Try.func5, Try.ntmps5
      go_wp2_with (first | (with_reducible refine hold_append ?_) | (with_reducible refine hold_make ?_) | (with_reducible refine hold_copy ?_))
      refine (head_any w).mono ?_
      rintro e w1 ⟨rfl, hB1⟩
      go_wp2_with (first | (with_reducible refine hold_append ?_) | (with_reducible refine hold_make ?_) | (with_reducible refine hold_copy ?_))
      go_ret
      exact ⟨rfl, hB1⟩
    · have h21' : decide ((20 : Int) < (m : Int)) = false := by simp; omega
      have hmn : m * n ≤ 20 * 20 := Nat.mul_le_mul (by omega) (by omega)
      have lb := bothR_len (l := l) (l' := k)
      have le := eitherR_len (l := l) (l' := k)
      rw [hl, hl'] at lb le
      go_enter Try.func5, Try.ntmps5
      go_wp2_with (first | (with_reducible refine hold_append ?_) | (with_reducible refine hold_make ?_) | (with_reducible refine hold_copy ?_))
      refine (scopy_any A n c l w hr (by omega)).mono ?_
      rintro e w1 ⟨A1, c1, rfl, ho1, hB1⟩
      have hz1 := hB1.size
      go_wp2_with (first | (with_reducible refine hold_append ?_) | (with_reducible refine hold_make ?_) | (with_reducible refine hold_copy ?_))
      refine (scopy_any B m d k w1 ((hr'.below hB1).more hz1) (by omega)).mono ?_
      rintro e w2 ⟨A2, c2, rfl, ho2, hB2⟩
      have hz2 := hB2.size
      have ho12 := below_ownS ho1 hB2
      have hB02 := hB1.trans (hB2.mono (by omega))
      clear ho1
      go_wp2_with (first | (with_reducible refine hold_append ?_) | (with_reducible refine hold_make ?_) | (with_reducible refine hold_copy ?_))
      refine (both_any A1 n c1 l A2 m c2 k _ w2 ho12.rd hb ho2.rd hb' (Nat.le_refl _) (by omega) (by omega)).mono ?_
      rintro e w3 ⟨A3, c3, rfl, ho3, hB3⟩
      have hz3 := hB3.size
      have ho13 := below_ownS ho12 hB3
      have ho23 := below_ownS ho2 hB3
      have hB03 := hB02.trans (hB3.mono (by omega))
      clear ho12 ho2
      go_wp2_with (first | (with_reducible refine hold_append ?_) | (with_reducible refine hold_make ?_) | (with_reducible refine hold_copy ?_))
      refine (either_any A1 n c1 l A2 m c2 k _ w3 ho13.rd hb ho23.rd hb' (Nat.le_refl _) (by omega) (by omega)).mono ?_
      rintro e w4 ⟨A4, c4, rfl, ho4, hB4⟩
      have hz4 := hB4.size
      have hA1 : ∀ g, blk A1 = some g → g < w3.heap.size := fun g hg => (ho13.blk_lt hg).2
      have hA2 : ∀ g, blk A2 = some g → g < w3.heap.size := fun g hg => (ho23.blk_lt hg).2
      have hA4 : ∀ g, blk A4 = some g → w3.heap.size ≤ g := fun g hg => (ho4.blk_lt hg).1
      have ho14 := below_ownS ho13 hB4
      have ho24 := below_ownS ho23 hB4
      have ho34 := below_ownS ho3 hB4
      have hB04 := hB03.trans (hB4.mono (by omega))
      clear ho13 ho23 ho3
      go_wp2_with (first | (with_reducible refine hold_append ?_) | (with_reducible refine hold_make ?_) | (with_reducible refine hold_copy ?_))
      refine (rboth_any0 A n c l B m d k w4 ((hr.below hB04).more hB04.size) hb ((hr'.below hB04).more hB04.size) hb' (by omega) (by omega)).mono ?_
      rintro e w5 ⟨A5, c5, rfl, ho5, hB5⟩
      have hz5 := hB5.size
      have ho15 := below_ownS ho14 hB5
      have ho25 := below_ownS ho24 hB5
      have ho35 := below_ownS ho34 hB5
      have ho45 := below_ownS ho4 hB5
      have hB05 := hB04.trans (hB5.mono (by omega))
      clear ho14 ho24 ho34 ho4
      go_wp2_with (first | (with_reducible refine hold_append ?_) | (with_reducible refine hold_make ?_) | (with_reducible refine hold_copy ?_))
      refine (rboth_any1 A n c l B m d k w5 ((hr.below hB05).more hB05.size) hb ((hr'.below hB05).more hB05.size) hb' (by omega) (by omega)).mono ?_
      rintro e w6 ⟨A6, c6, rfl, ho6, hB6⟩
      have hz6 := hB6.size
      have ho16 := below_ownS ho15 hB6
      have ho26 := below_ownS ho25 hB6
      have ho36 := below_ownS ho35 hB6
      have ho46 := below_ownS ho45 hB6
      have ho56 := below_ownS ho5 hB6
      have hB06 := hB05.trans (hB6.mono (by omega))
      clear ho15 ho25 ho35 ho45 ho5
      generalize bothR l k = br at *
      generalize eitherR l k = er at *
      generalize pairErr l k = pe at *
      go_wp2_with (first | (with_reducible refine hold_append ?_) | (with_reducible refine hold_make ?_) | (with_reducible refine hold_copy ?_))
      refine (ssame_any _ _ _ _ _ _ _ _ _ w6 ho36.rd ho56.rd (Nat.le_refl _) (by omega) (by omega)).mono ?_
      rintro e w7 ⟨rfl, hB7⟩
      have hz7 := hB7.size
      have ho17 := below_ownS ho16 hB7
      have ho27 := below_ownS ho26 hB7
      have ho47 := below_ownS ho46 hB7
      have ho67 := below_ownS ho6 hB7
      have hB07 := hB06.trans (hB7.mono (by omega))
      clear ho16 ho26 ho36 ho46 ho56 ho6
      rw [decide_eq_true rfl]
      have her : (((pe : Nat) : Int) != ((pe : Nat) : Int)) = false := by simp
      go_wp2_with (first | (with_reducible refine hold_append ?_) | (with_reducible refine hold_make ?_) | (with_reducible refine hold_copy ?_))
      refine (ssame_any _ _ _ _ _ _ _ _ _ w7 ho47.rd ho67.rd (Nat.le_refl _) (by omega) (by omega)).mono ?_
      rintro e w8 ⟨rfl, hB8⟩
      have hz8 := hB8.size
      have ho18 := below_ownS ho17 hB8
      have ho28 := below_ownS ho27 hB8
      have ho48 := below_ownS ho47 hB8
      have hB08 := hB07.trans (hB8.mono (by omega))
      clear ho17 ho27 ho47 ho67
      rw [decide_eq_true rfl]
      have hd1 : ∀ g, blk A4 = some g → blk A1 ≠ some g ∧ blk A2 ≠ some g := fun g hg => ⟨fun e => by have := hA1 g e; have := hA4 g hg; omega, fun e => by have := hA2 g e; have := hA4 g hg; omega⟩
      clear hA1 hA2 hA4
      go_wp2_with (first | (with_reducible refine hold_append ?_) | (with_reducible refine hold_make ?_) | (with_reducible refine hold_copy ?_))
      go_loopw [15] (fun i wr => ∃ (q : Nat) (l1 : List Sp), q ≤ er.length ∧ i = .int .i64 q ∧ OwnS wr w3.heap.size A4 er.length c4 l1 ∧ OwnS wr w.heap.size A1 n c1 l ∧ OwnS wr w1.heap.size A2 m c2 k ∧ Below w.heap.size w wr) (fun i _ => er.length - (intOf i).toNat)
      case atStart => exact ⟨0, er, by omega, rfl, ho48, ho18, ho28, hB08⟩
      case round =>
        clear ho48 ho18 ho28 hB08
        obtain ⟨q, l1, hq, rfl, ho4, ho1, ho2, hB⟩ := hrel
        by_cases hlt : q < er.length
        · obtain ⟨g, rfl, hg1, hg2, hgl, hz0, hz1', hzf, hzs⟩ := OwnS.at_k ho4 hlt
          have hs7 := hzs 7
          clear hzs
          have hgs := grownSet wr ⟨g, q * 2 + 1, none⟩ (.int .u32 7)
          have hne := hd1 g rfl
          go_wp2_with (first | (with_reducible refine hold_append ?_) | (with_reducible refine hold_make ?_) | (with_reducible refine hold_copy ?_))
          exact ⟨⟨q + 1, _, by omega, by go_num, hs7, own_keep ho1 hgs (fun r hr e => hne.1 (by rw [hr]; exact e.symm)), own_keep ho2 hgs (fun r hr e => hne.2 (by rw [hr]; exact e.symm)), hB.setCell (p := ⟨g, q * 2 + 1, none⟩) (show w.heap.size ≤ g by omega) _⟩, by simp [intOf]; omega⟩
        · have hdq : decide ((q : Int) < (er.length : Int)) = false := by simp; omega
          go_wp2_with (first | (with_reducible refine hold_append ?_) | (with_reducible refine hold_make ?_) | (with_reducible refine hold_copy ?_))
          refine (ssame_any _ _ _ _ _ _ _ _ _ wr ho1.rd ((hr.below hB).more hB.size) (Nat.le_refl _) (by omega) (by omega)).mono ?_
          rintro e w9 ⟨rfl, hB9⟩
          have ho29 := below_ownS ho2 hB9
          have hB19 := hB.trans (hB9.mono hB.size)
          rw [decide_eq_true rfl]
          go_wp2_with (first | (with_reducible refine hold_append ?_) | (with_reducible refine hold_make ?_) | (with_reducible refine hold_copy ?_))
          refine (ssame_any _ _ _ _ _ _ _ _ _ w9 ho29.rd ((hr'.below hB19).more hB19.size) (Nat.le_refl _) (by omega) (by omega)).mono ?_
          rintro e w10 ⟨rfl, hB10⟩
          have hB20 := hB19.trans (hB10.mono hB19.size)
          rw [decide_eq_true rfl]
          go_wp2_with (first | (with_reducible refine hold_append ?_) | (with_reducible refine hold_make ?_) | (with_reducible refine hold_copy ?_))
          refine (head_any _).mono ?_
          rintro e w11 ⟨rfl, hB11⟩
          have hB21 := hB20.trans (hB11.mono hB20.size)
          go_wp2_with (first | (with_reducible refine hold_append ?_) | (with_reducible refine hold_make ?_) | (with_reducible refine hold_copy ?_))
          go_ret
          exact ⟨rfl, hB21⟩
end Go.PH

/- SpansTurn: for every input of the form's own reach the law returns true and writes nothing that was there. -/
import Derived.Test.YtjlfjlafpgjhbaaSpHead
import Derived.Test.YtjlfjlafpgjhbaaSpRefAdd
import Derived.Test.YtjlfjlafpgjhbaaSpOfBase
namespace Go.PH
open Go.RowKit Go.Proofs

theorem addR_len {l : List Sp} {f t n : Nat} (h : l.length = n) : (addR l f t).length ≤ n + 1 := by
  unfold addR
  split
  · have := spAdd_len f t l; omega
  · simp
theorem cutR_len {l : List Sp} {f t n : Nat} (h : l.length = n) : (cutR l f t).length ≤ 2 * n := by
  unfold cutR
  split
  · have := spCut_len f t l; omega
  · simp
set_option maxRecDepth 20000 in
set_option maxHeartbeats 2000000 in
theorem law_SpansTurn (A : Option Addr) (n c : Nat) (l : List Sp) (f t : Nat) (w : World) (hr : RdS w w.heap.size A n c l) (hb : spOK 4294967296 l) (hf : f < 4294967296) (ht : t < 4294967296) (hn : n ≤ 140737488351232) :
    Calls Try.prog 3 #[.slice A n c, .int .u32 f, .int .u32 t] w fun e w' => e = .returned (.bool true) ∧ Below w.heap.size w w' := by
  have hl := hr.length
  by_cases h40 : 40 < n
  · go_enter Try.func3, Try.ntmps3
    go_wp2_with (first | (with_reducible refine hold_append ?_) | (with_reducible refine hold_make ?_) | (with_reducible refine hold_copy ?_))
    refine (head_any w).mono ?_
    rintro e w1 ⟨rfl, hB1⟩
    go_wp2_with (first | (with_reducible refine hold_append ?_) | (with_reducible refine hold_make ?_) | (with_reducible refine hold_copy ?_))
    go_ret
    exact ⟨rfl, hB1⟩
  · have h40' : ¬ (40 : Int) < (n : Int) := by omega
    have la := addR_len (f := f) (t := t) hl
    have lc := cutR_len (f := f) (t := t) hl
    go_enter Try.func3, Try.ntmps3
    go_wp2_with (first | (with_reducible refine hold_append ?_) | (with_reducible refine hold_make ?_) | (with_reducible refine hold_copy ?_))
    refine (scopy_any A n c l w hr (by omega)).mono ?_
    rintro e w1 ⟨A1, c1, rfl, ho1, hB1⟩
    have hz1 := hB1.size
    go_wp2_with (first | (with_reducible refine hold_append ?_) | (with_reducible refine hold_make ?_) | (with_reducible refine hold_copy ?_))
    refine (add_any A1 n c1 l f t _ w1 ho1.rd hb hf ht (Nat.le_refl _) (by omega)).mono ?_
    rintro e w2 ⟨A2, c2, rfl, ho2, hB2⟩
    have hz2 := hB2.size
    have ho12 := below_ownS ho1 hB2
    have hB02 := hB1.trans (hB2.mono (by omega))
    have hA2 : ∀ g, blk A2 = some g → w1.heap.size ≤ g ∧ g < w2.heap.size := fun g hg => ho2.blk_lt hg
    have hA1 : ∀ g, blk A1 = some g → g < w1.heap.size := fun g hg => (ho1.blk_lt hg).2
    go_wp2_with (first | (with_reducible refine hold_append ?_) | (with_reducible refine hold_make ?_) | (with_reducible refine hold_copy ?_))
    refine (radd_anyA A n c l f t w2 ((hr.below hB02).more hB02.size) hb hf ht (by omega)).mono ?_
    rintro e w3 ⟨A3, c3, rfl, ho3, hB3⟩
    have hz3 := hB3.size
    have ho13 := below_ownS ho12 hB3
    have ho23 := below_ownS ho2 hB3
    have hB03 := hB02.trans (hB3.mono (by omega))
    clear ho12 ho2 ho1
    go_wp2_with (first | (with_reducible refine hold_append ?_) | (with_reducible refine hold_make ?_) | (with_reducible refine hold_copy ?_))
    refine (cut_any A1 n c1 l f t _ w3 ho13.rd hb hf ht (Nat.le_refl _) (by omega)).mono ?_
    rintro e w4 ⟨A4, c4, rfl, ho4, hB4⟩
    have hz4 := hB4.size
    have ho14 := below_ownS ho13 hB4
    have ho24 := below_ownS ho23 hB4
    have ho34 := below_ownS ho3 hB4
    have hB04 := hB03.trans (hB4.mono (by omega))
    have hA4 : ∀ g, blk A4 = some g → w3.heap.size ≤ g := fun g hg => (ho4.blk_lt hg).1
    clear ho13 ho23 ho3
    go_wp2_with (first | (with_reducible refine hold_append ?_) | (with_reducible refine hold_make ?_) | (with_reducible refine hold_copy ?_))
    refine (radd_anyC A n c l f t w4 ((hr.below hB04).more hB04.size) hb hf ht (by omega)).mono ?_
    rintro e w5 ⟨A5, c5, rfl, ho5, hB5⟩
    have hz5 := hB5.size
    have ho15 := below_ownS ho14 hB5
    have ho25 := below_ownS ho24 hB5
    have ho35 := below_ownS ho34 hB5
    have ho45 := below_ownS ho4 hB5
    have hB05 := hB04.trans (hB5.mono (by omega))
    clear ho14 ho24 ho34 ho4
    go_wp2_with (first | (with_reducible refine hold_append ?_) | (with_reducible refine hold_make ?_) | (with_reducible refine hold_copy ?_))
    refine (ssame_any _ _ _ _ _ _ _ _ _ w5 ho25.rd ho35.rd (Nat.le_refl _) (by omega) (by omega)).mono ?_
    rintro e w6 ⟨rfl, hB6⟩
    have hz6 := hB6.size
    have ho16 := below_ownS ho15 hB6
    have ho26 := below_ownS ho25 hB6
    have ho46 := below_ownS ho45 hB6
    have ho56 := below_ownS ho5 hB6
    have hB06 := hB05.trans (hB6.mono (by omega))
    clear ho15 ho25 ho35 ho45 ho5
    rw [decide_eq_true rfl]
    generalize addR l f t = ar at *
    generalize cutR l f t = cr at *
    generalize spErr l f t = er at *
    have her : (((er : Nat) : Int) != ((er : Nat) : Int)) = false := by simp
    go_wp2_with (first | (with_reducible refine hold_append ?_) | (with_reducible refine hold_make ?_) | (with_reducible refine hold_copy ?_))
    refine (ssame_any _ _ _ _ _ _ _ _ _ w6 ho46.rd ho56.rd (Nat.le_refl _) (by omega) (by omega)).mono ?_
    rintro e w7 ⟨rfl, hB7⟩
    have hz7 := hB7.size
    have ho17 := below_ownS ho16 hB7
    have ho27 := below_ownS ho26 hB7
    have ho47 := below_ownS ho46 hB7
    have hB07 := hB06.trans (hB7.mono (by omega))
    clear ho16 ho26 ho46 ho56
    rw [decide_eq_true rfl]
    go_wp2_with (first | (with_reducible refine hold_append ?_) | (with_reducible refine hold_make ?_) | (with_reducible refine hold_copy ?_))
    have hd1 : ∀ g, blk A2 = some g → blk A1 ≠ some g ∧ blk A4 ≠ some g := fun g hg => ⟨fun e => by have := hA1 g e; have := hA2 g hg; omega, fun e => by have := hA4 g e; have := hA2 g hg; omega⟩
    have hd2 : ∀ g, blk A4 = some g → blk A1 ≠ some g := fun g hg e => by have := hA1 g e; have := hA4 g hg; omega
    clear hA1 hA2 hA4
    go_loopw [16] (fun i wr => ∃ (k : Nat) (l1 : List Sp), k ≤ ar.length ∧ i = .int .i64 k ∧ OwnS wr w1.heap.size A2 ar.length c2 l1 ∧ OwnS wr w.heap.size A1 n c1 l ∧ OwnS wr w3.heap.size A4 cr.length c4 cr ∧ Below w.heap.size w wr) (fun i _ => ar.length - (intOf i).toNat)
    case atStart => exact ⟨0, ar, by omega, rfl, ho27, ho17, ho47, hB07⟩
    case round =>
      clear ho27 ho17 ho47 hB07
      obtain ⟨k, l1, hk, rfl, ho2, ho1, ho4, hB⟩ := hrel
      by_cases hlt : k < ar.length
      · obtain ⟨g, rfl, hg1, hg2, hgl, hz0, hz1, hzf, hzs⟩ := OwnS.at_k ho2 hlt
        have hs7 := hzs 7
        clear hzs
        have hgs := grownSet wr ⟨g, k * 2 + 1, none⟩ (.int .u32 7)
        have hne := hd1 g rfl
        go_wp2_with (first | (with_reducible refine hold_append ?_) | (with_reducible refine hold_make ?_) | (with_reducible refine hold_copy ?_))
        exact ⟨⟨k + 1, _, by omega, by go_num, hs7, own_keep ho1 hgs (fun q hq e => hne.1 (by rw [hq]; exact e.symm)), own_keep ho4 hgs (fun q hq e => hne.2 (by rw [hq]; exact e.symm)), hB.setCell (p := ⟨g, k * 2 + 1, none⟩) (show w.heap.size ≤ g by omega) _⟩, by simp [intOf]; omega⟩
      · have hkn : k = ar.length := by omega
        have hdk : decide ((k : Int) < (ar.length : Int)) = false := by simp; omega
        go_wp2_with (first | (with_reducible refine hold_append ?_) | (with_reducible refine hold_make ?_) | (with_reducible refine hold_copy ?_))
        go_loopw [17] (fun i wr => ∃ (k : Nat) (l1 : List Sp), k ≤ cr.length ∧ i = .int .i64 k ∧ OwnS wr w.heap.size A1 n c1 l ∧ OwnS wr w3.heap.size A4 cr.length c4 l1 ∧ Below w.heap.size w wr) (fun i _ => cr.length - (intOf i).toNat)
        case atStart => exact ⟨0, cr, by omega, rfl, ho1, ho4, hB⟩
        case round =>
          clear ho1 ho2 ho4 hB
          obtain ⟨j, l2, hj, rfl, ho1, ho4, hB⟩ := hrel
          by_cases hlt2 : j < cr.length
          · obtain ⟨g, rfl, hg1, hg2, hgl, hz0, hz1, hzf, hzs⟩ := OwnS.at_k ho4 hlt2
            have hs7 := hzs 7
            clear hzs
            have hgs := grownSet wr ⟨g, j * 2 + 1, none⟩ (.int .u32 7)
            have hne := hd2 g rfl
            go_wp2_with (first | (with_reducible refine hold_append ?_) | (with_reducible refine hold_make ?_) | (with_reducible refine hold_copy ?_))
            exact ⟨⟨j + 1, _, by omega, by go_num, own_keep ho1 hgs (fun q hq e => hne (by rw [hq]; exact e.symm)), hs7, hB.setCell (p := ⟨g, j * 2 + 1, none⟩) (show w.heap.size ≤ g by omega) _⟩, by simp [intOf]; omega⟩
          · have hdj : decide ((j : Int) < (cr.length : Int)) = false := by simp; omega
            go_wp2_with (first | (with_reducible refine hold_append ?_) | (with_reducible refine hold_make ?_) | (with_reducible refine hold_copy ?_))
            refine (ssame_any _ _ _ _ _ _ _ _ _ wr ho1.rd ((hr.below hB).more hB.size) (Nat.le_refl _) (by omega) (by omega)).mono ?_
            rintro e w8 ⟨rfl, hB8⟩
            have hB9 := hB.trans (hB8.mono hB.size)
            rw [decide_eq_true rfl]
            go_wp2_with (first | (with_reducible refine hold_append ?_) | (with_reducible refine hold_make ?_) | (with_reducible refine hold_copy ?_))
            refine (head_any _).mono ?_
            rintro e w9 ⟨rfl, hB10⟩
            have hB11 := hB9.trans (hB10.mono hB9.size)
            go_wp2_with (first | (with_reducible refine hold_append ?_) | (with_reducible refine hold_make ?_) | (with_reducible refine hold_copy ?_))
            go_ret
            exact ⟨rfl, hB11⟩
end Go.PH

/- OctetPuts: for every input of the form's own reach the law returns true and writes nothing that was there. -/
import Derived.Test.YtejpponbhblmmaaOctHead
import Derived.Test.YtejpponbhblmmaaOctRefPut
import Derived.Test.YtejpponbhblmmaaOctLawReads
namespace Go.PH
open Go.RowKit Go.Proofs

theorem puts_len (l : List UInt8) (v : Nat) (x : Int) : (puts l v x).length ≤ l.length + 8 := by
  by_cases h : wideB x = true
  · rw [puts_yes h, List.length_append, be_length]
    have := wideB_le h
    omega
  · rw [puts_no (by simpa using h)]; omega
theorem below_own {w w' : World} {base e size n c : Nat} {A : Option Addr} {xs : List Value} (h : Own w base e size A n c xs) (hB : Below w.heap.size w w') : Own w' base e size A n c xs :=
  h.kept (row := none) ⟨hB.os, hB.tape, hB.output, hB.size, fun k hk _ => hB.block k hk⟩ (by cases hv : (Value.slice A n c).ownBlock <;> simp)

set_option maxHeartbeats 2000000 in
set_option maxRecDepth 20000 in
theorem law_OctetPuts (A : Option Addr) (n c : Nat) (l : List UInt8) (v : Nat) (x : Int) (s : List UInt8) (w : World) (hb : RdB w w.heap.size A n c l) (hv : v < 18446744073709551616) (hx : -9223372036854775808 ≤ x) (hx' : x ≤ 9223372036854775807) (hn : n ≤ 140737488351232) (hs : s.length ≤ 140737488351232) :
    Calls Try.prog 3 #[.slice A n c, .int .u64 v, .agg #[.int .i64 x, .string (str s)]] w fun e w' => e = .returned (.bool true) ∧ Below w.heap.size w w' := by
  have hl := hb.length
  have hpl := puts_len l v x
  go_enter Try.func3, Try.ntmps3
  go_wp2_with (first | (with_reducible refine hold_append ?_) | (with_reducible refine hold_make ?_) | (with_reducible refine hold_copy ?_))
  go_quiet (fail)
  go_wp2_with (first | (with_reducible refine hold_append ?_) | (with_reducible refine hold_make ?_) | (with_reducible refine hold_copy ?_))
  have hB0 : Below w.heap.size w ((w.alloc (.cells #[.int .i64 x, .string (str s)] 25)).drewN nq) := below_drewN ((Below.refl w.heap.size w).alloc (Nat.le_refl _) (.cells #[.int .i64 x, .string (str s)] 25)) nq
  generalize ((w.alloc (.cells #[.int .i64 x, .string (str s)] 25)).drewN nq) = w0 at hB0 ⊢
  have hz0 := hB0.size
  have hb0 := hb.below hB0
  refine unhold (wp_app slB rfl rfl rfl rfl (Own.none_ w0 w0.heap.size _ _) hb0 (map_one _) (by omega) (by simp [maxLen]; omega) (Nat.le_refl _) ?_)
  intro A1 c1 w1 ho1 hg1 _
  have hB1 : Below w0.heap.size w0 w1 := (Below.refl _ _).grown hg1 (Nat.le_refl _) (by simp [blk])
  simp only [Nat.zero_add, List.nil_append] at ho1
  have hz1 := hB1.size
  have hB01 := hB0.trans (hB1.mono hz0)
  have hA1w : ∀ g, blk A1 = some g → g < w1.heap.size := fun g hg => (ho1.blk_lt hg).2
  clear hg1
  go_wp2_with (first | (with_reducible refine hold_append ?_) | (with_reducible refine hold_make ?_) | (with_reducible refine hold_copy ?_))
  refine (put_any A1 n c1 l v x w1 ho1.rd hv (by omega)).mono ?_
  rintro e w2 ⟨A2, c2, rfl, ho2, hB2⟩
  have hz2 := hB2.size
  have ho12 := below_own ho1 hB2
  have hB02 := hB01.trans (hB2.mono (by omega))
  go_wp2_with (first | (with_reducible refine hold_append ?_) | (with_reducible refine hold_make ?_) | (with_reducible refine hold_copy ?_))
  refine (puttext_any A1 n c1 l s x w2 ho12.rd hs (by omega)).mono ?_
  rintro e w3 ⟨A3, c3, rfl, ho3, hB3⟩
  have hz3 := hB3.size
  have ho13 := below_own ho12 hB3
  have ho23 := below_own ho2 hB3
  have hB03 := hB02.trans (hB3.mono (by omega))
  go_wp2_with (first | (with_reducible refine hold_append ?_) | (with_reducible refine hold_make ?_) | (with_reducible refine hold_copy ?_))
  refine (rputtext_any A n c l s x w3 ((hb.below hB03).more hB03.size) hs (by omega)).mono ?_
  rintro e w4 ⟨A4, c4, rfl, ho4, hB4⟩
  have hz4 := hB4.size
  have ho14 := below_own ho13 hB4
  have ho24 := below_own ho23 hB4
  have ho34 := below_own ho3 hB4
  have hB04 := hB03.trans (hB4.mono (by omega))
  clear ho1 ho12 ho13 ho2 ho23 ho3
  go_wp2_with (first | (with_reducible refine hold_append ?_) | (with_reducible refine hold_make ?_) | (with_reducible refine hold_copy ?_))
  refine (rput_any A n c l v x w4 ((hb.below hB04).more hB04.size) hv (by omega)).mono ?_
  rintro e w5 ⟨A5, c5, rfl, ho5, hB5⟩
  have hz5 := hB5.size
  have ho15 := below_own ho14 hB5
  have ho25 := below_own ho24 hB5
  have ho35 := below_own ho34 hB5
  have ho45 := below_own ho4 hB5
  have hB05 := hB04.trans (hB5.mono (by omega))
  clear ho14 ho24 ho34 ho4
  go_wp2_with (first | (with_reducible refine hold_append ?_) | (with_reducible refine hold_make ?_) | (with_reducible refine hold_copy ?_))
  refine (same_any _ _ _ _ _ _ _ _ w5 ho25.rd ho5.rd).mono ?_
  rintro e w6 ⟨rfl, rfl⟩
  rw [beq_self_eq_true]
  go_wp2_with (first | (with_reducible refine hold_append ?_) | (with_reducible refine hold_make ?_) | (with_reducible refine hold_copy ?_))
  refine (same_any _ _ _ _ _ _ _ _ w6 ho35.rd ho45.rd).mono ?_
  rintro e w7 ⟨rfl, rfl⟩
  rw [beq_self_eq_true]
  generalize puts l v x = px at ho25 hpl
  clear ho35 ho45 ho5
  go_wp2_with (first | (with_reducible refine hold_append ?_) | (with_reducible refine hold_make ?_) | (with_reducible refine hold_copy ?_))
  go_loopw [15] (fun i wr => ∃ (k : Nat) (l1 : List UInt8), k ≤ px.length ∧ i = .int .i64 k ∧ Own wr w1.heap.size 5 1 A2 px.length c2 (l1.map u8v) ∧ Own wr w0.heap.size 5 1 A1 n c1 (l.map u8v) ∧ Below w.heap.size w wr) (fun i _ => px.length - (intOf i).toNat)
  case atStart => exact ⟨0, px, by omega, rfl, ho25, ho15, hB05⟩
  case round =>
    clear ho25 ho15 hB05
    obtain ⟨k, l1, hk, rfl, ho2, ho1, hB⟩ := hrel
    have hl1 := OwnB.length ho2
    by_cases hlt : k < px.length
    · obtain ⟨g, rfl, hwg, hbg, hgl, hcell, hfz, hst⟩ := OwnB.at_k ho2 (k := k) hlt
      have hby := l1[k].toNat_lt
      have h1 := hst (l1[k] + 1)
      rw [u8v_add1] at h1
      have hA1 : blk A1 ≠ some g := fun e => by have := hA1w _ e; omega
      go_wp2_with (first | (with_reducible refine hold_append ?_) | (with_reducible refine hold_make ?_) | (with_reducible refine hold_copy ?_))
      have hgs := grownSet wr ⟨g, k, none⟩ (.int .u8 (((l1[k].toNat : Int) + 1) % 256))
      exact ⟨⟨k + 1, _, by omega, by go_num, h1, ho1.kept hgs (.inr (by rw [ownBlock_eq]; exact hA1)), hB.setCell (show w.heap.size ≤ g by omega) _⟩, by simp [intOf]; omega⟩
    · have hkn : k = px.length := by omega
      go_wp2_with (first | (with_reducible refine hold_append ?_) | (with_reducible refine hold_make ?_) | (with_reducible refine hold_copy ?_))
      refine (same_any _ _ _ _ _ _ _ _ wr ho1.rd (hb.below hB)).mono ?_
      rintro e w7 ⟨rfl, rfl⟩
      rw [beq_self_eq_true]
      go_wp2_with (first | (with_reducible refine hold_append ?_) | (with_reducible refine hold_make ?_) | (with_reducible refine hold_copy ?_))
      refine (head_any _).mono ?_
      rintro e w8 ⟨rfl, hB8⟩
      go_wp2_with (first | (with_reducible refine hold_append ?_) | (with_reducible refine hold_make ?_) | (with_reducible refine hold_copy ?_))
      go_ret
      exact ⟨rfl, hB.trans (hB8.mono hB.size)⟩
end Go.PH

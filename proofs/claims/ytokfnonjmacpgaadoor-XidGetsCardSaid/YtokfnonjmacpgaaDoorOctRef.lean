/- The walks of the reference's reader. -/
import Derived.Test.YtokfnonjmacpgaaDoorOctRWidth
import Derived.Test.YtokfnonjmacpgaaDoorOctRead2
import Derived.Test.YtokfnonjmacpgaaDoorMem2
namespace Go.PH
open Go.RowKit Go.Proofs

/-- the reference's reader in block b -/
def Qrd (F : Nat → Prop) (w : World) (b : Nat) (l : List UInt8) (bad : Bool) : Prop :=
  ∃ A n c, w.cell? ⟨b, 0, none⟩ = some (.slice A n c) ∧ w.cell? ⟨b, 1, none⟩ = some (.bool bad) ∧ w.frozen? ⟨b, 0, none⟩ = false ∧ w.frozen? ⟨b, 1, none⟩ = false ∧ RdB w w.heap.size A n c l ∧ blk A ≠ some b ∧ n ≤ 140737488351240 ∧ F b ∧ ∀ g, blk A = some g → F g
theorem Qrd.len {F : Nat → Prop} {w : World} {b : Nat} {l : List UInt8} {bad : Bool} (h : Qrd F w b l bad) : l.length ≤ 140737488351240 := by
  obtain ⟨A, n, c, _, _, _, _, hr, _, hn, _⟩ := h
  rw [hr.length]; exact hn
theorem Qrd.lt {F : Nat → Prop} {w : World} {b : Nat} {l : List UInt8} {bad : Bool} (h : Qrd F w b l bad) : b < w.heap.size := by
  obtain ⟨A, n, c, h0, _⟩ := h
  exact World.block_lt_of_cell? w _ h0

theorem Qrd.kept {F : Nat → Prop} {w w' : World} {b : Nat} {l : List UInt8} {bad : Bool} {row : Option Nat} (h : Qrd F w b l bad) (hg : w.grownBy w' row) (hne : ∀ g, row = some g → ¬ F g) : Qrd F w' b l bad := by
  obtain ⟨A, n, c, h0, h1, hf0, hf1, hr, hA, hn, hF, hF2⟩ := h
  have hb : b < w.heap.size := World.block_lt_of_cell? w _ h0
  refine ⟨A, n, c, hg.cell h0 (fun e => hne _ e.symm hF), hg.cell h1 (fun e => hne _ e.symm hF), (hg.frozen_far ⟨b, 0, none⟩ hb (fun e => hne _ e.symm hF)).trans hf0, (hg.frozen_far ⟨b, 1, none⟩ hb (fun e => hne _ e.symm hF)).trans hf1, (hr.grown_ne hg (Nat.le_refl _) ?_).more hg.size, hA, hn, hF, hF2⟩
  rcases hA : blk A with _ | g
  · exact .inl rfl
  · exact .inr fun e => hne g e.symm (hF2 g hA)
theorem Qrd.below {F : Nat → Prop} {w w' : World} {b : Nat} {l : List UInt8} {bad : Bool} (h : Qrd F w b l bad) (hB : Below w.heap.size w w') : Qrd F w' b l bad := h.kept (grownOf hB none) (by simp)
theorem Qrd.drew {F : Nat → Prop} {w : World} {b : Nat} {l : List UInt8} {bad : Bool} (h : Qrd F w b l bad) : Qrd F w.drew b l bad := h.kept (grownDrew w none) (by simp)
theorem Qrd.inF {F : Nat → Prop} {w : World} {b : Nat} {l : List UInt8} {bad : Bool} (h : Qrd F w b l bad) : F b := by
  obtain ⟨A, n, c, h0, h1, hf0, hf1, hr, hA, hn, hF, hF2⟩ := h
  exact hF
theorem qspoil_any {F : Nat → Prop} {w : World} {b : Nat} {l : List UInt8} {bad : Bool} (h : Qrd F w b l bad) :
    Calls Tryd.prog 72 #[.pointer (some ⟨b, 0, none⟩)] w fun e w' => e = .returned (.tuple #[]) ∧ Qrd F w' b [] true ∧ w.grownBy w' (some b) := by
  obtain ⟨A, n, c, h0, h1, hf0, hf1, hr, hA, hn, hF⟩ := h
  go_enter Tryd.func72, Tryd.ntmps72
  go_wp2_with (first | (with_reducible refine hold_append ?_) | (with_reducible refine hold_make ?_) | (with_reducible refine hold_copy ?_))
  go_end0
  refine ⟨rfl, ⟨none, 0, 0, ?_, ?_, ?_, ?_, Rd.nil _ _ _ _ (by simp [maxLen]) _, by simp [blk], by omega, hF.1, by simp [blk]⟩, (grownSet w ⟨b, 1, none⟩ (.bool true)).trans (grownSet _ ⟨b, 0, none⟩ (.slice none 0 0))⟩
  · refine World.cell?_setCell_same _ _ _ (u := .slice A n c) ?_
    rw [World.cell?_setCell_other _ _ _ _ (by simp)]
    exact h0
  · rw [World.cell?_setCell_other _ _ _ _ (by simp)]
    exact World.cell?_setCell_same _ _ _ h1
  · simp [hf0]
  · simp [hf1]

set_option maxHeartbeats 1000000 in
theorem qtake_any {F : Nat → Prop} {w : World} {b : Nat} {l : List UInt8} {bad : Bool} (h : Qrd F w b l bad) (x : Int) (hx : -9223372036854775808 ≤ x) (hx' : x ≤ 9223372036854775807) :
    Calls Tryd.prog 73 #[.pointer (some ⟨b, 0, none⟩), .int .i64 x] w fun e w' => ∃ A2 c2, e = .returned (.slice A2 (mtake l bad x).1.length c2) ∧ Own w' w.heap.size 5 1 A2 (mtake l bad x).1.length c2 ((mtake l bad x).1.map u8v) ∧
      Qrd F w' b (mtake l bad x).2.1 (mtake l bad x).2.2 ∧ w.grownBy w' (some b) := by
  have h' := h
  obtain ⟨A, n, c, h0, h1, hf0, hf1, hr, hA, hn, hF⟩ := h
  have hl := hr.length
  have hcap := hr.cap
  by_cases hbad : bad = true
  · subst hbad
    rw [mtake_no (.inl rfl)]
    go_enter Tryd.func73, Tryd.ntmps73
    go_wp2_with (first | (with_reducible refine hold_append ?_) | (with_reducible refine hold_make ?_) | (with_reducible refine hold_copy ?_))
    refine (qspoil_any h').mono ?_
    rintro e w1 ⟨rfl, h1, hg1⟩
    go_wp2_with (first | (with_reducible refine hold_append ?_) | (with_reducible refine hold_make ?_) | (with_reducible refine hold_copy ?_))
    go_ret
    exact ⟨none, 0, rfl, Own.none_ _ _ _ _, h1, hg1⟩
  obtain rfl : bad = false := by simpa using hbad
  by_cases hneg : x < 0
  · rw [mtake_no (.inr (.inl hneg))]
    go_enter Tryd.func73, Tryd.ntmps73
    go_wp2_with (first | (with_reducible refine hold_append ?_) | (with_reducible refine hold_make ?_) | (with_reducible refine hold_copy ?_))
    refine (qspoil_any h').mono ?_
    rintro e w1 ⟨rfl, h1, hg1⟩
    go_wp2_with (first | (with_reducible refine hold_append ?_) | (with_reducible refine hold_make ?_) | (with_reducible refine hold_copy ?_))
    go_ret
    exact ⟨none, 0, rfl, Own.none_ _ _ _ _, h1, hg1⟩
  by_cases hlen : (l.length : Int) < x
  · have hlen' : (n : Int) < x := by omega
    rw [mtake_no (.inr (.inr hlen))]
    go_enter Tryd.func73, Tryd.ntmps73
    go_wp2_with (first | (with_reducible refine hold_append ?_) | (with_reducible refine hold_make ?_) | (with_reducible refine hold_copy ?_))
    refine (qspoil_any h').mono ?_
    rintro e w1 ⟨rfl, h1, hg1⟩
    go_wp2_with (first | (with_reducible refine hold_append ?_) | (with_reducible refine hold_make ?_) | (with_reducible refine hold_copy ?_))
    go_ret
    exact ⟨none, 0, rfl, Own.none_ _ _ _ _, h1, hg1⟩
  obtain ⟨m, rfl⟩ : ∃ m : Nat, x = m := ⟨x.toNat, by omega⟩
  have hm : m ≤ l.length := by omega
  have hmn : m ≤ n := by omega
  rw [mtake_yes hm]
  simp only [List.length_take, Nat.min_eq_left hm]
  go_enter Tryd.func73, Tryd.ntmps73
  go_wp2_with (first | (with_reducible refine hold_append ?_) | (with_reducible refine hold_make ?_) | (with_reducible refine hold_copy ?_) | (with_reducible refine hold_slice ?_))
  refine unhold (wp_cut slB rfl rfl rfl hr 0 m c (.inl ⟨rfl, rfl⟩) (.inr ⟨_, _, rfl, rfl⟩) (.inl ⟨rfl, rfl⟩) (by intro h; cases h) (by omega) (by omega) (Nat.le_refl _) (by omega) ?_)
  intro A1 hr1
  simp only [Nat.zero_mul, Nat.mul_one, List.drop_zero, ← List.map_take, Nat.sub_zero] at hr1
  go_wp2_with (first | (with_reducible refine hold_append ?_) | (with_reducible refine hold_make ?_) | (with_reducible refine hold_copy ?_) | (with_reducible refine hold_slice ?_))
  refine unhold (wp_app slB rfl rfl rfl rfl (Own.none_ w w.heap.size _ _) hr1 (map_one _) (by omega) (by simp [maxLen]; omega) (Nat.le_refl _) ?_)
  intro A2 c2 w1 ho2 hg1 _
  have hB : Below w.heap.size w w1 := (Below.refl _ _).grown hg1 (Nat.le_refl _) (by simp [blk])
  simp only [Nat.zero_add, List.nil_append] at ho2
  have hbw : b < w.heap.size := World.block_lt_of_cell? w _ h0
  have h01 : w1.cell? ⟨b, 0, none⟩ = some (.slice A n c) := (hB.cell (p := ⟨b, 0, none⟩) hbw).trans h0
  have h11 : w1.cell? ⟨b, 1, none⟩ = some (.bool false) := (hB.cell (p := ⟨b, 1, none⟩) hbw).trans h1
  have hf01 : w1.frozen? ⟨b, 0, none⟩ = false := (World.frozen?_of_block (hB.block b hbw)).trans hf0
  have hf11 : w1.frozen? ⟨b, 1, none⟩ = false := (World.frozen?_of_block (hB.block b hbw)).trans hf1
  have hrr : RdB w1 w.heap.size A n c l := hr.below hB
  go_wp2_with (first | (with_reducible refine hold_append ?_) | (with_reducible refine hold_make ?_) | (with_reducible refine hold_copy ?_) | (with_reducible refine hold_slice ?_))
  refine unhold (wp_cutB slB rfl rfl rfl hrr m n c (.inr ⟨_, _, rfl, rfl⟩) (.inl ⟨rfl, rfl⟩) (.inl ⟨rfl, rfl⟩) (by intro h; cases h) (by omega) (by omega) (Nat.le_refl _) (by omega) ?_)
  intro A3 hr3 hAe
  have hA3 : blk A3 ≠ some b := by rw [hAe]; exact hA
  go_wp2_with (first | (with_reducible refine hold_append ?_) | (with_reducible refine hold_make ?_) | (with_reducible refine hold_copy ?_) | (with_reducible refine hold_slice ?_))
  go_ret
  have hge : ∀ g, blk A2 = some g → w.heap.size ≤ g := fun g hg => (ho2.blk_lt hg).1
  have hg0 := grownSet w1 ⟨b, 0, none⟩ (.slice A3 (n - m) (c - m))
  refine ⟨A2, c2, by simp [Array.getD], ?_, ?_, ?_⟩
  · refine ho2.kept hg0 (.inr fun e => ?_)
    rw [ownBlock_eq] at e
    have : w.heap.size ≤ b := hge _ e
    omega
  · refine ⟨A3, n - m, c - m, ?_, ?_, ?_, ?_, ?_, hA3, by omega, hF.1, fun g hg => hF.2 g (by rwa [hAe] at hg)⟩
    · exact World.cell?_setCell_same _ _ _ h01
    · exact (World.cell?_setCell_other _ _ _ _ (by simp)).trans h11
    · simpa using hf01
    · simpa using hf11
    · have e3 : (((l.map u8v).take (n * 1)).drop (m * 1)) = (l.drop m).map u8v := by
        rw [Nat.mul_one, Nat.mul_one, List.take_of_length_le (by simp; omega), List.map_drop]
      rw [e3] at hr3
      have h4 : RdB w1 w1.heap.size A3 (n - m) (c - m) (l.drop m) := hr3.more hB.size
      exact (h4.grown_ne hg0 (Nat.le_refl _) (.inr hA3)).more hg0.size
  · exact (grownOf hB (some b)).trans hg0

theorem qopen_any (A : Option Addr) (n c : Nat) (l : List UInt8) (w : World) (hb : RdB w w.heap.size A n c l) (hn : n ≤ 140737488351240) :
    Calls Tryd.prog 48 #[.slice A n c] w fun e w' => ∃ b, e = .returned (.pointer (some ⟨b, 0, none⟩)) ∧ w.heap.size ≤ b ∧ Qrd (fun g => w.heap.size ≤ g ∧ g < w'.heap.size) w' b l false ∧ Below w.heap.size w w' := by
  have hl := hb.length
  go_enter Tryd.func48, Tryd.ntmps48
  go_wp2_with (first | (with_reducible refine hold_append ?_) | (with_reducible refine hold_make ?_) | (with_reducible refine hold_copy ?_))
  refine unhold (wp_app slB rfl rfl rfl rfl (Own.none_ w w.heap.size _ _) hb (map_one _) (by omega) (by simp [maxLen]; omega) (Nat.le_refl _) ?_)
  intro A2 c2 w1 ho2 hg1 _
  have hB : Below w.heap.size w w1 := (Below.refl _ _).grown hg1 (Nat.le_refl _) (by simp [blk])
  simp only [Nat.zero_add, List.nil_append] at ho2
  go_wp2_with (first | (with_reducible refine hold_append ?_) | (with_reducible refine hold_make ?_) | (with_reducible refine hold_copy ?_))
  go_ret
  refine ⟨w1.heap.size, by first | rfl | simp [Array.getD], hB.size, ⟨A2, n, c2, ?_, ?_, ?_, ?_, ?_, ?_, hn, ?_, ?_⟩, hB.alloc hB.size _⟩
  · simp
  · simp
  · simp
  · simp
  · exact Own.rd (base := w.heap.size) (e := 5) (ho2.alloc _)
  · intro e
    have := (ho2.blk_lt e).2
    omega
  · have := hB.size; simp; omega
  · intro g hg
    have h1 := (ho2.blk_lt hg).1
    have h2 := (ho2.blk_lt hg).2
    simp; omega

theorem be_add (k x : Nat) (hk : k < 72057594037927936) (_hx : x < 256) : IntKind.u64.wrap (256 * (k : Int)) + (x : Int) = ((256 * k + x : Nat) : Int) := by
  rw [IntKind.wrap_u64]; omega

set_option maxHeartbeats 1000000 in
theorem qnum_any {F : Nat → Prop} {w : World} {b : Nat} {l : List UInt8} {bad : Bool} (h : Qrd F w b l bad) (x : Int) (hx : -9223372036854775808 ≤ x) (hx' : x ≤ 9223372036854775807) :
    Calls Tryd.prog 49 #[.pointer (some ⟨b, 0, none⟩), .int .i64 x] w fun e w' => e = .returned (.int .u64 ((mnum l bad x).1 : Nat)) ∧ Qrd F w' b (mnum l bad x).2.1 (mnum l bad x).2.2 ∧ w.grownBy w' (some b) := by
  by_cases hw : wideB x = true
  · rw [mnum_yes hw]
    have hlo : (mtake l bad x).1.length ≤ 8 := by
      have := wideB_le hw
      unfold mtake
      split
      · simp
      · simp only [List.length_take]; omega
    have hT := qtake_any h x hx hx'
    generalize mtake l bad x = r at hT hlo ⊢
    obtain ⟨o, l', bad'⟩ := r
    simp only at hT hlo ⊢
    go_enter Tryd.func49, Tryd.ntmps49
    go_wp2_with (first | (with_reducible refine hold_append ?_) | (with_reducible refine hold_make ?_) | (with_reducible refine hold_copy ?_))
    refine (rwidth_any x w).mono ?_
    rw [hw]
    rintro e w' ⟨rfl, rfl⟩
    go_wp2_with (first | (with_reducible refine hold_append ?_) | (with_reducible refine hold_make ?_) | (with_reducible refine hold_copy ?_))
    refine hT.mono ?_
    rintro e w1 ⟨A2, c2, rfl, ho, hR, hg⟩
    go_wp2_with (first | (with_reducible refine hold_append ?_) | (with_reducible refine hold_make ?_) | (with_reducible refine hold_copy ?_))
    go_loopw [7, 6] (fun i s wr => wr = w1 ∧ ∃ k : Nat, k ≤ o.length ∧ i = .int .i64 k ∧ s = .int .u64 (unbe (o.take k) : Nat)) (fun i _ _ => o.length - (intOf i).toNat)
    case atStart => exact ⟨rfl, 0, by omega, rfl, by simp [unbe_nil]⟩
    case round =>
      obtain ⟨rfl, k, hk, rfl, rfl⟩ := hrel
      by_cases hlt : k < o.length
      · obtain ⟨b, off, rfl, hbB, hkl, hcell⟩ := RdB.at_k ho.rd (k := k) hlt
        have hby := o[k].toNat_lt
        have hsn : unbe (o.take (k + 1)) = 256 * unbe (o.take k) + o[k].toNat := by
          rw [List.take_succ_eq_append_getElem hkl]; exact unbe_snoc _ _
        have hlt7 : unbe (o.take k) < 72057594037927936 := by
          refine Nat.lt_of_lt_of_le (unbe_lt _) ?_
          refine Nat.le_trans (Nat.pow_le_pow_right (by omega) (show (o.take k).length ≤ 7 by rw [List.length_take]; omega)) (by decide)
        have HSN := Lib.hid hsn
        clear hsn
        generalize unbe (o.take k) = s0 at hlt7 HSN ⊢
        go_wp2_with (first | (with_reducible refine hold_append ?_) | (with_reducible refine hold_make ?_) | (with_reducible refine hold_copy ?_))
        exact ⟨⟨trivial, k + 1, by omega, by go_num, by rw [HSN.out]; simp⟩, by simp [intOf]; omega⟩
      · obtain rfl : k = o.length := by omega
        rw [List.take_length]
        go_wp2_with (first | (with_reducible refine hold_append ?_) | (with_reducible refine hold_make ?_) | (with_reducible refine hold_copy ?_))
        go_ret
        exact ⟨rfl, hR, hg⟩
  · have hw' : wideB x = false := by simpa using hw
    rw [mnum_no hw']
    go_enter Tryd.func49, Tryd.ntmps49
    go_wp2_with (first | (with_reducible refine hold_append ?_) | (with_reducible refine hold_make ?_) | (with_reducible refine hold_copy ?_))
    refine (rwidth_any x w).mono ?_
    rw [hw']
    rintro e w' ⟨rfl, rfl⟩
    go_wp2_with (first | (with_reducible refine hold_append ?_) | (with_reducible refine hold_make ?_) | (with_reducible refine hold_copy ?_))
    refine (qspoil_any h).mono ?_
    rintro e w1 ⟨rfl, h1, hg1⟩
    go_wp2_with (first | (with_reducible refine hold_append ?_) | (with_reducible refine hold_make ?_) | (with_reducible refine hold_copy ?_))
    go_ret
    exact ⟨rfl, h1, hg1⟩

end Go.PH

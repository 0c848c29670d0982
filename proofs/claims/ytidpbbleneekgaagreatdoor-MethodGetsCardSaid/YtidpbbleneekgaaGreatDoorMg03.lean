/- Texts laid together: OctRead2, OctReadText, OctRef, OctRefNum, OctRefPut, OctRefText, SpMath, SpMath2, SpMath3, SpMath4, SpMath5, SpMath6, SpMath7, SpMem. -/
import Derived.Laws.BitsAllLaws
import Derived.Laws.Bits64
import Derived.Test.YtidpbbleneekgaaGreatDoorMg00
import Derived.Test.YtidpbbleneekgaaGreatDoorMg01
import Derived.Test.YtidpbbleneekgaaGreatDoorMg02
set_option linter.all false
set_option linter.unusedSimpArgs false
set_option linter.unusedVariables false
section
/- The walks of octet's reader: making one, reading numbers and texts. -/
namespace Go.PH
open Go.RowKit Go.Proofs

theorem rdopen_any (A : Option Addr) (n c : Nat) (l : List UInt8) (w : World) (hb : RdB w w.heap.size A n c l) (hn : n ≤ 140737488351240) :
  Calls Tryz.prog 18 #[.slice A n c] w fun e w' => ∃ rb b, e = .returned (.pointer (some ⟨rb, 0, none⟩)) ∧ w.heap.size ≤ rb ∧ w.heap.size ≤ b ∧ Rdr (fun g => w.heap.size ≤ g ∧ g < w'.heap.size) w' (.pointer (some ⟨rb, 0, none⟩)) (some b) l false ∧ Below w.heap.size w w' := by
 go_enter Tryz.func18, Tryz.ntmps18
 go_wp2_with (with_reducible refine h_A ?_)
 refine (clone_any A n c l w hb hn).mono ?_
 rintro e w1 ⟨A2, c2, rfl, ho2, hB⟩
 go_wp2_with (with_reducible refine h_A ?_)
 go_ret
 have hB1 : Below w.heap.size w (w1.alloc (.cells #[.slice A2 n c2, .bool true, .bool false] 88)) := hB.alloc hB.size _
 refine ⟨w1.heap.size + 1, w1.heap.size, rfl, by have := hB.size; omega, hB.size, .inr (.inr ⟨_, _, A2, n, c2, rfl, rfl, by omega, ?_, ?_, ?_, ?_, ?_, ?_, ?_, ?_, hn, ?_, ?_, ?_⟩), hB1.alloc (by have := hB1.size; omega) _⟩
 ·simp
 ·simp
 ·simp
 ·simp
 ·simp
 ·simp
 ·exact Own.rd (base := w.heap.size) (e := 5) ((ho2.alloc _).alloc _)
 ·intro e
  have := (ho2.blk_lt e).2
  omega
 ·have := hB.size; simp; omega
 ·have := hB.size; simp; omega
 ·intro g hg
  have h1 := (ho2.blk_lt hg).1
  have h2 := (ho2.blk_lt hg).2
  simp; omega

theorem be_push (k x : Nat) (hk : k < 72057594037927936) (hx : x < 256) : bits .or .u64 (IntKind.u64.wrap ((k : Int) * 256)) (x : Int) = ((256 * k + x : Nat) : Int) := by
 have h1 : IntKind.u64.wrap ((k : Int) * 256) = ((256 * k : Nat) : Int) := by rw [IntKind.wrap_u64]; omega
 rw [h1, u64_or_nat _ _ (by omega) (by omega)]
 have := Nat.two_pow_add_eq_or_of_lt (i := 8) (b := x) (by omega) k
 rw [← this]

set_option maxHeartbeats 1000000 in
theorem rdnum_any {F : Nat → Prop} {w : World} {v : Value} {vb : Option Nat} {l : List UInt8} {bad : Bool} (h : Rdr F w v vb l bad) (x : Int) (hx : -9223372036854775808 ≤ x) (hx' : x ≤ 9223372036854775807) :
  Calls Tryz.prog 19 #[v, .int .i64 x] w fun e w' => e = .returned (.int .u64 ((mnum l bad x).1 : Nat)) ∧ Rdr F w' v vb (mnum l bad x).2.1 (mnum l bad x).2.2 ∧ w.grownBy w' vb := by
 by_cases hw : wideB x = true
 ·rw [mnum_yes hw]
  have hlo : (mtake l bad x).1.length ≤ 8 := by
   have := wideB_le hw
   unfold mtake
   split
   ·simp
   ·simp only [List.length_take]; omega
  have hT := rdtake_any h x hx hx'
  generalize mtake l bad x = r at hT hlo ⊢
  obtain ⟨o, l', bad'⟩ := r
  simp only at hT hlo ⊢
  go_enter Tryz.func19, Tryz.ntmps19
  go_wp2_with (with_reducible refine h_A ?_)
  refine (wide_any x w).mono ?_
  rw [hw]
  rintro e w' ⟨rfl, rfl⟩
  go_wp2_with (with_reducible refine h_A ?_)
  refine hT.mono ?_
  rintro e w1 ⟨A2, c2, rfl, ho, hR, hg⟩
  go_wp2_with (with_reducible refine h_A ?_)
  go_loopw [17, 5] (fun i s wr => wr = w1 ∧ ∃ k : Nat, k ≤ o.length ∧ i = .int .i64 k ∧ s = .int .u64 (unbe (o.take k) : Nat)) (fun i _ _ => o.length - (RowKit.intOf i).toNat)
  case atStart => exact ⟨rfl, 0, by omega, rfl, by simp [unbe_nil]⟩
  case round =>
   obtain ⟨rfl, k, hk, rfl, rfl⟩ := hrel
   by_cases hlt : k < o.length
   ·obtain ⟨b, off, rfl, hbB, hkl, hcell⟩ := RdB.at_k ho.rd (k := k) hlt
    have hby := o[k].toNat_lt
    go_wp2_with (with_reducible refine h_A ?_)
    have hsn : unbe (o.take (k + 1)) = 256 * unbe (o.take k) + o[k].toNat := by
     rw [List.take_succ_eq_append_getElem hkl]; exact unbe_snoc _ _
    have hlt7 : unbe (o.take k) < 72057594037927936 := by
     refine Nat.lt_of_lt_of_le (unbe_lt _) ?_
     refine Nat.le_trans (Nat.pow_le_pow_right (by omega) (show (o.take k).length ≤ 7 by rw [List.length_take]; omega)) (by decide)
    exact ⟨⟨trivial, k + 1, by omega, by go_num, by rw [be_push _ _ hlt7 hby, hsn]⟩, by simp [RowKit.intOf]; omega⟩
   ·obtain rfl : k = o.length := by omega
    rw [List.take_length]
    go_wp2_with (with_reducible refine h_A ?_)
    go_ret
    exact ⟨rfl, hR, hg⟩
 ·have hw' : wideB x = false := by simpa using hw
  rw [mnum_no hw']
  go_enter Tryz.func19, Tryz.ntmps19
  go_wp2_with (with_reducible refine h_A ?_)
  refine (wide_any x w).mono ?_
  rw [hw']
  rintro e w' ⟨rfl, rfl⟩
  go_wp2_with (with_reducible refine h_A ?_)
  refine (rdspoil_any h).mono ?_
  rintro e w1 ⟨rfl, h1, hg1⟩
  go_wp2_with (with_reducible refine h_A ?_)
  go_ret
  exact ⟨rfl, h1, hg1⟩

end Go.PH
end
section
/- The walk of octet's Text. -/
namespace Go.PH
open Go.RowKit Go.Proofs

set_option maxHeartbeats 1000000 in
theorem rdtext_any {F : Nat → Prop} {w : World} {v : Value} {vb : Option Nat} {l : List UInt8} {bad : Bool} (h : Rdr F w v vb l bad) (x most : Int) (hx : -9223372036854775808 ≤ x) (hx' : x ≤ 9223372036854775807) (hm : -9223372036854775808 ≤ most) (hm' : most ≤ 9223372036854775807) :
  Calls Tryz.prog 84 #[v, .int .i64 x, .int .i64 most] w fun e w' => e = .returned (.string (str (mtext l bad x most).1)) ∧ Rdr F w' v vb (mtext l bad x most).2.1 (mtext l bad x most).2.2 ∧ w.grownBy w' vb := by
 by_cases h8 : x = 8
 ·subst h8
  rw [mtext_no (by omega)]
  go_enter Tryz.func84, Tryz.ntmps84
  go_wp2_with (with_reducible refine h_A ?_)
  refine (rdspoil_any h).mono ?_
  rintro e w1 ⟨rfl, h1, hg1⟩
  go_wp2_with (with_reducible refine h_A ?_)
  go_ret
  exact ⟨rfl, h1, hg1⟩
 have hN := rdnum_any h x hx hx'
 have hlt := mnum_lt l bad x
 rw [mtext_eq h8]
 generalize mnum l bad x = r at hN hlt ⊢
 obtain ⟨n, l', bad'⟩ := r
 simp only at hN hlt ⊢
 by_cases hb : bad' = true
 ·subst hb
  rw [if_pos (.inl rfl)]
  go_enter Tryz.func84, Tryz.ntmps84
  go_wp2_with (with_reducible refine h_A ?_)
  refine hN.mono ?_
  rintro e w1 ⟨rfl, h1, hg1⟩
  go_wp2_with (with_reducible refine h_A ?_)
  refine (rdbad_any h1).mono ?_
  rintro e w2 ⟨rfl, rfl⟩
  go_wp2_with (with_reducible refine h_A ?_)
  refine (rdspoil_any h1).mono ?_
  rintro e w3 ⟨rfl, h3, hg3⟩
  go_wp2_with (with_reducible refine h_A ?_)
  go_ret
  exact ⟨rfl, h3, hg1.trans hg3⟩
 obtain rfl : bad' = false := by simpa using hb
 by_cases hneg : most < 0
 ·rw [if_pos (.inr (.inl hneg))]
  go_enter Tryz.func84, Tryz.ntmps84
  go_wp2_with (with_reducible refine h_A ?_)
  refine hN.mono ?_
  rintro e w1 ⟨rfl, h1, hg1⟩
  go_wp2_with (with_reducible refine h_A ?_)
  refine (rdbad_any h1).mono ?_
  rintro e w2 ⟨rfl, rfl⟩
  go_wp2_with (with_reducible refine h_A ?_)
  refine (rdspoil_any h1).mono ?_
  rintro e w3 ⟨rfl, h3, hg3⟩
  go_wp2_with (with_reducible refine h_A ?_)
  go_ret
  exact ⟨rfl, h3, hg1.trans hg3⟩
 by_cases hmore : most < (n : Int)
 ·rw [if_pos (.inr (.inr (.inl hmore)))]
  go_enter Tryz.func84, Tryz.ntmps84
  go_wp2_with (with_reducible refine h_A ?_)
  refine hN.mono ?_
  rintro e w1 ⟨rfl, h1, hg1⟩
  go_wp2_with (with_reducible refine h_A ?_)
  refine (rdbad_any h1).mono ?_
  rintro e w2 ⟨rfl, rfl⟩
  go_wp2_with (with_reducible refine h_A ?_)
  refine (rdspoil_any h1).mono ?_
  rintro e w3 ⟨rfl, h3, hg3⟩
  go_wp2_with (with_reducible refine h_A ?_)
  go_ret
  exact ⟨rfl, h3, hg1.trans hg3⟩
 by_cases hleft : l'.length < n
 ·rw [if_pos (.inr (.inr (.inr hleft)))]
  go_enter Tryz.func84, Tryz.ntmps84
  go_wp2_with (with_reducible refine h_A ?_)
  refine hN.mono ?_
  rintro e w1 ⟨rfl, h1, hg1⟩
  have hll := h1.len
  go_wp2_with (with_reducible refine h_A ?_)
  refine (rdbad_any h1).mono ?_
  rintro e w2 ⟨rfl, rfl⟩
  go_wp2_with (with_reducible refine h_A ?_)
  refine (rdleft_any h1).mono ?_
  rintro e w2 ⟨rfl, rfl⟩
  go_wp2_with (with_reducible refine h_A ?_)
  refine (rdspoil_any h1).mono ?_
  rintro e w3 ⟨rfl, h3, hg3⟩
  go_wp2_with (with_reducible refine h_A ?_)
  go_ret
  exact ⟨rfl, h3, hg1.trans hg3⟩
 rw [if_neg (by simp; omega), mtake_yes (by omega)]
 have hn63 : (n : Int) ≤ 9223372036854775807 := by omega
 have hleft' : ¬ ((l'.length : Int) < (n : Int)) := by omega
 have hneg' : 0 ≤ most := by omega
 have hmore' : (n : Int) ≤ most := by omega
 go_enter Tryz.func84, Tryz.ntmps84
 go_wp2_with (with_reducible refine h_A ?_)
 refine hN.mono ?_
 rintro e w1 ⟨rfl, h1, hg1⟩
 have hll := h1.len
 go_wp2_with (with_reducible refine h_A ?_)
 refine (rdbad_any h1).mono ?_
 rintro e w2 ⟨rfl, rfl⟩
 go_wp2_with (with_reducible refine h_A ?_)
 refine (rdleft_any h1).mono ?_
 rintro e w2 ⟨rfl, rfl⟩
 go_wp2_with (with_reducible refine h_A ?_)
 have hT := rdtake_any h1 (n : Int) (by omega) (by omega)
 rw [mtake_yes (by omega)] at hT
 simp only [List.length_take, Nat.min_eq_left (Nat.le_of_not_lt hleft)] at hT
 refine hT.mono ?_
 rintro e w3 ⟨A3, c3, rfl, ho3, h3, hg3⟩
 have hcv := run_strB ho3.rd
 go_wp2_with (with_reducible refine h_A ?_)
 go_ret
 exact ⟨rfl, h3, hg1.trans hg3⟩
end Go.PH
end
section
/- The walks of the reference's reader. -/
namespace Go.PH
open Go.RowKit Go.Proofs

/-- the reference's reader in block b -/
def Qrd (F : Nat → Prop) (w : World) (b : Nat) (l : List UInt8) (bad : Bool) : Prop :=
 ∃ A n c, w.cell? ⟨b, 0, none⟩ = some (.slice A n c) ∧ w.cell? ⟨b, 1, none⟩ = some (.bool bad) ∧ w.frozen? ⟨b, 0, none⟩ = false ∧ w.frozen? ⟨b, 1, none⟩ = false ∧ RdB w w.heap.size A n c l ∧ blk A ≠ some b ∧ n ≤ 140737488351240 ∧ F b ∧ ∀ g, blk A = some g → F g
theorem Qrd.len {F : Nat → Prop} {w : World} {b : Nat} {l : List UInt8} {bad : Bool} (h : Qrd F w b l bad) : l.length ≤ 140737488351240 := by
 obtain ⟨A, n, c, _, _, _, _, hr, _, hn, _⟩ := h
 rw [hr.length]; exact hn
theorem Qrd.lt {F : Nat → Prop} {w : World} {b : Nat} {l : List UInt8} {bad : Bool} (h : Qrd F w b l bad) : b < w.heap.size := by
 obtain ⟨A, n, c, h0, _⟩ := h
 exact World.block_lt_of_cell? w _ h0

theorem Qrd.kept {F : Nat → Prop} {w w' : World} {b : Nat} {l : List UInt8} {bad : Bool} {row : Option Nat} (h : Qrd F w b l bad) (hg : w.grownBy w' row) (hne : ∀ g, row = some g → ¬ F g) : Qrd F w' b l bad := by
 obtain ⟨A, n, c, h0, h1, hf0, hf1, hr, hA, hn, hF, hF2⟩ := h
 have hb : b < w.heap.size := World.block_lt_of_cell? w _ h0
 refine ⟨A, n, c, hg.cell h0 (fun e => hne _ e.symm hF), hg.cell h1 (fun e => hne _ e.symm hF), (hg.frozen_far ⟨b, 0, none⟩ hb (fun e => hne _ e.symm hF)).trans hf0, (hg.frozen_far ⟨b, 1, none⟩ hb (fun e => hne _ e.symm hF)).trans hf1, (hr.grown_ne hg (Nat.le_refl _) ?_).more hg.size, hA, hn, hF, hF2⟩
 rcases hA : blk A with _ | g
 ·exact .inl rfl
 ·exact .inr fun e => hne g e.symm (hF2 g hA)
theorem Qrd.below {F : Nat → Prop} {w w' : World} {b : Nat} {l : List UInt8} {bad : Bool} (h : Qrd F w b l bad) (hB : Below w.heap.size w w') : Qrd F w' b l bad := h.kept (grownOf hB none) (by simp)
theorem Qrd.drew {F : Nat → Prop} {w : World} {b : Nat} {l : List UInt8} {bad : Bool} (h : Qrd F w b l bad) : Qrd F w.drew b l bad := h.kept (grownDrew w none) (by simp)
theorem Qrd.inF {F : Nat → Prop} {w : World} {b : Nat} {l : List UInt8} {bad : Bool} (h : Qrd F w b l bad) : F b := by
 obtain ⟨A, n, c, h0, h1, hf0, hf1, hr, hA, hn, hF, hF2⟩ := h
 exact hF
theorem qspoil_any {F : Nat → Prop} {w : World} {b : Nat} {l : List UInt8} {bad : Bool} (h : Qrd F w b l bad) :
  Calls Tryz.prog 91 #[.pointer (some ⟨b, 0, none⟩)] w fun e w' => e = .returned (.tuple #[]) ∧ Qrd F w' b [] true ∧ w.grownBy w' (some b) := by
 obtain ⟨A, n, c, h0, h1, hf0, hf1, hr, hA, hn, hF⟩ := h
 go_enter Tryz.func91, Tryz.ntmps91
 go_wp2_with (with_reducible refine h_A ?_)
 go_end0
 refine ⟨rfl, ⟨none, 0, 0, ?_, ?_, ?_, ?_, Rd.nil _ _ _ _ (by simp [maxLen]) _, by simp [blk], by omega, hF.1, by simp [blk]⟩, (grownSet w ⟨b, 1, none⟩ (.bool true)).trans (grownSet _ ⟨b, 0, none⟩ (.slice none 0 0))⟩
 ·refine World.cell?_setCell_same _ _ _ (u := .slice A n c) ?_
  rw [World.cell?_setCell_other _ _ _ _ (by simp)]
  exact h0
 ·rw [World.cell?_setCell_other _ _ _ _ (by simp)]
  exact World.cell?_setCell_same _ _ _ h1
 ·simp [hf0]
 ·simp [hf1]

set_option maxHeartbeats 1000000 in
theorem qtake_any {F : Nat → Prop} {w : World} {b : Nat} {l : List UInt8} {bad : Bool} (h : Qrd F w b l bad) (x : Int) (hx : -9223372036854775808 ≤ x) (hx' : x ≤ 9223372036854775807) :
  Calls Tryz.prog 92 #[.pointer (some ⟨b, 0, none⟩), .int .i64 x] w fun e w' => ∃ A2 c2, e = .returned (.slice A2 (mtake l bad x).1.length c2) ∧ Own w' w.heap.size 5 1 A2 (mtake l bad x).1.length c2 ((mtake l bad x).1.map u8v) ∧
   Qrd F w' b (mtake l bad x).2.1 (mtake l bad x).2.2 ∧ w.grownBy w' (some b) := by
 have h' := h
 obtain ⟨A, n, c, h0, h1, hf0, hf1, hr, hA, hn, hF⟩ := h
 have hl := hr.length
 have hcap := hr.cap
 by_cases hbad : bad = true
 ·subst hbad
  rw [mtake_no (.inl rfl)]
  go_enter Tryz.func92, Tryz.ntmps92
  go_wp2_with (with_reducible refine h_A ?_)
  refine (qspoil_any h').mono ?_
  rintro e w1 ⟨rfl, h1, hg1⟩
  go_wp2_with (with_reducible refine h_A ?_)
  go_ret
  exact ⟨none, 0, rfl, Own.none_ _ _ _ _, h1, hg1⟩
 obtain rfl : bad = false := by simpa using hbad
 by_cases hneg : x < 0
 ·rw [mtake_no (.inr (.inl hneg))]
  go_enter Tryz.func92, Tryz.ntmps92
  go_wp2_with (with_reducible refine h_A ?_)
  refine (qspoil_any h').mono ?_
  rintro e w1 ⟨rfl, h1, hg1⟩
  go_wp2_with (with_reducible refine h_A ?_)
  go_ret
  exact ⟨none, 0, rfl, Own.none_ _ _ _ _, h1, hg1⟩
 by_cases hlen : (l.length : Int) < x
 ·have hlen' : (n : Int) < x := by omega
  rw [mtake_no (.inr (.inr hlen))]
  go_enter Tryz.func92, Tryz.ntmps92
  go_wp2_with (with_reducible refine h_A ?_)
  refine (qspoil_any h').mono ?_
  rintro e w1 ⟨rfl, h1, hg1⟩
  go_wp2_with (with_reducible refine h_A ?_)
  go_ret
  exact ⟨none, 0, rfl, Own.none_ _ _ _ _, h1, hg1⟩
 obtain ⟨m, rfl⟩ : ∃ m : Nat, x = m := ⟨x.toNat, by omega⟩
 have hm : m ≤ l.length := by omega
 have hmn : m ≤ n := by omega
 rw [mtake_yes hm]
 simp only [List.length_take, Nat.min_eq_left hm]
 go_enter Tryz.func92, Tryz.ntmps92
 go_wp2_with (with_reducible refine h_S ?_)
 refine unhold (wp_cut slB rfl rfl rfl hr 0 m c (.inl ⟨rfl, rfl⟩) (.inr ⟨_, _, rfl, rfl⟩) (.inl ⟨rfl, rfl⟩) (by intro h; cases h) (by omega) (by omega) (Nat.le_refl _) (by omega) ?_)
 intro A1 hr1
 simp only [Nat.zero_mul, Nat.mul_one, List.drop_zero, ← List.map_take, Nat.sub_zero] at hr1
 go_wp2_with (with_reducible refine h_S ?_)
 refine unhold (wp_app slB rfl rfl rfl rfl (Own.none_ w w.heap.size _ _) hr1 (map_one _) (by omega) (by simp [maxLen]; omega) (Nat.le_refl _) ?_)
 intro A2 c2 w1 ho2 hg1 _
 have hB : Below w.heap.size w w1 := (Below.refl _ _).grown hg1 (Nat.le_refl _) (by simp [blk])
 simp only [Nat.zero_add, List.nil_append] at ho2
 have hbw : b < w.heap.size := World.block_lt_of_cell? w _ h0
 have h01 : w1.cell? ⟨b, 0, none⟩ = some (.slice A n c) := (hB.cell (p := ⟨b, 0, none⟩) hbw).trans h0
 have h11 : w1.cell? ⟨b, 1, none⟩ = some (.bool false) := (hB.cell (p := ⟨b, 1, none⟩) hbw).trans h1
 have hf01 : w1.frozen? ⟨b, 0, none⟩ = false := (World.frozen?_of_block (hB.block b hbw)).trans hf0
 have hf11 : w1.frozen? ⟨b, 1, none⟩ = false := (World.frozen?_of_block (hB.block b hbw)).trans hf1
 have hrr : RdB w1 w.heap.size A n c l := hr.below hB
 go_wp2_with (with_reducible refine h_S ?_)
 refine unhold (wp_cutB slB rfl rfl rfl hrr m n c (.inr ⟨_, _, rfl, rfl⟩) (.inl ⟨rfl, rfl⟩) (.inl ⟨rfl, rfl⟩) (by intro h; cases h) (by omega) (by omega) (Nat.le_refl _) (by omega) ?_)
 intro A3 hr3 hAe
 have hA3 : blk A3 ≠ some b := by rw [hAe]; exact hA
 go_wp2_with (with_reducible refine h_S ?_)
 go_ret
 have hge : ∀ g, blk A2 = some g → w.heap.size ≤ g := fun g hg => (ho2.blk_lt hg).1
 have hg0 := grownSet w1 ⟨b, 0, none⟩ (.slice A3 (n - m) (c - m))
 refine ⟨A2, c2, by simp [Array.getD], ?_, ?_, ?_⟩
 ·refine ho2.kept hg0 (.inr fun e => ?_)
  rw [ownBlock_eq] at e
  have : w.heap.size ≤ b := hge _ e
  omega
 ·refine ⟨A3, n - m, c - m, ?_, ?_, ?_, ?_, ?_, hA3, by omega, hF.1, fun g hg => hF.2 g (by rwa [hAe] at hg)⟩
  ·exact World.cell?_setCell_same _ _ _ h01
  ·exact (World.cell?_setCell_other _ _ _ _ (by simp)).trans h11
  ·simpa using hf01
  ·simpa using hf11
  ·have e3 : (((l.map u8v).take (n * 1)).drop (m * 1)) = (l.drop m).map u8v := by
    rw [Nat.mul_one, Nat.mul_one, List.take_of_length_le (by simp; omega), List.map_drop]
   rw [e3] at hr3
   have h4 : RdB w1 w1.heap.size A3 (n - m) (c - m) (l.drop m) := hr3.more hB.size
   exact (h4.grown_ne hg0 (Nat.le_refl _) (.inr hA3)).more hg0.size
 ·exact (grownOf hB (some b)).trans hg0

theorem qopen_any (A : Option Addr) (n c : Nat) (l : List UInt8) (w : World) (hb : RdB w w.heap.size A n c l) (hn : n ≤ 140737488351240) :
  Calls Tryz.prog 50 #[.slice A n c] w fun e w' => ∃ b, e = .returned (.pointer (some ⟨b, 0, none⟩)) ∧ w.heap.size ≤ b ∧ Qrd (fun g => w.heap.size ≤ g ∧ g < w'.heap.size) w' b l false ∧ Below w.heap.size w w' := by
 have hl := hb.length
 go_enter Tryz.func50, Tryz.ntmps50
 go_wp2_with (with_reducible refine h_A ?_)
 refine unhold (wp_app slB rfl rfl rfl rfl (Own.none_ w w.heap.size _ _) hb (map_one _) (by omega) (by simp [maxLen]; omega) (Nat.le_refl _) ?_)
 intro A2 c2 w1 ho2 hg1 _
 have hB : Below w.heap.size w w1 := (Below.refl _ _).grown hg1 (Nat.le_refl _) (by simp [blk])
 simp only [Nat.zero_add, List.nil_append] at ho2
 go_wp2_with (with_reducible refine h_A ?_)
 go_ret
 refine ⟨w1.heap.size, by first | rfl | simp [Array.getD], hB.size, ⟨A2, n, c2, ?_, ?_, ?_, ?_, ?_, ?_, hn, ?_, ?_⟩, hB.alloc hB.size _⟩
 ·simp
 ·simp
 ·simp
 ·simp
 ·exact Own.rd (base := w.heap.size) (e := 5) (ho2.alloc _)
 ·intro e
  have := (ho2.blk_lt e).2
  omega
 ·have := hB.size; simp; omega
 ·intro g hg
  have h1 := (ho2.blk_lt hg).1
  have h2 := (ho2.blk_lt hg).2
  simp; omega

set_option maxHeartbeats 1000000 in
theorem qnum_any {F : Nat → Prop} {w : World} {b : Nat} {l : List UInt8} {bad : Bool} (h : Qrd F w b l bad) (x : Int) (hx : -9223372036854775808 ≤ x) (hx' : x ≤ 9223372036854775807) :
  Calls Tryz.prog 51 #[.pointer (some ⟨b, 0, none⟩), .int .i64 x] w fun e w' => e = .returned (.int .u64 ((mnum l bad x).1 : Nat)) ∧ Qrd F w' b (mnum l bad x).2.1 (mnum l bad x).2.2 ∧ w.grownBy w' (some b) := by
 by_cases hw : wideB x = true
 ·rw [mnum_yes hw]
  have hlo : (mtake l bad x).1.length ≤ 8 := by
   have := wideB_le hw
   unfold mtake
   split
   ·simp
   ·simp only [List.length_take]; omega
  have hT := qtake_any h x hx hx'
  generalize mtake l bad x = r at hT hlo ⊢
  obtain ⟨o, l', bad'⟩ := r
  simp only at hT hlo ⊢
  go_enter Tryz.func51, Tryz.ntmps51
  go_wp2_with (with_reducible refine h_A ?_)
  refine (rwidth_any x w).mono ?_
  rw [hw]
  rintro e w' ⟨rfl, rfl⟩
  go_wp2_with (with_reducible refine h_A ?_)
  refine hT.mono ?_
  rintro e w1 ⟨A2, c2, rfl, ho, hR, hg⟩
  go_wp2_with (with_reducible refine h_A ?_)
  go_loopw [7, 6] (fun i s wr => wr = w1 ∧ ∃ k : Nat, k ≤ o.length ∧ i = .int .i64 k ∧ s = .int .u64 (unbe (o.take k) : Nat)) (fun i _ _ => o.length - (RowKit.intOf i).toNat)
  case atStart => exact ⟨rfl, 0, by omega, rfl, by simp [unbe_nil]⟩
  case round =>
   obtain ⟨rfl, k, hk, rfl, rfl⟩ := hrel
   by_cases hlt : k < o.length
   ·obtain ⟨b, off, rfl, hbB, hkl, hcell⟩ := RdB.at_k ho.rd (k := k) hlt
    have hby := o[k].toNat_lt
    have hsn : unbe (o.take (k + 1)) = 256 * unbe (o.take k) + o[k].toNat := by
     rw [List.take_succ_eq_append_getElem hkl]; exact unbe_snoc _ _
    have hlt7 : unbe (o.take k) < 72057594037927936 := by
     refine Nat.lt_of_lt_of_le (unbe_lt _) ?_
     refine Nat.le_trans (Nat.pow_le_pow_right (by omega) (show (o.take k).length ≤ 7 by rw [List.length_take]; omega)) (by decide)
    have HSN := Lib.hid hsn
    clear hsn
    generalize unbe (o.take k) = s0 at hlt7 HSN ⊢
    go_wp2_with (with_reducible refine h_A ?_)
    exact ⟨⟨trivial, k + 1, by omega, by go_num, by rw [HSN.out]; simp⟩, by simp [RowKit.intOf]; omega⟩
   ·obtain rfl : k = o.length := by omega
    rw [List.take_length]
    go_wp2_with (with_reducible refine h_A ?_)
    go_ret
    exact ⟨rfl, hR, hg⟩
 ·have hw' : wideB x = false := by simpa using hw
  rw [mnum_no hw']
  go_enter Tryz.func51, Tryz.ntmps51
  go_wp2_with (with_reducible refine h_A ?_)
  refine (rwidth_any x w).mono ?_
  rw [hw']
  rintro e w' ⟨rfl, rfl⟩
  go_wp2_with (with_reducible refine h_A ?_)
  refine (qspoil_any h).mono ?_
  rintro e w1 ⟨rfl, h1, hg1⟩
  go_wp2_with (with_reducible refine h_A ?_)
  go_ret
  exact ⟨rfl, h1, hg1⟩

end Go.PH
end
section
/- The walk of the reference's Number. -/
namespace Go.PH
open Go.RowKit Go.Proofs

set_option maxHeartbeats 1000000 in
theorem rnumber_any (n i : Nat) (w : World) (hn : n < 18446744073709551616) (hi8 : i ≤ 8) :
  Calls Tryz.prog 70 #[.int .u64 n, .int .i64 i] w fun e w' => ∃ A2 c2, e = .returned (.slice A2 i c2) ∧ Own w' w.heap.size 5 1 A2 i c2 ((be i n).map u8v) ∧ Below w.heap.size w w' := by
 go_enter Tryz.func70, Tryz.ntmps70
 go_wp2_with (with_reducible refine h_A ?_)
 go_loopw [6, 5, 0] (fun x v s wr => ∃ (k c2 m : Nat) (A2 : Option Addr), k ≤ i ∧ x = .int .i64 k ∧ v = .slice A2 k c2 ∧ s = .int .u64 (m : Nat) ∧ m = n / 256 ^ k ∧ m < 18446744073709551616 ∧ Own wr w.heap.size 5 1 A2 k c2 ((be k n).map u8v) ∧ Below w.heap.size w wr) (fun x _ _ _ => i - (RowKit.intOf x).toNat)
 case atStart => exact ⟨0, 0, n, none, by omega, rfl, rfl, rfl, by simp, hn, by simpa [be] using Own.none_ _ _ _ _, Below.refl _ _⟩
 case round =>
  obtain ⟨k, c2, m, A2, hk, rfl, rfl, rfl, hm, hm64, ho, hB⟩ := hrel
  have HM := Lib.hid hm
  clear hm
  by_cases hlt : k < i
  ·have hlit := own_lit (w := wr) wr.heap.size #[Value.int .u8 ((m : Int) % 256)] 5 1 (Nat.le_refl _) (by simp [maxLen]) rfl (size := 1) (by omega)
   have hB1 : Below w.heap.size w (wr.alloc (.cells #[Value.int .u8 ((m : Int) % 256)] 5)) := hB.alloc hB.size _
   have hr1 := Own.rd (base := w.heap.size) (e := 5) (ho.alloc (.cells #[Value.int .u8 ((m : Int) % 256)] 5))
   go_wp2_with (with_reducible refine h_A ?_)
   refine unhold (wp_app (base := wr.heap.size) slB rfl rfl rfl rfl hlit hr1 (map_one _) (by omega) (by simp [maxLen]; omega) (by simp) ?_)
   intro A3 c3 w3 ho3 hg3 _
   have hB3 : Below w.heap.size w w3 := hB1.grown hg3 (by have := hB.size; simp; omega) (fun g hg => by have := (hlit.blk_lt hg).1; have := hB.size; omega)
   have e3 : ((#[Value.int .u8 ((m : Int) % 256)] : Array Value).toList ++ (be k n).map u8v) = (be (k + 1) n).map u8v := by
    simp only [be, List.map_cons, u8v, List.cons_append, List.nil_append]
    rw [HM.out]
    simp
   rw [e3, Nat.add_comm] at ho3
   have ho3' := ho3.base_le hB.size
   have hmq : m / 256 = n / 256 ^ (k + 1) := by rw [HM.out, Nat.div_div_eq_div_mul, Nat.pow_succ]
   have HMQ := Lib.hid hmq
   clear hmq e3
   go_wp2_with (with_reducible refine h_A ?_)
   exact ⟨⟨k + 1, c3, m / 256, A3, by omega, by go_num, by simp [Nat.add_comm], by first | rfl | simp, HMQ.out, by omega, ho3', hB3⟩, by simp [RowKit.intOf]; omega⟩
  ·obtain rfl : k = i := by omega
   go_wp2_with (with_reducible refine h_A ?_)
   go_ret
   exact ⟨A2, c2, rfl, ho, hB⟩

end Go.PH
end
section
/- The walks of the reference's Put and PutText. -/
namespace Go.PH
open Go.RowKit Go.Proofs

set_option maxHeartbeats 1000000 in
theorem rput_any (A : Option Addr) (n c : Nat) (l : List UInt8) (v : Nat) (x : Int) (w : World) (hb : RdB w w.heap.size A n c l) (hv : v < 18446744073709551616) (hn : n ≤ 140737488355320) :
  Calls Tryz.prog 105 #[.slice A n c, .int .u64 v, .int .i64 x] w fun e w' => ∃ A2 c2, e = .returned (.slice A2 (puts l v x).length c2) ∧ Own w' w.heap.size 5 1 A2 (puts l v x).length c2 ((puts l v x).map u8v) ∧ Below w.heap.size w w' := by
 have hl := hb.length
 go_enter Tryz.func105, Tryz.ntmps105
 go_wp2_with (with_reducible refine h_A ?_)
 refine unhold (wp_app slB rfl rfl rfl rfl (Own.none_ w w.heap.size _ _) hb (map_one _) (by omega) (by simp [maxLen]; omega) (Nat.le_refl _) ?_)
 intro A1 c1 w1 ho1 hg1 _
 have hB1 : Below w.heap.size w w1 := (Below.refl _ _).grown hg1 (Nat.le_refl _) (by simp [blk])
 simp only [Nat.zero_add, List.nil_append] at ho1
 have hz1 := hB1.size
 go_wp2_with (with_reducible refine h_A ?_)
 refine (rwidth_any x w1).mono ?_
 rintro e w2 ⟨rfl, rfl⟩
 by_cases hw : wideB x = true
 ·have h8 := wideB_le hw
  obtain ⟨i, rfl⟩ : ∃ i : Nat, x = i := ⟨x.toNat, by omega⟩
  have HP := Lib.hid (puts_yes (b := l) (n := v) hw)
  rw [hw]
  go_wp2_with (with_reducible refine h_A ?_)
  refine (rnumber_any v i w2 hv (by omega)).mono ?_
  rintro e w3 ⟨A3, c3, rfl, ho3, hB3⟩
  have ho13 : Own w3 w.heap.size 5 1 A1 n c1 (l.map u8v) := ho1.kept (row := none) ⟨hB3.os, hB3.tape, hB3.output, hB3.size, fun k hk _ => hB3.block k hk⟩ (by cases hv : (Value.slice A1 n c1).ownBlock <;> simp)
  have hB13 := hB1.trans (hB3.mono hz1)
  go_wp2_with (with_reducible refine h_A ?_)
  refine unhold (wp_app slB rfl rfl rfl rfl ho13 ho3.rd (map_one _) (by omega) (by simp [maxLen]; omega) hB13.size ?_)
  intro A4 c4 w4 ho4 hg4 _
  have hB4 := hB13.grown hg4 hB13.size (fun g hg => (ho13.blk_lt hg).1)
  rw [← List.map_append] at ho4
  go_wp2_with (with_reducible refine h_A ?_)
  go_ret
  rw [HP.out]
  simp only [List.length_append, be_length, Int.toNat_natCast, hl]
  exact ⟨A4, c4, by first | rfl | simp, ho4, hB4⟩
 ·have hw' : wideB x = false := by simpa using hw
  have HP := Lib.hid (puts_no (b := l) (n := v) hw')
  rw [hw']
  go_wp2_with (with_reducible refine h_A ?_)
  go_ret
  rw [HP.out, hl]
  exact ⟨A1, c1, rfl, ho1, hB1⟩

theorem most_any (w : World) (x : Int) (h : x = 1 ∨ x = 2 ∨ x = 4) : Calls Tryz.prog 104 #[.int .i64 x] w fun e w' => e = .returned (.int .i64 ((256 ^ x.toNat - 1 : Nat) : Int)) ∧ w' = w := by
 rcases h with rfl | rfl | rfl
 all_goals
  go_enter Tryz.func104, Tryz.ntmps104
  go_wp2_with (with_reducible refine h_A ?_)
  go_ret
  exact ⟨rfl, rfl⟩

set_option maxHeartbeats 1000000 in
theorem rputtext_any (A : Option Addr) (n c : Nat) (l s : List UInt8) (x : Int) (w : World) (hb : RdB w w.heap.size A n c l) (hs : s.length ≤ 140737488351232) (hn : n ≤ 140737488351240) :
  Calls Tryz.prog 71 #[.slice A n c, .string (str s), .int .i64 x] w fun e w' => ∃ A2 c2, e = .returned (.tuple #[.slice A2 (putsText l s x).length c2, .int .i64 (textErr s.length x)]) ∧ Own w' w.heap.size 5 1 A2 (putsText l s x).length c2 ((putsText l s x).map u8v) ∧ Below w.heap.size w w' := by
 have hl := hb.length
 have hss := str_size s
 by_cases hw : x = 1 ∨ x = 2 ∨ x = 4
 ·have hwide := wideB_yes (w := x) (by omega)
  by_cases hlen : s.length < 256 ^ x.toNat
  ·have he : textErr s.length x = 0 := by unfold textErr; rw [if_pos hw, if_pos hlen]
   have hsl : s.length < 4294967296 := by
    rcases hw with rfl | rfl | rfl
    all_goals (simp at hlen; omega)
   have hcmp : ¬ ((256 ^ x.toNat - 1 : Nat) : Int) < (s.length : Int) := by
    have := Nat.pow_pos (n := x.toNat) (show 0 < 256 by omega)
    omega
   have hMx := most_any w x hw
   rw [he, putsText_ok he]
   have hpy := puts_yes (b := l) (n := s.length) hwide
   have hP := rput_any A n c l s.length x w hb (by omega) (by omega)
   rw [hpy] at hP
   have hbl : (l ++ be x.toNat s.length).length ≤ n + 8 := by
    rw [List.length_append, be_length, hl]
    have := wideB_le hwide
    omega
   generalize l ++ be x.toNat s.length = l2 at hP hbl ⊢
   generalize (256 ^ x.toNat - 1 : Nat) = M at hMx hcmp
   clear hpy hlen
   rcases hw with rfl | rfl | rfl
   all_goals
    go_enter Tryz.func71, Tryz.ntmps71
    go_wp2_with (with_reducible refine h_A ?_)
    refine hMx.mono ?_
    rintro e w1 ⟨rfl, rfl⟩
    go_wp2_with (with_reducible refine h_A ?_)
    refine hP.mono ?_
    rintro e w2 ⟨A2, c2, rfl, ho2, hB2⟩
    go_wp2_with (with_reducible refine h_A ?_)
    refine unhold (wp_app_strW slB Tryz.underlying9 rfl rfl rfl rfl ho2 (by omega) (by omega) hB2.size ?_)
    intro A3 c3 w3 ho3 hg3
    have hB3 := hB2.grown hg3 hB2.size (fun g hg => (ho2.blk_lt hg).1)
    rw [← List.map_append] at ho3
    go_wp2_with (with_reducible refine h_A ?_)
    go_ret2
    rw [List.length_append]
    exact ⟨A3, c3, by first | rfl | simp, ho3, hB3⟩
  ·have he : textErr s.length x = 3 := by unfold textErr; rw [if_pos hw, if_neg hlen]
   have hcmp : ((256 ^ x.toNat - 1 : Nat) : Int) < (s.length : Int) := by
    have := Nat.pow_pos (n := x.toNat) (show 0 < 256 by omega)
    omega
   have hMx := most_any w x hw
   rw [he, putsText_err (by rw [he]; omega)]
   generalize (256 ^ x.toNat - 1 : Nat) = M at hMx hcmp
   clear hlen
   rcases hw with rfl | rfl | rfl
   all_goals
    go_enter Tryz.func71, Tryz.ntmps71
    go_wp2_with (with_reducible refine h_A ?_)
    refine hMx.mono ?_
    rintro e w1 ⟨rfl, rfl⟩
    go_wp2_with (with_reducible refine h_A ?_)
    go_ret2
    exact ⟨none, 0, rfl, Own.none_ _ _ _ _, Below.refl _ _⟩
 ·have he : textErr s.length x = 2 := by unfold textErr; rw [if_neg hw]
  have b1 : (x != 1) = true := by simp; omega
  have b2 : (x != 2) = true := by simp; omega
  have b4 : (x != 4) = true := by simp; omega
  rw [he, putsText_err (by rw [he]; omega)]
  go_enter Tryz.func71, Tryz.ntmps71
  go_wp2_with (with_reducible refine h_A ?_)
  go_ret2
  exact ⟨none, 0, rfl, Own.none_ _ _ _ _, Below.refl _ _⟩
end Go.PH
end
section
/- The walk of the reference reader's Text. -/
namespace Go.PH
open Go.RowKit Go.Proofs

set_option maxHeartbeats 1000000 in
theorem qtext_any {F : Nat → Prop} {w : World} {b : Nat} {l : List UInt8} {bad : Bool} (h : Qrd F w b l bad) (x most : Int) (hx : -9223372036854775808 ≤ x) (hx' : x ≤ 9223372036854775807) (hm : -9223372036854775808 ≤ most) (hm' : most ≤ 9223372036854775807) :
  Calls Tryz.prog 53 #[.pointer (some ⟨b, 0, none⟩), .int .i64 x, .int .i64 most] w fun e w' => e = .returned (.string (str (mtext l bad x most).1)) ∧ Qrd F w' b (mtext l bad x most).2.1 (mtext l bad x most).2.2 ∧ w.grownBy w' (some b) := by
 by_cases h8 : ¬(x = 1 ∨ x = 2 ∨ x = 4)
 ·have b1 : (x != 1) = true := by simp; omega
  have b2 : (x != 2) = true := by simp; omega
  have b4 : (x != 4) = true := by simp; omega
  rw [mtext_no h8]
  go_enter Tryz.func53, Tryz.ntmps53
  go_wp2_with (with_reducible refine h_A ?_)
  refine (qspoil_any h).mono ?_
  rintro e w1 ⟨rfl, h1, hg1⟩
  go_wp2_with (with_reducible refine h_A ?_)
  go_ret
  exact ⟨rfl, h1, hg1⟩
 have hN := qnum_any h x hx hx'
 have hlt := mnum_lt l bad x
 rw [mtext_eq (by omega)]
 generalize mnum l bad x = r at hN hlt ⊢
 obtain ⟨n, l', bad'⟩ := r
 simp only at hN hlt ⊢
 have hl64 : ∀ {w1 : World}, Qrd F w1 b l' bad' → l'.length ≤ 140737488351240 := fun h => h.len
 rcases (show x = 1 ∨ x = 2 ∨ x = 4 by omega) with rfl | rfl | rfl
 all_goals
  by_cases hb : bad' = true
  ·subst hb
   rw [if_pos (.inl rfl)]
   go_enter Tryz.func53, Tryz.ntmps53
   go_wp2_with (with_reducible refine h_A ?_)
   refine hN.mono ?_
   rintro e w1 ⟨rfl, h1, hg1⟩
   obtain ⟨A, m, c, h10, h11, hf0, hf1, hr, hA, hn, hF⟩ := h1
   go_wp2_with (with_reducible refine h_A ?_)
   refine (qspoil_any ⟨A, m, c, h10, h11, hf0, hf1, hr, hA, hn, hF⟩).mono ?_
   rintro e w3 ⟨rfl, h3, hg3⟩
   go_wp2_with (with_reducible refine h_A ?_)
   go_ret
   exact ⟨rfl, h3, hg1.trans hg3⟩
  obtain rfl : bad' = false := by simpa using hb
  by_cases hbd : most < 0 ∨ most < (n : Int) ∨ l'.length < n
  ·rw [if_pos (.inr hbd)]
   go_enter Tryz.func53, Tryz.ntmps53
   go_wp2_with (with_reducible refine h_A ?_)
   refine hN.mono ?_
   rintro e w1 ⟨rfl, h1, hg1⟩
   have hll := h1.len
   have h1' := h1
   obtain ⟨A, m, c, h10, h11, hf0, hf1, hr, hA, hn, hF⟩ := h1
   have hml := hr.length
   by_cases hneg : most < 0
   ·go_wp2_with (with_reducible refine h_A ?_)
    refine (qspoil_any h1').mono ?_
    rintro e w3 ⟨rfl, h3, hg3⟩
    go_wp2_with (with_reducible refine h_A ?_)
    go_ret
    exact ⟨rfl, h3, hg1.trans hg3⟩
   by_cases hmore : most < (n : Int)
   ·go_wp2_with (with_reducible refine h_A ?_)
    refine (qspoil_any h1').mono ?_
    rintro e w3 ⟨rfl, h3, hg3⟩
    go_wp2_with (with_reducible refine h_A ?_)
    go_ret
    exact ⟨rfl, h3, hg1.trans hg3⟩
   have hless : (m : Int) < (n : Int) := by omega
   go_wp2_with (with_reducible refine h_A ?_)
   refine (qspoil_any h1').mono ?_
   rintro e w3 ⟨rfl, h3, hg3⟩
   go_wp2_with (with_reducible refine h_A ?_)
   go_ret
   exact ⟨rfl, h3, hg1.trans hg3⟩
  rw [if_neg (by simp; omega), mtake_yes (by omega)]
  have hn63 : (n : Int) ≤ 9223372036854775807 := by omega
  have hneg' : 0 ≤ most := by omega
  have hmore' : (n : Int) ≤ most := by omega
  go_enter Tryz.func53, Tryz.ntmps53
  go_wp2_with (with_reducible refine h_A ?_)
  refine hN.mono ?_
  rintro e w1 ⟨rfl, h1, hg1⟩
  have hT := qtake_any h1 (n : Int) (by omega) (by omega)
  rw [mtake_yes (by omega)] at hT
  simp only [List.length_take, Nat.min_eq_left (show n ≤ l'.length by omega)] at hT
  obtain ⟨A, m, c, h10, h11, hf0, hf1, hr, hA, hn, hF⟩ := h1
  have hml := hr.length
  have hleft' : (n : Int) ≤ (m : Int) := by omega
  go_wp2_with (with_reducible refine h_A ?_)
  refine hT.mono ?_
  rintro e w3 ⟨A3, c3, rfl, ho3, h3, hg3⟩
  have hcv := run_strB ho3.rd
  go_wp2_with (with_reducible refine h_A ?_)
  go_ret
  exact ⟨rfl, h3, hg1.trans hg3⟩
end Go.PH
end
section
/- Rows of spans as plain mathematics: a right row is told by its members. No program in sight. -/
namespace Go.PH

abbrev Sp := Nat × Nat
/-- a row is right: each span the right way round, a gap ahead of each but the first -/
def spRight : List Sp → Bool
 | [] => true
 | [a] => decide (a.1 ≤ a.2)
 | a :: b :: l => decide (a.1 ≤ a.2) && decide (a.2 + 2 ≤ b.1) && spRight (b :: l)
end Go.PH
end
section
/- Adding to, and cutting out of, a right row, as plain mathematics. -/
namespace Go.PH

/-- a row is right behind a number: its first span begins at m or later -/
def spFrom (m : Nat) : List Sp → Prop
 | [] => True
 | a :: _ => m ≤ a.1
theorem spRight_cons {a : Sp} {l : List Sp} : spRight (a :: l) = true ↔ (a.1 ≤ a.2 ∧ spFrom (a.2 + 2) l ∧ spRight l = true) := by
 cases l with
 | nil => simp [spRight, spFrom]
 | cons b l => simp [spRight, spFrom, and_assoc]
end Go.PH
end
section
/- What Add tells: a right row with the numbers put in. -/
namespace Go.PH

end Go.PH
end
section
/- The reference's way: edges, and the spans between them, as plain mathematics. -/
namespace Go.PH

theorem spRight_app (a : List Sp) (z : Sp) : spRight (a ++ [z]) = true ↔ (spRight a = true ∧ z.1 ≤ z.2 ∧ ∀ b ∈ a.getLast?, b.2 + 2 ≤ z.1) := by
 induction a with
 | nil => simp [spRight]
 | cons b a ih =>
  rw [List.cons_append, spRight_cons, ih, spRight_cons]
  cases a with
  | nil =>
   simp [spFrom, spRight]
   intro _
   exact and_comm
  | cons c a =>
   simp only [List.cons_append, spFrom, List.getLast?_cons_cons]
   constructor
   ·rintro ⟨h1, h2, h3, h4, h5⟩; exact ⟨⟨h1, h2, h3⟩, h4, h5⟩
   ·rintro ⟨⟨h1, h2, h3⟩, h4, h5⟩; exact ⟨h1, h2, h3, h4, h5⟩
end Go.PH
end
section
/- The reference's row between edges, as plain mathematics: right, with the members that are asked for. -/
namespace Go.PH

end Go.PH
end
section
/- What Has, Both, Either tell, as plain mathematics. -/
namespace Go.PH

end Go.PH
end
section
/- Rows by their beginnings; how many numbers a row has; as plain mathematics. -/
namespace Go.PH

theorem spRight_front : ∀ {a b : List Sp}, spRight (a ++ b) = true → spRight a = true
 | [], _, _ => rfl
 | x :: a, b, h => by
  rw [List.cons_append] at h
  obtain ⟨h1, h2, h3⟩ := spRight_cons.1 h
  refine spRight_cons.2 ⟨h1, ?_, spRight_front h3⟩
  cases a with
  | nil => trivial
  | cons y a => exact h2
theorem spRight_take {l : List Sp} (h : spRight l = true) (k : Nat) : spRight (l.take k) = true := spRight_front (b := l.drop k) (by rw [List.take_append_drop]; exact h)
/-- the next span stands rightly behind those ahead of it -/
def spNext (l : List Sp) (k : Nat) (h : k < l.length) : Prop := l[k].1 ≤ l[k].2 ∧ ∀ (h0 : 0 < k), l[k - 1].2 + 2 ≤ l[k].1
theorem spRight_next {l : List Sp} {k : Nat} (hk : k < l.length) (h : spRight (l.take k) = true) : spRight (l.take (k + 1)) = true ↔ spNext l k hk := by
 rw [List.take_succ_eq_append_getElem hk, spRight_app]
 unfold spNext
 constructor
 ·rintro ⟨_, h1, h2⟩
  refine ⟨h1, fun h0 => h2 _ ?_⟩
  rw [List.getLast?_eq_getElem?, List.length_take, Nat.min_eq_left (by omega), List.getElem?_take, if_pos (by omega), List.getElem?_eq_getElem (by omega)]
  rfl
 ·rintro ⟨h1, h2⟩
  refine ⟨h, h1, fun b hb => ?_⟩
  rcases Nat.eq_zero_or_pos k with rfl | h0
  ·simp at hb
  ·rw [List.getLast?_eq_getElem?, List.length_take, Nat.min_eq_left (by omega), List.getElem?_take, if_pos (by omega), List.getElem?_eq_getElem (by omega)] at hb
   cases hb
   exact h2 h0
theorem spRight_yes {l : List Sp} {k : Nat} (hk : k < l.length) (h : spRight (l.take k) = true) (h1 : spNext l k hk) : spRight (l.take (k + 1)) = true := (spRight_next hk h).2 h1
theorem spRight_no {l : List Sp} {k : Nat} (hk : k < l.length) (h : spRight (l.take k) = true) (h1 : ¬ spNext l k hk) : spRight l = false := by
 rcases hr : spRight l with _ | _
 ·rfl
 ·exact absurd ((spRight_next hk h).1 (spRight_take hr _)) h1
theorem spNext_iff {l : List Sp} {k : Nat} (hk : k < l.length) : spNext l k hk ↔ (l[k].1 ≤ l[k].2 ∧ (k = 0 ∨ (l.getD (k - 1) (0, 0)).2 + 2 ≤ l[k].1)) := by
 unfold spNext
 have e : l.getD (k - 1) (0, 0) = l[k - 1] := by
  have : k - 1 < l.length := by omega
  simp [List.getD, List.getElem?_eq_getElem this]
 rw [e]
 constructor
 ·rintro ⟨h1, h2⟩
  refine ⟨h1, ?_⟩
  rcases Nat.eq_zero_or_pos k with h0 | h0
  ·exact .inl h0
  ·exact .inr (h2 h0)
 ·rintro ⟨h1, h2⟩
  refine ⟨h1, fun h0 => ?_⟩
  rcases h2 with h2 | h2
  ·omega
  ·exact h2
/-- bounds -/
def spOK (N : Nat) (l : List Sp) : Prop := ∀ a ∈ l, a.1 < N ∧ a.2 < N
end Go.PH
end
section
/- Slices of spans in memory. -/
namespace Go.PH
open Go.RowKit Go.Proofs

def sp2 (a : Sp) : List Value := [.int .u32 (a.1 : Int), .int .u32 (a.2 : Int)]
def spCells (l : List Sp) : List Value := l.flatMap sp2
theorem spCells_cons (a : Sp) (l : List Sp) : spCells (a :: l) = .int .u32 (a.1 : Int) :: .int .u32 (a.2 : Int) :: spCells l := rfl
theorem spCells_app (a b : List Sp) : spCells (a ++ b) = spCells a ++ spCells b := by simp [spCells]
theorem spCells_len (l : List Sp) : (spCells l).length = l.length * 2 := by
 induction l with
 | nil => rfl
 | cons a l ih => rw [spCells_cons]; simp only [List.length_cons, ih]; omega
theorem spCells_take : ∀ (l : List Sp) (k : Nat), (spCells l).take (k * 2) = spCells (l.take k)
 | [], k => by simp [spCells]
 | a :: l, 0 => by simp [spCells]
 | a :: l, k + 1 => by rw [spCells_cons, show (k + 1) * 2 = k * 2 + 1 + 1 by omega, List.take_succ_cons, List.take_succ_cons, spCells_take l k, List.take_succ_cons, spCells_cons]
theorem spCells_drop : ∀ (l : List Sp) (k : Nat), (spCells l).drop (k * 2) = spCells (l.drop k)
 | [], k => by simp [spCells]
 | a :: l, 0 => by simp
 | a :: l, k + 1 => by rw [spCells_cons, show (k + 1) * 2 = k * 2 + 1 + 1 by omega, List.drop_succ_cons, List.drop_succ_cons, spCells_drop l k, List.drop_succ_cons]
theorem spCells_get : ∀ (l : List Sp) (k : Nat) (h : k < l.length), (spCells l)[k * 2]? = some (.int .u32 (l[k].1 : Int)) ∧ (spCells l)[k * 2 + 1]? = some (.int .u32 (l[k].2 : Int))
 | a :: l, 0, _ => by simp [spCells_cons]
 | a :: l, k + 1, h => by
  have := spCells_get l k (by simpa using h)
  rw [spCells_cons, show (k + 1) * 2 = k * 2 + 1 + 1 by omega]
  simpa using this
theorem spCells_one (l : List Sp) : ∀ u ∈ spCells l, u.oneCell' = true := by
 intro u hu
 simp only [spCells, List.mem_flatMap, sp2, List.mem_cons, List.not_mem_nil, or_false] at hu
 obtain ⟨a, _, rfl | rfl⟩ := hu <;> rfl
/-- a slice of spans -/
abbrev RdS (w : World) (B : Nat) (A : Option Addr) (n c : Nat) (l : List Sp) : Prop := Rd w B 2 A n c (spCells l)
variable {w w' : World} {B n c : Nat} {A : Option Addr} {l : List Sp}
theorem RdS.length (h : RdS w B A n c l) : l.length = n := by have := h.len; rw [spCells_len] at this; omega
theorem RdS.at_k (h : RdS w B A n c l) {k : Nat} (hk : k < n) : ∃ b off, A = some ⟨b, off, none⟩ ∧ b < B ∧ ∃ hl : k < l.length, w.cell? ⟨b, off + k * 2, none⟩ = some (.int .u32 (l[k].1 : Int)) ∧ w.cell? ⟨b, off + k * 2 + 1, none⟩ = some (.int .u32 (l[k].2 : Int)) := by
 obtain ⟨b, off, e, hb, hc⟩ := h.at_ (by omega)
 have hl := h.length
 have hg := spCells_get l k (by omega)
 exact ⟨b, off, e, hb, by omega, hc _ _ hg.1, by have := hc _ _ hg.2; rwa [← Nat.add_assoc] at this⟩
theorem RdS.at_p (h : RdS w B A n c l) {k : Nat} (hk : k ≤ n) (h0 : 0 < k) : ∃ b off, A = some ⟨b, off, none⟩ ∧ b < B ∧ w.cell? ⟨b, off + (k - 1) * 2 + 1, none⟩ = some (.int .u32 ((l.getD (k - 1) (0, 0)).2 : Int)) := by
 obtain ⟨b, off, e, hb, hl, _, hc⟩ := RdS.at_k h (k := k - 1) (by omega)
 refine ⟨b, off, e, hb, ?_⟩
 rw [hc]; simp [List.getD, List.getElem?_eq_getElem hl]
theorem spOK_getD {N : Nat} {l : List Sp} (h : spOK N l) (k : Nat) (hN : 0 < N) : (l.getD k (0, 0)).1 < N ∧ (l.getD k (0, 0)).2 < N := by
 rw [List.getD]
 cases hk : l[k]? with
 | none => exact ⟨hN, hN⟩
 | some a => exact h a (List.mem_of_getElem? hk)
theorem RdS.cut {lo k : Nat} (hr : RdS w B A n c l) (h : lo + k ≤ n) : RdS w B (cutA A 2 lo c) k (c - lo) ((l.drop lo).take k) := by
 have h1 := rd_cut hr lo (lo + k) c (by omega) (by have := hr.cap; omega) (Nat.le_refl _) h
 rw [spCells_take, spCells_drop, List.drop_take, Nat.add_sub_cancel_left] at h1
 exact h1
theorem slS : SlT Tryz.prog 45 113 2 8 (.agg #[.int .u32 0, .int .u32 0]) := SlT.mk' Tryz.underlying45 (by kernel_rfl) rfl (by omega)
abbrev OwnS (w : World) (base : Nat) (A : Option Addr) (n c : Nat) (l : List Sp) : Prop := Own w base 113 2 A n c (spCells l)
end Go.PH
end

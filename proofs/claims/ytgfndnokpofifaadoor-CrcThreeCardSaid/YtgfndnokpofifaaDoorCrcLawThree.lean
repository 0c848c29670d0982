/- CrcThree: for every input of the form's own reach the law returns true and writes nothing that was there. Condition: the listed table reads as its numbers. -/
import Derived.Test.YtgfndnokpofifaaDoorCrcLawSeals
import Derived.Test.YtgfndnokpofifaaDoorCrcMath2
import Derived.WalkLawsBesides
namespace Go.PH
open Go.RowKit Go.Proofs

def xor3 (a b c : List UInt8) : List UInt8 := List.zipWith (· ^^^ ·) (List.zipWith (· ^^^ ·) a b) c
theorem val_zip : ∀ (a b : List UInt8), a.length = b.length → val (List.zipWith (· ^^^ ·) a b) = val a ^^^ val b
  | [], [], _ => by simp [val]
  | [], _ :: _, h => by simp at h
  | _ :: _, [], h => by simp at h
  | x :: a, y :: b, h => by
    have ih := val_zip a b (by simpa using h)
    simp only [List.zipWith_cons_cons, val_cons, ih, UInt8.toNat_xor, mul_xor]
    rw [Nat.xor_assoc, ← Nat.xor_assoc y.toNat, Nat.xor_comm y.toNat, Nat.xor_assoc, ← Nat.xor_assoc x.toNat]
theorem sum_xor3 (a b c : List UInt8) (h1 : a.length = b.length) (h2 : a.length = c.length) : sum (xor3 a b c) = (sum a ^^^ sum b) ^^^ sum c := by
  have hl : (List.zipWith (· ^^^ ·) a b).length = a.length := by simp [h1]
  have hl3 : (xor3 a b c).length = a.length := by simp [xor3, ← h1, ← h2]
  have hs : ∀ l : List UInt8, sum l = 4294967295 ^^^ bitN (8 * l.length) (4294967295 ^^^ val l) := fun l => by
    show 4294967295 ^^^ reg (4294967295 ^^^ 0) l = _
    rw [Nat.xor_zero, reg_val]
  rw [hs, hs a, hs b, hs c, hl3, ← h1, ← h2]
  have hv : val (xor3 a b c) = (val a ^^^ val b) ^^^ val c := by unfold xor3; rw [val_zip _ _ (by omega), val_zip _ _ h1]
  rw [hv]
  have e : bitN (8 * a.length) (4294967295 ^^^ (val a ^^^ val b ^^^ val c)) = (bitN (8 * a.length) (4294967295 ^^^ val a) ^^^ bitN (8 * a.length) (4294967295 ^^^ val b)) ^^^ bitN (8 * a.length) (4294967295 ^^^ val c) := by
    rw [← bitN_xor, ← bitN_xor]
    congr 1
    apply Nat.eq_of_testBit_eq
    intro i
    simp only [Nat.testBit_xor]
    cases Nat.testBit 4294967295 i <;> cases (val a).testBit i <;> cases (val b).testBit i <;> cases (val c).testBit i <;> rfl
  rw [e]
  generalize bitN (8 * a.length) (4294967295 ^^^ val a) = X
  generalize bitN (8 * a.length) (4294967295 ^^^ val b) = Y
  generalize bitN (8 * a.length) (4294967295 ^^^ val c) = Z
  apply Nat.eq_of_testBit_eq
  intro i
  simp only [Nat.testBit_xor]
  cases Nat.testBit 4294967295 i <;> cases X.testBit i <;> cases Y.testBit i <;> cases Z.testBit i <;> rfl

set_option maxHeartbeats 1000000 in
theorem law_CrcThree (A : Option Addr) (n c : Nat) (l : List UInt8) (A' : Option Addr) (n' c' : Nat) (l' : List UInt8) (A'' : Option Addr) (n'' c'' : Nat) (l'' : List UInt8) (w : World) (hb : RdB w w.heap.size A n c l) (hb' : RdB w w.heap.size A' n' c' l') (hb'' : RdB w w.heap.size A'' n'' c'' l'')
    (ht : TabAt w) (hg0 : 0 < w.heap.size) (hn : n ≤ 140737488351232) (hn' : n' ≤ 140737488351232) (hn'' : n'' ≤ 140737488351232) :
    Calls Tryd.prog 9 #[.slice A n c, .slice A' n' c', .slice A'' n'' c''] w fun e w' => e = .returned (.bool true) ∧ Below w.heap.size w w' := by
  have hl := hb.length
  have hl' := hb'.length
  have hl'' := hb''.length
  obtain ⟨m1, hm1, hm1a, hm1b⟩ : ∃ m1 : Nat, (if n' < n then (n' : Int) else (n : Int)) = (m1 : Int) ∧ m1 ≤ n ∧ m1 ≤ n' := by
    by_cases h : n' < n
    · exact ⟨n', by rw [if_pos h], by omega, by omega⟩
    · exact ⟨n, by rw [if_neg h], by omega, by omega⟩
  obtain ⟨m, hm, hma, hmb⟩ : ∃ m : Nat, (if n'' < m1 then (n'' : Int) else (m1 : Int)) = (m : Int) ∧ m ≤ m1 ∧ m ≤ n'' := by
    by_cases h : n'' < m1
    · exact ⟨n'', by rw [if_pos h], by omega, by omega⟩
    · exact ⟨m1, by rw [if_neg h], by omega, by omega⟩
  go_enter Tryd.func9, Tryd.ntmps9
  go_wp2_with (first | (with_reducible refine hold_append ?_) | (with_reducible refine hold_make ?_) | (with_reducible refine hold_copy ?_))
  refine unhold (wp_make slB rfl rfl m m rfl rfl (by omega) (by omega) (Nat.le_refl _) (by omega) (by simp [maxLen]; omega) w.heap.size (Nat.le_refl _) ?_)
  intro w1 ho1 hg1
  have hB1 : Below w.heap.size w w1 := (Below.refl _ _).grown hg1 (Nat.le_refl _) (by simp)
  have hx0 : (madeCells (Value.int .u8 0).cells (m * 1)).toList.take (m * 1) = (List.replicate m (0 : UInt8)).map u8v := by
    simp [Value.cells, toList_madeCells_one, u8v]
  rw [hx0] at ho1
  clear hx0 hm hm1
  go_wp2_with (first | (with_reducible refine hold_append ?_) | (with_reducible refine hold_make ?_) | (with_reducible refine hold_copy ?_))
  go_loopw [9] (fun i wr => ∃ (k : Nat) (x : List UInt8), k ≤ m ∧ i = .int .i64 k ∧ (∀ j, j < k → x[j]? = (xor3 l l' l'')[j]?) ∧ Own wr w.heap.size 5 1 (some ⟨w.heap.size, 0, none⟩) m m (x.map u8v) ∧ Below w.heap.size w wr) (fun i _ => m - (intOf i).toNat)
  case atStart => exact ⟨0, _, by omega, rfl, fun j hj => by omega, ho1, hB1⟩
  case round =>
    obtain ⟨k, x, hk, rfl, hx, ho, hB⟩ := hrel
    have HX := Lib.hid hx
    clear hx
    by_cases hlt : k < m
    · obtain ⟨b0, off0, rfl, hb0, hk0, hc0⟩ := RdB.at_k (hb.below hB) (k := k) (by omega)
      obtain ⟨b1, off1, rfl, hb1, hk1, hc1⟩ := RdB.at_k (hb'.below hB) (k := k) (by omega)
      obtain ⟨b2, off2, rfl, hb2, hk2, hc2⟩ := RdB.at_k (hb''.below hB) (k := k) (by omega)
      obtain ⟨g, hgg, hbg, hgl, hkl, hcell, hfr, hst⟩ := OwnB.at_k ho hlt
      obtain rfl : w.heap.size = g := by simpa using hgg
      have y0 := l[k].toNat_lt
      have y1 := l'[k].toNat_lt
      have y2 := l''[k].toNat_lt
      have e1 : bits .xor .u8 (l[k].toNat : Int) (l'[k].toNat : Int) = ((l[k] ^^^ l'[k]).toNat : Int) := by rw [u8_xor_nat _ _ y0 y1, UInt8.toNat_xor]
      have e2 : bits .xor .u8 ((l[k] ^^^ l'[k]).toNat : Int) (l''[k].toNat : Int) = (((l[k] ^^^ l'[k]) ^^^ l''[k]).toNat : Int) := by
        rw [u8_xor_nat _ _ (l[k] ^^^ l'[k]).toNat_lt y2, ← UInt8.toNat_xor]
      have hst' := hst ((l[k] ^^^ l'[k]) ^^^ l''[k])
      have hxx : (xor3 l l' l'')[k]? = some ((l[k] ^^^ l'[k]) ^^^ l''[k]) := by
        simp [xor3, List.getElem?_zipWith, List.getElem?_eq_getElem hk0, List.getElem?_eq_getElem hk1, List.getElem?_eq_getElem hk2]
      obtain ⟨z1, hz1⟩ : ∃ z1, z1 = l[k] ^^^ l'[k] := ⟨_, rfl⟩
      rw [← hz1] at e1 e2 hst' hxx
      obtain ⟨z2, hz2⟩ : ∃ z2, z2 = z1 ^^^ l''[k] := ⟨_, rfl⟩
      rw [← hz2] at e2 hst' hxx
      rw [u8v_eq] at hst'
      have HXX := Lib.hid hxx
      clear hz1 hz2 hxx
      have hn0 : ¬ w.heap.size = b0 := by omega
      have hn1 : ¬ w.heap.size = b1 := by omega
      have hn2 : ¬ w.heap.size = b2 := by omega
      have hn0' : ¬ b0 = w.heap.size := by omega
      have hn1' : ¬ b1 = w.heap.size := by omega
      have hn2' : ¬ b2 = w.heap.size := by omega
      have hq1 : (0 : Int) ≤ (k : Int) := by omega
      have hq2 : (k : Int) < (n : Int) := by omega
      have hq3 : (k : Int) < (n' : Int) := by omega
      have hq4 : (k : Int) < (n'' : Int) := by omega
      have hq5 : (k : Int) < (m : Int) := by omega
      clear hst
      go_wp2
      go_region_held3 (fun w' => w'.cell? ⟨b0, off0 + k, none⟩ = some (.int .u8 (l[k].toNat : Int)) ∧ w'.cell? ⟨b1, off1 + k, none⟩ = some (.int .u8 (l'[k].toNat : Int)) ∧ w'.cell? ⟨b2, off2 + k, none⟩ = some (.int .u8 (l''[k].toNat : Int))) (go_keep) (fail)
      go_wp2
      refine ⟨⟨k + 1, x.set k z2, by omega, by go_num, fun j hj => ?_, hst', (hB.setCell (Nat.le_refl _) _).drew⟩, by simp [intOf]; omega⟩
      rcases Nat.lt_or_ge j k with h | h
      · rw [List.getElem?_set_ne (by omega)]; exact HX.out j h
      · obtain rfl : j = k := by omega
        rw [List.getElem?_set_self hkl, HXX.out]
    · have hkm : k = m := by omega
      subst hkm
      have hxl : x.length = k := OwnB.length ho
      have hxe : x = xor3 (l.take k) (l'.take k) (l''.take k) := by
        apply List.ext_getElem?
        intro j
        rcases Nat.lt_or_ge j k with h | h
        · rw [HX.out j h]
          simp [xor3, List.getElem?_zipWith, List.getElem?_take, h]
        · rw [List.getElem?_eq_none (by omega), List.getElem?_eq_none (by simp [xor3]; omega)]
      have hsx := sum_xor3 (l.take k) (l'.take k) (l''.take k) (by simp; omega) (by simp; omega)
      rw [← hxe] at hsx
      have hp0 : RdB wr.drew w.heap.size A k c (l.take k) := RdB.front (hb.below hB).drew (by omega)
      have hp1 : RdB wr.drew w.heap.size A' k c' (l'.take k) := RdB.front (hb'.below hB).drew (by omega)
      have hp2 : RdB wr.drew w.heap.size A'' k c'' (l''.take k) := RdB.front (hb''.below hB).drew (by omega)
      have hpx : RdB wr.drew wr.heap.size (some ⟨w.heap.size, 0, none⟩) k k x := ho.rd.drew
      have ht2 : TabAt wr.drew := ht.below hB.drew hg0
      have hg2 : 0 < wr.drew.heap.size := Nat.lt_of_lt_of_le hg0 hB.size
      have q0 := sum_lt (l.take k)
      have q1 := sum_lt (l'.take k)
      have q2 := sum_lt (l''.take k)
      obtain ⟨sx, hsxe⟩ : ∃ s, s = sum x := ⟨_, rfl⟩
      obtain ⟨s0, hs0e⟩ : ∃ s, s = sum (l.take k) := ⟨_, rfl⟩
      obtain ⟨s1, hs1e⟩ : ∃ s, s = sum (l'.take k) := ⟨_, rfl⟩
      obtain ⟨s2, hs2e⟩ : ∃ s, s = sum (l''.take k) := ⟨_, rfl⟩
      rw [← hsxe, ← hs0e, ← hs1e, ← hs2e] at hsx
      rw [← hs0e] at q0
      rw [← hs1e] at q1
      rw [← hs2e] at q2
      have e1 := u32_xor_nat s0 s1 q0 q1
      have q3 := xor_lt32 q0 q1
      obtain ⟨t1, ht1⟩ : ∃ t, t = s0 ^^^ s1 := ⟨_, rfl⟩
      rw [← ht1] at e1 q3 hsx
      have e2 := u32_xor_nat t1 s2 q3 q2
      rw [← hsx] at e2
      have H0 := Lib.hid hs0e
      have H1 := Lib.hid hs1e
      have H2 := Lib.hid hs2e
      have hkn : (k : Int) ≤ (n : Int) := by omega
      have hkn' : (k : Int) ≤ (n' : Int) := by omega
      have hkn'' : (k : Int) ≤ (n'' : Int) := by omega
      have hcc : (k : Int) ≤ (c : Int) := by have := hb.cap; omega
      have hcc' : (k : Int) ≤ (c' : Int) := by have := hb'.cap; omega
      have hcc'' : (k : Int) ≤ (c'' : Int) := by have := hb''.cap; omega
      have hkk0 : (0 : Int) ≤ (k : Int) := by omega
      have hS0 : Below wr.drew.heap.size wr.drew wr.drew := Below.refl _ _
      have HX' := Lib.hid hsxe
      clear hsxe hs0e hs1e hs2e hsx ht1 hxe
      go_wp2
      go_region_held3 (fun w' => Below wr.drew.heap.size wr.drew w') (first | exact hS0 | exact hB3)
        (first
          | (go_at_call_of 10 (Value.slice A k c); refine (sum_any A k c (l.take k) _ wr.drew hp0 ht2 (by omega)).mono ?_; rw [← H0.out]; rintro e w' ⟨rfl, rfl⟩)
          | (go_at_call_of 10 (Value.slice A' k c'); refine (sum_any A' k c' (l'.take k) _ wr.drew hp1 ht2 (by omega)).mono ?_; rw [← H1.out]; rintro e w' ⟨rfl, rfl⟩)
          | (go_at_call_of 10 (Value.slice A'' k c''); refine (sum_any A'' k c'' (l''.take k) _ wr.drew hp2 ht2 (by omega)).mono ?_; rw [← H2.out]; rintro e w' ⟨rfl, rfl⟩)
          | (go_at_call 10; refine (sum_any (some ⟨w.heap.size, 0, none⟩) k k x _ wr.drew hpx ht2 (by omega)).mono ?_; rw [← HX'.out]; rintro e w' ⟨rfl, rfl⟩)
          | (go_at_call 14; refine (head_any wr.drew ht2 hg2).mono ?_; rintro e w3 ⟨rfl, hB3⟩))
      go_wp2
      go_ret
      exact ⟨rfl, hB.trans ((Below.drew (Below.refl _ _)).trans (hB3.mono hB.size))⟩
end Go.PH

/- The walks of crc and of its reference: sealing and opening. -/
import Derived.Test.YtcfdgndigmcacaaDoorCrcWalk
import Derived.BigQuiet
import Derived.Deep.QuietTactic
import Derived.Deep.RegionWith
namespace Go.PH
open Go.RowKit Go.Proofs

theorem le4_vals (s : Nat) (hs : s < 4294967296) : [Value.int .u8 ((s : Int) % 256), .int .u8 ((s : Int) / 256 % 256), .int .u8 ((s : Int) / 65536 % 256), .int .u8 ((s : Int) / 16777216)] = (le4 s).map u8v := by
  simp [le4, u8v]; omega

set_option maxHeartbeats 1000000 in
theorem rseal_any (A : Option Addr) (n c : Nat) (l : List UInt8) (w : World) (hb : RdB w w.heap.size A n c l) (hn : n ≤ 140737488351232) :
    Calls Tryd.prog 19 #[.slice A n c] w fun e w' => ∃ A2 c2, e = .returned (.slice A2 (n + 4) c2) ∧ Own w' w.heap.size 5 1 A2 (n + 4) c2 ((seal' l).map u8v) ∧ Below w.heap.size w w' := by
  have hl := hb.length
  go_enter Tryd.func19, Tryd.ntmps19
  go_wp2_with (first | (with_reducible refine hold_append ?_) | (with_reducible refine hold_make ?_) | (with_reducible refine hold_copy ?_))
  refine (rsum_any A n c l _ w hb (by omega)).mono ?_
  rintro e w' ⟨rfl, rfl⟩
  have hs := sum_lt l
  obtain ⟨s, hse⟩ : ∃ s, s = sum l := ⟨_, rfl⟩
  rw [← hse] at hs
  have Hse := Lib.hid hse
  rw [← hse]
  clear hse
  go_wp2_with (first | (with_reducible refine hold_append ?_) | (with_reducible refine hold_make ?_) | (with_reducible refine hold_copy ?_))
  refine unhold (wp_app slB rfl rfl rfl rfl (Own.none_ w w.heap.size _ _) hb (map_one l) (by omega) (by simp [maxLen]; omega) (Nat.le_refl _) ?_)
  intro A1 c1 w1 ho1 hg1 _
  have hB1 : Below w.heap.size w w1 := (Below.refl _ _).grown hg1 (Nat.le_refl _) (by simp [blk])
  have hz1 := hB1.size
  simp only [Nat.zero_add, List.nil_append] at ho1
  go_wp2_with (first | (with_reducible refine hold_append ?_) | (with_reducible refine hold_make ?_) | (with_reducible refine hold_copy ?_))
  have hlit := own_lit (w := w1) w.heap.size #[Value.int .u8 ((s : Int) % 256), .int .u8 ((s : Int) / 256 % 256), .int .u8 ((s : Int) / 65536 % 256), .int .u8 ((s : Int) / 16777216)] 5 4 hz1 (by simp [maxLen]) rfl (size := 1) (by omega)
  refine unhold (wp_app (base := w.heap.size) slB rfl rfl rfl rfl (ho1.alloc _) hlit.rd (by simp [Value.oneCell']) (by omega) (by simp [maxLen]; omega) (by simp; omega) ?_)
  intro A2 c2 w2 ho2 hg2 _
  have hB2 : Below w.heap.size w w2 := (hB1.alloc hz1 _).grown hg2 (by simp; omega) (fun g hg => (ho1.blk_lt hg).1)
  go_wp2_with (first | (with_reducible refine hold_append ?_) | (with_reducible refine hold_make ?_) | (with_reducible refine hold_copy ?_))
  go_ret
  refine ⟨A2, c2, by simp, ?_, hB2⟩
  have e : seal' l = l ++ le4 s := by rw [Hse.out]; rfl
  rw [e, List.map_append, ← le4_vals s hs]
  simpa using ho2

theorem byte_ne (y : UInt8) (s k : Nat) (hk : k < 4) : ((y.toNat : Int) != (s : Int) / 2 ^ (8 * k) % 256) = (y != UInt8.ofNat (s / 256 ^ k)) := by
  have e : (s : Int) / 2 ^ (8 * k) % 256 = (((UInt8.ofNat (s / 256 ^ k)).toNat : Nat) : Int) := by
    obtain rfl | rfl | rfl | rfl : k = 0 ∨ k = 1 ∨ k = 2 ∨ k = 3 := by omega
    all_goals simp
  rw [e, Bool.eq_iff_iff]
  simp only [bne_iff_ne, ne_eq, Int.natCast_inj, UInt8.toNat_inj]
set_option maxHeartbeats 1000000 in
theorem open_any (A : Option Addr) (n c : Nat) (l : List UInt8) (w : World) (hb : RdB w w.heap.size A n c l) (ht : TabAt w) (hg0 : 0 < w.heap.size) (hn : n ≤ 140737488351236) :
    Calls Tryd.prog 20 #[.slice A n c] w fun e w' => ∃ A2 c2, e = .returned (.tuple #[.slice A2 (opn l).length c2, .bool (opens l)]) ∧ Own w' w.heap.size 5 1 A2 (opn l).length c2 ((opn l).map u8v) ∧ Below w.heap.size w w' := by
  have hl := hb.length
  by_cases h4 : n < 4
  · have e1 : opens l = false := opens_short (by omega)
    rw [opn_no e1, e1]
    clear e1
    go_enter Tryd.func20, Tryd.ntmps20
    go_wp2_with (first | (with_reducible refine hold_append ?_) | (with_reducible refine hold_make ?_) | (with_reducible refine hold_copy ?_))
    go_ret2
    exact ⟨none, 0, rfl, Own.none_ _ _ _ _, Below.refl _ _⟩
  · have hiff := opens_iff (l := l) (by omega)
    have Hiff := Lib.hid hiff
    clear hiff
    go_enter Tryd.func20, Tryd.ntmps20
    go_wp2_with (first | (with_reducible refine hold_append ?_) | (with_reducible refine hold_make ?_) | (with_reducible refine hold_copy ?_) | (with_reducible refine hold_slice ?_))
    refine unhold (wp_cut slB rfl rfl rfl hb 0 (n - 4) (n - 4) (.inl ⟨rfl, rfl⟩) (.inr ⟨_, _, rfl, by omega⟩) (.inr ⟨_, _, rfl, by omega⟩) (fun _ => rfl) (by omega) (by omega) (by have := hb.cap; omega) (by omega) ?_)
    intro A1 hr1
    simp only [Nat.zero_mul, Nat.mul_one, List.drop_zero, ← List.map_take, Nat.sub_zero] at hr1
    go_wp2_with (first | (with_reducible refine hold_append ?_) | (with_reducible refine hold_make ?_) | (with_reducible refine hold_copy ?_) | (with_reducible refine hold_slice ?_))
    refine (sum_any A1 (n - 4) (n - 4) (l.take (n - 4)) _ w hr1 ht (by omega)).mono ?_
    rintro e w' ⟨rfl, rfl⟩
    have hs := sum_lt (l.take (n - 4))
    obtain ⟨s, hse⟩ : ∃ s, s = sum (l.take (n - 4)) := ⟨_, rfl⟩
    rw [← hse] at hs
    have Hse := Lib.hid hse
    rw [← hse]
    clear hse
    go_wp2_with (first | (with_reducible refine hold_append ?_) | (with_reducible refine hold_make ?_) | (with_reducible refine hold_copy ?_))
    go_loopw [18] (fun i wr => ∃ k : Nat, k ≤ 4 ∧ i = .int .i64 k ∧ (∀ j, j < k → l[n - 4 + j]? = (le4 s)[j]?) ∧ Below w.heap.size w wr) (fun i _ => 4 - (intOf i).toNat)
    case atStart => exact ⟨0, by omega, rfl, fun j hj => by omega, Below.refl _ _⟩
    case round =>
      obtain ⟨k, hk, rfl, heq, hB⟩ := hrel
      have HEQ := Lib.hid heq
      clear heq
      by_cases hlt : k < 4
      · obtain ⟨b, off, rfl, hbB, hkl, hcell⟩ := RdB.at_k (hb.below hB) (k := n - 4 + k) (by omega)
        have hy := l[n - 4 + k].toNat_lt
        go_wp2
        go_quiet (fail)
        go_wp2
        · have h1 : ((l[n - 4 + k].toNat : Int) != (s : Int) / 2 ^ (8 * k) % 256) = true := by assumption
          rw [byte_ne _ _ _ hlt] at h1
          have e1 : opens l = false := by
            rw [Bool.eq_false_iff]
            intro ho
            have h2 := Hiff.out.1 ho k hlt
            rw [hl, ← Hse.out, List.getElem?_eq_getElem hkl, le4_get s k hlt] at h2
            simp only [Option.some.injEq] at h2
            simp [h2] at h1
          go_ret2
          refine ⟨none, 0, ?_, ?_, (hB.trans (below_drewN (Below.refl _ _) _))⟩
          · rw [opn_no e1, e1]; rfl
          · rw [opn_no e1]; exact Own.none_ _ _ _ _
        · have h1 : ((l[n - 4 + k].toNat : Int) != (s : Int) / 2 ^ (8 * k) % 256) = false := by assumption
          rw [byte_ne _ _ _ hlt] at h1
          simp only [bne_eq_false_iff_eq] at h1
          refine ⟨⟨k + 1, by omega, by go_num, fun j hj => ?_, (hB.trans (below_drewN (Below.refl _ _) _))⟩, by simp [intOf]; omega⟩
          rcases Nat.lt_or_ge j k with h | h
          · exact HEQ.out j h
          · obtain rfl : j = k := by omega
            rw [List.getElem?_eq_getElem hkl, h1, le4_get s j hlt]
      · have hk4 : k = 4 := by omega
        have e1 : opens l = true := by
          rw [Hiff.out]
          intro j hj
          rw [hl, ← Hse.out]
          exact HEQ.out j (by omega)
        have e2 : opn l = l.take (n - 4) := by rw [opn_of e1, hl]
        have E1 := Lib.hid e1
        have E2 := Lib.hid e2
        clear e1 e2 hk4
        go_wp2_with (first | (with_reducible refine hold_append ?_) | (with_reducible refine hold_make ?_) | (with_reducible refine hold_copy ?_))
        have hz := hB.size
        refine unhold (wp_make slB rfl rfl (n - 4) (n - 4) rfl rfl (by omega) (by omega) (Nat.le_refl _) (by omega) (by simp [maxLen]; omega) w.heap.size hz ?_)
        intro w1 ho1 hg1
        have hb1 := (hb.below hB).grown hg1 hz (by simp)
        have hB1 := hB.grown hg1 hz (by simp)
        have hx0 : (madeCells (Value.int .u8 0).cells ((n - 4) * 1)).toList.take ((n - 4) * 1) = List.replicate (n - 4) (Value.int .u8 0) := by
          simp [Value.cells, toList_madeCells_one]
        rw [hx0] at ho1
        clear hx0
        go_wp2_with (first | (with_reducible refine hold_append ?_) | (with_reducible refine hold_make ?_) | (with_reducible refine hold_copy ?_))
        refine unhold (wp_copy slB rfl rfl rfl rfl ho1 hb1 (by simp [u8v_one]) ?_)
        intro w2 ho2 hg2
        have hB2 := hB1.grown hg2 hB1.size (fun g hg => (ho1.blk_lt hg).1)
        have hx1 : (l.map u8v).take (n - 4) ++ (List.replicate (n - 4) (Value.int .u8 0)).drop n = (l.take (n - 4)).map u8v := by
          rw [List.drop_of_length_le (by simp), List.append_nil, List.map_take]
        rw [hx1] at ho2
        clear hx1
        have hlen : (opn l).length = n - 4 := by rw [E2.out, List.length_take]; omega
        go_wp2_with (first | (with_reducible refine hold_append ?_) | (with_reducible refine hold_make ?_) | (with_reducible refine hold_copy ?_))
        go_ret2
        refine ⟨some ⟨wr.heap.size, 0, none⟩, n - 4, ?_, ?_, hB2⟩
        · rw [hlen, E1.out]; rfl
        · rw [hlen, E2.out]; exact ho2
end Go.PH

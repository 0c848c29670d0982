/- The walks of crc and of its reference. -/
import Derived.Test.YtcfdgndigmcacaaDoorRows
import Derived.Test.YtcfdgndigmcacaaDoorMem
import Derived.Test.YtcfdgndigmcacaaDoorCrcMath
import Derived.Test.YtcfdgndigmcacaaDoorSlB
namespace Go.PH
open Go.RowKit Go.Proofs

def TabAt (w : World) : Prop := ∀ j : Nat, j < 16 → w.cell? ⟨0, j, none⟩ = some (.int .u32 (tab j : Int))

theorem nib_facts {w : World} (ht : TabAt w) (T : Nat) (hT : T < 4294967296) :
    ∃ M V T' : Nat, M < 16 ∧ V < 4294967296 ∧ T' < 4294967296 ∧ bits .and .u32 (T : Int) 15 = (M : Int) ∧ w.cell? ⟨0, M, none⟩ = some (.int .u32 (V : Int)) ∧
      bits .xor .u32 ((T : Int) / 16) (V : Int) = (T' : Int) ∧ T' = nib T := by
  refine ⟨T % 16, tab (T % 16), nib T, by omega, tab_lt _, nib_lt hT, ?_, ht _ (by omega), ?_, rfl⟩
  · have := u32_and_nat T 15 hT (by omega)
    rw [show T &&& 15 = T % 16 from Nat.and_two_pow_sub_one_eq_mod T 4] at this
    exact this
  · have := u32_xor_nat (T / 16) (tab (T % 16)) (by omega) (tab_lt _)
    simpa [nib] using this

set_option maxHeartbeats 400000 in
theorem more_any (A : Option Addr) (n c s : Nat) (l : List UInt8) (B : Nat) (w : World) (hb : RdB w B A n c l) (ht : TabAt w) (hn : n ≤ 140737488355328) (hs : s < 4294967296) :
    Calls Tryd.prog 36 #[.int .u32 s, .slice A n c] w fun e w' => e = .returned (.int .u32 (more s l)) ∧ w = w' := by
  have hl := hb.length
  have e0 : bits .xor .u32 IntKind.u32.max (s : Int) = ((4294967295 ^^^ s : Nat) : Int) := u32_xor_nat 4294967295 s (by omega) hs
  have hr0 : 4294967295 ^^^ s < 4294967296 := xor_lt32 (by omega) hs
  obtain ⟨r0, hr0e⟩ : ∃ r0, r0 = 4294967295 ^^^ s := ⟨_, rfl⟩
  rw [← hr0e] at e0 hr0
  have hfin : more s l = 4294967295 ^^^ reg r0 l := by rw [hr0e]; rfl
  have Hfin := Lib.hid hfin
  clear hr0e hfin
  go_enter Tryd.func36, Tryd.ntmps36
  go_wp2
  go_loop [5, 11] (fun r i => ∃ k : Nat, k ≤ n ∧ i = .int .i64 k ∧ ∃ R : Nat, R < 4294967296 ∧ r = .int .u32 R ∧ R = reg r0 (l.take k)) (fun _ i => n - (intOf i).toNat)
  case atStart => exact ⟨0, by omega, rfl, r0, hr0, by simp, by simp [reg]⟩
  case round =>
    obtain ⟨k, hk, rfl, R, hR, rfl, HR⟩ := hrel
    by_cases hlt : k < n
    · obtain ⟨b, off, rfl, hbB, hkl, hcell⟩ := hb.at_k hlt
      have hx := l[k].toNat_lt
      have hsnoc : reg r0 (l.take (k + 1)) = stepT R l[k].toNat := by
        rw [List.take_succ_eq_append_getElem hkl, reg_snoc, ← HR, stepT_eq]
      have hS : stepT R l[k].toNat = nib (nib (R ^^^ l[k].toNat)) := rfl
      have e1 : bits .xor .u32 (R : Int) (l[k].toNat : Int) = ((R ^^^ l[k].toNat : Nat) : Int) := u32_xor_nat R _ hR (by omega)
      have hT : R ^^^ l[k].toNat < 4294967296 := xor_lt32 hR (by omega)
      obtain ⟨T, hTe⟩ : ∃ T, T = R ^^^ l[k].toNat := ⟨_, rfl⟩
      rw [← hTe] at e1 hT hS
      obtain ⟨M1, V1, T1, hM1, hV1, hT1, e2, c1, e3, hT1e⟩ := nib_facts ht T hT
      obtain ⟨M2, V2, T2, hM2, hV2, hT2, e4, c2, e5, hT2e⟩ := nib_facts ht T1 hT1
      have hfin2 : T2 = reg r0 (l.take (k + 1)) := by rw [hsnoc, hS, hT2e, hT1e]
      have HF := Lib.hid hfin2
      clear hfin2 hT2e hT1e hTe hsnoc hS HR
      go_wp2
      go_round
      case rel => exact ⟨k + 1, by omega, by go_num, T2, hT2, rfl, HF.out⟩
      case measure => simp [intOf]; omega
    · have hkn : k = n := by omega
      have e1 : bits .xor .u32 IntKind.u32.max (R : Int) = ((4294967295 ^^^ R : Nat) : Int) := u32_xor_nat 4294967295 R (by omega) hR
      have hres : 4294967295 ^^^ R = more s l := by rw [Hfin.out, HR, hkn, ← hl, List.take_length]
      rw [hres] at e1
      clear hres HR
      go_wp2
      go_ret
      exact ⟨rfl, rfl⟩

theorem bitN_snoc (m r : Nat) : bitN (m + 1) r = bit (bitN m r) := by rw [bitN_add]; rfl

set_option maxHeartbeats 400000 in
theorem rmore_any (A : Option Addr) (n c s : Nat) (l : List UInt8) (B : Nat) (w : World) (hb : RdB w B A n c l) (hn : n ≤ 140737488355328) (hs : s < 4294967296) :
    Calls Tryd.prog 37 #[.int .u32 s, .slice A n c] w fun e w' => e = .returned (.int .u32 (more s l)) ∧ w = w' := by
  have hl := hb.length
  have e0 : bits .xor .u32 IntKind.u32.max (s : Int) = ((4294967295 ^^^ s : Nat) : Int) := u32_xor_nat 4294967295 s (by omega) hs
  have hr0 : 4294967295 ^^^ s < 4294967296 := xor_lt32 (by omega) hs
  obtain ⟨r0, hr0e⟩ : ∃ r0, r0 = 4294967295 ^^^ s := ⟨_, rfl⟩
  rw [← hr0e] at e0 hr0
  have hfin : more s l = 4294967295 ^^^ reg r0 l := by rw [hr0e]; rfl
  have Hfin := Lib.hid hfin
  clear hr0e hfin
  go_enter Tryd.func37, Tryd.ntmps37
  go_wp2
  go_loop [5, 6] (fun r i => ∃ k : Nat, k ≤ n ∧ i = .int .i64 k ∧ ∃ R : Nat, R < 4294967296 ∧ r = .int .u32 R ∧ R = reg r0 (l.take k)) (fun _ i => n - (intOf i).toNat)
  case atStart => exact ⟨0, by omega, rfl, r0, hr0, by simp, by simp [reg]⟩
  case round =>
    obtain ⟨k, hk, rfl, R, hR, rfl, HR⟩ := hrel
    by_cases hlt : k < n
    · obtain ⟨b, off, rfl, hbB, hkl, hcell⟩ := hb.at_k hlt
      have hx := l[k].toNat_lt
      have hsnoc : reg r0 (l.take (k + 1)) = bitN 8 (R ^^^ l[k].toNat) := by
        rw [List.take_succ_eq_append_getElem hkl, reg_snoc, ← HR]; rfl
      have e1 : bits .xor .u32 (R : Int) (l[k].toNat : Int) = ((R ^^^ l[k].toNat : Nat) : Int) := u32_xor_nat R _ hR (by omega)
      have hT : R ^^^ l[k].toNat < 4294967296 := xor_lt32 hR (by omega)
      obtain ⟨T, hTe⟩ : ∃ T, T = R ^^^ l[k].toNat := ⟨_, rfl⟩
      rw [← hTe] at e1 hT hsnoc
      have HF := Lib.hid hsnoc
      clear hTe hsnoc HR
      go_wp2
      go_loop [5, 7] (fun r j => ∃ m : Nat, m ≤ 8 ∧ j = .int .i64 m ∧ ∃ R : Nat, R < 4294967296 ∧ r = .int .u32 R ∧ R = bitN m T) (fun _ j => 8 - (intOf j).toNat)
      case atStart => exact ⟨0, by omega, rfl, T, hT, by simp, by simp [bitN]⟩
      case round =>
        obtain ⟨m, hm, rfl, U, hU, rfl, HU⟩ := hrel
        have HU' := Lib.hid HU
        clear HU
        by_cases hlt8 : m < 8
        · have hP : bits .xor .u32 ((U : Int) / 2) 2197175160 = (((U / 2) ^^^ 2197175160 : Nat) : Int) := by
            have := u32_xor_nat (U / 2) 2197175160 (by omega) (by omega)
            simpa using this
          have hP' : (U / 2) ^^^ 2197175160 < 4294967296 := xor_lt32 (by omega) (by omega)
          obtain ⟨Y, hYe⟩ : ∃ Y, Y = (U / 2) ^^^ 2197175160 := ⟨_, rfl⟩
          rw [← hYe] at hP hP'
          have HY := Lib.hid hYe
          clear hYe
          by_cases h2 : U % 2 = 1
          · have hb1 : bit U = Y := by unfold bit; rw [if_pos h2, HY.out]
            have H1 := Lib.hid hb1
            have hc : ((U : Int) % 2 == 1) = true := by simp; omega
            have H2 := Lib.hid h2
            clear hb1 h2
            go_wp2
            go_round
            case rel => exact ⟨m + 1, by omega, by go_num, Y, hP', rfl, by rw [bitN_snoc, ← HU'.out, H1.out]⟩
            case measure => simp [intOf]; omega
          · have hb1 : bit U = U / 2 := by unfold bit; rw [if_neg h2]
            have H1 := Lib.hid hb1
            have hc : ((U : Int) % 2 == 1) = false := by simp; omega
            have H2 := Lib.hid h2
            clear hb1 h2
            go_wp2
            go_round
            case rel => exact ⟨m + 1, by omega, by go_num, U / 2, by omega, by simp, by rw [bitN_snoc, ← HU'.out, H1.out]⟩
            case measure => simp [intOf]; omega
        · have h8 : m = 8 := by omega
          have hres : U = reg r0 (l.take (k + 1)) := by rw [HF.out, HU'.out, h8]
          have HRES := Lib.hid hres
          clear hres h8
          go_wp2
          go_round
          case rel => exact ⟨k + 1, by omega, by go_num, U, hU, rfl, HRES.out⟩
          case measure => simp [intOf]; omega
    · have hkn : k = n := by omega
      have e1 : bits .xor .u32 IntKind.u32.max (R : Int) = ((4294967295 ^^^ R : Nat) : Int) := u32_xor_nat 4294967295 R (by omega) hR
      have hres : 4294967295 ^^^ R = more s l := by rw [Hfin.out, HR, hkn, ← hl, List.take_length]
      rw [hres] at e1
      clear hres HR
      go_wp2
      go_ret
      exact ⟨rfl, rfl⟩

theorem sum_any (A : Option Addr) (n c : Nat) (l : List UInt8) (B : Nat) (w : World) (hb : RdB w B A n c l) (ht : TabAt w) (hn : n ≤ 140737488355328) :
    Calls Tryd.prog 24 #[.slice A n c] w fun e w' => e = .returned (.int .u32 (sum l)) ∧ w = w' := by
  go_enter Tryd.func24, Tryd.ntmps24
  go_wp2_with (go_at_call 36; refine (more_any A n c 0 l B w hb ht hn (by omega)).mono ?_; rintro e w' ⟨rfl, rfl⟩)
  go_ret
  exact ⟨rfl, rfl⟩
theorem rsum_any (A : Option Addr) (n c : Nat) (l : List UInt8) (B : Nat) (w : World) (hb : RdB w B A n c l) (hn : n ≤ 140737488355328) :
    Calls Tryd.prog 29 #[.slice A n c] w fun e w' => e = .returned (.int .u32 (sum l)) ∧ w = w' := by
  go_enter Tryd.func29, Tryd.ntmps29
  go_wp2_with (go_at_call 37; refine (rmore_any A n c 0 l B w hb hn (by omega)).mono ?_; rintro e w' ⟨rfl, rfl⟩)
  go_ret
  exact ⟨rfl, rfl⟩


theorem u8v_ofNat (x : Nat) : u8v (UInt8.ofNat x) = .int .u8 (((x : Int)) % 256) := by
  simp [u8v]
theorem seal_set (l : List UInt8) (s k n : Nat) (hl : l.length = n) (hk : k < 4) :
    ((l ++ (le4 s).take k ++ List.replicate (4 - k) 0).map u8v).set (n + k) (.int .u8 ((s / 256 ^ k % 256 : Nat) : Int)) = (l ++ (le4 s).take (k + 1) ++ List.replicate (4 - (k + 1)) 0).map u8v := by
  subst hl
  obtain rfl | rfl | rfl | rfl : k = 0 ∨ k = 1 ∨ k = 2 ∨ k = 3 := by omega
  all_goals simp [le4, u8v, List.set_append]
set_option maxHeartbeats 1000000 in
theorem seal_any (A : Option Addr) (n c : Nat) (l : List UInt8) (w : World) (hb : RdB w w.heap.size A n c l) (ht : TabAt w) (hg0 : 0 < w.heap.size) (hn : n ≤ 140737488351232) :
    Calls Tryd.prog 16 #[.slice A n c] w fun e w' => ∃ A2 c2, e = .returned (.slice A2 (n + 4) c2) ∧ Own w' w.heap.size 5 1 A2 (n + 4) c2 ((seal' l).map u8v) ∧ Below w.heap.size w w' := by
  have hl := hb.length
  go_enter Tryd.func16, Tryd.ntmps16
  go_wp2_with (first | (with_reducible refine hold_append ?_) | (with_reducible refine hold_make ?_) | (with_reducible refine hold_copy ?_))
  refine unhold (wp_make slB rfl rfl (n + 4) (n + 4) rfl rfl (by omega) (by omega) (Nat.le_refl _) (by omega) (by simp [maxLen]; omega) w.heap.size (Nat.le_refl _) ?_)
  intro w1 ho1 hg1
  have hb1 := hb.grown hg1 (Nat.le_refl _) (by simp)
  have hB1 : Below w.heap.size w w1 := (Below.refl _ _).grown hg1 (Nat.le_refl _) (by simp)
  have hx0 : (madeCells (Value.int .u8 0).cells ((n + 4) * 1)).toList.take ((n + 4) * 1) = List.replicate (n + 4) (Value.int .u8 0) := by
    simp [Value.cells, toList_madeCells_one]
  rw [hx0] at ho1
  go_wp2_with (first | (with_reducible refine hold_append ?_) | (with_reducible refine hold_make ?_) | (with_reducible refine hold_copy ?_))
  refine unhold (wp_copy slB rfl rfl rfl rfl ho1 hb1 (by simp [u8v_one]) ?_)
  intro w2 ho2 hg2
  have hb2 := hb1.grown hg2 hB1.size (by simp [blk])
  have hB2 : Below w.heap.size w w2 := hB1.grown hg2 hB1.size (by simp [blk])
  have hx1 : (l.map u8v).take (n + 4) ++ (List.replicate (n + 4) (Value.int .u8 0)).drop n = (l ++ [0, 0, 0, 0]).map u8v := by
    rw [List.take_of_length_le (by simp; omega)]; simp [u8v]
  rw [hx1] at ho2
  have ht2 : TabAt w2 := fun j hj => (hB2.cell (p := ⟨0, j, none⟩) hg0).trans (ht j hj)
  clear hx0 hx1
  go_wp2_with (first | (with_reducible refine hold_append ?_) | (with_reducible refine hold_make ?_) | (with_reducible refine hold_copy ?_))
  refine (sum_any A n c l _ w2 hb2 ht2 (by omega)).mono ?_
  rintro e w' ⟨rfl, rfl⟩
  have hs := sum_lt l
  obtain ⟨s, hse⟩ : ∃ s, s = sum l := ⟨_, rfl⟩
  rw [← hse] at hs
  have Hse := Lib.hid hse
  rw [← hse]
  clear hse
  go_wp2_with (first | (with_reducible refine hold_append ?_) | (with_reducible refine hold_make ?_) | (with_reducible refine hold_copy ?_))
  go_loopw [15] (fun i wr => ∃ k : Nat, k ≤ 4 ∧ i = .int .i64 k ∧ Own wr w.heap.size 5 1 (some ⟨w.heap.size, 0, none⟩) (n + 4) (n + 4) ((l ++ (le4 s).take k ++ List.replicate (4 - k) 0).map u8v) ∧ Below w.heap.size w wr) (fun i _ => 4 - (intOf i).toNat)
  case atStart => exact ⟨0, by omega, rfl, by simpa using ho2, hB2⟩
  case round =>
    obtain ⟨k, hk, rfl, ho, hB⟩ := hrel
    by_cases hlt : k < 4
    · have hc := ho.cellAt (n + k) (by omega)
      have hf := ho.frozenAt (n + k)
      have hst := fun u => ho.stored (n + k) u
      have hx : ((l ++ (le4 s).take k ++ List.replicate (4 - k) 0).map u8v)[n + k]? = some (.int .u8 0) := by
        obtain rfl | rfl | rfl | rfl : k = 0 ∨ k = 1 ∨ k = 2 ∨ k = 3 := by omega
        all_goals simp [le4, hl, u8v, List.getElem?_append]
      rw [hx] at hc
      clear hx ho
      obtain rfl | rfl | rfl | rfl : k = 0 ∨ k = 1 ∨ k = 2 ∨ k = 3 := by omega
      · simp only [Nat.add_zero] at hc hf hst
        go_wp2
        have h1 := (hst (.int .u8 ((s : Int) % 256))).1
        exact ⟨⟨1, by omega, rfl, by rw [← seal_set l s 0 n hl (by omega)]; simpa using h1, hB.setCell (Nat.le_refl _) _⟩, by simp [intOf]⟩
      · go_wp2
        have h1 := (hst (.int .u8 ((s : Int) / 256 % 256))).1
        exact ⟨⟨2, by omega, rfl, by rw [← seal_set l s 1 n hl (by omega)]; simpa using h1, hB.setCell (Nat.le_refl _) _⟩, by simp [intOf]⟩
      · go_wp2
        have h1 := (hst (.int .u8 ((s : Int) / 65536 % 256))).1
        exact ⟨⟨3, by omega, rfl, by rw [← seal_set l s 2 n hl (by omega)]; simpa using h1, hB.setCell (Nat.le_refl _) _⟩, by simp [intOf]⟩
      · go_wp2
        have h1 := (hst (.int .u8 ((s : Int) / 16777216))).1
        have e : (s : Int) / 16777216 = ((s / 256 ^ 3 % 256 : Nat) : Int) := by omega
        exact ⟨⟨4, by omega, rfl, by rw [← seal_set l s 3 n hl (by omega), ← e]; simpa using h1, hB.setCell (Nat.le_refl _) _⟩, by simp [intOf]⟩
    · have h4 : k = 4 := by omega
      subst h4
      go_wp2
      go_ret
      exact ⟨_, _, rfl, by simpa [seal', Hse.out, le4] using ho, hB⟩
end Go.PH

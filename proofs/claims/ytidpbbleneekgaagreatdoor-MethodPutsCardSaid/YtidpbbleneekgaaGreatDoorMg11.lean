/- Texts laid together: VlSameRef, VlSee. -/
import Derived.Test.YtidpbbleneekgaaGreatDoorProg
import Derived.Test.YtidpbbleneekgaaGreatDoorMg02
import Derived.Test.YtidpbbleneekgaaGreatDoorMg03
import Derived.Test.YtidpbbleneekgaaGreatDoorMg09
import Derived.Test.YtidpbbleneekgaaGreatDoorMg10
section
/- '==' of values: the walk of the document's program. -/
set_option linter.all false
set_option linter.unusedSimpArgs false
set_option linter.unusedVariables false
namespace Go.PH
open Go.RowKit Go.Proofs

set_option maxRecDepth 20000 in
set_option maxHeartbeats 1000000 in
theorem rsame_any (v : Vl) : ∀ (u : Vl) (h k : VH) (w : World), RVw w v h → RVw w u k → Calls Tryz.prog 58 #[.agg (vlV v h), .agg (vlV u k)] w (SameR w v u) := by
  refine Vl.ind (P := fun v => ∀ (u : Vl) (h k : VH) (w : World), RVw w v h → RVw w u k → Calls Tryz.prog 58 #[.agg (vlV v h), .agg (vlV u k)] w (SameR w v u)) ?_ v
  intro v ih u h k w hv hu
  obtain ⟨K1, j1, K2, j2⟩ := h
  obtain ⟨M1, i1, M2, i2⟩ := k
  unfold vlV SameR
  simp only
  obtain ⟨xb, w1, hxb, hxv, hX, hB1⟩ := alloc_stepV w #[.int .u8 (v.kind : Int), .int .u64 (v.n : Int), .string (str v.s), .slice K1 v.keys.length j1, .slice K2 v.list.length j2] 50
  obtain ⟨yb, w2, hyb, hyv, hY, hB2⟩ := alloc_stepV w1 #[.int .u8 (u.kind : Int), .int .u64 (u.n : Int), .string (str u.s), .slice M1 u.keys.length i1, .slice M2 u.list.length i2] 50
  have hyb' : xb + 1 = yb := by rw [hyb, hxv, hxb]; simp
  have hB := hB1.trans (hB2.mono hB1.size)
  have hX2 := hX.below hB2
  have hv2 := hv.up hB
  have hu2 := hu.up hB
  have c0 := hX2.cell (j := 0) rfl
  have c1 := hX2.cell (j := 1) rfl
  have c2 := hX2.cell (j := 2) rfl
  have c3 := hX2.cell (j := 3) rfl
  have c4 := hX2.cell (j := 4) rfl
  have d0 := hY.cell (j := 0) rfl
  have d1 := hY.cell (j := 1) rfl
  have d2 := hY.cell (j := 2) rfl
  have d3 := hY.cell (j := 3) rfl
  have d4 := hY.cell (j := 4) rfl
  have hst : ((str v.s).toList != (str u.s).toList) = !decide (v.s = u.s) := by rw [bne, strs_eq]
  have hst2 := strs_eq v.s u.s
  obtain ⟨xs, _, _, _, hvk⟩ := hv2.parts
  obtain ⟨ys, _, _, _, huk⟩ := hu2.parts
  have hbv := hv.bounds
  have hbu := hu.bounds
  have hel := fun {i : Nat} (hi : i < v.list.length) => hv2.elem hi
  have hfl := fun {i : Nat} (hi : i < u.list.length) => hu2.elem hi
  simp only at hvk huk hel hfl
  clear hyb hX hv hu
  by_cases hk : v.kind = u.kind
  · have g1 : ((v.kind : Int) != (u.kind : Int)) = false := by simp [hk]
    by_cases hn : v.n = u.n
    · have g2 : ((v.n : Int) != (u.n : Int)) = false := by simp [hn]
      by_cases hs : v.s = u.s
      · have g3 : decide (v.s = u.s) = true := by simpa using hs
        rw [g3] at hst hst2
        simp only [Bool.not_true] at hst
        clear g3
        by_cases hlk : v.keys.length = u.keys.length
        · have g4 : ((v.keys.length : Int) != (u.keys.length : Int)) = false := by simp [hlk]
          by_cases hll : v.list.length = u.list.length
          · have g5 : ((v.list.length : Int) != (u.list.length : Int)) = false := by simp [hll]
            have HE : Hid (sameV v u = (decide (v.keys = u.keys) && sameL v.list u.list)) := Lib.hid (by rw [sameV_eq]; simp [hk, hn, hs])
            have HLK := Lib.hid hlk
            have HLL := Lib.hid hll
            have IH := Lib.hid ih
            have hbk := hbv.2.2.2.2.1
            have hbl := hbv.2.2.2.2.2
            clear hk hn hs hlk hll ih hbv hbu
            rw [HE.out]
            go_enter Tryz.func58, Tryz.ntmps58
            go_upto_region 1 with fail
            rw [← hxb, ← hxv, hyb', ← hyv]
            clear hxb hxv hyb' hyv
            go_wp2_with (first | (with_reducible refine hold_append ?_) | (with_reducible refine hold_make ?_) | (with_reducible refine hold_copy ?_))
            clear c0 c1 c2 c3 c4 d0 d1 d2 d3 d4 g1 g2 g4 g5 hst hst2
            go_loopw [5] (fun s wr => ∃ i : Nat, i ≤ v.keys.length ∧ s = .int .i64 i ∧ Box wr xb 50 #[.int .u8 (v.kind : Int), .int .u64 (v.n : Int), .string (str v.s), .slice K1 v.keys.length j1, .slice K2 v.list.length j2] ∧ Box wr yb 50 #[.int .u8 (u.kind : Int), .int .u64 (u.n : Int), .string (str u.s), .slice M1 u.keys.length i1, .slice M2 u.list.length i2] ∧ Below w.heap.size w wr ∧ Below w2.heap.size w2 wr ∧ Hid (v.keys.take i = u.keys.take i)) (fun s _ => v.keys.length - (RowKit.intOf s).toNat)
            case atStart => exact ⟨0, by omega, rfl, hX2, hY, hB, Below.refl _ _, Lib.hid (by simp)⟩
            case round =>
              as_aux_lemma =>
              clear hX2 hY hB
              obtain ⟨i, hi, rfl, hX3, hY3, hB3, hB23, HC⟩ := hrel
              have c3 := hX3.cell (j := 3) rfl
              have d3 := hY3.cell (j := 3) rfl
              simp only [List.getElem_toArray, List.getElem_cons_succ, List.getElem_cons_zero] at c3 d3
              by_cases hlt : i < v.keys.length
              · have g1 : (i : Int) < (v.keys.length : Int) := by omega
                have hil' : i < u.keys.length := by rw [← HLK.out]; exact hlt
                obtain ⟨b, off, rfl, hC⟩ := txs_cell hvk.1 hlt hlt
                obtain ⟨b', off', rfl, hC'⟩ := txs_cell huk.1 hil' hil'
                have y0 := hC wr hB23
                have z0 := hC' wr hB23
                have g1' : (i : Int) < (u.keys.length : Int) := by omega
                have HT : Hid (v.keys.take (i + 1) = v.keys.take i ++ [v.keys[i]]) := Lib.hid (List.take_succ_eq_append_getElem hlt)
                have HT' : Hid (u.keys.take (i + 1) = u.keys.take i ++ [u.keys[i]]) := Lib.hid (List.take_succ_eq_append_getElem hil')
                have HX : Hid (∀ e : v.keys = u.keys, v.keys[i] = u.keys[i]) := Lib.hid (fun e => by simp only [e])
                clear hC hC'
                generalize v.keys[i] = a at *
                generalize u.keys[i] = b2 at *
                have hab := strs_eq a b2
                have hnb : ((str a).toList != (str b2).toList) = !decide (a = b2) := by rw [bne, hab]
                by_cases hab2 : a = b2
                · have g2 : decide (a = b2) = true := by simpa using hab2
                  rw [g2] at hab hnb
                  have HC2 : Hid (v.keys.take (i + 1) = u.keys.take (i + 1)) := Lib.hid (by rw [HT.out, HT'.out, HC.out, hab2])
                  subst hab2
                  simp only [Bool.not_true] at hnb
                  clear hel hfl
                  go_wp2_with (first | (with_reducible refine hold_append ?_) | (with_reducible refine hold_make ?_) | (with_reducible refine hold_copy ?_))
                  go_quiet (fail)
                  go_wp2_with (first | (with_reducible refine hold_append ?_) | (with_reducible refine hold_make ?_) | (with_reducible refine hold_copy ?_))
                  exact ⟨⟨i + 1, by omega, by go_num, hX3, hY3, below_drewN hB3 _, below_drewN hB23 _, HC2⟩, by simp [RowKit.intOf]; omega⟩
                · have g2 : decide (a = b2) = false := by simpa using hab2
                  rw [g2] at hab hnb
                  have HF : Hid (decide (v.keys = u.keys) = false) := Lib.hid (decide_eq_false fun e => hab2 (HX.out e))
                  clear g2 hab2 hel hfl
                  simp only [Bool.not_false] at hnb
                  go_wp2_with (first | (with_reducible refine hold_append ?_) | (with_reducible refine hold_make ?_) | (with_reducible refine hold_copy ?_))
                  go_quiet (fail)
                  go_wp2_with (first | (with_reducible refine hold_append ?_) | (with_reducible refine hold_make ?_) | (with_reducible refine hold_copy ?_))
                  go_ret
                  rw [HF.out]
                  exact ⟨rfl, below_drewN hB3 _⟩
              · have g1 : ¬ (i : Int) < (v.keys.length : Int) := by omega
                have HFK : Hid (decide (v.keys = u.keys) = true) := Lib.hid (decide_eq_true (by
                  have := HC.out
                  rwa [List.take_of_length_le (by omega), List.take_of_length_le (by have := HLK.out; omega)] at this))
                clear hvk huk
                go_wp2_with (first | (with_reducible refine hold_append ?_) | (with_reducible refine hold_make ?_) | (with_reducible refine hold_copy ?_))
                clear c3 d3
                go_loopw [6] (fun s wr => ∃ i : Nat, i ≤ v.list.length ∧ s = .int .i64 i ∧ Box wr xb 50 #[.int .u8 (v.kind : Int), .int .u64 (v.n : Int), .string (str v.s), .slice K1 v.keys.length j1, .slice K2 v.list.length j2] ∧ Box wr yb 50 #[.int .u8 (u.kind : Int), .int .u64 (u.n : Int), .string (str u.s), .slice M1 u.keys.length i1, .slice M2 u.list.length i2] ∧ Below w.heap.size w wr ∧ Below w2.heap.size w2 wr ∧ Hid (sameL (v.list.drop i) (u.list.drop i) = sameL v.list u.list)) (fun s _ => v.list.length - (RowKit.intOf s).toNat)
                case atStart => exact ⟨0, by omega, rfl, hX3, hY3, hB3, hB23, Lib.hid rfl⟩
                case round =>
                  as_aux_lemma =>
                  clear hX3 hY3 hB3 hB23
                  obtain ⟨i, hi, rfl, hX3, hY3, hB3, hB23, HC⟩ := hrel
                  have c4 := hX3.cell (j := 4) rfl
                  have d4 := hY3.cell (j := 4) rfl
                  simp only [List.getElem_toArray, List.getElem_cons_succ, List.getElem_cons_zero] at c4 d4
                  by_cases hlt : i < v.list.length
                  · have g1 : (i : Int) < (v.list.length : Int) := by omega
                    have hil' : i < u.list.length := by rw [← HLL.out]; exact hlt
                    have g1' : (i : Int) < (u.list.length : Int) := by omega
                    obtain ⟨b, off, hx, rfl, hvx, HX⟩ := hel hlt
                    obtain ⟨b', off', hy, rfl, hvy, HY⟩ := hfl hil'
                    have HD : Hid (sameL (v.list.drop i) (u.list.drop i) = (sameV v.list[i] u.list[i] && sameL (v.list.drop (i + 1)) (u.list.drop (i + 1)))) := Lib.hid (by rw [List.drop_eq_getElem_cons hlt, List.drop_eq_getElem_cons hil', sameL_cons])
                    have hrec := fun (W : World) (hW : Below w2.heap.size w2 W) => IH.out _ (List.getElem_mem hlt) u.list[i] hx hy W (hvx.up hW) (hvy.up hW)
                    clear hel hvx hfl hvy
                    generalize v.list[i] = x at *
                    generalize u.list[i] = y at *
                    unfold vlV SameR at hrec
                    go_upto_region 11 with fail
                    clear c4 d4
                    refine rg_start (fun W : World => Box W xb 50 #[.int .u8 (v.kind : Int), .int .u64 (v.n : Int), .string (str v.s), .slice K1 v.keys.length j1, .slice (some ⟨b, off, none⟩) v.list.length j2] ∧ Box W yb 50 #[.int .u8 (u.kind : Int), .int .u64 (u.n : Int), .string (str u.s), .slice M1 u.keys.length i1, .slice (some ⟨b', off', none⟩) u.list.length i2] ∧ Below w.heap.size w W ∧ Below w2.heap.size w2 W) (by kernel_rfl) ?_
                    have hS : Box wr.drew xb 50 #[.int .u8 (v.kind : Int), .int .u64 (v.n : Int), .string (str v.s), .slice K1 v.keys.length j1, .slice (some ⟨b, off, none⟩) v.list.length j2] ∧ Box wr.drew yb 50 #[.int .u8 (u.kind : Int), .int .u64 (u.n : Int), .string (str u.s), .slice M1 u.keys.length i1, .slice (some ⟨b', off', none⟩) u.list.length i2] ∧ Below w.heap.size w wr.drew ∧ Below w2.heap.size w2 wr.drew := ⟨hX3, hY3, below_drewN hB3 1, below_drewN hB23 1⟩
                    generalize wr.drew = wd at *
                    refine rg_take 0 (v := ?_) rfl (by kernel_rfl) (by kernel_rfl) (by kernel_rfl) hS rfl ?_ ?_
                    rotate_left
                    · intro wS hSw; go_simp; (with_reducible rfl)
                    simp only [List.getElem_toArray, List.getElem_cons_zero, Act.put, List.setIfInBounds_toArray, List.set_cons_zero, List.set_cons_succ]
                    refine rg_take 1 (v := ?_) rfl (by kernel_rfl) (by kernel_rfl) (by kernel_rfl) hS rfl ?_ ?_
                    rotate_left
                    · intro wS hSw; have k0 := hSw.1.cell (j := 4) rfl; go_simp; (with_reducible rfl)
                    simp only [List.getElem_toArray, List.getElem_cons_succ, List.getElem_cons_zero, Act.put, List.setIfInBounds_toArray, List.set_cons_zero, List.set_cons_succ]
                    refine rg_take 2 (v := ?_) rfl (by kernel_rfl) (by kernel_rfl) (by kernel_rfl) hS rfl ?_ ?_
                    rotate_left
                    · intro wS hSw; go_simp; (with_reducible rfl)
                    simp only [List.getElem_toArray, List.getElem_cons_succ, List.getElem_cons_zero, Act.put, List.setIfInBounds_toArray, List.set_cons_zero, List.set_cons_succ]
                    refine rg_take 3 (v := ?_) rfl (by kernel_rfl) (by kernel_rfl) (by kernel_rfl) hS rfl ?_ ?_
                    rotate_left
                    · intro wS hSw; go_simp; (with_reducible rfl)
                    simp only [List.getElem_toArray, List.getElem_cons_succ, List.getElem_cons_zero, Act.put, List.setIfInBounds_toArray, List.set_cons_zero, List.set_cons_succ]
                    refine rg_take 4 (v := ?_) rfl (by kernel_rfl) (by kernel_rfl) (by kernel_rfl) hS rfl ?_ ?_
                    rotate_left
                    · intro wS hSw; obtain ⟨k0, k1, k2, k3, k4⟩ := HX _ hSw.2.2.2; go_simp; (with_reducible rfl)
                    simp only [List.getElem_toArray, List.getElem_cons_succ, List.getElem_cons_zero, Act.put, List.setIfInBounds_toArray, List.set_cons_zero, List.set_cons_succ]
                    refine rg_take 5 (v := ?_) rfl (by kernel_rfl) (by kernel_rfl) (by kernel_rfl) hS rfl ?_ ?_
                    rotate_left
                    · intro wS hSw; go_simp; (with_reducible rfl)
                    simp only [List.getElem_toArray, List.getElem_cons_succ, List.getElem_cons_zero, Act.put, List.setIfInBounds_toArray, List.set_cons_zero, List.set_cons_succ]
                    refine rg_take 6 (v := ?_) rfl (by kernel_rfl) (by kernel_rfl) (by kernel_rfl) hS rfl ?_ ?_
                    rotate_left
                    · intro wS hSw; have k0 := hSw.2.1.cell (j := 4) rfl; go_simp; (with_reducible rfl)
                    simp only [List.getElem_toArray, List.getElem_cons_succ, List.getElem_cons_zero, Act.put, List.setIfInBounds_toArray, List.set_cons_zero, List.set_cons_succ]
                    refine rg_take 7 (v := ?_) rfl (by kernel_rfl) (by kernel_rfl) (by kernel_rfl) hS rfl ?_ ?_
                    rotate_left
                    · intro wS hSw; go_simp; (with_reducible rfl)
                    simp only [List.getElem_toArray, List.getElem_cons_succ, List.getElem_cons_zero, Act.put, List.setIfInBounds_toArray, List.set_cons_zero, List.set_cons_succ]
                    refine rg_take 8 (v := ?_) rfl (by kernel_rfl) (by kernel_rfl) (by kernel_rfl) hS rfl ?_ ?_
                    rotate_left
                    · intro wS hSw; go_simp; (with_reducible rfl)
                    simp only [List.getElem_toArray, List.getElem_cons_succ, List.getElem_cons_zero, Act.put, List.setIfInBounds_toArray, List.set_cons_zero, List.set_cons_succ]
                    refine rg_take 9 (v := ?_) rfl (by kernel_rfl) (by kernel_rfl) (by kernel_rfl) hS rfl ?_ ?_
                    rotate_left
                    · intro wS hSw; obtain ⟨k0, k1, k2, k3, k4⟩ := HY _ hSw.2.2.2; go_simp; (with_reducible rfl)
                    simp only [List.getElem_toArray, List.getElem_cons_succ, List.getElem_cons_zero, Act.put, List.setIfInBounds_toArray, List.set_cons_zero, List.set_cons_succ]
                    refine rg_one 10 rfl (by kernel_rfl) rfl (fun K hK => ?_)
                    go_simp
                    refine (hrec _ hS.2.2.2).mono ?_
                    rintro e w5 ⟨rfl, hB5⟩
                    obtain ⟨hX4, hY4, hB4, hB24⟩ := hS
                    have hS : Box w5 xb 50 #[.int .u8 (v.kind : Int), .int .u64 (v.n : Int), .string (str v.s), .slice K1 v.keys.length j1, .slice (some ⟨b, off, none⟩) v.list.length j2] ∧ Box w5 yb 50 #[.int .u8 (u.kind : Int), .int .u64 (u.n : Int), .string (str u.s), .slice M1 u.keys.length i1, .slice (some ⟨b', off', none⟩) u.list.length i2] ∧ Below w.heap.size w w5 ∧ Below w2.heap.size w2 w5 := ⟨hX4.below hB5, hY4.below hB5, hB4.trans (hB5.mono hB4.size), hB24.trans (hB5.mono hB24.size)⟩
                    clear hX4 hY4 hB4 hB24 hB5 hX3 hY3 hB3 hB23 HX HY hrec
                    refine hK _ _ hS ?_; clear hK K
                    try simp only [List.getElem_toArray, List.getElem_cons_succ, List.getElem_cons_zero, Act.put, List.setIfInBounds_toArray, List.set_cons_zero, List.set_cons_succ]
                    refine rg_take 11 (v := ?_) rfl (by kernel_rfl) (by kernel_rfl) (by kernel_rfl) hS rfl ?_ ?_
                    rotate_left
                    · intro wS hSw; go_simp; (with_reducible rfl)
                    simp only [List.getElem_toArray, List.getElem_cons_succ, List.getElem_cons_zero, Act.put, List.setIfInBounds_toArray, List.set_cons_zero, List.set_cons_succ]
                    refine rg_end (by kernel_rfl) ?_
                    obtain ⟨hX4, hY4, hB4, hB24⟩ := hS
                    cases hs : sameV x y
                    · have HF : Hid (sameL v.list u.list = false) := Lib.hid (by rw [← HC.out, HD.out, hs]; rfl)
                      clear hs
                      go_wp2_with (first | (with_reducible refine hold_append ?_) | (with_reducible refine hold_make ?_) | (with_reducible refine hold_copy ?_))
                      go_ret
                      rw [HFK.out, Bool.true_and, HF.out]
                      exact ⟨rfl, hB4⟩
                    · have HC2 : Hid (sameL (v.list.drop (i + 1)) (u.list.drop (i + 1)) = sameL v.list u.list) := Lib.hid (by rw [← HC.out, HD.out, hs]; rfl)
                      clear hs
                      go_wp2_with (first | (with_reducible refine hold_append ?_) | (with_reducible refine hold_make ?_) | (with_reducible refine hold_copy ?_))
                      exact ⟨⟨i + 1, by omega, by go_num, hX4, hY4, hB4, hB24, HC2⟩, by simp [RowKit.intOf]; omega⟩
                  · have g1 : ¬ (i : Int) < (v.list.length : Int) := by omega
                    have HF : Hid (sameL v.list u.list = true) := Lib.hid (by
                      rw [← HC.out, List.drop_eq_nil_of_le (by omega), List.drop_eq_nil_of_le (by have := HLL.out; omega), sameL])
                    clear hel hfl
                    go_wp2_with (first | (with_reducible refine hold_append ?_) | (with_reducible refine hold_make ?_) | (with_reducible refine hold_copy ?_))
                    go_ret
                    rw [HFK.out, Bool.true_and, HF.out]
                    exact ⟨rfl, hB3⟩
          · have g5 : ((v.list.length : Int) != (u.list.length : Int)) = true := by simp; omega
            clear ih hvk huk hv2 hu2 hel hfl
            have HF : Hid (sameV v u = false) := Lib.hid (by rw [sameV_eq]; rw [sameL_len hll]; simp)
            clear hk hn hs hlk hll
            go_enter Tryz.func58, Tryz.ntmps58
            go_upto_region 1 with fail
            rw [← hxb, ← hxv, hyb', ← hyv]
            clear hxb hxv hyb' hyv
            go_wp2_with (first | (with_reducible refine hold_append ?_) | (with_reducible refine hold_make ?_) | (with_reducible refine hold_copy ?_))
            go_ret
            rw [HF.out]
            exact ⟨rfl, hB⟩
        · have g4 : ((v.keys.length : Int) != (u.keys.length : Int)) = true := by simp; omega
          clear ih hvk huk hv2 hu2 hel hfl
          have HF : Hid (sameV v u = false) := Lib.hid (by rw [sameV_eq]; have : v.keys ≠ u.keys := fun e => hlk (by rw [e]); simp [this])
          clear hk hn hs hlk
          go_enter Tryz.func58, Tryz.ntmps58
          go_upto_region 1 with fail
          rw [← hxb, ← hxv, hyb', ← hyv]
          clear hxb hxv hyb' hyv
          go_wp2_with (first | (with_reducible refine hold_append ?_) | (with_reducible refine hold_make ?_) | (with_reducible refine hold_copy ?_))
          go_ret
          rw [HF.out]
          exact ⟨rfl, hB⟩
      · have g3 : decide (v.s = u.s) = false := by simpa using hs
        rw [g3] at hst hst2
        simp only [Bool.not_false] at hst
        have HF : Hid (sameV v u = false) := Lib.hid (by rw [sameV_eq]; simp [hs])
        clear g3 ih hvk huk hv2 hu2 hs hk hn hel hfl
        go_enter Tryz.func58, Tryz.ntmps58
        go_upto_region 1 with fail
        rw [← hxb, ← hxv, hyb', ← hyv]
        clear hxb hxv hyb' hyv
        go_wp2_with (first | (with_reducible refine hold_append ?_) | (with_reducible refine hold_make ?_) | (with_reducible refine hold_copy ?_))
        go_ret
        rw [HF.out]
        exact ⟨rfl, hB⟩
    · have g2 : ((v.n : Int) != (u.n : Int)) = true := by simp; omega
      clear ih hvk huk hv2 hu2 hel hfl
      have HF : Hid (sameV v u = false) := Lib.hid (by rw [sameV_eq]; simp [hn])
      clear hk hn
      go_enter Tryz.func58, Tryz.ntmps58
      go_upto_region 1 with fail
      rw [← hxb, ← hxv, hyb', ← hyv]
      clear hxb hxv hyb' hyv
      go_wp2_with (first | (with_reducible refine hold_append ?_) | (with_reducible refine hold_make ?_) | (with_reducible refine hold_copy ?_))
      go_ret
      rw [HF.out]
      exact ⟨rfl, hB⟩
  · have g1 : ((v.kind : Int) != (u.kind : Int)) = true := by simp; omega
    clear ih hvk huk hv2 hu2 hel hfl
    have HF : Hid (sameV v u = false) := Lib.hid (by rw [sameV_eq]; simp [hk])
    clear hk
    go_enter Tryz.func58, Tryz.ntmps58
    go_upto_region 1 with fail
    rw [← hxb, ← hxv, hyb', ← hyv]
    clear hxb hxv hyb' hyv
    go_wp2_with (first | (with_reducible refine hold_append ?_) | (with_reducible refine hold_make ?_) | (with_reducible refine hold_copy ?_))
    go_ret
    rw [HF.out]
    exact ⟨rfl, hB⟩
end Go.PH
end
section
/- Reading arguments that hold values, however deep. -/
set_option linter.all false
set_option linter.unusedSimpArgs false
set_option linter.unusedVariables false
namespace Go.PH
open Go.RowKit Go.Proofs Go.ChangeShapes Go.WideShapes Go.ChangeAt Go.Deep

section
variable {H : Type} {enc : TypeId × Value → H} {P : Program} {W : World}
/-- a reader at fuel below N -/
def ReaderN (N : Nat) (enc : TypeId × Value → H) (P : Program) (W : World) (t : TypeId) {α : Type} (R : α → List Value → Prop) : Prop :=
  ∀ (fuel : Nat), fuel < N → ∀ (cs : List Value) (d : DataW H) (p : List MemPlace), DataW.trod enc P W 0 (fun _ => true) true fuel t cs = some (d, p) → (∀ x ∈ d.weights P t, x ≤ reachBytes) → ∃ a, R a cs
theorem Reader.at {N : Nat} {t : TypeId} {α : Type} {R : α → List Value → Prop} (h : Reader enc P W t R) : ReaderN N enc P W t R := fun fuel _ => h fuel
theorem ReaderN.all {t : TypeId} {α : Type} {R : α → List Value → Prop} (h : ∀ N, ReaderN N enc P W t R) : Reader enc P W t R := fun fuel => h (fuel + 1) fuel (Nat.lt_succ_self _)
/-- R alone decides what reads; the fuel does not -/
theorem readerN_slice {N : Nat} {t e size bytes : Nat} {α : Type} {R : α → List Value → Prop} (ht : P.underlying t = some (.slice e)) (hc : P.cellsOf e = size) (hby : P.bytesOf e = bytes) (hpos : 0 < size) (hr : ReaderN N enc P W e R) : ReaderN (N + 1) enc P W t (RSlice W size bytes R) := fun fuel hfu cs d p h hw => by
  have hlt := DataW.trod_lt fuel _ _ _ h
  rcases DataW.trod_slice ht h with ⟨rfl, _⟩ | ⟨a, len, cap, elems, rest, n, hfn, rfl, hx, hb, hl, hm, hlen, hel, hsp, _⟩
  · exact ⟨[], none, 0, 0, [], rfl, Rd.nil _ _ _ _ (by simp [maxLen]) _, rfl, by omega, fun i h => by simp at h⟩
  have hrl : rest.length = cap - len := (hsp rfl).1
  obtain ⟨rfl, rfl⟩ : d = _ ∧ p = _ := by simpa using hx
  have hcap : cap * bytes ≤ 140737488351232 := by
    have := hw ((elems.length + rest.length) * P.bytesOf e) (by simp [DataW.weights, ht])
    simp only [hlen, hrl, hby, reachBytes] at this
    rwa [show len + (cap - len) = cap by omega] at this
  have each : ∀ i, i < len → ∃ y : α × List Value, W.cells? 0 (a.add (i * P.cellsOf e)) (P.cellsOf e) = some y.2 ∧ R y.1 y.2 := fun i hi => by
    have h0 := hel i hi
    rw [List.getElem?_eq_getElem (by omega), Option.bind_eq_some_iff] at h0
    obtain ⟨cs', h1, h2⟩ := h0
    obtain ⟨y, hy⟩ := hr n (by omega) _ _ _ h2 (fun x hx => hw x (by
      simp only [DataW.weights, ht, List.mem_cons, List.mem_append]
      exact .inr (.inl (weightsAll_mem (List.mem_map.2 ⟨_, List.getElem_mem (by omega : i < elems.length), rfl⟩) x hx))))
    exact ⟨(y, cs'), h1, hy⟩
  obtain ⟨Y, hY⟩ : ∃ Y : Nat → Option (α × List Value), ∀ i, i < len → ∃ y, Y i = some y ∧ W.cells? 0 (a.add (i * P.cellsOf e)) (P.cellsOf e) = some y.2 ∧ R y.1 y.2 :=
    ⟨fun i => if h : i < len then some (each i h).choose else none, fun i hi => ⟨_, dif_pos hi, (each i hi).choose_spec⟩⟩
  by_cases hl0 : len = 0
  · subst hl0
    exact ⟨[], some a, 0, cap, [], rfl, Rd.nil _ _ _ _ hm _, rfl, hcap, fun i h => by simp at h⟩
  obtain ⟨y0, _⟩ := hY 0 (by omega)
  obtain ⟨Y', hY'⟩ : ∃ Y' : Nat → α × List Value, ∀ i, i < len → Y i = some (Y' i) := ⟨fun i => (Y i).getD y0, fun i hi => by
    obtain ⟨y, hy, _⟩ := hY i hi
    show Y i = some ((Y i).getD y0)
    rw [hy]; rfl⟩
  replace hY : ∀ i, i < len → W.cells? 0 (a.add (i * P.cellsOf e)) (P.cellsOf e) = some (Y' i).2 ∧ R (Y' i).1 (Y' i).2 := fun i hi => by
    obtain ⟨y, hy, h1⟩ := hY i hi
    rw [hY' i hi] at hy
    injection hy with hy
    rw [hy]; exact h1
  clear hY' each
  obtain ⟨Y, rfl⟩ : ∃ Y, Y = Y' := ⟨_, rfl⟩
  have hlenY : ∀ i, i < len → (Y i).2.length = size := fun i hi => by rw [← hc]; exact (World.cells?_some (hY i hi).1).2.1
  have hchunk : ∀ (k : Nat), k ≤ len → ((List.range k).flatMap fun i => (Y i).2).length = k * size ∧ ∀ i, i < k → ((((List.range k).flatMap fun i => (Y i).2).drop (i * size)).take size) = (Y i).2 := by
    intro k
    induction k with
    | zero => intro _; simp
    | succ k ih =>
      intro hk
      obtain ⟨h1, h2⟩ := ih (by omega)
      have hlk := hlenY k (by omega)
      rw [List.range_succ, List.flatMap_append]
      simp only [List.flatMap_cons, List.flatMap_nil, List.append_nil]
      refine ⟨by rw [List.length_append, h1, hlk, Nat.succ_mul], fun i hi => ?_⟩
      rcases Nat.lt_or_ge i k with hik | hik
      · have : i * size + size ≤ k * size := by rw [← Nat.succ_mul]; exact Nat.mul_le_mul_right _ hik
        rw [List.drop_append_of_le_length (by rw [h1]; omega), List.take_append_of_le_length (by rw [List.length_drop, h1]; omega)]
        exact h2 i hik
      · obtain rfl : i = k := by omega
        rw [List.drop_append, h1, Nat.sub_self, List.drop_of_length_le (by rw [h1]; exact Nat.le_refl _), List.drop_zero, List.nil_append, List.take_of_length_le (by omega)]
  obtain ⟨hL, hCh⟩ := hchunk len (Nat.le_refl _)
  refine ⟨(List.range len).map fun i => (Y i).1, some a, len, cap, (List.range len).flatMap fun i => (Y i).2, rfl, ⟨hL, hl, hm, fun hn => ?_⟩, by simp, hcap, fun i hi => ?_⟩
  · obtain ⟨_, _, hcell0⟩ := World.cells?_some (hY 0 hn).1
    have h0 := hcell0 0 (by omega)
    have h0' : W.cell? a = (Y 0).2[0]? := by
      rw [← h0]; congr 1
      simp [Addr.add]
    have hs0 : (Y 0).2[0]? = some ((Y 0).2[0]'(by rw [hlenY 0 hn]; exact hpos)) := List.getElem?_eq_getElem _
    rw [hs0] at h0'
    obtain ⟨b, off, spot⟩ := a
    have hspot : spot = none := World.cell?_spot h0'
    subst hspot
    refine ⟨b, off, rfl, World.block_lt_of_cell? W _ h0', fun j u hu => ?_⟩
    have hj : j < len * size := by rw [← hL]; exact (List.getElem?_eq_some_iff.1 hu).1
    have hq : j / size < len := (Nat.div_lt_iff_lt_mul hpos).2 hj
    have hr' : j % size < size := Nat.mod_lt _ hpos
    have hjj : j / size * size + j % size = j := by rw [Nat.mul_comm]; exact Nat.div_add_mod j size
    obtain ⟨_, _, hcq⟩ := World.cells?_some (hY (j / size) hq).1
    have h3 := hcq (j % size) (by rw [hc]; exact hr')
    rw [hc] at h3
    have h4 : (Y (j / size)).2[j % size]? = some u := by
      rw [← hCh _ hq, List.getElem?_take, if_pos hr', List.getElem?_drop, hjj]; exact hu
    rw [h4] at h3
    rw [← h3]
    congr 1
    unfold Addr.add
    split <;> split <;> simp_all <;> omega
  · simp only [List.getElem_map, List.getElem_range]
    have hi' : i < len := by simpa using hi
    rw [hCh i hi']
    exact (hY i hi').2


/-- the fields of a struct -/
theorem trodN_field {t fuel : Nat} {cs : List Value} {d : DataW H} {p : List MemPlace} {fs : Array Field} (ht : P.underlying t = some (.struct fs)) (h : DataW.trod enc P W 0 (fun _ => true) true fuel t cs = some (d, p)) (hw : ∀ x ∈ d.weights P t, x ≤ reachBytes) :
    cs.length = P.cellsOf t ∧ ∀ (i : Nat) (f : Field), fs[i]? = some f → ∀ {α : Type} {R : α → List Value → Prop}, ReaderN fuel enc P W f.type R → ∃ a, R a ((cs.drop f.offset).take (P.cellsOf f.type)) := by
  obtain ⟨xs, n, hfn, hx, hl, hlen, hf⟩ := DataW.trod_struct ht h
  obtain ⟨rfl, rfl⟩ : d = _ ∧ p = _ := by simpa using hx
  refine ⟨hl, fun i f hi α R hr => ?_⟩
  have hif : i < fs.size := (Array.getElem?_eq_some_iff.1 hi).1
  have h1 := hf i f hi
  rw [List.getElem?_eq_getElem (by omega)] at h1
  refine hr n (by omega) _ _ _ h1 fun x hxm => hw x ?_
  simp only [DataW.weights, ht]
  refine DataW.weights_mem_each (j := i) (t := f.type) (d := xs[i].1) ?_ ?_ x hxm
  · rw [List.getElem?_map, Array.getElem?_toList, hi]; rfl
  · rw [List.getElem?_map, List.getElem?_eq_getElem (by omega)]; rfl


/-- rows of pairs -/
theorem rows_pairs {α β : Type} {f : α × β → List Value} {sz : Nat} {Q : α → β → Prop} : ∀ (L : List α) (xs : List Value), xs.length = L.length * sz → (∀ i (h : i < L.length), ∃ b, (xs.drop (i * sz)).take sz = f (L[i], b) ∧ Q L[i] b) → ∃ ys : List (α × β), ys.map (·.1) = L ∧ xs = rowC f ys ∧ ∀ p ∈ ys, Q p.1 p.2
  | [], xs, hx, _ => ⟨[], rfl, List.eq_nil_of_length_eq_zero (by simpa using hx), fun p hp => by cases hp⟩
  | a :: L, xs, hx, h => by
    obtain ⟨b, h1, h2⟩ := h 0 (by simp)
    rw [Nat.zero_mul, List.drop_zero] at h1
    have hl : (xs.drop sz).length = L.length * sz := by rw [List.length_drop, hx, List.length_cons, Nat.succ_mul]; omega
    obtain ⟨ys, e1, e2, e3⟩ := rows_pairs L (xs.drop sz) hl (fun i hi => by
      obtain ⟨c, h3, h4⟩ := h (i + 1) (by simp; omega)
      refine ⟨c, ?_, h4⟩
      rw [Nat.succ_mul, Nat.add_comm] at h3
      rw [List.drop_drop]
      exact h3)
    refine ⟨(a, b) :: ys, by rw [List.map_cons, e1], ?_, fun p hp => ?_⟩
    · rw [rowC_cons, ← e2]
      have h1' : xs.take sz = f (a, b) := h1
      rw [← h1']
      exact (List.take_append_drop sz xs).symm
    · rcases List.mem_cons.1 hp with rfl | hp
      · exact h2
      · exact e3 p hp
theorem txs_row {xs : List Value} : ∀ {L : List (List UInt8)}, xs.length = L.length * 1 → (∀ i (h : i < L.length), RStr L[i] ((xs.drop (i * 1)).take 1)) → xs = L.map txV ∧ ∀ k ∈ L, k.length ≤ 140737488351232 := by
  intro L
  induction L generalizing xs with
  | nil => intro hx _; exact ⟨List.eq_nil_of_length_eq_zero (by simpa using hx), fun k hk => by cases hk⟩
  | cons a L ih =>
    intro hx h
    match xs, hx with
    | x :: xs, hx =>
      have h0 := h 0 (by simp)
      obtain ⟨h01, h02⟩ := h0
      simp at h01 h02
      obtain ⟨e1, e2⟩ := ih (xs := xs) (by simpa using hx) (fun i hi => by
        have := h (i + 1) (by simp; omega)
        rw [show (i + 1) * 1 = i * 1 + 1 by omega, List.drop_succ_cons] at this
        exact this)
      refine ⟨by rw [List.map_cons, ← e1, h01]; rfl, fun k hk => ?_⟩
      rcases List.mem_cons.1 hk with rfl | hk
      · exact h02
      · exact e2 k hk
end
variable {H : Type} {enc : TypeId × Value → H} {W : World}
def RVal (W : World) (v : Vl) (cs : List Value) : Prop := ∃ h, cs = vlC (v, h) ∧ RV W (fun g => g < W.heap.size) v h
theorem cells5v {cs : List Value} {a b c d e : Value} (hl : cs.length = 5) (h0 : (cs.drop 0).take 1 = [a]) (h1 : (cs.drop 1).take 1 = [b]) (h2 : (cs.drop 2).take 1 = [c]) (h3 : (cs.drop 3).take 1 = [d]) (h4 : (cs.drop 4).take 1 = [e]) : cs = [a, b, c, d, e] := by
  match cs, hl with
  | [x, y, z, u, v], _ => simp_all
theorem rdx_of {w : World} {size n c : Nat} {A : Option Addr} {xs : List Value} (h : Rd w w.heap.size size A n c xs) : RdX w (fun g => g < w.heap.size) size A n c xs := ⟨h, fun hn g hg => by
  obtain ⟨b, off, e, hb, _⟩ := h.at_ hn
  subst e
  injection hg with hg
  rw [← hg]; exact hb⟩
theorem bounds_u64 {x : Int} (h : (Lit.int .u64 x).wf = true) : 0 ≤ x ∧ x < 18446744073709551616 := by
  have e1 : IntKind.u64.min = 0 := by decide
  have e2 : IntKind.u64.max = 18446744073709551615 := by decide
  simp only [Lit.wf, e1, e2, Bool.and_eq_true, decide_eq_true_eq] at h
  omega
set_option maxRecDepth 20000 in
theorem readerN_val : ∀ N, ReaderN N enc Tryz.prog W 50 (RVal W) := by
  intro N
  induction N with
  | zero => intro fuel hf; omega
  | succ N ih =>
    intro fuel hfu cs d p h hw
    obtain ⟨hl, hf⟩ := trodN_field Tryz.underlying50 h hw
    obtain ⟨n0, h0, w0⟩ := hf 0 _ rfl (reader_int (k := .u8) Tryz.underlying46).at
    obtain ⟨n1, h1, w1⟩ := hf 1 _ rfl (reader_int (k := .u64) Tryz.underlying41).at
    obtain ⟨l2, h2, w2⟩ := hf 2 _ rfl (reader_str Tryz.underlying9).at
    obtain ⟨L3, A3, n3, c3, xs3, h3, r3, e3, b3, f3⟩ := hf 3 _ rfl (reader_slice Tryz.underlying47 (by kernel_rfl : Tryz.prog.cellsOf 9 = 1) (by kernel_rfl : Tryz.prog.bytesOf 9 = 16) (by omega) (reader_str Tryz.underlying9)).at
    have hN : ReaderN fuel enc Tryz.prog W 50 (RVal W) := fun fu hfu' => ih fu (by omega)
    have hsl := readerN_slice (enc := enc) (P := Tryz.prog) (W := W) (N := fuel) (t := 48) Tryz.underlying48 (by kernel_rfl : Tryz.prog.cellsOf 50 = 5) (by kernel_rfl : Tryz.prog.bytesOf 50 = 80) (by omega) hN
    obtain ⟨L4, A4, n4, c4, xs4, h4, r4, e4, b4, f4⟩ := hf 4 _ rfl (fun fu hfu' => hsl fu (by omega))
    have k0 := bounds_u8 w0
    have k1 := bounds_u64 w1
    rw [(by kernel_rfl : Tryz.prog.cellsOf 50 = 5)] at hl
    have e0 : n0 = ((n0.toNat : Nat) : Int) := by omega
    have e1 : n1 = ((n1.toNat : Nat) : Int) := by omega
    rw [e0] at h0
    rw [e1] at h1
    subst e3 e4
    obtain ⟨ys, y1, y2, y3⟩ := rows_pairs (f := vlC) (sz := 5) (Q := fun v h => RV W (fun g => g < W.heap.size) v h) L4 xs4 (by rw [r4.len]) f4
    obtain ⟨t1, t2⟩ := txs_row (by rw [r3.len]) f3
    subst t1 y2
    have hcs := cells5v hl h0 h1 h2 h3 h4
    refine ⟨.mk n0.toNat n1.toNat l2 L3 L4, ⟨A3, c3, A4, c4⟩, hcs, ys, by show n0.toNat < 256; omega, by show n1.toNat < _; omega, w2, rdx_of r3, t2, by show L3.length ≤ _; have := r3.cap; omega, by show L4.length ≤ _; have := r4.cap; omega, rdx_of r4, y1, y3⟩
theorem reader_val : Reader enc Tryz.prog W 50 (RVal W) := ReaderN.all readerN_val
end Go.PH
end

/- SpansMember: for every input of the form's own reach the law returns true and writes nothing that was there. -/
import Derived.Test.YtjlfjlafpgjhbaaSpLawAsk
import Derived.Test.YtjlfjlafpgjhbaaSpEither
import Derived.Test.YtjlfjlafpgjhbaaSpCut
import Derived.Test.YtjlfjlafpgjhbaaSpMemberMath
namespace Go.PH
open Go.RowKit Go.Proofs

set_option maxRecDepth 20000 in
set_option maxHeartbeats 4000000 in
theorem law_SpansMember (A : Option Addr) (n c : Nat) (a : List Sp) (B : Option Addr) (m d : Nat) (b : List Sp) (x : Nat) (w : World) (hr : RdS w w.heap.size A n c a) (hoka : spOK 4294967296 a) (hr' : RdS w w.heap.size B m d b) (hokb : spOK 4294967296 b) (hx : x < 4294967296) (hn : n ≤ 140737488351232) (hm : m ≤ 140737488351232) :
    Calls Try.prog 7 #[.slice A n c, .slice B m d, .int .u32 x] w fun e w' => e = .returned (.bool true) ∧ Below w.heap.size w w' := by
  have hl := hr.length
  have hl' := hr'.length
  by_cases h60 : 60 < n
  · have h60' : (60 : Int) < (n : Int) := by omega
    go_enter Try.func7, Try.ntmps7
    go_wp2_with (first | (with_reducible refine hold_append ?_) | (with_reducible refine hold_make ?_) | (with_reducible refine hold_copy ?_))
    refine (head_any _).mono ?_
    rintro e wz ⟨rfl, hBz⟩
    go_wp2_with (first | (with_reducible refine hold_append ?_) | (with_reducible refine hold_make ?_) | (with_reducible refine hold_copy ?_))
    go_ret
    exact ⟨rfl, hBz⟩
  · have h60' : decide ((60 : Int) < (n : Int)) = false := by simp; omega
    by_cases h61 : 60 < m
    · have h61' : (60 : Int) < (m : Int) := by omega
      go_enter Try.func7, Try.ntmps7
      go_wp2_with (first | (with_reducible refine hold_append ?_) | (with_reducible refine hold_make ?_) | (with_reducible refine hold_copy ?_))
      refine (head_any _).mono ?_
      rintro e wz ⟨rfl, hBz⟩
      go_wp2_with (first | (with_reducible refine hold_append ?_) | (with_reducible refine hold_make ?_) | (with_reducible refine hold_copy ?_))
      go_ret
      exact ⟨rfl, hBz⟩
    · have h61' : decide ((60 : Int) < (m : Int)) = false := by simp; omega
      have hca := right_any A n c a _ w hr hoka (Nat.le_refl _) (by omega)
      have hcb := fun w1 (h : Below w.heap.size w w1) => right_any B m d b w.heap.size w1 (hr'.below h) hokb h.size (by omega)
      cases hra : spRight a
      · rw [hra] at hca
        clear hra
        go_enter Try.func7, Try.ntmps7
        go_wp2_with (first | (with_reducible refine hold_append ?_) | (with_reducible refine hold_make ?_) | (with_reducible refine hold_copy ?_))
        refine hca.mono ?_
        rintro e w1 ⟨rfl, hB1⟩
        go_wp2_with (first | (with_reducible refine hold_append ?_) | (with_reducible refine hold_make ?_) | (with_reducible refine hold_copy ?_))
        refine (head_any _).mono ?_
        rintro e wz ⟨rfl, hBz⟩
        go_wp2_with (first | (with_reducible refine hold_append ?_) | (with_reducible refine hold_make ?_) | (with_reducible refine hold_copy ?_))
        go_ret
        exact ⟨rfl, hB1.trans (hBz.mono hB1.size)⟩
      · rw [hra] at hca
        cases hrb : spRight b
        · rw [hrb] at hcb
          clear hra hrb
          go_enter Try.func7, Try.ntmps7
          go_wp2_with (first | (with_reducible refine hold_append ?_) | (with_reducible refine hold_make ?_) | (with_reducible refine hold_copy ?_))
          refine hca.mono ?_
          rintro e w1 ⟨rfl, hB1⟩
          go_wp2_with (first | (with_reducible refine hold_append ?_) | (with_reducible refine hold_make ?_) | (with_reducible refine hold_copy ?_))
          refine (hcb w1 hB1).mono ?_
          rintro e w2 ⟨rfl, hB2⟩
          have hB12 := hB1.trans (hB2.mono hB1.size)
          go_wp2_with (first | (with_reducible refine hold_append ?_) | (with_reducible refine hold_make ?_) | (with_reducible refine hold_copy ?_))
          refine (head_any _).mono ?_
          rintro e wz ⟨rfl, hBz⟩
          go_wp2_with (first | (with_reducible refine hold_append ?_) | (with_reducible refine hold_make ?_) | (with_reducible refine hold_copy ?_))
          go_ret
          exact ⟨rfl, hB12.trans (hBz.mono hB12.size)⟩
        · rw [hrb] at hcb
          have HRa := Lib.hid hra
          have HRb := Lib.hid hrb
          have HEb := Lib.hid (spRight_each hrb)
          have hmn : m * n ≤ 60 * 60 := Nat.mul_le_mul (by omega) (by omega)
          have hbo := spBoth_right a b hra hrb
          have heo := spEither_ok b a hra (spRight_each hrb)
          have hokc := spBoth_ok hra hrb hoka (b := b)
          have hokd := spEither_bd hra hrb hoka hokb
          have hlc := spBoth_len b a
          have hld := spEither_len b a
          rw [hl, hl'] at hlc hld
          have e1 : bothR a b = spBoth a b := by simp [bothR, hra, hrb]
          have e2 : eitherR a b = spEither a b := by simp [eitherR, hra, hrb]
          have e3 : pairErr a b = 0 := by simp [pairErr, hra, hrb]
          have hcc := fun w1 (h : Below w.heap.size w w1) => both_any A n c a B m d b w.heap.size w1 (hr.below h) hoka (hr'.below h) hokb h.size (by omega) (by omega)
          have hcd := fun w1 (h : Below w.heap.size w w1) => either_any A n c a B m d b w.heap.size w1 (hr.below h) hoka (hr'.below h) hokb h.size (by omega) (by omega)
          rw [e1, e3] at hcc
          rw [e2, e3] at hcd
          have hha := fun w1 (h : Below w.heap.size w w1) => has_any A n c a x w.heap.size w1 (hr.below h) h.size hoka hx (by omega)
          have hhb := fun w1 (h : Below w.heap.size w w1) => has_any B m d b x w.heap.size w1 (hr'.below h) h.size hokb hx (by omega)
          rw [hra, Bool.true_and] at hha
          rw [hrb, Bool.true_and] at hhb
          have hrc := fun A5 c5 (w1 : World) (h : RdS w1 w1.heap.size A5 (spBoth a b).length c5 (spBoth a b)) => right_any A5 (spBoth a b).length c5 (spBoth a b) w1.heap.size w1 h hokc (Nat.le_refl _) (by omega)
          have hrd := fun A5 c5 (w1 : World) (h : RdS w1 w1.heap.size A5 (spEither a b).length c5 (spEither a b)) => right_any A5 (spEither a b).length c5 (spEither a b) w1.heap.size w1 h hokd (Nat.le_refl _) (by omega)
          rw [hbo.1] at hrc
          rw [heo.1] at hrd
          have hhc := fun A5 c5 (w1 : World) (h : RdS w1 w1.heap.size A5 (spBoth a b).length c5 (spBoth a b)) => has_any A5 (spBoth a b).length c5 (spBoth a b) x w1.heap.size w1 h (Nat.le_refl _) hokc hx (by omega)
          have hhd := fun A5 c5 (w1 : World) (h : RdS w1 w1.heap.size A5 (spEither a b).length c5 (spEither a b)) => has_any A5 (spEither a b).length c5 (spEither a b) x w1.heap.size w1 h (Nat.le_refl _) hokd hx (by omega)
          have hic := spBoth_in a b hra x
          have hid' := heo.2 x
          rw [hbo.1, Bool.true_and] at hhc
          rw [heo.1, Bool.true_and] at hhd
          clear hra hrb e1 e2 e3 hbo heo
          obtain ⟨y, hy⟩ : ∃ y, spIn b x = y := ⟨_, rfl⟩
          have HXb := Lib.hid hy
          cases hxa : spIn a x
          · have HXa := Lib.hid hxa
            have vc : spIn (spBoth a b) x = false := by rw [Bool.eq_iff_iff, hic, hxa]; simp
            have vd : spIn (spEither a b) x = y := by rw [Bool.eq_iff_iff, hid', hxa, hy]; simp
            rw [hxa] at hha
            rw [hy] at hhb
            rw [vc] at hhc
            rw [vd] at hhd
            have hyy : (y != y) = false := by simp
            clear hxa hy vc vd hic hid'
            go_enter Try.func7, Try.ntmps7
            go_wp2_with (first | (with_reducible refine hold_append ?_) | (with_reducible refine hold_make ?_) | (with_reducible refine hold_copy ?_))
            refine hca.mono ?_
            rintro e w1 ⟨rfl, hB1⟩
            have hz1 := hB1.size
            go_wp2_with (first | (with_reducible refine hold_append ?_) | (with_reducible refine hold_make ?_) | (with_reducible refine hold_copy ?_))
            refine (hcb w1 hB1).mono ?_
            rintro e w2 ⟨rfl, hB2'⟩
            have hB2 := hB1.trans (hB2'.mono hz1)
            have hz2 := hB2.size
            go_wp2_with (first | (with_reducible refine hold_append ?_) | (with_reducible refine hold_make ?_) | (with_reducible refine hold_copy ?_))
            refine (hha w2 hB2).mono ?_
            rintro e w3 ⟨rfl, hB3'⟩
            have hB3 := hB2.trans (hB3'.mono hz2)
            have hz3 := hB3.size
            go_wp2_with (first | (with_reducible refine hold_append ?_) | (with_reducible refine hold_make ?_) | (with_reducible refine hold_copy ?_))
            refine (hhb w3 hB3).mono ?_
            rintro e w4 ⟨rfl, hB4'⟩
            have hB4 := hB3.trans (hB4'.mono hz3)
            have hz4 := hB4.size
            clear hB1 hB2 hB3 hB2' hB3' hB4' hz1 hz2 hz3
            go_wp2_with (first | (with_reducible refine hold_append ?_) | (with_reducible refine hold_make ?_) | (with_reducible refine hold_copy ?_))
            refine (hcc w4 hB4).mono ?_
            rintro e w5 ⟨A5, c5, rfl, ho5, hB5'⟩
            have hB5 := hB4.trans (hB5'.mono hz4)
            have hz5 := hB5.size
            go_wp2_with (first | (with_reducible refine hold_append ?_) | (with_reducible refine hold_make ?_) | (with_reducible refine hold_copy ?_))
            refine (hcd w5 hB5).mono ?_
            rintro e w6 ⟨A6, c6, rfl, ho6, hB6'⟩
            have hB6 := hB5.trans (hB6'.mono hz5)
            have hz6 := hB6.size
            have ho56 := below_ownS ho5 hB6'
            go_wp2_with (first | (with_reducible refine hold_append ?_) | (with_reducible refine hold_make ?_) | (with_reducible refine hold_copy ?_))
            refine (hrc A5 c5 w6 ho56.rd).mono ?_
            rintro e w7 ⟨rfl, hB7'⟩
            have hB7 := hB6.trans (hB7'.mono hz6)
            have hz7 := hB7.size
            have ho57 := below_ownS ho56 hB7'
            have ho67 := below_ownS ho6 hB7'
            clear ho5 ho56 ho6 hB5' hB6' hB7' hB5 hB6
            go_wp2_with (first | (with_reducible refine hold_append ?_) | (with_reducible refine hold_make ?_) | (with_reducible refine hold_copy ?_))
            refine (hrd A6 c6 w7 ho67.rd).mono ?_
            rintro e w8 ⟨rfl, hB8'⟩
            have hB8 := hB7.trans (hB8'.mono hz7)
            have hz8 := hB8.size
            have ho58 := below_ownS ho57 hB8'
            have ho68 := below_ownS ho67 hB8'
            clear ho57 ho67 hB7
            go_wp2_with (first | (with_reducible refine hold_append ?_) | (with_reducible refine hold_make ?_) | (with_reducible refine hold_copy ?_))
            refine (hhc A5 c5 w8 ho58.rd).mono ?_
            rintro e w9 ⟨rfl, hB9'⟩
            have hB9 := hB8.trans (hB9'.mono hz8)
            have hz9 := hB9.size
            have ho69 := below_ownS ho68 hB9'
            clear ho58 ho68 hB8
            go_wp2_with (first | (with_reducible refine hold_append ?_) | (with_reducible refine hold_make ?_) | (with_reducible refine hold_copy ?_))
            refine (hhd A6 c6 w9 ho69.rd).mono ?_
            rintro e w10 ⟨rfl, hB10'⟩
            have hB10 := hB9.trans (hB10'.mono hz9)
            have hz10 := hB10.size
            have ho610 := below_ownS ho69 hB10'
            clear ho69 hB9
            have hA6 : ∀ g, blk A6 = some g → g < w10.heap.size := fun g hg => (ho610.blk_lt hg).2
            go_wp2_with (first | (with_reducible refine hold_append ?_) | (with_reducible refine hold_make ?_) | (with_reducible refine hold_copy ?_))
            go_loopw [14, 13] (fun s v wr => ∃ (q N c2 : Nat) (A2 : Option Addr) (cur : List Sp), q ≤ m ∧ s = .int .i64 q ∧ v = .slice A2 N c2 ∧ cur = spMinus a (b.take q) ∧ RdS wr wr.heap.size A2 N c2 cur ∧ OwnS wr w5.heap.size A6 (spEither a b).length c6 (spEither a b) ∧ w10.heap.size ≤ wr.heap.size ∧ Below w.heap.size w wr) (fun s _ _ => m - (intOf s).toNat)
            case atStart => exact ⟨0, n, c, A, a, by omega, rfl, rfl, by simp [spMinus], (hr.below hB10).more hz10, ho610, by omega, hB10⟩
            case round =>
              clear ho610 hB10 hz10
              obtain ⟨q, N, c2, A2, cur, hq, rfl, rfl, hcur, hrq, hoq, hszq, hBq⟩ := hrel
              have hmi := spMinus_ok (N := 4294967296) (b.take q) a HRa.out (fun s hs => HEb.out s (List.mem_of_mem_take hs)) hoka
              rw [← hcur] at hmi
              have hNl := hrq.length
              obtain ⟨hm1, hm2, hm3, hm4⟩ := hmi
              rw [List.length_take, hl', Nat.min_eq_left hq, hl, hNl] at hm4
              by_cases hlt : q < m
              · obtain ⟨b0, off0, rfl, hbB, hkl, hc0, hc1⟩ := RdS.at_k (hr'.below hBq) hlt
                have hbk := hokb b[q] (List.getElem_mem hkl)
                have hek := HEb.out b[q] (List.getElem_mem hkl)
                have hnx := spMinus_next (a := a) hkl
                rw [← hcur] at hnx
                have hmn := spMinus_ok (N := 4294967296) (b.take (q + 1)) a HRa.out (fun s hs => HEb.out s (List.mem_of_mem_take hs)) hoka
                rw [hnx] at hmn
                have HN := Lib.hid hnx
                have HMN := Lib.hid hmn
                clear hnx hcur hmn hm2
                obtain ⟨sf, st, he⟩ : ∃ sf st, b[q] = (sf, st) := ⟨_, _, rfl⟩
                rw [he] at hc0 hc1 hbk HN hek HMN
                clear he
                simp only at hc0 hc1 hbk hek HN HMN
                have hS : wr.drew.cell? ⟨b0, off0 + q * 2, none⟩ = some (.int .u32 (sf : Int)) ∧ wr.drew.cell? ⟨b0, off0 + q * 2 + 1, none⟩ = some (.int .u32 (st : Int)) := ⟨hc0, hc1⟩
                have hdq : (q : Int) < (m : Int) := by omega
                have hbw : b0 < w.heap.size := hbB
                go_wp2_with (first | (with_reducible refine hold_append ?_) | (with_reducible refine hold_make ?_) | (with_reducible refine hold_copy ?_))
                refine rg_start (fun wx => wx.cell? ⟨b0, off0 + q * 2, none⟩ = some (.int .u32 (sf : Int)) ∧ wx.cell? ⟨b0, off0 + q * 2 + 1, none⟩ = some (.int .u32 (st : Int))) (by kernel_rfl) ?_
                refine rg_take 0 (v := ?_) rfl (by kernel_rfl) (by kernel_rfl) (by kernel_rfl) hS rfl ?_ ?_
                rotate_left
                · intro wS hSw; go_simp; (with_reducible rfl)
                simp only [List.getElem_toArray, List.getElem_cons_zero, Act.put, List.setIfInBounds_toArray, List.set_cons_zero, List.set_cons_succ]
                refine rg_take 1 (v := ?_) rfl (by kernel_rfl) (by kernel_rfl) (by kernel_rfl) hS rfl ?_ ?_
                rotate_left
                · intro wS hSw; go_simp; (with_reducible rfl)
                simp only [List.getElem_toArray, List.getElem_cons_succ, List.getElem_cons_zero, Act.put, List.setIfInBounds_toArray, List.set_cons_zero, List.set_cons_succ]
                refine rg_take 2 (v := ?_) rfl (by kernel_rfl) (by kernel_rfl) (by kernel_rfl) hS rfl ?_ ?_
                rotate_left
                · intro wS hSw; go_simp; (with_reducible rfl)
                simp only [List.getElem_toArray, List.getElem_cons_succ, List.getElem_cons_zero, Act.put, List.setIfInBounds_toArray, List.set_cons_zero, List.set_cons_succ]
                refine rg_take 3 (v := ?_) rfl (by kernel_rfl) (by kernel_rfl) (by kernel_rfl) hS rfl ?_ ?_
                rotate_left
                · intro wS hSw; go_simp; (with_reducible rfl)
                simp only [List.getElem_toArray, List.getElem_cons_succ, List.getElem_cons_zero, Act.put, List.setIfInBounds_toArray, List.set_cons_zero, List.set_cons_succ]
                refine rg_take 4 (v := ?_) rfl (by kernel_rfl) (by kernel_rfl) (by kernel_rfl) hS rfl ?_ ?_
                rotate_left
                · intro wS hSw; go_simp; (with_reducible rfl)
                simp only [List.getElem_toArray, List.getElem_cons_succ, List.getElem_cons_zero, Act.put, List.setIfInBounds_toArray, List.set_cons_zero, List.set_cons_succ]
                refine rg_take 5 (v := ?_) rfl (by kernel_rfl) (by kernel_rfl) (by kernel_rfl) hS rfl ?_ ?_
                rotate_left
                · intro wS hSw; go_simp; (with_reducible rfl)
                simp only [List.getElem_toArray, List.getElem_cons_succ, List.getElem_cons_zero, Act.put, List.setIfInBounds_toArray, List.set_cons_zero, List.set_cons_succ]
                refine rg_take 6 (v := ?_) rfl (by kernel_rfl) (by kernel_rfl) (by kernel_rfl) hS rfl ?_ ?_
                rotate_left
                · intro wS hSw; go_simp; (with_reducible rfl)
                simp only [List.getElem_toArray, List.getElem_cons_succ, List.getElem_cons_zero, Act.put, List.setIfInBounds_toArray, List.set_cons_zero, List.set_cons_succ]
                refine rg_take 7 (v := ?_) rfl (by kernel_rfl) (by kernel_rfl) (by kernel_rfl) hS rfl ?_ ?_
                rotate_left
                · intro wS hSw; go_simp; (with_reducible rfl)
                simp only [List.getElem_toArray, List.getElem_cons_succ, List.getElem_cons_zero, Act.put, List.setIfInBounds_toArray, List.set_cons_zero, List.set_cons_succ]
                refine rg_take 8 (v := ?_) rfl (by kernel_rfl) (by kernel_rfl) (by kernel_rfl) hS rfl ?_ ?_
                rotate_left
                · intro wS hSw; go_simp; (with_reducible rfl)
                simp only [List.getElem_toArray, List.getElem_cons_succ, List.getElem_cons_zero, Act.put, List.setIfInBounds_toArray, List.set_cons_zero, List.set_cons_succ]
                refine rg_take 9 (v := ?_) rfl (by kernel_rfl) (by kernel_rfl) (by kernel_rfl) hS rfl ?_ ?_
                rotate_left
                · intro wS hSw; go_simp; (with_reducible rfl)
                simp only [List.getElem_toArray, List.getElem_cons_succ, List.getElem_cons_zero, Act.put, List.setIfInBounds_toArray, List.set_cons_zero, List.set_cons_succ]
                refine rg_take 10 (v := ?_) rfl (by kernel_rfl) (by kernel_rfl) (by kernel_rfl) hS rfl ?_ ?_
                rotate_left
                · intro wS hSw; go_simp; (with_reducible rfl)
                simp only [List.getElem_toArray, List.getElem_cons_succ, List.getElem_cons_zero, Act.put, List.setIfInBounds_toArray, List.set_cons_zero, List.set_cons_succ]
                refine rg_one 11 rfl (by kernel_rfl) rfl (fun K hK => ?_)
                go_simp
                refine (cut_any A2 N c2 cur sf st _ wr.drew hrq.drew hm3 hbk.1 hbk.2 (Nat.le_refl _) (by omega)).mono ?_
                rintro e w12 ⟨A12, c12, rfl, ho12, hB12'⟩
                have hB12 := (below_drewN hBq 1).trans (hB12'.mono hBq.size)
                have hz12 := hB12.size
                have hz12' : wr.heap.size ≤ w12.heap.size := hB12'.size
                have hoq12 : OwnS w12 w5.heap.size A6 (spEither a b).length c6 (spEither a b) := below_ownS (w := wr.drew) hoq hB12'
                have hS12 : w12.cell? ⟨b0, off0 + q * 2, none⟩ = some (.int .u32 (sf : Int)) ∧ w12.cell? ⟨b0, off0 + q * 2 + 1, none⟩ = some (.int .u32 (st : Int)) := ⟨(hB12'.cell (p := ⟨b0, off0 + q * 2, none⟩) (World.block_lt_of_cell? _ _ hS.1)).trans hS.1, (hB12'.cell (p := ⟨b0, off0 + q * 2 + 1, none⟩) (World.block_lt_of_cell? _ _ hS.2)).trans hS.2⟩
                rw [cutR_ok hm1 hek, spErr_ok hm1 hek]
                rw [cutR_ok hm1 hek] at ho12
                obtain ⟨nx, hnx⟩ : ∃ nx, nx = spCut sf st cur := ⟨_, rfl⟩
                rw [← hnx] at HN ho12 HMN ⊢
                clear hnx
                obtain ⟨hn1, hn2, hn3, hn4⟩ := HMN.out
                rw [List.length_take, hl', Nat.min_eq_left (show q + 1 ≤ m by omega), hl] at hn4
                clear hn2
                refine hK _ _ hS12 ?_; clear hK K
                refine rg_take 12 (v := ?_) rfl (by kernel_rfl) (by kernel_rfl) (by kernel_rfl) hS12 rfl ?_ ?_
                rotate_left
                · intro wS hSw; go_simp; (with_reducible rfl)
                simp only [List.getElem_toArray, List.getElem_cons_succ, List.getElem_cons_zero, Act.put, List.setIfInBounds_toArray, List.set_cons_zero, List.set_cons_succ]
                refine rg_take 13 (v := ?_) rfl (by kernel_rfl) (by kernel_rfl) (by kernel_rfl) hS12 rfl ?_ ?_
                rotate_left
                · intro wS hSw; go_simp; (with_reducible rfl)
                simp only [List.getElem_toArray, List.getElem_cons_succ, List.getElem_cons_zero, Act.put, List.setIfInBounds_toArray, List.set_cons_zero, List.set_cons_succ]
                refine rg_take 14 (v := ?_) rfl (by kernel_rfl) (by kernel_rfl) (by kernel_rfl) hS12 rfl ?_ ?_
                rotate_left
                · intro wS hSw; go_simp; (with_reducible rfl)
                simp only [List.getElem_toArray, List.getElem_cons_succ, List.getElem_cons_zero, Act.put, List.setIfInBounds_toArray, List.set_cons_zero, List.set_cons_succ]
                refine rg_take 15 (v := ?_) rfl (by kernel_rfl) (by kernel_rfl) (by kernel_rfl) hS12 rfl ?_ ?_
                rotate_left
                · intro wS hSw; go_simp; (with_reducible rfl)
                simp only [List.getElem_toArray, List.getElem_cons_succ, List.getElem_cons_zero, Act.put, List.setIfInBounds_toArray, List.set_cons_zero, List.set_cons_succ]
                refine rg_take 16 (v := ?_) rfl (by kernel_rfl) (by kernel_rfl) (by kernel_rfl) hS12 rfl ?_ ?_
                rotate_left
                · intro wS hSw; go_simp; (with_reducible rfl)
                simp only [List.getElem_toArray, List.getElem_cons_succ, List.getElem_cons_zero, Act.put, List.setIfInBounds_toArray, List.set_cons_zero, List.set_cons_succ]
                refine rg_end (by kernel_rfl) ?_
                go_wp2_with (first | (with_reducible refine hold_append ?_) | (with_reducible refine hold_make ?_) | (with_reducible refine hold_copy ?_))
                have hrn := right_any A12 nx.length c12 nx _ w12 ho12.rd hn3 (Nat.le_refl _) (by omega)
                rw [hn1] at hrn
                refine hrn.mono ?_
                rintro e w13 ⟨rfl, hB13'⟩
                have hB13 := hB12.trans (hB13'.mono hz12)
                have ho13 := below_ownS ho12 hB13'
                have hoq13 := below_ownS hoq12 hB13'
                have hz13 := hB13'.size
                go_wp2_with (first | (with_reducible refine hold_append ?_) | (with_reducible refine hold_make ?_) | (with_reducible refine hold_copy ?_))
                exact ⟨⟨q + 1, nx.length, c12, A12, nx, by omega, by go_num, rfl, HN.out.symm, ho13.rd, hoq13, by omega, hB13⟩, by simp [intOf]; omega⟩
              · obtain rfl : q = m := by omega
                have hdq : decide ((q : Int) < (q : Int)) = false := by simp
                rw [List.take_of_length_le (by omega)] at hcur hm2
                have hho := has_any A2 N c2 cur x _ wr hrq (Nat.le_refl _) hm3 hx (by omega)
                have hvo : (spRight cur && spIn cur x) = false := by
                  rw [hm1, Bool.true_and, Bool.eq_iff_iff, hm2 x, HXa.out, HXb.out]
                  simp
                rw [hvo] at hho
                have hsum := spSum_minus 4294967296 a b cur (spEither a b) hm1 HRb.out (spEither_ok b a HRa.out HEb.out).1 (fun z hz => (hm3 z hz).2) (fun z hz => (hokb z hz).2) (fun z hz => (hokd z hz).2) hm2 (spEither_ok b a HRa.out HEb.out).2
                have hs1 : spCount cur = spSum cur := by rw [spCount, if_pos hm1]
                have hs2 : spCount b = spSum b := by rw [spCount, if_pos HRb.out]
                have hs3 : spCount (spEither a b) = spSum (spEither a b) := by rw [spCount, if_pos (spEither_ok b a HRa.out HEb.out).1]
                have hle1 := spSum_le (N := 4294967296) hm3
                have hle2 := spSum_le (N := 4294967296) hokb
                rw [hNl] at hle1
                rw [hl'] at hle2
                have hcu := fun w1 => count_any A2 N c2 cur wr.heap.size w1
                have hcub := fun w1 => count_any B q d b w.heap.size w1
                have hcud := fun B1 w1 => count_any A6 (spEither a b).length c6 (spEither a b) B1 w1
                rw [hs1] at hcu
                rw [hs2] at hcub
                rw [hs3] at hcud
                rw [← hsum] at hcud
                clear hs1 hs2 hs3 hsum hm1 hm2 hcur
                generalize spSum cur = s1 at *
                generalize spSum b = s2 at *
                have hwsum : IntKind.u64.wrap ((s1 : Int) + (s2 : Int)) = ((s1 + s2 : Nat) : Int) := by rw [IntWalk.u64_in _ ⟨by omega, by omega⟩]; omega
                obtain ⟨s3, hs3⟩ : ∃ s3, s3 = s1 + s2 := ⟨_, rfl⟩
                rw [← hs3] at hwsum hcud
                clear hs3
                have hss : (((s3 : Nat) : Int) != ((s3 : Nat) : Int)) = false := by simp
                have hvv : (false != false) = false := by simp
                go_wp2_with (first | (with_reducible refine hold_append ?_) | (with_reducible refine hold_make ?_) | (with_reducible refine hold_copy ?_))
                refine hho.mono ?_
                rintro e w12 ⟨rfl, hB12'⟩
                have hB12 := hBq.trans (hB12'.mono hBq.size)
                have hz12 := hB12.size
                have hr12 := hrq.below hB12'
                have hz12' := hB12'.size
                have hoq12 := below_ownS hoq hB12'
                go_wp2_with (first | (with_reducible refine hold_append ?_) | (with_reducible refine hold_make ?_) | (with_reducible refine hold_copy ?_))
                refine (hcu w12 hr12 hm3 hz12' (by omega)).mono ?_
                rintro e w13 ⟨rfl, hB13'⟩
                have hB13 := hB12.trans (hB13'.mono hz12)
                have hz13 := hB13.size
                have hoq13 := below_ownS hoq12 hB13'
                go_wp2_with (first | (with_reducible refine hold_append ?_) | (with_reducible refine hold_make ?_) | (with_reducible refine hold_copy ?_))
                refine (hcub w13 (hr'.below hB13) hokb hz13 (by omega)).mono ?_
                rintro e w14 ⟨rfl, hB14'⟩
                have hB14 := hB13.trans (hB14'.mono hz13)
                have hz14 := hB14.size
                have hoq14 := below_ownS hoq13 hB14'
                go_wp2_with (first | (with_reducible refine hold_append ?_) | (with_reducible refine hold_make ?_) | (with_reducible refine hold_copy ?_))
                refine (hcud w14.heap.size w14 hoq14.rd hokd (Nat.le_refl _) (by omega)).mono ?_
                rintro e w15 ⟨rfl, hB15'⟩
                have hB15 := hB14.trans (hB15'.mono hz14)
                have hz15 := hB15.size
                clear hoq12 hoq13 hoq14 hB12 hB13 hB14 hB12' hB13' hB14' hB15'
                have had := add_any A n c a x x w.heap.size w15 (hr.below hB15) hoka hx hx hz15 (by omega)
                rw [addR_ok HRa.out (Nat.le_refl _), spErr_ok HRa.out (Nat.le_refl _)] at had
                have hax := spAdd_right x x (Nat.le_refl _) a HRa.out
                have haok := spAdd_ok (N := 4294967296) (Nat.le_refl x) hx HRa.out hoka
                have hain : spIn (spAdd x x a) x = true := (spAdd_in x x (Nat.le_refl _) a HRa.out x).2 (.inl ⟨Nat.le_refl _, Nat.le_refl _⟩)
                have halen := spAdd_len x x a
                rw [hl] at halen
                go_wp2_with (first | (with_reducible refine hold_append ?_) | (with_reducible refine hold_make ?_) | (with_reducible refine hold_copy ?_))
                refine had.mono ?_
                rintro e w16 ⟨A16, c16, rfl, ho16, hB16'⟩
                have hB16 := hB15.trans (hB16'.mono hz15)
                have hz16 := hB16.size
                have hr17 := right_any A16 _ c16 _ _ w16 ho16.rd haok (Nat.le_refl _) (by omega)
                rw [hax.1] at hr17
                go_wp2_with (first | (with_reducible refine hold_append ?_) | (with_reducible refine hold_make ?_) | (with_reducible refine hold_copy ?_))
                refine hr17.mono ?_
                rintro e w17 ⟨rfl, hB17'⟩
                have hB17 := hB16.trans (hB17'.mono hz16)
                have hz17 := hB17.size
                have ho17 := below_ownS ho16 hB17'
                have hr18 := has_any A16 _ c16 _ x _ w17 ho17.rd (Nat.le_refl _) haok hx (by omega)
                rw [hax.1, hain] at hr18
                go_wp2_with (first | (with_reducible refine hold_append ?_) | (with_reducible refine hold_make ?_) | (with_reducible refine hold_copy ?_))
                refine hr18.mono ?_
                rintro e w18 ⟨rfl, hB18'⟩
                have hB18 := hB17.trans (hB18'.mono hz17)
                go_wp2_with (first | (with_reducible refine hold_append ?_) | (with_reducible refine hold_make ?_) | (with_reducible refine hold_copy ?_))
                refine (head_any w18).mono ?_
                rintro e w19 ⟨rfl, hB19⟩
                go_wp2_with (first | (with_reducible refine hold_append ?_) | (with_reducible refine hold_make ?_) | (with_reducible refine hold_copy ?_))
                go_ret
                exact ⟨rfl, hB18.trans (hB19.mono hB18.size)⟩
          · have HXa := Lib.hid hxa
            have vc : spIn (spBoth a b) x = y := by rw [Bool.eq_iff_iff, hic, hxa, hy]; simp
            have vd : spIn (spEither a b) x = true := by rw [Bool.eq_iff_iff, hid', hxa]; simp
            rw [hxa] at hha
            rw [hy] at hhb
            rw [vc] at hhc
            rw [vd] at hhd
            have hyy : (y != y) = false := by simp
            clear hxa hy vc vd hic hid'
            go_enter Try.func7, Try.ntmps7
            go_wp2_with (first | (with_reducible refine hold_append ?_) | (with_reducible refine hold_make ?_) | (with_reducible refine hold_copy ?_))
            refine hca.mono ?_
            rintro e w1 ⟨rfl, hB1⟩
            have hz1 := hB1.size
            go_wp2_with (first | (with_reducible refine hold_append ?_) | (with_reducible refine hold_make ?_) | (with_reducible refine hold_copy ?_))
            refine (hcb w1 hB1).mono ?_
            rintro e w2 ⟨rfl, hB2'⟩
            have hB2 := hB1.trans (hB2'.mono hz1)
            have hz2 := hB2.size
            go_wp2_with (first | (with_reducible refine hold_append ?_) | (with_reducible refine hold_make ?_) | (with_reducible refine hold_copy ?_))
            refine (hha w2 hB2).mono ?_
            rintro e w3 ⟨rfl, hB3'⟩
            have hB3 := hB2.trans (hB3'.mono hz2)
            have hz3 := hB3.size
            go_wp2_with (first | (with_reducible refine hold_append ?_) | (with_reducible refine hold_make ?_) | (with_reducible refine hold_copy ?_))
            refine (hhb w3 hB3).mono ?_
            rintro e w4 ⟨rfl, hB4'⟩
            have hB4 := hB3.trans (hB4'.mono hz3)
            have hz4 := hB4.size
            clear hB1 hB2 hB3 hB2' hB3' hB4' hz1 hz2 hz3
            go_wp2_with (first | (with_reducible refine hold_append ?_) | (with_reducible refine hold_make ?_) | (with_reducible refine hold_copy ?_))
            refine (hcc w4 hB4).mono ?_
            rintro e w5 ⟨A5, c5, rfl, ho5, hB5'⟩
            have hB5 := hB4.trans (hB5'.mono hz4)
            have hz5 := hB5.size
            go_wp2_with (first | (with_reducible refine hold_append ?_) | (with_reducible refine hold_make ?_) | (with_reducible refine hold_copy ?_))
            refine (hcd w5 hB5).mono ?_
            rintro e w6 ⟨A6, c6, rfl, ho6, hB6'⟩
            have hB6 := hB5.trans (hB6'.mono hz5)
            have hz6 := hB6.size
            have ho56 := below_ownS ho5 hB6'
            go_wp2_with (first | (with_reducible refine hold_append ?_) | (with_reducible refine hold_make ?_) | (with_reducible refine hold_copy ?_))
            refine (hrc A5 c5 w6 ho56.rd).mono ?_
            rintro e w7 ⟨rfl, hB7'⟩
            have hB7 := hB6.trans (hB7'.mono hz6)
            have hz7 := hB7.size
            have ho57 := below_ownS ho56 hB7'
            have ho67 := below_ownS ho6 hB7'
            clear ho5 ho56 ho6 hB5' hB6' hB7' hB5 hB6
            go_wp2_with (first | (with_reducible refine hold_append ?_) | (with_reducible refine hold_make ?_) | (with_reducible refine hold_copy ?_))
            refine (hrd A6 c6 w7 ho67.rd).mono ?_
            rintro e w8 ⟨rfl, hB8'⟩
            have hB8 := hB7.trans (hB8'.mono hz7)
            have hz8 := hB8.size
            have ho58 := below_ownS ho57 hB8'
            have ho68 := below_ownS ho67 hB8'
            clear ho57 ho67 hB7
            go_wp2_with (first | (with_reducible refine hold_append ?_) | (with_reducible refine hold_make ?_) | (with_reducible refine hold_copy ?_))
            refine (hhc A5 c5 w8 ho58.rd).mono ?_
            rintro e w9 ⟨rfl, hB9'⟩
            have hB9 := hB8.trans (hB9'.mono hz8)
            have hz9 := hB9.size
            have ho69 := below_ownS ho68 hB9'
            clear ho58 ho68 hB8
            go_wp2_with (first | (with_reducible refine hold_append ?_) | (with_reducible refine hold_make ?_) | (with_reducible refine hold_copy ?_))
            refine (hhd A6 c6 w9 ho69.rd).mono ?_
            rintro e w10 ⟨rfl, hB10'⟩
            have hB10 := hB9.trans (hB10'.mono hz9)
            have hz10 := hB10.size
            have ho610 := below_ownS ho69 hB10'
            clear ho69 hB9
            have hA6 : ∀ g, blk A6 = some g → g < w10.heap.size := fun g hg => (ho610.blk_lt hg).2
            go_wp2_with (first | (with_reducible refine hold_append ?_) | (with_reducible refine hold_make ?_) | (with_reducible refine hold_copy ?_))
            go_loopw [14, 13] (fun s v wr => ∃ (q N c2 : Nat) (A2 : Option Addr) (cur : List Sp), q ≤ m ∧ s = .int .i64 q ∧ v = .slice A2 N c2 ∧ cur = spMinus a (b.take q) ∧ RdS wr wr.heap.size A2 N c2 cur ∧ OwnS wr w5.heap.size A6 (spEither a b).length c6 (spEither a b) ∧ w10.heap.size ≤ wr.heap.size ∧ Below w.heap.size w wr) (fun s _ _ => m - (intOf s).toNat)
            case atStart => exact ⟨0, n, c, A, a, by omega, rfl, rfl, by simp [spMinus], (hr.below hB10).more hz10, ho610, by omega, hB10⟩
            case round =>
              clear ho610 hB10 hz10
              obtain ⟨q, N, c2, A2, cur, hq, rfl, rfl, hcur, hrq, hoq, hszq, hBq⟩ := hrel
              have hmi := spMinus_ok (N := 4294967296) (b.take q) a HRa.out (fun s hs => HEb.out s (List.mem_of_mem_take hs)) hoka
              rw [← hcur] at hmi
              have hNl := hrq.length
              obtain ⟨hm1, hm2, hm3, hm4⟩ := hmi
              rw [List.length_take, hl', Nat.min_eq_left hq, hl, hNl] at hm4
              by_cases hlt : q < m
              · obtain ⟨b0, off0, rfl, hbB, hkl, hc0, hc1⟩ := RdS.at_k (hr'.below hBq) hlt
                have hbk := hokb b[q] (List.getElem_mem hkl)
                have hek := HEb.out b[q] (List.getElem_mem hkl)
                have hnx := spMinus_next (a := a) hkl
                rw [← hcur] at hnx
                have hmn := spMinus_ok (N := 4294967296) (b.take (q + 1)) a HRa.out (fun s hs => HEb.out s (List.mem_of_mem_take hs)) hoka
                rw [hnx] at hmn
                have HN := Lib.hid hnx
                have HMN := Lib.hid hmn
                clear hnx hcur hmn hm2
                obtain ⟨sf, st, he⟩ : ∃ sf st, b[q] = (sf, st) := ⟨_, _, rfl⟩
                rw [he] at hc0 hc1 hbk HN hek HMN
                clear he
                simp only at hc0 hc1 hbk hek HN HMN
                have hS : wr.drew.cell? ⟨b0, off0 + q * 2, none⟩ = some (.int .u32 (sf : Int)) ∧ wr.drew.cell? ⟨b0, off0 + q * 2 + 1, none⟩ = some (.int .u32 (st : Int)) := ⟨hc0, hc1⟩
                have hdq : (q : Int) < (m : Int) := by omega
                have hbw : b0 < w.heap.size := hbB
                go_wp2_with (first | (with_reducible refine hold_append ?_) | (with_reducible refine hold_make ?_) | (with_reducible refine hold_copy ?_))
                refine rg_start (fun wx => wx.cell? ⟨b0, off0 + q * 2, none⟩ = some (.int .u32 (sf : Int)) ∧ wx.cell? ⟨b0, off0 + q * 2 + 1, none⟩ = some (.int .u32 (st : Int))) (by kernel_rfl) ?_
                refine rg_take 0 (v := ?_) rfl (by kernel_rfl) (by kernel_rfl) (by kernel_rfl) hS rfl ?_ ?_
                rotate_left
                · intro wS hSw; go_simp; (with_reducible rfl)
                simp only [List.getElem_toArray, List.getElem_cons_zero, Act.put, List.setIfInBounds_toArray, List.set_cons_zero, List.set_cons_succ]
                refine rg_take 1 (v := ?_) rfl (by kernel_rfl) (by kernel_rfl) (by kernel_rfl) hS rfl ?_ ?_
                rotate_left
                · intro wS hSw; go_simp; (with_reducible rfl)
                simp only [List.getElem_toArray, List.getElem_cons_succ, List.getElem_cons_zero, Act.put, List.setIfInBounds_toArray, List.set_cons_zero, List.set_cons_succ]
                refine rg_take 2 (v := ?_) rfl (by kernel_rfl) (by kernel_rfl) (by kernel_rfl) hS rfl ?_ ?_
                rotate_left
                · intro wS hSw; go_simp; (with_reducible rfl)
                simp only [List.getElem_toArray, List.getElem_cons_succ, List.getElem_cons_zero, Act.put, List.setIfInBounds_toArray, List.set_cons_zero, List.set_cons_succ]
                refine rg_take 3 (v := ?_) rfl (by kernel_rfl) (by kernel_rfl) (by kernel_rfl) hS rfl ?_ ?_
                rotate_left
                · intro wS hSw; go_simp; (with_reducible rfl)
                simp only [List.getElem_toArray, List.getElem_cons_succ, List.getElem_cons_zero, Act.put, List.setIfInBounds_toArray, List.set_cons_zero, List.set_cons_succ]
                refine rg_take 4 (v := ?_) rfl (by kernel_rfl) (by kernel_rfl) (by kernel_rfl) hS rfl ?_ ?_
                rotate_left
                · intro wS hSw; go_simp; (with_reducible rfl)
                simp only [List.getElem_toArray, List.getElem_cons_succ, List.getElem_cons_zero, Act.put, List.setIfInBounds_toArray, List.set_cons_zero, List.set_cons_succ]
                refine rg_take 5 (v := ?_) rfl (by kernel_rfl) (by kernel_rfl) (by kernel_rfl) hS rfl ?_ ?_
                rotate_left
                · intro wS hSw; go_simp; (with_reducible rfl)
                simp only [List.getElem_toArray, List.getElem_cons_succ, List.getElem_cons_zero, Act.put, List.setIfInBounds_toArray, List.set_cons_zero, List.set_cons_succ]
                refine rg_take 6 (v := ?_) rfl (by kernel_rfl) (by kernel_rfl) (by kernel_rfl) hS rfl ?_ ?_
                rotate_left
                · intro wS hSw; go_simp; (with_reducible rfl)
                simp only [List.getElem_toArray, List.getElem_cons_succ, List.getElem_cons_zero, Act.put, List.setIfInBounds_toArray, List.set_cons_zero, List.set_cons_succ]
                refine rg_take 7 (v := ?_) rfl (by kernel_rfl) (by kernel_rfl) (by kernel_rfl) hS rfl ?_ ?_
                rotate_left
                · intro wS hSw; go_simp; (with_reducible rfl)
                simp only [List.getElem_toArray, List.getElem_cons_succ, List.getElem_cons_zero, Act.put, List.setIfInBounds_toArray, List.set_cons_zero, List.set_cons_succ]
                refine rg_take 8 (v := ?_) rfl (by kernel_rfl) (by kernel_rfl) (by kernel_rfl) hS rfl ?_ ?_
                rotate_left
                · intro wS hSw; go_simp; (with_reducible rfl)
                simp only [List.getElem_toArray, List.getElem_cons_succ, List.getElem_cons_zero, Act.put, List.setIfInBounds_toArray, List.set_cons_zero, List.set_cons_succ]
                refine rg_take 9 (v := ?_) rfl (by kernel_rfl) (by kernel_rfl) (by kernel_rfl) hS rfl ?_ ?_
                rotate_left
                · intro wS hSw; go_simp; (with_reducible rfl)
                simp only [List.getElem_toArray, List.getElem_cons_succ, List.getElem_cons_zero, Act.put, List.setIfInBounds_toArray, List.set_cons_zero, List.set_cons_succ]
                refine rg_take 10 (v := ?_) rfl (by kernel_rfl) (by kernel_rfl) (by kernel_rfl) hS rfl ?_ ?_
                rotate_left
                · intro wS hSw; go_simp; (with_reducible rfl)
                simp only [List.getElem_toArray, List.getElem_cons_succ, List.getElem_cons_zero, Act.put, List.setIfInBounds_toArray, List.set_cons_zero, List.set_cons_succ]
                refine rg_one 11 rfl (by kernel_rfl) rfl (fun K hK => ?_)
                go_simp
                refine (cut_any A2 N c2 cur sf st _ wr.drew hrq.drew hm3 hbk.1 hbk.2 (Nat.le_refl _) (by omega)).mono ?_
                rintro e w12 ⟨A12, c12, rfl, ho12, hB12'⟩
                have hB12 := (below_drewN hBq 1).trans (hB12'.mono hBq.size)
                have hz12 := hB12.size
                have hz12' : wr.heap.size ≤ w12.heap.size := hB12'.size
                have hoq12 : OwnS w12 w5.heap.size A6 (spEither a b).length c6 (spEither a b) := below_ownS (w := wr.drew) hoq hB12'
                have hS12 : w12.cell? ⟨b0, off0 + q * 2, none⟩ = some (.int .u32 (sf : Int)) ∧ w12.cell? ⟨b0, off0 + q * 2 + 1, none⟩ = some (.int .u32 (st : Int)) := ⟨(hB12'.cell (p := ⟨b0, off0 + q * 2, none⟩) (World.block_lt_of_cell? _ _ hS.1)).trans hS.1, (hB12'.cell (p := ⟨b0, off0 + q * 2 + 1, none⟩) (World.block_lt_of_cell? _ _ hS.2)).trans hS.2⟩
                rw [cutR_ok hm1 hek, spErr_ok hm1 hek]
                rw [cutR_ok hm1 hek] at ho12
                obtain ⟨nx, hnx⟩ : ∃ nx, nx = spCut sf st cur := ⟨_, rfl⟩
                rw [← hnx] at HN ho12 HMN ⊢
                clear hnx
                obtain ⟨hn1, hn2, hn3, hn4⟩ := HMN.out
                rw [List.length_take, hl', Nat.min_eq_left (show q + 1 ≤ m by omega), hl] at hn4
                clear hn2
                refine hK _ _ hS12 ?_; clear hK K
                refine rg_take 12 (v := ?_) rfl (by kernel_rfl) (by kernel_rfl) (by kernel_rfl) hS12 rfl ?_ ?_
                rotate_left
                · intro wS hSw; go_simp; (with_reducible rfl)
                simp only [List.getElem_toArray, List.getElem_cons_succ, List.getElem_cons_zero, Act.put, List.setIfInBounds_toArray, List.set_cons_zero, List.set_cons_succ]
                refine rg_take 13 (v := ?_) rfl (by kernel_rfl) (by kernel_rfl) (by kernel_rfl) hS12 rfl ?_ ?_
                rotate_left
                · intro wS hSw; go_simp; (with_reducible rfl)
                simp only [List.getElem_toArray, List.getElem_cons_succ, List.getElem_cons_zero, Act.put, List.setIfInBounds_toArray, List.set_cons_zero, List.set_cons_succ]
                refine rg_take 14 (v := ?_) rfl (by kernel_rfl) (by kernel_rfl) (by kernel_rfl) hS12 rfl ?_ ?_
                rotate_left
                · intro wS hSw; go_simp; (with_reducible rfl)
                simp only [List.getElem_toArray, List.getElem_cons_succ, List.getElem_cons_zero, Act.put, List.setIfInBounds_toArray, List.set_cons_zero, List.set_cons_succ]
                refine rg_take 15 (v := ?_) rfl (by kernel_rfl) (by kernel_rfl) (by kernel_rfl) hS12 rfl ?_ ?_
                rotate_left
                · intro wS hSw; go_simp; (with_reducible rfl)
                simp only [List.getElem_toArray, List.getElem_cons_succ, List.getElem_cons_zero, Act.put, List.setIfInBounds_toArray, List.set_cons_zero, List.set_cons_succ]
                refine rg_take 16 (v := ?_) rfl (by kernel_rfl) (by kernel_rfl) (by kernel_rfl) hS12 rfl ?_ ?_
                rotate_left
                · intro wS hSw; go_simp; (with_reducible rfl)
                simp only [List.getElem_toArray, List.getElem_cons_succ, List.getElem_cons_zero, Act.put, List.setIfInBounds_toArray, List.set_cons_zero, List.set_cons_succ]
                refine rg_end (by kernel_rfl) ?_
                go_wp2_with (first | (with_reducible refine hold_append ?_) | (with_reducible refine hold_make ?_) | (with_reducible refine hold_copy ?_))
                have hrn := right_any A12 nx.length c12 nx _ w12 ho12.rd hn3 (Nat.le_refl _) (by omega)
                rw [hn1] at hrn
                refine hrn.mono ?_
                rintro e w13 ⟨rfl, hB13'⟩
                have hB13 := hB12.trans (hB13'.mono hz12)
                have ho13 := below_ownS ho12 hB13'
                have hoq13 := below_ownS hoq12 hB13'
                have hz13 := hB13'.size
                go_wp2_with (first | (with_reducible refine hold_append ?_) | (with_reducible refine hold_make ?_) | (with_reducible refine hold_copy ?_))
                exact ⟨⟨q + 1, nx.length, c12, A12, nx, by omega, by go_num, rfl, HN.out.symm, ho13.rd, hoq13, by omega, hB13⟩, by simp [intOf]; omega⟩
              · obtain rfl : q = m := by omega
                have hdq : decide ((q : Int) < (q : Int)) = false := by simp
                rw [List.take_of_length_le (by omega)] at hcur hm2
                have hho := has_any A2 N c2 cur x _ wr hrq (Nat.le_refl _) hm3 hx (by omega)
                have hvo : (spRight cur && spIn cur x) = (!y) := by
                  rw [hm1, Bool.true_and, Bool.eq_iff_iff, hm2 x, HXa.out, HXb.out]
                  simp
                rw [hvo] at hho
                have hsum := spSum_minus 4294967296 a b cur (spEither a b) hm1 HRb.out (spEither_ok b a HRa.out HEb.out).1 (fun z hz => (hm3 z hz).2) (fun z hz => (hokb z hz).2) (fun z hz => (hokd z hz).2) hm2 (spEither_ok b a HRa.out HEb.out).2
                have hs1 : spCount cur = spSum cur := by rw [spCount, if_pos hm1]
                have hs2 : spCount b = spSum b := by rw [spCount, if_pos HRb.out]
                have hs3 : spCount (spEither a b) = spSum (spEither a b) := by rw [spCount, if_pos (spEither_ok b a HRa.out HEb.out).1]
                have hle1 := spSum_le (N := 4294967296) hm3
                have hle2 := spSum_le (N := 4294967296) hokb
                rw [hNl] at hle1
                rw [hl'] at hle2
                have hcu := fun w1 => count_any A2 N c2 cur wr.heap.size w1
                have hcub := fun w1 => count_any B q d b w.heap.size w1
                have hcud := fun B1 w1 => count_any A6 (spEither a b).length c6 (spEither a b) B1 w1
                rw [hs1] at hcu
                rw [hs2] at hcub
                rw [hs3] at hcud
                rw [← hsum] at hcud
                clear hs1 hs2 hs3 hsum hm1 hm2 hcur
                generalize spSum cur = s1 at *
                generalize spSum b = s2 at *
                have hwsum : IntKind.u64.wrap ((s1 : Int) + (s2 : Int)) = ((s1 + s2 : Nat) : Int) := by rw [IntWalk.u64_in _ ⟨by omega, by omega⟩]; omega
                obtain ⟨s3, hs3⟩ : ∃ s3, s3 = s1 + s2 := ⟨_, rfl⟩
                rw [← hs3] at hwsum hcud
                clear hs3
                have hss : (((s3 : Nat) : Int) != ((s3 : Nat) : Int)) = false := by simp
                have hvv : ((!y) != (!y)) = false := by simp
                go_wp2_with (first | (with_reducible refine hold_append ?_) | (with_reducible refine hold_make ?_) | (with_reducible refine hold_copy ?_))
                refine hho.mono ?_
                rintro e w12 ⟨rfl, hB12'⟩
                have hB12 := hBq.trans (hB12'.mono hBq.size)
                have hz12 := hB12.size
                have hr12 := hrq.below hB12'
                have hz12' := hB12'.size
                have hoq12 := below_ownS hoq hB12'
                go_wp2_with (first | (with_reducible refine hold_append ?_) | (with_reducible refine hold_make ?_) | (with_reducible refine hold_copy ?_))
                refine (hcu w12 hr12 hm3 hz12' (by omega)).mono ?_
                rintro e w13 ⟨rfl, hB13'⟩
                have hB13 := hB12.trans (hB13'.mono hz12)
                have hz13 := hB13.size
                have hoq13 := below_ownS hoq12 hB13'
                go_wp2_with (first | (with_reducible refine hold_append ?_) | (with_reducible refine hold_make ?_) | (with_reducible refine hold_copy ?_))
                refine (hcub w13 (hr'.below hB13) hokb hz13 (by omega)).mono ?_
                rintro e w14 ⟨rfl, hB14'⟩
                have hB14 := hB13.trans (hB14'.mono hz13)
                have hz14 := hB14.size
                have hoq14 := below_ownS hoq13 hB14'
                go_wp2_with (first | (with_reducible refine hold_append ?_) | (with_reducible refine hold_make ?_) | (with_reducible refine hold_copy ?_))
                refine (hcud w14.heap.size w14 hoq14.rd hokd (Nat.le_refl _) (by omega)).mono ?_
                rintro e w15 ⟨rfl, hB15'⟩
                have hB15 := hB14.trans (hB15'.mono hz14)
                have hz15 := hB15.size
                clear hoq12 hoq13 hoq14 hB12 hB13 hB14 hB12' hB13' hB14' hB15'
                have had := add_any A n c a x x w.heap.size w15 (hr.below hB15) hoka hx hx hz15 (by omega)
                rw [addR_ok HRa.out (Nat.le_refl _), spErr_ok HRa.out (Nat.le_refl _)] at had
                have hax := spAdd_right x x (Nat.le_refl _) a HRa.out
                have haok := spAdd_ok (N := 4294967296) (Nat.le_refl x) hx HRa.out hoka
                have hain : spIn (spAdd x x a) x = true := (spAdd_in x x (Nat.le_refl _) a HRa.out x).2 (.inl ⟨Nat.le_refl _, Nat.le_refl _⟩)
                have halen := spAdd_len x x a
                rw [hl] at halen
                go_wp2_with (first | (with_reducible refine hold_append ?_) | (with_reducible refine hold_make ?_) | (with_reducible refine hold_copy ?_))
                refine had.mono ?_
                rintro e w16 ⟨A16, c16, rfl, ho16, hB16'⟩
                have hB16 := hB15.trans (hB16'.mono hz15)
                have hz16 := hB16.size
                have hr17 := right_any A16 _ c16 _ _ w16 ho16.rd haok (Nat.le_refl _) (by omega)
                rw [hax.1] at hr17
                go_wp2_with (first | (with_reducible refine hold_append ?_) | (with_reducible refine hold_make ?_) | (with_reducible refine hold_copy ?_))
                refine hr17.mono ?_
                rintro e w17 ⟨rfl, hB17'⟩
                have hB17 := hB16.trans (hB17'.mono hz16)
                have hz17 := hB17.size
                have ho17 := below_ownS ho16 hB17'
                have hr18 := has_any A16 _ c16 _ x _ w17 ho17.rd (Nat.le_refl _) haok hx (by omega)
                rw [hax.1, hain] at hr18
                go_wp2_with (first | (with_reducible refine hold_append ?_) | (with_reducible refine hold_make ?_) | (with_reducible refine hold_copy ?_))
                refine hr18.mono ?_
                rintro e w18 ⟨rfl, hB18'⟩
                have hB18 := hB17.trans (hB18'.mono hz17)
                go_wp2_with (first | (with_reducible refine hold_append ?_) | (with_reducible refine hold_make ?_) | (with_reducible refine hold_copy ?_))
                refine (head_any w18).mono ?_
                rintro e w19 ⟨rfl, hB19⟩
                go_wp2_with (first | (with_reducible refine hold_append ?_) | (with_reducible refine hold_make ?_) | (with_reducible refine hold_copy ?_))
                go_ret
                exact ⟨rfl, hB18.trans (hB19.mono hB18.size)⟩
end Go.PH

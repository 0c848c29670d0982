/- The walk of Add. -/
import Derived.Test.YtjlfjlafpgjhbaaSpSearch
import Derived.Test.YtjlfjlafpgjhbaaSpPush
import Derived.Test.YtjlfjlafpgjhbaaSpCopy
import Derived.Test.YtjlfjlafpgjhbaaRegion2
namespace Go.PH
open Go.RowKit Go.Proofs

set_option maxRecDepth 20000 in
set_option maxHeartbeats 2000000 in
theorem add_any (A : Option Addr) (n c : Nat) (l : List Sp) (f t : Nat) (B : Nat) (w : World) (hr : RdS w B A n c l) (hb : spOK 4294967296 l) (hf : f < 4294967296) (ht : t < 4294967296) (hB : B ≤ w.heap.size) (hn : n ≤ 1000000) :
    Calls Try.prog 12 #[.slice A n c, .int .u32 f, .int .u32 t] w fun e w' => ∃ A2 c2, e = .returned (.tuple #[.slice A2 (addR l f t).length c2, .int .i64 (spErr l f t)]) ∧ OwnS w' w.heap.size A2 (addR l f t).length c2 (addR l f t) ∧ Below w.heap.size w w' := by
  have hl := hr.length
  have hra := right_any A n c l B w hr hb hB (by omega)
  cases hright : spRight l
  · rw [hright] at hra
    rw [addR_not hright, spErr_not hright]
    go_enter Try.func12, Try.ntmps12
    go_wp2_with (first | (with_reducible refine hold_append ?_) | (with_reducible refine hold_make ?_) | (with_reducible refine hold_copy ?_))
    refine hra.mono ?_
    rintro e w1 ⟨rfl, hB1⟩
    go_wp2_with (first | (with_reducible refine hold_append ?_) | (with_reducible refine hold_make ?_) | (with_reducible refine hold_copy ?_))
    go_ret2
    exact ⟨none, 0, rfl, Own.none_ _ _ _ _, hB1⟩
  · rw [hright] at hra
    by_cases hft : t < f
    · rw [addR_arg hft, spErr_arg hright hft]
      have hd : (t : Int) < (f : Int) := by omega
      clear hright
      go_enter Try.func12, Try.ntmps12
      go_wp2_with (first | (with_reducible refine hold_append ?_) | (with_reducible refine hold_make ?_) | (with_reducible refine hold_copy ?_))
      refine hra.mono ?_
      rintro e w1 ⟨rfl, hB1⟩
      go_wp2_with (first | (with_reducible refine hold_append ?_) | (with_reducible refine hold_make ?_) | (with_reducible refine hold_copy ?_))
      go_ret2
      exact ⟨none, 0, rfl, Own.none_ _ _ _ _, hB1⟩
    · rw [addR_ok hright (by omega), spErr_ok hright (by omega)]
      have hd : ¬ (t : Int) < (f : Int) := by omega
      have HR := Lib.hid hright
      clear hright
      rcases Nat.eq_zero_or_pos f with hf0 | hf0
      · have hd0 : ¬ (0 : Int) < (f : Int) := by omega
        have hd1 : decide (0 < f) = false := by simp; omega
        have HM : Hid (f = f - 1) := Lib.hid (by omega)
        clear hf0
        go_enter Try.func12, Try.ntmps12
        go_wp2_with (first | (with_reducible refine hold_append ?_) | (with_reducible refine hold_make ?_) | (with_reducible refine hold_copy ?_))
        refine hra.mono ?_
        rintro e w1 ⟨rfl, hB1⟩
        go_wp2_with (first | (with_reducible refine hold_append ?_) | (with_reducible refine hold_make ?_) | (with_reducible refine hold_copy ?_))
        refine (at_any A n c l f B w1 (hr.below (hB1.mono hB)) (by have := hB1.size; omega) hb (by omega) (by omega) HR.out).mono ?_
        rintro e w2 ⟨i, rfl, ha, hB2⟩
        have hB12 := hB1.trans (hB2.mono hB1.size)
        have hin : i ≤ n := by have := ha.1; omega
        try rw [HM.out] at ha
        have HA := Lib.hid (spAdd_at f t l i ha)
        clear ha
        have hcap := hr.cap
        go_wp2_with (first | (with_reducible refine hold_append ?_) | (with_reducible refine hold_make ?_) | (with_reducible refine hold_copy ?_) | (with_reducible refine hold_slice ?_))
        refine unhold (wp_cut slS rfl rfl rfl (hr.below (hB12.mono hB)) 0 i i (.inl ⟨rfl, rfl⟩) (.inr ⟨_, _, rfl, rfl⟩) (.inr ⟨_, _, rfl, rfl⟩) (fun _ => rfl) (by omega) (by omega) (by omega) (by omega) ?_)
        intro A1 hr1
        rw [spCells_take, Nat.zero_mul, List.drop_zero] at hr1
        simp only [Nat.sub_zero] at hr1
        go_wp2_with (first | (with_reducible refine hold_append ?_) | (with_reducible refine hold_make ?_) | (with_reducible refine hold_copy ?_))
        refine (sclone_any A1 i i (l.take i) w2 (hr1.more (by have := hB12.size; omega)) (by omega)).mono ?_
        rintro e w3 ⟨A2, c2, rfl, ho3, hB3⟩
        have hB13 := hB12.trans (hB3.mono hB12.size)
        have ho3' : OwnS w3 w.heap.size A2 i c2 (l.take i) := Own.base_le ho3 hB12.size
        have ho4 : OwnS (w3.alloc (.cells #[.int .u32 (f : Int), .int .u32 (t : Int)] 33)) w.heap.size A2 i c2 (l.take i) := ho3'.alloc _
        have hblt : ∀ g, blk A2 = some g → g < w3.heap.size := fun g hg => (ho3'.blk_lt hg).2
        go_wp2_with (first | (with_reducible refine hold_append ?_) | (with_reducible refine hold_make ?_) | (with_reducible refine hold_copy ?_))
        go_loopw [9] (fun s wr => ∃ (j sf st : Nat), s = .int .i64 j ∧ i ≤ j ∧ j ≤ n ∧ sf < 4294967296 ∧ st < 4294967296 ∧ wr.cell? ⟨w3.heap.size, 0, none⟩ = some (.int .u32 (sf : Int)) ∧ wr.cell? ⟨w3.heap.size, 1, none⟩ = some (.int .u32 (st : Int)) ∧ wr.frozen? ⟨w3.heap.size, 0, none⟩ = false ∧ wr.frozen? ⟨w3.heap.size, 1, none⟩ = false ∧
          spTake (f, t) t (l.drop i) = spTake (sf, st) t (l.drop j) ∧ OwnS wr w.heap.size A2 i c2 (l.take i) ∧ w3.heap.size ≤ wr.heap.size ∧ Below w.heap.size w wr) (fun s _ => n - (intOf s).toNat)
        case atStart =>
          exact ⟨i, f, t, rfl, by omega, hin, hf, ht, by rw [World.cell?_alloc_new]; rfl, by rw [World.cell?_alloc_new]; rfl, World.frozen?_alloc_new _ _ _ _, World.frozen?_alloc_new _ _ _ _, rfl, ho4, by simp, hB13.alloc hB13.size _⟩
        case round =>
          obtain ⟨j, sf, st, rfl, hij, hjn, hsf, hst, hs0, hs1, hz0, hz1, htk, hor, hszr, hBr⟩ := hrel
          have HT := Lib.hid htk
          clear htk
          by_cases hlt : j < n
          · have hdlt : (j : Int) < (n : Int) := by omega
            obtain ⟨b, off, rfl, hbB, hkl, hc0, hc1⟩ := RdS.at_k (hr.below (hBr.mono hB)) hlt
            have hbk := hb l[j] (List.getElem_mem hkl)
            have HD := Lib.hid (List.drop_eq_getElem_cons hkl)
            obtain ⟨lf, lt, he⟩ : ∃ lf lt, l[j] = (lf, lt) := ⟨_, _, rfl⟩
            rw [he] at hc0 hc1 hbk HD
            clear he
            simp only at hc0 hc1 hbk
            by_cases h1 : lf ≤ t + 1
            · have HS : Hid (spTake (sf, st) t (l.drop j) = spTake (min sf lf, max st lt) t (l.drop (j + 1))) := Lib.hid (by rw [HD.out, spTake, if_pos h1])
              by_cases h2 : lf ≤ t
              · have hd2 : (lf : Int) ≤ (t : Int) := by omega
                go_wp2_with (first | (with_reducible refine hold_append ?_) | (with_reducible refine hold_make ?_) | (with_reducible refine hold_copy ?_))
                have hw3 := hB13.size
                have hbne : some b = some w3.heap.size → False := fun e => by
                  injection e with e
                  omega
                have hmn : (if lf < sf then (lf : Int) else (sf : Int)) = ((min sf lf : Nat) : Int) := by split <;> omega
                have hmx : (if st < lt then (lt : Int) else (st : Int)) = ((max st lt : Nat) : Int) := by split <;> omega
                obtain ⟨q0, q1, qf, hg4⟩ := set2 wr.drew w3.heap.size _ _ (.int .u32 ((min sf lf : Nat) : Int)) (.int .u32 ((max st lt : Nat) : Int)) hs0 hs1
                have hor4 : OwnS ((wr.drew.setCell ⟨w3.heap.size, 0, none⟩ (.int .u32 ((min sf lf : Nat) : Int))).setCell ⟨w3.heap.size, 1, none⟩ (.int .u32 ((max st lt : Nat) : Int))) w.heap.size A2 i c2 (l.take i) := World.ownsRow.kept (w := wr.drew) hor hg4 (.inr (by
                  rw [ownBlock_eq]
                  intro e
                  have := hblt _ e
                  omega))
                have hB4 : Below w.heap.size w ((wr.drew.setCell ⟨w3.heap.size, 0, none⟩ (.int .u32 ((min sf lf : Nat) : Int))).setCell ⟨w3.heap.size, 1, none⟩ (.int .u32 ((max st lt : Nat) : Int))) := ((below_drewN hBr 1).setCell (p := ⟨w3.heap.size, 0, none⟩) (show w.heap.size ≤ w3.heap.size by omega) _).setCell (p := ⟨w3.heap.size, 1, none⟩) (show w.heap.size ≤ w3.heap.size by omega) _
                have hS : wr.drew.cell? ⟨b, off + j * 2, none⟩ = some (.int .u32 (lf : Int)) ∧ wr.drew.cell? ⟨b, off + j * 2 + 1, none⟩ = some (.int .u32 (lt : Int)) := ⟨hc0, hc1⟩
                refine rg_start (fun wx => wx.cell? ⟨b, off + j * 2, none⟩ = some (.int .u32 (lf : Int)) ∧ wx.cell? ⟨b, off + j * 2 + 1, none⟩ = some (.int .u32 (lt : Int))) (by kernel_rfl) ?_
                refine rg_take 0 (v := ?_) rfl (by kernel_rfl) (by kernel_rfl) (by kernel_rfl) hS rfl ?_ ?_
                rotate_left
                · intro wS hSw; go_simp; (with_reducible rfl)
                simp only [List.getElem_toArray, List.getElem_cons_zero, Act.put, List.setIfInBounds_toArray, List.set_cons_zero, List.set_cons_succ]
                refine rg_take 2 (v := ?_) rfl (by kernel_rfl) (by kernel_rfl) (by kernel_rfl) hS rfl ?_ ?_
                rotate_left
                · intro wS hSw; go_simp; (with_reducible rfl)
                simp only [List.getElem_toArray, List.getElem_cons_succ, List.getElem_cons_zero, Act.put, List.setIfInBounds_toArray, List.set_cons_zero, List.set_cons_succ]
                refine rg_take 3 (v := ?_) rfl (by kernel_rfl) (by kernel_rfl) (by kernel_rfl) hS rfl ?_ ?_
                rotate_left
                · intro wS hSw; go_simp; (with_reducible rfl)
                simp only [List.getElem_toArray, List.getElem_cons_succ, List.getElem_cons_zero, Act.put, List.setIfInBounds_toArray, List.set_cons_zero, List.set_cons_succ]
                refine rg_take 4 (v := ?_) rfl (by kernel_rfl) (by kernel_rfl) (by kernel_rfl) hS rfl ?_ ?_
                rotate_left
                · intro wS hSw; go_simp; (with_reducible rfl)
                simp only [List.getElem_toArray, List.getElem_cons_succ, List.getElem_cons_zero, Act.put, List.setIfInBounds_toArray, List.set_cons_zero, List.set_cons_succ]
                refine rg_take 5 (v := ?_) rfl (by kernel_rfl) (by kernel_rfl) (by kernel_rfl) hS rfl ?_ ?_
                rotate_left
                · intro wS hSw; go_simp; (with_reducible rfl)
                simp only [List.getElem_toArray, List.getElem_cons_succ, List.getElem_cons_zero, Act.put, List.setIfInBounds_toArray, List.set_cons_zero, List.set_cons_succ]
                refine rg_take 6 (v := ?_) rfl (by kernel_rfl) (by kernel_rfl) (by kernel_rfl) hS rfl ?_ ?_
                rotate_left
                · intro wS hSw; go_simp; (with_reducible rfl)
                simp only [List.getElem_toArray, List.getElem_cons_succ, List.getElem_cons_zero, Act.put, List.setIfInBounds_toArray, List.set_cons_zero, List.set_cons_succ]
                refine rg_take 8 (v := ?_) rfl (by kernel_rfl) (by kernel_rfl) (by kernel_rfl) hS rfl ?_ ?_
                rotate_left
                · intro wS hSw; go_simp; (with_reducible rfl)
                simp only [List.getElem_toArray, List.getElem_cons_succ, List.getElem_cons_zero, Act.put, List.setIfInBounds_toArray, List.set_cons_zero, List.set_cons_succ]
                refine rg_take 10 (v := ?_) rfl (by kernel_rfl) (by kernel_rfl) (by kernel_rfl) hS rfl ?_ ?_
                rotate_left
                · intro wS hSw; go_simp; (with_reducible rfl)
                simp only [List.getElem_toArray, List.getElem_cons_succ, List.getElem_cons_zero, Act.put, List.setIfInBounds_toArray, List.set_cons_zero, List.set_cons_succ]
                refine rg_take 11 (v := ?_) rfl (by kernel_rfl) (by kernel_rfl) (by kernel_rfl) hS rfl ?_ ?_
                rotate_left
                · intro wS hSw; go_simp; (with_reducible rfl)
                simp only [List.getElem_toArray, List.getElem_cons_succ, List.getElem_cons_zero, Act.put, List.setIfInBounds_toArray, List.set_cons_zero, List.set_cons_succ]
                refine rg_take 12 (v := ?_) rfl (by kernel_rfl) (by kernel_rfl) (by kernel_rfl) hS rfl ?_ ?_
                rotate_left
                · intro wS hSw; go_simp; (with_reducible rfl)
                simp only [List.getElem_toArray, List.getElem_cons_succ, List.getElem_cons_zero, Act.put, List.setIfInBounds_toArray, List.set_cons_zero, List.set_cons_succ]
                refine rg_take 13 (v := ?_) rfl (by kernel_rfl) (by kernel_rfl) (by kernel_rfl) hS rfl ?_ ?_
                rotate_left
                · intro wS hSw; go_simp; (with_reducible rfl)
                simp only [List.getElem_toArray, List.getElem_cons_succ, List.getElem_cons_zero, Act.put, List.setIfInBounds_toArray, List.set_cons_zero, List.set_cons_succ]
                refine rg_take 14 (v := ?_) rfl (by kernel_rfl) (by kernel_rfl) (by kernel_rfl) hS rfl ?_ ?_
                rotate_left
                · intro wS hSw; go_simp; (with_reducible rfl)
                simp only [List.getElem_toArray, List.getElem_cons_succ, List.getElem_cons_zero, Act.put, List.setIfInBounds_toArray, List.set_cons_zero, List.set_cons_succ]
                refine rg_two 1 9 rfl rfl (by kernel_rfl) rfl rfl (fun K hK => ?_) (fun K hK => ?_)
                · go_simp
                  refine hK _ _ hS ?_; clear hK K
                  refine rg_take 7 (v := ?_) rfl (by kernel_rfl) (by kernel_rfl) (by kernel_rfl) hS rfl ?_ ?_
                  rotate_left
                  · intro wS hSw; go_simp; (with_reducible rfl)
                  simp only [List.getElem_toArray, List.getElem_cons_succ, List.getElem_cons_zero, Act.put, List.setIfInBounds_toArray, List.set_cons_zero, List.set_cons_succ]
                  refine rg_one 9 rfl (by kernel_rfl) rfl (fun K hK => ?_)
                  go_simp
                  refine hK _ _ hS ?_; clear hK K
                  refine rg_take 15 (v := ?_) rfl (by kernel_rfl) (by kernel_rfl) (by kernel_rfl) hS rfl ?_ ?_
                  rotate_left
                  · intro wS hSw; go_simp; (with_reducible rfl)
                  simp only [List.getElem_toArray, List.getElem_cons_succ, List.getElem_cons_zero, Act.put, List.setIfInBounds_toArray, List.set_cons_zero, List.set_cons_succ]
                  refine rg_take 16 (v := ?_) rfl (by kernel_rfl) (by kernel_rfl) (by kernel_rfl) hS rfl ?_ ?_
                  rotate_left
                  · intro wS hSw; go_simp; (with_reducible rfl)
                  simp only [List.getElem_toArray, List.getElem_cons_succ, List.getElem_cons_zero, Act.put, List.setIfInBounds_toArray, List.set_cons_zero, List.set_cons_succ]
                  refine rg_one 17 rfl (by kernel_rfl) rfl (fun K hK => ?_)
                  go_simp
                  refine hK _ _ ⟨hg4.cell hc0 hbne, hg4.cell hc1 hbne⟩ ?_
                  clear hK K
                  refine rg_end (by kernel_rfl) ?_
                  go_wp2_with (first | (with_reducible refine hold_append ?_) | (with_reducible refine hold_make ?_) | (with_reducible refine hold_copy ?_))
                  exact ⟨⟨j + 1, min sf lf, max st lt, by go_num, by omega, by omega, by omega, by omega, q0, q1, (qf _).trans hz0, (qf _).trans hz1, by rw [HT.out, HS.out], hor4, by simpa using hszr, hB4⟩, by simp [intOf]; omega⟩
                · go_simp
                  refine hK _ _ hS ?_; clear hK K
                  refine rg_take 15 (v := ?_) rfl (by kernel_rfl) (by kernel_rfl) (by kernel_rfl) hS rfl ?_ ?_
                  rotate_left
                  · intro wS hSw; go_simp; (with_reducible rfl)
                  simp only [List.getElem_toArray, List.getElem_cons_succ, List.getElem_cons_zero, Act.put, List.setIfInBounds_toArray, List.set_cons_zero, List.set_cons_succ]
                  refine rg_one 1 rfl (by kernel_rfl) rfl (fun K hK => ?_)
                  go_simp
                  refine hK _ _ hS ?_; clear hK K
                  refine rg_take 7 (v := ?_) rfl (by kernel_rfl) (by kernel_rfl) (by kernel_rfl) hS rfl ?_ ?_
                  rotate_left
                  · intro wS hSw; go_simp; (with_reducible rfl)
                  simp only [List.getElem_toArray, List.getElem_cons_succ, List.getElem_cons_zero, Act.put, List.setIfInBounds_toArray, List.set_cons_zero, List.set_cons_succ]
                  refine rg_take 16 (v := ?_) rfl (by kernel_rfl) (by kernel_rfl) (by kernel_rfl) hS rfl ?_ ?_
                  rotate_left
                  · intro wS hSw; go_simp; (with_reducible rfl)
                  simp only [List.getElem_toArray, List.getElem_cons_succ, List.getElem_cons_zero, Act.put, List.setIfInBounds_toArray, List.set_cons_zero, List.set_cons_succ]
                  refine rg_one 17 rfl (by kernel_rfl) rfl (fun K hK => ?_)
                  go_simp
                  refine hK _ _ ⟨hg4.cell hc0 hbne, hg4.cell hc1 hbne⟩ ?_
                  clear hK K
                  refine rg_end (by kernel_rfl) ?_
                  go_wp2_with (first | (with_reducible refine hold_append ?_) | (with_reducible refine hold_make ?_) | (with_reducible refine hold_copy ?_))
                  exact ⟨⟨j + 1, min sf lf, max st lt, by go_num, by omega, by omega, by omega, by omega, q0, q1, (qf _).trans hz0, (qf _).trans hz1, by rw [HT.out, HS.out], hor4, by simpa using hszr, hB4⟩, by simp [intOf]; omega⟩
              · have hd2 : decide ((lf : Int) ≤ (t : Int)) = false := by simp; omega
                have hwl : IntKind.u32.wrap ((lf : Int) - 1) = (t : Int) := by rw [IntWalk.u32_in _ ⟨by omega, by omega⟩]; omega
                go_wp2_with (first | (with_reducible refine hold_append ?_) | (with_reducible refine hold_make ?_) | (with_reducible refine hold_copy ?_))
                have hw3 := hB13.size
                have hbne : some b = some w3.heap.size → False := fun e => by
                  injection e with e
                  omega
                have hmn : (if lf < sf then (lf : Int) else (sf : Int)) = ((min sf lf : Nat) : Int) := by split <;> omega
                have hmx : (if st < lt then (lt : Int) else (st : Int)) = ((max st lt : Nat) : Int) := by split <;> omega
                obtain ⟨q0, q1, qf, hg4⟩ := set2 wr.drew w3.heap.size _ _ (.int .u32 ((min sf lf : Nat) : Int)) (.int .u32 ((max st lt : Nat) : Int)) hs0 hs1
                have hor4 : OwnS ((wr.drew.setCell ⟨w3.heap.size, 0, none⟩ (.int .u32 ((min sf lf : Nat) : Int))).setCell ⟨w3.heap.size, 1, none⟩ (.int .u32 ((max st lt : Nat) : Int))) w.heap.size A2 i c2 (l.take i) := World.ownsRow.kept (w := wr.drew) hor hg4 (.inr (by
                  rw [ownBlock_eq]
                  intro e
                  have := hblt _ e
                  omega))
                have hB4 : Below w.heap.size w ((wr.drew.setCell ⟨w3.heap.size, 0, none⟩ (.int .u32 ((min sf lf : Nat) : Int))).setCell ⟨w3.heap.size, 1, none⟩ (.int .u32 ((max st lt : Nat) : Int))) := ((below_drewN hBr 1).setCell (p := ⟨w3.heap.size, 0, none⟩) (show w.heap.size ≤ w3.heap.size by omega) _).setCell (p := ⟨w3.heap.size, 1, none⟩) (show w.heap.size ≤ w3.heap.size by omega) _
                have hS : wr.drew.cell? ⟨b, off + j * 2, none⟩ = some (.int .u32 (lf : Int)) ∧ wr.drew.cell? ⟨b, off + j * 2 + 1, none⟩ = some (.int .u32 (lt : Int)) := ⟨hc0, hc1⟩
                refine rg_start (fun wx => wx.cell? ⟨b, off + j * 2, none⟩ = some (.int .u32 (lf : Int)) ∧ wx.cell? ⟨b, off + j * 2 + 1, none⟩ = some (.int .u32 (lt : Int))) (by kernel_rfl) ?_
                refine rg_take 0 (v := ?_) rfl (by kernel_rfl) (by kernel_rfl) (by kernel_rfl) hS rfl ?_ ?_
                rotate_left
                · intro wS hSw; go_simp; (with_reducible rfl)
                simp only [List.getElem_toArray, List.getElem_cons_zero, Act.put, List.setIfInBounds_toArray, List.set_cons_zero, List.set_cons_succ]
                refine rg_take 2 (v := ?_) rfl (by kernel_rfl) (by kernel_rfl) (by kernel_rfl) hS rfl ?_ ?_
                rotate_left
                · intro wS hSw; go_simp; (with_reducible rfl)
                simp only [List.getElem_toArray, List.getElem_cons_succ, List.getElem_cons_zero, Act.put, List.setIfInBounds_toArray, List.set_cons_zero, List.set_cons_succ]
                refine rg_take 3 (v := ?_) rfl (by kernel_rfl) (by kernel_rfl) (by kernel_rfl) hS rfl ?_ ?_
                rotate_left
                · intro wS hSw; go_simp; (with_reducible rfl)
                simp only [List.getElem_toArray, List.getElem_cons_succ, List.getElem_cons_zero, Act.put, List.setIfInBounds_toArray, List.set_cons_zero, List.set_cons_succ]
                refine rg_take 4 (v := ?_) rfl (by kernel_rfl) (by kernel_rfl) (by kernel_rfl) hS rfl ?_ ?_
                rotate_left
                · intro wS hSw; go_simp; (with_reducible rfl)
                simp only [List.getElem_toArray, List.getElem_cons_succ, List.getElem_cons_zero, Act.put, List.setIfInBounds_toArray, List.set_cons_zero, List.set_cons_succ]
                refine rg_take 5 (v := ?_) rfl (by kernel_rfl) (by kernel_rfl) (by kernel_rfl) hS rfl ?_ ?_
                rotate_left
                · intro wS hSw; go_simp; (with_reducible rfl)
                simp only [List.getElem_toArray, List.getElem_cons_succ, List.getElem_cons_zero, Act.put, List.setIfInBounds_toArray, List.set_cons_zero, List.set_cons_succ]
                refine rg_take 6 (v := ?_) rfl (by kernel_rfl) (by kernel_rfl) (by kernel_rfl) hS rfl ?_ ?_
                rotate_left
                · intro wS hSw; go_simp; (with_reducible rfl)
                simp only [List.getElem_toArray, List.getElem_cons_succ, List.getElem_cons_zero, Act.put, List.setIfInBounds_toArray, List.set_cons_zero, List.set_cons_succ]
                refine rg_take 8 (v := ?_) rfl (by kernel_rfl) (by kernel_rfl) (by kernel_rfl) hS rfl ?_ ?_
                rotate_left
                · intro wS hSw; go_simp; (with_reducible rfl)
                simp only [List.getElem_toArray, List.getElem_cons_succ, List.getElem_cons_zero, Act.put, List.setIfInBounds_toArray, List.set_cons_zero, List.set_cons_succ]
                refine rg_take 10 (v := ?_) rfl (by kernel_rfl) (by kernel_rfl) (by kernel_rfl) hS rfl ?_ ?_
                rotate_left
                · intro wS hSw; go_simp; (with_reducible rfl)
                simp only [List.getElem_toArray, List.getElem_cons_succ, List.getElem_cons_zero, Act.put, List.setIfInBounds_toArray, List.set_cons_zero, List.set_cons_succ]
                refine rg_take 11 (v := ?_) rfl (by kernel_rfl) (by kernel_rfl) (by kernel_rfl) hS rfl ?_ ?_
                rotate_left
                · intro wS hSw; go_simp; (with_reducible rfl)
                simp only [List.getElem_toArray, List.getElem_cons_succ, List.getElem_cons_zero, Act.put, List.setIfInBounds_toArray, List.set_cons_zero, List.set_cons_succ]
                refine rg_take 12 (v := ?_) rfl (by kernel_rfl) (by kernel_rfl) (by kernel_rfl) hS rfl ?_ ?_
                rotate_left
                · intro wS hSw; go_simp; (with_reducible rfl)
                simp only [List.getElem_toArray, List.getElem_cons_succ, List.getElem_cons_zero, Act.put, List.setIfInBounds_toArray, List.set_cons_zero, List.set_cons_succ]
                refine rg_take 13 (v := ?_) rfl (by kernel_rfl) (by kernel_rfl) (by kernel_rfl) hS rfl ?_ ?_
                rotate_left
                · intro wS hSw; go_simp; (with_reducible rfl)
                simp only [List.getElem_toArray, List.getElem_cons_succ, List.getElem_cons_zero, Act.put, List.setIfInBounds_toArray, List.set_cons_zero, List.set_cons_succ]
                refine rg_take 14 (v := ?_) rfl (by kernel_rfl) (by kernel_rfl) (by kernel_rfl) hS rfl ?_ ?_
                rotate_left
                · intro wS hSw; go_simp; (with_reducible rfl)
                simp only [List.getElem_toArray, List.getElem_cons_succ, List.getElem_cons_zero, Act.put, List.setIfInBounds_toArray, List.set_cons_zero, List.set_cons_succ]
                refine rg_two 1 9 rfl rfl (by kernel_rfl) rfl rfl (fun K hK => ?_) (fun K hK => ?_)
                · go_simp
                  refine hK _ _ hS ?_; clear hK K
                  refine rg_take 7 (v := ?_) rfl (by kernel_rfl) (by kernel_rfl) (by kernel_rfl) hS rfl ?_ ?_
                  rotate_left
                  · intro wS hSw; go_simp; (with_reducible rfl)
                  simp only [List.getElem_toArray, List.getElem_cons_succ, List.getElem_cons_zero, Act.put, List.setIfInBounds_toArray, List.set_cons_zero, List.set_cons_succ]
                  refine rg_one 9 rfl (by kernel_rfl) rfl (fun K hK => ?_)
                  go_simp
                  refine hK _ _ hS ?_; clear hK K
                  refine rg_take 15 (v := ?_) rfl (by kernel_rfl) (by kernel_rfl) (by kernel_rfl) hS rfl ?_ ?_
                  rotate_left
                  · intro wS hSw; go_simp; (with_reducible rfl)
                  simp only [List.getElem_toArray, List.getElem_cons_succ, List.getElem_cons_zero, Act.put, List.setIfInBounds_toArray, List.set_cons_zero, List.set_cons_succ]
                  refine rg_take 16 (v := ?_) rfl (by kernel_rfl) (by kernel_rfl) (by kernel_rfl) hS rfl ?_ ?_
                  rotate_left
                  · intro wS hSw; go_simp; (with_reducible rfl)
                  simp only [List.getElem_toArray, List.getElem_cons_succ, List.getElem_cons_zero, Act.put, List.setIfInBounds_toArray, List.set_cons_zero, List.set_cons_succ]
                  refine rg_one 17 rfl (by kernel_rfl) rfl (fun K hK => ?_)
                  go_simp
                  refine hK _ _ ⟨hg4.cell hc0 hbne, hg4.cell hc1 hbne⟩ ?_
                  clear hK K
                  refine rg_end (by kernel_rfl) ?_
                  go_wp2_with (first | (with_reducible refine hold_append ?_) | (with_reducible refine hold_make ?_) | (with_reducible refine hold_copy ?_))
                  exact ⟨⟨j + 1, min sf lf, max st lt, by go_num, by omega, by omega, by omega, by omega, q0, q1, (qf _).trans hz0, (qf _).trans hz1, by rw [HT.out, HS.out], hor4, by simpa using hszr, hB4⟩, by simp [intOf]; omega⟩
                · go_simp
                  refine hK _ _ hS ?_; clear hK K
                  refine rg_take 15 (v := ?_) rfl (by kernel_rfl) (by kernel_rfl) (by kernel_rfl) hS rfl ?_ ?_
                  rotate_left
                  · intro wS hSw; go_simp; (with_reducible rfl)
                  simp only [List.getElem_toArray, List.getElem_cons_succ, List.getElem_cons_zero, Act.put, List.setIfInBounds_toArray, List.set_cons_zero, List.set_cons_succ]
                  refine rg_one 1 rfl (by kernel_rfl) rfl (fun K hK => ?_)
                  go_simp
                  refine hK _ _ hS ?_; clear hK K
                  refine rg_take 7 (v := ?_) rfl (by kernel_rfl) (by kernel_rfl) (by kernel_rfl) hS rfl ?_ ?_
                  rotate_left
                  · intro wS hSw; go_simp; (with_reducible rfl)
                  simp only [List.getElem_toArray, List.getElem_cons_succ, List.getElem_cons_zero, Act.put, List.setIfInBounds_toArray, List.set_cons_zero, List.set_cons_succ]
                  refine rg_take 16 (v := ?_) rfl (by kernel_rfl) (by kernel_rfl) (by kernel_rfl) hS rfl ?_ ?_
                  rotate_left
                  · intro wS hSw; go_simp; (with_reducible rfl)
                  simp only [List.getElem_toArray, List.getElem_cons_succ, List.getElem_cons_zero, Act.put, List.setIfInBounds_toArray, List.set_cons_zero, List.set_cons_succ]
                  refine rg_one 17 rfl (by kernel_rfl) rfl (fun K hK => ?_)
                  go_simp
                  refine hK _ _ ⟨hg4.cell hc0 hbne, hg4.cell hc1 hbne⟩ ?_
                  clear hK K
                  refine rg_end (by kernel_rfl) ?_
                  go_wp2_with (first | (with_reducible refine hold_append ?_) | (with_reducible refine hold_make ?_) | (with_reducible refine hold_copy ?_))
                  exact ⟨⟨j + 1, min sf lf, max st lt, by go_num, by omega, by omega, by omega, by omega, q0, q1, (qf _).trans hz0, (qf _).trans hz1, by rw [HT.out, HS.out], hor4, by simpa using hszr, hB4⟩, by simp [intOf]; omega⟩
            · have HS : Hid (spTake (sf, st) t (l.drop j) = ((sf, st), l.drop j)) := Lib.hid (by rw [HD.out, spTake, if_neg h1])
              have hd2 : decide ((lf : Int) ≤ (t : Int)) = false := by simp; omega
              have hwl : IntKind.u32.wrap ((lf : Int) - 1) = ((lf - 1 : Nat) : Int) := by rw [IntWalk.u32_in _ ⟨by omega, by omega⟩]; omega
              have hd3 : (((lf - 1 : Nat) : Int) == (t : Int)) = false := by simp; omega
              go_wp2_with (first | (with_reducible refine hold_append ?_) | (with_reducible refine hold_make ?_) | (with_reducible refine hold_copy ?_))
              have hw3 := hB13.size
              have hjc : j ≤ c := by omega
              have hSs : wr.drew.cell? ⟨w3.heap.size, 0, none⟩ = some (.int .u32 (sf : Int)) ∧ wr.drew.cell? ⟨w3.heap.size, 1, none⟩ = some (.int .u32 (st : Int)) := ⟨hs0, hs1⟩
              refine rg_start (fun wx => wx.cell? ⟨w3.heap.size, 0, none⟩ = some (.int .u32 (sf : Int)) ∧ wx.cell? ⟨w3.heap.size, 1, none⟩ = some (.int .u32 (st : Int))) (by kernel_rfl) ?_
              refine rg_take 0 (v := ?_) rfl (by kernel_rfl) (by kernel_rfl) (by kernel_rfl) hSs rfl ?_ ?_
              rotate_left
              · intro wS hSw; go_simp; (with_reducible rfl)
              simp only [List.getElem_toArray, List.getElem_cons_zero, Act.put, List.setIfInBounds_toArray, List.set_cons_zero, List.set_cons_succ]
              refine rg_take 1 (v := ?_) rfl (by kernel_rfl) (by kernel_rfl) (by kernel_rfl) hSs rfl ?_ ?_
              rotate_left
              · intro wS hSw; go_simp; (with_reducible rfl)
              simp only [List.getElem_toArray, List.getElem_cons_succ, List.getElem_cons_zero, Act.put, List.setIfInBounds_toArray, List.set_cons_zero, List.set_cons_succ]
              refine rg_take 4 (v := ?_) rfl (by kernel_rfl) (by kernel_rfl) (by kernel_rfl) hSs rfl ?_ ?_
              rotate_left
              · intro wS hSw; go_simp; (with_reducible rfl)
              simp only [List.getElem_toArray, List.getElem_cons_succ, List.getElem_cons_zero, Act.put, List.setIfInBounds_toArray, List.set_cons_zero, List.set_cons_succ]
              refine rg_take 5 (v := ?_) rfl (by kernel_rfl) (by kernel_rfl) (by kernel_rfl) hSs rfl ?_ ?_
              rotate_left
              · intro wS hSw; go_simp; (with_reducible rfl)
              simp only [List.getElem_toArray, List.getElem_cons_succ, List.getElem_cons_zero, Act.put, List.setIfInBounds_toArray, List.set_cons_zero, List.set_cons_succ]
              have hcutb : Bd (some (Value.int .i64 (j : Int))) 0 j := .inr ⟨_, _, rfl, rfl⟩
              refine rg_slice 6 slS rfl (by kernel_rfl) (by kernel_rfl) (by kernel_rfl) hSs rfl rfl rfl hr.max hr.cap j n c hcutb (.inl ⟨rfl, rfl⟩) (.inl ⟨rfl, rfl⟩) (fun h => by cases h) hjn hcap (Nat.le_refl _) (Nat.le_refl _) ?_
              simp only [List.getElem_toArray, List.getElem_cons_succ, List.getElem_cons_zero, Act.put, List.setIfInBounds_toArray, List.set_cons_zero, List.set_cons_succ]
              refine rg_one 2 rfl (by kernel_rfl) rfl (fun K hK => ?_)
              go_simp
              have hlt3 : w3.heap.size < wr.heap.size := World.block_lt_of_cell? wr _ hs0
              refine hK _ _ ⟨(World.cell?_alloc_past (w := wr.drew) _ _ _ hlt3).trans hs0, (World.cell?_alloc_past (w := wr.drew) _ _ _ hlt3).trans hs1⟩ ?_
              clear hK K
              refine rg_one 3 rfl (by kernel_rfl) rfl (fun K hK => ?_)
              refine op_push (ops := #[]) (W := wr.drew) slS Try.underlying22 rfl rfl rfl rfl sf st rfl rfl hor (by omega) hBr.size ?_
              intro A4 c4 w4 ho4 hg4 hb4 hB4
              have hB4' := (below_drewN hBr 1).trans hB4
              have hne2 : some w3.heap.size = blk A2 → False := fun e => by have := hblt _ e.symm; omega
              have hne4 : some w3.heap.size = blk A4 → False := fun e => by
                rcases hb4 with h | h
                · exact hne2 (e.trans h)
                · have := h _ e.symm
                  have hx : wr.drew.heap.size = wr.heap.size := rfl
                  omega
              simp only [List.getElem_toArray, List.getElem_cons_succ, List.getElem_cons_zero, Act.put, List.setIfInBounds_toArray, List.set_cons_zero, List.set_cons_succ]
              refine hK _ _ ⟨hg4.cell hs0 hne2, hg4.cell hs1 hne2⟩ ?_
              clear hK K
              have hrc := RdS.cut (lo := j) (k := n - j) (hr.below (hB4'.mono hB)) (by omega)
              rw [List.take_of_length_le (show (l.drop j).length ≤ n - j by simp; omega)] at hrc
              refine rg_one 7 rfl (by kernel_rfl) rfl (fun K hK => ?_)
              refine op_app (ops := #[]) slS Try.underlying22 rfl rfl rfl ho4 hrc (spCells_one _) (by omega) (by simp [maxLen]; omega) hB4'.size ?_
              intro A5 c5 w5 ho5 hg5 _
              have hB5 : Below w.heap.size w w5 := hB4'.trans (below_grown ho4 hg5 hB4'.size)
              rw [← spCells_app] at ho5
              simp only [List.getElem_toArray, List.getElem_cons_succ, List.getElem_cons_zero, Act.put, List.setIfInBounds_toArray, List.set_cons_zero, List.set_cons_succ]
              refine hK _ _ ⟨hg5.cell (hg4.cell hs0 hne2) hne4, hg5.cell (hg4.cell hs1 hne2) hne4⟩ ?_
              clear hK K
              have hS5 : w5.cell? ⟨w3.heap.size, 0, none⟩ = some (.int .u32 (sf : Int)) ∧ w5.cell? ⟨w3.heap.size, 1, none⟩ = some (.int .u32 (st : Int)) := ⟨hg5.cell (hg4.cell hs0 hne2) hne4, hg5.cell (hg4.cell hs1 hne2) hne4⟩
              refine rg_take 8 (v := ?_) rfl (by kernel_rfl) (by kernel_rfl) (by kernel_rfl) hS5 rfl ?_ ?_
              rotate_left
              · intro wS hSw; go_simp; (with_reducible rfl)
              simp only [List.getElem_toArray, List.getElem_cons_succ, List.getElem_cons_zero, Act.put, List.setIfInBounds_toArray, List.set_cons_zero, List.set_cons_succ]
              refine rg_take 9 (v := ?_) rfl (by kernel_rfl) (by kernel_rfl) (by kernel_rfl) hS5 rfl ?_ ?_
              rotate_left
              · intro wS hSw; go_simp; (with_reducible rfl)
              simp only [List.getElem_toArray, List.getElem_cons_succ, List.getElem_cons_zero, Act.put, List.setIfInBounds_toArray, List.set_cons_zero, List.set_cons_succ]
              refine rg_end (by kernel_rfl) ?_
              have hfin : spAdd f t l = l.take i ++ [(sf, st)] ++ l.drop j := by rw [HA.out, HT.out, HS.out]; simp
              have hlen : (spAdd f t l).length = i + 1 + (n - j) := by rw [hfin]; simp; omega
              have HF := Lib.hid hfin
              have HL := Lib.hid hlen
              clear hfin hlen
              go_wp2_with (first | (with_reducible refine hold_append ?_) | (with_reducible refine hold_make ?_) | (with_reducible refine hold_copy ?_))
              go_ret2
              rw [HL.out, HF.out]
              exact ⟨A5, c5, rfl, ho5, hB5⟩
          · have hdlt : decide ((j : Int) < (n : Int)) = false := by simp; omega
            have HS : Hid (spTake (sf, st) t (l.drop j) = ((sf, st), l.drop j)) := Lib.hid (by rw [List.drop_of_length_le (by omega)]; rfl)
            go_wp2_with (first | (with_reducible refine hold_append ?_) | (with_reducible refine hold_make ?_) | (with_reducible refine hold_copy ?_))
            have hw3 := hB13.size
            have hjc : j ≤ c := by omega
            have hSs : wr.drew.cell? ⟨w3.heap.size, 0, none⟩ = some (.int .u32 (sf : Int)) ∧ wr.drew.cell? ⟨w3.heap.size, 1, none⟩ = some (.int .u32 (st : Int)) := ⟨hs0, hs1⟩
            refine rg_start (fun wx => wx.cell? ⟨w3.heap.size, 0, none⟩ = some (.int .u32 (sf : Int)) ∧ wx.cell? ⟨w3.heap.size, 1, none⟩ = some (.int .u32 (st : Int))) (by kernel_rfl) ?_
            refine rg_take 0 (v := ?_) rfl (by kernel_rfl) (by kernel_rfl) (by kernel_rfl) hSs rfl ?_ ?_
            rotate_left
            · intro wS hSw; go_simp; (with_reducible rfl)
            simp only [List.getElem_toArray, List.getElem_cons_zero, Act.put, List.setIfInBounds_toArray, List.set_cons_zero, List.set_cons_succ]
            refine rg_take 1 (v := ?_) rfl (by kernel_rfl) (by kernel_rfl) (by kernel_rfl) hSs rfl ?_ ?_
            rotate_left
            · intro wS hSw; go_simp; (with_reducible rfl)
            simp only [List.getElem_toArray, List.getElem_cons_succ, List.getElem_cons_zero, Act.put, List.setIfInBounds_toArray, List.set_cons_zero, List.set_cons_succ]
            refine rg_take 4 (v := ?_) rfl (by kernel_rfl) (by kernel_rfl) (by kernel_rfl) hSs rfl ?_ ?_
            rotate_left
            · intro wS hSw; go_simp; (with_reducible rfl)
            simp only [List.getElem_toArray, List.getElem_cons_succ, List.getElem_cons_zero, Act.put, List.setIfInBounds_toArray, List.set_cons_zero, List.set_cons_succ]
            refine rg_take 5 (v := ?_) rfl (by kernel_rfl) (by kernel_rfl) (by kernel_rfl) hSs rfl ?_ ?_
            rotate_left
            · intro wS hSw; go_simp; (with_reducible rfl)
            simp only [List.getElem_toArray, List.getElem_cons_succ, List.getElem_cons_zero, Act.put, List.setIfInBounds_toArray, List.set_cons_zero, List.set_cons_succ]
            have hcutb : Bd (some (Value.int .i64 (j : Int))) 0 j := .inr ⟨_, _, rfl, rfl⟩
            refine rg_slice 6 slS rfl (by kernel_rfl) (by kernel_rfl) (by kernel_rfl) hSs rfl rfl rfl hr.max hr.cap j n c hcutb (.inl ⟨rfl, rfl⟩) (.inl ⟨rfl, rfl⟩) (fun h => by cases h) hjn hcap (Nat.le_refl _) (Nat.le_refl _) ?_
            simp only [List.getElem_toArray, List.getElem_cons_succ, List.getElem_cons_zero, Act.put, List.setIfInBounds_toArray, List.set_cons_zero, List.set_cons_succ]
            refine rg_one 2 rfl (by kernel_rfl) rfl (fun K hK => ?_)
            go_simp
            have hlt3 : w3.heap.size < wr.heap.size := World.block_lt_of_cell? wr _ hs0
            refine hK _ _ ⟨(World.cell?_alloc_past (w := wr.drew) _ _ _ hlt3).trans hs0, (World.cell?_alloc_past (w := wr.drew) _ _ _ hlt3).trans hs1⟩ ?_
            clear hK K
            refine rg_one 3 rfl (by kernel_rfl) rfl (fun K hK => ?_)
            refine op_push (ops := #[]) (W := wr.drew) slS Try.underlying22 rfl rfl rfl rfl sf st rfl rfl hor (by omega) hBr.size ?_
            intro A4 c4 w4 ho4 hg4 hb4 hB4
            have hB4' := (below_drewN hBr 1).trans hB4
            have hne2 : some w3.heap.size = blk A2 → False := fun e => by have := hblt _ e.symm; omega
            have hne4 : some w3.heap.size = blk A4 → False := fun e => by
              rcases hb4 with h | h
              · exact hne2 (e.trans h)
              · have := h _ e.symm
                have hx : wr.drew.heap.size = wr.heap.size := rfl
                omega
            simp only [List.getElem_toArray, List.getElem_cons_succ, List.getElem_cons_zero, Act.put, List.setIfInBounds_toArray, List.set_cons_zero, List.set_cons_succ]
            refine hK _ _ ⟨hg4.cell hs0 hne2, hg4.cell hs1 hne2⟩ ?_
            clear hK K
            have hrc := RdS.cut (lo := j) (k := n - j) (hr.below (hB4'.mono hB)) (by omega)
            rw [List.take_of_length_le (show (l.drop j).length ≤ n - j by simp; omega)] at hrc
            refine rg_one 7 rfl (by kernel_rfl) rfl (fun K hK => ?_)
            refine op_app (ops := #[]) slS Try.underlying22 rfl rfl rfl ho4 hrc (spCells_one _) (by omega) (by simp [maxLen]; omega) hB4'.size ?_
            intro A5 c5 w5 ho5 hg5 _
            have hB5 : Below w.heap.size w w5 := hB4'.trans (below_grown ho4 hg5 hB4'.size)
            rw [← spCells_app] at ho5
            simp only [List.getElem_toArray, List.getElem_cons_succ, List.getElem_cons_zero, Act.put, List.setIfInBounds_toArray, List.set_cons_zero, List.set_cons_succ]
            refine hK _ _ ⟨hg5.cell (hg4.cell hs0 hne2) hne4, hg5.cell (hg4.cell hs1 hne2) hne4⟩ ?_
            clear hK K
            have hS5 : w5.cell? ⟨w3.heap.size, 0, none⟩ = some (.int .u32 (sf : Int)) ∧ w5.cell? ⟨w3.heap.size, 1, none⟩ = some (.int .u32 (st : Int)) := ⟨hg5.cell (hg4.cell hs0 hne2) hne4, hg5.cell (hg4.cell hs1 hne2) hne4⟩
            refine rg_take 8 (v := ?_) rfl (by kernel_rfl) (by kernel_rfl) (by kernel_rfl) hS5 rfl ?_ ?_
            rotate_left
            · intro wS hSw; go_simp; (with_reducible rfl)
            simp only [List.getElem_toArray, List.getElem_cons_succ, List.getElem_cons_zero, Act.put, List.setIfInBounds_toArray, List.set_cons_zero, List.set_cons_succ]
            refine rg_take 9 (v := ?_) rfl (by kernel_rfl) (by kernel_rfl) (by kernel_rfl) hS5 rfl ?_ ?_
            rotate_left
            · intro wS hSw; go_simp; (with_reducible rfl)
            simp only [List.getElem_toArray, List.getElem_cons_succ, List.getElem_cons_zero, Act.put, List.setIfInBounds_toArray, List.set_cons_zero, List.set_cons_succ]
            refine rg_end (by kernel_rfl) ?_
            have hfin : spAdd f t l = l.take i ++ [(sf, st)] ++ l.drop j := by rw [HA.out, HT.out, HS.out]; simp
            have hlen : (spAdd f t l).length = i + 1 + (n - j) := by rw [hfin]; simp; omega
            have HF := Lib.hid hfin
            have HL := Lib.hid hlen
            clear hfin hlen
            go_wp2_with (first | (with_reducible refine hold_append ?_) | (with_reducible refine hold_make ?_) | (with_reducible refine hold_copy ?_))
            go_ret2
            rw [HL.out, HF.out]
            exact ⟨A5, c5, rfl, ho5, hB5⟩
      · have hd0 : (0 : Int) < (f : Int) := by omega
        have hw0 : IntKind.u32.wrap ((f : Int) - 1) = ((f - 1 : Nat) : Int) := by rw [IntWalk.u32_in _ ⟨by omega, by omega⟩]; omega
        have HM : Hid ((f - 1) = f - 1) := Lib.hid rfl
        go_enter Try.func12, Try.ntmps12
        go_wp2_with (first | (with_reducible refine hold_append ?_) | (with_reducible refine hold_make ?_) | (with_reducible refine hold_copy ?_))
        refine hra.mono ?_
        rintro e w1 ⟨rfl, hB1⟩
        go_wp2_with (first | (with_reducible refine hold_append ?_) | (with_reducible refine hold_make ?_) | (with_reducible refine hold_copy ?_))
        refine (at_any A n c l (f - 1) B w1 (hr.below (hB1.mono hB)) (by have := hB1.size; omega) hb (by omega) (by omega) HR.out).mono ?_
        rintro e w2 ⟨i, rfl, ha, hB2⟩
        have hB12 := hB1.trans (hB2.mono hB1.size)
        have hin : i ≤ n := by have := ha.1; omega
        try rw [HM.out] at ha
        have HA := Lib.hid (spAdd_at f t l i ha)
        clear ha
        have hcap := hr.cap
        go_wp2_with (first | (with_reducible refine hold_append ?_) | (with_reducible refine hold_make ?_) | (with_reducible refine hold_copy ?_) | (with_reducible refine hold_slice ?_))
        refine unhold (wp_cut slS rfl rfl rfl (hr.below (hB12.mono hB)) 0 i i (.inl ⟨rfl, rfl⟩) (.inr ⟨_, _, rfl, rfl⟩) (.inr ⟨_, _, rfl, rfl⟩) (fun _ => rfl) (by omega) (by omega) (by omega) (by omega) ?_)
        intro A1 hr1
        rw [spCells_take, Nat.zero_mul, List.drop_zero] at hr1
        simp only [Nat.sub_zero] at hr1
        go_wp2_with (first | (with_reducible refine hold_append ?_) | (with_reducible refine hold_make ?_) | (with_reducible refine hold_copy ?_))
        refine (sclone_any A1 i i (l.take i) w2 (hr1.more (by have := hB12.size; omega)) (by omega)).mono ?_
        rintro e w3 ⟨A2, c2, rfl, ho3, hB3⟩
        have hB13 := hB12.trans (hB3.mono hB12.size)
        have ho3' : OwnS w3 w.heap.size A2 i c2 (l.take i) := Own.base_le ho3 hB12.size
        have ho4 : OwnS (w3.alloc (.cells #[.int .u32 (f : Int), .int .u32 (t : Int)] 33)) w.heap.size A2 i c2 (l.take i) := ho3'.alloc _
        have hblt : ∀ g, blk A2 = some g → g < w3.heap.size := fun g hg => (ho3'.blk_lt hg).2
        go_wp2_with (first | (with_reducible refine hold_append ?_) | (with_reducible refine hold_make ?_) | (with_reducible refine hold_copy ?_))
        go_loopw [9] (fun s wr => ∃ (j sf st : Nat), s = .int .i64 j ∧ i ≤ j ∧ j ≤ n ∧ sf < 4294967296 ∧ st < 4294967296 ∧ wr.cell? ⟨w3.heap.size, 0, none⟩ = some (.int .u32 (sf : Int)) ∧ wr.cell? ⟨w3.heap.size, 1, none⟩ = some (.int .u32 (st : Int)) ∧ wr.frozen? ⟨w3.heap.size, 0, none⟩ = false ∧ wr.frozen? ⟨w3.heap.size, 1, none⟩ = false ∧
          spTake (f, t) t (l.drop i) = spTake (sf, st) t (l.drop j) ∧ OwnS wr w.heap.size A2 i c2 (l.take i) ∧ w3.heap.size ≤ wr.heap.size ∧ Below w.heap.size w wr) (fun s _ => n - (intOf s).toNat)
        case atStart =>
          exact ⟨i, f, t, rfl, by omega, hin, hf, ht, by rw [World.cell?_alloc_new]; rfl, by rw [World.cell?_alloc_new]; rfl, World.frozen?_alloc_new _ _ _ _, World.frozen?_alloc_new _ _ _ _, rfl, ho4, by simp, hB13.alloc hB13.size _⟩
        case round =>
          obtain ⟨j, sf, st, rfl, hij, hjn, hsf, hst, hs0, hs1, hz0, hz1, htk, hor, hszr, hBr⟩ := hrel
          have HT := Lib.hid htk
          clear htk
          by_cases hlt : j < n
          · have hdlt : (j : Int) < (n : Int) := by omega
            obtain ⟨b, off, rfl, hbB, hkl, hc0, hc1⟩ := RdS.at_k (hr.below (hBr.mono hB)) hlt
            have hbk := hb l[j] (List.getElem_mem hkl)
            have HD := Lib.hid (List.drop_eq_getElem_cons hkl)
            obtain ⟨lf, lt, he⟩ : ∃ lf lt, l[j] = (lf, lt) := ⟨_, _, rfl⟩
            rw [he] at hc0 hc1 hbk HD
            clear he
            simp only at hc0 hc1 hbk
            by_cases h1 : lf ≤ t + 1
            · have HS : Hid (spTake (sf, st) t (l.drop j) = spTake (min sf lf, max st lt) t (l.drop (j + 1))) := Lib.hid (by rw [HD.out, spTake, if_pos h1])
              by_cases h2 : lf ≤ t
              · have hd2 : (lf : Int) ≤ (t : Int) := by omega
                go_wp2_with (first | (with_reducible refine hold_append ?_) | (with_reducible refine hold_make ?_) | (with_reducible refine hold_copy ?_))
                have hw3 := hB13.size
                have hbne : some b = some w3.heap.size → False := fun e => by
                  injection e with e
                  omega
                have hmn : (if lf < sf then (lf : Int) else (sf : Int)) = ((min sf lf : Nat) : Int) := by split <;> omega
                have hmx : (if st < lt then (lt : Int) else (st : Int)) = ((max st lt : Nat) : Int) := by split <;> omega
                obtain ⟨q0, q1, qf, hg4⟩ := set2 wr.drew w3.heap.size _ _ (.int .u32 ((min sf lf : Nat) : Int)) (.int .u32 ((max st lt : Nat) : Int)) hs0 hs1
                have hor4 : OwnS ((wr.drew.setCell ⟨w3.heap.size, 0, none⟩ (.int .u32 ((min sf lf : Nat) : Int))).setCell ⟨w3.heap.size, 1, none⟩ (.int .u32 ((max st lt : Nat) : Int))) w.heap.size A2 i c2 (l.take i) := World.ownsRow.kept (w := wr.drew) hor hg4 (.inr (by
                  rw [ownBlock_eq]
                  intro e
                  have := hblt _ e
                  omega))
                have hB4 : Below w.heap.size w ((wr.drew.setCell ⟨w3.heap.size, 0, none⟩ (.int .u32 ((min sf lf : Nat) : Int))).setCell ⟨w3.heap.size, 1, none⟩ (.int .u32 ((max st lt : Nat) : Int))) := ((below_drewN hBr 1).setCell (p := ⟨w3.heap.size, 0, none⟩) (show w.heap.size ≤ w3.heap.size by omega) _).setCell (p := ⟨w3.heap.size, 1, none⟩) (show w.heap.size ≤ w3.heap.size by omega) _
                have hS : wr.drew.cell? ⟨b, off + j * 2, none⟩ = some (.int .u32 (lf : Int)) ∧ wr.drew.cell? ⟨b, off + j * 2 + 1, none⟩ = some (.int .u32 (lt : Int)) := ⟨hc0, hc1⟩
                refine rg_start (fun wx => wx.cell? ⟨b, off + j * 2, none⟩ = some (.int .u32 (lf : Int)) ∧ wx.cell? ⟨b, off + j * 2 + 1, none⟩ = some (.int .u32 (lt : Int))) (by kernel_rfl) ?_
                refine rg_take 0 (v := ?_) rfl (by kernel_rfl) (by kernel_rfl) (by kernel_rfl) hS rfl ?_ ?_
                rotate_left
                · intro wS hSw; go_simp; (with_reducible rfl)
                simp only [List.getElem_toArray, List.getElem_cons_zero, Act.put, List.setIfInBounds_toArray, List.set_cons_zero, List.set_cons_succ]
                refine rg_take 2 (v := ?_) rfl (by kernel_rfl) (by kernel_rfl) (by kernel_rfl) hS rfl ?_ ?_
                rotate_left
                · intro wS hSw; go_simp; (with_reducible rfl)
                simp only [List.getElem_toArray, List.getElem_cons_succ, List.getElem_cons_zero, Act.put, List.setIfInBounds_toArray, List.set_cons_zero, List.set_cons_succ]
                refine rg_take 3 (v := ?_) rfl (by kernel_rfl) (by kernel_rfl) (by kernel_rfl) hS rfl ?_ ?_
                rotate_left
                · intro wS hSw; go_simp; (with_reducible rfl)
                simp only [List.getElem_toArray, List.getElem_cons_succ, List.getElem_cons_zero, Act.put, List.setIfInBounds_toArray, List.set_cons_zero, List.set_cons_succ]
                refine rg_take 4 (v := ?_) rfl (by kernel_rfl) (by kernel_rfl) (by kernel_rfl) hS rfl ?_ ?_
                rotate_left
                · intro wS hSw; go_simp; (with_reducible rfl)
                simp only [List.getElem_toArray, List.getElem_cons_succ, List.getElem_cons_zero, Act.put, List.setIfInBounds_toArray, List.set_cons_zero, List.set_cons_succ]
                refine rg_take 5 (v := ?_) rfl (by kernel_rfl) (by kernel_rfl) (by kernel_rfl) hS rfl ?_ ?_
                rotate_left
                · intro wS hSw; go_simp; (with_reducible rfl)
                simp only [List.getElem_toArray, List.getElem_cons_succ, List.getElem_cons_zero, Act.put, List.setIfInBounds_toArray, List.set_cons_zero, List.set_cons_succ]
                refine rg_take 6 (v := ?_) rfl (by kernel_rfl) (by kernel_rfl) (by kernel_rfl) hS rfl ?_ ?_
                rotate_left
                · intro wS hSw; go_simp; (with_reducible rfl)
                simp only [List.getElem_toArray, List.getElem_cons_succ, List.getElem_cons_zero, Act.put, List.setIfInBounds_toArray, List.set_cons_zero, List.set_cons_succ]
                refine rg_take 8 (v := ?_) rfl (by kernel_rfl) (by kernel_rfl) (by kernel_rfl) hS rfl ?_ ?_
                rotate_left
                · intro wS hSw; go_simp; (with_reducible rfl)
                simp only [List.getElem_toArray, List.getElem_cons_succ, List.getElem_cons_zero, Act.put, List.setIfInBounds_toArray, List.set_cons_zero, List.set_cons_succ]
                refine rg_take 10 (v := ?_) rfl (by kernel_rfl) (by kernel_rfl) (by kernel_rfl) hS rfl ?_ ?_
                rotate_left
                · intro wS hSw; go_simp; (with_reducible rfl)
                simp only [List.getElem_toArray, List.getElem_cons_succ, List.getElem_cons_zero, Act.put, List.setIfInBounds_toArray, List.set_cons_zero, List.set_cons_succ]
                refine rg_take 11 (v := ?_) rfl (by kernel_rfl) (by kernel_rfl) (by kernel_rfl) hS rfl ?_ ?_
                rotate_left
                · intro wS hSw; go_simp; (with_reducible rfl)
                simp only [List.getElem_toArray, List.getElem_cons_succ, List.getElem_cons_zero, Act.put, List.setIfInBounds_toArray, List.set_cons_zero, List.set_cons_succ]
                refine rg_take 12 (v := ?_) rfl (by kernel_rfl) (by kernel_rfl) (by kernel_rfl) hS rfl ?_ ?_
                rotate_left
                · intro wS hSw; go_simp; (with_reducible rfl)
                simp only [List.getElem_toArray, List.getElem_cons_succ, List.getElem_cons_zero, Act.put, List.setIfInBounds_toArray, List.set_cons_zero, List.set_cons_succ]
                refine rg_take 13 (v := ?_) rfl (by kernel_rfl) (by kernel_rfl) (by kernel_rfl) hS rfl ?_ ?_
                rotate_left
                · intro wS hSw; go_simp; (with_reducible rfl)
                simp only [List.getElem_toArray, List.getElem_cons_succ, List.getElem_cons_zero, Act.put, List.setIfInBounds_toArray, List.set_cons_zero, List.set_cons_succ]
                refine rg_take 14 (v := ?_) rfl (by kernel_rfl) (by kernel_rfl) (by kernel_rfl) hS rfl ?_ ?_
                rotate_left
                · intro wS hSw; go_simp; (with_reducible rfl)
                simp only [List.getElem_toArray, List.getElem_cons_succ, List.getElem_cons_zero, Act.put, List.setIfInBounds_toArray, List.set_cons_zero, List.set_cons_succ]
                refine rg_two 1 9 rfl rfl (by kernel_rfl) rfl rfl (fun K hK => ?_) (fun K hK => ?_)
                · go_simp
                  refine hK _ _ hS ?_; clear hK K
                  refine rg_take 7 (v := ?_) rfl (by kernel_rfl) (by kernel_rfl) (by kernel_rfl) hS rfl ?_ ?_
                  rotate_left
                  · intro wS hSw; go_simp; (with_reducible rfl)
                  simp only [List.getElem_toArray, List.getElem_cons_succ, List.getElem_cons_zero, Act.put, List.setIfInBounds_toArray, List.set_cons_zero, List.set_cons_succ]
                  refine rg_one 9 rfl (by kernel_rfl) rfl (fun K hK => ?_)
                  go_simp
                  refine hK _ _ hS ?_; clear hK K
                  refine rg_take 15 (v := ?_) rfl (by kernel_rfl) (by kernel_rfl) (by kernel_rfl) hS rfl ?_ ?_
                  rotate_left
                  · intro wS hSw; go_simp; (with_reducible rfl)
                  simp only [List.getElem_toArray, List.getElem_cons_succ, List.getElem_cons_zero, Act.put, List.setIfInBounds_toArray, List.set_cons_zero, List.set_cons_succ]
                  refine rg_take 16 (v := ?_) rfl (by kernel_rfl) (by kernel_rfl) (by kernel_rfl) hS rfl ?_ ?_
                  rotate_left
                  · intro wS hSw; go_simp; (with_reducible rfl)
                  simp only [List.getElem_toArray, List.getElem_cons_succ, List.getElem_cons_zero, Act.put, List.setIfInBounds_toArray, List.set_cons_zero, List.set_cons_succ]
                  refine rg_one 17 rfl (by kernel_rfl) rfl (fun K hK => ?_)
                  go_simp
                  refine hK _ _ ⟨hg4.cell hc0 hbne, hg4.cell hc1 hbne⟩ ?_
                  clear hK K
                  refine rg_end (by kernel_rfl) ?_
                  go_wp2_with (first | (with_reducible refine hold_append ?_) | (with_reducible refine hold_make ?_) | (with_reducible refine hold_copy ?_))
                  exact ⟨⟨j + 1, min sf lf, max st lt, by go_num, by omega, by omega, by omega, by omega, q0, q1, (qf _).trans hz0, (qf _).trans hz1, by rw [HT.out, HS.out], hor4, by simpa using hszr, hB4⟩, by simp [intOf]; omega⟩
                · go_simp
                  refine hK _ _ hS ?_; clear hK K
                  refine rg_take 15 (v := ?_) rfl (by kernel_rfl) (by kernel_rfl) (by kernel_rfl) hS rfl ?_ ?_
                  rotate_left
                  · intro wS hSw; go_simp; (with_reducible rfl)
                  simp only [List.getElem_toArray, List.getElem_cons_succ, List.getElem_cons_zero, Act.put, List.setIfInBounds_toArray, List.set_cons_zero, List.set_cons_succ]
                  refine rg_one 1 rfl (by kernel_rfl) rfl (fun K hK => ?_)
                  go_simp
                  refine hK _ _ hS ?_; clear hK K
                  refine rg_take 7 (v := ?_) rfl (by kernel_rfl) (by kernel_rfl) (by kernel_rfl) hS rfl ?_ ?_
                  rotate_left
                  · intro wS hSw; go_simp; (with_reducible rfl)
                  simp only [List.getElem_toArray, List.getElem_cons_succ, List.getElem_cons_zero, Act.put, List.setIfInBounds_toArray, List.set_cons_zero, List.set_cons_succ]
                  refine rg_take 16 (v := ?_) rfl (by kernel_rfl) (by kernel_rfl) (by kernel_rfl) hS rfl ?_ ?_
                  rotate_left
                  · intro wS hSw; go_simp; (with_reducible rfl)
                  simp only [List.getElem_toArray, List.getElem_cons_succ, List.getElem_cons_zero, Act.put, List.setIfInBounds_toArray, List.set_cons_zero, List.set_cons_succ]
                  refine rg_one 17 rfl (by kernel_rfl) rfl (fun K hK => ?_)
                  go_simp
                  refine hK _ _ ⟨hg4.cell hc0 hbne, hg4.cell hc1 hbne⟩ ?_
                  clear hK K
                  refine rg_end (by kernel_rfl) ?_
                  go_wp2_with (first | (with_reducible refine hold_append ?_) | (with_reducible refine hold_make ?_) | (with_reducible refine hold_copy ?_))
                  exact ⟨⟨j + 1, min sf lf, max st lt, by go_num, by omega, by omega, by omega, by omega, q0, q1, (qf _).trans hz0, (qf _).trans hz1, by rw [HT.out, HS.out], hor4, by simpa using hszr, hB4⟩, by simp [intOf]; omega⟩
              · have hd2 : decide ((lf : Int) ≤ (t : Int)) = false := by simp; omega
                have hwl : IntKind.u32.wrap ((lf : Int) - 1) = (t : Int) := by rw [IntWalk.u32_in _ ⟨by omega, by omega⟩]; omega
                go_wp2_with (first | (with_reducible refine hold_append ?_) | (with_reducible refine hold_make ?_) | (with_reducible refine hold_copy ?_))
                have hw3 := hB13.size
                have hbne : some b = some w3.heap.size → False := fun e => by
                  injection e with e
                  omega
                have hmn : (if lf < sf then (lf : Int) else (sf : Int)) = ((min sf lf : Nat) : Int) := by split <;> omega
                have hmx : (if st < lt then (lt : Int) else (st : Int)) = ((max st lt : Nat) : Int) := by split <;> omega
                obtain ⟨q0, q1, qf, hg4⟩ := set2 wr.drew w3.heap.size _ _ (.int .u32 ((min sf lf : Nat) : Int)) (.int .u32 ((max st lt : Nat) : Int)) hs0 hs1
                have hor4 : OwnS ((wr.drew.setCell ⟨w3.heap.size, 0, none⟩ (.int .u32 ((min sf lf : Nat) : Int))).setCell ⟨w3.heap.size, 1, none⟩ (.int .u32 ((max st lt : Nat) : Int))) w.heap.size A2 i c2 (l.take i) := World.ownsRow.kept (w := wr.drew) hor hg4 (.inr (by
                  rw [ownBlock_eq]
                  intro e
                  have := hblt _ e
                  omega))
                have hB4 : Below w.heap.size w ((wr.drew.setCell ⟨w3.heap.size, 0, none⟩ (.int .u32 ((min sf lf : Nat) : Int))).setCell ⟨w3.heap.size, 1, none⟩ (.int .u32 ((max st lt : Nat) : Int))) := ((below_drewN hBr 1).setCell (p := ⟨w3.heap.size, 0, none⟩) (show w.heap.size ≤ w3.heap.size by omega) _).setCell (p := ⟨w3.heap.size, 1, none⟩) (show w.heap.size ≤ w3.heap.size by omega) _
                have hS : wr.drew.cell? ⟨b, off + j * 2, none⟩ = some (.int .u32 (lf : Int)) ∧ wr.drew.cell? ⟨b, off + j * 2 + 1, none⟩ = some (.int .u32 (lt : Int)) := ⟨hc0, hc1⟩
                refine rg_start (fun wx => wx.cell? ⟨b, off + j * 2, none⟩ = some (.int .u32 (lf : Int)) ∧ wx.cell? ⟨b, off + j * 2 + 1, none⟩ = some (.int .u32 (lt : Int))) (by kernel_rfl) ?_
                refine rg_take 0 (v := ?_) rfl (by kernel_rfl) (by kernel_rfl) (by kernel_rfl) hS rfl ?_ ?_
                rotate_left
                · intro wS hSw; go_simp; (with_reducible rfl)
                simp only [List.getElem_toArray, List.getElem_cons_zero, Act.put, List.setIfInBounds_toArray, List.set_cons_zero, List.set_cons_succ]
                refine rg_take 2 (v := ?_) rfl (by kernel_rfl) (by kernel_rfl) (by kernel_rfl) hS rfl ?_ ?_
                rotate_left
                · intro wS hSw; go_simp; (with_reducible rfl)
                simp only [List.getElem_toArray, List.getElem_cons_succ, List.getElem_cons_zero, Act.put, List.setIfInBounds_toArray, List.set_cons_zero, List.set_cons_succ]
                refine rg_take 3 (v := ?_) rfl (by kernel_rfl) (by kernel_rfl) (by kernel_rfl) hS rfl ?_ ?_
                rotate_left
                · intro wS hSw; go_simp; (with_reducible rfl)
                simp only [List.getElem_toArray, List.getElem_cons_succ, List.getElem_cons_zero, Act.put, List.setIfInBounds_toArray, List.set_cons_zero, List.set_cons_succ]
                refine rg_take 4 (v := ?_) rfl (by kernel_rfl) (by kernel_rfl) (by kernel_rfl) hS rfl ?_ ?_
                rotate_left
                · intro wS hSw; go_simp; (with_reducible rfl)
                simp only [List.getElem_toArray, List.getElem_cons_succ, List.getElem_cons_zero, Act.put, List.setIfInBounds_toArray, List.set_cons_zero, List.set_cons_succ]
                refine rg_take 5 (v := ?_) rfl (by kernel_rfl) (by kernel_rfl) (by kernel_rfl) hS rfl ?_ ?_
                rotate_left
                · intro wS hSw; go_simp; (with_reducible rfl)
                simp only [List.getElem_toArray, List.getElem_cons_succ, List.getElem_cons_zero, Act.put, List.setIfInBounds_toArray, List.set_cons_zero, List.set_cons_succ]
                refine rg_take 6 (v := ?_) rfl (by kernel_rfl) (by kernel_rfl) (by kernel_rfl) hS rfl ?_ ?_
                rotate_left
                · intro wS hSw; go_simp; (with_reducible rfl)
                simp only [List.getElem_toArray, List.getElem_cons_succ, List.getElem_cons_zero, Act.put, List.setIfInBounds_toArray, List.set_cons_zero, List.set_cons_succ]
                refine rg_take 8 (v := ?_) rfl (by kernel_rfl) (by kernel_rfl) (by kernel_rfl) hS rfl ?_ ?_
                rotate_left
                · intro wS hSw; go_simp; (with_reducible rfl)
                simp only [List.getElem_toArray, List.getElem_cons_succ, List.getElem_cons_zero, Act.put, List.setIfInBounds_toArray, List.set_cons_zero, List.set_cons_succ]
                refine rg_take 10 (v := ?_) rfl (by kernel_rfl) (by kernel_rfl) (by kernel_rfl) hS rfl ?_ ?_
                rotate_left
                · intro wS hSw; go_simp; (with_reducible rfl)
                simp only [List.getElem_toArray, List.getElem_cons_succ, List.getElem_cons_zero, Act.put, List.setIfInBounds_toArray, List.set_cons_zero, List.set_cons_succ]
                refine rg_take 11 (v := ?_) rfl (by kernel_rfl) (by kernel_rfl) (by kernel_rfl) hS rfl ?_ ?_
                rotate_left
                · intro wS hSw; go_simp; (with_reducible rfl)
                simp only [List.getElem_toArray, List.getElem_cons_succ, List.getElem_cons_zero, Act.put, List.setIfInBounds_toArray, List.set_cons_zero, List.set_cons_succ]
                refine rg_take 12 (v := ?_) rfl (by kernel_rfl) (by kernel_rfl) (by kernel_rfl) hS rfl ?_ ?_
                rotate_left
                · intro wS hSw; go_simp; (with_reducible rfl)
                simp only [List.getElem_toArray, List.getElem_cons_succ, List.getElem_cons_zero, Act.put, List.setIfInBounds_toArray, List.set_cons_zero, List.set_cons_succ]
                refine rg_take 13 (v := ?_) rfl (by kernel_rfl) (by kernel_rfl) (by kernel_rfl) hS rfl ?_ ?_
                rotate_left
                · intro wS hSw; go_simp; (with_reducible rfl)
                simp only [List.getElem_toArray, List.getElem_cons_succ, List.getElem_cons_zero, Act.put, List.setIfInBounds_toArray, List.set_cons_zero, List.set_cons_succ]
                refine rg_take 14 (v := ?_) rfl (by kernel_rfl) (by kernel_rfl) (by kernel_rfl) hS rfl ?_ ?_
                rotate_left
                · intro wS hSw; go_simp; (with_reducible rfl)
                simp only [List.getElem_toArray, List.getElem_cons_succ, List.getElem_cons_zero, Act.put, List.setIfInBounds_toArray, List.set_cons_zero, List.set_cons_succ]
                refine rg_two 1 9 rfl rfl (by kernel_rfl) rfl rfl (fun K hK => ?_) (fun K hK => ?_)
                · go_simp
                  refine hK _ _ hS ?_; clear hK K
                  refine rg_take 7 (v := ?_) rfl (by kernel_rfl) (by kernel_rfl) (by kernel_rfl) hS rfl ?_ ?_
                  rotate_left
                  · intro wS hSw; go_simp; (with_reducible rfl)
                  simp only [List.getElem_toArray, List.getElem_cons_succ, List.getElem_cons_zero, Act.put, List.setIfInBounds_toArray, List.set_cons_zero, List.set_cons_succ]
                  refine rg_one 9 rfl (by kernel_rfl) rfl (fun K hK => ?_)
                  go_simp
                  refine hK _ _ hS ?_; clear hK K
                  refine rg_take 15 (v := ?_) rfl (by kernel_rfl) (by kernel_rfl) (by kernel_rfl) hS rfl ?_ ?_
                  rotate_left
                  · intro wS hSw; go_simp; (with_reducible rfl)
                  simp only [List.getElem_toArray, List.getElem_cons_succ, List.getElem_cons_zero, Act.put, List.setIfInBounds_toArray, List.set_cons_zero, List.set_cons_succ]
                  refine rg_take 16 (v := ?_) rfl (by kernel_rfl) (by kernel_rfl) (by kernel_rfl) hS rfl ?_ ?_
                  rotate_left
                  · intro wS hSw; go_simp; (with_reducible rfl)
                  simp only [List.getElem_toArray, List.getElem_cons_succ, List.getElem_cons_zero, Act.put, List.setIfInBounds_toArray, List.set_cons_zero, List.set_cons_succ]
                  refine rg_one 17 rfl (by kernel_rfl) rfl (fun K hK => ?_)
                  go_simp
                  refine hK _ _ ⟨hg4.cell hc0 hbne, hg4.cell hc1 hbne⟩ ?_
                  clear hK K
                  refine rg_end (by kernel_rfl) ?_
                  go_wp2_with (first | (with_reducible refine hold_append ?_) | (with_reducible refine hold_make ?_) | (with_reducible refine hold_copy ?_))
                  exact ⟨⟨j + 1, min sf lf, max st lt, by go_num, by omega, by omega, by omega, by omega, q0, q1, (qf _).trans hz0, (qf _).trans hz1, by rw [HT.out, HS.out], hor4, by simpa using hszr, hB4⟩, by simp [intOf]; omega⟩
                · go_simp
                  refine hK _ _ hS ?_; clear hK K
                  refine rg_take 15 (v := ?_) rfl (by kernel_rfl) (by kernel_rfl) (by kernel_rfl) hS rfl ?_ ?_
                  rotate_left
                  · intro wS hSw; go_simp; (with_reducible rfl)
                  simp only [List.getElem_toArray, List.getElem_cons_succ, List.getElem_cons_zero, Act.put, List.setIfInBounds_toArray, List.set_cons_zero, List.set_cons_succ]
                  refine rg_one 1 rfl (by kernel_rfl) rfl (fun K hK => ?_)
                  go_simp
                  refine hK _ _ hS ?_; clear hK K
                  refine rg_take 7 (v := ?_) rfl (by kernel_rfl) (by kernel_rfl) (by kernel_rfl) hS rfl ?_ ?_
                  rotate_left
                  · intro wS hSw; go_simp; (with_reducible rfl)
                  simp only [List.getElem_toArray, List.getElem_cons_succ, List.getElem_cons_zero, Act.put, List.setIfInBounds_toArray, List.set_cons_zero, List.set_cons_succ]
                  refine rg_take 16 (v := ?_) rfl (by kernel_rfl) (by kernel_rfl) (by kernel_rfl) hS rfl ?_ ?_
                  rotate_left
                  · intro wS hSw; go_simp; (with_reducible rfl)
                  simp only [List.getElem_toArray, List.getElem_cons_succ, List.getElem_cons_zero, Act.put, List.setIfInBounds_toArray, List.set_cons_zero, List.set_cons_succ]
                  refine rg_one 17 rfl (by kernel_rfl) rfl (fun K hK => ?_)
                  go_simp
                  refine hK _ _ ⟨hg4.cell hc0 hbne, hg4.cell hc1 hbne⟩ ?_
                  clear hK K
                  refine rg_end (by kernel_rfl) ?_
                  go_wp2_with (first | (with_reducible refine hold_append ?_) | (with_reducible refine hold_make ?_) | (with_reducible refine hold_copy ?_))
                  exact ⟨⟨j + 1, min sf lf, max st lt, by go_num, by omega, by omega, by omega, by omega, q0, q1, (qf _).trans hz0, (qf _).trans hz1, by rw [HT.out, HS.out], hor4, by simpa using hszr, hB4⟩, by simp [intOf]; omega⟩
            · have HS : Hid (spTake (sf, st) t (l.drop j) = ((sf, st), l.drop j)) := Lib.hid (by rw [HD.out, spTake, if_neg h1])
              have hd2 : decide ((lf : Int) ≤ (t : Int)) = false := by simp; omega
              have hwl : IntKind.u32.wrap ((lf : Int) - 1) = ((lf - 1 : Nat) : Int) := by rw [IntWalk.u32_in _ ⟨by omega, by omega⟩]; omega
              have hd3 : (((lf - 1 : Nat) : Int) == (t : Int)) = false := by simp; omega
              go_wp2_with (first | (with_reducible refine hold_append ?_) | (with_reducible refine hold_make ?_) | (with_reducible refine hold_copy ?_))
              have hw3 := hB13.size
              have hjc : j ≤ c := by omega
              have hSs : wr.drew.cell? ⟨w3.heap.size, 0, none⟩ = some (.int .u32 (sf : Int)) ∧ wr.drew.cell? ⟨w3.heap.size, 1, none⟩ = some (.int .u32 (st : Int)) := ⟨hs0, hs1⟩
              refine rg_start (fun wx => wx.cell? ⟨w3.heap.size, 0, none⟩ = some (.int .u32 (sf : Int)) ∧ wx.cell? ⟨w3.heap.size, 1, none⟩ = some (.int .u32 (st : Int))) (by kernel_rfl) ?_
              refine rg_take 0 (v := ?_) rfl (by kernel_rfl) (by kernel_rfl) (by kernel_rfl) hSs rfl ?_ ?_
              rotate_left
              · intro wS hSw; go_simp; (with_reducible rfl)
              simp only [List.getElem_toArray, List.getElem_cons_zero, Act.put, List.setIfInBounds_toArray, List.set_cons_zero, List.set_cons_succ]
              refine rg_take 1 (v := ?_) rfl (by kernel_rfl) (by kernel_rfl) (by kernel_rfl) hSs rfl ?_ ?_
              rotate_left
              · intro wS hSw; go_simp; (with_reducible rfl)
              simp only [List.getElem_toArray, List.getElem_cons_succ, List.getElem_cons_zero, Act.put, List.setIfInBounds_toArray, List.set_cons_zero, List.set_cons_succ]
              refine rg_take 4 (v := ?_) rfl (by kernel_rfl) (by kernel_rfl) (by kernel_rfl) hSs rfl ?_ ?_
              rotate_left
              · intro wS hSw; go_simp; (with_reducible rfl)
              simp only [List.getElem_toArray, List.getElem_cons_succ, List.getElem_cons_zero, Act.put, List.setIfInBounds_toArray, List.set_cons_zero, List.set_cons_succ]
              refine rg_take 5 (v := ?_) rfl (by kernel_rfl) (by kernel_rfl) (by kernel_rfl) hSs rfl ?_ ?_
              rotate_left
              · intro wS hSw; go_simp; (with_reducible rfl)
              simp only [List.getElem_toArray, List.getElem_cons_succ, List.getElem_cons_zero, Act.put, List.setIfInBounds_toArray, List.set_cons_zero, List.set_cons_succ]
              have hcutb : Bd (some (Value.int .i64 (j : Int))) 0 j := .inr ⟨_, _, rfl, rfl⟩
              refine rg_slice 6 slS rfl (by kernel_rfl) (by kernel_rfl) (by kernel_rfl) hSs rfl rfl rfl hr.max hr.cap j n c hcutb (.inl ⟨rfl, rfl⟩) (.inl ⟨rfl, rfl⟩) (fun h => by cases h) hjn hcap (Nat.le_refl _) (Nat.le_refl _) ?_
              simp only [List.getElem_toArray, List.getElem_cons_succ, List.getElem_cons_zero, Act.put, List.setIfInBounds_toArray, List.set_cons_zero, List.set_cons_succ]
              refine rg_one 2 rfl (by kernel_rfl) rfl (fun K hK => ?_)
              go_simp
              have hlt3 : w3.heap.size < wr.heap.size := World.block_lt_of_cell? wr _ hs0
              refine hK _ _ ⟨(World.cell?_alloc_past (w := wr.drew) _ _ _ hlt3).trans hs0, (World.cell?_alloc_past (w := wr.drew) _ _ _ hlt3).trans hs1⟩ ?_
              clear hK K
              refine rg_one 3 rfl (by kernel_rfl) rfl (fun K hK => ?_)
              refine op_push (ops := #[]) (W := wr.drew) slS Try.underlying22 rfl rfl rfl rfl sf st rfl rfl hor (by omega) hBr.size ?_
              intro A4 c4 w4 ho4 hg4 hb4 hB4
              have hB4' := (below_drewN hBr 1).trans hB4
              have hne2 : some w3.heap.size = blk A2 → False := fun e => by have := hblt _ e.symm; omega
              have hne4 : some w3.heap.size = blk A4 → False := fun e => by
                rcases hb4 with h | h
                · exact hne2 (e.trans h)
                · have := h _ e.symm
                  have hx : wr.drew.heap.size = wr.heap.size := rfl
                  omega
              simp only [List.getElem_toArray, List.getElem_cons_succ, List.getElem_cons_zero, Act.put, List.setIfInBounds_toArray, List.set_cons_zero, List.set_cons_succ]
              refine hK _ _ ⟨hg4.cell hs0 hne2, hg4.cell hs1 hne2⟩ ?_
              clear hK K
              have hrc := RdS.cut (lo := j) (k := n - j) (hr.below (hB4'.mono hB)) (by omega)
              rw [List.take_of_length_le (show (l.drop j).length ≤ n - j by simp; omega)] at hrc
              refine rg_one 7 rfl (by kernel_rfl) rfl (fun K hK => ?_)
              refine op_app (ops := #[]) slS Try.underlying22 rfl rfl rfl ho4 hrc (spCells_one _) (by omega) (by simp [maxLen]; omega) hB4'.size ?_
              intro A5 c5 w5 ho5 hg5 _
              have hB5 : Below w.heap.size w w5 := hB4'.trans (below_grown ho4 hg5 hB4'.size)
              rw [← spCells_app] at ho5
              simp only [List.getElem_toArray, List.getElem_cons_succ, List.getElem_cons_zero, Act.put, List.setIfInBounds_toArray, List.set_cons_zero, List.set_cons_succ]
              refine hK _ _ ⟨hg5.cell (hg4.cell hs0 hne2) hne4, hg5.cell (hg4.cell hs1 hne2) hne4⟩ ?_
              clear hK K
              have hS5 : w5.cell? ⟨w3.heap.size, 0, none⟩ = some (.int .u32 (sf : Int)) ∧ w5.cell? ⟨w3.heap.size, 1, none⟩ = some (.int .u32 (st : Int)) := ⟨hg5.cell (hg4.cell hs0 hne2) hne4, hg5.cell (hg4.cell hs1 hne2) hne4⟩
              refine rg_take 8 (v := ?_) rfl (by kernel_rfl) (by kernel_rfl) (by kernel_rfl) hS5 rfl ?_ ?_
              rotate_left
              · intro wS hSw; go_simp; (with_reducible rfl)
              simp only [List.getElem_toArray, List.getElem_cons_succ, List.getElem_cons_zero, Act.put, List.setIfInBounds_toArray, List.set_cons_zero, List.set_cons_succ]
              refine rg_take 9 (v := ?_) rfl (by kernel_rfl) (by kernel_rfl) (by kernel_rfl) hS5 rfl ?_ ?_
              rotate_left
              · intro wS hSw; go_simp; (with_reducible rfl)
              simp only [List.getElem_toArray, List.getElem_cons_succ, List.getElem_cons_zero, Act.put, List.setIfInBounds_toArray, List.set_cons_zero, List.set_cons_succ]
              refine rg_end (by kernel_rfl) ?_
              have hfin : spAdd f t l = l.take i ++ [(sf, st)] ++ l.drop j := by rw [HA.out, HT.out, HS.out]; simp
              have hlen : (spAdd f t l).length = i + 1 + (n - j) := by rw [hfin]; simp; omega
              have HF := Lib.hid hfin
              have HL := Lib.hid hlen
              clear hfin hlen
              go_wp2_with (first | (with_reducible refine hold_append ?_) | (with_reducible refine hold_make ?_) | (with_reducible refine hold_copy ?_))
              go_ret2
              rw [HL.out, HF.out]
              exact ⟨A5, c5, rfl, ho5, hB5⟩
          · have hdlt : decide ((j : Int) < (n : Int)) = false := by simp; omega
            have HS : Hid (spTake (sf, st) t (l.drop j) = ((sf, st), l.drop j)) := Lib.hid (by rw [List.drop_of_length_le (by omega)]; rfl)
            go_wp2_with (first | (with_reducible refine hold_append ?_) | (with_reducible refine hold_make ?_) | (with_reducible refine hold_copy ?_))
            have hw3 := hB13.size
            have hjc : j ≤ c := by omega
            have hSs : wr.drew.cell? ⟨w3.heap.size, 0, none⟩ = some (.int .u32 (sf : Int)) ∧ wr.drew.cell? ⟨w3.heap.size, 1, none⟩ = some (.int .u32 (st : Int)) := ⟨hs0, hs1⟩
            refine rg_start (fun wx => wx.cell? ⟨w3.heap.size, 0, none⟩ = some (.int .u32 (sf : Int)) ∧ wx.cell? ⟨w3.heap.size, 1, none⟩ = some (.int .u32 (st : Int))) (by kernel_rfl) ?_
            refine rg_take 0 (v := ?_) rfl (by kernel_rfl) (by kernel_rfl) (by kernel_rfl) hSs rfl ?_ ?_
            rotate_left
            · intro wS hSw; go_simp; (with_reducible rfl)
            simp only [List.getElem_toArray, List.getElem_cons_zero, Act.put, List.setIfInBounds_toArray, List.set_cons_zero, List.set_cons_succ]
            refine rg_take 1 (v := ?_) rfl (by kernel_rfl) (by kernel_rfl) (by kernel_rfl) hSs rfl ?_ ?_
            rotate_left
            · intro wS hSw; go_simp; (with_reducible rfl)
            simp only [List.getElem_toArray, List.getElem_cons_succ, List.getElem_cons_zero, Act.put, List.setIfInBounds_toArray, List.set_cons_zero, List.set_cons_succ]
            refine rg_take 4 (v := ?_) rfl (by kernel_rfl) (by kernel_rfl) (by kernel_rfl) hSs rfl ?_ ?_
            rotate_left
            · intro wS hSw; go_simp; (with_reducible rfl)
            simp only [List.getElem_toArray, List.getElem_cons_succ, List.getElem_cons_zero, Act.put, List.setIfInBounds_toArray, List.set_cons_zero, List.set_cons_succ]
            refine rg_take 5 (v := ?_) rfl (by kernel_rfl) (by kernel_rfl) (by kernel_rfl) hSs rfl ?_ ?_
            rotate_left
            · intro wS hSw; go_simp; (with_reducible rfl)
            simp only [List.getElem_toArray, List.getElem_cons_succ, List.getElem_cons_zero, Act.put, List.setIfInBounds_toArray, List.set_cons_zero, List.set_cons_succ]
            have hcutb : Bd (some (Value.int .i64 (j : Int))) 0 j := .inr ⟨_, _, rfl, rfl⟩
            refine rg_slice 6 slS rfl (by kernel_rfl) (by kernel_rfl) (by kernel_rfl) hSs rfl rfl rfl hr.max hr.cap j n c hcutb (.inl ⟨rfl, rfl⟩) (.inl ⟨rfl, rfl⟩) (fun h => by cases h) hjn hcap (Nat.le_refl _) (Nat.le_refl _) ?_
            simp only [List.getElem_toArray, List.getElem_cons_succ, List.getElem_cons_zero, Act.put, List.setIfInBounds_toArray, List.set_cons_zero, List.set_cons_succ]
            refine rg_one 2 rfl (by kernel_rfl) rfl (fun K hK => ?_)
            go_simp
            have hlt3 : w3.heap.size < wr.heap.size := World.block_lt_of_cell? wr _ hs0
            refine hK _ _ ⟨(World.cell?_alloc_past (w := wr.drew) _ _ _ hlt3).trans hs0, (World.cell?_alloc_past (w := wr.drew) _ _ _ hlt3).trans hs1⟩ ?_
            clear hK K
            refine rg_one 3 rfl (by kernel_rfl) rfl (fun K hK => ?_)
            refine op_push (ops := #[]) (W := wr.drew) slS Try.underlying22 rfl rfl rfl rfl sf st rfl rfl hor (by omega) hBr.size ?_
            intro A4 c4 w4 ho4 hg4 hb4 hB4
            have hB4' := (below_drewN hBr 1).trans hB4
            have hne2 : some w3.heap.size = blk A2 → False := fun e => by have := hblt _ e.symm; omega
            have hne4 : some w3.heap.size = blk A4 → False := fun e => by
              rcases hb4 with h | h
              · exact hne2 (e.trans h)
              · have := h _ e.symm
                have hx : wr.drew.heap.size = wr.heap.size := rfl
                omega
            simp only [List.getElem_toArray, List.getElem_cons_succ, List.getElem_cons_zero, Act.put, List.setIfInBounds_toArray, List.set_cons_zero, List.set_cons_succ]
            refine hK _ _ ⟨hg4.cell hs0 hne2, hg4.cell hs1 hne2⟩ ?_
            clear hK K
            have hrc := RdS.cut (lo := j) (k := n - j) (hr.below (hB4'.mono hB)) (by omega)
            rw [List.take_of_length_le (show (l.drop j).length ≤ n - j by simp; omega)] at hrc
            refine rg_one 7 rfl (by kernel_rfl) rfl (fun K hK => ?_)
            refine op_app (ops := #[]) slS Try.underlying22 rfl rfl rfl ho4 hrc (spCells_one _) (by omega) (by simp [maxLen]; omega) hB4'.size ?_
            intro A5 c5 w5 ho5 hg5 _
            have hB5 : Below w.heap.size w w5 := hB4'.trans (below_grown ho4 hg5 hB4'.size)
            rw [← spCells_app] at ho5
            simp only [List.getElem_toArray, List.getElem_cons_succ, List.getElem_cons_zero, Act.put, List.setIfInBounds_toArray, List.set_cons_zero, List.set_cons_succ]
            refine hK _ _ ⟨hg5.cell (hg4.cell hs0 hne2) hne4, hg5.cell (hg4.cell hs1 hne2) hne4⟩ ?_
            clear hK K
            have hS5 : w5.cell? ⟨w3.heap.size, 0, none⟩ = some (.int .u32 (sf : Int)) ∧ w5.cell? ⟨w3.heap.size, 1, none⟩ = some (.int .u32 (st : Int)) := ⟨hg5.cell (hg4.cell hs0 hne2) hne4, hg5.cell (hg4.cell hs1 hne2) hne4⟩
            refine rg_take 8 (v := ?_) rfl (by kernel_rfl) (by kernel_rfl) (by kernel_rfl) hS5 rfl ?_ ?_
            rotate_left
            · intro wS hSw; go_simp; (with_reducible rfl)
            simp only [List.getElem_toArray, List.getElem_cons_succ, List.getElem_cons_zero, Act.put, List.setIfInBounds_toArray, List.set_cons_zero, List.set_cons_succ]
            refine rg_take 9 (v := ?_) rfl (by kernel_rfl) (by kernel_rfl) (by kernel_rfl) hS5 rfl ?_ ?_
            rotate_left
            · intro wS hSw; go_simp; (with_reducible rfl)
            simp only [List.getElem_toArray, List.getElem_cons_succ, List.getElem_cons_zero, Act.put, List.setIfInBounds_toArray, List.set_cons_zero, List.set_cons_succ]
            refine rg_end (by kernel_rfl) ?_
            have hfin : spAdd f t l = l.take i ++ [(sf, st)] ++ l.drop j := by rw [HA.out, HT.out, HS.out]; simp
            have hlen : (spAdd f t l).length = i + 1 + (n - j) := by rw [hfin]; simp; omega
            have HF := Lib.hid hfin
            have HL := Lib.hid hlen
            clear hfin hlen
            go_wp2_with (first | (with_reducible refine hold_append ?_) | (with_reducible refine hold_make ?_) | (with_reducible refine hold_copy ?_))
            go_ret2
            rw [HL.out, HF.out]
            exact ⟨A5, c5, rfl, ho5, hB5⟩
end Go.PH

/- The walks of the rows' own over, and of Both. -/
import Derived.Test.YtjlfjlafpgjhbaaSpSearch
import Derived.Test.YtjlfjlafpgjhbaaSpPush
import Derived.Test.YtjlfjlafpgjhbaaRegion2
import Derived.Test.YtjlfjlafpgjhbaaOctRead
namespace Go.PH
open Go.RowKit Go.Proofs

theorem slR : SlT Try.prog 58 33 2 8 (.agg #[.int .u32 0, .int .u32 0]) := SlT.mk' Try.underlying58 (by kernel_rfl) rfl (by omega)
set_option maxRecDepth 20000 in
set_option maxHeartbeats 1000000 in
theorem over_any (A : Option Addr) (n c : Nat) (l : List Sp) (sf st : Nat) (B : Nat) (w : World) (hr : RdS w B A n c l) (hb : spOK 4294967296 l) (hf : sf < 4294967296) (ht : st < 4294967296) (hft : sf ≤ st) (hB : B ≤ w.heap.size) (hn : n ≤ 1000000) (hright : spRight l = true) :
    Calls Try.prog 33 #[.slice A n c, .agg #[.int .u32 sf, .int .u32 st]] w fun e w' => ∃ A2 c2, e = .returned (.slice A2 (spOver (sf, st) l).length c2) ∧ OwnS w' w.heap.size A2 (spOver (sf, st) l).length c2 (spOver (sf, st) l) ∧ Below w.heap.size w w' := by
  have hl := hr.length
  have HR := Lib.hid hright
  clear hright
  have hB0 : Below w.heap.size w (w.alloc (.cells #[.int .u32 (sf : Int), .int .u32 (st : Int)] 33)) := (Below.refl _ _).alloc (Nat.le_refl _) _
  go_enter Try.func33, Try.ntmps33
  go_wp2_with (first | (with_reducible refine hold_append ?_) | (with_reducible refine hold_make ?_) | (with_reducible refine hold_copy ?_))
  refine (at_any A n c l sf B _ (hr.below (hB0.mono hB)) (by simp; omega) hb (by omega) (by omega) HR.out).mono ?_
  rintro e w2 ⟨i, rfl, ha, hB2⟩
  have hin : i ≤ n := by have := ha.1; omega
  have HA := Lib.hid (spOver_at (sf, st) hft l i HR.out ha)
  clear ha
  have hq0 : w2.cell? ⟨w.heap.size, 0, none⟩ = some (.int .u32 (sf : Int)) := (hB2.cell (p := ⟨w.heap.size, 0, none⟩) (show w.heap.size < _ by simp)).trans (by rw [World.cell?_alloc_new]; rfl)
  have hq1 : w2.cell? ⟨w.heap.size, 1, none⟩ = some (.int .u32 (st : Int)) := (hB2.cell (p := ⟨w.heap.size, 1, none⟩) (show w.heap.size < _ by simp)).trans (by rw [World.cell?_alloc_new]; rfl)
  have hB12 : Below w.heap.size w w2 := hB0.trans (hB2.mono (by simp))
  have hsz2 : w.heap.size + 1 ≤ w2.heap.size := by have := hB2.size; simpa using this
  clear hB2 hB0
  go_wp2_with (first | (with_reducible refine hold_append ?_) | (with_reducible refine hold_make ?_) | (with_reducible refine hold_copy ?_))
  go_loopw [6, 5] (fun s v wr => ∃ (j c2 : Nat) (A2 : Option Addr) (out : List Sp), s = .int .i64 j ∧ v = .slice A2 out.length c2 ∧ i ≤ j ∧ j ≤ n ∧ out.length ≤ j ∧ spOver (sf, st) l = out ++ spClip (sf, st) (l.drop j) ∧ OwnS wr (w.heap.size + 1) A2 out.length c2 out ∧ wr.cell? ⟨w.heap.size, 0, none⟩ = some (.int .u32 (sf : Int)) ∧ wr.cell? ⟨w.heap.size, 1, none⟩ = some (.int .u32 (st : Int)) ∧ w.heap.size + 1 ≤ wr.heap.size ∧ Below w.heap.size w wr) (fun s _ _ => n - (intOf s).toNat)
  case atStart => exact ⟨i, 0, none, [], rfl, rfl, by omega, hin, by simp, by simpa using HA.out, Own.none_ _ _ _ _, hq0, hq1, hsz2, hB12⟩
  case round =>
    clear hq0 hq1 hB12 hsz2
    obtain ⟨j, c2, A2, out, rfl, rfl, hij, hjn, hol, hout, ho, hq0, hq1, hsz, hBr⟩ := hrel
    have HO := Lib.hid hout
    clear hout
    by_cases hlt : j < n
    · have hdlt : (j : Int) < (n : Int) := by omega
      obtain ⟨b, off, rfl, hbB, hkl, hc0, hc1⟩ := RdS.at_k (hr.below (hBr.mono hB)) hlt
      have hbk := hb l[j] (List.getElem_mem hkl)
      have HD := Lib.hid (List.drop_eq_getElem_cons hkl)
      obtain ⟨lf, lt, he⟩ : ∃ lf lt, l[j] = (lf, lt) := ⟨_, _, rfl⟩
      rw [he] at hc0 hc1 hbk HD
      clear he
      simp only at hc0 hc1 hbk
      by_cases h1 : lf ≤ st
      · have hd1 : (lf : Int) ≤ (st : Int) := by omega
        have HS : Hid (spOver (sf, st) l = (out ++ [(max lf sf, min lt st)]) ++ spClip (sf, st) (l.drop (j + 1))) := Lib.hid (by rw [HO.out, HD.out, spClip, if_pos h1]; simp)
        go_wp2_with (first | (with_reducible refine hold_append ?_) | (with_reducible refine hold_make ?_) | (with_reducible refine hold_copy ?_))
        go_quiet (fail)
        go_wp2_with (first | (with_reducible refine hold_append ?_) | (with_reducible refine hold_make ?_) | (with_reducible refine hold_copy ?_))
        have hBq : Below w.heap.size w (wr.drewN nq) := below_drewN hBr nq
        have hszq : w.heap.size + 1 ≤ (wr.drewN nq).heap.size := hsz
        have hoq : OwnS (wr.drewN nq) (w.heap.size + 1) A2 out.length c2 out := ho
        have hSq : (wr.drewN nq).cell? ⟨w.heap.size, 0, none⟩ = some (.int .u32 (sf : Int)) ∧ (wr.drewN nq).cell? ⟨w.heap.size, 1, none⟩ = some (.int .u32 (st : Int)) ∧ (wr.drewN nq).cell? ⟨b, off + j * 2, none⟩ = some (.int .u32 (lf : Int)) ∧ (wr.drewN nq).cell? ⟨b, off + j * 2 + 1, none⟩ = some (.int .u32 (lt : Int)) := ⟨hq0, hq1, hc0, hc1⟩
        clear hq0 hq1 hc0 hc1 ho hBr hsz
        generalize wr.drewN nq = wq at *
        have hS : (fun wx => wx.cell? ⟨w.heap.size, 0, none⟩ = some (.int .u32 (sf : Int)) ∧ wx.cell? ⟨w.heap.size, 1, none⟩ = some (.int .u32 (st : Int)) ∧ wx.cell? ⟨b, off + j * 2, none⟩ = some (.int .u32 (lf : Int)) ∧ wx.cell? ⟨b, off + j * 2 + 1, none⟩ = some (.int .u32 (lt : Int))) wq.drew := hSq
        have hmx : (if lf < sf then (sf : Int) else (lf : Int)) = ((max lf sf : Nat) : Int) := by split <;> omega
        have hmn : (if st < lt then (st : Int) else (lt : Int)) = ((min lt st : Nat) : Int) := by split <;> omega
        have hkeep : ∀ w4 : World, wq.grownBy w4 (blk A2) → (fun wx => wx.cell? ⟨w.heap.size, 0, none⟩ = some (.int .u32 (sf : Int)) ∧ wx.cell? ⟨w.heap.size, 1, none⟩ = some (.int .u32 (st : Int)) ∧ wx.cell? ⟨b, off + j * 2, none⟩ = some (.int .u32 (lf : Int)) ∧ wx.cell? ⟨b, off + j * 2 + 1, none⟩ = some (.int .u32 (lt : Int))) w4 := fun w4 hg => by
          have hn1 : some w.heap.size = blk A2 → False := fun e => by have := (hoq.blk_lt e.symm).1; omega
          have hn2 : some b = blk A2 → False := fun e => by have := (hoq.blk_lt e.symm).1; omega
          exact ⟨hg.cell hSq.1 hn1, hg.cell hSq.2.1 hn1, hg.cell hSq.2.2.1 hn2, hg.cell hSq.2.2.2 hn2⟩
        simp only at hS
        refine rg_start (fun wx => wx.cell? ⟨w.heap.size, 0, none⟩ = some (.int .u32 (sf : Int)) ∧ wx.cell? ⟨w.heap.size, 1, none⟩ = some (.int .u32 (st : Int)) ∧ wx.cell? ⟨b, off + j * 2, none⟩ = some (.int .u32 (lf : Int)) ∧ wx.cell? ⟨b, off + j * 2 + 1, none⟩ = some (.int .u32 (lt : Int))) (by kernel_rfl) ?_
        refine rg_take 0 (v := ?_) rfl (by kernel_rfl) (by kernel_rfl) (by kernel_rfl) hS rfl ?_ ?_
        rotate_left
        · intro wS hSw; go_simp; (with_reducible rfl)
        simp only [List.getElem_toArray, List.getElem_cons_zero, Act.put, List.setIfInBounds_toArray, List.set_cons_zero, List.set_cons_succ]
        refine rg_take 1 (v := ?_) rfl (by kernel_rfl) (by kernel_rfl) (by kernel_rfl) hS rfl ?_ ?_
        rotate_left
        · intro wS hSw; go_simp; (with_reducible rfl)
        simp only [List.getElem_toArray, List.getElem_cons_succ, List.getElem_cons_zero, Act.put, List.setIfInBounds_toArray, List.set_cons_zero, List.set_cons_succ]
        refine rg_take 2 (v := ?_) rfl (by kernel_rfl) (by kernel_rfl) (by kernel_rfl) hS rfl ?_ ?_
        rotate_left
        · intro wS hSw; go_simp; (with_reducible rfl)
        simp only [List.getElem_toArray, List.getElem_cons_succ, List.getElem_cons_zero, Act.put, List.setIfInBounds_toArray, List.set_cons_zero, List.set_cons_succ]
        refine rg_take 3 (v := ?_) rfl (by kernel_rfl) (by kernel_rfl) (by kernel_rfl) hS rfl ?_ ?_
        rotate_left
        · intro wS hSw; go_simp; (with_reducible rfl)
        simp only [List.getElem_toArray, List.getElem_cons_succ, List.getElem_cons_zero, Act.put, List.setIfInBounds_toArray, List.set_cons_zero, List.set_cons_succ]
        refine rg_take 4 (v := ?_) rfl (by kernel_rfl) (by kernel_rfl) (by kernel_rfl) hS rfl ?_ ?_
        rotate_left
        · intro wS hSw; go_simp; (with_reducible rfl)
        simp only [List.getElem_toArray, List.getElem_cons_succ, List.getElem_cons_zero, Act.put, List.setIfInBounds_toArray, List.set_cons_zero, List.set_cons_succ]
        refine rg_take 5 (v := ?_) rfl (by kernel_rfl) (by kernel_rfl) (by kernel_rfl) hS rfl ?_ ?_
        rotate_left
        · intro wS hSw; go_simp; (with_reducible rfl)
        simp only [List.getElem_toArray, List.getElem_cons_succ, List.getElem_cons_zero, Act.put, List.setIfInBounds_toArray, List.set_cons_zero, List.set_cons_succ]
        refine rg_take 6 (v := ?_) rfl (by kernel_rfl) (by kernel_rfl) (by kernel_rfl) hS rfl ?_ ?_
        rotate_left
        · intro wS hSw; go_simp; (with_reducible rfl)
        simp only [List.getElem_toArray, List.getElem_cons_succ, List.getElem_cons_zero, Act.put, List.setIfInBounds_toArray, List.set_cons_zero, List.set_cons_succ]
        refine rg_take 7 (v := ?_) rfl (by kernel_rfl) (by kernel_rfl) (by kernel_rfl) hS rfl ?_ ?_
        rotate_left
        · intro wS hSw; go_simp; (with_reducible rfl)
        simp only [List.getElem_toArray, List.getElem_cons_succ, List.getElem_cons_zero, Act.put, List.setIfInBounds_toArray, List.set_cons_zero, List.set_cons_succ]
        refine rg_take 8 (v := ?_) rfl (by kernel_rfl) (by kernel_rfl) (by kernel_rfl) hS rfl ?_ ?_
        rotate_left
        · intro wS hSw; go_simp; (with_reducible rfl)
        simp only [List.getElem_toArray, List.getElem_cons_succ, List.getElem_cons_zero, Act.put, List.setIfInBounds_toArray, List.set_cons_zero, List.set_cons_succ]
        refine rg_take 9 (v := ?_) rfl (by kernel_rfl) (by kernel_rfl) (by kernel_rfl) hS rfl ?_ ?_
        rotate_left
        · intro wS hSw; go_simp; (with_reducible rfl)
        simp only [List.getElem_toArray, List.getElem_cons_succ, List.getElem_cons_zero, Act.put, List.setIfInBounds_toArray, List.set_cons_zero, List.set_cons_succ]
        refine rg_take 10 (v := ?_) rfl (by kernel_rfl) (by kernel_rfl) (by kernel_rfl) hS rfl ?_ ?_
        rotate_left
        · intro wS hSw; go_simp; (with_reducible rfl)
        simp only [List.getElem_toArray, List.getElem_cons_succ, List.getElem_cons_zero, Act.put, List.setIfInBounds_toArray, List.set_cons_zero, List.set_cons_succ]
        refine rg_take 11 (v := ?_) rfl (by kernel_rfl) (by kernel_rfl) (by kernel_rfl) hS rfl ?_ ?_
        rotate_left
        · intro wS hSw; go_simp; (with_reducible rfl)
        simp only [List.getElem_toArray, List.getElem_cons_succ, List.getElem_cons_zero, Act.put, List.setIfInBounds_toArray, List.set_cons_zero, List.set_cons_succ]
        refine rg_take 12 (v := ?_) rfl (by kernel_rfl) (by kernel_rfl) (by kernel_rfl) hS rfl ?_ ?_
        rotate_left
        · intro wS hSw; go_simp; (with_reducible rfl)
        simp only [List.getElem_toArray, List.getElem_cons_succ, List.getElem_cons_zero, Act.put, List.setIfInBounds_toArray, List.set_cons_zero, List.set_cons_succ]
        refine rg_take 13 (v := ?_) rfl (by kernel_rfl) (by kernel_rfl) (by kernel_rfl) hS rfl ?_ ?_
        rotate_left
        · intro wS hSw; go_simp; (with_reducible rfl)
        simp only [List.getElem_toArray, List.getElem_cons_succ, List.getElem_cons_zero, Act.put, List.setIfInBounds_toArray, List.set_cons_zero, List.set_cons_succ]
        refine rg_take 14 (v := ?_) rfl (by kernel_rfl) (by kernel_rfl) (by kernel_rfl) hS rfl ?_ ?_
        rotate_left
        · intro wS hSw; go_simp; (with_reducible rfl)
        simp only [List.getElem_toArray, List.getElem_cons_succ, List.getElem_cons_zero, Act.put, List.setIfInBounds_toArray, List.set_cons_zero, List.set_cons_succ]
        refine rg_take 15 (v := ?_) rfl (by kernel_rfl) (by kernel_rfl) (by kernel_rfl) hS rfl ?_ ?_
        rotate_left
        · intro wS hSw; go_simp; (with_reducible rfl)
        simp only [List.getElem_toArray, List.getElem_cons_succ, List.getElem_cons_zero, Act.put, List.setIfInBounds_toArray, List.set_cons_zero, List.set_cons_succ]
        refine rg_take 16 (v := ?_) rfl (by kernel_rfl) (by kernel_rfl) (by kernel_rfl) hS rfl ?_ ?_
        rotate_left
        · intro wS hSw; go_simp; (with_reducible rfl)
        simp only [List.getElem_toArray, List.getElem_cons_succ, List.getElem_cons_zero, Act.put, List.setIfInBounds_toArray, List.set_cons_zero, List.set_cons_succ]
        refine rg_take 17 (v := ?_) rfl (by kernel_rfl) (by kernel_rfl) (by kernel_rfl) hS rfl ?_ ?_
        rotate_left
        · intro wS hSw; go_simp; (with_reducible rfl)
        simp only [List.getElem_toArray, List.getElem_cons_succ, List.getElem_cons_zero, Act.put, List.setIfInBounds_toArray, List.set_cons_zero, List.set_cons_succ]
        refine rg_one 18 rfl (by kernel_rfl) rfl (fun K hK => ?_)
        go_simp
        refine hK _ _ (hkeep _ ((grownOf ((Below.refl wq.heap.size wq).alloc (Nat.le_refl _) _) _).trans (grownDrew _ _))) ?_
        clear hK K
        refine rg_one 19 rfl (by kernel_rfl) rfl (fun K hK => ?_)
        refine op_push (ops := #[]) (W := wq.drew) slR Try.underlying58 rfl rfl rfl rfl (max lf sf) (min lt st) rfl rfl hoq (by omega) hszq ?_
        intro A4 c4 w4 ho4 hg4 hb4 hB4
        have hsz4 : w.heap.size + 1 ≤ w4.heap.size := Nat.le_trans hszq hg4.size
        have hBn : Below w.heap.size w w4 := (below_drewN hBq 1).trans (hB4.mono (by omega))
        simp only [List.getElem_toArray, List.getElem_cons_succ, List.getElem_cons_zero, Act.put, List.setIfInBounds_toArray, List.set_cons_zero, List.set_cons_succ]
        refine hK _ _ (hkeep _ ((grownDrew wq _).trans hg4)) ?_
        clear hK K
        have hS4 := hkeep _ ((grownDrew wq _).trans hg4)
        simp only at hS4
        refine rg_take 20 (v := ?_) rfl (by kernel_rfl) (by kernel_rfl) (by kernel_rfl) hS4 rfl ?_ ?_
        rotate_left
        · intro wS hSw; go_simp; (with_reducible rfl)
        simp only [List.getElem_toArray, List.getElem_cons_succ, List.getElem_cons_zero, Act.put, List.setIfInBounds_toArray, List.set_cons_zero, List.set_cons_succ]
        refine rg_end (by kernel_rfl) ?_
        go_wp2_with (first | (with_reducible refine hold_append ?_) | (with_reducible refine hold_make ?_) | (with_reducible refine hold_copy ?_))
        exact ⟨⟨j + 1, c4, A4, out ++ [(max lf sf, min lt st)], by go_num, by simp, by omega, by omega, by simp; omega, HS.out, by simpa using ho4, hS4.1, hS4.2.1, hsz4, hBn⟩, by simp [intOf]; omega⟩
      · have hd1 : decide ((lf : Int) ≤ (st : Int)) = false := by simp; omega
        have HS : Hid (spOver (sf, st) l = out) := Lib.hid (by rw [HO.out, HD.out, spClip, if_neg h1]; simp)
        go_wp2_with (first | (with_reducible refine hold_append ?_) | (with_reducible refine hold_make ?_) | (with_reducible refine hold_copy ?_))
        go_quiet (fail)
        go_wp2_with (first | (with_reducible refine hold_append ?_) | (with_reducible refine hold_make ?_) | (with_reducible refine hold_copy ?_))
        go_ret
        rw [HS.out]
        exact ⟨A2, c2, rfl, ho.base_le (by omega), below_drewN hBr _⟩
    · have hdlt : decide ((j : Int) < (n : Int)) = false := by simp; omega
      have HS : Hid (spOver (sf, st) l = out) := Lib.hid (by rw [HO.out, List.drop_of_length_le (by omega)]; simp [spClip])
      go_wp2_with (first | (with_reducible refine hold_append ?_) | (with_reducible refine hold_make ?_) | (with_reducible refine hold_copy ?_))
      go_quiet (fail)
      go_wp2_with (first | (with_reducible refine hold_append ?_) | (with_reducible refine hold_make ?_) | (with_reducible refine hold_copy ?_))
      go_ret
      rw [HS.out]
      exact ⟨A2, c2, rfl, ho.base_le (by omega), below_drewN hBr _⟩
end Go.PH

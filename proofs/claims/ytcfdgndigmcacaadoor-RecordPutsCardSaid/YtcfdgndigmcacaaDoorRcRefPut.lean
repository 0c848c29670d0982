/- The walks of the reference's Head and Put. -/
import Derived.Test.YtcfdgndigmcacaaDoorRcPut
import Derived.Test.YtcfdgndigmcacaaDoorCrcWalk2
import Derived.Test.YtcfdgndigmcacaaDoorOctRefNum
namespace Go.PH
open Go.RowKit Go.Proofs

set_option maxRecDepth 20000 in
set_option maxHeartbeats 1000000 in
theorem rhead_any (r : Rc) (w : World) (hw : r.wf) (hl : r.data.length ≤ 140737488351232) :
    Calls Tryd.prog 18 #[.agg (rcV r)] w fun e w' => ∃ A2 c2, e = .returned (.slice A2 9 c2) ∧ Own w' w.heap.size 5 1 A2 9 c2 ((seal' r.hd).map u8v) ∧ Below w.heap.size w w' := by
  have HHD : Hid (r.hd = [UInt8.ofNat r.kind] ++ be 4 r.data.length) := Lib.hid rfl
  obtain ⟨kd, dt⟩ := r
  simp only [Rc.wf] at hw hl HHD
  unfold rcV
  simp only
  have hss := str_size dt
  obtain ⟨D, hD⟩ : ∃ D, D = dt.length := ⟨_, rfl⟩
  have hwu : IntKind.u64.wrap ((str dt).size : Int) = (D : Int) := by rw [hss, ← hD]; exact IntWalk.u64_in _ ⟨by omega, by omega⟩
  rw [← hD] at HHD hl
  clear hss hD
  generalize Rc.hd ⟨kd, dt⟩ = hd at *
  have hB0 : Below w.heap.size w (w.alloc (.cells #[.int .u8 (kd : Int), .string (str dt)] 33)) := (Below.refl _ _).alloc (Nat.le_refl _) _
  have hb0 : Box (w.alloc (.cells #[.int .u8 (kd : Int), .string (str dt)] 33)) w.heap.size 33 #[.int .u8 (kd : Int), .string (str dt)] := Box.new _ _ _
  go_enter Tryd.func18, Tryd.ntmps18
  go_wp2_with (first | (with_reducible refine hold_append ?_) | (with_reducible refine hold_make ?_) | (with_reducible refine hold_copy ?_))
  obtain ⟨w0, hw0⟩ : ∃ w0, w0 = (w.alloc (.cells #[.int .u8 (kd : Int), .string (str dt)] 33)).drew := ⟨_, rfl⟩
  have hS : w0.cell? ⟨w.heap.size, 0, none⟩ = some (.int .u8 (kd : Int)) ∧ w0.cell? ⟨w.heap.size, 1, none⟩ = some (.string (str dt)) := by rw [hw0]; exact ⟨hb0.cell (j := 0) rfl, hb0.cell (j := 1) rfl⟩
  have hBd : Below w.heap.size w w0 := by rw [hw0]; exact below_drewN hB0 1
  refine rg_start (fun wx => wx.cell? ⟨w.heap.size, 0, none⟩ = some (.int .u8 (kd : Int)) ∧ wx.cell? ⟨w.heap.size, 1, none⟩ = some (.string (str dt))) (by kernel_rfl) ?_
  rw [← hw0]
  clear hw0 hB0 hb0
  refine rg_take 0 (v := ?_) rfl (by kernel_rfl) (by kernel_rfl) (by kernel_rfl) hS rfl ?_ ?_
  rotate_left
  · intro wS hSw; go_simp; (with_reducible rfl)
  simp only [List.getElem_toArray, List.getElem_cons_zero, Act.put, List.setIfInBounds_toArray, List.set_cons_zero, List.set_cons_succ]
  refine rg_take 1 (v := ?_) rfl (by kernel_rfl) (by kernel_rfl) (by kernel_rfl) hS rfl ?_ ?_
  rotate_left
  · intro wS hSw; go_simp; (with_reducible rfl)
  simp only [List.getElem_toArray, List.getElem_cons_succ, List.getElem_cons_zero, Act.put, List.setIfInBounds_toArray, List.set_cons_zero, List.set_cons_succ]
  refine rg_take 3 (v := ?_) rfl (by kernel_rfl) (by kernel_rfl) (by kernel_rfl) hS rfl ?_ ?_
  rotate_left
  · intro wS hSw; go_simp; (with_reducible rfl)
  simp only [List.getElem_toArray, List.getElem_cons_succ, List.getElem_cons_zero, Act.put, List.setIfInBounds_toArray, List.set_cons_zero, List.set_cons_succ]
  refine rg_take 4 (v := ?_) rfl (by kernel_rfl) (by kernel_rfl) (by kernel_rfl) hS rfl ?_ ?_
  rotate_left
  · intro wS hSw; go_simp; (with_reducible rfl)
  simp only [List.getElem_toArray, List.getElem_cons_succ, List.getElem_cons_zero, Act.put, List.setIfInBounds_toArray, List.set_cons_zero, List.set_cons_succ]
  refine rg_take 5 (v := ?_) rfl (by kernel_rfl) (by kernel_rfl) (by kernel_rfl) hS rfl ?_ ?_
  rotate_left
  · intro wS hSw; go_simp; (with_reducible rfl)
  simp only [List.getElem_toArray, List.getElem_cons_succ, List.getElem_cons_zero, Act.put, List.setIfInBounds_toArray, List.set_cons_zero, List.set_cons_succ]
  refine rg_take 6 (v := ?_) rfl (by kernel_rfl) (by kernel_rfl) (by kernel_rfl) hS rfl ?_ ?_
  rotate_left
  · intro wS hSw; go_simp; (with_reducible rfl)
  simp only [List.getElem_toArray, List.getElem_cons_succ, List.getElem_cons_zero, Act.put, List.setIfInBounds_toArray, List.set_cons_zero, List.set_cons_succ]
  have hz0 : w.heap.size + 1 ≤ w0.heap.size := World.block_lt_of_cell? _ _ hS.1
  have hlitA : ∀ W : World, w.heap.size + 1 ≤ W.heap.size → Own (W.alloc (.cells #[.int .u8 (kd : Int)] 5)) (w.heap.size + 1) 5 1 (some ⟨W.heap.size, 0, none⟩) 1 1 ([UInt8.ofNat kd].map u8v) := fun W h => by
    rw [show [UInt8.ofNat kd].map u8v = (#[Value.int .u8 (kd : Int)] : Array Value).toList from by rw [kind_u8v hw]; rfl]
    exact own_lit (w := W) (w.heap.size + 1) #[.int .u8 (kd : Int)] 5 1 h (by simp [maxLen]) rfl (size := 1) (by omega)
  refine rg_two 2 7 rfl rfl (by kernel_rfl) rfl rfl (fun K hK => ?_) (fun K hK => ?_)
  · go_simp
    have hlit := hlitA w0 hz0
    have hBl : Below w.heap.size w (w0.alloc (.cells #[.int .u8 (kd : Int)] 5)) := hBd.alloc hBd.size _
    have hSl := And.intro ((((Below.refl w0.heap.size w0).alloc (Nat.le_refl _) (.cells #[.int .u8 (kd : Int)] 5)).cell (World.block_lt_of_cell? _ _ hS.1)).trans hS.1) ((((Below.refl w0.heap.size w0).alloc (Nat.le_refl _) (.cells #[.int .u8 (kd : Int)] 5)).cell (World.block_lt_of_cell? _ _ hS.2)).trans hS.2)
    refine hK _ _ hSl ?_; clear hK K
    refine rg_one 7 rfl (by kernel_rfl) rfl (fun K hK => ?_)
    go_simp
    refine (rnumber_any D 4 _ (by omega) (by omega)).mono ?_
    rintro e wn ⟨An, cn, rfl, hon, hBn⟩
    have hBm := hBl.trans (hBn.mono hBl.size)
    have hok := own_below hlit hBn
    have hSm : wn.cell? ⟨w.heap.size, 0, none⟩ = some (.int .u8 (kd : Int)) ∧ wn.cell? ⟨w.heap.size, 1, none⟩ = some (.string (str dt)) := ⟨(hBn.cell (World.block_lt_of_cell? _ _ hSl.1)).trans hSl.1, (hBn.cell (World.block_lt_of_cell? _ _ hSl.2)).trans hSl.2⟩
    have hzm : w.heap.size + 1 ≤ wn.heap.size := World.block_lt_of_cell? _ _ hSm.1
    clear hlit hSl hBl hBn
    refine hK _ _ hSm ?_; clear hK K
    refine rg_one 8 rfl (by kernel_rfl) rfl (fun K hK => ?_)
    refine op_app (ops := #[]) slB Tryd.underlying31 rfl rfl rfl hok hon.rd (map_one _) (by omega) (by simp [maxLen]) hzm ?_
    intro A5 c5 w5 ho5 hg5 _
    have hB5 := hBm.grown hg5 hBm.size (fun g hg => by have := (hok.blk_lt hg).1; omega)
    have hS5 : w5.cell? ⟨w.heap.size, 0, none⟩ = some (.int .u8 (kd : Int)) ∧ w5.cell? ⟨w.heap.size, 1, none⟩ = some (.string (str dt)) := ⟨(hg5.cell hSm.1 (fun e => by have := (hok.blk_lt e.symm).1; simp only at this; omega)), (hg5.cell hSm.2 (fun e => by have := (hok.blk_lt e.symm).1; simp only at this; omega))⟩
    rw [← List.map_append] at ho5
    simp only [List.getElem_toArray, List.getElem_cons_succ, List.getElem_cons_zero, Act.put, List.setIfInBounds_toArray, List.set_cons_zero, List.set_cons_succ]
    refine hK _ _ hS5 ?_; clear hK K
    refine rg_one 9 rfl (by kernel_rfl) rfl (fun K hK => ?_)
    go_simp
    refine (rseal_any A5 5 c5 _ w5 ho5.rd (by omega)).mono ?_
    rintro e w6 ⟨A6, c6, rfl, ho6, hB6⟩
    have hB7 := hB5.trans (hB6.mono hB5.size)
    have hS6 : w6.cell? ⟨w.heap.size, 0, none⟩ = some (.int .u8 (kd : Int)) ∧ w6.cell? ⟨w.heap.size, 1, none⟩ = some (.string (str dt)) := ⟨(hB6.cell (World.block_lt_of_cell? _ _ hS5.1)).trans hS5.1, (hB6.cell (World.block_lt_of_cell? _ _ hS5.2)).trans hS5.2⟩
    refine hK _ _ hS6 ?_; clear hK K
    refine rg_take 10 (v := ?_) rfl (by kernel_rfl) (by kernel_rfl) (by kernel_rfl) hS6 rfl ?_ ?_
    rotate_left
    · intro wS hSw; go_simp; (with_reducible rfl)
    simp only [List.getElem_toArray, List.getElem_cons_succ, List.getElem_cons_zero, Act.put, List.setIfInBounds_toArray, List.set_cons_zero, List.set_cons_succ]
    refine rg_end (by kernel_rfl) ?_
    go_wp2_with (first | (with_reducible refine hold_append ?_) | (with_reducible refine hold_make ?_) | (with_reducible refine hold_copy ?_))
    go_ret
    rw [HHD.out]
    exact ⟨A6, c6, rfl, ho6.base_le hB5.size, hB7⟩
  · go_simp
    refine (rnumber_any D 4 _ (by omega) (by omega)).mono ?_
    rintro e wn ⟨An, cn, rfl, hon, hBn⟩
    have hBm0 := hBd.trans (hBn.mono hBd.size)
    have hSm0 : wn.cell? ⟨w.heap.size, 0, none⟩ = some (.int .u8 (kd : Int)) ∧ wn.cell? ⟨w.heap.size, 1, none⟩ = some (.string (str dt)) := ⟨(hBn.cell (World.block_lt_of_cell? _ _ hS.1)).trans hS.1, (hBn.cell (World.block_lt_of_cell? _ _ hS.2)).trans hS.2⟩
    have hzm0 : w.heap.size + 1 ≤ wn.heap.size := World.block_lt_of_cell? _ _ hSm0.1
    refine hK _ _ hSm0 ?_; clear hK K
    refine rg_one 2 rfl (by kernel_rfl) rfl (fun K hK => ?_)
    go_simp
    have hok := hlitA wn hzm0
    have hBm : Below w.heap.size w (wn.alloc (.cells #[.int .u8 (kd : Int)] 5)) := hBm0.alloc hBm0.size _
    have hSm := And.intro ((((Below.refl wn.heap.size wn).alloc (Nat.le_refl _) (.cells #[.int .u8 (kd : Int)] 5)).cell (World.block_lt_of_cell? _ _ hSm0.1)).trans hSm0.1) ((((Below.refl wn.heap.size wn).alloc (Nat.le_refl _) (.cells #[.int .u8 (kd : Int)] 5)).cell (World.block_lt_of_cell? _ _ hSm0.2)).trans hSm0.2)
    have hzm : w.heap.size + 1 ≤ (wn.alloc (.cells #[.int .u8 (kd : Int)] 5)).heap.size := World.block_lt_of_cell? _ _ hSm.1
    have hon : Own (wn.alloc (.cells #[.int .u8 (kd : Int)] 5)) w0.heap.size 5 1 An 4 cn ((be 4 D).map u8v) := hon.alloc _
    clear hSm0 hBm0
    refine hK _ _ hSm ?_; clear hK K
    refine rg_one 8 rfl (by kernel_rfl) rfl (fun K hK => ?_)
    refine op_app (ops := #[]) slB Tryd.underlying31 rfl rfl rfl hok hon.rd (map_one _) (by omega) (by simp [maxLen]) hzm ?_
    intro A5 c5 w5 ho5 hg5 _
    have hB5 := hBm.grown hg5 hBm.size (fun g hg => by have := (hok.blk_lt hg).1; omega)
    have hS5 : w5.cell? ⟨w.heap.size, 0, none⟩ = some (.int .u8 (kd : Int)) ∧ w5.cell? ⟨w.heap.size, 1, none⟩ = some (.string (str dt)) := ⟨(hg5.cell hSm.1 (fun e => by have := (hok.blk_lt e.symm).1; simp only at this; omega)), (hg5.cell hSm.2 (fun e => by have := (hok.blk_lt e.symm).1; simp only at this; omega))⟩
    rw [← List.map_append] at ho5
    simp only [List.getElem_toArray, List.getElem_cons_succ, List.getElem_cons_zero, Act.put, List.setIfInBounds_toArray, List.set_cons_zero, List.set_cons_succ]
    refine hK _ _ hS5 ?_; clear hK K
    refine rg_one 9 rfl (by kernel_rfl) rfl (fun K hK => ?_)
    go_simp
    refine (rseal_any A5 5 c5 _ w5 ho5.rd (by omega)).mono ?_
    rintro e w6 ⟨A6, c6, rfl, ho6, hB6⟩
    have hB7 := hB5.trans (hB6.mono hB5.size)
    have hS6 : w6.cell? ⟨w.heap.size, 0, none⟩ = some (.int .u8 (kd : Int)) ∧ w6.cell? ⟨w.heap.size, 1, none⟩ = some (.string (str dt)) := ⟨(hB6.cell (World.block_lt_of_cell? _ _ hS5.1)).trans hS5.1, (hB6.cell (World.block_lt_of_cell? _ _ hS5.2)).trans hS5.2⟩
    refine hK _ _ hS6 ?_; clear hK K
    refine rg_take 10 (v := ?_) rfl (by kernel_rfl) (by kernel_rfl) (by kernel_rfl) hS6 rfl ?_ ?_
    rotate_left
    · intro wS hSw; go_simp; (with_reducible rfl)
    simp only [List.getElem_toArray, List.getElem_cons_succ, List.getElem_cons_zero, Act.put, List.setIfInBounds_toArray, List.set_cons_zero, List.set_cons_succ]
    refine rg_end (by kernel_rfl) ?_
    go_wp2_with (first | (with_reducible refine hold_append ?_) | (with_reducible refine hold_make ?_) | (with_reducible refine hold_copy ?_))
    go_ret
    rw [HHD.out]
    exact ⟨A6, c6, rfl, ho6.base_le hB5.size, hB7⟩
end Go.PH

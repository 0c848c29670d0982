/- The walks of the reference's Check, bit and Put of frames. -/
import Derived.Test.YtgjdpgihehpecaaFrPut
import Derived.Test.YtgjdpgihehpecaaOctRefNum
namespace Go.PH
open Go.RowKit Go.Proofs

set_option maxRecDepth 20000 in
theorem rcheck_any (f : Fr) (w : World) (hw : f.wf) (hl : f.load.length ≤ 140737488351232) :
    Calls Try.prog 18 #[.agg (frV f)] w fun e w' => e = .returned (.int .i64 f.err) ∧ Below w.heap.size w w' := by
  obtain ⟨b1, b2, b3, b4, ty, tr, ch, ld⟩ := f
  obtain ⟨h1, h2, h3⟩ := hw
  simp only at h1 h2 h3 hl
  have hB : Below w.heap.size w (w.alloc (.cells #[.bool b1, .bool b2, .bool b3, .bool b4, .int .u8 (ty : Int), .int .u8 (tr : Int), .int .u16 (ch : Int), .string (str ld)] 24)) := (Below.refl _ _).alloc (Nat.le_refl _) _
  have hss := str_size ld
  by_cases c1 : 3 < ty
  · have hd1 : (3 : Int) < (ty : Int) := by omega
    have he : Fr.err ⟨b1, b2, b3, b4, ty, tr, ch, ld⟩ = 60 := by simp [Fr.err, Fr.ok]; omega
    rw [he]
    unfold frV
    go_enter Try.func18, Try.ntmps18
    go_wp2_with (first | (with_reducible refine hold_append ?_) | (with_reducible refine hold_make ?_) | (with_reducible refine hold_copy ?_))
    go_ret
    exact ⟨rfl, hB⟩
  · have hd1 : decide ((3 : Int) < (ty : Int)) = false := by simp; omega
    by_cases c2 : 15 < tr
    · have hd2 : (15 : Int) < (tr : Int) := by omega
      have he : Fr.err ⟨b1, b2, b3, b4, ty, tr, ch, ld⟩ = 60 := by simp [Fr.err, Fr.ok]; omega
      rw [he]
      unfold frV
      go_enter Try.func18, Try.ntmps18
      go_wp2_with (first | (with_reducible refine hold_append ?_) | (with_reducible refine hold_make ?_) | (with_reducible refine hold_copy ?_))
      go_ret
      exact ⟨rfl, hB⟩
    · have hd2 : decide ((15 : Int) < (tr : Int)) = false := by simp; omega
      by_cases c3 : 4084 < ld.length
      · have hd3 : (4084 : Int) < ((str ld).size : Int) := by omega
        have he : Fr.err ⟨b1, b2, b3, b4, ty, tr, ch, ld⟩ = 60 := by simp [Fr.err, Fr.ok]; omega
        rw [he]
        clear hss
        unfold frV
        go_enter Try.func18, Try.ntmps18
        go_wp2_with (first | (with_reducible refine hold_append ?_) | (with_reducible refine hold_make ?_) | (with_reducible refine hold_copy ?_))
        go_ret
        exact ⟨rfl, hB⟩
      · have hd3 : ¬ (4084 : Int) < ((str ld).size : Int) := by omega
        have he : Fr.err ⟨b1, b2, b3, b4, ty, tr, ch, ld⟩ = 0 := by simp [Fr.err, Fr.ok]; omega
        rw [he]
        clear hss
        unfold frV
        go_enter Try.func18, Try.ntmps18
        go_wp2_with (first | (with_reducible refine hold_append ?_) | (with_reducible refine hold_make ?_) | (with_reducible refine hold_copy ?_))
        go_ret
        exact ⟨rfl, hB⟩

theorem bit_any (b : Bool) (n : Nat) (w : World) : Calls Try.prog 19 #[.bool b, .int .u8 n] w fun e w' => e = .returned (.int .u8 (bitv b n)) ∧ w' = w := by
  cases b
  · have e1 : bitv false n = 0 := rfl
    rw [e1]
    go_enter Try.func19, Try.ntmps19
    go_wp2_with (first | (with_reducible refine hold_append ?_) | (with_reducible refine hold_make ?_) | (with_reducible refine hold_copy ?_))
    go_ret
    exact ⟨rfl, rfl⟩
  · have e1 : bitv true n = n := rfl
    rw [e1]
    go_enter Try.func19, Try.ntmps19
    go_wp2_with (first | (with_reducible refine hold_append ?_) | (with_reducible refine hold_make ?_) | (with_reducible refine hold_copy ?_))
    go_ret
    exact ⟨rfl, rfl⟩
theorem bitv_le (b : Bool) (n : Nat) : bitv b n ≤ n := by cases b <;> simp [bitv]
set_option maxRecDepth 20000 in
set_option maxHeartbeats 1000000 in
theorem rfput_any (f : Fr) (w : World) (hw : f.wf) (hl : f.load.length ≤ 140737488351232) :
    Calls Try.prog 9 #[.agg (frV f)] w fun e w' => ∃ A2 c2, e = .returned (.tuple #[.slice A2 f.put.length c2, .int .i64 f.err]) ∧ Own w' w.heap.size 5 1 A2 f.put.length c2 (f.put.map u8v) ∧ Below w.heap.size w w' := by
  have hck := fun W => rcheck_any f W hw hl
  have hfb := f.flags_lt
  cases hok : f.ok
  · have e1 : f.put = [] := by simp [Fr.put, hok]
    have e2 : f.err = 60 := by simp [Fr.err, hok]
    rw [e1, e2]
    rw [e2] at hck
    clear hok e1 e2
    obtain ⟨b1, b2, b3, b4, ty, tr, ch, ld⟩ := f
    unfold frV at hck ⊢
    simp only at hck
    have hB0 : Below w.heap.size w (w.alloc (.cells #[.bool b1, .bool b2, .bool b3, .bool b4, .int .u8 (ty : Int), .int .u8 (tr : Int), .int .u16 (ch : Int), .string (str ld)] 24)) := (Below.refl _ _).alloc (Nat.le_refl _) _
    go_enter Try.func9, Try.ntmps9
    go_wp2_with (first | (with_reducible refine hold_append ?_) | (with_reducible refine hold_make ?_) | (with_reducible refine hold_copy ?_))
    refine (hck _).mono ?_
    rintro e w1 ⟨rfl, hB1⟩
    have hB2 := hB0.trans (hB1.mono hB0.size)
    go_wp2_with (first | (with_reducible refine hold_append ?_) | (with_reducible refine hold_make ?_) | (with_reducible refine hold_copy ?_))
    go_ret2
    exact ⟨none, 0, rfl, Own.none_ _ _ _ _, hB2⟩
  · have e1 : f.put = f.bytes := by simp [Fr.put, hok]
    have e2 : f.err = 0 := by simp [Fr.err, hok]
    have hln : f.load.length ≤ 4084 := by simp [Fr.ok] at hok; omega
    have HBY : Hid (f.bytes = (((([UInt8.ofNat f.flags, UInt8.ofNat f.ty] ++ be 2 (12 + f.load.length)) ++ [0, UInt8.ofNat f.track]) ++ be 2 f.chan) ++ [0, 0, 0, 0]) ++ f.load) := Lib.hid (by rw [Fr.bytes])
    have HFL : Hid (f.flags = bitv f.first 8 + bitv f.last 4 + bitv f.beg 2 + bitv f.fin 1) := Lib.hid rfl
    rw [e1, e2]
    rw [e2] at hck
    clear hok e1 e2 hl
    generalize f.flags = fl at *
    generalize hby : f.bytes = by_ at *
    clear hby
    obtain ⟨b1, b2, b3, b4, ty, tr, ch, ld⟩ := f
    unfold frV at hck ⊢
    obtain ⟨hty, htr, hch⟩ := hw
    simp only at hck hln HBY HFL hty htr hch
    have hB0 : Below w.heap.size w (w.alloc (.cells #[.bool b1, .bool b2, .bool b3, .bool b4, .int .u8 (ty : Int), .int .u8 (tr : Int), .int .u16 (ch : Int), .string (str ld)] 24)) := (Below.refl _ _).alloc (Nat.le_refl _) _
    have hb0 := box_new (w := w) (b1 := b1) (b2 := b2) (b3 := b3) (b4 := b4) (ty := ty) (tr := tr) (ch := ch) (ld := ld)
    simp only at hb0
    have hss := str_size ld
    have k1 := bitv_le b1 8
    have k2 := bitv_le b2 4
    have k3 := bitv_le b3 2
    have k4 := bitv_le b4 1
    have hbi := fun W => (⟨bit_any b1 8 W, bit_any b2 4 W, bit_any b3 2 W, bit_any b4 1 W⟩ : _ ∧ _ ∧ _ ∧ _)
    generalize bitv b1 8 = v1 at *
    generalize bitv b2 4 = v2 at *
    generalize bitv b3 2 = v3 at *
    generalize bitv b4 1 = v4 at *
    have hfs : (v1 : Int) + (v2 : Int) + (v3 : Int) + (v4 : Int) = (fl : Int) := by have := HFL.out; omega
    have hwa : IntKind.u8.wrap ((v1 : Int) + (v2 : Int)) = (v1 : Int) + (v2 : Int) := IntWalk.u8_in _ ⟨by omega, by omega⟩
    have hwb : IntKind.u8.wrap ((v1 : Int) + (v2 : Int) + (v3 : Int)) = (v1 : Int) + (v2 : Int) + (v3 : Int) := IntWalk.u8_in _ ⟨by omega, by omega⟩
    have hwc : IntKind.u8.wrap ((v1 : Int) + (v2 : Int) + (v3 : Int) + (v4 : Int)) = (fl : Int) := by rw [hfs]; exact IntWalk.u8_in _ ⟨by omega, by omega⟩
    clear hfs
    have hw12 : IntKind.i64.wrap (12 + (ld.length : Int)) = ((12 + ld.length : Nat) : Int) := by rw [IntWalk.i64_in _ ⟨by omega, by omega⟩]; omega
    have hw13 : IntKind.u64.wrap ((12 + ld.length : Nat) : Int) = ((12 + ld.length : Nat) : Int) := IntWalk.u64_in _ ⟨by omega, by omega⟩
    obtain ⟨L12, hL12⟩ : ∃ L12, L12 = 12 + ld.length := ⟨_, rfl⟩
    rw [← hL12] at hw12 hw13 HBY
    have hL := Lib.hid hL12
    have hLb : L12 < 65536 := by omega
    clear hL12
    go_enter Try.func9, Try.ntmps9
    go_wp2_with (first | (with_reducible refine hold_append ?_) | (with_reducible refine hold_make ?_) | (with_reducible refine hold_copy ?_))
    refine (hck _).mono ?_
    rintro e w1 ⟨rfl, hB1⟩
    have hB2 := hB0.trans (hB1.mono hB0.size)
    have hb1 := box_below hb0 hB1
    clear hb0 hB0 hB1 hck
    have hS1 : w1.drew.cell? ⟨w.heap.size, 0, none⟩ = some (.bool b1) ∧ w1.drew.cell? ⟨w.heap.size, 1, none⟩ = some (.bool b2) ∧ w1.drew.cell? ⟨w.heap.size, 2, none⟩ = some (.bool b3) ∧ w1.drew.cell? ⟨w.heap.size, 3, none⟩ = some (.bool b4) ∧ w1.drew.cell? ⟨w.heap.size, 4, none⟩ = some (.int .u8 (ty : Int)) ∧ w1.drew.cell? ⟨w.heap.size, 5, none⟩ = some (.int .u8 (tr : Int)) ∧ w1.drew.cell? ⟨w.heap.size, 6, none⟩ = some (.int .u16 (ch : Int)) ∧ w1.drew.cell? ⟨w.heap.size, 7, none⟩ = some (.string (str ld)) := hb1
    have hB2d := below_drewN hB2 1
    go_wp2_with (first | (with_reducible refine hold_append ?_) | (with_reducible refine hold_make ?_) | (with_reducible refine hold_copy ?_))
    refine rg_start (fun wx => wx.cell? ⟨w.heap.size, 0, none⟩ = some (.bool b1) ∧ wx.cell? ⟨w.heap.size, 1, none⟩ = some (.bool b2) ∧ wx.cell? ⟨w.heap.size, 2, none⟩ = some (.bool b3) ∧ wx.cell? ⟨w.heap.size, 3, none⟩ = some (.bool b4) ∧ wx.cell? ⟨w.heap.size, 4, none⟩ = some (.int .u8 (ty : Int)) ∧ wx.cell? ⟨w.heap.size, 5, none⟩ = some (.int .u8 (tr : Int)) ∧ wx.cell? ⟨w.heap.size, 6, none⟩ = some (.int .u16 (ch : Int)) ∧ wx.cell? ⟨w.heap.size, 7, none⟩ = some (.string (str ld))) (by kernel_rfl) ?_
    refine rg_take 0 (v := ?_) rfl (by kernel_rfl) (by kernel_rfl) (by kernel_rfl) hS1 rfl ?_ ?_
    rotate_left
    · intro wS hSw; go_simp; (with_reducible rfl)
    simp only [List.getElem_toArray, List.getElem_cons_zero, Act.put, List.setIfInBounds_toArray, List.set_cons_zero, List.set_cons_succ]
    refine rg_take 1 (v := ?_) rfl (by kernel_rfl) (by kernel_rfl) (by kernel_rfl) hS1 rfl ?_ ?_
    rotate_left
    · intro wS hSw; go_simp; (with_reducible rfl)
    simp only [List.getElem_toArray, List.getElem_cons_succ, List.getElem_cons_zero, Act.put, List.setIfInBounds_toArray, List.set_cons_zero, List.set_cons_succ]
    refine rg_take 3 (v := ?_) rfl (by kernel_rfl) (by kernel_rfl) (by kernel_rfl) hS1 rfl ?_ ?_
    rotate_left
    · intro wS hSw; go_simp; (with_reducible rfl)
    simp only [List.getElem_toArray, List.getElem_cons_succ, List.getElem_cons_zero, Act.put, List.setIfInBounds_toArray, List.set_cons_zero, List.set_cons_succ]
    refine rg_take 4 (v := ?_) rfl (by kernel_rfl) (by kernel_rfl) (by kernel_rfl) hS1 rfl ?_ ?_
    rotate_left
    · intro wS hSw; go_simp; (with_reducible rfl)
    simp only [List.getElem_toArray, List.getElem_cons_succ, List.getElem_cons_zero, Act.put, List.setIfInBounds_toArray, List.set_cons_zero, List.set_cons_succ]
    refine rg_take 7 (v := ?_) rfl (by kernel_rfl) (by kernel_rfl) (by kernel_rfl) hS1 rfl ?_ ?_
    rotate_left
    · intro wS hSw; go_simp; (with_reducible rfl)
    simp only [List.getElem_toArray, List.getElem_cons_succ, List.getElem_cons_zero, Act.put, List.setIfInBounds_toArray, List.set_cons_zero, List.set_cons_succ]
    refine rg_take 8 (v := ?_) rfl (by kernel_rfl) (by kernel_rfl) (by kernel_rfl) hS1 rfl ?_ ?_
    rotate_left
    · intro wS hSw; go_simp; (with_reducible rfl)
    simp only [List.getElem_toArray, List.getElem_cons_succ, List.getElem_cons_zero, Act.put, List.setIfInBounds_toArray, List.set_cons_zero, List.set_cons_succ]
    refine rg_take 11 (v := ?_) rfl (by kernel_rfl) (by kernel_rfl) (by kernel_rfl) hS1 rfl ?_ ?_
    rotate_left
    · intro wS hSw; go_simp; (with_reducible rfl)
    simp only [List.getElem_toArray, List.getElem_cons_succ, List.getElem_cons_zero, Act.put, List.setIfInBounds_toArray, List.set_cons_zero, List.set_cons_succ]
    refine rg_take 12 (v := ?_) rfl (by kernel_rfl) (by kernel_rfl) (by kernel_rfl) hS1 rfl ?_ ?_
    rotate_left
    · intro wS hSw; go_simp; (with_reducible rfl)
    simp only [List.getElem_toArray, List.getElem_cons_succ, List.getElem_cons_zero, Act.put, List.setIfInBounds_toArray, List.set_cons_zero, List.set_cons_succ]
    refine rg_take 15 (v := ?_) rfl (by kernel_rfl) (by kernel_rfl) (by kernel_rfl) hS1 rfl ?_ ?_
    rotate_left
    · intro wS hSw; go_simp; (with_reducible rfl)
    simp only [List.getElem_toArray, List.getElem_cons_succ, List.getElem_cons_zero, Act.put, List.setIfInBounds_toArray, List.set_cons_zero, List.set_cons_succ]
    refine rg_take 16 (v := ?_) rfl (by kernel_rfl) (by kernel_rfl) (by kernel_rfl) hS1 rfl ?_ ?_
    rotate_left
    · intro wS hSw; go_simp; (with_reducible rfl)
    simp only [List.getElem_toArray, List.getElem_cons_succ, List.getElem_cons_zero, Act.put, List.setIfInBounds_toArray, List.set_cons_zero, List.set_cons_succ]
    refine rg_one 2 rfl (by kernel_rfl) rfl (fun K hK => ?_)
    go_simp
    refine (hbi w1.drew).1.mono ?_
    rintro e w2 ⟨rfl, rfl⟩
    refine hK _ _ hS1 ?_; clear hK K
    refine rg_one 5 rfl (by kernel_rfl) rfl (fun K hK => ?_)
    go_simp
    refine (hbi w1.drew).2.1.mono ?_
    rintro e w2 ⟨rfl, rfl⟩
    refine hK _ _ hS1 ?_; clear hK K
    refine rg_take 6 (v := ?_) rfl (by kernel_rfl) (by kernel_rfl) (by kernel_rfl) hS1 rfl ?_ ?_
    rotate_left
    · intro wS hSw; go_simp; (with_reducible rfl)
    simp only [List.getElem_toArray, List.getElem_cons_succ, List.getElem_cons_zero, Act.put, List.setIfInBounds_toArray, List.set_cons_zero, List.set_cons_succ]
    refine rg_one 9 rfl (by kernel_rfl) rfl (fun K hK => ?_)
    go_simp
    refine (hbi w1.drew).2.2.1.mono ?_
    rintro e w2 ⟨rfl, rfl⟩
    refine hK _ _ hS1 ?_; clear hK K
    refine rg_take 10 (v := ?_) rfl (by kernel_rfl) (by kernel_rfl) (by kernel_rfl) hS1 rfl ?_ ?_
    rotate_left
    · intro wS hSw; go_simp; (with_reducible rfl)
    simp only [List.getElem_toArray, List.getElem_cons_succ, List.getElem_cons_zero, Act.put, List.setIfInBounds_toArray, List.set_cons_zero, List.set_cons_succ]
    refine rg_one 13 rfl (by kernel_rfl) rfl (fun K hK => ?_)
    go_simp
    refine (hbi w1.drew).2.2.2.mono ?_
    rintro e w2 ⟨rfl, rfl⟩
    refine hK _ _ hS1 ?_; clear hK K
    refine rg_take 14 (v := ?_) rfl (by kernel_rfl) (by kernel_rfl) (by kernel_rfl) hS1 rfl ?_ ?_
    rotate_left
    · intro wS hSw; go_simp; (with_reducible rfl)
    simp only [List.getElem_toArray, List.getElem_cons_succ, List.getElem_cons_zero, Act.put, List.setIfInBounds_toArray, List.set_cons_zero, List.set_cons_succ]
    have hz1 : w.heap.size + 1 ≤ w1.drew.heap.size := World.block_lt_of_cell? _ _ hS1.1
    have hlit1 : Own (w1.drew.alloc (.cells #[.int .u8 (fl : Int), .int .u8 (ty : Int)] 5)) (w.heap.size + 1) 5 1 (some ⟨w1.drew.heap.size, 0, none⟩) 2 2 ([UInt8.ofNat fl, UInt8.ofNat ty].map u8v) := by
      have h := own_lit (w := w1.drew) (w.heap.size + 1) #[.int .u8 (fl : Int), .int .u8 (ty : Int)] 5 2 hz1 (by simp [maxLen]) rfl (size := 1) (by omega)
      rw [u8_of (show fl < 256 by omega), u8_of hty] at h ⊢
      exact h
    have hBl1 : Below w.heap.size w (w1.drew.alloc (.cells #[.int .u8 (fl : Int), .int .u8 (ty : Int)] 5)) := hB2d.alloc hB2d.size _
    have hSl1 := box_below hS1 ((Below.refl w1.drew.heap.size w1.drew).alloc (Nat.le_refl _) (.cells #[.int .u8 (fl : Int), .int .u8 (ty : Int)] 5))
    have hzl1 : w.heap.size + 1 ≤ (w1.drew.alloc (.cells #[.int .u8 (fl : Int), .int .u8 (ty : Int)] 5)).heap.size := World.block_lt_of_cell? _ _ hSl1.1
    refine rg_one 17 rfl (by kernel_rfl) rfl (fun K hK => ?_)
    go_simp
    refine hK _ _ hSl1 ?_
    clear hK K
    refine rg_take 18 (v := ?_) rfl (by kernel_rfl) (by kernel_rfl) (by kernel_rfl) hSl1 rfl ?_ ?_
    rotate_left
    · intro wS hSw; go_simp; (with_reducible rfl)
    simp only [List.getElem_toArray, List.getElem_cons_succ, List.getElem_cons_zero, Act.put, List.setIfInBounds_toArray, List.set_cons_zero, List.set_cons_succ]
    refine rg_end (by kernel_rfl) ?_
    have hl0 : [UInt8.ofNat fl, UInt8.ofNat ty].length = 2 := rfl
    generalize [UInt8.ofNat fl, UInt8.ofNat ty] = o0 at *
    have hcl : (w1.alloc (.cells #[.int .u8 (fl : Int), .int .u8 (ty : Int)] 5)).drew = w1.drew.alloc (.cells #[.int .u8 (fl : Int), .int .u8 (ty : Int)] 5) := rfl
    rw [hcl]
    have hgp : (some (⟨w1.heap.size, 0, none⟩ : Addr)) = some ⟨w1.drew.heap.size, 0, none⟩ := rfl
    rw [hgp]
    generalize w1.drew.alloc (.cells #[.int .u8 (fl : Int), .int .u8 (ty : Int)] 5) = wa at *
    generalize some (⟨w1.drew.heap.size, 0, none⟩ : Addr) = Aa at *
    clear hcl hgp hS1 hb1 hB2 hB2d hz1
    clear hbi k1 k2 k3 k4 hwa hwb hwc
    go_wp2_with (first | (with_reducible refine hold_append ?_) | (with_reducible refine hold_make ?_) | (with_reducible refine hold_copy ?_))
    refine (rnumber_any L12 2 wa (by omega) (by omega)).mono ?_
    rintro e wnA ⟨AnA, cnA, rfl, honA, hBnA⟩
    have hBmA := hBl1.trans (hBnA.mono hBl1.size)
    have hSmA := box_below hSl1 hBnA
    have hokA := own_below hlit1 hBnA
    have hzmA : w.heap.size + 1 ≤ wnA.heap.size := World.block_lt_of_cell? _ _ hSmA.1
    clear hlit1 hSl1 hBl1 hBnA
    go_wp2_with (first | (with_reducible refine hold_append ?_) | (with_reducible refine hold_make ?_) | (with_reducible refine hold_copy ?_))
    refine unhold (wp_app slB rfl rfl rfl rfl hokA honA.rd (map_one _) (by omega) (by simp [maxLen]) hzmA ?_)
    intro AA cA wA hoA hgA _
    have hBA := hBmA.grown hgA hBmA.size (fun g hg => by have := (hokA.blk_lt hg).1; omega)
    have hSA := box_keep hSmA hgA (fun e => by have := (hokA.blk_lt e.symm).1; omega)
    rw [← List.map_append] at hoA
    have hzA : w.heap.size + 1 ≤ wA.heap.size := World.block_lt_of_cell? _ _ hSA.1
    have hlA : (o0 ++ be 2 L12).length = 4 := by simp [be_length, hl0]
    clear hokA honA hSmA hBmA hgA
    clear hl0
    generalize o0 ++ be 2 L12 = oA at *
    have hlitB : Own (wA.alloc (.cells #[.int .u8 0, .int .u8 (tr : Int)] 5)) (w.heap.size + 1) 5 1 (some ⟨wA.heap.size, 0, none⟩) 2 2 ([0, UInt8.ofNat tr].map u8v) := by
      have h := own_lit (w := wA) (w.heap.size + 1) #[.int .u8 0, .int .u8 (tr : Int)] 5 2 hzA (by simp [maxLen]) rfl (size := 1) (by omega)
      rw [u8_of htr] at h ⊢
      exact h
    have hBmB : Below w.heap.size w (wA.alloc (.cells #[.int .u8 0, .int .u8 (tr : Int)] 5)) := hBA.alloc hBA.size _
    have hSmB := box_below hSA ((Below.refl wA.heap.size wA).alloc (Nat.le_refl _) (.cells #[.int .u8 0, .int .u8 (tr : Int)] 5))
    have hokB : Own (wA.alloc (.cells #[.int .u8 0, .int .u8 (tr : Int)] 5)) (w.heap.size + 1) 5 1 AA (2 + 2) cA (oA.map u8v) := hoA.alloc (.cells #[.int .u8 0, .int .u8 (tr : Int)] 5)
    have hzmB : w.heap.size + 1 ≤ (wA.alloc (.cells #[.int .u8 0, .int .u8 (tr : Int)] 5)).heap.size := World.block_lt_of_cell? _ _ hSmB.1
    go_wp2_with (first | (with_reducible refine hold_append ?_) | (with_reducible refine hold_make ?_) | (with_reducible refine hold_copy ?_))
    refine unhold (wp_app slB rfl rfl rfl rfl hokB hlitB.rd (map_one _) (by omega) (by simp [maxLen]) hzmB ?_)
    intro AB cB wB hoB hgB _
    have hBB := hBmB.grown hgB hBmB.size (fun g hg => by have := (hokB.blk_lt hg).1; omega)
    have hSB := box_keep hSmB hgB (fun e => by have := (hokB.blk_lt e.symm).1; omega)
    rw [← List.map_append] at hoB
    have hzB : w.heap.size + 1 ≤ wB.heap.size := World.block_lt_of_cell? _ _ hSB.1
    have hlB : (oA ++ [0, UInt8.ofNat tr]).length = 6 := by simp [hlA]
    clear hokB hlitB hSmB hBmB hgB hoA hSA hBA hzmB
    clear hlA
    generalize oA ++ [0, UInt8.ofNat tr] = oB at *
    have hwch : IntKind.u64.wrap ((ch : Nat) : Int) = (ch : Int) := IntWalk.u64_in _ ⟨by omega, by omega⟩
    go_wp2_with (first | (with_reducible refine hold_append ?_) | (with_reducible refine hold_make ?_) | (with_reducible refine hold_copy ?_))
    refine (rnumber_any ch 2 wB (by omega) (by omega)).mono ?_
    rintro e wnC ⟨AnC, cnC, rfl, honC, hBnC⟩
    have hBmC := hBB.trans (hBnC.mono hBB.size)
    have hSmC := box_below hSB hBnC
    have hokC := own_below hoB hBnC
    have hzmC : w.heap.size + 1 ≤ wnC.heap.size := World.block_lt_of_cell? _ _ hSmC.1
    clear hoB hSB hBB hBnC
    go_wp2_with (first | (with_reducible refine hold_append ?_) | (with_reducible refine hold_make ?_) | (with_reducible refine hold_copy ?_))
    refine unhold (wp_app slB rfl rfl rfl rfl hokC honC.rd (map_one _) (by omega) (by simp [maxLen]) hzmC ?_)
    intro AC cC wC hoC hgC _
    have hBC := hBmC.grown hgC hBmC.size (fun g hg => by have := (hokC.blk_lt hg).1; omega)
    have hSC := box_keep hSmC hgC (fun e => by have := (hokC.blk_lt e.symm).1; omega)
    rw [← List.map_append] at hoC
    have hzC : w.heap.size + 1 ≤ wC.heap.size := World.block_lt_of_cell? _ _ hSC.1
    have hlC : (oB ++ be 2 ch).length = 8 := by simp [be_length, hlB]
    clear hokC honC hSmC hBmC hgC
    clear hlB
    generalize oB ++ be 2 ch = oC at *
    have hlitD : Own (wC.alloc (.cells #[.int .u8 0, .int .u8 0, .int .u8 0, .int .u8 0] 5)) (w.heap.size + 1) 5 1 (some ⟨wC.heap.size, 0, none⟩) 4 4 ([(0 : UInt8), 0, 0, 0].map u8v) := by
      have h := own_lit (w := wC) (w.heap.size + 1) #[.int .u8 0, .int .u8 0, .int .u8 0, .int .u8 0] 5 4 hzC (by simp [maxLen]) rfl (size := 1) (by omega)
      skip
      exact h
    have hBmD : Below w.heap.size w (wC.alloc (.cells #[.int .u8 0, .int .u8 0, .int .u8 0, .int .u8 0] 5)) := hBC.alloc hBC.size _
    have hSmD := box_below hSC ((Below.refl wC.heap.size wC).alloc (Nat.le_refl _) (.cells #[.int .u8 0, .int .u8 0, .int .u8 0, .int .u8 0] 5))
    have hokD : Own (wC.alloc (.cells #[.int .u8 0, .int .u8 0, .int .u8 0, .int .u8 0] 5)) (w.heap.size + 1) 5 1 AC (2 + 2 + 2 + 2) cC (oC.map u8v) := hoC.alloc (.cells #[.int .u8 0, .int .u8 0, .int .u8 0, .int .u8 0] 5)
    have hzmD : w.heap.size + 1 ≤ (wC.alloc (.cells #[.int .u8 0, .int .u8 0, .int .u8 0, .int .u8 0] 5)).heap.size := World.block_lt_of_cell? _ _ hSmD.1
    go_wp2_with (first | (with_reducible refine hold_append ?_) | (with_reducible refine hold_make ?_) | (with_reducible refine hold_copy ?_))
    refine unhold (wp_app slB rfl rfl rfl rfl hokD hlitD.rd (map_one _) (by omega) (by simp [maxLen]) hzmD ?_)
    intro AD cD wD hoD hgD _
    have hBD := hBmD.grown hgD hBmD.size (fun g hg => by have := (hokD.blk_lt hg).1; omega)
    have hSD := box_keep hSmD hgD (fun e => by have := (hokD.blk_lt e.symm).1; omega)
    rw [← List.map_append] at hoD
    have hzD : w.heap.size + 1 ≤ wD.heap.size := World.block_lt_of_cell? _ _ hSD.1
    have hlD : (oC ++ [(0 : UInt8), 0, 0, 0]).length = 12 := by simp [hlC]
    clear hokD hlitD hSmD hBmD hgD hoC hSC hBC hzmD
    clear hlC
    generalize oC ++ [(0 : UInt8), 0, 0, 0] = oD at *
    go_wp2_with (first | (with_reducible refine hold_append ?_) | (with_reducible refine hold_make ?_) | (with_reducible refine hold_copy ?_))
    refine unhold (wp_app_str slB Try.underlying9 rfl rfl rfl rfl hoD (by omega) hzD ?_)
    intro A10 c10 w10 ho10 hg10
    have hB10 := hBD.grown hg10 hBD.size (fun g hg => by have := (hoD.blk_lt hg).1; omega)
    rw [← List.map_append] at ho10
    have ho10' := ho10.base_le (Nat.le_succ _)
    have hlf : by_.length = 12 + ld.length := by rw [HBY.out, List.length_append, hlD]
    have HLF := Lib.hid hlf
    clear hlf hlD
    go_wp2_with (first | (with_reducible refine hold_append ?_) | (with_reducible refine hold_make ?_) | (with_reducible refine hold_copy ?_))
    go_ret2
    rw [HLF.out, HBY.out]
    exact ⟨A10, c10, rfl, ho10', hB10⟩
end Go.PH

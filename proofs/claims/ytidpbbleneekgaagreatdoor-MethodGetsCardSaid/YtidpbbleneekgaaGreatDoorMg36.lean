/- Texts laid together: XdRefGetM. -/
import Derived.Test.YtidpbbleneekgaaGreatDoorMg03
import Derived.Test.YtidpbbleneekgaaGreatDoorMg22
set_option linter.all false
set_option linter.unusedSimpArgs false
set_option linter.unusedVariables false
section
/- The walk of the document's Get of names. -/
namespace Go.PH
open Go.RowKit Go.Proofs

theorem Qrd.cells {F : Nat → Prop} {w : World} {b : Nat} {l : List UInt8} {bad : Bool} (h : Qrd F w b l bad) : ∃ A c, w.cell? ⟨b, 0, none⟩ = some (.slice A l.length c) ∧ w.cell? ⟨b, 1, none⟩ = some (.bool bad) := by
 obtain ⟨A, n, c, h0, h1, _, _, hr, _⟩ := h
 rw [hr.length]
 exact ⟨A, c, h0, h1⟩
set_option maxRecDepth 20000 in
set_option maxHeartbeats 4000000 in
theorem rxdget_any (A : Option Addr) (n c : Nat) (l : List UInt8) (w : World) (hr : RdB w w.heap.size A n c l) (hn : n ≤ 140737488351232) :
  Calls Tryz.prog 54 #[.slice A n c] w fun e w' => e = .returned (.tuple #[.agg (xdV (getR l).1), .int .i64 ((getR l).2.1 : Nat), .int .i64 ((getR l).2.2 : Nat)]) ∧ Below w.heap.size w w' := by
 have hB0 : Below w.heap.size w (w.alloc (.cells zx 44)) := (Below.refl _ _).alloc (Nat.le_refl _) _
 have hb0 : Box (w.alloc (.cells zx 44)) w.heap.size 44 zx := Box.new _ _ _
 have hr0 : RdB (w.alloc (.cells zx 44)) (w.alloc (.cells zx 44)).heap.size A n c l := (hr.below hB0).more hB0.size
 have hz0 : w.heap.size < (w.alloc (.cells zx 44)).heap.size := hb0.lt
 have hop := qopen_any A n c l _ hr0 (by omega)
 have hnl : l.length = n := hr.length
 have h4 := mnum4_lt l
 have HG : Hid (getR l = if (getX l).2.2 = true then (xd00, 0, 4) else if (getX l).1.ok = true then ((getX l).1, l.length - (getX l).2.1.length, 0) else (xd00, 0, 40)) := Lib.hid rfl
 have HX : Hid (getX l = (⟨(mnum l false 4).1 % 4294967296, (getT (mnum l false 4).2.1 (mnum l false 4).2.2).1, (getT (getT (mnum l false 4).2.1 (mnum l false 4).2.2).2.1 (getT (mnum l false 4).2.1 (mnum l false 4).2.2).2.2).1⟩,
  (getT (getT (mnum l false 4).2.1 (mnum l false 4).2.2).2.1 (getT (mnum l false 4).2.1 (mnum l false 4).2.2).2.2).2)) := Lib.hid rfl
 have hxl := getX_le l
 generalize getR l = GR at *
 have hn1 := fun F b W (h : Qrd F W b l false) => qnum_any h 4 (by omega) (by omega)
 generalize mnum l false 4 = m1 at *
 obtain ⟨f, l1, b1⟩ := m1
 simp only at hn1 HX h4
 have hn2 := fun F b W (h : Qrd F W b l1 b1) => qtext_any h 1 255 (by omega) (by omega) (by omega) (by omega)
 rw [show mtext l1 b1 1 255 = getT l1 b1 from rfl] at hn2
 generalize getT l1 b1 = m2 at *
 obtain ⟨s1, l2, b2⟩ := m2
 simp only at hn2 HX
 have hn3 := fun F b W (h : Qrd F W b l2 b2) => qtext_any h 1 255 (by omega) (by omega) (by omega) (by omega)
 rw [show mtext l2 b2 1 255 = getT l2 b2 from rfl] at hn3
 generalize getT l2 b2 = m3 at *
 obtain ⟨s2, l3, b3⟩ := m3
 simp only at hn3 HX
 rw [Nat.mod_eq_of_lt h4] at HX
 rw [HX.out] at hxl HG
 simp only at hxl HG
 obtain ⟨hx1, hx2, hx3⟩ := hxl
 have hwf : IntKind.u32.wrap ((f : Nat) : Int) = (f : Int) := IntWalk.u32_in _ ⟨by omega, by omega⟩
 have hck := fun W => rcheck_any ⟨f, s1, s2⟩ W ⟨h4, by show s1.length ≤ _; omega, by show s2.length ≤ _; omega⟩
 unfold xdV at hck
 simp only at hck
 clear HX
 rw [zx_eq] at hB0 hb0 hop hz0
 go_enter Tryz.func54, Tryz.ntmps54
 go_wp2_with (with_reducible refine h_A ?_)
 refine hop.mono ?_
 rintro e w1 ⟨vb, rfl, hvb, hR1, hB1⟩
 have hb1 := hb0.below hB1
 replace hB1 := hB0.trans (hB1.mono hB0.size)
 generalize (w.alloc (.cells #[.int .u32 0, .string ⟨#[]⟩, .string ⟨#[]⟩] 44)).heap.size = N1 at *
 clear hop hB0 hb0 hr0
 go_wp2_with (with_reducible refine h_A ?_)
 refine (hn1 _ _ _ hR1).mono ?_
 rintro e w2 ⟨rfl, hR2, hg2⟩
 have hb2 := hb1.grown hg2 (sne (by omega))
 have hB2 := hB1.grown hg2 hB1.size (fun g hg => by injection hg with hg; omega)
 have hz2 : w1.heap.size ≤ w2.heap.size := hg2.size
 have hlv := hR2.inF.2
 clear hn1 hR1 hb1 hB1 hg2
 go_wp2_with (with_reducible refine h_A ?_)
 refine (hn2 _ _ _ hR2).mono ?_
 rintro e w4 ⟨rfl, hR4, hg4⟩
 have hb4 := hb2.grown hg4 (sne (by omega))
 have hB4 := hB2.grown hg4 hB2.size (fun g hg => by injection hg with hg; omega)
 have hz4 : w1.heap.size ≤ w4.heap.size := Nat.le_trans hz2 hg4.size
 clear hn2 hR2 hb2 hB2 hg4
 go_wp2_with (with_reducible refine h_A ?_)
 refine (hn3 _ _ _ hR4).mono ?_
 rintro e w6 ⟨rfl, hR6, hg6⟩
 have hb6 := hb4.grown hg6 (sne (by omega))
 have hB6 := hB4.grown hg6 hB4.size (fun g hg => by injection hg with hg; omega)
 have hz6 : w1.heap.size ≤ w6.heap.size := Nat.le_trans hz4 hg6.size
 clear hn3 hR4 hb4 hB4 hg6
 obtain ⟨A3, c3, hc0, hc1⟩ := hR6.cells
 cases b3
 ·have hbx := Box.new w6 #[.int .u32 (f : Int), .string (str s1), .string (str s2)] 44
  have hb7a := hb6.alloc (.cells #[.int .u32 (f : Int), .string (str s1), .string (str s2)] 44)
  have hB7a := hB6.alloc hB6.size (.cells #[.int .u32 (f : Int), .string (str s1), .string (str s2)] 44)
  have hR7a := hR6.below ((Below.refl w6.heap.size w6).alloc (Nat.le_refl _) (.cells #[.int .u32 (f : Int), .string (str s1), .string (str s2)] 44))
  have hzx : w.heap.size < w6.heap.size := hb6.lt
  obtain ⟨g2, hg2⟩ : ∃ g2, g2 = w6.heap.size := ⟨_, rfl⟩
  rw [← hg2] at hbx
  have hge1 : w1.heap.size ≤ g2 := by omega
  have hge2 : w.heap.size < g2 := by omega
  clear hb6 hB6 hR6
  go_wp2_with (with_reducible refine h_A ?_)
  rw [← hg2]
  clear hg2 hc0 hc1
  obtain ⟨w7, hw7⟩ : ∃ w7, w7 = w6.alloc (.cells #[.int .u32 (f : Int), .string (str s1), .string (str s2)] 44) := ⟨_, rfl⟩
  rw [← hw7] at hbx hb7a hB7a hR7a ⊢
  have hbx7 : Box w7 g2 44 #[.int .u32 (f : Int), .string (str s1), .string (str s2)] := hbx
  have hb7 : Box w7 w.heap.size 44 zx := hb7a
  have hB7 : Below w.heap.size w w7 := hB7a
  have hR7 : Qrd (fun g => N1 ≤ g ∧ g < w1.heap.size) w7 vb l3 false := hR7a
  clear hbx hb7a hB7a hR7a hw7
  have k0 := hbx7.c0
  have k1 := hbx7.c1
  have k2 := hbx7.c2
  cases hok : Xd.ok ⟨f, s1, s2⟩
  ·have HF := Lib.hid (show GR = (xd00, 0, 40) by rw [HG.out, if_neg (by simp), if_neg (by rw [hok]; simp)])
   rw [Xd.err_no hok] at hck
   clear HG hok
   refine (hck _).mono ?_
   rintro e w9 ⟨rfl, hB9⟩
   have hb9 := hb7.below hB9
   have hB09 := hB7.trans (hB9.mono hB7.size)
   go_wp2_with (first | (with_reducible refine hold_append ?_) | (with_reducible refine hold_make ?_) | (with_reducible refine hold_copy ?_) | (with_reducible refine hold_slice ?_) | (with_reducible refine hold_conv (s := 9) (t := 22) ?_) | (with_reducible refine hold_store ?_))
   refine unhold (wp_box (v := .agg zx) (vs := zx.toList) rfl rfl rfl rfl hb9 rfl (by kernel_rfl) (by decide) (by decide) zx rfl ?_)
   intro wz hbz hgz _
   have hBz := Below.grown hB09 hgz (Below.size hB09) (fun g hg => by injection hg with hg; omega)
   go_wp2_with (with_reducible refine h_A ?_)
   (try simp only [Exit.inBlock, Exit.then])
   refine ret_box_tmp2x rfl hbz rfl rfl rfl Tryz.underlying44 rfl (by kernel_rfl) rfl ?_
   rw [HF.out, xd00_V]
   exact ⟨rfl, hBz⟩
  ·have HF := Lib.hid (show GR = (⟨f, s1, s2⟩, l.length - l3.length, 0) by rw [HG.out, if_neg (by simp), if_pos hok])
   rw [Xd.err_ok hok] at hck
   clear HG hok
   refine (hck _).mono ?_
   rintro e w9 ⟨rfl, hB9⟩
   have hb9 := hb7.below hB9
   have hbx9 := hbx7.below hB9
   have hR9 := hR7.below hB9
   obtain ⟨A9, c9, hd0, hd1⟩ := hR9.cells
   have hB09 := hB7.trans (hB9.mono hB7.size)
   clear hb7 hbx7 hR7 hB7 hB9 hck k0 k1 k2 hd1
   have hz9 := hb9.lt
   have hS : (Box w9.drew g2 44 #[.int .u32 (f : Int), .string (str s1), .string (str s2)] ∧ w9.drew.cell? ⟨vb, 0, none⟩ = some (.slice A9 l3.length c9)) ∧ Below w.heap.size w w9.drew := ⟨⟨hbx9, hd0⟩, below_drewN hB09 1⟩
   have hb10 : Box w9.drew w.heap.size 44 #[.int .u32 0, .string ⟨#[]⟩, .string ⟨#[]⟩] := hb9
   have hsub : IntKind.i64.wrap ((n : Int) - (l3.length : Int)) = ((l.length - l3.length : Nat) : Int) := by rw [IntWalk.i64_in _ ⟨by omega, by omega⟩]; omega
   go_wp2_with (with_reducible refine h_A ?_)
   refine rg_start (fun wx : World => (Box wx g2 44 #[.int .u32 (f : Int), .string (str s1), .string (str s2)] ∧ wx.cell? ⟨vb, 0, none⟩ = some (.slice A9 l3.length c9)) ∧ Below w.heap.size w wx) (by kernel_rfl) ?_
   clear hb9 hbx9 hR9 hB09 hz9 hd0
   generalize w9.drew = wd at *
   refine rg_take 0 (v := ?_) rfl (by kernel_rfl) (by kernel_rfl) (by kernel_rfl) hS rfl ?_ ?_
   rotate_left
   ·intro wS hSw; have k0 := hSw.1.1.cell (j := 0) rfl; have k1 := hSw.1.1.cell (j := 1) rfl; have k2 := hSw.1.1.cell (j := 2) rfl; go_simp; (with_reducible rfl)
   simp only [List.getElem_toArray, List.getElem_cons_zero, Act.put, List.setIfInBounds_toArray, List.set_cons_zero, List.set_cons_succ]
   refine rg_t 1 hS ?_
   simp only [g_S, Act.put]
   refine rg_t 2 hS ?_
   simp only [g_S, Act.put]
   refine rg_t 3 hS ?_
   simp only [g_S, Act.put]
   refine rg_t 4 hS ?_
   simp only [g_S, Act.put]
   refine rg_t 5 hS ?_
   simp only [g_S, Act.put]
   refine rg_take 6 (v := ?_) rfl (by kernel_rfl) (by kernel_rfl) (by kernel_rfl) hS rfl ?_ ?_
   rotate_left
   ·intro wS hSw; have k0 := hSw.1.2; go_simp; (with_reducible rfl)
   simp only [g_S, Act.put]
   refine rg_t 7 hS ?_
   simp only [g_S, Act.put]
   refine rg_t 8 hS ?_
   simp only [g_S, Act.put]
   refine rg_one 9 rfl (by kernel_rfl) rfl (fun K hK => ?_)
   refine op_box (v := .agg #[.int .u32 (f : Int), .string (str s1), .string (str s2)]) (vs := [.int .u32 (f : Int), .string (str s1), .string (str s2)]) rfl rfl rfl hb10 rfl (by kernel_rfl) (by simp) (by simp; exact ⟨rfl, rfl, rfl⟩) #[.int .u32 (f : Int), .string (str s1), .string (str s2)] (by simp) ?_
   intro wz hbz hgz _
   have hS2 : (Box wz g2 44 #[.int .u32 (f : Int), .string (str s1), .string (str s2)] ∧ wz.cell? ⟨vb, 0, none⟩ = some (.slice A9 l3.length c9)) ∧ Below w.heap.size w wz := ⟨⟨hS.1.1.grown hgz (sne (by omega)), hgz.cell hS.1.2 (fun e => by simp at e; omega)⟩, hS.2.grown hgz hS.2.size (fun g hg => by injection hg with hg; omega)⟩
   refine hK _ _ hS2 ?_
   clear hK K
   refine rg_t 10 hS2 ?_
   simp only [g_S, Act.put]
   refine rg_t 11 hS2 ?_
   simp only [g_S, Act.put]
   refine rg_end (by kernel_rfl) ?_
   go_wp2_with (with_reducible refine h_A ?_)
   (try simp only [Exit.inBlock, Exit.then])
   refine ret_box_tmp2x rfl hbz rfl rfl rfl Tryz.underlying44 rfl (by kernel_rfl) rfl ?_
   rw [HF.out]
   simp only [hnl]
   exact ⟨rfl, hS2.2⟩
 ·have HF := Lib.hid (show GR = (xd00, 0, 4) by rw [HG.out, if_pos rfl])
  clear HG
  go_wp2_with (first | (with_reducible refine hold_append ?_) | (with_reducible refine hold_make ?_) | (with_reducible refine hold_copy ?_) | (with_reducible refine hold_slice ?_) | (with_reducible refine hold_conv (s := 9) (t := 22) ?_) | (with_reducible refine hold_store ?_))
  refine unhold (wp_box (v := .agg zx) (vs := zx.toList) rfl rfl rfl rfl hb6 rfl (by kernel_rfl) (by decide) (by decide) zx rfl ?_)
  intro wz hbz hgz _
  have hBz := Below.grown hB6 hgz (Below.size hB6) (fun g hg => by injection hg with hg; omega)
  go_wp2_with (with_reducible refine h_A ?_)
  (try simp only [Exit.inBlock, Exit.then])
  refine ret_box_tmp2x rfl hbz rfl rfl rfl Tryz.underlying44 rfl (by kernel_rfl) rfl ?_
  rw [HF.out, xd00_V]
  exact ⟨rfl, hBz⟩
end Go.PH
end

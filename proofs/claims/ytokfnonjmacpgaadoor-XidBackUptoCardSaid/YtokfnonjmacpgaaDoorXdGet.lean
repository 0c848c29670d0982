/- The walk of names' Get. -/
import Derived.Test.YtokfnonjmacpgaaDoorXdPutMath
import Derived.Test.YtokfnonjmacpgaaDoorXdParse
import Derived.Test.YtokfnonjmacpgaaDoorOctReadText
import Derived.Test.YtokfnonjmacpgaaDoorBox2
set_option linter.all false
set_option linter.unusedSimpArgs false
set_option linter.unusedVariables false
namespace Go.PH
open Go.RowKit Go.Proofs

theorem xd00_V : xdV xd00 = zx := by unfold xdV xd00 zx; rfl
set_option maxRecDepth 20000 in
set_option maxHeartbeats 4000000 in
theorem xdget_any (A : Option Addr) (n c : Nat) (l : List UInt8) (w : World) (hr : RdB w w.heap.size A n c l) (hn : n ≤ 140737488351232) :
    Calls Tryd.prog 23 #[.slice A n c] w fun e w' => e = .returned (.tuple #[.agg (xdV (getR l).1), .int .i64 ((getR l).2.1 : Nat), .int .i64 ((getR l).2.2 : Nat)]) ∧ Below w.heap.size w w' := by
  have hB0 : Below w.heap.size w (w.alloc (.cells zx 24)) := (Below.refl _ _).alloc (Nat.le_refl _) _
  have hb0 : Box (w.alloc (.cells zx 24)) w.heap.size 24 zx := Box.new _ _ _
  have hr0 : RdB (w.alloc (.cells zx 24)) (w.alloc (.cells zx 24)).heap.size A n c l := (hr.below hB0).more hB0.size
  have hz0 : w.heap.size < (w.alloc (.cells zx 24)).heap.size := hb0.lt
  have hop := rdopen_any A n c l _ hr0 (by omega)
  have hnl : l.length = n := hr.length
  have h4 := mnum4_lt l
  have HG : Hid (getR l = if (getX l).2.2 = true then (xd00, 0, 4) else if (getX l).1.ok = true then ((getX l).1, l.length - (getX l).2.1.length, 0) else (xd00, 0, 40)) := Lib.hid rfl
  have HX : Hid (getX l = (⟨(mnum l false 4).1 % 4294967296, (getT (mnum l false 4).2.1 (mnum l false 4).2.2).1, (getT (getT (mnum l false 4).2.1 (mnum l false 4).2.2).2.1 (getT (mnum l false 4).2.1 (mnum l false 4).2.2).2.2).1⟩,
    (getT (getT (mnum l false 4).2.1 (mnum l false 4).2.2).2.1 (getT (mnum l false 4).2.1 (mnum l false 4).2.2).2.2).2)) := Lib.hid rfl
  have hxl := getX_le l
  generalize getR l = GR at *
  have hn1 := fun F v vb W (h : Rdr F W v vb l false) => rdnum_any h 4 (by omega) (by omega)
  generalize mnum l false 4 = m1 at *
  obtain ⟨f, l1, b1⟩ := m1
  simp only at hn1 HX h4
  have hn2 := fun F v vb W (h : Rdr F W v vb l1 b1) => rdtext_any h 1 255 (by omega) (by omega) (by omega) (by omega)
  rw [show mtext l1 b1 1 255 = getT l1 b1 from rfl] at hn2
  generalize getT l1 b1 = m2 at *
  obtain ⟨s1, l2, b2⟩ := m2
  simp only at hn2 HX
  have hn3 := fun F v vb W (h : Rdr F W v vb l2 b2) => rdtext_any h 1 255 (by omega) (by omega) (by omega) (by omega)
  rw [show mtext l2 b2 1 255 = getT l2 b2 from rfl] at hn3
  generalize getT l2 b2 = m3 at *
  obtain ⟨s2, l3, b3⟩ := m3
  simp only at hn3 HX
  rw [Nat.mod_eq_of_lt h4] at HX
  rw [HX.out] at hxl HG
  simp only at hxl HG
  obtain ⟨hx1, hx2, hx3⟩ := hxl
  have hwf : IntKind.u32.wrap ((f : Nat) : Int) = (f : Int) := IntWalk.u32_in _ ⟨by omega, by omega⟩
  have hck := fun W => check_any ⟨f, s1, s2⟩ W ⟨h4, by show s1.length ≤ _; omega, by show s2.length ≤ _; omega⟩
  unfold xdV at hck
  simp only at hck
  clear HX
  rw [zx_eq] at hB0 hb0 hop hz0
  go_enter Tryd.func23, Tryd.ntmps23
  go_wp2_with (first | (with_reducible refine hold_append ?_) | (with_reducible refine hold_make ?_) | (with_reducible refine hold_copy ?_))
  refine hop.mono ?_
  rintro e w1 ⟨rb, vb, rfl, hrbb, hvb, hR1, hB1⟩
  have hb1 := hb0.below hB1
  replace hB1 := hB0.trans (hB1.mono hB0.size)
  have hFv : ∀ W v l b, Rdr (fun g => (w.alloc (.cells #[.int .u32 0, .string ⟨#[]⟩, .string ⟨#[]⟩] 24)).heap.size ≤ g ∧ g < w1.heap.size) W v (some vb) l b → vb < w1.heap.size := fun W v l b h => (h.inF rfl).2
  generalize (w.alloc (.cells #[.int .u32 0, .string ⟨#[]⟩, .string ⟨#[]⟩] 24)).heap.size = N1 at *
  clear hop hB0 hb0 hr0
  go_wp2_with (first | (with_reducible refine hold_append ?_) | (with_reducible refine hold_make ?_) | (with_reducible refine hold_copy ?_))
  refine (hn1 _ _ _ _ hR1).mono ?_
  rintro e w2 ⟨rfl, hR2, hg2⟩
  have hb2 := hb1.grown hg2 (by intro e; injection e with e; omega)
  have hB2 := hB1.grown hg2 hB1.size (fun g hg => by injection hg with hg; omega)
  have hz2 : w1.heap.size ≤ w2.heap.size := hg2.size
  have hlv := hFv _ _ _ _ hR2
  clear hn1 hR1 hb1 hB1 hg2
  have hbx := Box.new w2 zx 24
  have hb2a := hb2.alloc (.cells zx 24)
  have hB2a := hB2.alloc hB2.size (.cells zx 24)
  have hR2a := hR2.below ((Below.refl w2.heap.size w2).alloc (Nat.le_refl _) (.cells zx 24))
  have hzx : w.heap.size < w2.heap.size := hb2.lt
  obtain ⟨g2, hg2⟩ : ∃ g2, g2 = w2.heap.size := ⟨_, rfl⟩
  rw [zx_eq] at hbx hb2a hB2a hR2a
  rw [← hg2] at hbx
  clear hb2 hB2 hR2
  have hge1 : w1.heap.size ≤ g2 := by omega
  have hge2 : w.heap.size < g2 := by omega
  go_wp2_with (first | (with_reducible refine hold_append ?_) | (with_reducible refine hold_make ?_) | (with_reducible refine hold_copy ?_) | (with_reducible refine hold_slice ?_) | (with_reducible refine hold_conv (s := 9) (t := 37) ?_) | (with_reducible refine hold_store ?_))
  rw [← hg2]
  clear hg2
  refine unhold (wp_box (v := .agg #[.int .u32 (f : Int), .string ⟨#[]⟩, .string ⟨#[]⟩]) (vs := [.int .u32 (f : Int), .string ⟨#[]⟩, .string ⟨#[]⟩]) rfl rfl rfl rfl hbx rfl (by kernel_rfl) (by simp) (by simp; exact ⟨rfl, rfl⟩) #[.int .u32 (f : Int), .string ⟨#[]⟩, .string ⟨#[]⟩] (by simp) ?_)
  intro w3 hbx3 hg3 _
  have hb3 := hb2a.grown hg3 (by intro e; injection e with e; omega)
  have hB3 := hB2a.grown hg3 hB2a.size (fun g hg => by injection hg with hg; omega)
  have hR3 := hR2a.kept hg3 (by rintro g ⟨rfl⟩ ⟨_, h⟩; omega)
  clear hbx hb2a hB2a hR2a hg3
  go_wp2_with (first | (with_reducible refine hold_append ?_) | (with_reducible refine hold_make ?_) | (with_reducible refine hold_copy ?_))
  refine (hn2 _ _ _ _ hR3).mono ?_
  rintro e w4 ⟨rfl, hR4, hg4⟩
  have hbx4 := hbx3.grown hg4 (by intro e; injection e with e; omega)
  have hb4 := hb3.grown hg4 (by intro e; injection e with e; omega)
  have hB4 := hB3.grown hg4 hB3.size (fun g hg => by injection hg with hg; omega)
  clear hn2 hR3 hbx3 hb3 hB3 hg4
  go_wp2_with (first | (with_reducible refine hold_append ?_) | (with_reducible refine hold_make ?_) | (with_reducible refine hold_copy ?_) | (with_reducible refine hold_slice ?_) | (with_reducible refine hold_conv (s := 9) (t := 37) ?_) | (with_reducible refine hold_store ?_))
  refine unhold (wp_box (v := .string (str s1)) (vs := [.string (str s1)]) rfl rfl rfl rfl hbx4 rfl (by kernel_rfl) (by simp) (by simp; rfl) #[.int .u32 (f : Int), .string (str s1), .string ⟨#[]⟩] (by simp) ?_)
  intro w5 hbx5 hg5 _
  have hb5 := hb4.grown hg5 (by intro e; injection e with e; omega)
  have hB5 := hB4.grown hg5 hB4.size (fun g hg => by injection hg with hg; omega)
  have hR5 := hR4.kept hg5 (by rintro g ⟨rfl⟩ ⟨_, h⟩; omega)
  clear hbx4 hb4 hB4 hR4 hg5
  go_wp2_with (first | (with_reducible refine hold_append ?_) | (with_reducible refine hold_make ?_) | (with_reducible refine hold_copy ?_))
  refine (hn3 _ _ _ _ hR5).mono ?_
  rintro e w6 ⟨rfl, hR6, hg6⟩
  have hbx6 := hbx5.grown hg6 (by intro e; injection e with e; omega)
  have hb6 := hb5.grown hg6 (by intro e; injection e with e; omega)
  have hB6 := hB5.grown hg6 hB5.size (fun g hg => by injection hg with hg; omega)
  clear hn3 hR5 hbx5 hb5 hB5 hg6
  go_wp2_with (first | (with_reducible refine hold_append ?_) | (with_reducible refine hold_make ?_) | (with_reducible refine hold_copy ?_) | (with_reducible refine hold_slice ?_) | (with_reducible refine hold_conv (s := 9) (t := 37) ?_) | (with_reducible refine hold_store ?_))
  refine unhold (wp_box (v := .string (str s2)) (vs := [.string (str s2)]) rfl rfl rfl rfl hbx6 rfl (by kernel_rfl) (by simp) (by simp; rfl) #[.int .u32 (f : Int), .string (str s1), .string (str s2)] (by simp) ?_)
  intro w7 hbx7 hg7 _
  have hb7 := hb6.grown hg7 (by intro e; injection e with e; omega)
  have hB7 := hB6.grown hg7 hB6.size (fun g hg => by injection hg with hg; omega)
  have hR7 := hR6.kept hg7 (by rintro g ⟨rfl⟩ ⟨_, h⟩; omega)
  clear hbx6 hb6 hB6 hR6 hg7
  go_wp2_with (first | (with_reducible refine hold_append ?_) | (with_reducible refine hold_make ?_) | (with_reducible refine hold_copy ?_))
  refine (rdbad_any hR7).mono ?_
  rintro e w8 ⟨rfl, rfl⟩
  cases b3
  · have k0 := hbx7.cell (j := 0) rfl
    have k1 := hbx7.cell (j := 1) rfl
    have k2 := hbx7.cell (j := 2) rfl
    go_wp2_with (first | (with_reducible refine hold_append ?_) | (with_reducible refine hold_make ?_) | (with_reducible refine hold_copy ?_))
    cases hok : Xd.ok ⟨f, s1, s2⟩
    · have HF := Lib.hid (show GR = (xd00, 0, 40) by rw [HG.out, if_neg (by simp), if_neg (by rw [hok]; simp)])
      rw [Xd.err_no hok] at hck
      clear HG hok
      refine (hck _).mono ?_
      rintro e w9 ⟨rfl, hB9⟩
      have hb9 := hb7.below hB9
      have hB09 := hB7.trans (hB9.mono hB7.size)
      go_wp2_with (first | (with_reducible refine hold_append ?_) | (with_reducible refine hold_make ?_) | (with_reducible refine hold_copy ?_) | (with_reducible refine hold_slice ?_) | (with_reducible refine hold_conv (s := 9) (t := 37) ?_) | (with_reducible refine hold_store ?_))
      refine unhold (wp_box (v := .agg zx) (vs := zx.toList) rfl rfl rfl rfl hb9 rfl (by kernel_rfl) (by decide) (by decide) zx rfl ?_)
      intro wz hbz hgz _
      have hBz := Below.grown hB09 hgz (Below.size hB09) (fun g hg => by injection hg with hg; omega)
      go_wp2_with (first | (with_reducible refine hold_append ?_) | (with_reducible refine hold_make ?_) | (with_reducible refine hold_copy ?_))
      (try simp only [Exit.inBlock, Exit.then])
      refine ret_box_tmp2x rfl hbz rfl rfl rfl Tryd.underlying24 rfl (by kernel_rfl) rfl ?_
      rw [HF.out, xd00_V]
      exact ⟨rfl, hBz⟩
    · have HF := Lib.hid (show GR = (⟨f, s1, s2⟩, l.length - l3.length, 0) by rw [HG.out, if_neg (by simp), if_pos hok])
      rw [Xd.err_ok hok] at hck
      clear HG hok
      refine (hck _).mono ?_
      rintro e w9 ⟨rfl, hB9⟩
      have hb9 := hb7.below hB9
      have hbx9 := hbx7.below hB9
      have hR9 := hR7.below hB9
      have hB09 := hB7.trans (hB9.mono hB7.size)
      clear hb7 hbx7 hR7 hB7 hB9 hck k0 k1 k2
      have hz9 := hb9.lt
      have hS : (Box w9.drew g2 24 #[.int .u32 (f : Int), .string (str s1), .string (str s2)] ∧ Rdr (fun g => N1 ≤ g ∧ g < w1.heap.size) w9.drew (.pointer (some ⟨rb, 0, none⟩)) (some vb) l3 false) ∧ Below w.heap.size w w9.drew := ⟨⟨hbx9, hR9.drew⟩, below_drewN hB09 1⟩
      have hb10 : Box w9.drew w.heap.size 24 #[.int .u32 0, .string ⟨#[]⟩, .string ⟨#[]⟩] := hb9
      have hsub : IntKind.i64.wrap ((n : Int) - (l3.length : Int)) = ((l.length - l3.length : Nat) : Int) := by rw [IntWalk.i64_in _ ⟨by omega, by omega⟩]; omega
      go_wp2_with (first | (with_reducible refine hold_append ?_) | (with_reducible refine hold_make ?_) | (with_reducible refine hold_copy ?_))
      refine rg_start (fun wx : World => (Box wx g2 24 #[.int .u32 (f : Int), .string (str s1), .string (str s2)] ∧ Rdr (fun g => N1 ≤ g ∧ g < w1.heap.size) wx (.pointer (some ⟨rb, 0, none⟩)) (some vb) l3 false) ∧ Below w.heap.size w wx) (by kernel_rfl) ?_
      clear hb9 hbx9 hR9 hB09 hz9
      generalize w9.drew = wd at *
      refine rg_take 0 (v := ?_) rfl (by kernel_rfl) (by kernel_rfl) (by kernel_rfl) hS rfl ?_ ?_
      rotate_left
      · intro wS hSw; have k0 := hSw.1.1.cell (j := 0) rfl; have k1 := hSw.1.1.cell (j := 1) rfl; have k2 := hSw.1.1.cell (j := 2) rfl; go_simp; (with_reducible rfl)
      simp only [List.getElem_toArray, List.getElem_cons_zero, Act.put, List.setIfInBounds_toArray, List.set_cons_zero, List.set_cons_succ]
      refine rg_take 1 (v := ?_) rfl (by kernel_rfl) (by kernel_rfl) (by kernel_rfl) hS rfl ?_ ?_
      rotate_left
      · intro wS hSw; go_simp; (with_reducible rfl)
      simp only [List.getElem_toArray, List.getElem_cons_succ, List.getElem_cons_zero, Act.put, List.setIfInBounds_toArray, List.set_cons_zero, List.set_cons_succ]
      refine rg_take 2 (v := ?_) rfl (by kernel_rfl) (by kernel_rfl) (by kernel_rfl) hS rfl ?_ ?_
      rotate_left
      · intro wS hSw; go_simp; (with_reducible rfl)
      simp only [List.getElem_toArray, List.getElem_cons_succ, List.getElem_cons_zero, Act.put, List.setIfInBounds_toArray, List.set_cons_zero, List.set_cons_succ]
      refine rg_take 3 (v := ?_) rfl (by kernel_rfl) (by kernel_rfl) (by kernel_rfl) hS rfl ?_ ?_
      rotate_left
      · intro wS hSw; go_simp; (with_reducible rfl)
      simp only [List.getElem_toArray, List.getElem_cons_succ, List.getElem_cons_zero, Act.put, List.setIfInBounds_toArray, List.set_cons_zero, List.set_cons_succ]
      refine rg_one 4 rfl (by kernel_rfl) rfl (fun K hK => ?_)
      go_simp
      refine (rdleft_any hS.1.2).mono ?_
      rintro e we ⟨rfl, rfl⟩
      refine hK _ _ hS ?_; clear hK K
      refine rg_take 5 (v := ?_) rfl (by kernel_rfl) (by kernel_rfl) (by kernel_rfl) hS rfl ?_ ?_
      rotate_left
      · intro wS hSw; go_simp; (with_reducible rfl)
      simp only [List.getElem_toArray, List.getElem_cons_succ, List.getElem_cons_zero, Act.put, List.setIfInBounds_toArray, List.set_cons_zero, List.set_cons_succ]
      refine rg_one 6 rfl (by kernel_rfl) rfl (fun K hK => ?_)
      refine op_box (v := .agg #[.int .u32 (f : Int), .string (str s1), .string (str s2)]) (vs := [.int .u32 (f : Int), .string (str s1), .string (str s2)]) rfl rfl rfl hb10 rfl (by kernel_rfl) (by simp) (by simp; exact ⟨rfl, rfl, rfl⟩) #[.int .u32 (f : Int), .string (str s1), .string (str s2)] (by simp) ?_
      intro wz hbz hgz _
      have hS2 : (Box wz g2 24 #[.int .u32 (f : Int), .string (str s1), .string (str s2)] ∧ Rdr (fun g => N1 ≤ g ∧ g < w1.heap.size) wz (.pointer (some ⟨rb, 0, none⟩)) (some vb) l3 false) ∧ Below w.heap.size w wz := ⟨⟨hS.1.1.grown hgz (by intro e; injection e with e; omega), hS.1.2.kept hgz (by rintro g ⟨rfl⟩ ⟨h, _⟩; omega)⟩, hS.2.grown hgz hS.2.size (fun g hg => by injection hg with hg; omega)⟩
      refine hK _ _ hS2 ?_
      clear hK K
      refine rg_take 7 (v := ?_) rfl (by kernel_rfl) (by kernel_rfl) (by kernel_rfl) hS2 rfl ?_ ?_
      rotate_left
      · intro wS hSw; go_simp; (with_reducible rfl)
      simp only [List.getElem_toArray, List.getElem_cons_succ, List.getElem_cons_zero, Act.put, List.setIfInBounds_toArray, List.set_cons_zero, List.set_cons_succ]
      refine rg_take 8 (v := ?_) rfl (by kernel_rfl) (by kernel_rfl) (by kernel_rfl) hS2 rfl ?_ ?_
      rotate_left
      · intro wS hSw; go_simp; (with_reducible rfl)
      simp only [List.getElem_toArray, List.getElem_cons_succ, List.getElem_cons_zero, Act.put, List.setIfInBounds_toArray, List.set_cons_zero, List.set_cons_succ]
      refine rg_end (by kernel_rfl) ?_
      go_wp2_with (first | (with_reducible refine hold_append ?_) | (with_reducible refine hold_make ?_) | (with_reducible refine hold_copy ?_))
      (try simp only [Exit.inBlock, Exit.then])
      refine ret_box_tmp2x rfl hbz rfl rfl rfl Tryd.underlying24 rfl (by kernel_rfl) rfl ?_
      rw [HF.out]
      simp only [hnl]
      exact ⟨rfl, hS2.2⟩
  · have HF := Lib.hid (show GR = (xd00, 0, 4) by rw [HG.out, if_pos rfl])
    clear HG
    go_wp2_with (first | (with_reducible refine hold_append ?_) | (with_reducible refine hold_make ?_) | (with_reducible refine hold_copy ?_) | (with_reducible refine hold_slice ?_) | (with_reducible refine hold_conv (s := 9) (t := 37) ?_) | (with_reducible refine hold_store ?_))
    refine unhold (wp_box (v := .agg zx) (vs := zx.toList) rfl rfl rfl rfl hb7 rfl (by kernel_rfl) (by decide) (by decide) zx rfl ?_)
    intro wz hbz hgz _
    have hBz := Below.grown hB7 hgz (Below.size hB7) (fun g hg => by injection hg with hg; omega)
    go_wp2_with (first | (with_reducible refine hold_append ?_) | (with_reducible refine hold_make ?_) | (with_reducible refine hold_copy ?_))
    (try simp only [Exit.inBlock, Exit.then])
    refine ret_box_tmp2x rfl hbz rfl rfl rfl Tryd.underlying24 rfl (by kernel_rfl) rfl ?_
    rw [HF.out, xd00_V]
    exact ⟨rfl, hBz⟩
end Go.PH

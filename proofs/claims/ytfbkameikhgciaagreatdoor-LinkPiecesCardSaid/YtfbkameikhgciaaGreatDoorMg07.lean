/- Texts laid together: FrScan, FrBytes, FrSame, FrScanMath2, FrScanMath3, FrScanMath4, GaRefSame, OctReadText, OctRef, OctRefNum, OwnB, SpMath, SpMath2, SpMath3, SpMath4, SpMath5, SpMath6, SpMath7. -/
import Derived.BigQuiet
import Derived.Deep.Cut
import Derived.Test.YtfbkameikhgciaaGreatDoorMg00
import Derived.Test.YtfbkameikhgciaaGreatDoorMg01
import Derived.Test.YtfbkameikhgciaaGreatDoorMg03
import Derived.Test.YtfbkameikhgciaaGreatDoorMg04
import Derived.Test.YtfbkameikhgciaaGreatDoorMg05
import Derived.Test.YtfbkameikhgciaaGreatDoorMg06
set_option linter.all false
set_option linter.unusedSimpArgs false
set_option linter.unusedVariables false
set_option maxRecDepth 20000
set_option maxHeartbeats 8000000
section
namespace Go.PH
open Go.RowKit Go.Proofs
theorem QT {l : List UInt8} {x : Nat} (hx : x = 1 ∨ x = 2 ∨ x = 4 ∨ x = 8) (h : x ≤ l.length) : mnum l false (x : Int) = (unbe (l.take x), l.drop x, false) := by
 rw [xV (xM (by omega)), xq h]
theorem jt {l : List UInt8} {i : Nat} (h : i < l.length) : yf l i = l[i].toNat := by simp [yf, List.getD, List.getElem?_eq_getElem h]
theorem v8 (l : List UInt8) (i : Nat) : yf l i < 256 := (l.getD i 0).toNat_lt
theorem Y5 (l : List UInt8) (i : Nat) (h : i + 2 ≤ l.length) : unbe ((l.drop i).take 2) = 256 * yf l i + yf l (i + 1) := by
 rw [List.drop_eq_getElem_cons (by omega), List.drop_eq_getElem_cons (show i + 1 < l.length by omega), jt (show i < l.length by omega), jt (show i + 1 < l.length by omega), List.take_succ_cons, List.take_succ_cons, List.take_zero]
 unfold unbe
 simp only [List.foldl_cons, List.foldl_nil]
 omega
theorem qQ (l : List UInt8) (i k : Nat) (h : i < k) : yf (l.take k) i = yf l i := by
 simp [yf, List.getD, List.getElem?_take, h]
theorem Y6 (l : List UInt8) : frN l = 256 * yf l 2 + yf l 3 := rfl
theorem ju {rest : List UInt8} {l : List Fr} {u : Nat} {fs r : List Fr × Nat × Nat} (h : fs = (l ++ (zk rest).1, u + (zk rest).2.1, (zk rest).2.2)) (hr : zk rest = r) : fs = (l ++ r.1, u + r.2.1, r.2.2) := by rw [h, hr]
theorem Y7 (A : Option Addr) (n c : Nat) (b : List UInt8) (w : World) (hr : RdB w w.heap.size A n c b) (hn : n ≤ 1000000000) :
  Calls Tryz.prog 38 #[.slice A n c] w fun e w' => ∃ A2 c2, e = .returned (.tuple #[.slice A2 (zk b).1.length c2, .int .i64 (zk b).2.1, .int .i64 (zk b).2.2]) ∧ OwnF w' w.heap.size A2 (zk b).1.length c2 (zk b).1 ∧ Below w.heap.size w w' := by
 have hl := RdB.length hr
 have hcap := hr.cap
 obtain ⟨fs, hfs⟩ : ∃ fs, fs = zk b := ⟨_, rfl⟩
 rw [← hfs]
 go_enter Tryz.func38, Tryz.ntmps38
 go_wp2_with (with_reducible refine h_A ?_)
 go_loopw [6, 5] (fun s v wr => ∃ (u N c2 : Nat) (A2 : Option Addr) (l : List Fr), u ≤ n ∧ s = .int .i64 u ∧ v = .slice A2 N c2 ∧ l.length = N ∧ N ≤ u ∧ fs = (l ++ (zk (b.drop u)).1, u + (zk (b.drop u)).2.1, (zk (b.drop u)).2.2) ∧ OwnF wr w.heap.size A2 N c2 l ∧ Below w.heap.size w wr) (fun s _ _ => n - (RowKit.intOf s).toNat)
 case atStart => exact ⟨0, 0, 0, none, [], by omega, rfl, rfl, rfl, by omega, by rw [hfs]; simp, Own.none_ _ _ _ _, Below.refl _ _⟩
 case round =>
  obtain ⟨u, N, c2, A2, l, hu, rfl, rfl, hlN, hNu, hsc, ho, hBr⟩ := hrel
  have HSC := Lib.hid hsc
  have HLN := Lib.hid hlN
  clear hsc hfs hlN
  have hz := hBr.size
  go_wp2_with (with_reducible refine h_S ?_)
  refine zc (kw slB rfl rfl rfl (hr.below hBr) u n c (.inr ⟨_, _, rfl, rfl⟩) (.inl ⟨rfl, rfl⟩) (.inl ⟨rfl, rfl⟩) (by intro h; cases h) (by omega) (by omega) (Nat.le_refl _) (Nat.le_refl _) ?_)
  intro A3 hr3 _
  simp only [Nat.mul_one] at hr3
  rw [List.take_of_length_le (by simp; omega), ← List.map_drop] at hr3
  have hrl : (b.drop u).length = n - u := by simp; omega
  generalize hrest : b.drop u = rest at *
  have HREST := Lib.hid hrest
  clear hrest
  obtain ⟨R, hR⟩ : ∃ R, R = n - u := ⟨_, rfl⟩
  obtain ⟨D, hD⟩ : ∃ D, D = c - u := ⟨_, rfl⟩
  rw [← hR, ← hD] at hr3 ⊢
  rw [← hR] at hrl
  have hRn : R ≤ 1000000000 := by omega
  have HRU := Lib.hid (show R + u = n by omega)
  clear hR hD
  have hback : Rd w w.heap.size 1 A3 R D (rest.map u8v) := Rd.keep hr3 (fun p hp => (hBr.cell hp).symm)
  have hwl := J1 A3 R D rest w.heap.size wr hr3 hz (by omega)
  cases hwell : zW rest
  ·rw [hwell] at hwl
   have HF := Lib.hid (ju HSC.out (xI hwell))
   clear hwell
   go_wp2_with (with_reducible refine h_A ?_)
   refine hwl.mono ?_
   rintro e w1 ⟨rfl, hB1⟩
   have hB2 := hBr.trans (hB1.mono hz)
   have ho2 := zg ho hB1
   go_wp2_with (with_reducible refine h_A ?_)
   go_ret3
   rw [HF.out]
   simp only [List.append_nil, Nat.add_zero]
   rw [HLN.out]
   exact ⟨A2, c2, rfl, ho2, hB2⟩
  ·rw [hwell] at hwl
   by_cases h12 : rest.length < 12
   ·have hd12 : (R : Int) < 12 := by omega
    have HF := Lib.hid (ju HSC.out (xr hwell h12))
    clear hwell h12
    go_wp2_with (with_reducible refine h_A ?_)
    refine hwl.mono ?_
    rintro e w1 ⟨rfl, hB1⟩
    have hB2 := hBr.trans (hB1.mono hz)
    have ho2 := zg ho hB1
    go_wp2_with (with_reducible refine h_A ?_)
    go_ret3
    rw [HF.out]
    simp only [List.append_nil, Nat.add_zero]
    rw [HLN.out]
    exact ⟨A2, c2, rfl, ho2, hB2⟩
   ·have hd12 : ¬ (R : Int) < 12 := by omega
    have hNb := xX hwell (by omega)
    have hb0 := yZ hwell (k := 0) (by omega) (by omega) (by omega)
    have HW := Lib.hid hwell
    clear hwell
    have hxl : (rest.take 12).length = 12 := by simp; omega
    have hm0 : yT (rest.take 12) false 2 = ((rest.take 12).take 2, (rest.take 12).drop 2, false) := xq (n := 2) (by omega)
    have hm1 : mnum ((rest.take 12).drop 2) false 2 = (frN rest, (rest.take 12).drop 4, false) := by
     refine (QT (x := 2) (by omega) (by simp; omega)).trans ?_
     rw [Y5 _ 2 (by omega), qQ _ _ _ (by omega), qQ _ _ _ (by omega), Y6, List.drop_drop]
    have hm2 : yT ((rest.take 12).drop 4) false 2 = (((rest.take 12).drop 4).take 2, (rest.take 12).drop 6, false) := (xq (n := 2) (by simp; omega)).trans (by rw [List.drop_drop])
    have hm3 : mnum ((rest.take 12).drop 6) false 2 = (256 * yf rest 6 + yf rest 7, (rest.take 12).drop 8, false) := by
     refine (QT (x := 2) (by omega) (by simp; omega)).trans ?_
     rw [Y5 _ 6 (by omega), qQ _ _ _ (by omega), qQ _ _ _ (by omega), List.drop_drop]
    go_wp2_with (with_reducible refine h_A ?_)
    refine hwl.mono ?_
    rintro e w1 ⟨rfl, hB1⟩
    have hB2 := hBr.trans (hB1.mono hz)
    have ho2 := zg ho hB1
    have hr31 := hr3.below (hB1.mono hz)
    have hz1 := hB2.size
    clear ho hBr hB1
    go_wp2_with (with_reducible refine h_S ?_)
    refine zc (kw slB rfl rfl rfl hr31 0 12 D (.inl ⟨rfl, rfl⟩) (.inr ⟨_, _, rfl, rfl⟩) (.inl ⟨rfl, rfl⟩) (by intro h; cases h) (by omega) (by have := hr31.cap; omega) (Nat.le_refl _) (by omega) ?_)
    intro A4 hr4 _
    simp only [Nat.mul_one, Nat.zero_mul, List.drop_zero, ← List.map_take, Nat.sub_zero] at hr4 ⊢
    go_wp2_with (with_reducible refine h_A ?_)
    refine (xj A4 12 D (rest.take 12) w1 (hr4.more hz1) (by omega)).mono ?_
    rintro e w2 ⟨rb, vb, rfl, hrb, hvb, hRd, hB3⟩
    have hB4 := hB2.trans (hB3.mono hz1)
    have ho3 := zg ho2 hB3
    have hz2 : w1.heap.size ≤ w2.heap.size := hB3.size
    have hA2 : ∀ g, blk A2 = some g → g < w1.heap.size := fun g hg => (ho2.blk_lt hg).2
    clear ho2 hB3
    have hFv : w1.heap.size ≤ vb ∧ vb < w2.heap.size := hRd.inF rfl
    have hAF : ∀ g, blk A2 = some g → some vb ≠ some g := by
     intro g hg e
     injection e with e
     have := hA2 g hg
     omega
    have hvw : ∀ g, some vb = some g → w.heap.size ≤ g := fun g hg => by injection hg with hg; omega
    have ht1 := qR hRd 2 (by omega) (by omega)
    rw [hm0] at ht1
    go_wp2_with (with_reducible refine h_A ?_)
    refine ht1.mono ?_
    rintro e w3 ⟨A5, c5, rfl, _, hRd3, hg3⟩
    have hB5 := hB4.grown hg3 hB4.size hvw
    have ho4 := zf ho3 hg3 hAF
    have hn1 := zP hRd3 2 (by omega) (by omega)
    rw [hm1] at hn1
    obtain ⟨Nn, hNn⟩ : ∃ Nn, Nn = frN rest := ⟨_, rfl⟩
    rw [← hNn] at hn1 hNb
    have HNN := Lib.hid hNn
    clear hNn ht1 hm0 hm1 hRd hg3 ho3 hB4
    have hwn : IntKind.i64.wrap ((Nn : Nat) : Int) = (Nn : Int) := IntWalk.i64_in _ ⟨by omega, by omega⟩
    go_wp2_with (with_reducible refine h_A ?_)
    refine hn1.mono ?_
    rintro e w4 ⟨rfl, hRd4, hg4⟩
    have hB6 := hB5.grown hg4 hB5.size hvw
    have ho5 := zf ho4 hg4 hAF
    clear hn1 hg4 hRd3 ho4 hB5
    by_cases hwait : R < Nn
    ·have hdw : (R : Int) < (Nn : Int) := by omega
     have HF := Lib.hid (ju HSC.out (xO HW.out (by omega) (by rw [← HNN.out]; omega)))
     go_wp2_with (with_reducible refine h_A ?_)
     go_ret3
     rw [HF.out]
     simp only [List.append_nil, Nat.add_zero]
     rw [HLN.out]
     exact ⟨A2, c2, rfl, ho5, hB6⟩
    ·have hdw : ¬ (R : Int) < (Nn : Int) := by omega
     have HF := Lib.hid (ju HSC.out (xh HW.out (by omega) (by rw [← HNN.out]; omega)))
     have ht2 := qR hRd4 2 (by omega) (by omega)
     rw [hm2] at ht2
     go_wp2_with (with_reducible refine h_A ?_)
     refine ht2.mono ?_
     rintro e w5 ⟨A6, c6, rfl, _, hRd5, hg5⟩
     have hB7 := hB6.grown hg5 hB6.size hvw
     have ho6 := zf ho5 hg5 hAF
     have hn2 := zP (Rdr.drew hRd5) 2 (by omega) (by omega)
     rw [hm3] at hn2
     clear ht2 hm2 hm3 hRd4 hg5 ho5 hB6
     have hr35 : RdB w5 w.heap.size A3 R D rest := Rd.below hback hB7
     obtain ⟨xb, xo, rfl, hxb, hx0l, hx0⟩ := RdB.at_k hr35 (k := 0) (by omega)
     obtain ⟨xb1, xo1, e1, _, hx1l, hx1⟩ := RdB.at_k hr35 (k := 1) (by omega)
     obtain ⟨xb5, xo5, e5, _, hx5l, hx5⟩ := RdB.at_k hr35 (k := 5) (by omega)
     obtain ⟨rfl, rfl⟩ : xb = xb1 ∧ xo = xo1 := by simpa using e1
     obtain ⟨rfl, rfl⟩ : xb = xb5 ∧ xo = xo5 := by simpa using e5
     clear e1 e5
     rw [← jt hx0l] at hx0
     rw [← jt hx1l] at hx1
     rw [← jt hx5l] at hx5
     have hy0 := v8 rest 0
     have hy6 := v8 rest 6
     have hy7 := v8 rest 7
     have hcut := vw hr35 12 Nn D (by omega) (by have := hr35.cap; omega) (Nat.le_refl _) (by omega)
     simp only [Nat.mul_one, ← List.map_take, ← List.map_drop] at hcut
     have hfr : Hid (frAt rest Nn = ⟨yf rest 0 / 8 % 2 == 1, yf rest 0 / 4 % 2 == 1, yf rest 0 / 2 % 2 == 1, yf rest 0 % 2 == 1, yf rest 1, yf rest 5, 256 * yf rest 6 + yf rest 7, (rest.take Nn).drop 12⟩) := Lib.hid rfl
     have hb15 : yf rest 0 < 16 := by have : YZ 0 = 15 := rfl; omega
     have hand := Vp ⟨yf rest 0, hb15⟩
     simp only at hand
     obtain ⟨ha8, ha4, ha2, ha1⟩ := hand
     obtain ⟨ch, hch⟩ : ∃ ch, ch = 256 * yf rest 6 + yf rest 7 := ⟨_, rfl⟩
     rw [← hch] at hn2 hfr
     have hchb : ch < 65536 := by omega
     generalize yf rest 0 = x0 at *
     generalize yf rest 1 = x1 at *
     generalize yf rest 5 = x5 at *
     generalize (x0 / 8 % 2 == 1) = f1 at *
     generalize (x0 / 4 % 2 == 1) = f2 at *
     generalize (x0 / 2 % 2 == 1) = f3 at *
     generalize (x0 % 2 == 1) = f4 at *
     clear hch hy6 hy7
     have hwch : IntKind.u16.wrap ((ch : Nat) : Int) = (ch : Int) := IntWalk.u16_in _ ⟨by omega, by omega⟩
     generalize (rest.take Nn).drop 12 = ld at *
     have hkeep : ∀ w' : World, Below w.heap.size w5 w' → (fun wx : World => wx.cell? ⟨xb, xo, none⟩ = some (.int .u8 (x0 : Int)) ∧ wx.cell? ⟨xb, xo + 1, none⟩ = some (.int .u8 (x1 : Int)) ∧ wx.cell? ⟨xb, xo + 5, none⟩ = some (.int .u8 (x5 : Int)) ∧ RdB wx w.heap.size (cutA (some ⟨xb, xo, none⟩) 1 12 D) (Nn - 12) (D - 12) ld) w' := fun w' h =>
      ⟨(h.cell (p := ⟨xb, xo + 0, none⟩) hxb).trans hx0, (h.cell (p := ⟨xb, xo + 1, none⟩) hxb).trans hx1, (h.cell (p := ⟨xb, xo + 5, none⟩) hxb).trans hx5, Rd.below hcut h⟩
     have hS := hkeep w5.drew (za (Below.refl _ _) 1)
     simp only at hS hkeep
     have hz5 := hB7.size
     have hR0 : 0 < R := by omega
     have hR1 : (1 : Int) < (R : Int) := by omega
     have hR5 : (5 : Int) < (R : Int) := by omega
     go_wp2_with (with_reducible refine h_A ?_)
     refine zD (fun wx : World => wx.cell? ⟨xb, xo, none⟩ = some (.int .u8 (x0 : Int)) ∧ wx.cell? ⟨xb, xo + 1, none⟩ = some (.int .u8 (x1 : Int)) ∧ wx.cell? ⟨xb, xo + 5, none⟩ = some (.int .u8 (x5 : Int)) ∧ RdB wx w.heap.size (cutA (some ⟨xb, xo, none⟩) 1 12 D) (Nn - 12) (D - 12) ld) (by kernel_rfl) ?_
     refine rg_t 0 hS ?_
     simp only [List.getElem_toArray, List.getElem_cons_zero, Act.put, List.setIfInBounds_toArray, List.set_cons_zero, List.set_cons_succ]
     refine rg_t 1 hS ?_
     simp only [g_S, Act.put]
     refine rg_t 2 hS ?_
     simp only [g_S, Act.put]
     refine rg_t 3 hS ?_
     simp only [g_S, Act.put]
     refine rg_t 4 hS ?_
     simp only [g_S, Act.put]
     refine rg_t 5 hS ?_
     simp only [g_S, Act.put]
     refine rg_t 6 hS ?_
     simp only [g_S, Act.put]
     refine rg_t 7 hS ?_
     simp only [g_S, Act.put]
     refine rg_t 8 hS ?_
     simp only [g_S, Act.put]
     refine rg_t 9 hS ?_
     simp only [g_S, Act.put]
     refine rg_t 10 hS ?_
     simp only [g_S, Act.put]
     refine rg_t 11 hS ?_
     simp only [g_S, Act.put]
     refine rg_t 12 hS ?_
     simp only [g_S, Act.put]
     refine rg_t 13 hS ?_
     simp only [g_S, Act.put]
     refine rg_t 14 hS ?_
     simp only [g_S, Act.put]
     refine rg_t 15 hS ?_
     simp only [g_S, Act.put]
     refine rg_t 16 hS ?_
     simp only [g_S, Act.put]
     refine rg_t 17 hS ?_
     simp only [g_S, Act.put]
     refine rg_t 18 hS ?_
     simp only [g_S, Act.put]
     refine rg_t 19 hS ?_
     simp only [g_S, Act.put]
     refine rg_t 20 hS ?_
     simp only [g_S, Act.put]
     refine rg_t 21 hS ?_
     simp only [g_S, Act.put]
     refine rg_t 22 hS ?_
     simp only [g_S, Act.put]
     refine rg_t 23 hS ?_
     simp only [g_S, Act.put]
     refine rg_t 24 hS ?_
     simp only [g_S, Act.put]
     refine rg_t 25 hS ?_
     simp only [g_S, Act.put]
     refine rg_t 26 hS ?_
     simp only [g_S, Act.put]
     refine rg_t 27 hS ?_
     simp only [g_S, Act.put]
     refine rg_t 30 hS ?_
     simp only [g_S, Act.put]
     refine rg_t 31 hS ?_
     simp only [g_S, Act.put]
     have hc1 : Bd (some (Value.int .i64 12)) 0 12 := .inr ⟨_, _, rfl, rfl⟩
     have hc2 : Bd (some (Value.int .i64 (Nn : Int))) R Nn := .inr ⟨_, _, rfl, rfl⟩
     refine j8 32 slB rfl (by kernel_rfl) (by kernel_rfl) (by kernel_rfl) hS rfl rfl rfl hr35.max hr35.cap 12 Nn D hc1 hc2 (.inl ⟨rfl, rfl⟩) (fun h => by cases h) (by omega) (by have := hr35.cap; omega) (Nat.le_refl _) (by omega) ?_
     simp only [g_S, Act.put]
     refine zv 33 (v := ?_) rfl (by kernel_rfl) (by kernel_rfl) (by kernel_rfl) hS rfl ?_ ?_
     rotate_left
     ·intro wS hSw; have hv := YV (w := wS) hSw.2.2.2; go_simp; (with_reducible rfl)
     simp only [g_S, Act.put]
     refine zi 28 rfl (by kernel_rfl) rfl (fun K hK => ?_)
     go_simp
     refine hn2.mono ?_
     rintro e w6 ⟨rfl, _, hg6⟩
     have hB56 : Below w.heap.size w5 w6 := (za (Below.refl w.heap.size w5) 1).grown hg6 hz5 hvw
     have hB8 := hB7.trans hB56
     have hS6 := hkeep w6 hB56
     have ho7 : OwnF w6 w.heap.size A2 N c2 l := zf (w := w5.drew) ho6 hg6 hAF
     have hz6 := hB8.size
     clear hn2 hg6 ho6
     refine hK _ _ hS6 ?_; clear hK K
     refine rg_t 29 hS6 ?_
     simp only [g_S, Act.put]
     refine rg_t 34 hS6 ?_
     simp only [g_S, Act.put]
     have hS7 := hkeep (w6.alloc (.cells #[.bool f1, .bool f2, .bool f3, .bool f4, .int .u8 (x1 : Int), .int .u8 (x5 : Int), .int .u16 (ch : Int), .string (str ld)] 97)) (hB56.alloc hz6 _)
     refine zi 35 rfl (by kernel_rfl) rfl (fun K hK => ?_)
     go_simp
     refine hK _ _ hS7 ?_
     clear hK K
     refine zi 36 rfl (by kernel_rfl) rfl (fun K hK => ?_)
     refine YT (W := w6) jG slF Tryz.underlying65 rfl rfl rfl rfl ⟨f1, f2, f3, f4, x1, x5, ch, ld⟩ rfl ho7 (by omega) (by omega) hz6 ?_
     intro A8 c8 w8 ho8 hg8 _ hB68
     have hB58 := hB56.trans hB68
     have hS8 := hkeep w8 hB58
     have hB9 := hB7.trans hB58
     simp only [g_S, Act.put]
     refine hK _ _ hS8 ?_
     clear hK K
     refine rg_t 37 hS8 ?_
     simp only [g_S, Act.put]
     refine zK (by kernel_rfl) ?_
     have hwu : IntKind.i64.wrap ((u : Int) + (Nn : Int)) = ((u + Nn : Nat) : Int) := by rw [IntWalk.i64_in _ ⟨by omega, by omega⟩]; omega
     have hdr : rest.drop Nn = b.drop (u + Nn) := by rw [← HREST.out, List.drop_drop]
     have hfs2 : fs = ((l ++ [⟨f1, f2, f3, f4, x1, x5, ch, ld⟩]) ++ (zk (b.drop (u + Nn))).1, (u + Nn) + (zk (b.drop (u + Nn))).2.1, (zk (b.drop (u + Nn))).2.2) := by
      rw [HF.out, ← HNN.out, hfr.out, hdr]; simp [Nat.add_assoc]
     have HFS := Lib.hid hfs2
     clear hdr hfs2
     go_wp2_with (with_reducible refine h_A ?_)
     have hRU := HRU.out
     exact ⟨⟨u + Nn, N + 1, c8, A8, l ++ [⟨f1, f2, f3, f4, x1, x5, ch, ld⟩], by omega, by first | rfl | go_num, rfl, by simp [HLN.out], by omega, HFS.out, ho8, hB9⟩, by simp [RowKit.intOf]; omega⟩
end Go.PH
end
section
namespace Go.PH
open Go.RowKit Go.Proofs
def Zc (l : List Fr) : List Fr := l.filter Fr.ok
def ji (l : List Fr) : List UInt8 := (Zc l).flatMap Fr.bytes
theorem Fr.bytes_length (f : Fr) : f.bytes.length = 12 + f.load.length := by simp [Fr.bytes, zn]; omega
end Go.PH
end
section
namespace Go.PH
open Go.RowKit Go.Proofs
end Go.PH
end
section
namespace Go.PH
theorem jv (b : List UInt8) : (zk b).1.length * 12 ≤ (zk b).2.1 ∧ (zk b).2.1 ≤ b.length := by
 induction hn : b.length using Nat.strongRecOn generalizing b with
 | ind n ih =>
  subst hn
  by_cases hw : zW b = false
  ·rw [xI hw]; simp
  ·have hw1 : zW b = true := by simpa using hw
   by_cases h12 : b.length < 12
   ·rw [xr hw1 h12]; simp
   ·by_cases hl : b.length < frN b
    ·rw [xO hw1 (by omega) hl]; simp
    ·have hN := (xX hw1 (by omega)).1
     rw [xh hw1 (by omega) (by omega)]
     have := ih _ (by rw [List.length_drop]; omega) (b.drop (frN b)) rfl
     rw [List.length_drop] at this
     simp only [List.length_cons]
     omega
end Go.PH
end
section
namespace Go.PH
theorem Jm : ∀ x : Fin 16, bitv (x.val / 8 % 2 == 1) 8 + bitv (x.val / 4 % 2 == 1) 4 + bitv (x.val / 2 % 2 == 1) 2 + bitv (x.val % 2 == 1) 1 = x.val := by decide
theorem qy {x : UInt8} {n : Nat} (h : n % 256 = x.toNat) : UInt8.ofNat n = x := by
 apply UInt8.toNat_inj.1
 rw [UInt8.toNat_ofNat']
 exact h
theorem kX {x : UInt8} (h : x.toNat ≤ 0) : x = 0 := UInt8.toNat_inj.1 (by simpa using h)
theorem be2 (n : Nat) : be 2 n = [UInt8.ofNat (n / 256), UInt8.ofNat n] := by simp [be]
theorem XY {b : List UInt8} (hw : zW b = true) (hl : 12 ≤ b.length) (hN : frN b ≤ b.length) : (frAt b (frN b)).bytes = b.take (frN b) ∧ (frAt b (frN b)).ok = true := by
 have h0 := yZ hw (k := 0) (by omega) (by omega) (by omega)
 have h1 := yZ hw (k := 1) (by omega) (by omega) (by omega)
 have h4 := yZ hw (k := 4) (by omega) (by omega) (by omega)
 have h5 := yZ hw (k := 5) (by omega) (by omega) (by omega)
 have h8 := yZ hw (k := 8) (by omega) (by omega) (by omega)
 have h9 := yZ hw (k := 9) (by omega) (by omega) (by omega)
 have h10 := yZ hw (k := 10) (by omega) (by omega) (by omega)
 have h11 := yZ hw (k := 11) (by omega) (by omega) (by omega)
 obtain ⟨hn1, hn2⟩ := xX hw (by omega)
 clear hw
 have hNe := Y6 b
 generalize frN b = N at *
 match b, hl with
 | x0 :: x1 :: x2 :: x3 :: x4 :: x5 :: x6 :: x7 :: x8 :: x9 :: x10 :: x11 :: r, _ =>
  simp only [yf, List.getD_cons_zero, List.getD_cons_succ, YZ] at h0 h1 h4 h5 h8 h9 h10 h11 hNe
  have hx2 := x2.toNat_lt
  have hx3 := x3.toNat_lt
  have hx6 := x6.toNat_lt
  have hx7 := x7.toNat_lt
  have hx5 := x5.toNat_lt
  have hx1 := x1.toNat_lt
  obtain rfl := kX h4
  obtain rfl := kX h8
  obtain rfl := kX h9
  obtain rfl := kX h10
  obtain rfl := kX h11
  obtain ⟨M, rfl⟩ : ∃ M, N = M + 12 := ⟨N - 12, by omega⟩
  simp only [List.length_cons] at hN
  have hrl : (r.take M).length = M := by rw [List.length_take]; omega
  have hfl := Jm ⟨x0.toNat, by omega⟩
  simp only at hfl
  constructor
  ·simp only [frAt, Fr.bytes, Fr.flags, yf, List.getD_cons_zero, List.getD_cons_succ, List.take_succ_cons, List.drop_succ_cons, List.drop_zero, be2, hfl, hrl]
   rw [qy (x := x0) (by omega), qy (x := x1) (by omega), qy (x := x2) (n := (12 + M) / 256) (by omega), qy (x := x3) (n := 12 + M) (by omega), qy (x := x5) (by omega), qy (x := x6) (by omega), qy (x := x7) (by omega)]
   rfl
  ·simp only [frAt, Fr.ok, yf, List.getD_cons_zero, List.getD_cons_succ, List.take_succ_cons, List.drop_succ_cons, List.drop_zero, hrl]
   simp
   omega
theorem XZ (b : List UInt8) : Zc (zk b).1 = (zk b).1 ∧ ji (zk b).1 = b.take (zk b).2.1 := by
 induction hn : b.length using Nat.strongRecOn generalizing b with
 | ind n ih =>
  subst hn
  by_cases hw : zW b = false
  ·rw [xI hw]; simp [Zc, ji]
  ·have hw1 : zW b = true := by simpa using hw
   by_cases h12 : b.length < 12
   ·rw [xr hw1 h12]; simp [Zc, ji]
   ·by_cases hl : b.length < frN b
    ·rw [xO hw1 (by omega) hl]; simp [Zc, ji]
    ·have hN := (xX hw1 (by omega)).1
     obtain ⟨hb, hok⟩ := XY hw1 (by omega) (by omega)
     rw [xh hw1 (by omega) (by omega)]
     obtain ⟨i1, i2⟩ := ih _ (by rw [List.length_drop]; omega) (b.drop (frN b)) rfl
     have e1 : Zc (frAt b (frN b) :: (zk (b.drop (frN b))).1) = frAt b (frN b) :: Zc (zk (b.drop (frN b))).1 := by simp [Zc, hok]
     refine ⟨by rw [e1, i1], ?_⟩
     have e2 : ji (frAt b (frN b) :: (zk (b.drop (frN b))).1) = (frAt b (frN b)).bytes ++ ji (zk (b.drop (frN b))).1 := by unfold ji; rw [e1]; simp
     rw [e2, i2, hb, ← List.take_add]
theorem vI {b : List UInt8} {j k : Nat} (h : j < k) : yk (b.take k) j = yk b j := by
 have e : ∀ i, i < k → (b.take k).getD i 0 = b.getD i 0 := fun i hi => by simp [List.getD, List.getElem?_take, hi]
 unfold yk
 split
 ·next e3 => subst e3; unfold frN; rw [e 2 (by omega), e 3 (by omega)]
 ·rw [e j h]
theorem kY {b : List UInt8} (h : zW b = true) (k : Nat) : zW (b.take k) = true := by
 unfold zW at h ⊢
 rw [List.all_eq_true] at h ⊢
 intro j hj
 have hj := List.mem_range.1 hj
 rw [List.length_take] at hj
 rw [vI (by omega)]
 exact h j (List.mem_range.2 (by omega))
theorem X0 {a : List UInt8} (p : List UInt8) (h : 12 ≤ a.length) : zW (a ++ p) = zW a := by
 cases hw : zW a
 ·cases hw2 : zW (a ++ p)
  ·rfl
  ·have := kY hw2 a.length
   rw [List.take_left' rfl, hw] at this
   cases this
 ·unfold zW at hw ⊢
  rw [List.all_eq_true] at hw ⊢
  intro j hj
  have hj := List.mem_range.1 hj
  rw [← vI (k := a.length) (by omega), List.take_left' rfl]
  exact hw j (List.mem_range.2 (by omega))
theorem X1 {a : List UInt8} (p : List UInt8) (h : zW a = false) : zW (a ++ p) = false := by
 cases hw2 : zW (a ++ p)
 ·rfl
 ·have := kY hw2 a.length
  rw [List.take_left' rfl, h] at this
  cases this
theorem xU {a : List UInt8} (p : List UInt8) {i : Nat} (h : i < a.length) : yf (a ++ p) i = yf a i := by
 simp [yf, List.getD, List.getElem?_append_left h]
theorem VI {a : List UInt8} (p : List UInt8) (h : 4 ≤ a.length) : frN (a ++ p) = frN a := by
 rw [Y6, Y6, xU p (by omega), xU p (by omega)]
theorem Kp {a : List UInt8} (p : List UInt8) {n : Nat} (h : 12 ≤ a.length) (hn : n ≤ a.length) : frAt (a ++ p) n = frAt a n := by
 unfold frAt
 rw [xU p (by omega), xU p (by omega), xU p (by omega), xU p (by omega), xU p (by omega), List.take_append_of_le_length hn]
theorem X2 (a p : List UInt8) : ((zk a).2.2 = 0 → zk (a ++ p) = ((zk a).1 ++ (zk (a.drop (zk a).2.1 ++ p)).1, (zk a).2.1 + (zk (a.drop (zk a).2.1 ++ p)).2.1, (zk (a.drop (zk a).2.1 ++ p)).2.2)) ∧
  ((zk a).2.2 ≠ 0 → zk (a ++ p) = zk a) := by
 induction hn : a.length using Nat.strongRecOn generalizing a with
 | ind n ih =>
  subst hn
  by_cases hw : zW a = false
  ·rw [xI hw, xI (X1 p hw)]
   exact ⟨fun h => by simp at h, fun _ => rfl⟩
  ·have hw1 : zW a = true := by simpa using hw
   by_cases h12 : a.length < 12
   ·rw [xr hw1 h12]
    exact ⟨fun _ => by simp, fun h => absurd rfl h⟩
   ·by_cases hl : a.length < frN a
    ·rw [xO hw1 (by omega) hl]
     exact ⟨fun _ => by simp, fun h => absurd rfl h⟩
    ·have hN := (xX hw1 (by omega)).1
     rw [xh hw1 (by omega) (by omega)]
     have hw2 : zW (a ++ p) = true := by rw [X0 p (by omega)]; exact hw1
     have hN2 := VI (a := a) p (by omega)
     rw [xh hw2 (by simp; omega) (by rw [hN2]; simp; omega), hN2, Kp p (by omega) (by omega), List.drop_append_of_le_length (by omega)]
     obtain ⟨i1, i2⟩ := ih _ (by rw [List.length_drop]; omega) (a.drop (frN a)) rfl
     simp only
     refine ⟨fun h => ?_, fun h => ?_⟩
     ·rw [i1 h]
      simp [List.drop_drop, Nat.add_assoc]
     ·rw [i2 h]
end Go.PH
end
section
namespace Go.PH
end Go.PH
end
section
namespace Go.PH
open Go.RowKit Go.Proofs
theorem X8 : Tryz.prog.underlying 84 = some (.struct (Tryz.prog.fieldsOf 84)) := by kernel_rfl
theorem JG : Tryz.prog.stoodInHeld 84 = false := by kernel_rfl
theorem V3 (a b : Sg) (w : World) : (binOp .neq 84 (.agg #[.int .u8 (a.ty : Int), .string (str a.load)]) (.agg #[.int .u8 (b.ty : Int), .string (str b.load)])).run Tryz.prog w = .ok (.bool (!decide (a = b))) w := by
 rw [run_neq_struct, run_equalIn_struct w 9999 84 _ _ X8 JG]
 simp only [Program.fieldsOf, Tryz.underlying84]
 obtain ⟨ty, ld⟩ := a
 obtain ⟨ty', ld'⟩ := b
 simp only [Sg.mk.injEq]
 by_cases h : (ty : Int) = (ty' : Int)
 ·have e := Int.ofNat_inj.1 h
  subst e
  by_cases h : ld = ld'
  ·subst h
   simp [Op.eqFields, part, run_equalIn_int _ 9998 5 .u8 .u8 _ _ Tryz.underlying5, run_equalIn_string _ 9998 9 _ _ Tryz.underlying9, Result.andThen, typeInfo, sizeOf]
  ·have h2 : ((str ld).toList == (str ld').toList) = false := by rw [zt, zt]; simpa using h
   simp [Op.eqFields, part, run_equalIn_int _ 9998 5 .u8 .u8 _ _ Tryz.underlying5, run_equalIn_string _ 9998 9 _ _ Tryz.underlying9, h2, Result.andThen, typeInfo, sizeOf]
   rw [zt, zt] at h2
   simpa using h2
 ·simp [Op.eqFields, part, run_equalIn_int _ 9998 5 .u8 .u8 _ _ Tryz.underlying5, h, Result.andThen, typeInfo, sizeOf]
  omega
theorem X9 (a b : As) (A : Option Addr) (c : Nat) (A' : Option Addr) (c' : Nat) (B : Nat) (w : World) (hr : RdG w B A a.segs.length c a.segs) (hr' : RdG w B A' b.segs.length c' b.segs) (hB : B ≤ w.heap.size) (hn : a.segs.length ≤ 9223372036854775807) (hn' : b.segs.length ≤ 9223372036854775807) :
  Calls Tryz.prog 19 #[.agg (asV a.chan a.track A a.segs.length c), .agg (asV b.chan b.track A' b.segs.length c')] w fun e w' => e = .returned (.bool (decide (a = b))) ∧ Below w.heap.size w w' := by
 obtain ⟨ch, tr, l⟩ := a
 obtain ⟨ch', tr', l'⟩ := b
 simp only at *
 obtain ⟨n, hn0⟩ : ∃ n, n = l.length := ⟨_, rfl⟩
 obtain ⟨n', hn0'⟩ : ∃ n, n = l'.length := ⟨_, rfl⟩
 rw [← hn0] at hr hn ⊢
 rw [← hn0'] at hr' hn' ⊢
 have HN := Lib.hid hn0
 have HN' := Lib.hid hn0'
 clear hn0 hn0'
 obtain ⟨R, hR⟩ : ∃ R, R = decide ((⟨ch, tr, l⟩ : As) = ⟨ch', tr', l'⟩) := ⟨_, rfl⟩
 rw [← hR]
 have HR := Lib.hid hR
 clear hR
 obtain ⟨xb, w0, hqb, hqv, hX, hB0⟩ := zr w (asV ch tr A n c) 42
 obtain ⟨yb, w1, hqb', hqv', hY, hB1⟩ := zr w0 (asV ch' tr' A' n' c') 42
 have hX1 := hX.below hB1
 have hB2 := hB0.trans (hB1.mono hB0.size)
 unfold asV at *
 clear hX hB0 hB1
 go_enter Tryz.func19, Tryz.ntmps19
 go_upto_region 1 with fail
 have e1 : yb = w.heap.size + 1 := by rw [hqb', hqv]; simp
 rw [← e1, ← hqb, ← hqv, ← hqv']
 clear hqb hqv hqb' hqv' e1
 have x0 := hX1.c0
 have x1 := hX1.c1
 have x2 := hX1.c2
 have y0 := hY.c0
 have y1 := hY.c1
 have y2 := hY.c2
 by_cases q0 : ch = ch'
 ·subst q0
  by_cases q1 : tr = tr'
  ·subst q1
   by_cases q2 : n = n'
   ·subst q2
    go_wp2_with (with_reducible refine h_A ?_)
    go_loopw [5] (fun s wr => ∃ (k : Nat), k ≤ n ∧ s = .int .i64 k ∧ Hid (l.take k = l'.take k) ∧ Box wr xb 42 #[.int .u16 (ch : Int), .int .u8 (tr : Int), .slice A n c] ∧ Box wr yb 42 #[.int .u16 (ch : Int), .int .u8 (tr : Int), .slice A' n c'] ∧ Below w.heap.size w wr) (fun s _ => n - (RowKit.intOf s).toNat)
    case atStart => exact ⟨0, by omega, rfl, Lib.hid rfl, hX1, hY, hB2⟩
    case round =>
     clear x0 x1 x2 y0 y1 y2 hX1 hY hB2
     obtain ⟨k, hk, rfl, HK, hX, hY, hB2⟩ := hrel
     have x2 := hX.c2
     have y2 := hY.c2
     by_cases hlt : k < n
     ·have g1 : (k : Int) < (n : Int) := by omega
      obtain ⟨b, off, rfl, hbB, hkl, hc⟩ := xW xK (Rd.below hr (hB2.mono hB)) hlt
      obtain ⟨b', off', rfl, hbB', hkl', hc'⟩ := xW xK (Rd.below hr' (hB2.mono hB)) hlt
      have HT := Lib.hid (List.take_succ_eq_append_getElem hkl)
      have HT' := Lib.hid (List.take_succ_eq_append_getElem hkl')
      have HE : Hid (l = l' → l[k] = l'[k]) := Lib.hid (fun h => by subst h; rfl)
      generalize l[k] = x at *
      generalize l'[k] = x' at *
      obtain ⟨ty, ld⟩ := x
      obtain ⟨ty', ld'⟩ := x'
      have hneq := fun w => V3 ⟨ty, ld⟩ ⟨ty', ld'⟩ w
      simp only at hneq
      have k0 : wr.cell? ⟨b, off + k * 2, none⟩ = _ := hc 0 _ rfl
      have k1 := hc 1 _ rfl
      have j0 : wr.cell? ⟨b', off' + k * 2, none⟩ = _ := hc' 0 _ rfl
      have j1 := hc' 1 _ rfl
      obtain ⟨q, hq⟩ : ∃ q, q = decide ((⟨ty, ld⟩ : Sg) = ⟨ty', ld'⟩) := ⟨_, rfl⟩
      rw [← hq] at hneq
      have HQ := Lib.hid hq
      clear hq hc hc'
      go_upto_region 6 with fail
      try simp only [Act.put]
      go_quiet (fail)
      have hX3 := hX.below (za (Below.refl _ _) nq)
      have hY3 := hY.below (za (Below.refl _ _) nq)
      have hB3 := za hB2 nq
      clear k0 k1 j0 j1 x2 y2 hneq
      cases q
      ·have HV : Hid (R = false) := Lib.hid (by
        rw [HR.out, decide_eq_false]
        intro e
        injection e with _ _ e
        have := HQ.out
        rw [HE.out e] at this
        simp at this)
       go_wp2_with (with_reducible refine h_A ?_)
       go_ret
       exact ⟨by rw [HV.out]; rfl, hB3⟩
      ·have HQ2 := of_decide_eq_true HQ.out.symm
       have HK2 : Hid (l.take (k + 1) = l'.take (k + 1)) := Lib.hid (by rw [HT.out, HT'.out, HK.out, HQ2])
       clear HQ2 HE
       go_wp2_with (with_reducible refine h_A ?_)
       exact ⟨⟨k + 1, by omega, by go_num, HK2, hX3, hY3, hB3⟩, by simp [RowKit.intOf]; omega⟩
     ·have g1 : ¬ (k : Int) < (n : Int) := by omega
      have HV : Hid (R = true) := Lib.hid (by
       have e := HK.out
       rw [List.take_of_length_le (by have := HN.out; omega), List.take_of_length_le (by have := HN'.out; omega)] at e
       rw [HR.out, e]
       simp)
      go_wp2_with (with_reducible refine h_A ?_)
      go_ret
      exact ⟨by rw [HV.out]; rfl, hB2⟩
   ·have d2 : ((n : Int) != (n' : Int)) = true := by simp; omega
    have HV : Hid (R = false) := Lib.hid (by
     rw [HR.out, decide_eq_false]
     intro e
     injection e with _ _ e
     exact q2 (by rw [HN.out, HN'.out, e]))
    clear q2
    go_wp2_with (with_reducible refine h_A ?_)
    go_ret
    exact ⟨by rw [HV.out]; rfl, hB2⟩
  ·have d1 : ((tr : Int) != (tr' : Int)) = true := by simp; omega
   have HV : Hid (R = false) := Lib.hid (by
    rw [HR.out, decide_eq_false]
    intro e
    injection e with _ e _
    exact q1 e)
   clear q1
   go_wp2_with (with_reducible refine h_A ?_)
   go_ret
   exact ⟨by rw [HV.out]; rfl, hB2⟩
 ·have d0 : ((ch : Int) != (ch' : Int)) = true := by simp; omega
  have HV : Hid (R = false) := Lib.hid (by
   rw [HR.out, decide_eq_false]
   intro e
   injection e with e _ _
   exact q0 e)
  clear q0
  go_wp2_with (with_reducible refine h_A ?_)
  go_ret
  exact ⟨by rw [HV.out]; rfl, hB2⟩
end Go.PH
end
section
namespace Go.PH
open Go.RowKit Go.Proofs
theorem xl {F : Nat → Prop} {w : World} {v : Value} {vb : Option Nat} {l : List UInt8} {bad : Bool} (h : Rdr F w v vb l bad) (x most : Int) (hx : -9223372036854775808 ≤ x) (hx' : x ≤ 9223372036854775807) (hm : -9223372036854775808 ≤ most) (hm' : most ≤ 9223372036854775807) :
  Calls Tryz.prog 157 #[v, .int .i64 x, .int .i64 most] w fun e w' => e = .returned (.string (str (zR l bad x most).1)) ∧ Rdr F w' v vb (zR l bad x most).2.1 (zR l bad x most).2.2 ∧ w.grownBy w' vb := by
 by_cases h8 : x = 8
 ·subst h8
  rw [JP (by omega)]
  go_enter Tryz.func157, Tryz.ntmps157
  go_wp2_with (with_reducible refine h_A ?_)
  refine (yq h).mono ?_
  rintro e w1 ⟨rfl, h1, hg1⟩
  go_wp2_with (with_reducible refine h_A ?_)
  go_ret
  exact ⟨rfl, h1, hg1⟩
 have hN := zP h x hx hx'
 have hlt := qo l bad x
 rw [vT h8]
 generalize mnum l bad x = r at hN hlt ⊢
 obtain ⟨n, l', bad'⟩ := r
 simp only at hN hlt ⊢
 by_cases hb : bad' = true
 ·subst hb
  rw [if_pos (.inl rfl)]
  go_enter Tryz.func157, Tryz.ntmps157
  go_wp2_with (with_reducible refine h_A ?_)
  refine hN.mono ?_
  rintro e w1 ⟨rfl, h1, hg1⟩
  go_wp2_with (with_reducible refine h_A ?_)
  refine (zY h1).mono ?_
  rintro e w2 ⟨rfl, rfl⟩
  go_wp2_with (with_reducible refine h_A ?_)
  refine (yq h1).mono ?_
  rintro e w3 ⟨rfl, h3, hg3⟩
  go_wp2_with (with_reducible refine h_A ?_)
  go_ret
  exact ⟨rfl, h3, hg1.trans hg3⟩
 obtain rfl : bad' = false := by simpa using hb
 by_cases hneg : most < 0
 ·rw [if_pos (.inr (.inl hneg))]
  go_enter Tryz.func157, Tryz.ntmps157
  go_wp2_with (with_reducible refine h_A ?_)
  refine hN.mono ?_
  rintro e w1 ⟨rfl, h1, hg1⟩
  go_wp2_with (with_reducible refine h_A ?_)
  refine (zY h1).mono ?_
  rintro e w2 ⟨rfl, rfl⟩
  go_wp2_with (with_reducible refine h_A ?_)
  refine (yq h1).mono ?_
  rintro e w3 ⟨rfl, h3, hg3⟩
  go_wp2_with (with_reducible refine h_A ?_)
  go_ret
  exact ⟨rfl, h3, hg1.trans hg3⟩
 by_cases hmore : most < (n : Int)
 ·rw [if_pos (.inr (.inr (.inl hmore)))]
  go_enter Tryz.func157, Tryz.ntmps157
  go_wp2_with (with_reducible refine h_A ?_)
  refine hN.mono ?_
  rintro e w1 ⟨rfl, h1, hg1⟩
  go_wp2_with (with_reducible refine h_A ?_)
  refine (zY h1).mono ?_
  rintro e w2 ⟨rfl, rfl⟩
  go_wp2_with (with_reducible refine h_A ?_)
  refine (yq h1).mono ?_
  rintro e w3 ⟨rfl, h3, hg3⟩
  go_wp2_with (with_reducible refine h_A ?_)
  go_ret
  exact ⟨rfl, h3, hg1.trans hg3⟩
 by_cases hleft : l'.length < n
 ·rw [if_pos (.inr (.inr (.inr hleft)))]
  go_enter Tryz.func157, Tryz.ntmps157
  go_wp2_with (with_reducible refine h_A ?_)
  refine hN.mono ?_
  rintro e w1 ⟨rfl, h1, hg1⟩
  have hll := h1.len
  go_wp2_with (with_reducible refine h_A ?_)
  refine (zY h1).mono ?_
  rintro e w2 ⟨rfl, rfl⟩
  go_wp2_with (with_reducible refine h_A ?_)
  refine (yh h1).mono ?_
  rintro e w2 ⟨rfl, rfl⟩
  go_wp2_with (with_reducible refine h_A ?_)
  refine (yq h1).mono ?_
  rintro e w3 ⟨rfl, h3, hg3⟩
  go_wp2_with (with_reducible refine h_A ?_)
  go_ret
  exact ⟨rfl, h3, hg1.trans hg3⟩
 rw [if_neg (by simp; omega), xq (by omega)]
 have hn63 : (n : Int) ≤ 9223372036854775807 := by omega
 have hleft' : ¬ ((l'.length : Int) < (n : Int)) := by omega
 have hneg' : 0 ≤ most := by omega
 have hmore' : (n : Int) ≤ most := by omega
 go_enter Tryz.func157, Tryz.ntmps157
 go_wp2_with (with_reducible refine h_A ?_)
 refine hN.mono ?_
 rintro e w1 ⟨rfl, h1, hg1⟩
 have hll := h1.len
 go_wp2_with (with_reducible refine h_A ?_)
 refine (zY h1).mono ?_
 rintro e w2 ⟨rfl, rfl⟩
 go_wp2_with (with_reducible refine h_A ?_)
 refine (yh h1).mono ?_
 rintro e w2 ⟨rfl, rfl⟩
 go_wp2_with (with_reducible refine h_A ?_)
 have hT := qR h1 (n : Int) (by omega) (by omega)
 rw [xq (by omega)] at hT
 simp only [List.length_take, Nat.min_eq_left (Nat.le_of_not_lt hleft)] at hT
 refine hT.mono ?_
 rintro e w3 ⟨A3, c3, rfl, ho3, h3, hg3⟩
 have hcv := YV ho3.rd
 go_wp2_with (with_reducible refine h_A ?_)
 go_ret
 exact ⟨rfl, h3, hg1.trans hg3⟩
end Go.PH
end
section
namespace Go.PH
open Go.RowKit Go.Proofs
def Qrd (F : Nat → Prop) (w : World) (b : Nat) (l : List UInt8) (bad : Bool) : Prop :=
 ∃ A n c, w.cell? ⟨b, 0, none⟩ = some (.slice A n c) ∧ w.cell? ⟨b, 1, none⟩ = some (.bool bad) ∧ w.frozen? ⟨b, 0, none⟩ = false ∧ w.frozen? ⟨b, 1, none⟩ = false ∧ RdB w w.heap.size A n c l ∧ blk A ≠ some b ∧ n ≤ 140737488351240 ∧ F b ∧ ∀ g, blk A = some g → F g
theorem Qrd.len {F : Nat → Prop} {w : World} {b : Nat} {l : List UInt8} {bad : Bool} (h : Qrd F w b l bad) : l.length ≤ 140737488351240 := by
 obtain ⟨A, n, c, _, _, _, _, hr, _, hn, _⟩ := h
 rw [hr.length]; exact hn
theorem Qrd.lt {F : Nat → Prop} {w : World} {b : Nat} {l : List UInt8} {bad : Bool} (h : Qrd F w b l bad) : b < w.heap.size := by
 obtain ⟨A, n, c, h0, _⟩ := h
 exact World.block_lt_of_cell? w _ h0
theorem Qrd.kept {F : Nat → Prop} {w w' : World} {b : Nat} {l : List UInt8} {bad : Bool} {row : Option Nat} (h : Qrd F w b l bad) (hg : w.grownBy w' row) (hne : ∀ g, row = some g → ¬ F g) : Qrd F w' b l bad := by
 obtain ⟨A, n, c, h0, h1, hf0, hf1, hr, hA, hn, hF, hF2⟩ := h
 have hb : b < w.heap.size := World.block_lt_of_cell? w _ h0
 refine ⟨A, n, c, hg.cell h0 (fun e => hne _ e.symm hF), hg.cell h1 (fun e => hne _ e.symm hF), (hg.frozen_far ⟨b, 0, none⟩ hb (fun e => hne _ e.symm hF)).trans hf0, (hg.frozen_far ⟨b, 1, none⟩ hb (fun e => hne _ e.symm hF)).trans hf1, (hr.grown_ne hg (Nat.le_refl _) ?_).more hg.size, hA, hn, hF, hF2⟩
 rcases hA : blk A with _ | g
 ·exact .inl rfl
 ·exact .inr fun e => hne g e.symm (hF2 g hA)
theorem Qrd.below {F : Nat → Prop} {w w' : World} {b : Nat} {l : List UInt8} {bad : Bool} (h : Qrd F w b l bad) (hB : Below w.heap.size w w') : Qrd F w' b l bad := h.kept (Za hB none) (by simp)
theorem Qrd.drew {F : Nat → Prop} {w : World} {b : Nat} {l : List UInt8} {bad : Bool} (h : Qrd F w b l bad) : Qrd F w.drew b l bad := h.kept (kK w none) (by simp)
theorem Qrd.inF {F : Nat → Prop} {w : World} {b : Nat} {l : List UInt8} {bad : Bool} (h : Qrd F w b l bad) : F b := by
 obtain ⟨A, n, c, h0, h1, hf0, hf1, hr, hA, hn, hF, hF2⟩ := h
 exact hF
end Go.PH
end
section
namespace Go.PH
open Go.RowKit Go.Proofs
end Go.PH
end
section
namespace Go.PH
open Go.RowKit Go.Proofs
abbrev OwnB (w : World) (base : Nat) (A : Option Addr) (n c : Nat) (l : List UInt8) : Prop := Own w base 5 1 A n c (l.map u8v)
def KB (w w' : World) (row : Option Nat) : Prop := w.heap.size ≤ w'.heap.size ∧ ∀ g, g < w.heap.size → row ≠ some g → w'.heap[g]? = w.heap[g]?
theorem KB.box {w w' : World} {row : Option Nat} (h : KB w w' row) {g : Nat} {t : TypeId} {cs : Array Value} (hb : Box w g t cs) (hne : row ≠ some g) : Box w' g t cs := (h.2 g hb.lt hne).trans hb
def PutA (w : World) (base : Nat) (row : Option Nat) (l : List UInt8) (e : Ending) (w' : World) : Prop := ∃ A2 c2, e = .returned (.tuple #[.slice A2 l.length c2, .bool true]) ∧ OwnB w' base A2 l.length c2 l ∧ KB w w' row ∧ Below base w w'
end Go.PH
end
section
namespace Go.PH
abbrev Sp := Nat × Nat
def zN : List Sp → Bool
 | [] => true
 | [a] => decide (a.1 ≤ a.2)
 | a :: b :: l => decide (a.1 ≤ a.2) && decide (a.2 + 2 ≤ b.1) && zN (b :: l)
end Go.PH
end
section
namespace Go.PH
def ZZ (m : Nat) : List Sp → Prop
 | [] => True
 | a :: _ => m ≤ a.1
theorem spRight_cons {a : Sp} {l : List Sp} : zN (a :: l) = true ↔ (a.1 ≤ a.2 ∧ ZZ (a.2 + 2) l ∧ zN l = true) := by
 cases l with
 | nil => simp [zN, ZZ]
 | cons b l => simp [zN, ZZ, and_assoc]
end Go.PH
end
section
namespace Go.PH
end Go.PH
end
section
namespace Go.PH
theorem YB (a : List Sp) (z : Sp) : zN (a ++ [z]) = true ↔ (zN a = true ∧ z.1 ≤ z.2 ∧ ∀ b ∈ a.getLast?, b.2 + 2 ≤ z.1) := by
 induction a with
 | nil => simp [zN]
 | cons b a ih =>
  rw [List.cons_append, spRight_cons, ih, spRight_cons]
  cases a with
  | nil =>
   simp [ZZ, zN]
   intro _
   exact and_comm
  | cons c a =>
   simp only [List.cons_append, ZZ, List.getLast?_cons_cons]
   constructor
   ·rintro ⟨h1, h2, h3, h4, h5⟩; exact ⟨⟨h1, h2, h3⟩, h4, h5⟩
   ·rintro ⟨⟨h1, h2, h3⟩, h4, h5⟩; exact ⟨h1, h2, h3, h4, h5⟩
end Go.PH
end
section
namespace Go.PH
end Go.PH
end
section
namespace Go.PH
end Go.PH
end
section
namespace Go.PH
theorem jx : ∀ {a b : List Sp}, zN (a ++ b) = true → zN a = true
 | [], _, _ => rfl
 | x :: a, b, h => by
  rw [List.cons_append] at h
  obtain ⟨h1, h2, h3⟩ := spRight_cons.1 h
  refine spRight_cons.2 ⟨h1, ?_, jx h3⟩
  cases a with
  | nil => trivial
  | cons y a => exact h2
theorem ZY {l : List Sp} (h : zN l = true) (k : Nat) : zN (l.take k) = true := jx (b := l.drop k) (by rw [List.take_append_drop]; exact h)
def vE (l : List Sp) (k : Nat) (h : k < l.length) : Prop := l[k].1 ≤ l[k].2 ∧ ∀ (h0 : 0 < k), l[k - 1].2 + 2 ≤ l[k].1
theorem jY {l : List Sp} {k : Nat} (hk : k < l.length) (h : zN (l.take k) = true) : zN (l.take (k + 1)) = true ↔ vE l k hk := by
 rw [List.take_succ_eq_append_getElem hk, YB]
 unfold vE
 constructor
 ·rintro ⟨_, h1, h2⟩
  refine ⟨h1, fun h0 => h2 _ ?_⟩
  rw [List.getLast?_eq_getElem?, List.length_take, Nat.min_eq_left (by omega), List.getElem?_take, if_pos (by omega), List.getElem?_eq_getElem (by omega)]
  rfl
 ·rintro ⟨h1, h2⟩
  refine ⟨h, h1, fun b hb => ?_⟩
  rcases Nat.eq_zero_or_pos k with rfl | h0
  ·simp at hb
  ·rw [List.getLast?_eq_getElem?, List.length_take, Nat.min_eq_left (by omega), List.getElem?_take, if_pos (by omega), List.getElem?_eq_getElem (by omega)] at hb
   cases hb
   exact h2 h0
theorem kM {l : List Sp} {k : Nat} (hk : k < l.length) (h : zN (l.take k) = true) (h1 : vE l k hk) : zN (l.take (k + 1)) = true := (jY hk h).2 h1
theorem jN {l : List Sp} {k : Nat} (hk : k < l.length) (h : zN (l.take k) = true) (h1 : ¬ vE l k hk) : zN l = false := by
 rcases hr : zN l with _ | _
 ·rfl
 ·exact absurd ((jY hk h).1 (ZY hr _)) h1
theorem XK {l : List Sp} {k : Nat} (hk : k < l.length) : vE l k hk ↔ (l[k].1 ≤ l[k].2 ∧ (k = 0 ∨ (l.getD (k - 1) (0, 0)).2 + 2 ≤ l[k].1)) := by
 unfold vE
 have e : l.getD (k - 1) (0, 0) = l[k - 1] := by
  have : k - 1 < l.length := by omega
  simp [List.getD, List.getElem?_eq_getElem this]
 rw [e]
 constructor
 ·rintro ⟨h1, h2⟩
  refine ⟨h1, ?_⟩
  rcases Nat.eq_zero_or_pos k with h0 | h0
  ·exact .inl h0
  ·exact .inr (h2 h0)
 ·rintro ⟨h1, h2⟩
  refine ⟨h1, fun h0 => ?_⟩
  rcases h2 with h2 | h2
  ·omega
  ·exact h2
def spOK (N : Nat) (l : List Sp) : Prop := ∀ a ∈ l, a.1 < N ∧ a.2 < N
end Go.PH
end

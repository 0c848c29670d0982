/- Texts laid together: VlMayR, VlCheckR. -/
import Derived.Test.YtidpbbleneekgaaGreatDoorMg07
import Derived.Test.YtidpbbleneekgaaGreatDoorMg10
import Derived.Test.YtidpbbleneekgaaGreatDoorMg11
set_option linter.all false
set_option linter.unusedSimpArgs false
set_option linter.unusedVariables false
section
/- Which values may be: the walk of the document's program. -/
namespace Go.PH
open Go.RowKit Go.Proofs

set_option maxRecDepth 20000 in
set_option maxHeartbeats 4000000 in
theorem rmay_any (v : Vl) : ∀ (h : VH) (w : World), RVw w v h → Calls Tryz.prog 111 #[.agg (vlV v h)] w (MayR w v) := by
 refine Vl.ind (P := fun v => ∀ (h : VH) (w : World), RVw w v h → Calls Tryz.prog 111 #[.agg (vlV v h)] w (MayR w v)) ?_ v
 intro v ih h w hv
 unfold vlV MayR
 obtain ⟨xb, w1, hxb, hxv, hX, hB1⟩ := alloc_stepV w #[.int .u8 (v.kind : Int), .int .u64 (v.n : Int), .string (str v.s), .slice h.A1 v.keys.length h.c1, .slice h.A2 v.list.length h.c2] 50
 have hv1 := hv.up hB1
 obtain ⟨_, hnr, hsl, hkb, hKb, hLb⟩ := hv.bounds
 have hvk : RdX w1 (fun g => g < w1.heap.size) 1 h.A1 v.keys.length h.c1 (v.keys.map txV) := by
  obtain ⟨xs, _, _, _, hvk⟩ := hv1.parts
  exact hvk
 have hkey := rkeys_any h.A1 v.keys.length h.c1 v.keys w1 hvk.1 hKb hkb
 have hpl := utf_any v.s w1 hsl
 have hel := fun i (hi : i < v.list.length) => hv1.elem hi
 have HEL := Lib.hid hel
 have IH := Lib.hid ih
 obtain ⟨r, hr⟩ : ∃ r, r = mayV utf8B v := ⟨_, rfl⟩
 rw [← hr]
 rw [mayV_eq] at hr
 have hall : v.list.length = 0 → v.list.all (mayV utf8B) = true := fun e => by rw [List.length_eq_zero_iff.1 e]; rfl
 have hem := str_empty v.s
 have hem2 : ((str v.s).toList != []) = !decide (v.s.length = 0) := by rw [str_toList]; cases v.s <;> simp
 have has := str_size v.s
 clear ih hv hv1 hvk hkb hel
 generalize keysOk v.keys utf8B = ko at *
 generalize utf8B v.s = pl at *
 generalize hal : v.list.all (mayV utf8B) = al at *
 generalize v.keys.length = KL at *
 obtain ⟨LL, hLL⟩ : ∃ LL, LL = v.list.length := ⟨_, rfl⟩
 rw [← hLL] at hLb hall hxv hX hr ⊢
 generalize v.s = s at *
 obtain ⟨h1, j1, h2, j2⟩ := h
 simp only at *
 generalize v.kind = kd at *
 generalize v.n = nd at *
 generalize hk : ((kd : Nat) : Int) = k at *
 generalize hnn : ((nd : Nat) : Int) = nn at *
 generalize hsl2 : s.length = sl at *
 have HR := Lib.hid hr
 have HAL := Lib.hid hall
 have HALL := Lib.hid hal
 have HLL' := Lib.hid hLL
 clear hr hall hsl2 hal hLL
 have c0 := hX.c0
 have c1 := hX.c1
 have c2 := hX.c2
 have c3 := hX.c3
 have c4 := hX.c4
--TREE
 by_cases hmap : kd = 168
 ·subst hmap
  obtain rfl : k = 168 := by rw [← hk]; rfl
  clear hk hpl
  by_cases hs : sl = 0
  ·rw [decide_eq_true hs] at hem hem2
   simp only [Bool.not_true] at hem2
   have HS := Lib.hid hs
   have gs : ¬ (4096 : Int) < (sl : Int) := by omega
   clear hs
   by_cases hln : KL = LL
   ·have gl : ((KL : Int) != (LL : Int)) = false := by simp [hln]
    have HLN := Lib.hid hln
    clear hln
    cases ko
    ·obtain rfl : r = false := by rw [HR.out]; simp [mayF]
     go_enter Tryz.func111, Tryz.ntmps111
     go_upto_region 1 with fail
     rw [← hxb, ← hxv]
     clear hxb hxv
     go_wp2_with (with_reducible refine h_A ?_)
     refine hkey.mono ?_
     rintro e w2 ⟨rfl, hB2⟩
     go_wp2_with (with_reducible refine h_A ?_)
     go_ret
     exact ⟨rfl, hB1.trans (hB2.mono hB1.size)⟩
    ·by_cases hn : nd = 0
     ·have HN0 := Lib.hid hn
      have gn : (nn != 0) = false := by simp; omega
      have gn2 : (nn == 0) = true := by simp; omega
      clear hnn hn
      obtain rfl : r = al := by rw [HR.out]; simp [mayF, HLN.out, HS.out, HN0.out]
      go_enter Tryz.func111, Tryz.ntmps111
      go_upto_region 1 with fail
      rw [← hxb, ← hxv]
      clear hxb hxv
      go_wp2_with (with_reducible refine h_A ?_)
      refine hkey.mono ?_
      rintro e w2 ⟨rfl, hB2⟩
      have hX2 := hX.below hB2
      clear c0 c1 c2 c3 c4
      have c0 := hX2.c0
      have c1 := hX2.c1
      have c2 := hX2.c2
      have c3 := hX2.c3
      have c4 := hX2.c4
      go_wp2_with (with_reducible refine h_A ?_)
      clear c0 c1 c2 c3 c4
      go_loopw [5] (fun s4 wr => ∃ i : Nat, i ≤ LL ∧ s4 = .int .i64 i ∧ Hid ((v.list.drop i).all (mayV utf8B) = v.list.all (mayV utf8B)) ∧ Below w1.heap.size w1 wr) (fun s4 _ => LL - (RowKit.intOf s4).toNat)
      case atStart => exact ⟨0, by omega, rfl, Lib.hid rfl, hB2⟩
      case round =>
       obtain ⟨i, hi, rfl, HC, hB⟩ := hrel
       have hXr := hX.below hB
       have c4 := hXr.c4
       by_cases hlt : i < LL
       ·have g1 : (i : Int) < (LL : Int) := by omega
        have hil : i < v.list.length := by rw [← HLL'.out]; exact hlt
        obtain ⟨b, off, hx, rfl, hvx, HX⟩ := HEL.out i hil
        obtain ⟨k0, k1, k2, k3, k4⟩ := HX wr hB
        have HD : Hid ((v.list.drop i).all (mayV utf8B) = (mayV utf8B v.list[i] && (v.list.drop (i + 1)).all (mayV utf8B))) := Lib.hid (by rw [List.drop_eq_getElem_cons hil, List.all_cons])
        have hq := IH.out _ (List.getElem_mem hil) hx wr (hvx.up hB)
        clear HX hvx
        generalize v.list[i] = x at *
        unfold vlV MayR at hq
        cases hp : mayV utf8B x
        ·have HQ : Hid (v.list.all (mayV utf8B) = false) := Lib.hid (by rw [← HC.out, HD.out, hp]; rfl)
         rw [hp] at hq
         clear hp
         go_wp2_with (with_reducible refine h_A ?_)
         refine hq.mono ?_
         rintro e w9 ⟨rfl, hB9⟩
         clear hq k0 k1 k2 k3 k4 c4
         go_wp2_with (with_reducible refine h_A ?_)
         go_ret
         have h9 := HALL.out
         rw [HQ.out] at h9
         exact ⟨(by rw [← h9]; rfl), hB1.trans ((hB.trans (hB9.mono hB.size)).mono hB1.size)⟩
        ·have HQ : Hid ((v.list.drop (i + 1)).all (mayV utf8B) = v.list.all (mayV utf8B)) := Lib.hid (by rw [← HC.out, HD.out, hp]; rfl)
         rw [hp] at hq
         clear hp
         go_wp2_with (with_reducible refine h_A ?_)
         refine hq.mono ?_
         rintro e w9 ⟨rfl, hB9⟩
         clear hq k0 k1 k2 k3 k4 c4
         go_wp2_with (with_reducible refine h_A ?_)
         exact ⟨⟨i + 1, by omega, by go_num, HQ, hB.trans (hB9.mono hB.size)⟩, by simp [RowKit.intOf]; omega⟩
       ·have g1 : ¬ (i : Int) < (LL : Int) := by omega
        have HQ : Hid (v.list.all (mayV utf8B) = true) := Lib.hid (by rw [← HC.out, List.drop_eq_nil_of_le (by rw [← HLL'.out]; omega)]; rfl)
        go_wp2_with (with_reducible refine h_A ?_)
        go_ret
        have h9 := HALL.out
        rw [HQ.out] at h9
        exact ⟨(by rw [← h9]; rfl), hB1.trans (hB.mono hB1.size)⟩
     ·have HN0 := Lib.hid hn
      have gn : (nn != 0) = true := by simp; omega
      have gn2 : (nn == 0) = false := by simp; omega
      clear hnn hn
      obtain rfl : r = false := by rw [HR.out]; simp [mayF, HLN.out, HS.out, HN0.out]
      go_enter Tryz.func111, Tryz.ntmps111
      go_upto_region 1 with fail
      rw [← hxb, ← hxv]
      clear hxb hxv
      go_wp2_with (with_reducible refine h_A ?_)
      refine hkey.mono ?_
      rintro e w2 ⟨rfl, hB2⟩
      have hX2 := hX.below hB2
      clear c0 c1 c2 c3 c4
      have c0 := hX2.c0
      have c1 := hX2.c1
      have c2 := hX2.c2
      have c3 := hX2.c3
      have c4 := hX2.c4
      go_wp2_with (with_reducible refine h_A ?_)
      go_ret
      exact ⟨rfl, hB1.trans ((hB2).mono hB1.size)⟩
   ·have gl : ((KL : Int) != (LL : Int)) = true := by simp; omega
    have HLN := Lib.hid hln
    clear hln
    obtain rfl : r = false := by rw [HR.out]; simp [mayF, HLN.out]
    go_enter Tryz.func111, Tryz.ntmps111
    go_upto_region 1 with fail
    rw [← hxb, ← hxv]
    clear hxb hxv
    go_wp2_with (with_reducible refine h_A ?_)
    go_ret
    exact ⟨rfl, hB1⟩
  ·rw [decide_eq_false hs] at hem hem2
   simp only [Bool.not_false] at hem2
   have HS := Lib.hid hs
   clear hs
   obtain rfl : r = false := by rw [HR.out]; simp [mayF, HS.out]
   go_enter Tryz.func111, Tryz.ntmps111
   go_upto_region 1 with fail
   rw [← hxb, ← hxv]
   clear hxb hxv
   go_wp2_with (with_reducible refine h_A ?_)
   go_ret
   exact ⟨rfl, hB1⟩
 ·have gm : (k != 168) = true := by simp; omega
  have gm2 : (k == 168) = false := by simp; omega
  by_cases hkl : 0 < KL
  ·have gk : (0 : Int) < (KL : Int) := by omega
   have HM := Lib.hid hmap
   have HKL : Hid (¬ KL = 0) := Lib.hid (by omega)
   clear hkl hmap
   by_cases e169 : kd = 169
   ·obtain rfl : k = 169 := by rw [← hk, e169]; rfl
    clear hk
    obtain rfl : r = false := by rw [HR.out]; simp [mayF, HM.out, HKL.out]
    go_enter Tryz.func111, Tryz.ntmps111
    go_upto_region 1 with fail
    rw [← hxb, ← hxv]
    clear hxb hxv
    go_wp2_with (with_reducible refine h_A ?_)
    go_ret
    exact ⟨rfl, hB1⟩
   ·have q169 : (k == 169) = false := by simp; omega
    by_cases e149 : kd = 149
    ·obtain rfl : k = 149 := by rw [← hk, e149]; rfl
     clear hk
     obtain rfl : r = false := by rw [HR.out]; simp [mayF, HM.out, HKL.out]
     go_enter Tryz.func111, Tryz.ntmps111
     go_upto_region 1 with fail
     rw [← hxb, ← hxv]
     clear hxb hxv
     go_wp2_with (with_reducible refine h_A ?_)
     go_ret
     exact ⟨rfl, hB1⟩
    ·have q149 : (k == 149) = false := by simp; omega
     by_cases e160 : kd = 160
     ·obtain rfl : k = 160 := by rw [← hk, e160]; rfl
      clear hk
      obtain rfl : r = false := by rw [HR.out]; simp [mayF, HM.out, HKL.out]
      go_enter Tryz.func111, Tryz.ntmps111
      go_upto_region 1 with fail
      rw [← hxb, ← hxv]
      clear hxb hxv
      go_wp2_with (with_reducible refine h_A ?_)
      go_ret
      exact ⟨rfl, hB1⟩
     ·have q160 : (k == 160) = false := by simp; omega
      obtain rfl : r = false := by rw [HR.out]; simp [mayF, HM.out, HKL.out]
      go_enter Tryz.func111, Tryz.ntmps111
      go_upto_region 1 with fail
      rw [← hxb, ← hxv]
      clear hxb hxv
      go_wp2_with (with_reducible refine h_A ?_)
      go_ret
      exact ⟨rfl, hB1⟩
  ·have gk : ¬ (0 : Int) < (KL : Int) := by omega
   obtain rfl : KL = 0 := by omega
   by_cases hlist : kd = 169
   ·subst hlist
    obtain rfl : k = 169 := by rw [← hk]; rfl
    clear hk hkl hmap gm gm2 hkey hpl
    by_cases hs : sl = 0
    ·rw [decide_eq_true hs] at hem hem2
     simp only [Bool.not_true] at hem2
     have HS := Lib.hid hs
     have gs : ¬ (4096 : Int) < (sl : Int) := by omega
     clear hs
     by_cases hn : nd = 0
     ·have HN0 := Lib.hid hn
      have gn : (nn != 0) = false := by simp; omega
      have gn2 : (nn == 0) = true := by simp; omega
      clear hnn hn
      obtain rfl : r = al := by rw [HR.out]; simp [mayF, HS.out, HN0.out]
      go_enter Tryz.func111, Tryz.ntmps111
      go_upto_region 1 with fail
      rw [← hxb, ← hxv]
      clear hxb hxv
      go_wp2_with (with_reducible refine h_A ?_)
      clear c0 c1 c2 c3 c4
      go_loopw [5] (fun s4 wr => ∃ i : Nat, i ≤ LL ∧ s4 = .int .i64 i ∧ Hid ((v.list.drop i).all (mayV utf8B) = v.list.all (mayV utf8B)) ∧ Below w1.heap.size w1 wr) (fun s4 _ => LL - (RowKit.intOf s4).toNat)
      case atStart => exact ⟨0, by omega, rfl, Lib.hid rfl, Below.refl _ _⟩
      case round =>
       obtain ⟨i, hi, rfl, HC, hB⟩ := hrel
       have hXr := hX.below hB
       have c4 := hXr.c4
       by_cases hlt : i < LL
       ·have g1 : (i : Int) < (LL : Int) := by omega
        have hil : i < v.list.length := by rw [← HLL'.out]; exact hlt
        obtain ⟨b, off, hx, rfl, hvx, HX⟩ := HEL.out i hil
        obtain ⟨k0, k1, k2, k3, k4⟩ := HX wr hB
        have HD : Hid ((v.list.drop i).all (mayV utf8B) = (mayV utf8B v.list[i] && (v.list.drop (i + 1)).all (mayV utf8B))) := Lib.hid (by rw [List.drop_eq_getElem_cons hil, List.all_cons])
        have hq := IH.out _ (List.getElem_mem hil) hx wr (hvx.up hB)
        clear HX hvx
        generalize v.list[i] = x at *
        unfold vlV MayR at hq
        cases hp : mayV utf8B x
        ·have HQ : Hid (v.list.all (mayV utf8B) = false) := Lib.hid (by rw [← HC.out, HD.out, hp]; rfl)
         rw [hp] at hq
         clear hp
         go_wp2_with (with_reducible refine h_A ?_)
         refine hq.mono ?_
         rintro e w9 ⟨rfl, hB9⟩
         clear hq k0 k1 k2 k3 k4 c4
         go_wp2_with (with_reducible refine h_A ?_)
         go_ret
         have h9 := HALL.out
         rw [HQ.out] at h9
         exact ⟨(by rw [← h9]; rfl), hB1.trans ((hB.trans (hB9.mono hB.size)).mono hB1.size)⟩
        ·have HQ : Hid ((v.list.drop (i + 1)).all (mayV utf8B) = v.list.all (mayV utf8B)) := Lib.hid (by rw [← HC.out, HD.out, hp]; rfl)
         rw [hp] at hq
         clear hp
         go_wp2_with (with_reducible refine h_A ?_)
         refine hq.mono ?_
         rintro e w9 ⟨rfl, hB9⟩
         clear hq k0 k1 k2 k3 k4 c4
         go_wp2_with (with_reducible refine h_A ?_)
         exact ⟨⟨i + 1, by omega, by go_num, HQ, hB.trans (hB9.mono hB.size)⟩, by simp [RowKit.intOf]; omega⟩
       ·have g1 : ¬ (i : Int) < (LL : Int) := by omega
        have HQ : Hid (v.list.all (mayV utf8B) = true) := Lib.hid (by rw [← HC.out, List.drop_eq_nil_of_le (by rw [← HLL'.out]; omega)]; rfl)
        go_wp2_with (with_reducible refine h_A ?_)
        go_ret
        have h9 := HALL.out
        rw [HQ.out] at h9
        exact ⟨(by rw [← h9]; rfl), hB1.trans (hB.mono hB1.size)⟩
     ·have HN0 := Lib.hid hn
      have gn : (nn != 0) = true := by simp; omega
      have gn2 : (nn == 0) = false := by simp; omega
      clear hnn hn
      obtain rfl : r = false := by rw [HR.out]; simp [mayF, HS.out, HN0.out]
      go_enter Tryz.func111, Tryz.ntmps111
      go_upto_region 1 with fail
      rw [← hxb, ← hxv]
      clear hxb hxv
      go_wp2_with (with_reducible refine h_A ?_)
      go_ret
      exact ⟨rfl, hB1.trans ((Below.refl _ _).mono hB1.size)⟩
    ·rw [decide_eq_false hs] at hem hem2
     simp only [Bool.not_false] at hem2
     have HS := Lib.hid hs
     clear hs
     obtain rfl : r = false := by rw [HR.out]; simp [mayF, HS.out]
     go_enter Tryz.func111, Tryz.ntmps111
     go_upto_region 1 with fail
     rw [← hxb, ← hxv]
     clear hxb hxv
     go_wp2_with (with_reducible refine h_A ?_)
     go_ret
     exact ⟨rfl, hB1⟩
   ·have gl : (k != 169) = true := by simp; omega
    have gl2 : (k == 169) = false := by simp; omega
    by_cases hll : 0 < LL
    ·have gk2 : (0 : Int) < (LL : Int) := by omega
     have HM := Lib.hid hmap
     have HL := Lib.hid hlist
     have HLL : Hid (¬ LL = 0) := Lib.hid (by omega)
     clear hll hmap hlist
     by_cases e149 : kd = 149
     ·obtain rfl : k = 149 := by rw [← hk, e149]; rfl
      clear hk
      obtain rfl : r = false := by rw [HR.out]; simp [mayF, HM.out, HL.out, HLL.out]
      go_enter Tryz.func111, Tryz.ntmps111
      go_upto_region 1 with fail
      rw [← hxb, ← hxv]
      clear hxb hxv
      go_wp2_with (with_reducible refine h_A ?_)
      go_ret
      exact ⟨rfl, hB1⟩
     ·have q149 : (k == 149) = false := by simp; omega
      by_cases e160 : kd = 160
      ·obtain rfl : k = 160 := by rw [← hk, e160]; rfl
       clear hk
       obtain rfl : r = false := by rw [HR.out]; simp [mayF, HM.out, HL.out, HLL.out]
       go_enter Tryz.func111, Tryz.ntmps111
       go_upto_region 1 with fail
       rw [← hxb, ← hxv]
       clear hxb hxv
       go_wp2_with (with_reducible refine h_A ?_)
       go_ret
       exact ⟨rfl, hB1⟩
      ·have q160 : (k == 160) = false := by simp; omega
       obtain rfl : r = false := by rw [HR.out]; simp [mayF, HM.out, HL.out, HLL.out]
       go_enter Tryz.func111, Tryz.ntmps111
       go_upto_region 1 with fail
       rw [← hxb, ← hxv]
       clear hxb hxv
       go_wp2_with (with_reducible refine h_A ?_)
       go_ret
       exact ⟨rfl, hB1⟩
    ·have gk2 : ¬ (0 : Int) < (LL : Int) := by omega
     obtain rfl : LL = 0 := by omega
     obtain rfl : al = true := HAL.out rfl
     clear hll hkl hkey
     by_cases h240 : kd = 240
     ·subst h240
      obtain rfl : k = 240 := by rw [← hk]; rfl
      clear hk hmap gm gm2 hlist gl gl2
      by_cases hs : sl = 0
      ·rw [decide_eq_true hs] at hem hem2
       simp only [Bool.not_true] at hem2
       have HS := Lib.hid hs
       have gs : ¬ (4096 : Int) < (sl : Int) := by omega
       clear hs
       by_cases hn : nd = 0
       ·have HN0 := Lib.hid hn
        have gn : (nn != 0) = false := by simp; omega
        have gn2 : (nn == 0) = true := by simp; omega
        clear hnn hn
        obtain rfl : r = true := by rw [HR.out]; simp [mayF, HS.out, HN0.out]
        go_enter Tryz.func111, Tryz.ntmps111
        go_upto_region 1 with fail
        rw [← hxb, ← hxv]
        clear hxb hxv
        go_wp2_with (with_reducible refine h_A ?_)
        clear c0 c1 c2 c3 c4
        go_loopw [5] (fun s4 wr => s4 = .int .i64 0 ∧ Below w1.heap.size w1 wr) (fun _ _ => 0)
        case atStart => exact ⟨rfl, Below.refl _ _⟩
        case round =>
         obtain ⟨rfl, hB⟩ := hrel
         have hXr := hX.below hB
         have c4 := hXr.c4
         go_wp2_with (with_reducible refine h_A ?_)
         go_ret
         exact ⟨rfl, hB1.trans (hB.mono hB1.size)⟩
       ·have HN0 := Lib.hid hn
        have gn : (nn != 0) = true := by simp; omega
        have gn2 : (nn == 0) = false := by simp; omega
        clear hnn hn
        obtain rfl : r = false := by rw [HR.out]; simp [mayF, HS.out, HN0.out]
        go_enter Tryz.func111, Tryz.ntmps111
        go_upto_region 1 with fail
        rw [← hxb, ← hxv]
        clear hxb hxv
        go_wp2_with (with_reducible refine h_A ?_)
        go_ret
        exact ⟨rfl, hB1.trans ((Below.refl _ _).mono hB1.size)⟩
      ·rw [decide_eq_false hs] at hem hem2
       simp only [Bool.not_false] at hem2
       have HS := Lib.hid hs
       clear hs
       obtain rfl : r = false := by rw [HR.out]; simp [mayF, HS.out]
       go_enter Tryz.func111, Tryz.ntmps111
       go_upto_region 1 with fail
       rw [← hxb, ← hxv]
       clear hxb hxv
       go_wp2_with (with_reducible refine h_A ?_)
       go_ret
       exact ⟨rfl, hB1⟩
     ·by_cases h8 : kd = 8
      ·subst h8
       obtain rfl : k = 8 := by rw [← hk]; rfl
       clear hk hmap gm gm2 hlist gl gl2
       by_cases hs : sl = 0
       ·rw [decide_eq_true hs] at hem hem2
        simp only [Bool.not_true] at hem2
        have HS := Lib.hid hs
        have gs : ¬ (4096 : Int) < (sl : Int) := by omega
        clear hs
        by_cases hn : nd ≤ 1
        ·have HN0 := Lib.hid hn
         have gn : nn ≤ 1 := by omega
         clear hnn hn
         obtain rfl : r = true := by rw [HR.out]; simp [mayF, HN0.out, HS.out]
         go_enter Tryz.func111, Tryz.ntmps111
         go_upto_region 1 with fail
         rw [← hxb, ← hxv]
         clear hxb hxv
         go_wp2_with (with_reducible refine h_A ?_)
         go_ret
         exact ⟨rfl, hB1⟩
        ·have HN0 := Lib.hid hn
         have gn : ¬ nn ≤ 1 := by omega
         clear hnn hn
         obtain rfl : r = false := by rw [HR.out]; simp [mayF, HN0.out, HS.out]
         go_enter Tryz.func111, Tryz.ntmps111
         go_upto_region 1 with fail
         rw [← hxb, ← hxv]
         clear hxb hxv
         go_wp2_with (with_reducible refine h_A ?_)
         go_ret
         exact ⟨rfl, hB1⟩
       ·rw [decide_eq_false hs] at hem hem2
        simp only [Bool.not_false] at hem2
        have HS := Lib.hid hs
        clear hs
        obtain rfl : r = false := by rw [HR.out]; simp [mayF, HS.out]
        go_enter Tryz.func111, Tryz.ntmps111
        go_upto_region 1 with fail
        rw [← hxb, ← hxv]
        clear hxb hxv
        go_wp2_with (with_reducible refine h_A ?_)
        go_ret
        exact ⟨rfl, hB1⟩
      ·by_cases h2 : kd = 2
       ·subst h2
        obtain rfl : k = 2 := by rw [← hk]; rfl
        clear hk hmap gm gm2 hlist gl gl2
        by_cases hs : sl = 0
        ·rw [decide_eq_true hs] at hem hem2
         simp only [Bool.not_true] at hem2
         have HS := Lib.hid hs
         have gs : ¬ (4096 : Int) < (sl : Int) := by omega
         clear hs
         by_cases hn : nd ≤ 255
         ·have HN0 := Lib.hid hn
          have gn : nn ≤ 255 := by omega
          clear hnn hn
          obtain rfl : r = true := by rw [HR.out]; simp [mayF, HN0.out, HS.out]
          go_enter Tryz.func111, Tryz.ntmps111
          go_upto_region 1 with fail
          rw [← hxb, ← hxv]
          clear hxb hxv
          go_wp2_with (with_reducible refine h_A ?_)
          go_ret
          exact ⟨rfl, hB1⟩
         ·have HN0 := Lib.hid hn
          have gn : ¬ nn ≤ 255 := by omega
          clear hnn hn
          obtain rfl : r = false := by rw [HR.out]; simp [mayF, HN0.out, HS.out]
          go_enter Tryz.func111, Tryz.ntmps111
          go_upto_region 1 with fail
          rw [← hxb, ← hxv]
          clear hxb hxv
          go_wp2_with (with_reducible refine h_A ?_)
          go_ret
          exact ⟨rfl, hB1⟩
        ·rw [decide_eq_false hs] at hem hem2
         simp only [Bool.not_false] at hem2
         have HS := Lib.hid hs
         clear hs
         obtain rfl : r = false := by rw [HR.out]; simp [mayF, HS.out]
         go_enter Tryz.func111, Tryz.ntmps111
         go_upto_region 1 with fail
         rw [← hxb, ← hxv]
         clear hxb hxv
         go_wp2_with (with_reducible refine h_A ?_)
         go_ret
         exact ⟨rfl, hB1⟩
       ·by_cases h49 : kd = 49
        ·subst h49
         obtain rfl : k = 49 := by rw [← hk]; rfl
         clear hk hmap gm gm2 hlist gl gl2
         clear hnn
         by_cases hs : sl = 0
         ·rw [decide_eq_true hs] at hem hem2
          simp only [Bool.not_true] at hem2
          have HS := Lib.hid hs
          have gs : ¬ (4096 : Int) < (sl : Int) := by omega
          clear hs
          obtain rfl : r = true := by rw [HR.out]; simp [mayF, HS.out]
          go_enter Tryz.func111, Tryz.ntmps111
          go_upto_region 1 with fail
          rw [← hxb, ← hxv]
          clear hxb hxv
          go_wp2_with (with_reducible refine h_A ?_)
          go_ret
          exact ⟨rfl, hB1⟩
         ·rw [decide_eq_false hs] at hem hem2
          simp only [Bool.not_false] at hem2
          have HS := Lib.hid hs
          clear hs
          obtain rfl : r = false := by rw [HR.out]; simp [mayF, HS.out]
          go_enter Tryz.func111, Tryz.ntmps111
          go_upto_region 1 with fail
          rw [← hxb, ← hxv]
          clear hxb hxv
          go_wp2_with (with_reducible refine h_A ?_)
          go_ret
          exact ⟨rfl, hB1⟩
        ·by_cases h50 : kd = 50
         ·subst h50
          obtain rfl : k = 50 := by rw [← hk]; rfl
          clear hk hmap gm gm2 hlist gl gl2
          clear hnn
          by_cases hs : sl = 0
          ·rw [decide_eq_true hs] at hem hem2
           simp only [Bool.not_true] at hem2
           have HS := Lib.hid hs
           have gs : ¬ (4096 : Int) < (sl : Int) := by omega
           clear hs
           obtain rfl : r = true := by rw [HR.out]; simp [mayF, HS.out]
           go_enter Tryz.func111, Tryz.ntmps111
           go_upto_region 1 with fail
           rw [← hxb, ← hxv]
           clear hxb hxv
           go_wp2_with (with_reducible refine h_A ?_)
           go_ret
           exact ⟨rfl, hB1⟩
          ·rw [decide_eq_false hs] at hem hem2
           simp only [Bool.not_false] at hem2
           have HS := Lib.hid hs
           clear hs
           obtain rfl : r = false := by rw [HR.out]; simp [mayF, HS.out]
           go_enter Tryz.func111, Tryz.ntmps111
           go_upto_region 1 with fail
           rw [← hxb, ← hxv]
           clear hxb hxv
           go_wp2_with (with_reducible refine h_A ?_)
           go_ret
           exact ⟨rfl, hB1⟩
         ·by_cases h149 : kd = 149
          ·subst h149
           obtain rfl : k = 149 := by rw [← hk]; rfl
           clear hk hmap gm gm2 hlist gl gl2
           by_cases hs : sl ≤ 4096
           ·have HS := Lib.hid hs
            have gs : ¬ (4096 : Int) < (sl : Int) := by omega
            clear hs
            cases pl
            ·obtain rfl : r = false := by rw [HR.out]; simp [mayF, HS.out]
             go_enter Tryz.func111, Tryz.ntmps111
             go_upto_region 1 with fail
             rw [← hxb, ← hxv]
             clear hxb hxv
             go_wp2_with (with_reducible refine h_A ?_)
             refine hpl.mono ?_
             rintro e w2 ⟨rfl, rfl⟩
             go_wp2_with (with_reducible refine h_A ?_)
             go_ret
             exact ⟨rfl, hB1⟩
            ·by_cases hn : nd = 0
             ·have HN0 := Lib.hid hn
              have gn : (nn != 0) = false := by simp; omega
              have gn2 : (nn == 0) = true := by simp; omega
              clear hnn hn
              obtain rfl : r = true := by rw [HR.out]; simp [mayF, HS.out, HN0.out]
              go_enter Tryz.func111, Tryz.ntmps111
              go_upto_region 1 with fail
              rw [← hxb, ← hxv]
              clear hxb hxv
              go_wp2_with (with_reducible refine h_A ?_)
              refine hpl.mono ?_
              rintro e w2 ⟨rfl, rfl⟩
              go_wp2_with (with_reducible refine h_A ?_)
              clear c0 c1 c2 c3 c4
              go_loopw [5] (fun s4 wr => s4 = .int .i64 0 ∧ Below w1.heap.size w1 wr) (fun _ _ => 0)
              case atStart => exact ⟨rfl, Below.refl _ _⟩
              case round =>
               obtain ⟨rfl, hB⟩ := hrel
               have hXr := hX.below hB
               have c4 := hXr.c4
               go_wp2_with (with_reducible refine h_A ?_)
               go_ret
               exact ⟨rfl, hB1.trans (hB.mono hB1.size)⟩
             ·have HN0 := Lib.hid hn
              have gn : (nn != 0) = true := by simp; omega
              have gn2 : (nn == 0) = false := by simp; omega
              clear hnn hn
              obtain rfl : r = false := by rw [HR.out]; simp [mayF, HS.out, HN0.out]
              go_enter Tryz.func111, Tryz.ntmps111
              go_upto_region 1 with fail
              rw [← hxb, ← hxv]
              clear hxb hxv
              go_wp2_with (with_reducible refine h_A ?_)
              refine hpl.mono ?_
              rintro e w2 ⟨rfl, rfl⟩
              go_wp2_with (with_reducible refine h_A ?_)
              go_ret
              exact ⟨rfl, hB1.trans ((Below.refl _ _).mono hB1.size)⟩
           ·have HS := Lib.hid hs
            have gs : (4096 : Int) < (sl : Int) := by omega
            clear hs
            obtain rfl : r = false := by rw [HR.out]; simp [mayF, HS.out]
            go_enter Tryz.func111, Tryz.ntmps111
            go_upto_region 1 with fail
            rw [← hxb, ← hxv]
            clear hxb hxv
            go_wp2_with (with_reducible refine h_A ?_)
            go_ret
            exact ⟨rfl, hB1⟩
          ·by_cases h160 : kd = 160
           ·subst h160
            obtain rfl : k = 160 := by rw [← hk]; rfl
            clear hk hmap gm gm2 hlist gl gl2
            by_cases hs : sl ≤ 4096
            ·have HS := Lib.hid hs
             have gs : ¬ (4096 : Int) < (sl : Int) := by omega
             clear hs
             by_cases hn : nd = 0
             ·have HN0 := Lib.hid hn
              have gn : (nn != 0) = false := by simp; omega
              have gn2 : (nn == 0) = true := by simp; omega
              clear hnn hn
              obtain rfl : r = true := by rw [HR.out]; simp [mayF, HS.out, HN0.out]
              go_enter Tryz.func111, Tryz.ntmps111
              go_upto_region 1 with fail
              rw [← hxb, ← hxv]
              clear hxb hxv
              go_wp2_with (with_reducible refine h_A ?_)
              clear c0 c1 c2 c3 c4
              go_loopw [5] (fun s4 wr => s4 = .int .i64 0 ∧ Below w1.heap.size w1 wr) (fun _ _ => 0)
              case atStart => exact ⟨rfl, Below.refl _ _⟩
              case round =>
               obtain ⟨rfl, hB⟩ := hrel
               have hXr := hX.below hB
               have c4 := hXr.c4
               go_wp2_with (with_reducible refine h_A ?_)
               go_ret
               exact ⟨rfl, hB1.trans (hB.mono hB1.size)⟩
             ·have HN0 := Lib.hid hn
              have gn : (nn != 0) = true := by simp; omega
              have gn2 : (nn == 0) = false := by simp; omega
              clear hnn hn
              obtain rfl : r = false := by rw [HR.out]; simp [mayF, HS.out, HN0.out]
              go_enter Tryz.func111, Tryz.ntmps111
              go_upto_region 1 with fail
              rw [← hxb, ← hxv]
              clear hxb hxv
              go_wp2_with (with_reducible refine h_A ?_)
              go_ret
              exact ⟨rfl, hB1.trans ((Below.refl _ _).mono hB1.size)⟩
            ·have HS := Lib.hid hs
             have gs : (4096 : Int) < (sl : Int) := by omega
             clear hs
             obtain rfl : r = false := by rw [HR.out]; simp [mayF, HS.out]
             go_enter Tryz.func111, Tryz.ntmps111
             go_upto_region 1 with fail
             rw [← hxb, ← hxv]
             clear hxb hxv
             go_wp2_with (with_reducible refine h_A ?_)
             go_ret
             exact ⟨rfl, hB1⟩
           ·have g240 : (k == 240) = false := by simp; omega
            have g8 : (k == 8) = false := by simp; omega
            have g2 : (k == 2) = false := by simp; omega
            have g49 : (k == 49) = false := by simp; omega
            have g50 : (k == 50) = false := by simp; omega
            have g149 : (k == 149) = false := by simp; omega
            have g160 : (k == 160) = false := by simp; omega
            have H240 := Lib.hid h240
            have H8 := Lib.hid h8
            have H2 := Lib.hid h2
            have H49 := Lib.hid h49
            have H50 := Lib.hid h50
            have H149 := Lib.hid h149
            have H160 := Lib.hid h160
            have HMM := Lib.hid hmap
            have HLI := Lib.hid hlist
            clear hk hmap hlist hnn h240 h8 h2 h49 h50 h149 h160
            by_cases hs : sl = 0
            ·rw [decide_eq_true hs] at hem hem2
             simp only [Bool.not_true] at hem2
             have HS := Lib.hid hs
             have gs : ¬ (4096 : Int) < (sl : Int) := by omega
             clear hs
             obtain rfl : r = false := by rw [HR.out]; simp [mayF, H240.out, H8.out, H2.out, H49.out, H50.out, H149.out, H160.out, HMM.out, HLI.out]
             go_enter Tryz.func111, Tryz.ntmps111
             go_upto_region 1 with fail
             rw [← hxb, ← hxv]
             clear hxb hxv
             go_wp2_with (with_reducible refine h_A ?_)
             go_ret
             exact ⟨rfl, hB1⟩
            ·rw [decide_eq_false hs] at hem hem2
             simp only [Bool.not_false] at hem2
             have HS := Lib.hid hs
             clear hs
             obtain rfl : r = false := by rw [HR.out]; simp [mayF, H240.out, H8.out, H2.out, H49.out, H50.out, H149.out, H160.out, HMM.out, HLI.out]
             go_enter Tryz.func111, Tryz.ntmps111
             go_upto_region 1 with fail
             rw [← hxb, ← hxv]
             clear hxb hxv
             go_wp2_with (with_reducible refine h_A ?_)
             go_ret
             exact ⟨rfl, hB1⟩
--EERT
end Go.PH
end
section
/- Whether a value may be: the walk of the document's Check. -/
namespace Go.PH
open Go.RowKit Go.Proofs

set_option maxRecDepth 20000 in
theorem rvcheck_any (v : Vl) (h : VH) (w : World) (hv : RVw w v h) : Calls Tryz.prog 96 #[.agg (vlV v h)] w fun e w' => e = .returned (.int .i64 (errV v)) ∧ Below w.heap.size w w' := by
 obtain ⟨xb, w1, hxb, hxv, hX, hB1⟩ := alloc_stepV w #[.int .u8 (v.kind : Int), .int .u64 (v.n : Int), .string (str v.s), .slice h.A1 v.keys.length h.c1, .slice h.A2 v.list.length h.c2] 50
 have hv1 := hv.up hB1
 have hd := rdeep_any v h 6 w1 hv1 (by omega) trivial
 have hc := fun W (hW : Below w1.heap.size w1 W) => rleft_any v h 200 W (hv1.up hW) (by omega) (by omega)
 have hm := fun W (hW : Below w1.heap.size w1 W) => rmay_any v h W (hv1.up hW)
 unfold DeepR' at hd
 unfold CntR at hc
 unfold MayR at hm
 unfold vlV at hd hc hm ⊢
 obtain ⟨r, hr⟩ : ∃ r, r = errV v := ⟨_, rfl⟩
 rw [← hr]
 unfold errV at hr
 generalize deepV 6 v = d at *
 generalize cntV v 200 = q at *
 generalize mayV utf8B v = y at *
 have c0 := hX.c0
 have c1 := hX.c1
 have c2 := hX.c2
 have c3 := hX.c3
 have c4 := hX.c4
 have HC := Lib.hid hc
 have HM := Lib.hid hm
 clear hv hv1 hc hm
 rw [show ((6 : Nat) : Int) = 6 from rfl] at hd
 cases d
 ·by_cases hq : q < 0
  ·obtain rfl : r = 3 := by rw [hr]; simp [hq]
   clear hr HM
   go_enter Tryz.func96, Tryz.ntmps96
   go_upto_region 1 with fail
   rw [← hxb, ← hxv]
   clear hxb hxv
   go_wp2_with (with_reducible refine h_A ?_)
   refine hd.mono ?_
   rintro e w2 ⟨rfl, hB2⟩
   have hc := HC.out w2 hB2
   have hX2 := hX.below hB2
   clear c0 c1 c2 c3 c4 hX
   have c0 := hX2.c0
   have c1 := hX2.c1
   have c2 := hX2.c2
   have c3 := hX2.c3
   have c4 := hX2.c4
   clear hd HC
   go_wp2_with (with_reducible refine h_A ?_)
   refine hc.mono ?_
   rintro e w3 ⟨rfl, hB3⟩
   go_wp2_with (with_reducible refine h_A ?_)
   go_ret
   exact ⟨rfl, hB1.trans ((hB2.mono hB1.size).trans (hB3.mono (Nat.le_trans hB1.size hB2.size)))⟩
  ·cases y
   ·obtain rfl : r = 50 := by rw [hr]; simp [hq]
    clear hr
    go_enter Tryz.func96, Tryz.ntmps96
    go_upto_region 1 with fail
    rw [← hxb, ← hxv]
    clear hxb hxv
    go_wp2_with (with_reducible refine h_A ?_)
    refine hd.mono ?_
    rintro e w2 ⟨rfl, hB2⟩
    have hc := HC.out w2 hB2
    have hX2 := hX.below hB2
    clear c0 c1 c2 c3 c4 hX
    have c0 := hX2.c0
    have c1 := hX2.c1
    have c2 := hX2.c2
    have c3 := hX2.c3
    have c4 := hX2.c4
    clear hd HC
    go_wp2_with (with_reducible refine h_A ?_)
    refine hc.mono ?_
    rintro e w3 ⟨rfl, hB3⟩
    have hB23 := hB2.trans (hB3.mono hB2.size)
    have hm := HM.out w3 hB23
    have hX3 := hX2.below hB3
    clear hc hB3 c0 c1 c2 c3 c4 HM
    have c0 := hX3.c0
    have c1 := hX3.c1
    have c2 := hX3.c2
    have c3 := hX3.c3
    have c4 := hX3.c4
    go_wp2_with (with_reducible refine h_A ?_)
    refine hm.mono ?_
    rintro e w4 ⟨rfl, hB4⟩
    go_wp2_with (with_reducible refine h_A ?_)
    go_ret
    exact ⟨rfl, hB1.trans ((hB23.trans (hB4.mono hB23.size)).mono hB1.size)⟩
   ·obtain rfl : r = 0 := by rw [hr]; simp [hq]
    clear hr
    go_enter Tryz.func96, Tryz.ntmps96
    go_upto_region 1 with fail
    rw [← hxb, ← hxv]
    clear hxb hxv
    go_wp2_with (with_reducible refine h_A ?_)
    refine hd.mono ?_
    rintro e w2 ⟨rfl, hB2⟩
    have hc := HC.out w2 hB2
    have hX2 := hX.below hB2
    clear c0 c1 c2 c3 c4 hX
    have c0 := hX2.c0
    have c1 := hX2.c1
    have c2 := hX2.c2
    have c3 := hX2.c3
    have c4 := hX2.c4
    clear hd HC
    go_wp2_with (with_reducible refine h_A ?_)
    refine hc.mono ?_
    rintro e w3 ⟨rfl, hB3⟩
    have hB23 := hB2.trans (hB3.mono hB2.size)
    have hm := HM.out w3 hB23
    have hX3 := hX2.below hB3
    clear hc hB3 c0 c1 c2 c3 c4 HM
    have c0 := hX3.c0
    have c1 := hX3.c1
    have c2 := hX3.c2
    have c3 := hX3.c3
    have c4 := hX3.c4
    go_wp2_with (with_reducible refine h_A ?_)
    refine hm.mono ?_
    rintro e w4 ⟨rfl, hB4⟩
    go_wp2_with (with_reducible refine h_A ?_)
    go_ret
    exact ⟨rfl, hB1.trans ((hB23.trans (hB4.mono hB23.size)).mono hB1.size)⟩
 ·obtain rfl : r = 51 := by rw [hr]; simp
  clear hr HC HM
  go_enter Tryz.func96, Tryz.ntmps96
  go_upto_region 1 with fail
  rw [← hxb, ← hxv]
  clear hxb hxv
  go_wp2_with (with_reducible refine h_A ?_)
  refine hd.mono ?_
  rintro e w2 ⟨rfl, hB2⟩
  go_wp2_with (with_reducible refine h_A ?_)
  go_ret
  exact ⟨rfl, hB1.trans (hB2.mono hB1.size)⟩
end Go.PH
end

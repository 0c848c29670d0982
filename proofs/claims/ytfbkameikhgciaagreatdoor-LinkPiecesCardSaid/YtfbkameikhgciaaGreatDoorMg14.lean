/- Texts laid together: VlMay, VlCheck. -/
import Derived.Test.YtfbkameikhgciaaGreatDoorMg12
import Derived.Test.YtfbkameikhgciaaGreatDoorMg13
set_option linter.all false
set_option linter.unusedSimpArgs false
set_option linter.unusedVariables false
set_option maxRecDepth 20000
set_option maxHeartbeats 8000000
section
namespace Go.PH
open Go.RowKit Go.Proofs
def mayF (k n sl KL LL : Nat) (ko pl al : Bool) : Bool :=
 (decide (k = 168) || decide (KL = 0)) && (decide (k = 168) || decide (k = 169) || decide (LL = 0)) && (decide (k = 149) || decide (k = 160) || decide (sl = 0)) && decide (sl ≤ 4096) &&
  (if k = 8 then decide (n ≤ 1) else if k = 2 then decide (n ≤ 255) else if k = 49 ∨ k = 50 then true
   else if k = 240 ∨ k = 160 then decide (n = 0)
   else if k = 149 then pl && decide (n = 0)
   else if k = 168 then decide (KL = LL) && ko && decide (n = 0)
   else if k = 169 then decide (n = 0) else false) && al
theorem kS {α : Type} (l : List α) : l.isEmpty = decide (l.length = 0) := by cases l <;> simp
theorem kT (p : List UInt8 → Bool) (v : Vl) : mayV p v = mayF v.kind v.n v.s.length v.keys.length v.list.length (xR v.keys p) (p v.s) (v.list.all (mayV p)) := by
 cases v
 rw [mayV, Kd, kS, kS, kS]
 rfl
def MayR (w : World) (v : Vl) (e : Ending) (w' : World) : Prop := e = .returned (.bool (mayV zV v)) ∧ Below w.heap.size w w'
theorem VA (p : Vl → Bool) (bx : Nat) (v : Vl) (h : VH) (w : World) (hv : RVw w v h) (hcl : ∀ x ∈ v.list, ∀ hx W, Below w.heap.size w W → RVw W x hx → Calls Tryz.prog 175 (#[.agg (vlV x hx)] ++ #[]) W (fun e W' => e = .returned (.bool (p x)) ∧ Below W.heap.size W W')) :
  Calls Tryz.prog 183 #[.slice h.A2 v.list.length h.c2, .func (.func 175) #[] #[]] w fun e w' => (∃ r : Int, e = .returned (.int .i64 r) ∧ decide (0 ≤ r) = v.list.any p) ∧ Below w.heap.size w w' := by
 obtain ⟨K1, j1, K2, j2⟩ := h
 have hel := fun {i : Nat} (hi : i < v.list.length) => hv.elem hi
 simp only at hel ⊢
 obtain ⟨N, hN⟩ : ∃ N, N = v.list.length := ⟨_, rfl⟩
 have hNm : N ≤ 140737488351232 := by rw [hN]; exact hv.bounds.2.2.2.2.2
 rw [← hN]
 have HN := Lib.hid hN
 clear hN hv
 have HCL := Lib.hid hcl
 clear hcl
 go_enter Tryz.func183, Tryz.ntmps183
 go_wp2_with (with_reducible refine h_A ?_)
 go_loopw [8] (fun s8 wr => ∃ (i : Nat), i ≤ N ∧ s8 = .int .i64 i ∧ Hid ((v.list.drop i).any p = v.list.any p) ∧ Below w.heap.size w wr) (fun s8 _ => N - (RowKit.intOf s8).toNat)
 case atStart => exact ⟨0, by omega, rfl, Lib.hid rfl, Below.refl _ _⟩
 case round =>
  obtain ⟨i, hi, rfl, HC, hB⟩ := hrel
  by_cases hlt : i < N
  ·have g1 : (i : Int) < (N : Int) := by omega
   have hil : i < v.list.length := by rw [← HN.out]; exact hlt
   obtain ⟨b, off, hx, rfl, hvx, HX⟩ := hel hil
   obtain ⟨k0, k1, k2, k3, k4⟩ := HX wr hB
   have HD : Hid ((v.list.drop i).any p = (p v.list[i] || (v.list.drop (i + 1)).any p)) := Lib.hid (by rw [List.drop_eq_getElem_cons hil, List.any_cons])
   have hrec := HCL.out _ (List.getElem_mem hil) hx wr hB (hvx.up hB)
   clear HX hel hvx
   generalize v.list[i] = x at *
   unfold vlV at hrec
   simp only [List.append_toArray, List.cons_append, List.nil_append] at hrec
   go_wp2_with (with_reducible refine h_A ?_)
   refine hrec.mono ?_
   rintro e w2 ⟨rfl, hB2⟩
   have hBx := hB.trans (hB2.mono hB.size)
   clear hrec k0 k1 k2 k3 k4
   cases hp : p x
   ·have HC2 : Hid ((v.list.drop (i + 1)).any p = v.list.any p) := Lib.hid (by rw [← HC.out, HD.out, hp]; simp)
    go_wp2_with (with_reducible refine h_A ?_)
    exact ⟨⟨i + 1, by omega, by go_num, HC2, hBx⟩, by simp [RowKit.intOf]; omega⟩
   ·have HC2 : Hid (v.list.any p = true) := Lib.hid (by rw [← HC.out, HD.out, hp]; simp)
    go_wp2_with (with_reducible refine h_A ?_)
    go_ret
    exact ⟨⟨i, rfl, by rw [HC2.out]; simp⟩, hBx⟩
  ·have HQ : Hid (v.list.any p = false) := Lib.hid (by rw [← HC.out, List.drop_eq_nil_of_le (by rw [← HN.out]; omega)]; rfl)
   have g1 : ¬ (i : Int) < (N : Int) := by omega
   clear hel
   go_wp2_with (with_reducible refine h_A ?_)
   go_ret
   exact ⟨⟨_, rfl, by rw [HQ.out]; rfl⟩, hB⟩
theorem VD (p : Vl → Bool) (bx : Nat) (v : Vl) (h : VH) (w : World) (hv : RVw w v h) (hcl : ∀ x ∈ v.list, ∀ hx W, Below w.heap.size w W → RVw W x hx → Calls Tryz.prog 175 (#[.agg (vlV x hx)] ++ #[]) W (fun e W' => e = .returned (.bool (p x)) ∧ Below W.heap.size W W')) :
  Calls Tryz.prog 171 #[.slice h.A2 v.list.length h.c2, .func (.func 175) #[] #[]] w fun e w' => e = .returned (.bool (v.list.any p)) ∧ Below w.heap.size w w' := by
 have hi := VA p bx v h w hv hcl
 generalize v.list.any p = r at *
 clear hcl
 go_enter Tryz.func171, Tryz.ntmps171
 go_wp2_with (with_reducible refine h_A ?_)
 refine hi.mono ?_
 rintro e w' ⟨⟨q, rfl, hq⟩, hB⟩
 have HQ := Lib.hid hq
 clear hq
 go_wp2_with (with_reducible refine h_A ?_)
 go_ret
 rw [← HQ.out]
 exact ⟨rfl, hB⟩
theorem YE (p : Vl → Bool) (l : List Vl) : l.any (fun x => !p x) = !l.all p := by
 induction l with
 | nil => rfl
 | cons x l ih => rw [List.any_cons, List.all_cons, ih]; cases p x <;> simp
theorem Kj (x : Vl) (hx : VH) (W : World) (hv : RVw W x hx) (hrec : ∀ W', Below W.heap.size W W' → Calls Tryz.prog 149 #[.agg (vlV x hx)] W' (MayR W' x)) :
  Calls Tryz.prog 175 #[.agg (vlV x hx)] W fun e W' => e = .returned (.bool (!mayV zV x)) ∧ Below W.heap.size W W' := by
 unfold vlV at hrec ⊢
 obtain ⟨xb, w1, hqb, hqv, hX, hB1⟩ := zo W #[.int .u8 (x.kind : Int), .int .u64 (x.n : Int), .string (str x.s), .slice hx.A1 x.keys.length hx.c1, .slice hx.A2 x.list.length hx.c2] 78
 have hr1 := hrec w1 hB1
 have c0 := hX.c0
 have c1 := hX.c1
 have c2 := hX.c2
 have c3 := hX.c3
 have c4 := hX.c4
 clear hrec
 unfold MayR at hr1
 generalize mayV zV x = r at *
 go_enter Tryz.func175, Tryz.ntmps175
 go_upto_region 1 with fail
 rw [← hqb, ← hqv]
 clear hqb hqv
 go_wp2_with (with_reducible refine h_A ?_)
 refine hr1.mono ?_
 rintro e w2 ⟨rfl, hB2⟩
 go_wp2_with (with_reducible refine h_A ?_)
 go_ret
 exact ⟨rfl, hB1.trans (hB2.mono hB1.size)⟩
theorem VE (v : Vl) : ∀ (h : VH) (w : World), RVw w v h → UTabs w → Calls Tryz.prog 149 #[.agg (vlV v h)] w (MayR w v) := by
 refine Vl.ind (P := fun v => ∀ (h : VH) (w : World), RVw w v h → UTabs w → Calls Tryz.prog 149 #[.agg (vlV v h)] w (MayR w v)) ?_ v
 intro v ih h w hv hT
 unfold vlV MayR
 obtain ⟨xb, w1, hxb, hxv, hX, hB1⟩ := zo w #[.int .u8 (v.kind : Int), .int .u64 (v.n : Int), .string (str v.s), .slice h.A1 v.keys.length h.c1, .slice h.A2 v.list.length h.c2] 78
 have hv1 := hv.up hB1
 have hT1 := hT.on hB1
 obtain ⟨_, hnr, hsl, hkb, hKb, hLb⟩ := hv.bounds
 have hvk : RdX w1 (fun g => g < w1.heap.size) 1 h.A1 v.keys.length h.c1 (v.keys.map txV) := by
  obtain ⟨xs, _, _, _, hvk⟩ := hv1.parts
  exact hvk
 have hkey := Je h.A1 v.keys.length h.c1 v.keys w1 hvk.1 hKb hkb hT1
 have hpl := Z4 v.s w1 hsl hT1
 have hcon := fun W (hW : Below w1.heap.size w1 W) => VD (fun x => !mayV zV x) 0 v h W (hv1.up hW) (fun x hx hx' W' hW' hvx => Kj x hx' W' hvx (fun W2 hW2 => ih x hx hx' W2 (hvx.up hW2) (((hT1.on hW).on hW').on hW2)))
 rw [YE] at hcon
 obtain ⟨r, hr⟩ : ∃ r, r = mayV zV v := ⟨_, rfl⟩
 rw [← hr]
 rw [kT] at hr
 have hall : v.list.length = 0 → v.list.all (mayV zV) = true := fun e => by rw [List.length_eq_zero_iff.1 e]; rfl
 have hem := Z3 v.s
 have has := zj v.s
 clear ih hv hT hv1 hT1 hvk hkb
 generalize xR v.keys zV = ko at *
 generalize zV v.s = pl at *
 generalize v.list.all (mayV zV) = al at *
 generalize v.keys.length = KL at *
 generalize v.list.length = LL at *
 generalize v.s = s at *
 obtain ⟨h1, j1, h2, j2⟩ := h
 simp only at *
 generalize v.kind = kd at *
 generalize v.n = nd at *
 generalize hk : ((kd : Nat) : Int) = k at *
 generalize hnn : ((nd : Nat) : Int) = nn at *
 generalize hsl2 : s.length = sl at *
 have HR := Lib.hid hr
 have HAL := Lib.hid hall
 clear hr hall hsl2
 have c0 := hX.c0
 have c1 := hX.c1
 have c2 := hX.c2
 have c3 := hX.c3
 have c4 := hX.c4
--TREE
 have HIN := Lib.hid hcon
 clear hcon
 by_cases hmap : kd = 168
 ·subst hmap
  obtain rfl : k = 168 := by rw [← hk]; rfl
  clear hk hpl
  by_cases hln : KL = LL
  ·have gl : ((KL : Int) != (LL : Int)) = false := by simp [hln]
   have HLN := Lib.hid hln
   clear hln
   cases ko
   ·obtain rfl : r = false := by rw [HR.out]; simp [mayF]
    go_enter Tryz.func149, Tryz.ntmps149
    go_upto_region 1 with fail
    rw [← hxb, ← hxv]
    clear hxb hxv
    go_wp2_with (with_reducible refine h_A ?_)
    refine hkey.mono ?_
    rintro e w2 ⟨rfl, hB2⟩
    go_wp2_with (with_reducible refine h_A ?_)
    go_ret
    exact ⟨rfl, hB1.trans (hB2.mono hB1.size)⟩
   ·by_cases hn : nd = 0
    ·have HN := Lib.hid hn
     have gn : (nn == 0) = true := by simp; omega
     clear hnn hn
     by_cases hs : sl = 0
     ·rw [decide_eq_true hs] at hem
      have HS := Lib.hid hs
      clear hs
      obtain rfl : r = al := by rw [HR.out]; simp [mayF, HLN.out, HN.out, HS.out]
      go_enter Tryz.func149, Tryz.ntmps149
      go_upto_region 1 with fail
      rw [← hxb, ← hxv]
      clear hxb hxv
      go_wp2_with (with_reducible refine h_A ?_)
      refine hkey.mono ?_
      rintro e w2 ⟨rfl, hB2⟩
      have hX2 := hX.below hB2
      have hcon := HIN.out w2 hB2
      clear c0 c1 c2 c3 c4
      have c0 := hX2.c0
      have c1 := hX2.c1
      have c2 := hX2.c2
      have c3 := hX2.c3
      have c4 := hX2.c4
      go_wp2_with (with_reducible refine h_A ?_)
      refine hcon.mono ?_
      rintro e w3 ⟨rfl, hB3⟩
      cases r
      ·go_wp2_with (with_reducible refine h_A ?_)
       go_ret
       exact ⟨rfl, (hB1.trans (hB2.mono hB1.size)).trans (hB3.mono (hB1.trans (hB2.mono hB1.size)).size)⟩
      ·go_wp2_with (with_reducible refine h_A ?_)
       go_ret
       exact ⟨rfl, (hB1.trans (hB2.mono hB1.size)).trans (hB3.mono (hB1.trans (hB2.mono hB1.size)).size)⟩
     ·rw [decide_eq_false hs] at hem
      have HS := Lib.hid hs
      clear hs
      obtain rfl : r = false := by rw [HR.out]; simp [mayF, HLN.out, HN.out, HS.out]
      go_enter Tryz.func149, Tryz.ntmps149
      go_upto_region 1 with fail
      rw [← hxb, ← hxv]
      clear hxb hxv
      go_wp2_with (with_reducible refine h_A ?_)
      refine hkey.mono ?_
      rintro e w2 ⟨rfl, hB2⟩
      have hX2 := hX.below hB2
      have hcon := HIN.out w2 hB2
      clear c0 c1 c2 c3 c4
      have c0 := hX2.c0
      have c1 := hX2.c1
      have c2 := hX2.c2
      have c3 := hX2.c3
      have c4 := hX2.c4
      go_wp2_with (with_reducible refine h_A ?_)
      go_ret
      exact ⟨rfl, hB1.trans (hB2.mono hB1.size)⟩
    ·have HN := Lib.hid hn
     have gn : (nn == 0) = false := by simp; omega
     clear hnn hn
     obtain rfl : r = false := by rw [HR.out]; simp [mayF, HLN.out, HN.out]
     go_enter Tryz.func149, Tryz.ntmps149
     go_upto_region 1 with fail
     rw [← hxb, ← hxv]
     clear hxb hxv
     go_wp2_with (with_reducible refine h_A ?_)
     refine hkey.mono ?_
     rintro e w2 ⟨rfl, hB2⟩
     have hX2 := hX.below hB2
     have hcon := HIN.out w2 hB2
     clear c0 c1 c2 c3 c4
     have c0 := hX2.c0
     have c1 := hX2.c1
     have c2 := hX2.c2
     have c3 := hX2.c3
     have c4 := hX2.c4
     go_wp2_with (with_reducible refine h_A ?_)
     go_ret
     exact ⟨rfl, hB1.trans (hB2.mono hB1.size)⟩
  ·have gl : ((KL : Int) != (LL : Int)) = true := by simp; omega
   have HLN := Lib.hid hln
   clear hln
   obtain rfl : r = false := by rw [HR.out]; simp [mayF, HLN.out]
   go_enter Tryz.func149, Tryz.ntmps149
   go_upto_region 1 with fail
   rw [← hxb, ← hxv]
   clear hxb hxv
   go_wp2_with (with_reducible refine h_A ?_)
   go_ret
   exact ⟨rfl, hB1⟩
 ·have gm : (k != 168) = true := by simp; omega
  have gm2 : (k == 168) = false := by simp; omega
  by_cases hkl : 0 < KL
  ·have gk : (0 : Int) < (KL : Int) := by omega
   have HM := Lib.hid hmap
   have HKL : Hid (¬ KL = 0) := Lib.hid (by omega)
   clear hkl hmap
   obtain rfl : r = false := by rw [HR.out]; simp [mayF, HM.out, HKL.out]
   go_enter Tryz.func149, Tryz.ntmps149
   go_upto_region 1 with fail
   rw [← hxb, ← hxv]
   clear hxb hxv
   go_wp2_with (with_reducible refine h_A ?_)
   go_ret
   exact ⟨rfl, hB1⟩
  ·have gk : ¬ (0 : Int) < (KL : Int) := by omega
   obtain rfl : KL = 0 := by omega
   by_cases hlist : kd = 169
   ·subst hlist
    obtain rfl : k = 169 := by rw [← hk]; rfl
    clear hk hkl hmap gm gm2 hkey hpl
    by_cases hn : nd = 0
    ·have HN := Lib.hid hn
     have gn : (nn == 0) = true := by simp; omega
     clear hnn hn
     by_cases hs : sl = 0
     ·rw [decide_eq_true hs] at hem
      have HS := Lib.hid hs
      clear hs
      obtain rfl : r = al := by rw [HR.out]; simp [mayF, HN.out, HS.out]
      have hcon := HIN.out w1 (Below.refl _ _)
      go_enter Tryz.func149, Tryz.ntmps149
      go_upto_region 1 with fail
      rw [← hxb, ← hxv]
      clear hxb hxv
      go_wp2_with (with_reducible refine h_A ?_)
      refine hcon.mono ?_
      rintro e w3 ⟨rfl, hB3⟩
      cases r
      ·go_wp2_with (with_reducible refine h_A ?_)
       go_ret
       exact ⟨rfl, (hB1).trans (hB3.mono (hB1).size)⟩
      ·go_wp2_with (with_reducible refine h_A ?_)
       go_ret
       exact ⟨rfl, (hB1).trans (hB3.mono (hB1).size)⟩
     ·rw [decide_eq_false hs] at hem
      have HS := Lib.hid hs
      clear hs
      obtain rfl : r = false := by rw [HR.out]; simp [mayF, HN.out, HS.out]
      go_enter Tryz.func149, Tryz.ntmps149
      go_upto_region 1 with fail
      rw [← hxb, ← hxv]
      clear hxb hxv
      go_wp2_with (with_reducible refine h_A ?_)
      go_ret
      exact ⟨rfl, hB1⟩
    ·have HN := Lib.hid hn
     have gn : (nn == 0) = false := by simp; omega
     clear hnn hn
     obtain rfl : r = false := by rw [HR.out]; simp [mayF, HN.out]
     go_enter Tryz.func149, Tryz.ntmps149
     go_upto_region 1 with fail
     rw [← hxb, ← hxv]
     clear hxb hxv
     go_wp2_with (with_reducible refine h_A ?_)
     go_ret
     exact ⟨rfl, hB1⟩
   ·have gl : (k != 169) = true := by simp; omega
    have gl2 : (k == 169) = false := by simp; omega
    by_cases hll : 0 < LL
    ·have gk2 : (0 : Int) < (LL : Int) := by omega
     have HM := Lib.hid hmap
     have HL := Lib.hid hlist
     have HLL : Hid (¬ LL = 0) := Lib.hid (by omega)
     clear hll hmap hlist
     obtain rfl : r = false := by rw [HR.out]; simp [mayF, HM.out, HL.out, HLL.out]
     go_enter Tryz.func149, Tryz.ntmps149
     go_upto_region 1 with fail
     rw [← hxb, ← hxv]
     clear hxb hxv
     go_wp2_with (with_reducible refine h_A ?_)
     go_ret
     exact ⟨rfl, hB1⟩
    ·have gk2 : ¬ (0 : Int) < (LL : Int) := by omega
     obtain rfl : LL = 0 := by omega
     obtain rfl : al = true := HAL.out rfl
     clear HIN HAL hll hkl hkey
     by_cases h240 : kd = 240
     ·subst h240
      obtain rfl : k = 240 := by rw [← hk]; rfl
      clear hk hmap gm gm2 hlist gl gl2
      by_cases hn : nd = 0
      ·have HN := Lib.hid hn
       have gn : (nn == 0) = true := by simp; omega
       clear hnn hn
       by_cases hs : sl = 0
       ·rw [decide_eq_true hs] at hem
        have HS := Lib.hid hs
        clear hs
        obtain rfl : r = true := by rw [HR.out]; simp [mayF, HN.out, HS.out]
        go_enter Tryz.func149, Tryz.ntmps149
        go_upto_region 1 with fail
        rw [← hxb, ← hxv]
        clear hxb hxv
        go_wp2_with (with_reducible refine h_A ?_)
        go_ret
        exact ⟨rfl, hB1⟩
       ·rw [decide_eq_false hs] at hem
        have HS := Lib.hid hs
        clear hs
        obtain rfl : r = false := by rw [HR.out]; simp [mayF, HN.out, HS.out]
        go_enter Tryz.func149, Tryz.ntmps149
        go_upto_region 1 with fail
        rw [← hxb, ← hxv]
        clear hxb hxv
        go_wp2_with (with_reducible refine h_A ?_)
        go_ret
        exact ⟨rfl, hB1⟩
      ·have HN := Lib.hid hn
       have gn : (nn == 0) = false := by simp; omega
       clear hnn hn
       obtain rfl : r = false := by rw [HR.out]; simp [mayF, HN.out]
       go_enter Tryz.func149, Tryz.ntmps149
       go_upto_region 1 with fail
       rw [← hxb, ← hxv]
       clear hxb hxv
       go_wp2_with (with_reducible refine h_A ?_)
       go_ret
       exact ⟨rfl, hB1⟩
     ·by_cases h8 : kd = 8
      ·subst h8
       obtain rfl : k = 8 := by rw [← hk]; rfl
       clear hk hmap gm gm2 hlist gl gl2
       by_cases hn : nd ≤ 1
       ·have HN := Lib.hid hn
        have gn : nn ≤ 1 := by omega
        clear hnn hn
        by_cases hs : sl = 0
        ·rw [decide_eq_true hs] at hem
         have HS := Lib.hid hs
         clear hs
         obtain rfl : r = true := by rw [HR.out]; simp [mayF, HN.out, HS.out]
         go_enter Tryz.func149, Tryz.ntmps149
         go_upto_region 1 with fail
         rw [← hxb, ← hxv]
         clear hxb hxv
         go_wp2_with (with_reducible refine h_A ?_)
         go_ret
         exact ⟨rfl, hB1⟩
        ·rw [decide_eq_false hs] at hem
         have HS := Lib.hid hs
         clear hs
         obtain rfl : r = false := by rw [HR.out]; simp [mayF, HN.out, HS.out]
         go_enter Tryz.func149, Tryz.ntmps149
         go_upto_region 1 with fail
         rw [← hxb, ← hxv]
         clear hxb hxv
         go_wp2_with (with_reducible refine h_A ?_)
         go_ret
         exact ⟨rfl, hB1⟩
       ·have HN := Lib.hid hn
        have gn : ¬ nn ≤ 1 := by omega
        clear hnn hn
        obtain rfl : r = false := by rw [HR.out]; simp [mayF, HN.out]
        go_enter Tryz.func149, Tryz.ntmps149
        go_upto_region 1 with fail
        rw [← hxb, ← hxv]
        clear hxb hxv
        go_wp2_with (with_reducible refine h_A ?_)
        go_ret
        exact ⟨rfl, hB1⟩
      ·by_cases h2 : kd = 2
       ·subst h2
        obtain rfl : k = 2 := by rw [← hk]; rfl
        clear hk hmap gm gm2 hlist gl gl2
        by_cases hn : nd ≤ 255
        ·have HN := Lib.hid hn
         have gn : nn ≤ 255 := by omega
         clear hnn hn
         by_cases hs : sl = 0
         ·rw [decide_eq_true hs] at hem
          have HS := Lib.hid hs
          clear hs
          obtain rfl : r = true := by rw [HR.out]; simp [mayF, HN.out, HS.out]
          go_enter Tryz.func149, Tryz.ntmps149
          go_upto_region 1 with fail
          rw [← hxb, ← hxv]
          clear hxb hxv
          go_wp2_with (with_reducible refine h_A ?_)
          go_ret
          exact ⟨rfl, hB1⟩
         ·rw [decide_eq_false hs] at hem
          have HS := Lib.hid hs
          clear hs
          obtain rfl : r = false := by rw [HR.out]; simp [mayF, HN.out, HS.out]
          go_enter Tryz.func149, Tryz.ntmps149
          go_upto_region 1 with fail
          rw [← hxb, ← hxv]
          clear hxb hxv
          go_wp2_with (with_reducible refine h_A ?_)
          go_ret
          exact ⟨rfl, hB1⟩
        ·have HN := Lib.hid hn
         have gn : ¬ nn ≤ 255 := by omega
         clear hnn hn
         obtain rfl : r = false := by rw [HR.out]; simp [mayF, HN.out]
         go_enter Tryz.func149, Tryz.ntmps149
         go_upto_region 1 with fail
         rw [← hxb, ← hxv]
         clear hxb hxv
         go_wp2_with (with_reducible refine h_A ?_)
         go_ret
         exact ⟨rfl, hB1⟩
       ·by_cases h49 : kd = 49
        ·subst h49
         obtain rfl : k = 49 := by rw [← hk]; rfl
         clear hk hmap gm gm2 hlist gl gl2
         clear hnn
         by_cases hs : sl = 0
         ·rw [decide_eq_true hs] at hem
          have HS := Lib.hid hs
          clear hs
          obtain rfl : r = true := by rw [HR.out]; simp [mayF, HS.out]
          go_enter Tryz.func149, Tryz.ntmps149
          go_upto_region 1 with fail
          rw [← hxb, ← hxv]
          clear hxb hxv
          go_wp2_with (with_reducible refine h_A ?_)
          go_ret
          exact ⟨rfl, hB1⟩
         ·rw [decide_eq_false hs] at hem
          have HS := Lib.hid hs
          clear hs
          obtain rfl : r = false := by rw [HR.out]; simp [mayF, HS.out]
          go_enter Tryz.func149, Tryz.ntmps149
          go_upto_region 1 with fail
          rw [← hxb, ← hxv]
          clear hxb hxv
          go_wp2_with (with_reducible refine h_A ?_)
          go_ret
          exact ⟨rfl, hB1⟩
        ·by_cases h50 : kd = 50
         ·subst h50
          obtain rfl : k = 50 := by rw [← hk]; rfl
          clear hk hmap gm gm2 hlist gl gl2
          clear hnn
          by_cases hs : sl = 0
          ·rw [decide_eq_true hs] at hem
           have HS := Lib.hid hs
           clear hs
           obtain rfl : r = true := by rw [HR.out]; simp [mayF, HS.out]
           go_enter Tryz.func149, Tryz.ntmps149
           go_upto_region 1 with fail
           rw [← hxb, ← hxv]
           clear hxb hxv
           go_wp2_with (with_reducible refine h_A ?_)
           go_ret
           exact ⟨rfl, hB1⟩
          ·rw [decide_eq_false hs] at hem
           have HS := Lib.hid hs
           clear hs
           obtain rfl : r = false := by rw [HR.out]; simp [mayF, HS.out]
           go_enter Tryz.func149, Tryz.ntmps149
           go_upto_region 1 with fail
           rw [← hxb, ← hxv]
           clear hxb hxv
           go_wp2_with (with_reducible refine h_A ?_)
           go_ret
           exact ⟨rfl, hB1⟩
         ·by_cases h149 : kd = 149
          ·subst h149
           obtain rfl : k = 149 := by rw [← hk]; rfl
           clear hk hmap gm gm2 hlist gl gl2
           by_cases hn : nd = 0
           ·have HN := Lib.hid hn
            have gn : (nn == 0) = true := by simp; omega
            clear hnn hn
            by_cases hs : sl ≤ 4096
            ·have HS := Lib.hid hs
             have gs : (sl : Int) ≤ 4096 := by omega
             clear hs
             cases pl
             ·obtain rfl : r = false := by rw [HR.out]; simp [mayF, HN.out, HS.out]
              go_enter Tryz.func149, Tryz.ntmps149
              go_upto_region 1 with fail
              rw [← hxb, ← hxv]
              clear hxb hxv
              go_wp2_with (with_reducible refine h_A ?_)
              refine hpl.mono ?_
              rintro e w2 ⟨rfl, hB2⟩
              go_wp2_with (with_reducible refine h_A ?_)
              go_ret
              exact ⟨rfl, hB1.trans (hB2.mono hB1.size)⟩
             ·obtain rfl : r = true := by rw [HR.out]; simp [mayF, HN.out, HS.out]
              go_enter Tryz.func149, Tryz.ntmps149
              go_upto_region 1 with fail
              rw [← hxb, ← hxv]
              clear hxb hxv
              go_wp2_with (with_reducible refine h_A ?_)
              refine hpl.mono ?_
              rintro e w2 ⟨rfl, hB2⟩
              go_wp2_with (with_reducible refine h_A ?_)
              go_ret
              exact ⟨rfl, hB1.trans (hB2.mono hB1.size)⟩
            ·have HS := Lib.hid hs
             have gs : ¬ (sl : Int) ≤ 4096 := by omega
             clear hs
             obtain rfl : r = false := by rw [HR.out]; simp [mayF, HN.out, HS.out]
             go_enter Tryz.func149, Tryz.ntmps149
             go_upto_region 1 with fail
             rw [← hxb, ← hxv]
             clear hxb hxv
             go_wp2_with (with_reducible refine h_A ?_)
             go_ret
             exact ⟨rfl, hB1⟩
           ·have HN := Lib.hid hn
            have gn : (nn == 0) = false := by simp; omega
            clear hnn hn
            obtain rfl : r = false := by rw [HR.out]; simp [mayF, HN.out]
            go_enter Tryz.func149, Tryz.ntmps149
            go_upto_region 1 with fail
            rw [← hxb, ← hxv]
            clear hxb hxv
            go_wp2_with (with_reducible refine h_A ?_)
            go_ret
            exact ⟨rfl, hB1⟩
          ·by_cases h160 : kd = 160
           ·subst h160
            obtain rfl : k = 160 := by rw [← hk]; rfl
            clear hk hmap gm gm2 hlist gl gl2
            by_cases hn : nd = 0
            ·have HN := Lib.hid hn
             have gn : (nn == 0) = true := by simp; omega
             clear hnn hn
             by_cases hs : sl ≤ 4096
             ·have HS := Lib.hid hs
              have gs : (sl : Int) ≤ 4096 := by omega
              clear hs
              obtain rfl : r = true := by rw [HR.out]; simp [mayF, HN.out, HS.out]
              go_enter Tryz.func149, Tryz.ntmps149
              go_upto_region 1 with fail
              rw [← hxb, ← hxv]
              clear hxb hxv
              go_wp2_with (with_reducible refine h_A ?_)
              go_ret
              exact ⟨rfl, hB1⟩
             ·have HS := Lib.hid hs
              have gs : ¬ (sl : Int) ≤ 4096 := by omega
              clear hs
              obtain rfl : r = false := by rw [HR.out]; simp [mayF, HN.out, HS.out]
              go_enter Tryz.func149, Tryz.ntmps149
              go_upto_region 1 with fail
              rw [← hxb, ← hxv]
              clear hxb hxv
              go_wp2_with (with_reducible refine h_A ?_)
              go_ret
              exact ⟨rfl, hB1⟩
            ·have HN := Lib.hid hn
             have gn : (nn == 0) = false := by simp; omega
             clear hnn hn
             obtain rfl : r = false := by rw [HR.out]; simp [mayF, HN.out]
             go_enter Tryz.func149, Tryz.ntmps149
             go_upto_region 1 with fail
             rw [← hxb, ← hxv]
             clear hxb hxv
             go_wp2_with (with_reducible refine h_A ?_)
             go_ret
             exact ⟨rfl, hB1⟩
           ·have g240 : (k == 240) = false := by simp; omega
            have g8 : (k == 8) = false := by simp; omega
            have g2 : (k == 2) = false := by simp; omega
            have g49 : (k == 49) = false := by simp; omega
            have g50 : (k == 50) = false := by simp; omega
            have g149 : (k == 149) = false := by simp; omega
            have g160 : (k == 160) = false := by simp; omega
            have H240 := Lib.hid h240
            have H8 := Lib.hid h8
            have H2 := Lib.hid h2
            have H49 := Lib.hid h49
            have H50 := Lib.hid h50
            have H149 := Lib.hid h149
            have H160 := Lib.hid h160
            have HMM := Lib.hid hmap
            have HLI := Lib.hid hlist
            clear hk hmap hlist hnn h240 h8 h2 h49 h50 h149 h160
            obtain rfl : r = false := by rw [HR.out]; simp [mayF, H240.out, H8.out, H2.out, H49.out, H50.out, H149.out, H160.out, HMM.out, HLI.out]
            go_enter Tryz.func149, Tryz.ntmps149
            go_upto_region 1 with fail
            rw [← hxb, ← hxv]
            clear hxb hxv
            go_wp2_with (with_reducible refine h_A ?_)
            go_ret
            exact ⟨rfl, hB1⟩
--EERT
end Go.PH
end
section
namespace Go.PH
open Go.RowKit Go.Proofs
def errV (v : Vl) : Int := if qA 6 v = true then 51 else if cntV v 200 < 0 then 3 else if mayV zV v = true then 0 else 50
theorem vG (v : Vl) (h : VH) (w : World) (hv : RVw w v h) (hT : UTabs w) : Calls Tryz.prog 123 #[.agg (vlV v h)] w fun e w' => e = .returned (.int .i64 (errV v)) ∧ Below w.heap.size w w' := by
 obtain ⟨xb, w1, hxb, hxv, hX, hB1⟩ := zo w #[.int .u8 (v.kind : Int), .int .u64 (v.n : Int), .string (str v.s), .slice h.A1 v.keys.length h.c1, .slice h.A2 v.list.length h.c2] 78
 have hv1 := hv.up hB1
 have hd := Kn v h 6 w1 hv1 (by omega)
 have hc := fun W (hW : Below w1.heap.size w1 W) => Ja v h 200 W (hv1.up hW) (by omega) (by omega)
 have hm := fun W (hW : Below w1.heap.size w1 W) => VE v h W (hv1.up hW) ((hT.on hB1).on hW)
 unfold YG at hd
 unfold CntR at hc
 unfold MayR at hm
 unfold vlV at hd hc hm ⊢
 obtain ⟨r, hr⟩ : ∃ r, r = errV v := ⟨_, rfl⟩
 rw [← hr]
 unfold errV at hr
 generalize qA 6 v = d at *
 generalize cntV v 200 = q at *
 generalize mayV zV v = y at *
 have c0 := hX.c0
 have c1 := hX.c1
 have c2 := hX.c2
 have c3 := hX.c3
 have c4 := hX.c4
 have HC := Lib.hid hc
 have HM := Lib.hid hm
 clear hv hT hv1 hc hm
 rw [show ((6 : Nat) : Int) = 6 from rfl] at hd
 cases d
 ·by_cases hq : q < 0
  ·obtain rfl : r = 3 := by rw [hr]; simp [hq]
   clear hr HM
   go_enter Tryz.func123, Tryz.ntmps123
   go_upto_region 1 with fail
   rw [← hxb, ← hxv]
   clear hxb hxv
   go_wp2_with (with_reducible refine h_A ?_)
   refine hd.mono ?_
   rintro e w2 ⟨rfl, hB2⟩
   have hc := HC.out w2 hB2
   have hX2 := hX.below hB2
   clear c0 c1 c2 c3 c4 hX
   have c0 := hX2.c0
   have c1 := hX2.c1
   have c2 := hX2.c2
   have c3 := hX2.c3
   have c4 := hX2.c4
   clear hd HC
   go_wp2_with (with_reducible refine h_A ?_)
   refine hc.mono ?_
   rintro e w3 ⟨rfl, hB3⟩
   go_wp2_with (with_reducible refine h_A ?_)
   go_ret
   exact ⟨rfl, hB1.trans ((hB2.mono hB1.size).trans (hB3.mono (Nat.le_trans hB1.size hB2.size)))⟩
  ·cases y
   ·obtain rfl : r = 50 := by rw [hr]; simp [hq]
    clear hr
    go_enter Tryz.func123, Tryz.ntmps123
    go_upto_region 1 with fail
    rw [← hxb, ← hxv]
    clear hxb hxv
    go_wp2_with (with_reducible refine h_A ?_)
    refine hd.mono ?_
    rintro e w2 ⟨rfl, hB2⟩
    have hc := HC.out w2 hB2
    have hX2 := hX.below hB2
    clear c0 c1 c2 c3 c4 hX
    have c0 := hX2.c0
    have c1 := hX2.c1
    have c2 := hX2.c2
    have c3 := hX2.c3
    have c4 := hX2.c4
    clear hd HC
    go_wp2_with (with_reducible refine h_A ?_)
    refine hc.mono ?_
    rintro e w3 ⟨rfl, hB3⟩
    have hB23 := hB2.trans (hB3.mono hB2.size)
    have hm := HM.out w3 hB23
    have hX3 := hX2.below hB3
    clear hc hB3 c0 c1 c2 c3 c4 HM
    have c0 := hX3.c0
    have c1 := hX3.c1
    have c2 := hX3.c2
    have c3 := hX3.c3
    have c4 := hX3.c4
    go_wp2_with (with_reducible refine h_A ?_)
    refine hm.mono ?_
    rintro e w4 ⟨rfl, hB4⟩
    go_wp2_with (with_reducible refine h_A ?_)
    go_ret
    exact ⟨rfl, hB1.trans ((hB23.trans (hB4.mono hB23.size)).mono hB1.size)⟩
   ·obtain rfl : r = 0 := by rw [hr]; simp [hq]
    clear hr
    go_enter Tryz.func123, Tryz.ntmps123
    go_upto_region 1 with fail
    rw [← hxb, ← hxv]
    clear hxb hxv
    go_wp2_with (with_reducible refine h_A ?_)
    refine hd.mono ?_
    rintro e w2 ⟨rfl, hB2⟩
    have hc := HC.out w2 hB2
    have hX2 := hX.below hB2
    clear c0 c1 c2 c3 c4 hX
    have c0 := hX2.c0
    have c1 := hX2.c1
    have c2 := hX2.c2
    have c3 := hX2.c3
    have c4 := hX2.c4
    clear hd HC
    go_wp2_with (with_reducible refine h_A ?_)
    refine hc.mono ?_
    rintro e w3 ⟨rfl, hB3⟩
    have hB23 := hB2.trans (hB3.mono hB2.size)
    have hm := HM.out w3 hB23
    have hX3 := hX2.below hB3
    clear hc hB3 c0 c1 c2 c3 c4 HM
    have c0 := hX3.c0
    have c1 := hX3.c1
    have c2 := hX3.c2
    have c3 := hX3.c3
    have c4 := hX3.c4
    go_wp2_with (with_reducible refine h_A ?_)
    refine hm.mono ?_
    rintro e w4 ⟨rfl, hB4⟩
    go_wp2_with (with_reducible refine h_A ?_)
    go_ret
    exact ⟨rfl, hB1.trans ((hB23.trans (hB4.mono hB23.size)).mono hB1.size)⟩
 ·obtain rfl : r = 51 := by rw [hr]; simp
  clear hr HC HM
  go_enter Tryz.func123, Tryz.ntmps123
  go_upto_region 1 with fail
  rw [← hxb, ← hxv]
  clear hxb hxv
  go_wp2_with (with_reducible refine h_A ?_)
  refine hd.mono ?_
  rintro e w2 ⟨rfl, hB2⟩
  go_wp2_with (with_reducible refine h_A ?_)
  go_ret
  exact ⟨rfl, hB1.trans (hB2.mono hB1.size)⟩
end Go.PH
end

/- Texts laid together: VlRef, VlSame, VlSee, VlSmall, VlFine, VlCopy, VlReadMem, VlMust. -/
import Derived.Deep.QuietTactic
import Derived.BigQuiet
import Derived.Test.YtenegldhfgfokaaDoorProg
import Derived.WalkLawsBesides
import Derived.Test.YtenegldhfgfokaaDoorMg01
import Derived.Test.YtenegldhfgfokaaDoorMg03
import Derived.Test.YtenegldhfgfokaaDoorMg07
import Derived.Test.YtenegldhfgfokaaDoorMg08
import Derived.Test.YtenegldhfgfokaaDoorMg11
set_option linter.all false
set_option linter.unusedSimpArgs false
set_option linter.unusedVariables false
section
/- How many values there are, how deep they lie: the walks of the document's program. -/
namespace Go.PH
open Go.RowKit Go.Proofs

end Go.PH
end
section
/- '==' of values: the walk of the program. -/
namespace Go.PH
open Go.RowKit Go.Proofs

theorem sameV_eq (v u : Vl) : sameV v u = (decide (v.kind = u.kind) && decide (v.n = u.n) && decide (v.s = u.s) && decide (v.keys = u.keys) && sameL v.list u.list) := by
 cases v; rw [sameV]; rfl
theorem strs_eq (a b : List UInt8) : ((str a).toList == (str b).toList) = decide (a = b) := by
 rw [str_toList, str_toList]
 by_cases h : a = b
 ·subst h; simp
 ·simp [h]
theorem txs_cell {w : World} {B n c : Nat} {A : Option Addr} {L : List (List UInt8)} (hr : Rd w B 1 A n c (L.map txV)) {k : Nat} (hk : k < n) (hkl : k < L.length) : ∃ b off, A = some ⟨b, off, none⟩ ∧ ∀ W, Below B w W → W.cell? ⟨b, off + k, none⟩ = some (.string (str L[k])) := by
 obtain ⟨b, off, u, hA, hb, hu, hcell⟩ := hr.at_k (k := k) hk
 refine ⟨b, off, hA, fun W hW => ?_⟩
 rw [List.getElem?_map, List.getElem?_eq_getElem hkl] at hu
 injection hu with hu
 rw [hW.cell (p := ⟨b, off + k, none⟩) hb, hcell, ← hu]; rfl
set_option maxRecDepth 20000 in
theorem eqstr_any (A : Option Addr) (n c : Nat) (K : List (List UInt8)) (A' : Option Addr) (n' c' : Nat) (K' : List (List UInt8)) (w : World) (hr : Rd w w.heap.size 1 A n c (K.map txV)) (hr' : Rd w w.heap.size 1 A' n' c' (K'.map txV)) (hn : n ≤ 140737488351232) (hn' : n' ≤ 140737488351232) :
  Calls Tryd.prog 56 #[.slice A n c, .slice A' n' c'] w fun e w' => e = .returned (.bool (decide (K = K'))) ∧ Below w.heap.size w w' := by
 have hl : K.length = n := by have := hr.len; simpa using this
 have hl' : K'.length = n' := by have := hr'.len; simpa using this
 have HL := Lib.hid hl
 have HL' := Lib.hid hl'
 clear hl hl'
 by_cases hnn : n = n'
 ·subst hnn
  have g0 : ((n : Int) != (n : Int)) = false := by simp
  go_enter Tryd.func56, Tryd.ntmps56
  go_wp2_with (with_reducible refine h_A ?_)
  clear g0
  go_loopw [13] (fun s wr => ∃ i : Nat, i ≤ n ∧ s = .int .i64 i ∧ Below w.heap.size w wr ∧ Hid (K.take i = K'.take i)) (fun s _ => n - (RowKit.intOf s).toNat)
  case atStart => exact ⟨0, by omega, rfl, Below.refl _ _, Lib.hid (by simp)⟩
  case round =>
   obtain ⟨i, hi, rfl, hB, HC⟩ := hrel
   by_cases hlt : i < n
   ·have g1 : (i : Int) < (n : Int) := by omega
    have hil : i < K.length := by rw [HL.out]; exact hlt
    have hil' : i < K'.length := by rw [HL'.out]; exact hlt
    obtain ⟨b, off, rfl, hC⟩ := txs_cell hr hlt hil
    obtain ⟨b', off', rfl, hC'⟩ := txs_cell hr' hlt hil'
    have y0 := hC wr hB
    have z0 := hC' wr hB
    have HT : Hid (K.take (i + 1) = K.take i ++ [K[i]]) := Lib.hid (List.take_succ_eq_append_getElem hil)
    have HT' : Hid (K'.take (i + 1) = K'.take i ++ [K'[i]]) := Lib.hid (List.take_succ_eq_append_getElem hil')
    have HX : Hid (∀ e : K = K', K[i] = K'[i]) := Lib.hid (fun e => by subst e; rfl)
    clear hC hC'
    generalize K[i] = a at *
    generalize K'[i] = b2 at *
    have hab := strs_eq a b2
    have hnb : ((str a).toList != (str b2).toList) = !decide (a = b2) := by rw [bne, hab]
    by_cases hab2 : a = b2
    ·have g2 : decide (a = b2) = true := by simpa using hab2
     rw [g2] at hab hnb
     have HC2 : Hid (K.take (i + 1) = K'.take (i + 1)) := Lib.hid (by rw [HT.out, HT'.out, HC.out, hab2])
     subst hab2
     simp only [Bool.not_true] at hnb
     go_wp2_with (with_reducible refine h_A ?_)
     go_quiet (fail)
     go_wp2_with (with_reducible refine h_A ?_)
     exact ⟨⟨i + 1, by omega, by go_num, below_drewN hB _, HC2⟩, by simp [RowKit.intOf]; omega⟩
    ·have g2 : decide (a = b2) = false := by simpa using hab2
     rw [g2] at hab hnb
     have HF : Hid (decide (K = K') = false) := Lib.hid (decide_eq_false fun e => hab2 (HX.out e))
     clear g2 hab2
     simp only [Bool.not_false] at hnb
     go_wp2_with (with_reducible refine h_A ?_)
     go_quiet (fail)
     go_wp2_with (with_reducible refine h_A ?_)
     go_ret
     rw [HF.out]
     exact ⟨rfl, below_drewN hB _⟩
   ·have g1 : ¬ (i : Int) < (n : Int) := by omega
    have HF : Hid (decide (K = K') = true) := Lib.hid (decide_eq_true (by
     have := HC.out
     rwa [List.take_of_length_le (by rw [HL.out]; omega), List.take_of_length_le (by rw [HL'.out]; omega)] at this))
    go_wp2_with (with_reducible refine h_A ?_)
    go_ret
    rw [HF.out]
    exact ⟨rfl, hB⟩
 ·have g0 : ((n : Int) != (n' : Int)) = true := by simp; omega
  have HF : Hid (decide (K = K') = false) := Lib.hid (decide_eq_false fun e => hnn (by rw [← HL.out, ← HL'.out, e]))
  clear hnn
  go_enter Tryd.func56, Tryd.ntmps56
  go_wp2_with (with_reducible refine h_A ?_)
  go_ret
  rw [HF.out]
  exact ⟨rfl, Below.refl _ _⟩
def SameR (w : World) (v u : Vl) (e : Ending) (w' : World) : Prop := e = .returned (.bool (sameV v u)) ∧ Below w.heap.size w w'
theorem sameL_cons (x y : Vl) (l m : List Vl) : sameL (x :: l) (y :: m) = (sameV x y && sameL l m) := by rw [sameL]
theorem sameL_len : ∀ {l m : List Vl}, l.length ≠ m.length → sameL l m = false
 | [], [], h => absurd rfl h
 | [], _ :: _, _ => by simp [sameL]
 | _ :: _, [], _ => by simp [sameL]
 | x :: l, y :: m, h => by rw [sameL_cons, sameL_len (by simpa using h)]; simp
set_option maxRecDepth 20000 in
theorem eqval_any (v u : Vl) (h k : VH) (w : World) (hv : RVw w v h) (hu : RVw w u k) (ih : ∀ x ∈ v.list, ∀ (y : Vl) (hx hy : VH) (W : World), RVw W x hx → RVw W y hy → Calls Tryd.prog 34 #[.agg (vlV x hx), .agg (vlV y hy)] W (SameR W x y)) :
  Calls Tryd.prog 57 #[.slice h.A2 v.list.length h.c2, .slice k.A2 u.list.length k.c2, .func (.func 34) #[] #[]] w fun e w' => e = .returned (.bool (sameL v.list u.list)) ∧ Below w.heap.size w w' := by
 obtain ⟨K1, j1, K2, j2⟩ := h
 obtain ⟨M1, i1, M2, i2⟩ := k
 have hel := fun {i : Nat} (hi : i < v.list.length) => hv.elem hi
 have hfl := fun {i : Nat} (hi : i < u.list.length) => hu.elem hi
 simp only at hel hfl ⊢
 obtain ⟨N, hN⟩ : ∃ N, N = v.list.length := ⟨_, rfl⟩
 have hNm : N ≤ 140737488351232 := by rw [hN]; exact hv.bounds.2.2.2.2.2
 obtain ⟨M, hM⟩ : ∃ M, M = u.list.length := ⟨_, rfl⟩
 have hMm : M ≤ 140737488351232 := by rw [hM]; exact hu.bounds.2.2.2.2.2
 rw [← hN, ← hM]
 have HN := Lib.hid hN
 have HM := Lib.hid hM
 have IH := Lib.hid ih
 clear hN hM hv hu ih
 by_cases hnn : N = M
 ·subst hnn
  have g0 : ((N : Int) != (N : Int)) = false := by simp
  go_enter Tryd.func57, Tryd.ntmps57
  go_wp2_with (with_reducible refine h_A ?_)
  clear g0
  go_loopw [17] (fun s wr => ∃ i : Nat, i ≤ N ∧ s = .int .i64 i ∧ Below w.heap.size w wr ∧ Hid (sameL (v.list.drop i) (u.list.drop i) = sameL v.list u.list)) (fun s _ => N - (RowKit.intOf s).toNat)
  case atStart => exact ⟨0, by omega, rfl, Below.refl _ _, Lib.hid rfl⟩
  case round =>
   obtain ⟨i, hi, rfl, hB, HC⟩ := hrel
   by_cases hlt : i < N
   ·have g1 : (i : Int) < (N : Int) := by omega
    have hil : i < v.list.length := by rw [← HN.out]; exact hlt
    have hil' : i < u.list.length := by rw [← HM.out]; exact hlt
    obtain ⟨b, off, hx, rfl, hvx, HX⟩ := hel hil
    obtain ⟨b', off', hy, rfl, hvy, HY⟩ := hfl hil'
    obtain ⟨k0, k1, k2, k3, k4⟩ := HX wr hB
    have HD : Hid (sameL (v.list.drop i) (u.list.drop i) = (sameV v.list[i] u.list[i] && sameL (v.list.drop (i + 1)) (u.list.drop (i + 1)))) := Lib.hid (by rw [List.drop_eq_getElem_cons hil, List.drop_eq_getElem_cons hil', sameL_cons])
    have hrec := fun (W : World) (hW : Below w.heap.size w W) => IH.out _ (List.getElem_mem hil) u.list[i] hx hy W (hvx.up hW) (hvy.up hW)
    clear HX hel hvx hfl hvy
    generalize v.list[i] = x at *
    generalize u.list[i] = y at *
    obtain ⟨xb, w1, hxb, hxv, hX, hB1⟩ := alloc_stepV wr #[.int .u8 (x.kind : Int), .int .u64 (x.n : Int), .string (str x.s), .slice hx.A1 x.keys.length hx.c1, .slice hx.A2 x.list.length hx.c2] 27
    have hBx := hB.trans (hB1.mono hB.size)
    obtain ⟨q0, q1, q2, q3, q4⟩ := HY w1 hBx
    obtain ⟨yb, w2, hyb, hyv, hY, hB2⟩ := alloc_stepV w1 #[.int .u8 (y.kind : Int), .int .u64 (y.n : Int), .string (str y.s), .slice hy.A1 y.keys.length hy.c1, .slice hy.A2 y.list.length hy.c2] 27
    have hBy := hBx.trans (hB2.mono hBx.size)
    have h1 := hrec w2 hBy
    have hX2 := hX.below hB2
    clear hrec HY hX
    unfold vlV at h1
    have c0 := hX2.c0
    have c1 := hX2.c1
    have c2 := hX2.c2
    have c3 := hX2.c3
    have c4 := hX2.c4
    have d0 := hY.c0
    have d1 := hY.c1
    have d2 := hY.c2
    have d3 := hY.c3
    have d4 := hY.c4
    go_upto_region 6 with fail
    rw [← hxb, ← hxv]
    clear hxb hxv k0 k1 k2 k3 k4
    go_upto_region 7 with fail
    rw [← hyb, ← hyv]
    clear hyb hyv q0 q1 q2 q3 q4
    unfold SameR at h1
    cases hs : sameV x y
    ·have HF : Hid (sameL v.list u.list = false) := Lib.hid (by rw [← HC.out, HD.out, hs]; rfl)
     rw [hs] at h1
     clear hs
     go_wp2_with (with_reducible refine h_A ?_)
     refine h1.mono ?_
     rintro e w3 ⟨rfl, hB3⟩
     clear h1 c0 c1 c2 c3 c4 d0 d1 d2 d3 d4
     go_wp2_with (with_reducible refine h_A ?_)
     go_ret
     rw [HF.out]
     exact ⟨rfl, hBy.trans (hB3.mono hBy.size)⟩
    ·have HC2 : Hid (sameL (v.list.drop (i + 1)) (u.list.drop (i + 1)) = sameL v.list u.list) := Lib.hid (by rw [← HC.out, HD.out, hs]; rfl)
     rw [hs] at h1
     clear hs
     go_wp2_with (with_reducible refine h_A ?_)
     refine h1.mono ?_
     rintro e w3 ⟨rfl, hB3⟩
     clear h1 c0 c1 c2 c3 c4 d0 d1 d2 d3 d4
     go_wp2_with (with_reducible refine h_A ?_)
     exact ⟨⟨i + 1, by omega, by go_num, hBy.trans (hB3.mono hBy.size), HC2⟩, by simp [RowKit.intOf]; omega⟩
   ·have g1 : ¬ (i : Int) < (N : Int) := by omega
    have HF : Hid (sameL v.list u.list = true) := Lib.hid (by
     rw [← HC.out, List.drop_eq_nil_of_le (by rw [← HN.out]; omega), List.drop_eq_nil_of_le (by rw [← HM.out]; omega), sameL])
    clear hel hfl
    go_wp2_with (with_reducible refine h_A ?_)
    go_ret
    rw [HF.out]
    exact ⟨rfl, hB⟩
 ·have g0 : ((N : Int) != (M : Int)) = true := by simp; omega
  have HF : Hid (sameL v.list u.list = false) := Lib.hid (sameL_len (by rw [← HN.out, ← HM.out]; exact hnn))
  clear hnn hel hfl
  go_enter Tryd.func57, Tryd.ntmps57
  go_wp2_with (with_reducible refine h_A ?_)
  go_ret
  rw [HF.out]
  exact ⟨rfl, Below.refl _ _⟩
set_option maxRecDepth 20000 in
theorem vsame_any (v : Vl) : ∀ (u : Vl) (h k : VH) (w : World), RVw w v h → RVw w u k → Calls Tryd.prog 34 #[.agg (vlV v h), .agg (vlV u k)] w (SameR w v u) := by
 refine Vl.ind (P := fun v => ∀ (u : Vl) (h k : VH) (w : World), RVw w v h → RVw w u k → Calls Tryd.prog 34 #[.agg (vlV v h), .agg (vlV u k)] w (SameR w v u)) ?_ v
 intro v ih u h k w hv hu
 unfold vlV SameR
 obtain ⟨xb, w1, hxb, hxv, hX, hB1⟩ := alloc_stepV w #[.int .u8 (v.kind : Int), .int .u64 (v.n : Int), .string (str v.s), .slice h.A1 v.keys.length h.c1, .slice h.A2 v.list.length h.c2] 27
 obtain ⟨yb, w2, hyb, hyv, hY, hB2⟩ := alloc_stepV w1 #[.int .u8 (u.kind : Int), .int .u64 (u.n : Int), .string (str u.s), .slice k.A1 u.keys.length k.c1, .slice k.A2 u.list.length k.c2] 27
 have hyb' : xb + 1 = yb := by rw [hyb, hxv, hxb]; simp
 have hB := hB1.trans (hB2.mono hB1.size)
 have hX2 := hX.below hB2
 have hv2 := hv.up hB
 have hu2 := hu.up hB
 have c0 := hX2.c0
 have c1 := hX2.c1
 have c2 := hX2.c2
 have c3 := hX2.c3
 have c4 := hX2.c4
 have d0 := hY.c0
 have d1 := hY.c1
 have d2 := hY.c2
 have d3 := hY.c3
 have d4 := hY.c4
 have hst := strs_eq v.s u.s
 obtain ⟨xs, _, _, _, hvk⟩ := hv2.parts
 obtain ⟨ys, _, _, _, huk⟩ := hu2.parts
 have heq := eqstr_any h.A1 v.keys.length h.c1 v.keys k.A1 u.keys.length k.c1 u.keys w2 hvk.1 huk.1 hv.bounds.2.2.2.2.1 hu.bounds.2.2.2.2.1
 have hev := fun (W : World) (hW : Below w2.heap.size w2 W) => eqval_any v u h k W (hv2.up hW) (hu2.up hW) (fun x hx y => ih x hx y)
 clear hyb
 by_cases hk : v.kind = u.kind
 ·have g1 : ((v.kind : Int) == (u.kind : Int)) = true := by simp [hk]
  by_cases hn : v.n = u.n
  ·have g2 : ((v.n : Int) == (u.n : Int)) = true := by simp [hn]
   by_cases hs : v.s = u.s
   ·have g3 : decide (v.s = u.s) = true := by simpa using hs
    rw [g3] at hst
    clear g3
    by_cases hkk : v.keys = u.keys
    ·have g4 : decide (v.keys = u.keys) = true := by simpa using hkk
     rw [g4] at heq
     clear g4
     have HF : Hid (sameV v u = sameL v.list u.list) := Lib.hid (by rw [sameV_eq]; simp [hk, hn, hs, hkk])
     clear hk hn hs hkk ih
     rw [HF.out]
     generalize sameL v.list u.list = r at *
     go_enter Tryd.func34, Tryd.ntmps34
     go_upto_region 1 with fail
     rw [← hxb, ← hxv, hyb', ← hyv]
     clear hxb hxv hyb' hyv
     go_wp2_with (with_reducible refine h_A ?_)
     refine heq.mono ?_
     rintro e w3 ⟨rfl, hB3⟩
     have hev3 := hev w3 hB3
     have hX3 := hX2.below hB3
     have hY3 := hY.below hB3
     clear c0 c1 c2 c3 c4 d0 d1 d2 d3 d4 heq hev
     have c0 := hX3.c0
     have c1 := hX3.c1
     have c2 := hX3.c2
     have c3 := hX3.c3
     have c4 := hX3.c4
     have d0 := hY3.c0
     have d1 := hY3.c1
     have d2 := hY3.c2
     have d3 := hY3.c3
     have d4 := hY3.c4
     go_wp2_with (with_reducible refine h_A ?_)
     refine hev3.mono ?_
     rintro e w4 ⟨rfl, hB4⟩
     clear c0 c1 c2 c3 c4 d0 d1 d2 d3 d4
     go_wp2_with (with_reducible refine h_A ?_)
     go_ret
     exact ⟨rfl, hB.trans ((hB3.mono hB.size).trans (hB4.mono (Nat.le_trans hB.size hB3.size)))⟩
    ·have g4 : decide (v.keys = u.keys) = false := by simpa using hkk
     rw [g4] at heq
     clear g4 hev ih
     have HF : Hid (sameV v u = false) := Lib.hid (by rw [sameV_eq]; simp [hkk])
     clear hkk hk hn hs
     go_enter Tryd.func34, Tryd.ntmps34
     go_upto_region 1 with fail
     rw [← hxb, ← hxv, hyb', ← hyv]
     clear hxb hxv hyb' hyv
     go_wp2_with (with_reducible refine h_A ?_)
     refine heq.mono ?_
     rintro e w3 ⟨rfl, hB3⟩
     clear c0 c1 c2 c3 c4 d0 d1 d2 d3 d4 heq
     go_wp2_with (with_reducible refine h_A ?_)
     go_ret
     rw [HF.out]
     exact ⟨rfl, hB.trans (hB3.mono hB.size)⟩
   ·have g3 : decide (v.s = u.s) = false := by simpa using hs
    rw [g3] at hst
    clear g3 heq hev ih hk hn
    have HF : Hid (sameV v u = false) := Lib.hid (by rw [sameV_eq]; simp [hs])
    clear hs
    go_enter Tryd.func34, Tryd.ntmps34
    go_upto_region 1 with fail
    rw [← hxb, ← hxv, hyb', ← hyv]
    clear hxb hxv hyb' hyv
    go_wp2_with (with_reducible refine h_A ?_)
    go_ret
    rw [HF.out]
    exact ⟨rfl, hB⟩
  ·have g2 : ((v.n : Int) == (u.n : Int)) = false := by simp; omega
   clear hev hk
   clear heq hst ih
   have HF : Hid (sameV v u = false) := Lib.hid (by rw [sameV_eq]; simp [hn])
   clear hn
   go_enter Tryd.func34, Tryd.ntmps34
   go_upto_region 1 with fail
   rw [← hxb, ← hxv, hyb', ← hyv]
   clear hxb hxv hyb' hyv
   go_wp2_with (with_reducible refine h_A ?_)
   go_ret
   rw [HF.out]
   exact ⟨rfl, hB⟩
 ·have g1 : ((v.kind : Int) == (u.kind : Int)) = false := by simp; omega
  clear hev
  clear heq hst ih
  have HF : Hid (sameV v u = false) := Lib.hid (by rw [sameV_eq]; simp [hk])
  clear hk
  go_enter Tryd.func34, Tryd.ntmps34
  go_upto_region 1 with fail
  rw [← hxb, ← hxv, hyb', ← hyv]
  clear hxb hxv hyb' hyv
  go_wp2_with (with_reducible refine h_A ?_)
  go_ret
  rw [HF.out]
  exact ⟨rfl, hB⟩
end Go.PH
end
section
/- Reading arguments that hold values, however deep. -/
namespace Go.PH
open Go.RowKit Go.Proofs Go.ChangeShapes Go.WideShapes Go.ChangeAt Go.Deep

section
variable {H : Type} {enc : TypeId × Value → H} {P : Program} {W : World}
/-- a reader at fuel below N -/
def ReaderN (N : Nat) (enc : TypeId × Value → H) (P : Program) (W : World) (t : TypeId) {α : Type} (R : α → List Value → Prop) : Prop :=
 ∀ (fuel : Nat), fuel < N → ∀ (cs : List Value) (d : DataW H) (p : List MemPlace), DataW.trod enc P W 0 (fun _ => true) true fuel t cs = some (d, p) → (∀ x ∈ d.weights P t, x ≤ reachBytes) → ∃ a, R a cs
theorem Reader.at {N : Nat} {t : TypeId} {α : Type} {R : α → List Value → Prop} (h : Reader enc P W t R) : ReaderN N enc P W t R := fun fuel _ => h fuel
theorem ReaderN.all {t : TypeId} {α : Type} {R : α → List Value → Prop} (h : ∀ N, ReaderN N enc P W t R) : Reader enc P W t R := fun fuel => h (fuel + 1) fuel (Nat.lt_succ_self _)
/-- R alone decides what reads; the fuel does not -/
theorem readerN_slice {N : Nat} {t e size bytes : Nat} {α : Type} {R : α → List Value → Prop} (ht : P.underlying t = some (.slice e)) (hc : P.cellsOf e = size) (hby : P.bytesOf e = bytes) (hpos : 0 < size) (hr : ReaderN N enc P W e R) : ReaderN (N + 1) enc P W t (RSlice W size bytes R) := fun fuel hfu cs d p h hw => by
 have hlt := DataW.trod_lt fuel _ _ _ h
 rcases DataW.trod_slice ht h with ⟨rfl, _⟩ | ⟨a, len, cap, elems, rest, n, hfn, rfl, hx, hb, hl, hm, hlen, hel, hsp, _⟩
 ·exact ⟨[], none, 0, 0, [], rfl, Rd.nil _ _ _ _ (by simp [maxLen]) _, rfl, by omega, fun i h => by simp at h⟩
 have hrl : rest.length = cap - len := (hsp rfl).1
 obtain ⟨rfl, rfl⟩ : d = _ ∧ p = _ := by simpa using hx
 have hcap : cap * bytes ≤ 140737488351232 := by
  have := hw ((elems.length + rest.length) * P.bytesOf e) (by simp [DataW.weights, ht])
  simp only [hlen, hrl, hby, reachBytes] at this
  rwa [show len + (cap - len) = cap by omega] at this
 have each : ∀ i, i < len → ∃ y : α × List Value, W.cells? 0 (a.add (i * P.cellsOf e)) (P.cellsOf e) = some y.2 ∧ R y.1 y.2 := fun i hi => by
  have h0 := hel i hi
  rw [List.getElem?_eq_getElem (by omega), Option.bind_eq_some_iff] at h0
  obtain ⟨cs', h1, h2⟩ := h0
  obtain ⟨y, hy⟩ := hr n (by omega) _ _ _ h2 (fun x hx => hw x (by
   simp only [DataW.weights, ht, List.mem_cons, List.mem_append]
   exact .inr (.inl (weightsAll_mem (List.mem_map.2 ⟨_, List.getElem_mem (by omega : i < elems.length), rfl⟩) x hx))))
  exact ⟨(y, cs'), h1, hy⟩
 obtain ⟨Y, hY⟩ : ∃ Y : Nat → Option (α × List Value), ∀ i, i < len → ∃ y, Y i = some y ∧ W.cells? 0 (a.add (i * P.cellsOf e)) (P.cellsOf e) = some y.2 ∧ R y.1 y.2 :=
  ⟨fun i => if h : i < len then some (each i h).choose else none, fun i hi => ⟨_, dif_pos hi, (each i hi).choose_spec⟩⟩
 by_cases hl0 : len = 0
 ·subst hl0
  exact ⟨[], some a, 0, cap, [], rfl, Rd.nil _ _ _ _ hm _, rfl, hcap, fun i h => by simp at h⟩
 obtain ⟨y0, _⟩ := hY 0 (by omega)
 obtain ⟨Y', hY'⟩ : ∃ Y' : Nat → α × List Value, ∀ i, i < len → Y i = some (Y' i) := ⟨fun i => (Y i).getD y0, fun i hi => by
  obtain ⟨y, hy, _⟩ := hY i hi
  show Y i = some ((Y i).getD y0)
  rw [hy]; rfl⟩
 replace hY : ∀ i, i < len → W.cells? 0 (a.add (i * P.cellsOf e)) (P.cellsOf e) = some (Y' i).2 ∧ R (Y' i).1 (Y' i).2 := fun i hi => by
  obtain ⟨y, hy, h1⟩ := hY i hi
  rw [hY' i hi] at hy
  injection hy with hy
  rw [hy]; exact h1
 clear hY' each
 obtain ⟨Y, rfl⟩ : ∃ Y, Y = Y' := ⟨_, rfl⟩
 have hlenY : ∀ i, i < len → (Y i).2.length = size := fun i hi => by rw [← hc]; exact (World.cells?_some (hY i hi).1).2.1
 have hchunk : ∀ (k : Nat), k ≤ len → ((List.range k).flatMap fun i => (Y i).2).length = k * size ∧ ∀ i, i < k → ((((List.range k).flatMap fun i => (Y i).2).drop (i * size)).take size) = (Y i).2 := by
  intro k
  induction k with
  | zero => intro _; simp
  | succ k ih =>
   intro hk
   obtain ⟨h1, h2⟩ := ih (by omega)
   have hlk := hlenY k (by omega)
   rw [List.range_succ, List.flatMap_append]
   simp only [List.flatMap_cons, List.flatMap_nil, List.append_nil]
   refine ⟨by rw [List.length_append, h1, hlk, Nat.succ_mul], fun i hi => ?_⟩
   rcases Nat.lt_or_ge i k with hik | hik
   ·have : i * size + size ≤ k * size := by rw [← Nat.succ_mul]; exact Nat.mul_le_mul_right _ hik
    rw [List.drop_append_of_le_length (by rw [h1]; omega), List.take_append_of_le_length (by rw [List.length_drop, h1]; omega)]
    exact h2 i hik
   ·obtain rfl : i = k := by omega
    rw [List.drop_append, h1, Nat.sub_self, List.drop_of_length_le (by rw [h1]; exact Nat.le_refl _), List.drop_zero, List.nil_append, List.take_of_length_le (by omega)]
 obtain ⟨hL, hCh⟩ := hchunk len (Nat.le_refl _)
 refine ⟨(List.range len).map fun i => (Y i).1, some a, len, cap, (List.range len).flatMap fun i => (Y i).2, rfl, ⟨hL, hl, hm, fun hn => ?_⟩, by simp, hcap, fun i hi => ?_⟩
 ·obtain ⟨_, _, hcell0⟩ := World.cells?_some (hY 0 hn).1
  have h0 := hcell0 0 (by omega)
  have h0' : W.cell? a = (Y 0).2[0]? := by
   rw [← h0]; congr 1
   simp [Addr.add]
  have hs0 : (Y 0).2[0]? = some ((Y 0).2[0]'(by rw [hlenY 0 hn]; exact hpos)) := List.getElem?_eq_getElem _
  rw [hs0] at h0'
  obtain ⟨b, off, spot⟩ := a
  have hspot : spot = none := World.cell?_spot h0'
  subst hspot
  refine ⟨b, off, rfl, World.block_lt_of_cell? W _ h0', fun j u hu => ?_⟩
  have hj : j < len * size := by rw [← hL]; exact (List.getElem?_eq_some_iff.1 hu).1
  have hq : j / size < len := (Nat.div_lt_iff_lt_mul hpos).2 hj
  have hr' : j % size < size := Nat.mod_lt _ hpos
  have hjj : j / size * size + j % size = j := by rw [Nat.mul_comm]; exact Nat.div_add_mod j size
  obtain ⟨_, _, hcq⟩ := World.cells?_some (hY (j / size) hq).1
  have h3 := hcq (j % size) (by rw [hc]; exact hr')
  rw [hc] at h3
  have h4 : (Y (j / size)).2[j % size]? = some u := by
   rw [← hCh _ hq, List.getElem?_take, if_pos hr', List.getElem?_drop, hjj]; exact hu
  rw [h4] at h3
  rw [← h3]
  congr 1
  unfold Addr.add
  split <;> split <;> simp_all <;> omega
 ·simp only [List.getElem_map, List.getElem_range]
  have hi' : i < len := by simpa using hi
  rw [hCh i hi']
  exact (hY i hi').2


/-- the fields of a struct -/
theorem trodN_field {t fuel : Nat} {cs : List Value} {d : DataW H} {p : List MemPlace} {fs : Array Field} (ht : P.underlying t = some (.struct fs)) (h : DataW.trod enc P W 0 (fun _ => true) true fuel t cs = some (d, p)) (hw : ∀ x ∈ d.weights P t, x ≤ reachBytes) :
  cs.length = P.cellsOf t ∧ ∀ (i : Nat) (f : Field), fs[i]? = some f → ∀ {α : Type} {R : α → List Value → Prop}, ReaderN fuel enc P W f.type R → ∃ a, R a ((cs.drop f.offset).take (P.cellsOf f.type)) := by
 obtain ⟨xs, n, hfn, hx, hl, hlen, hf⟩ := DataW.trod_struct ht h
 obtain ⟨rfl, rfl⟩ : d = _ ∧ p = _ := by simpa using hx
 refine ⟨hl, fun i f hi α R hr => ?_⟩
 have hif : i < fs.size := (Array.getElem?_eq_some_iff.1 hi).1
 have h1 := hf i f hi
 rw [List.getElem?_eq_getElem (by omega)] at h1
 refine hr n (by omega) _ _ _ h1 fun x hxm => hw x ?_
 simp only [DataW.weights, ht]
 refine DataW.weights_mem_each (j := i) (t := f.type) (d := xs[i].1) ?_ ?_ x hxm
 ·rw [List.getElem?_map, Array.getElem?_toList, hi]; rfl
 ·rw [List.getElem?_map, List.getElem?_eq_getElem (by omega)]; rfl


/-- rows of pairs -/
theorem rows_pairs {α β : Type} {f : α × β → List Value} {sz : Nat} {Q : α → β → Prop} : ∀ (L : List α) (xs : List Value), xs.length = L.length * sz → (∀ i (h : i < L.length), ∃ b, (xs.drop (i * sz)).take sz = f (L[i], b) ∧ Q L[i] b) → ∃ ys : List (α × β), ys.map (·.1) = L ∧ xs = rowC f ys ∧ ∀ p ∈ ys, Q p.1 p.2
 | [], xs, hx, _ => ⟨[], rfl, List.eq_nil_of_length_eq_zero (by simpa using hx), fun p hp => by cases hp⟩
 | a :: L, xs, hx, h => by
  obtain ⟨b, h1, h2⟩ := h 0 (by simp)
  rw [Nat.zero_mul, List.drop_zero] at h1
  have hl : (xs.drop sz).length = L.length * sz := by rw [List.length_drop, hx, List.length_cons, Nat.succ_mul]; omega
  obtain ⟨ys, e1, e2, e3⟩ := rows_pairs L (xs.drop sz) hl (fun i hi => by
   obtain ⟨c, h3, h4⟩ := h (i + 1) (by simp; omega)
   refine ⟨c, ?_, h4⟩
   rw [Nat.succ_mul, Nat.add_comm] at h3
   rw [List.drop_drop]
   exact h3)
  refine ⟨(a, b) :: ys, by rw [List.map_cons, e1], ?_, fun p hp => ?_⟩
  ·rw [rowC_cons, ← e2]
   have h1' : xs.take sz = f (a, b) := h1
   rw [← h1']
   exact (List.take_append_drop sz xs).symm
  ·rcases List.mem_cons.1 hp with rfl | hp
   ·exact h2
   ·exact e3 p hp
theorem txs_row {xs : List Value} : ∀ {L : List (List UInt8)}, xs.length = L.length * 1 → (∀ i (h : i < L.length), RStr L[i] ((xs.drop (i * 1)).take 1)) → xs = L.map txV ∧ ∀ k ∈ L, k.length ≤ 140737488351232 := by
 intro L
 induction L generalizing xs with
 | nil => intro hx _; exact ⟨List.eq_nil_of_length_eq_zero (by simpa using hx), fun k hk => by cases hk⟩
 | cons a L ih =>
  intro hx h
  match xs, hx with
  | x :: xs, hx =>
   have h0 := h 0 (by simp)
   obtain ⟨h01, h02⟩ := h0
   simp at h01 h02
   obtain ⟨e1, e2⟩ := ih (xs := xs) (by simpa using hx) (fun i hi => by
    have := h (i + 1) (by simp; omega)
    rw [show (i + 1) * 1 = i * 1 + 1 by omega, List.drop_succ_cons] at this
    exact this)
   refine ⟨by rw [List.map_cons, ← e1, h01]; rfl, fun k hk => ?_⟩
   rcases List.mem_cons.1 hk with rfl | hk
   ·exact h02
   ·exact e2 k hk
end
variable {H : Type} {enc : TypeId × Value → H} {W : World}
def RVal (W : World) (v : Vl) (cs : List Value) : Prop := ∃ h, cs = vlC (v, h) ∧ RV W (fun g => g < W.heap.size) v h
theorem cells5v {cs : List Value} {a b c d e : Value} (hl : cs.length = 5) (h0 : (cs.drop 0).take 1 = [a]) (h1 : (cs.drop 1).take 1 = [b]) (h2 : (cs.drop 2).take 1 = [c]) (h3 : (cs.drop 3).take 1 = [d]) (h4 : (cs.drop 4).take 1 = [e]) : cs = [a, b, c, d, e] := by
 match cs, hl with
 | [x, y, z, u, v], _ => simp_all
theorem rdx_of {w : World} {size n c : Nat} {A : Option Addr} {xs : List Value} (h : Rd w w.heap.size size A n c xs) : RdX w (fun g => g < w.heap.size) size A n c xs := ⟨h, fun hn g hg => by
 obtain ⟨b, off, e, hb, _⟩ := h.at_ hn
 subst e
 injection hg with hg
 rw [← hg]; exact hb⟩
theorem bounds_u64 {x : Int} (h : (Lit.int .u64 x).wf = true) : 0 ≤ x ∧ x < 18446744073709551616 := by
 have e1 : IntKind.u64.min = 0 := by decide
 have e2 : IntKind.u64.max = 18446744073709551615 := by decide
 simp only [Lit.wf, e1, e2, Bool.and_eq_true, decide_eq_true_eq] at h
 omega
set_option maxRecDepth 20000 in
theorem readerN_val : ∀ N, ReaderN N enc Tryd.prog W 27 (RVal W) := by
 intro N
 induction N with
 | zero => intro fuel hf; omega
 | succ N ih =>
  intro fuel hfu cs d p h hw
  obtain ⟨hl, hf⟩ := trodN_field Tryd.underlying27 h hw
  obtain ⟨n0, h0, w0⟩ := hf 0 _ rfl (reader_int (k := .u8) Tryd.underlying22).at
  obtain ⟨n1, h1, w1⟩ := hf 1 _ rfl (reader_int (k := .u64) Tryd.underlying23).at
  obtain ⟨l2, h2, w2⟩ := hf 2 _ rfl (reader_str Tryd.underlying9).at
  obtain ⟨L3, A3, n3, c3, xs3, h3, r3, e3, b3, f3⟩ := hf 3 _ rfl (reader_slice Tryd.underlying24 (by kernel_rfl : Tryd.prog.cellsOf 9 = 1) (by kernel_rfl : Tryd.prog.bytesOf 9 = 16) (by omega) (reader_str Tryd.underlying9)).at
  have hN : ReaderN fuel enc Tryd.prog W 27 (RVal W) := fun fu hfu' => ih fu (by omega)
  have hsl := readerN_slice (enc := enc) (P := Tryd.prog) (W := W) (N := fuel) (t := 25) Tryd.underlying25 (by kernel_rfl : Tryd.prog.cellsOf 27 = 5) (by kernel_rfl : Tryd.prog.bytesOf 27 = 80) (by omega) hN
  obtain ⟨L4, A4, n4, c4, xs4, h4, r4, e4, b4, f4⟩ := hf 4 _ rfl (fun fu hfu' => hsl fu (by omega))
  have k0 := bounds_u8 w0
  have k1 := bounds_u64 w1
  rw [(by kernel_rfl : Tryd.prog.cellsOf 27 = 5)] at hl
  have e0 : n0 = ((n0.toNat : Nat) : Int) := by omega
  have e1 : n1 = ((n1.toNat : Nat) : Int) := by omega
  rw [e0] at h0
  rw [e1] at h1
  subst e3 e4
  obtain ⟨ys, y1, y2, y3⟩ := rows_pairs (f := vlC) (sz := 5) (Q := fun v h => RV W (fun g => g < W.heap.size) v h) L4 xs4 (by rw [r4.len]) f4
  obtain ⟨t1, t2⟩ := txs_row (by rw [r3.len]) f3
  subst t1 y2
  have hcs := cells5v hl h0 h1 h2 h3 h4
  refine ⟨.mk n0.toNat n1.toNat l2 L3 L4, ⟨A3, c3, A4, c4⟩, hcs, ys, by show n0.toNat < 256; omega, by show n1.toNat < _; omega, w2, rdx_of r3, t2, by show L3.length ≤ _; have := r3.cap; omega, by show L4.length ≤ _; have := r4.cap; omega, rdx_of r4, y1, y3⟩
theorem reader_val : Reader enc Tryd.prog W 27 (RVal W) := ReaderN.all readerN_val
end Go.PH
end
section
/- Which values can be looked at: the walks of the document's small and Small. -/
namespace Go.PH
open Go.RowKit Go.Proofs

end Go.PH
end
section
/- Values that are no greater than may be looked at. No program in sight. -/
namespace Go.PH

end Go.PH
end
section
/- A value in memory of its own: the walk of the document's Copy. -/
namespace Go.PH
open Go.RowKit Go.Proofs

theorem slTx : SlT Tryd.prog 24 9 1 16 (.string ⟨#[]⟩) := SlT.mk' Tryd.underlying24 (by kernel_rfl) rfl (by omega)
theorem slVl : SlT Tryd.prog 25 27 5 80 (.agg #[.int .u8 0, .int .u64 0, .string ⟨#[]⟩, .slice none 0 0, .slice none 0 0]) := SlT.mk' Tryd.underlying25 (by kernel_rfl) rfl (by omega)
/-- blocks from base on, but those of a row -/
def FB (base : Nat) (A : Option Addr) (w : World) : Nat → Prop := fun g => base ≤ g ∧ g < w.heap.size ∧ blk A ≠ some g
/-- fresh blocks -/
def FN (base : Nat) (w : World) : Nat → Prop := fun g => base ≤ g ∧ g < w.heap.size
/-- what a round has made: the parts so far, the keys -/
structure CpS (wr : World) (base : Nat) (K : List (List UInt8)) (AK : Option Addr) (cK : Nat) (A : Option Addr) (c : Nat) (xs : List (Vl × VH)) : Prop where
 own : Own wr base 27 5 A xs.length c (rowC vlC xs)
 el : ∀ p ∈ xs, RV wr (FB base A wr) p.1 p.2
 ky : RdX wr (FB base A wr) 1 AK K.length cK (K.map txV)
theorem CpS.on {wr wr' : World} {base : Nat} {K : List (List UInt8)} {AK : Option Addr} {cK : Nat} {A : Option Addr} {c : Nat} {xs : List (Vl × VH)} (h : CpS wr base K AK cK A c xs) (hk : ∀ g, base ≤ g → g < wr.heap.size → wr'.heap[g]? = wr.heap[g]?) (hs : wr.heap.size ≤ wr'.heap.size) : CpS wr' base K AK cK A c xs := by
 have hF : ∀ g, FB base A wr g → FB base A wr' g := fun g hg => ⟨hg.1, Nat.lt_of_lt_of_le hg.2.1 hs, hg.2.2⟩
 refine ⟨?_, fun p hp => ((h.el p hp).keep (fun g hg => hk g hg.1 hg.2.1) hs).mono hF, (h.ky.keep (fun g hg => hk g hg.1 hg.2.1) hs).mono hF⟩
 have ho := h.own
 unfold Own World.ownsRow at ho ⊢
 obtain ⟨hl, h1⟩ := ho
 refine ⟨hl, h1.imp id ?_⟩
 rintro ⟨g, cap, cur, hv, hb, hh, hr⟩
 exact ⟨g, cap, cur, hv, hb, (hk g hb (Array.getElem?_eq_some_iff.1 hh).1).trans hh, hr⟩
theorem CpS.below {wr wr' : World} {base : Nat} {K : List (List UInt8)} {AK : Option Addr} {cK : Nat} {A : Option Addr} {c : Nat} {xs : List (Vl × VH)} (h : CpS wr base K AK cK A c xs) (hB : Below wr.heap.size wr wr') : CpS wr' base K AK cK A c xs := h.on (fun g _ hg => hB.block g hg) hB.size
theorem CpS.box {wr wr' : World} {base b : Nat} {K : List (List UInt8)} {AK : Option Addr} {cK : Nat} {A : Option Addr} {c : Nat} {xs : List (Vl × VH)} (h : CpS wr base K AK cK A c xs) (hg : wr.grownBy wr' (some b)) (hb : b < base) : CpS wr' base K AK cK A c xs :=
 h.on (fun g hg1 hg2 => hg.block g hg2 (fun e => by injection e with e; omega)) hg.size
/-- one more part -/
theorem CpS.push {wr w5 w6 : World} {base : Nat} {K : List (List UInt8)} {AK : Option Addr} {cK : Nat} {A A2 : Option Addr} {c c2 : Nat} {xs : List (Vl × VH)} {x : Vl} {hx : VH} (h : CpS wr base K AK cK A c xs) (hbs : base ≤ wr.heap.size) (hB : Below wr.heap.size wr w5) (hv : RV w5 (FN wr.heap.size w5) x hx)
  (ho : Own w6 base 27 5 A2 (xs.length + 1) c2 (rowC vlC (xs ++ [(x, hx)]))) (hg : w5.grownBy w6 (blk A)) (hA : blk A2 = blk A ∨ ∀ g, blk A2 = some g → w5.heap.size ≤ g) : CpS w6 base K AK cK A2 c2 (xs ++ [(x, hx)]) := by
 have h5 := h.below hB
 have hAl : ∀ g, blk A = some g → g < wr.heap.size := fun g hg => (h.own.blk_lt hg).2
 have hF : ∀ g, FB base A w5 g → FB base A2 w6 g := fun g hg1 => ⟨hg1.1, Nat.lt_of_lt_of_le hg1.2.1 hg.size, by
  rcases hA with e | e
  ·rw [e]; exact hg1.2.2
  ·intro e2; have := e g e2; have := hg1.2.1; omega⟩
 have hk : ∀ g, FB base A w5 g → w6.heap[g]? = w5.heap[g]? := fun g hg1 => hg.block g hg1.2.1 (fun e => hg1.2.2 e.symm)
 refine ⟨by rw [List.length_append]; exact ho, fun p hp => ?_, (h5.ky.keep hk hg.size).mono hF⟩
 rcases List.mem_append.1 hp with hp | hp
 ·exact ((h5.el p hp).keep hk hg.size).mono hF
 ·obtain rfl := List.mem_singleton.1 hp
  have hFN : ∀ g, FN wr.heap.size w5 g → FB base A w5 g := fun g hg1 => ⟨Nat.le_trans hbs hg1.1, hg1.2, fun e => by have := hAl g e; have := hg1.1; omega⟩
  exact (((hv.mono hFN).keep hk hg.size).mono hF)
end Go.PH
end
section
/- What a reader of values makes in memory: parts and keys in rows of their own. -/
namespace Go.PH
open Go.RowKit Go.Proofs

/-- blocks from base on, but those of two rows -/
def FB2 (base : Nat) (A AK : Option Addr) (w : World) : Nat → Prop := fun g => base ≤ g ∧ g < w.heap.size ∧ blk A ≠ some g ∧ blk AK ≠ some g
structure MnS (wr : World) (base : Nat) (K : List (List UInt8)) (AK : Option Addr) (cK : Nat) (A : Option Addr) (c : Nat) (xs : List (Vl × VH)) : Prop where
 own : Own wr base 27 5 A xs.length c (rowC vlC xs)
 kown : Own wr base 9 1 AK K.length cK (K.map txV)
 ne : ∀ g, blk A = some g → blk AK ≠ some g
 el : ∀ p ∈ xs, RV wr (FB2 base A AK wr) p.1 p.2
theorem own_on {wr wr' : World} {base e size n c : Nat} {A : Option Addr} {ys : List Value} (h : Own wr base e size A n c ys) (hk : ∀ g, base ≤ g → g < wr.heap.size → wr'.heap[g]? = wr.heap[g]?) : Own wr' base e size A n c ys := by
 unfold Own World.ownsRow at h ⊢
 obtain ⟨hl, h1⟩ := h
 refine ⟨hl, h1.imp id ?_⟩
 rintro ⟨g, cap, cur, hv, hb, hh, hr⟩
 exact ⟨g, cap, cur, hv, hb, (hk g hb (Array.getElem?_eq_some_iff.1 hh).1).trans hh, hr⟩
section
variable {wr wr' w5 w6 : World} {base : Nat} {K : List (List UInt8)} {AK A A2 : Option Addr} {cK c c2 : Nat} {xs : List (Vl × VH)}
theorem MnS.on (h : MnS wr base K AK cK A c xs) (hk : ∀ g, base ≤ g → g < wr.heap.size → wr'.heap[g]? = wr.heap[g]?) (hs : wr.heap.size ≤ wr'.heap.size) : MnS wr' base K AK cK A c xs := by
 have hF : ∀ g, FB2 base A AK wr g → FB2 base A AK wr' g := fun g hg => ⟨hg.1, Nat.lt_of_lt_of_le hg.2.1 hs, hg.2.2⟩
 exact ⟨own_on h.own hk, own_on h.kown hk, h.ne, fun p hp => ((h.el p hp).keep (fun g hg => hk g hg.1 hg.2.1) hs).mono hF⟩
theorem MnS.below (h : MnS wr base K AK cK A c xs) (hB : Below wr.heap.size wr wr') : MnS wr' base K AK cK A c xs := h.on (fun g _ hg => hB.block g hg) hB.size
theorem MnS.box {b : Nat} (h : MnS wr base K AK cK A c xs) (hg : wr.grownBy wr' (some b)) (hb : b < base) : MnS wr' base K AK cK A c xs :=
 h.on (fun g hg1 hg2 => hg.block g hg2 (fun e => by injection e with e; omega)) hg.size
theorem MnS.nil (wr : World) (base : Nat) : MnS wr base [] none 0 none 0 [] := ⟨Own.none_ _ _ _ _, Own.none_ _ _ _ _, fun g h => (by cases h), fun p hp => (by cases hp)⟩
/-- one more key -/
theorem MnS.pushK {k : List UInt8} (h : MnS w5 base K AK cK A c xs) (ho : Own w6 base 9 1 A2 (K.length + 1) c2 ((K ++ [k]).map txV)) (hg : w5.grownBy w6 (blk AK)) (hA : blk A2 = blk AK ∨ ∀ g, blk A2 = some g → w5.heap.size ≤ g) : MnS w6 base (K ++ [k]) A2 c2 A c xs := by
 have hAl : ∀ g, blk A = some g → g < w5.heap.size := fun g hg => (h.own.blk_lt hg).2
 refine ⟨own_stays h.own hg (fun g hg e => h.ne g hg e), by rw [List.length_append]; exact ho, fun g hg e => ?_, fun p hp => ?_⟩
 ·rcases hA with e2 | e2
  ·exact h.ne g hg (by rw [← e2, e])
  ·have := hAl g hg; have := e2 g e; omega
 ·have hk : ∀ g, FB2 base A AK w5 g → w6.heap[g]? = w5.heap[g]? := fun g hg1 => hg.block g hg1.2.1 (fun e => hg1.2.2.2 e.symm)
  have hF : ∀ g, FB2 base A AK w5 g → FB2 base A A2 w6 g := fun g hg1 => ⟨hg1.1, Nat.lt_of_lt_of_le hg1.2.1 hg.size, hg1.2.2.1, by
   rcases hA with e | e
   ·rw [e]; exact hg1.2.2.2
   ·intro e2; have := e g e2; have := hg1.2.1; omega⟩
  exact ((h.el p hp).keep hk hg.size).mono hF
/-- one more part -/
theorem MnS.push {W4 : Nat} {x : Vl} {hx : VH} (h : MnS w5 base K AK cK A c xs) (h4 : ∀ g, blk A = some g ∨ blk AK = some g → g < W4) (hbs : base ≤ W4) (hv : RV w5 (FN W4 w5) x hx)
  (ho : Own w6 base 27 5 A2 (xs.length + 1) c2 (rowC vlC (xs ++ [(x, hx)]))) (hg : w5.grownBy w6 (blk A)) (hA : blk A2 = blk A ∨ ∀ g, blk A2 = some g → w5.heap.size ≤ g) : MnS w6 base K AK cK A2 c2 (xs ++ [(x, hx)]) := by
 have hKl : ∀ g, blk AK = some g → g < w5.heap.size := fun g hg => (h.kown.blk_lt hg).2
 have hF : ∀ g, FB2 base A AK w5 g → FB2 base A2 AK w6 g := fun g hg1 => ⟨hg1.1, Nat.lt_of_lt_of_le hg1.2.1 hg.size, by
  rcases hA with e | e
  ·rw [e]; exact hg1.2.2.1
  ·intro e2; have := e g e2; have := hg1.2.1; omega, hg1.2.2.2⟩
 have hk : ∀ g, FB2 base A AK w5 g → w6.heap[g]? = w5.heap[g]? := fun g hg1 => hg.block g hg1.2.1 (fun e => hg1.2.2.1 e.symm)
 refine ⟨by rw [List.length_append]; exact ho, own_stays h.kown hg (fun g hg e => h.ne g e hg), fun g hg e => ?_, fun p hp => ?_⟩
 ·rcases hA with e2 | e2
  ·exact h.ne g (by rw [← e2, hg]) e
  ·have := hKl g e; have := e2 g hg; omega
 rcases List.mem_append.1 hp with hp | hp
 ·exact ((h.el p hp).keep hk hg.size).mono hF
 ·obtain rfl := List.mem_singleton.1 hp
  have hFN : ∀ g, FN W4 w5 g → FB2 base A AK w5 g := fun g hg1 => ⟨Nat.le_trans hbs hg1.1, hg1.2, fun e => by have := h4 g (.inl e); have := hg1.1; omega, fun e => by have := h4 g (.inr e); have := hg1.1; omega⟩
  exact (((hv.mono hFN).keep hk hg.size).mono hF)
/-- what was read stays, and lies aside from the rows -/
theorem MnS.fresh {W4 : Nat} {x : Vl} {hx : VH} (h : MnS w5 base K AK cK A c xs) (h4 : ∀ g, blk A = some g ∨ blk AK = some g → g < W4) (hbs : base ≤ W4) (hv : RV w5 (FN W4 w5) x hx)
  (hg : w5.grownBy w6 (blk A)) (hA : blk A2 = blk A ∨ ∀ g, blk A2 = some g → w5.heap.size ≤ g) : RV w6 (FB2 base A2 AK w6) x hx := by
 have hF : ∀ g, FB2 base A AK w5 g → FB2 base A2 AK w6 g := fun g hg1 => ⟨hg1.1, Nat.lt_of_lt_of_le hg1.2.1 hg.size, by
  rcases hA with e | e
  ·rw [e]; exact hg1.2.2.1
  ·intro e2; have := e g e2; have := hg1.2.1; omega, hg1.2.2.2⟩
 have hk : ∀ g, FB2 base A AK w5 g → w6.heap[g]? = w5.heap[g]? := fun g hg1 => hg.block g hg1.2.1 (fun e => hg1.2.2.1 e.symm)
 have hFN : ∀ g, FN W4 w5 g → FB2 base A AK w5 g := fun g hg1 => ⟨Nat.le_trans hbs hg1.1, hg1.2, fun e => by have := h4 g (.inl e); have := hg1.1; omega, fun e => by have := h4 g (.inr e); have := hg1.1; omega⟩
 exact (((hv.mono hFN).keep hk hg.size).mono hF)
/-- the last part written -/
theorem MnS.setlast {z : Vl × VH} {x : Vl} {hx : VH} (h : MnS w5 base K AK cK A c (xs ++ [z])) (hv : RV w5 (FB2 base A AK w5) x hx) (ho : Own w6 base 27 5 A (xs.length + 1) c (rowC vlC (xs ++ [(x, hx)]))) (hg : w5.grownBy w6 (blk A)) : MnS w6 base K AK cK A c (xs ++ [(x, hx)]) := by
 have hF : ∀ g, FB2 base A AK w5 g → FB2 base A AK w6 g := fun g hg1 => ⟨hg1.1, Nat.lt_of_lt_of_le hg1.2.1 hg.size, hg1.2.2⟩
 have hk : ∀ g, FB2 base A AK w5 g → w6.heap[g]? = w5.heap[g]? := fun g hg1 => hg.block g hg1.2.1 (fun e => hg1.2.2.1 e.symm)
 refine ⟨by rw [List.length_append]; exact ho, own_stays h.kown hg (fun g hg e => h.ne g e hg), h.ne, fun p hp => ?_⟩
 rcases List.mem_append.1 hp with hp | hp
 ·exact ((h.el p (List.mem_append_left _ hp)).keep hk hg.size).mono hF
 ·obtain rfl := List.mem_singleton.1 hp
  exact (hv.keep hk hg.size).mono hF
/-- the value that they make -/
theorem MnS.rv {B : Nat} {k : Nat} (h : MnS wr base K AK cK A c xs) (hB : B ≤ base) (hk : k < 256) (hkl : ∀ x ∈ K, x.length ≤ 140737488351232) (h1 : K.length ≤ 140737488351232) (h2 : xs.length ≤ 140737488351232) : RV wr (FN B wr) (.mk k 0 [] K (xs.map (·.1))) ⟨AK, cK, A, c⟩ := by
 have hFB : ∀ g, FB2 base A AK wr g → FN B wr g := fun g hg => ⟨Nat.le_trans hB hg.1, hg.2.1⟩
 refine ⟨xs, hk, (by show (0 : Nat) < _; decide), (by show (0 : Nat) ≤ _; omega), RdX.of_own h.kown (fun g hg => ?_), hkl, h1, (by show (xs.map (·.1)).length ≤ _; simpa using h2), ?_, rfl, fun p hp => (h.el p hp).mono hFB⟩
 ·have := h.kown.blk_lt hg
  exact ⟨by omega, this.2⟩
 ·have ho := h.own
  show RdX wr (FN B wr) 5 A (xs.map (·.1)).length c (rowC vlC xs)
  rw [List.length_map]
  refine RdX.of_own ho (fun g hg => ?_)
  have := ho.blk_lt hg
  exact ⟨by omega, this.2⟩
end
/-- nothing is other than it was, but for two blocks -/
def KP (B pb vb : Nat) (w w' : World) : Prop := Below B w w' ∧ ∀ g, g < w.heap.size → g ≠ pb → g ≠ vb → w'.heap[g]? = w.heap[g]?
section
variable {B pb vb : Nat} {a w w' : World}
theorem KP.refl (B pb vb : Nat) (w : World) : KP B pb vb w w := ⟨Below.refl _ _, fun _ _ _ _ => rfl⟩
theorem KP.size (h : KP B pb vb a w) : a.heap.size ≤ w.heap.size := h.1.size
theorem KP.trans (h : KP B pb vb a w) (k : KP B pb vb w w') : KP B pb vb a w' := ⟨h.1.trans k.1, fun g hg h1 h2 => (k.2 g (Nat.lt_of_lt_of_le hg h.size) h1 h2).trans (h.2 g hg h1 h2)⟩
theorem KP.below (h : KP B pb vb a w) (hb : B ≤ a.heap.size) (k : Below w.heap.size w w') : KP B pb vb a w' := h.trans ⟨k.mono (Nat.le_trans hb h.size), fun g hg _ _ => k.block g hg⟩
theorem KP.grown (h : KP B pb vb a w) (hb : B ≤ a.heap.size) {row : Option Nat} (hg : w.grownBy w' row) (hr : ∀ g, row = some g → B ≤ g ∧ (g = pb ∨ g = vb ∨ a.heap.size ≤ g)) : KP B pb vb a w' :=
 ⟨h.1.grown hg (Nat.le_trans hb h.size) (fun g e => (hr g e).1), fun g hlt h1 h2 => (hg.block g (Nat.lt_of_lt_of_le hlt h.size) (fun e => by rcases (hr g e.symm).2 with e | e | e <;> omega)).trans (h.2 g hlt h1 h2)⟩
theorem KP.drew (h : KP B pb vb a w) : KP B pb vb a w.drew := ⟨below_drewN h.1 1, h.2⟩
theorem KP.box {g : Nat} {t : TypeId} {cs : Array Value} (h : KP B pb vb w w') (hb : Box w g t cs) (h1 : g ≠ pb) (h2 : g ≠ vb) : Box w' g t cs := (h.2 g hb.lt h1 h2).trans hb
theorem KP.own {base e size n c : Nat} {A : Option Addr} {ys : List Value} (h : KP B pb vb w w') (ho : Own w base e size A n c ys) (h1 : pb < base) (h2 : vb < base) : Own w' base e size A n c ys := own_on ho (fun g hg1 hg2 => h.2 g hg2 (by omega) (by omega))
theorem KP.mns {base : Nat} {K : List (List UInt8)} {AK A : Option Addr} {cK c : Nat} {xs : List (Vl × VH)} (h : KP B pb vb w w') (ho : MnS w base K AK cK A c xs) (h1 : pb < base) (h2 : vb < base) : MnS w' base K AK cK A c xs := ho.on (fun g hg1 hg2 => h.2 g hg2 (by omega) (by omega)) h.size
end
end Go.PH
end
section
/- The reader's 'must': the walk of the program. -/
namespace Go.PH
open Go.RowKit Go.Proofs

/-- the panic of a reader that must stop -/
def PAN : List PanicEntry := [{ v := .iface 119 (.agg #[]), recovered := false }]
theorem must_yes {F : Nat → Prop} {w : World} {v : Value} {vb : Option Nat} {l : List UInt8} (h : Rdr F w v vb l false) {pb : Nat} {n : Int} (hp : Box w pb 123 #[v, .int .i64 n]) :
  Calls Tryd.prog 54 #[.pointer (some ⟨pb, 0, none⟩), .bool true] w fun e w' => e = .returned (.tuple #[]) ∧ w' = w := by
 have hb := rdbad_any h
 have c0 := hp.c0
 clear h hp
 go_enter Tryd.func54, Tryd.ntmps54
 go_wp2_with (with_reducible refine h_A ?_)
 refine hb.mono ?_
 rintro e w' ⟨rfl, rfl⟩
 go_wp2_with (with_reducible refine h_A ?_)
 go_end0
 exact ⟨rfl, rfl⟩
theorem must_no {F : Nat → Prop} {w : World} {v : Value} {vb : Option Nat} {l : List UInt8} {bad : Bool} (h : Rdr F w v vb l bad) {pb : Nat} {n : Int} (hp : Box w pb 123 #[v, .int .i64 n]) (is : Bool) (hno : is = false ∨ bad = true) :
  Calls Tryd.prog 54 #[.pointer (some ⟨pb, 0, none⟩), .bool is] w fun e w' => e = .panicked PAN ∧ w' = w := by
 have hb := rdbad_any h
 have c0 := hp.c0
 clear h hp
 cases is
 ·clear hno
  go_enter Tryd.func54, Tryd.ntmps54
  go_wp2_with (with_reducible refine h_A ?_)
  exact ⟨rfl, rfl, rfl⟩
 ·obtain rfl : bad = true := hno.resolve_left (by decide)
  clear hno
  go_enter Tryd.func54, Tryd.ntmps54
  go_wp2_with (with_reducible refine h_A ?_)
  refine hb.mono ?_
  rintro e w' ⟨rfl, rfl⟩
  go_wp2_with (with_reducible refine h_A ?_)
  exact ⟨rfl, rfl, rfl⟩
end Go.PH
end

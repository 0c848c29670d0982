/- Texts laid together: VlSameRef, VlSee, VlSmall, VlFine, VlCopy, VlReadMem, VlMust, VlUtf, VlPlain, VlKeyed, VlMay, VlCheck, VlUtfRef, VlKeysR, VlMayR, VlCheckR. -/
import Derived.Test.YtfbkameikhgciaaGreatDoorProg
import Derived.WalkLawsBesides
import Derived.Lib.DecodeN
import Derived.Lib.TrimU
import Derived.Lib.OthersKept
import Derived.Deep.Cut
import Derived.Maps.OwnSet
import Derived.StringKeys
import Derived.Deep.CutBlock
import Derived.Test.YtfbkameikhgciaaGreatDoorMg00
import Derived.Test.YtfbkameikhgciaaGreatDoorMg01
import Derived.Test.YtfbkameikhgciaaGreatDoorMg03
import Derived.Test.YtfbkameikhgciaaGreatDoorMg09
import Derived.Test.YtfbkameikhgciaaGreatDoorMg10
import Derived.Test.YtfbkameikhgciaaGreatDoorMg11
import Derived.Test.YtfbkameikhgciaaGreatDoorMg15
set_option linter.all false
set_option linter.unusedSimpArgs false
set_option linter.unusedVariables false
section
/- '==' of values: the walk of the document's program. -/
namespace Go.PH
open Go.RowKit Go.Proofs

set_option maxRecDepth 20000 in
set_option maxHeartbeats 1000000 in
theorem rsame_any (v : Vl) : ∀ (u : Vl) (h k : VH) (w : World), RVw w v h → RVw w u k → Calls Tryz.prog 93 #[.agg (vlV v h), .agg (vlV u k)] w (SameR w v u) := by
 refine Vl.ind (P := fun v => ∀ (u : Vl) (h k : VH) (w : World), RVw w v h → RVw w u k → Calls Tryz.prog 93 #[.agg (vlV v h), .agg (vlV u k)] w (SameR w v u)) ?_ v
 intro v ih u h k w hv hu
 obtain ⟨K1, j1, K2, j2⟩ := h
 obtain ⟨M1, i1, M2, i2⟩ := k
 unfold vlV SameR
 simp only
 obtain ⟨xb, w1, hxb, hxv, hX, hB1⟩ := alloc_stepV w #[.int .u8 (v.kind : Int), .int .u64 (v.n : Int), .string (str v.s), .slice K1 v.keys.length j1, .slice K2 v.list.length j2] 78
 obtain ⟨yb, w2, hyb, hyv, hY, hB2⟩ := alloc_stepV w1 #[.int .u8 (u.kind : Int), .int .u64 (u.n : Int), .string (str u.s), .slice M1 u.keys.length i1, .slice M2 u.list.length i2] 78
 have hyb' : xb + 1 = yb := by rw [hyb, hxv, hxb]; simp
 have hB := hB1.trans (hB2.mono hB1.size)
 have hX2 := hX.below hB2
 have hv2 := hv.up hB
 have hu2 := hu.up hB
 have c0 := hX2.c0
 have c1 := hX2.c1
 have c2 := hX2.c2
 have c3 := hX2.c3
 have c4 := hX2.c4
 have d0 := hY.c0
 have d1 := hY.c1
 have d2 := hY.c2
 have d3 := hY.c3
 have d4 := hY.c4
 have hst : ((str v.s).toList != (str u.s).toList) = !decide (v.s = u.s) := by rw [bne, strs_eq]
 have hst2 := strs_eq v.s u.s
 obtain ⟨xs, _, _, _, hvk⟩ := hv2.parts
 obtain ⟨ys, _, _, _, huk⟩ := hu2.parts
 have hbv := hv.bounds
 have hbu := hu.bounds
 have hel := fun {i : Nat} (hi : i < v.list.length) => hv2.elem hi
 have hfl := fun {i : Nat} (hi : i < u.list.length) => hu2.elem hi
 simp only at hvk huk hel hfl
 clear hyb hX hv hu
 by_cases hk : v.kind = u.kind
 ·have g1 : ((v.kind : Int) != (u.kind : Int)) = false := by simp [hk]
  by_cases hn : v.n = u.n
  ·have g2 : ((v.n : Int) != (u.n : Int)) = false := by simp [hn]
   by_cases hs : v.s = u.s
   ·have g3 : decide (v.s = u.s) = true := by simpa using hs
    rw [g3] at hst hst2
    simp only [Bool.not_true] at hst
    clear g3
    by_cases hlk : v.keys.length = u.keys.length
    ·have g4 : ((v.keys.length : Int) != (u.keys.length : Int)) = false := by simp [hlk]
     by_cases hll : v.list.length = u.list.length
     ·have g5 : ((v.list.length : Int) != (u.list.length : Int)) = false := by simp [hll]
      have HE : Hid (sameV v u = (decide (v.keys = u.keys) && sameL v.list u.list)) := Lib.hid (by rw [sameV_eq]; simp [hk, hn, hs])
      have HLK := Lib.hid hlk
      have HLL := Lib.hid hll
      have IH := Lib.hid ih
      have hbk := hbv.2.2.2.2.1
      have hbl := hbv.2.2.2.2.2
      clear hk hn hs hlk hll ih hbv hbu
      rw [HE.out]
      go_enter Tryz.func93, Tryz.ntmps93
      go_upto_region 1 with fail
      rw [← hxb, ← hxv, hyb', ← hyv]
      clear hxb hxv hyb' hyv
      go_wp2_with (with_reducible refine h_A ?_)
      clear c0 c1 c2 c3 c4 d0 d1 d2 d3 d4 g1 g2 g4 g5 hst hst2
      go_loopw [5] (fun s wr => ∃ i : Nat, i ≤ v.keys.length ∧ s = .int .i64 i ∧ Box wr xb 78 #[.int .u8 (v.kind : Int), .int .u64 (v.n : Int), .string (str v.s), .slice K1 v.keys.length j1, .slice K2 v.list.length j2] ∧ Box wr yb 78 #[.int .u8 (u.kind : Int), .int .u64 (u.n : Int), .string (str u.s), .slice M1 u.keys.length i1, .slice M2 u.list.length i2] ∧ Below w.heap.size w wr ∧ Below w2.heap.size w2 wr ∧ Hid (v.keys.take i = u.keys.take i)) (fun s _ => v.keys.length - (RowKit.intOf s).toNat)
      case atStart => exact ⟨0, by omega, rfl, hX2, hY, hB, Below.refl _ _, Lib.hid (by simp)⟩
      case round =>
       as_aux_lemma =>
       clear hX2 hY hB
       obtain ⟨i, hi, rfl, hX3, hY3, hB3, hB23, HC⟩ := hrel
       have c3 := hX3.c3
       have d3 := hY3.c3
       simp only [List.getElem_toArray, List.getElem_cons_succ, List.getElem_cons_zero] at c3 d3
       by_cases hlt : i < v.keys.length
       ·have g1 : (i : Int) < (v.keys.length : Int) := by omega
        have hil' : i < u.keys.length := by rw [← HLK.out]; exact hlt
        obtain ⟨b, off, rfl, hC⟩ := txs_cell hvk.1 hlt hlt
        obtain ⟨b', off', rfl, hC'⟩ := txs_cell huk.1 hil' hil'
        have y0 := hC wr hB23
        have z0 := hC' wr hB23
        have g1' : (i : Int) < (u.keys.length : Int) := by omega
        have HT : Hid (v.keys.take (i + 1) = v.keys.take i ++ [v.keys[i]]) := Lib.hid (List.take_succ_eq_append_getElem hlt)
        have HT' : Hid (u.keys.take (i + 1) = u.keys.take i ++ [u.keys[i]]) := Lib.hid (List.take_succ_eq_append_getElem hil')
        have HX : Hid (∀ e : v.keys = u.keys, v.keys[i] = u.keys[i]) := Lib.hid (fun e => by simp only [e])
        clear hC hC'
        generalize v.keys[i] = a at *
        generalize u.keys[i] = b2 at *
        have hab := strs_eq a b2
        have hnb : ((str a).toList != (str b2).toList) = !decide (a = b2) := by rw [bne, hab]
        by_cases hab2 : a = b2
        ·have g2 : decide (a = b2) = true := by simpa using hab2
         rw [g2] at hab hnb
         have HC2 : Hid (v.keys.take (i + 1) = u.keys.take (i + 1)) := Lib.hid (by rw [HT.out, HT'.out, HC.out, hab2])
         subst hab2
         simp only [Bool.not_true] at hnb
         clear hel hfl
         go_wp2_with (with_reducible refine h_A ?_)
         go_quiet (fail)
         go_wp2_with (with_reducible refine h_A ?_)
         exact ⟨⟨i + 1, by omega, by go_num, hX3, hY3, below_drewN hB3 _, below_drewN hB23 _, HC2⟩, by simp [RowKit.intOf]; omega⟩
        ·have g2 : decide (a = b2) = false := by simpa using hab2
         rw [g2] at hab hnb
         have HF : Hid (decide (v.keys = u.keys) = false) := Lib.hid (decide_eq_false fun e => hab2 (HX.out e))
         clear g2 hab2 hel hfl
         simp only [Bool.not_false] at hnb
         go_wp2_with (with_reducible refine h_A ?_)
         go_quiet (fail)
         go_wp2_with (with_reducible refine h_A ?_)
         go_ret
         rw [HF.out]
         exact ⟨rfl, below_drewN hB3 _⟩
       ·have g1 : ¬ (i : Int) < (v.keys.length : Int) := by omega
        have HFK : Hid (decide (v.keys = u.keys) = true) := Lib.hid (decide_eq_true (by
         have := HC.out
         rwa [List.take_of_length_le (by omega), List.take_of_length_le (by have := HLK.out; omega)] at this))
        clear hvk huk
        go_wp2_with (with_reducible refine h_A ?_)
        clear c3 d3
        go_loopw [6] (fun s wr => ∃ i : Nat, i ≤ v.list.length ∧ s = .int .i64 i ∧ Box wr xb 78 #[.int .u8 (v.kind : Int), .int .u64 (v.n : Int), .string (str v.s), .slice K1 v.keys.length j1, .slice K2 v.list.length j2] ∧ Box wr yb 78 #[.int .u8 (u.kind : Int), .int .u64 (u.n : Int), .string (str u.s), .slice M1 u.keys.length i1, .slice M2 u.list.length i2] ∧ Below w.heap.size w wr ∧ Below w2.heap.size w2 wr ∧ Hid (sameL (v.list.drop i) (u.list.drop i) = sameL v.list u.list)) (fun s _ => v.list.length - (RowKit.intOf s).toNat)
        case atStart => exact ⟨0, by omega, rfl, hX3, hY3, hB3, hB23, Lib.hid rfl⟩
        case round =>
         as_aux_lemma =>
         clear hX3 hY3 hB3 hB23
         obtain ⟨i, hi, rfl, hX3, hY3, hB3, hB23, HC⟩ := hrel
         have c4 := hX3.c4
         have d4 := hY3.c4
         simp only [List.getElem_toArray, List.getElem_cons_succ, List.getElem_cons_zero] at c4 d4
         by_cases hlt : i < v.list.length
         ·have g1 : (i : Int) < (v.list.length : Int) := by omega
          have hil' : i < u.list.length := by rw [← HLL.out]; exact hlt
          have g1' : (i : Int) < (u.list.length : Int) := by omega
          obtain ⟨b, off, hx, rfl, hvx, HX⟩ := hel hlt
          obtain ⟨b', off', hy, rfl, hvy, HY⟩ := hfl hil'
          have HD : Hid (sameL (v.list.drop i) (u.list.drop i) = (sameV v.list[i] u.list[i] && sameL (v.list.drop (i + 1)) (u.list.drop (i + 1)))) := Lib.hid (by rw [List.drop_eq_getElem_cons hlt, List.drop_eq_getElem_cons hil', sameL_cons])
          have hrec := fun (W : World) (hW : Below w2.heap.size w2 W) => IH.out _ (List.getElem_mem hlt) u.list[i] hx hy W (hvx.up hW) (hvy.up hW)
          clear hel hvx hfl hvy
          generalize v.list[i] = x at *
          generalize u.list[i] = y at *
          unfold vlV SameR at hrec
          go_upto_region 11 with fail
          clear c4 d4
          refine rg_start (fun W : World => Box W xb 78 #[.int .u8 (v.kind : Int), .int .u64 (v.n : Int), .string (str v.s), .slice K1 v.keys.length j1, .slice (some ⟨b, off, none⟩) v.list.length j2] ∧ Box W yb 78 #[.int .u8 (u.kind : Int), .int .u64 (u.n : Int), .string (str u.s), .slice M1 u.keys.length i1, .slice (some ⟨b', off', none⟩) u.list.length i2] ∧ Below w.heap.size w W ∧ Below w2.heap.size w2 W) (by kernel_rfl) ?_
          have hS : Box wr.drew xb 78 #[.int .u8 (v.kind : Int), .int .u64 (v.n : Int), .string (str v.s), .slice K1 v.keys.length j1, .slice (some ⟨b, off, none⟩) v.list.length j2] ∧ Box wr.drew yb 78 #[.int .u8 (u.kind : Int), .int .u64 (u.n : Int), .string (str u.s), .slice M1 u.keys.length i1, .slice (some ⟨b', off', none⟩) u.list.length i2] ∧ Below w.heap.size w wr.drew ∧ Below w2.heap.size w2 wr.drew := ⟨hX3, hY3, below_drewN hB3 1, below_drewN hB23 1⟩
          generalize wr.drew = wd at *
          refine rg_t 0 hS ?_
          simp only [List.getElem_toArray, List.getElem_cons_zero, Act.put, List.setIfInBounds_toArray, List.set_cons_zero, List.set_cons_succ]
          refine rg_take 1 (v := ?_) rfl (by kernel_rfl) (by kernel_rfl) (by kernel_rfl) hS rfl ?_ ?_
          rotate_left
          ·intro wS hSw; have k0 := hSw.1.cell (j := 4) rfl; go_simp; (with_reducible rfl)
          simp only [g_S, Act.put]
          refine rg_t 2 hS ?_
          simp only [g_S, Act.put]
          refine rg_t 3 hS ?_
          simp only [g_S, Act.put]
          refine rg_take 4 (v := ?_) rfl (by kernel_rfl) (by kernel_rfl) (by kernel_rfl) hS rfl ?_ ?_
          rotate_left
          ·intro wS hSw; obtain ⟨k0, k1, k2, k3, k4⟩ := HX _ hSw.2.2.2; go_simp; (with_reducible rfl)
          simp only [g_S, Act.put]
          refine rg_t 5 hS ?_
          simp only [g_S, Act.put]
          refine rg_take 6 (v := ?_) rfl (by kernel_rfl) (by kernel_rfl) (by kernel_rfl) hS rfl ?_ ?_
          rotate_left
          ·intro wS hSw; have k0 := hSw.2.1.cell (j := 4) rfl; go_simp; (with_reducible rfl)
          simp only [g_S, Act.put]
          refine rg_t 7 hS ?_
          simp only [g_S, Act.put]
          refine rg_t 8 hS ?_
          simp only [g_S, Act.put]
          refine rg_take 9 (v := ?_) rfl (by kernel_rfl) (by kernel_rfl) (by kernel_rfl) hS rfl ?_ ?_
          rotate_left
          ·intro wS hSw; obtain ⟨k0, k1, k2, k3, k4⟩ := HY _ hSw.2.2.2; go_simp; (with_reducible rfl)
          simp only [g_S, Act.put]
          refine rg_one 10 rfl (by kernel_rfl) rfl (fun K hK => ?_)
          go_simp
          refine (hrec _ hS.2.2.2).mono ?_
          rintro e w5 ⟨rfl, hB5⟩
          obtain ⟨hX4, hY4, hB4, hB24⟩ := hS
          have hS : Box w5 xb 78 #[.int .u8 (v.kind : Int), .int .u64 (v.n : Int), .string (str v.s), .slice K1 v.keys.length j1, .slice (some ⟨b, off, none⟩) v.list.length j2] ∧ Box w5 yb 78 #[.int .u8 (u.kind : Int), .int .u64 (u.n : Int), .string (str u.s), .slice M1 u.keys.length i1, .slice (some ⟨b', off', none⟩) u.list.length i2] ∧ Below w.heap.size w w5 ∧ Below w2.heap.size w2 w5 := ⟨hX4.below hB5, hY4.below hB5, hB4.trans (hB5.mono hB4.size), hB24.trans (hB5.mono hB24.size)⟩
          clear hX4 hY4 hB4 hB24 hB5 hX3 hY3 hB3 hB23 HX HY hrec
          refine hK _ _ hS ?_; clear hK K
          try simp only [g_S, Act.put]
          refine rg_t 11 hS ?_
          simp only [g_S, Act.put]
          refine rg_end (by kernel_rfl) ?_
          obtain ⟨hX4, hY4, hB4, hB24⟩ := hS
          cases hs : sameV x y
          ·have HF : Hid (sameL v.list u.list = false) := Lib.hid (by rw [← HC.out, HD.out, hs]; rfl)
           clear hs
           go_wp2_with (with_reducible refine h_A ?_)
           go_ret
           rw [HFK.out, Bool.true_and, HF.out]
           exact ⟨rfl, hB4⟩
          ·have HC2 : Hid (sameL (v.list.drop (i + 1)) (u.list.drop (i + 1)) = sameL v.list u.list) := Lib.hid (by rw [← HC.out, HD.out, hs]; rfl)
           clear hs
           go_wp2_with (with_reducible refine h_A ?_)
           exact ⟨⟨i + 1, by omega, by go_num, hX4, hY4, hB4, hB24, HC2⟩, by simp [RowKit.intOf]; omega⟩
         ·have g1 : ¬ (i : Int) < (v.list.length : Int) := by omega
          have HF : Hid (sameL v.list u.list = true) := Lib.hid (by
           rw [← HC.out, List.drop_eq_nil_of_le (by omega), List.drop_eq_nil_of_le (by have := HLL.out; omega), sameL])
          clear hel hfl
          go_wp2_with (with_reducible refine h_A ?_)
          go_ret
          rw [HFK.out, Bool.true_and, HF.out]
          exact ⟨rfl, hB3⟩
     ·have g5 : ((v.list.length : Int) != (u.list.length : Int)) = true := by simp; omega
      clear ih hvk huk hv2 hu2 hel hfl
      have HF : Hid (sameV v u = false) := Lib.hid (by rw [sameV_eq]; rw [sameL_len hll]; simp)
      clear hk hn hs hlk hll
      go_enter Tryz.func93, Tryz.ntmps93
      go_upto_region 1 with fail
      rw [← hxb, ← hxv, hyb', ← hyv]
      clear hxb hxv hyb' hyv
      go_wp2_with (with_reducible refine h_A ?_)
      go_ret
      rw [HF.out]
      exact ⟨rfl, hB⟩
    ·have g4 : ((v.keys.length : Int) != (u.keys.length : Int)) = true := by simp; omega
     clear ih hvk huk hv2 hu2 hel hfl
     have HF : Hid (sameV v u = false) := Lib.hid (by rw [sameV_eq]; have : v.keys ≠ u.keys := fun e => hlk (by rw [e]); simp [this])
     clear hk hn hs hlk
     go_enter Tryz.func93, Tryz.ntmps93
     go_upto_region 1 with fail
     rw [← hxb, ← hxv, hyb', ← hyv]
     clear hxb hxv hyb' hyv
     go_wp2_with (with_reducible refine h_A ?_)
     go_ret
     rw [HF.out]
     exact ⟨rfl, hB⟩
   ·have g3 : decide (v.s = u.s) = false := by simpa using hs
    rw [g3] at hst hst2
    simp only [Bool.not_false] at hst
    have HF : Hid (sameV v u = false) := Lib.hid (by rw [sameV_eq]; simp [hs])
    clear g3 ih hvk huk hv2 hu2 hs hk hn hel hfl
    go_enter Tryz.func93, Tryz.ntmps93
    go_upto_region 1 with fail
    rw [← hxb, ← hxv, hyb', ← hyv]
    clear hxb hxv hyb' hyv
    go_wp2_with (with_reducible refine h_A ?_)
    go_ret
    rw [HF.out]
    exact ⟨rfl, hB⟩
  ·have g2 : ((v.n : Int) != (u.n : Int)) = true := by simp; omega
   clear ih hvk huk hv2 hu2 hel hfl
   have HF : Hid (sameV v u = false) := Lib.hid (by rw [sameV_eq]; simp [hn])
   clear hk hn
   go_enter Tryz.func93, Tryz.ntmps93
   go_upto_region 1 with fail
   rw [← hxb, ← hxv, hyb', ← hyv]
   clear hxb hxv hyb' hyv
   go_wp2_with (with_reducible refine h_A ?_)
   go_ret
   rw [HF.out]
   exact ⟨rfl, hB⟩
 ·have g1 : ((v.kind : Int) != (u.kind : Int)) = true := by simp; omega
  clear ih hvk huk hv2 hu2 hel hfl
  have HF : Hid (sameV v u = false) := Lib.hid (by rw [sameV_eq]; simp [hk])
  clear hk
  go_enter Tryz.func93, Tryz.ntmps93
  go_upto_region 1 with fail
  rw [← hxb, ← hxv, hyb', ← hyv]
  clear hxb hxv hyb' hyv
  go_wp2_with (with_reducible refine h_A ?_)
  go_ret
  rw [HF.out]
  exact ⟨rfl, hB⟩
end Go.PH
end
section
/- Reading arguments that hold values, however deep. -/
namespace Go.PH
open Go.RowKit Go.Proofs Go.ChangeShapes Go.WideShapes Go.ChangeAt Go.Deep

section
variable {H : Type} {enc : TypeId × Value → H} {P : Program} {W : World}
/-- a reader at fuel below N -/
def ReaderN (N : Nat) (enc : TypeId × Value → H) (P : Program) (W : World) (t : TypeId) {α : Type} (R : α → List Value → Prop) : Prop :=
 ∀ (fuel : Nat), fuel < N → ∀ (cs : List Value) (d : DataW H) (p : List MemPlace), DataW.trod enc P W 0 (fun _ => true) true fuel t cs = some (d, p) → (∀ x ∈ d.weights P t, x ≤ reachBytes) → ∃ a, R a cs
theorem Reader.at {N : Nat} {t : TypeId} {α : Type} {R : α → List Value → Prop} (h : Reader enc P W t R) : ReaderN N enc P W t R := fun fuel _ => h fuel
theorem ReaderN.all {t : TypeId} {α : Type} {R : α → List Value → Prop} (h : ∀ N, ReaderN N enc P W t R) : Reader enc P W t R := fun fuel => h (fuel + 1) fuel (Nat.lt_succ_self _)
end
variable {H : Type} {enc : TypeId × Value → H} {W : World}
theorem rdx_of {w : World} {size n c : Nat} {A : Option Addr} {xs : List Value} (h : Rd w w.heap.size size A n c xs) : RdX w (fun g => g < w.heap.size) size A n c xs := ⟨h, fun hn g hg => by
 obtain ⟨b, off, e, hb, _⟩ := h.at_ hn
 subst e
 injection hg with hg
 rw [← hg]; exact hb⟩
end Go.PH
end
section
/- Which values can be looked at: the walks of the document's small and Small. -/
namespace Go.PH
open Go.RowKit Go.Proofs

end Go.PH
end
section
/- Values that are no greater than may be looked at. No program in sight. -/
namespace Go.PH

end Go.PH
end
section
/- A value in memory of its own: the walk of the document's Copy. -/
namespace Go.PH
open Go.RowKit Go.Proofs

/-- blocks from base on, but those of a row -/
def FB (base : Nat) (A : Option Addr) (w : World) : Nat → Prop := fun g => base ≤ g ∧ g < w.heap.size ∧ blk A ≠ some g
/-- fresh blocks -/
def FN (base : Nat) (w : World) : Nat → Prop := fun g => base ≤ g ∧ g < w.heap.size
/-- what a round has made: the parts so far, the keys -/
structure CpS (wr : World) (base : Nat) (K : List (List UInt8)) (AK : Option Addr) (cK : Nat) (A : Option Addr) (c : Nat) (xs : List (Vl × VH)) : Prop where
 own : Own wr base 78 5 A xs.length c (rowC vlC xs)
 el : ∀ p ∈ xs, RV wr (FB base A wr) p.1 p.2
 ky : RdX wr (FB base A wr) 1 AK K.length cK (K.map txV)
theorem CpS.on {wr wr' : World} {base : Nat} {K : List (List UInt8)} {AK : Option Addr} {cK : Nat} {A : Option Addr} {c : Nat} {xs : List (Vl × VH)} (h : CpS wr base K AK cK A c xs) (hk : ∀ g, base ≤ g → g < wr.heap.size → wr'.heap[g]? = wr.heap[g]?) (hs : wr.heap.size ≤ wr'.heap.size) : CpS wr' base K AK cK A c xs := by
 have hF : ∀ g, FB base A wr g → FB base A wr' g := fun g hg => ⟨hg.1, Nat.lt_of_lt_of_le hg.2.1 hs, hg.2.2⟩
 refine ⟨?_, fun p hp => ((h.el p hp).keep (fun g hg => hk g hg.1 hg.2.1) hs).mono hF, (h.ky.keep (fun g hg => hk g hg.1 hg.2.1) hs).mono hF⟩
 have ho := h.own
 unfold Own World.ownsRow at ho ⊢
 obtain ⟨hl, h1⟩ := ho
 refine ⟨hl, h1.imp id ?_⟩
 rintro ⟨g, cap, cur, hv, hb, hh, hr⟩
 exact ⟨g, cap, cur, hv, hb, (hk g hb (Array.getElem?_eq_some_iff.1 hh).1).trans hh, hr⟩
theorem CpS.below {wr wr' : World} {base : Nat} {K : List (List UInt8)} {AK : Option Addr} {cK : Nat} {A : Option Addr} {c : Nat} {xs : List (Vl × VH)} (h : CpS wr base K AK cK A c xs) (hB : Below wr.heap.size wr wr') : CpS wr' base K AK cK A c xs := h.on (fun g _ hg => hB.block g hg) hB.size
theorem CpS.box {wr wr' : World} {base b : Nat} {K : List (List UInt8)} {AK : Option Addr} {cK : Nat} {A : Option Addr} {c : Nat} {xs : List (Vl × VH)} (h : CpS wr base K AK cK A c xs) (hg : wr.grownBy wr' (some b)) (hb : b < base) : CpS wr' base K AK cK A c xs :=
 h.on (fun g hg1 hg2 => hg.block g hg2 (fun e => by injection e with e; omega)) hg.size
/-- one more part -/
theorem CpS.push {wr w5 w6 : World} {base : Nat} {K : List (List UInt8)} {AK : Option Addr} {cK : Nat} {A A2 : Option Addr} {c c2 : Nat} {xs : List (Vl × VH)} {x : Vl} {hx : VH} (h : CpS wr base K AK cK A c xs) (hbs : base ≤ wr.heap.size) (hB : Below wr.heap.size wr w5) (hv : RV w5 (FN wr.heap.size w5) x hx)
  (ho : Own w6 base 78 5 A2 (xs.length + 1) c2 (rowC vlC (xs ++ [(x, hx)]))) (hg : w5.grownBy w6 (blk A)) (hA : blk A2 = blk A ∨ ∀ g, blk A2 = some g → w5.heap.size ≤ g) : CpS w6 base K AK cK A2 c2 (xs ++ [(x, hx)]) := by
 have h5 := h.below hB
 have hAl : ∀ g, blk A = some g → g < wr.heap.size := fun g hg => (h.own.blk_lt hg).2
 have hF : ∀ g, FB base A w5 g → FB base A2 w6 g := fun g hg1 => ⟨hg1.1, Nat.lt_of_lt_of_le hg1.2.1 hg.size, by
  rcases hA with e | e
  ·rw [e]; exact hg1.2.2
  ·intro e2; have := e g e2; have := hg1.2.1; omega⟩
 have hk : ∀ g, FB base A w5 g → w6.heap[g]? = w5.heap[g]? := fun g hg1 => hg.block g hg1.2.1 (fun e => hg1.2.2 e.symm)
 refine ⟨by rw [List.length_append]; exact ho, fun p hp => ?_, (h5.ky.keep hk hg.size).mono hF⟩
 rcases List.mem_append.1 hp with hp | hp
 ·exact ((h5.el p hp).keep hk hg.size).mono hF
 ·obtain rfl := List.mem_singleton.1 hp
  have hFN : ∀ g, FN wr.heap.size w5 g → FB base A w5 g := fun g hg1 => ⟨Nat.le_trans hbs hg1.1, hg1.2, fun e => by have := hAl g e; have := hg1.1; omega⟩
  exact (((hv.mono hFN).keep hk hg.size).mono hF)
end Go.PH
end
section
/- What a reader of values makes in memory: parts and keys in rows of their own. -/
namespace Go.PH
open Go.RowKit Go.Proofs

/-- blocks from base on, but those of two rows -/
def FB2 (base : Nat) (A AK : Option Addr) (w : World) : Nat → Prop := fun g => base ≤ g ∧ g < w.heap.size ∧ blk A ≠ some g ∧ blk AK ≠ some g
structure MnS (wr : World) (base : Nat) (K : List (List UInt8)) (AK : Option Addr) (cK : Nat) (A : Option Addr) (c : Nat) (xs : List (Vl × VH)) : Prop where
 own : Own wr base 78 5 A xs.length c (rowC vlC xs)
 kown : Own wr base 9 1 AK K.length cK (K.map txV)
 ne : ∀ g, blk A = some g → blk AK ≠ some g
 el : ∀ p ∈ xs, RV wr (FB2 base A AK wr) p.1 p.2
theorem own_on {wr wr' : World} {base e size n c : Nat} {A : Option Addr} {ys : List Value} (h : Own wr base e size A n c ys) (hk : ∀ g, base ≤ g → g < wr.heap.size → wr'.heap[g]? = wr.heap[g]?) : Own wr' base e size A n c ys := by
 unfold Own World.ownsRow at h ⊢
 obtain ⟨hl, h1⟩ := h
 refine ⟨hl, h1.imp id ?_⟩
 rintro ⟨g, cap, cur, hv, hb, hh, hr⟩
 exact ⟨g, cap, cur, hv, hb, (hk g hb (Array.getElem?_eq_some_iff.1 hh).1).trans hh, hr⟩
section
variable {wr wr' w5 w6 : World} {base : Nat} {K : List (List UInt8)} {AK A A2 : Option Addr} {cK c c2 : Nat} {xs : List (Vl × VH)}
theorem MnS.on (h : MnS wr base K AK cK A c xs) (hk : ∀ g, base ≤ g → g < wr.heap.size → wr'.heap[g]? = wr.heap[g]?) (hs : wr.heap.size ≤ wr'.heap.size) : MnS wr' base K AK cK A c xs := by
 have hF : ∀ g, FB2 base A AK wr g → FB2 base A AK wr' g := fun g hg => ⟨hg.1, Nat.lt_of_lt_of_le hg.2.1 hs, hg.2.2⟩
 exact ⟨own_on h.own hk, own_on h.kown hk, h.ne, fun p hp => ((h.el p hp).keep (fun g hg => hk g hg.1 hg.2.1) hs).mono hF⟩
theorem MnS.below (h : MnS wr base K AK cK A c xs) (hB : Below wr.heap.size wr wr') : MnS wr' base K AK cK A c xs := h.on (fun g _ hg => hB.block g hg) hB.size
theorem MnS.box {b : Nat} (h : MnS wr base K AK cK A c xs) (hg : wr.grownBy wr' (some b)) (hb : b < base) : MnS wr' base K AK cK A c xs :=
 h.on (fun g hg1 hg2 => hg.block g hg2 (fun e => by injection e with e; omega)) hg.size
theorem MnS.nil (wr : World) (base : Nat) : MnS wr base [] none 0 none 0 [] := ⟨Own.none_ _ _ _ _, Own.none_ _ _ _ _, fun g h => (by cases h), fun p hp => (by cases hp)⟩
/-- one more part -/
theorem MnS.push {W4 : Nat} {x : Vl} {hx : VH} (h : MnS w5 base K AK cK A c xs) (h4 : ∀ g, blk A = some g ∨ blk AK = some g → g < W4) (hbs : base ≤ W4) (hv : RV w5 (FN W4 w5) x hx)
  (ho : Own w6 base 78 5 A2 (xs.length + 1) c2 (rowC vlC (xs ++ [(x, hx)]))) (hg : w5.grownBy w6 (blk A)) (hA : blk A2 = blk A ∨ ∀ g, blk A2 = some g → w5.heap.size ≤ g) : MnS w6 base K AK cK A2 c2 (xs ++ [(x, hx)]) := by
 have hKl : ∀ g, blk AK = some g → g < w5.heap.size := fun g hg => (h.kown.blk_lt hg).2
 have hF : ∀ g, FB2 base A AK w5 g → FB2 base A2 AK w6 g := fun g hg1 => ⟨hg1.1, Nat.lt_of_lt_of_le hg1.2.1 hg.size, by
  rcases hA with e | e
  ·rw [e]; exact hg1.2.2.1
  ·intro e2; have := e g e2; have := hg1.2.1; omega, hg1.2.2.2⟩
 have hk : ∀ g, FB2 base A AK w5 g → w6.heap[g]? = w5.heap[g]? := fun g hg1 => hg.block g hg1.2.1 (fun e => hg1.2.2.1 e.symm)
 refine ⟨by rw [List.length_append]; exact ho, own_stays h.kown hg (fun g hg e => h.ne g e hg), fun g hg e => ?_, fun p hp => ?_⟩
 ·rcases hA with e2 | e2
  ·exact h.ne g (by rw [← e2, hg]) e
  ·have := hKl g e; have := e2 g hg; omega
 rcases List.mem_append.1 hp with hp | hp
 ·exact ((h.el p hp).keep hk hg.size).mono hF
 ·obtain rfl := List.mem_singleton.1 hp
  have hFN : ∀ g, FN W4 w5 g → FB2 base A AK w5 g := fun g hg1 => ⟨Nat.le_trans hbs hg1.1, hg1.2, fun e => by have := h4 g (.inl e); have := hg1.1; omega, fun e => by have := h4 g (.inr e); have := hg1.1; omega⟩
  exact (((hv.mono hFN).keep hk hg.size).mono hF)
/-- what was read stays, and lies aside from the rows -/
theorem MnS.fresh {W4 : Nat} {x : Vl} {hx : VH} (h : MnS w5 base K AK cK A c xs) (h4 : ∀ g, blk A = some g ∨ blk AK = some g → g < W4) (hbs : base ≤ W4) (hv : RV w5 (FN W4 w5) x hx)
  (hg : w5.grownBy w6 (blk A)) (hA : blk A2 = blk A ∨ ∀ g, blk A2 = some g → w5.heap.size ≤ g) : RV w6 (FB2 base A2 AK w6) x hx := by
 have hF : ∀ g, FB2 base A AK w5 g → FB2 base A2 AK w6 g := fun g hg1 => ⟨hg1.1, Nat.lt_of_lt_of_le hg1.2.1 hg.size, by
  rcases hA with e | e
  ·rw [e]; exact hg1.2.2.1
  ·intro e2; have := e g e2; have := hg1.2.1; omega, hg1.2.2.2⟩
 have hk : ∀ g, FB2 base A AK w5 g → w6.heap[g]? = w5.heap[g]? := fun g hg1 => hg.block g hg1.2.1 (fun e => hg1.2.2.1 e.symm)
 have hFN : ∀ g, FN W4 w5 g → FB2 base A AK w5 g := fun g hg1 => ⟨Nat.le_trans hbs hg1.1, hg1.2, fun e => by have := h4 g (.inl e); have := hg1.1; omega, fun e => by have := h4 g (.inr e); have := hg1.1; omega⟩
 exact (((hv.mono hFN).keep hk hg.size).mono hF)
end
/-- nothing is other than it was, but for two blocks -/
def KP (B pb vb : Nat) (w w' : World) : Prop := Below B w w' ∧ ∀ g, g < w.heap.size → g ≠ pb → g ≠ vb → w'.heap[g]? = w.heap[g]?
section
variable {B pb vb : Nat} {a w w' : World}
theorem KP.refl (B pb vb : Nat) (w : World) : KP B pb vb w w := ⟨Below.refl _ _, fun _ _ _ _ => rfl⟩
theorem KP.size (h : KP B pb vb a w) : a.heap.size ≤ w.heap.size := h.1.size
theorem KP.trans (h : KP B pb vb a w) (k : KP B pb vb w w') : KP B pb vb a w' := ⟨h.1.trans k.1, fun g hg h1 h2 => (k.2 g (Nat.lt_of_lt_of_le hg h.size) h1 h2).trans (h.2 g hg h1 h2)⟩
theorem KP.below (h : KP B pb vb a w) (hb : B ≤ a.heap.size) (k : Below w.heap.size w w') : KP B pb vb a w' := h.trans ⟨k.mono (Nat.le_trans hb h.size), fun g hg _ _ => k.block g hg⟩
theorem KP.grown (h : KP B pb vb a w) (hb : B ≤ a.heap.size) {row : Option Nat} (hg : w.grownBy w' row) (hr : ∀ g, row = some g → B ≤ g ∧ (g = pb ∨ g = vb ∨ a.heap.size ≤ g)) : KP B pb vb a w' :=
 ⟨h.1.grown hg (Nat.le_trans hb h.size) (fun g e => (hr g e).1), fun g hlt h1 h2 => (hg.block g (Nat.lt_of_lt_of_le hlt h.size) (fun e => by rcases (hr g e.symm).2 with e | e | e <;> omega)).trans (h.2 g hlt h1 h2)⟩
theorem KP.drew (h : KP B pb vb a w) : KP B pb vb a w.drew := ⟨below_drewN h.1 1, h.2⟩
theorem KP.box {g : Nat} {t : TypeId} {cs : Array Value} (h : KP B pb vb w w') (hb : Box w g t cs) (h1 : g ≠ pb) (h2 : g ≠ vb) : Box w' g t cs := (h.2 g hb.lt h1 h2).trans hb
theorem KP.own {base e size n c : Nat} {A : Option Addr} {ys : List Value} (h : KP B pb vb w w') (ho : Own w base e size A n c ys) (h1 : pb < base) (h2 : vb < base) : Own w' base e size A n c ys := own_on ho (fun g hg1 hg2 => h.2 g hg2 (by omega) (by omega))
end
end Go.PH
end
section
/- The reader's 'must': the walk of the program. -/
namespace Go.PH
open Go.RowKit Go.Proofs

end Go.PH
end
section
/- UTF-8 as plain mathematics: the model's steps through a text and the document's test are one. -/
namespace Go.PH

/-- the document's step, by a text's length and first bytes: how many bytes the first sign has; 0: there is none -/
def u8N (n b0 b1 b2 b3 : Nat) : Nat :=
 if b0 < 128 then 1
 else if 194 ≤ b0 ∧ b0 ≤ 223 ∧ 1 < n ∧ 128 ≤ b1 ∧ b1 ≤ 191 then 2
 else if 224 ≤ b0 ∧ b0 ≤ 239 ∧ 2 < n ∧ 128 ≤ b1 ∧ b1 ≤ 191 ∧ (b0 = 224 → 160 ≤ b1) ∧ (b0 = 237 → b1 ≤ 159) ∧ 128 ≤ b2 ∧ b2 ≤ 191 then 3
 else if 240 ≤ b0 ∧ b0 ≤ 244 ∧ 3 < n ∧ 128 ≤ b1 ∧ b1 ≤ 191 ∧ (b0 = 240 → 144 ≤ b1) ∧ (b0 = 244 → b1 ≤ 143) ∧ 128 ≤ b2 ∧ b2 ≤ 191 ∧ 128 ≤ b3 ∧ b3 ≤ 191 then 4
 else 0
def byteN (l : List UInt8) (k : Nat) : Nat := ((l[k]?).getD 0).toNat
def u8step (l : List UInt8) : Nat := u8N l.length (byteN l 0) (byteN l 1) (byteN l 2) (byteN l 3)
/-- is a text UTF-8? -/
def utfF : Nat → List UInt8 → Bool
 | 0, l => l.isEmpty
 | f + 1, l => if l = [] then true else if u8step l = 0 then false else utfF f (l.drop (u8step l))
def utf8B (l : List UInt8) : Bool := utfF l.length l
end Go.PH
end
section
/- Which texts are UTF-8: the walk of the program. -/
namespace Go.PH
open Go.RowKit Go.Proofs

abbrev UTabs (w : World) : Prop := Lib.Utf8Tabs 1 2 w
theorem UTabs.on {w w' : World} (h : UTabs w) (hB : Below w.heap.size w w') : UTabs w' := by
 refine ⟨fun c hc => ?_, fun i hi => ⟨?_, ?_⟩⟩
 ·have := h.1 c hc
  exact (hB.cell (p := ⟨_, c, none⟩) (World.block_lt_of_cell? w _ this)).trans this
 ·have := (h.2 i hi).1
  exact (hB.cell (p := ⟨_, 2 * i, none⟩) (World.block_lt_of_cell? w _ this)).trans this
 ·have := (h.2 i hi).2
  exact (hB.cell (p := ⟨_, 2 * i + 1, none⟩) (World.block_lt_of_cell? w _ this)).trans this
end Go.PH
end
section
/- Which keys may be: the walk of the program. -/
namespace Go.PH
open Go.RowKit Go.Proofs

def keyOk (k : List UInt8) : Bool := decide (1 ≤ k.length) && decide (k.length ≤ 255) && utf8B k
theorem keysOk_eq (K : List (List UInt8)) : keysOk K utf8B = (K.all keyOk && decide K.Nodup) := rfl
abbrev seenMap (w : World) (mb n : Nat) (D : DataW Unit) : Prop := w.ownsMap Tryz.prog 9 (plainElem (H := Unit) Tryz.prog 3) mb n D
theorem seenMap.below {w w' : World} {mb n : Nat} {D : DataW Unit} (h : seenMap w mb n D) (hB : Below w.heap.size w w') : seenMap w' mb n D := by
 obtain ⟨es, clock, hb, F, hs, hD⟩ := h
 exact ⟨es, clock, (hB.block mb (Array.getElem?_eq_some_iff.1 hb).1).trans hb, F, hs, hD⟩
end Go.PH
end
section
/- Which values may be: the walk of the program. -/
namespace Go.PH
open Go.RowKit Go.Proofs

/-- what 'may' asks of one value: its kind, number, text's length, how many keys and values, and whether keys, text and values may be -/
def mayF (k n sl KL LL : Nat) (ko pl al : Bool) : Bool :=
 (decide (k = 168) || decide (KL = 0)) && (decide (k = 168) || decide (k = 169) || decide (LL = 0)) && (decide (k = 149) || decide (k = 160) || decide (sl = 0)) && decide (sl ≤ 4096) &&
  (if k = 8 then decide (n ≤ 1) else if k = 2 then decide (n ≤ 255) else if k = 49 ∨ k = 50 then true
   else if k = 240 ∨ k = 160 then decide (n = 0)
   else if k = 149 then pl && decide (n = 0)
   else if k = 168 then decide (KL = LL) && ko && decide (n = 0)
   else if k = 169 then decide (n = 0) else false) && al
theorem empty_len {α : Type} (l : List α) : l.isEmpty = decide (l.length = 0) := by cases l <;> simp
theorem mayV_eq (p : List UInt8 → Bool) (v : Vl) : mayV p v = mayF v.kind v.n v.s.length v.keys.length v.list.length (keysOk v.keys p) (p v.s) (v.list.all (mayV p)) := by
 cases v
 rw [mayV, mayL_all, empty_len, empty_len, empty_len]
 rfl
end Go.PH
end
section
/- Whether a value may be: the walk of the program's Check. -/
namespace Go.PH
open Go.RowKit Go.Proofs

/-- a value's error -/
def errV (v : Vl) : Int := if deepV 6 v = true then 51 else if cntV v 200 < 0 then 3 else if mayV utf8B v = true then 0 else 50
end Go.PH
end
section
/- Which texts are UTF-8: the walk of the document's program. -/
namespace Go.PH
open Go.RowKit Go.Proofs

end Go.PH
end
section
/- Which keys may be: the walk of the document's program. -/
namespace Go.PH
open Go.RowKit Go.Proofs

end Go.PH
end
section
/- Which values may be: the walk of the document's program. -/
namespace Go.PH
open Go.RowKit Go.Proofs

end Go.PH
end
section
/- Whether a value may be: the walk of the document's Check. -/
namespace Go.PH
open Go.RowKit Go.Proofs

end Go.PH
end

/- Texts laid together: VlSameRef, VlSee, VlSmall, VlFine, VlCopy, VlReadMem, VlMust, VlUtf. -/
import Derived.Test.YtidpbbleneekgaaGreatDoorProg
import Derived.WalkLawsBesides
import Derived.Lib.DecodeN
import Derived.Lib.TrimU
import Derived.Test.YtidpbbleneekgaaGreatDoorMg00
import Derived.Test.YtidpbbleneekgaaGreatDoorMg01
import Derived.Test.YtidpbbleneekgaaGreatDoorMg02
import Derived.Test.YtidpbbleneekgaaGreatDoorMg03
import Derived.Test.YtidpbbleneekgaaGreatDoorMg06
import Derived.Test.YtidpbbleneekgaaGreatDoorMg07
set_option linter.all false
set_option linter.unusedSimpArgs false
set_option linter.unusedVariables false
section
/- '==' of values: the walk of the document's program. -/
namespace Go.PH
open Go.RowKit Go.Proofs

set_option maxRecDepth 20000 in
set_option maxHeartbeats 1000000 in
theorem rsame_any (v : Vl) : ∀ (u : Vl) (h k : VH) (w : World), RVw w v h → RVw w u k → Calls Tryz.prog 58 #[.agg (vlV v h), .agg (vlV u k)] w (SameR w v u) := by
 refine Vl.ind (P := fun v => ∀ (u : Vl) (h k : VH) (w : World), RVw w v h → RVw w u k → Calls Tryz.prog 58 #[.agg (vlV v h), .agg (vlV u k)] w (SameR w v u)) ?_ v
 intro v ih u h k w hv hu
 obtain ⟨K1, j1, K2, j2⟩ := h
 obtain ⟨M1, i1, M2, i2⟩ := k
 unfold vlV SameR
 simp only
 obtain ⟨xb, w1, hxb, hxv, hX, hB1⟩ := alloc_stepV w #[.int .u8 (v.kind : Int), .int .u64 (v.n : Int), .string (str v.s), .slice K1 v.keys.length j1, .slice K2 v.list.length j2] 50
 obtain ⟨yb, w2, hyb, hyv, hY, hB2⟩ := alloc_stepV w1 #[.int .u8 (u.kind : Int), .int .u64 (u.n : Int), .string (str u.s), .slice M1 u.keys.length i1, .slice M2 u.list.length i2] 50
 have hyb' : xb + 1 = yb := by rw [hyb, hxv, hxb]; simp
 have hB := hB1.trans (hB2.mono hB1.size)
 have hX2 := hX.below hB2
 have hv2 := hv.up hB
 have hu2 := hu.up hB
 have c0 := hX2.c0
 have c1 := hX2.c1
 have c2 := hX2.c2
 have c3 := hX2.c3
 have c4 := hX2.c4
 have d0 := hY.c0
 have d1 := hY.c1
 have d2 := hY.c2
 have d3 := hY.c3
 have d4 := hY.c4
 have hst : ((str v.s).toList != (str u.s).toList) = !decide (v.s = u.s) := by rw [bne, strs_eq]
 have hst2 := strs_eq v.s u.s
 obtain ⟨xs, _, _, _, hvk⟩ := hv2.parts
 obtain ⟨ys, _, _, _, huk⟩ := hu2.parts
 have hbv := hv.bounds
 have hbu := hu.bounds
 have hel := fun {i : Nat} (hi : i < v.list.length) => hv2.elem hi
 have hfl := fun {i : Nat} (hi : i < u.list.length) => hu2.elem hi
 simp only at hvk huk hel hfl
 clear hyb hX hv hu
 by_cases hk : v.kind = u.kind
 ·have g1 : ((v.kind : Int) != (u.kind : Int)) = false := by simp [hk]
  by_cases hn : v.n = u.n
  ·have g2 : ((v.n : Int) != (u.n : Int)) = false := by simp [hn]
   by_cases hs : v.s = u.s
   ·have g3 : decide (v.s = u.s) = true := by simpa using hs
    rw [g3] at hst hst2
    simp only [Bool.not_true] at hst
    clear g3
    by_cases hlk : v.keys.length = u.keys.length
    ·have g4 : ((v.keys.length : Int) != (u.keys.length : Int)) = false := by simp [hlk]
     by_cases hll : v.list.length = u.list.length
     ·have g5 : ((v.list.length : Int) != (u.list.length : Int)) = false := by simp [hll]
      have HE : Hid (sameV v u = (decide (v.keys = u.keys) && sameL v.list u.list)) := Lib.hid (by rw [sameV_eq]; simp [hk, hn, hs])
      have HLK := Lib.hid hlk
      have HLL := Lib.hid hll
      have IH := Lib.hid ih
      have hbk := hbv.2.2.2.2.1
      have hbl := hbv.2.2.2.2.2
      clear hk hn hs hlk hll ih hbv hbu
      rw [HE.out]
      go_enter Tryz.func58, Tryz.ntmps58
      go_upto_region 1 with fail
      rw [← hxb, ← hxv, hyb', ← hyv]
      clear hxb hxv hyb' hyv
      go_wp2_with (with_reducible refine h_A ?_)
      clear c0 c1 c2 c3 c4 d0 d1 d2 d3 d4 g1 g2 g4 g5 hst hst2
      go_loopw [5] (fun s wr => ∃ i : Nat, i ≤ v.keys.length ∧ s = .int .i64 i ∧ Box wr xb 50 #[.int .u8 (v.kind : Int), .int .u64 (v.n : Int), .string (str v.s), .slice K1 v.keys.length j1, .slice K2 v.list.length j2] ∧ Box wr yb 50 #[.int .u8 (u.kind : Int), .int .u64 (u.n : Int), .string (str u.s), .slice M1 u.keys.length i1, .slice M2 u.list.length i2] ∧ Below w.heap.size w wr ∧ Below w2.heap.size w2 wr ∧ Hid (v.keys.take i = u.keys.take i)) (fun s _ => v.keys.length - (RowKit.intOf s).toNat)
      case atStart => exact ⟨0, by omega, rfl, hX2, hY, hB, Below.refl _ _, Lib.hid (by simp)⟩
      case round =>
       as_aux_lemma =>
       clear hX2 hY hB
       obtain ⟨i, hi, rfl, hX3, hY3, hB3, hB23, HC⟩ := hrel
       have c3 := hX3.c3
       have d3 := hY3.c3
       simp only [List.getElem_toArray, List.getElem_cons_succ, List.getElem_cons_zero] at c3 d3
       by_cases hlt : i < v.keys.length
       ·have g1 : (i : Int) < (v.keys.length : Int) := by omega
        have hil' : i < u.keys.length := by rw [← HLK.out]; exact hlt
        obtain ⟨b, off, rfl, hC⟩ := txs_cell hvk.1 hlt hlt
        obtain ⟨b', off', rfl, hC'⟩ := txs_cell huk.1 hil' hil'
        have y0 := hC wr hB23
        have z0 := hC' wr hB23
        have g1' : (i : Int) < (u.keys.length : Int) := by omega
        have HT : Hid (v.keys.take (i + 1) = v.keys.take i ++ [v.keys[i]]) := Lib.hid (List.take_succ_eq_append_getElem hlt)
        have HT' : Hid (u.keys.take (i + 1) = u.keys.take i ++ [u.keys[i]]) := Lib.hid (List.take_succ_eq_append_getElem hil')
        have HX : Hid (∀ e : v.keys = u.keys, v.keys[i] = u.keys[i]) := Lib.hid (fun e => by simp only [e])
        clear hC hC'
        generalize v.keys[i] = a at *
        generalize u.keys[i] = b2 at *
        have hab := strs_eq a b2
        have hnb : ((str a).toList != (str b2).toList) = !decide (a = b2) := by rw [bne, hab]
        by_cases hab2 : a = b2
        ·have g2 : decide (a = b2) = true := by simpa using hab2
         rw [g2] at hab hnb
         have HC2 : Hid (v.keys.take (i + 1) = u.keys.take (i + 1)) := Lib.hid (by rw [HT.out, HT'.out, HC.out, hab2])
         subst hab2
         simp only [Bool.not_true] at hnb
         clear hel hfl
         go_wp2_with (with_reducible refine h_A ?_)
         go_quiet (fail)
         go_wp2_with (with_reducible refine h_A ?_)
         exact ⟨⟨i + 1, by omega, by go_num, hX3, hY3, below_drewN hB3 _, below_drewN hB23 _, HC2⟩, by simp [RowKit.intOf]; omega⟩
        ·have g2 : decide (a = b2) = false := by simpa using hab2
         rw [g2] at hab hnb
         have HF : Hid (decide (v.keys = u.keys) = false) := Lib.hid (decide_eq_false fun e => hab2 (HX.out e))
         clear g2 hab2 hel hfl
         simp only [Bool.not_false] at hnb
         go_wp2_with (with_reducible refine h_A ?_)
         go_quiet (fail)
         go_wp2_with (with_reducible refine h_A ?_)
         go_ret
         rw [HF.out]
         exact ⟨rfl, below_drewN hB3 _⟩
       ·have g1 : ¬ (i : Int) < (v.keys.length : Int) := by omega
        have HFK : Hid (decide (v.keys = u.keys) = true) := Lib.hid (decide_eq_true (by
         have := HC.out
         rwa [List.take_of_length_le (by omega), List.take_of_length_le (by have := HLK.out; omega)] at this))
        clear hvk huk
        go_wp2_with (with_reducible refine h_A ?_)
        clear c3 d3
        go_loopw [6] (fun s wr => ∃ i : Nat, i ≤ v.list.length ∧ s = .int .i64 i ∧ Box wr xb 50 #[.int .u8 (v.kind : Int), .int .u64 (v.n : Int), .string (str v.s), .slice K1 v.keys.length j1, .slice K2 v.list.length j2] ∧ Box wr yb 50 #[.int .u8 (u.kind : Int), .int .u64 (u.n : Int), .string (str u.s), .slice M1 u.keys.length i1, .slice M2 u.list.length i2] ∧ Below w.heap.size w wr ∧ Below w2.heap.size w2 wr ∧ Hid (sameL (v.list.drop i) (u.list.drop i) = sameL v.list u.list)) (fun s _ => v.list.length - (RowKit.intOf s).toNat)
        case atStart => exact ⟨0, by omega, rfl, hX3, hY3, hB3, hB23, Lib.hid rfl⟩
        case round =>
         as_aux_lemma =>
         clear hX3 hY3 hB3 hB23
         obtain ⟨i, hi, rfl, hX3, hY3, hB3, hB23, HC⟩ := hrel
         have c4 := hX3.c4
         have d4 := hY3.c4
         simp only [List.getElem_toArray, List.getElem_cons_succ, List.getElem_cons_zero] at c4 d4
         by_cases hlt : i < v.list.length
         ·have g1 : (i : Int) < (v.list.length : Int) := by omega
          have hil' : i < u.list.length := by rw [← HLL.out]; exact hlt
          have g1' : (i : Int) < (u.list.length : Int) := by omega
          obtain ⟨b, off, hx, rfl, hvx, HX⟩ := hel hlt
          obtain ⟨b', off', hy, rfl, hvy, HY⟩ := hfl hil'
          have HD : Hid (sameL (v.list.drop i) (u.list.drop i) = (sameV v.list[i] u.list[i] && sameL (v.list.drop (i + 1)) (u.list.drop (i + 1)))) := Lib.hid (by rw [List.drop_eq_getElem_cons hlt, List.drop_eq_getElem_cons hil', sameL_cons])
          have hrec := fun (W : World) (hW : Below w2.heap.size w2 W) => IH.out _ (List.getElem_mem hlt) u.list[i] hx hy W (hvx.up hW) (hvy.up hW)
          clear hel hvx hfl hvy
          generalize v.list[i] = x at *
          generalize u.list[i] = y at *
          unfold vlV SameR at hrec
          go_upto_region 11 with fail
          clear c4 d4
          refine rg_start (fun W : World => Box W xb 50 #[.int .u8 (v.kind : Int), .int .u64 (v.n : Int), .string (str v.s), .slice K1 v.keys.length j1, .slice (some ⟨b, off, none⟩) v.list.length j2] ∧ Box W yb 50 #[.int .u8 (u.kind : Int), .int .u64 (u.n : Int), .string (str u.s), .slice M1 u.keys.length i1, .slice (some ⟨b', off', none⟩) u.list.length i2] ∧ Below w.heap.size w W ∧ Below w2.heap.size w2 W) (by kernel_rfl) ?_
          have hS : Box wr.drew xb 50 #[.int .u8 (v.kind : Int), .int .u64 (v.n : Int), .string (str v.s), .slice K1 v.keys.length j1, .slice (some ⟨b, off, none⟩) v.list.length j2] ∧ Box wr.drew yb 50 #[.int .u8 (u.kind : Int), .int .u64 (u.n : Int), .string (str u.s), .slice M1 u.keys.length i1, .slice (some ⟨b', off', none⟩) u.list.length i2] ∧ Below w.heap.size w wr.drew ∧ Below w2.heap.size w2 wr.drew := ⟨hX3, hY3, below_drewN hB3 1, below_drewN hB23 1⟩
          generalize wr.drew = wd at *
          refine rg_t 0 hS ?_
          simp only [List.getElem_toArray, List.getElem_cons_zero, Act.put, List.setIfInBounds_toArray, List.set_cons_zero, List.set_cons_succ]
          refine rg_take 1 (v := ?_) rfl (by kernel_rfl) (by kernel_rfl) (by kernel_rfl) hS rfl ?_ ?_
          rotate_left
          ·intro wS hSw; have k0 := hSw.1.cell (j := 4) rfl; go_simp; (with_reducible rfl)
          simp only [g_S, Act.put]
          refine rg_t 2 hS ?_
          simp only [g_S, Act.put]
          refine rg_t 3 hS ?_
          simp only [g_S, Act.put]
          refine rg_take 4 (v := ?_) rfl (by kernel_rfl) (by kernel_rfl) (by kernel_rfl) hS rfl ?_ ?_
          rotate_left
          ·intro wS hSw; obtain ⟨k0, k1, k2, k3, k4⟩ := HX _ hSw.2.2.2; go_simp; (with_reducible rfl)
          simp only [g_S, Act.put]
          refine rg_t 5 hS ?_
          simp only [g_S, Act.put]
          refine rg_take 6 (v := ?_) rfl (by kernel_rfl) (by kernel_rfl) (by kernel_rfl) hS rfl ?_ ?_
          rotate_left
          ·intro wS hSw; have k0 := hSw.2.1.cell (j := 4) rfl; go_simp; (with_reducible rfl)
          simp only [g_S, Act.put]
          refine rg_t 7 hS ?_
          simp only [g_S, Act.put]
          refine rg_t 8 hS ?_
          simp only [g_S, Act.put]
          refine rg_take 9 (v := ?_) rfl (by kernel_rfl) (by kernel_rfl) (by kernel_rfl) hS rfl ?_ ?_
          rotate_left
          ·intro wS hSw; obtain ⟨k0, k1, k2, k3, k4⟩ := HY _ hSw.2.2.2; go_simp; (with_reducible rfl)
          simp only [g_S, Act.put]
          refine rg_one 10 rfl (by kernel_rfl) rfl (fun K hK => ?_)
          go_simp
          refine (hrec _ hS.2.2.2).mono ?_
          rintro e w5 ⟨rfl, hB5⟩
          obtain ⟨hX4, hY4, hB4, hB24⟩ := hS
          have hS : Box w5 xb 50 #[.int .u8 (v.kind : Int), .int .u64 (v.n : Int), .string (str v.s), .slice K1 v.keys.length j1, .slice (some ⟨b, off, none⟩) v.list.length j2] ∧ Box w5 yb 50 #[.int .u8 (u.kind : Int), .int .u64 (u.n : Int), .string (str u.s), .slice M1 u.keys.length i1, .slice (some ⟨b', off', none⟩) u.list.length i2] ∧ Below w.heap.size w w5 ∧ Below w2.heap.size w2 w5 := ⟨hX4.below hB5, hY4.below hB5, hB4.trans (hB5.mono hB4.size), hB24.trans (hB5.mono hB24.size)⟩
          clear hX4 hY4 hB4 hB24 hB5 hX3 hY3 hB3 hB23 HX HY hrec
          refine hK _ _ hS ?_; clear hK K
          try simp only [g_S, Act.put]
          refine rg_t 11 hS ?_
          simp only [g_S, Act.put]
          refine rg_end (by kernel_rfl) ?_
          obtain ⟨hX4, hY4, hB4, hB24⟩ := hS
          cases hs : sameV x y
          ·have HF : Hid (sameL v.list u.list = false) := Lib.hid (by rw [← HC.out, HD.out, hs]; rfl)
           clear hs
           go_wp2_with (with_reducible refine h_A ?_)
           go_ret
           rw [HFK.out, Bool.true_and, HF.out]
           exact ⟨rfl, hB4⟩
          ·have HC2 : Hid (sameL (v.list.drop (i + 1)) (u.list.drop (i + 1)) = sameL v.list u.list) := Lib.hid (by rw [← HC.out, HD.out, hs]; rfl)
           clear hs
           go_wp2_with (with_reducible refine h_A ?_)
           exact ⟨⟨i + 1, by omega, by go_num, hX4, hY4, hB4, hB24, HC2⟩, by simp [RowKit.intOf]; omega⟩
         ·have g1 : ¬ (i : Int) < (v.list.length : Int) := by omega
          have HF : Hid (sameL v.list u.list = true) := Lib.hid (by
           rw [← HC.out, List.drop_eq_nil_of_le (by omega), List.drop_eq_nil_of_le (by have := HLL.out; omega), sameL])
          clear hel hfl
          go_wp2_with (with_reducible refine h_A ?_)
          go_ret
          rw [HFK.out, Bool.true_and, HF.out]
          exact ⟨rfl, hB3⟩
     ·have g5 : ((v.list.length : Int) != (u.list.length : Int)) = true := by simp; omega
      clear ih hvk huk hv2 hu2 hel hfl
      have HF : Hid (sameV v u = false) := Lib.hid (by rw [sameV_eq]; rw [sameL_len hll]; simp)
      clear hk hn hs hlk hll
      go_enter Tryz.func58, Tryz.ntmps58
      go_upto_region 1 with fail
      rw [← hxb, ← hxv, hyb', ← hyv]
      clear hxb hxv hyb' hyv
      go_wp2_with (with_reducible refine h_A ?_)
      go_ret
      rw [HF.out]
      exact ⟨rfl, hB⟩
    ·have g4 : ((v.keys.length : Int) != (u.keys.length : Int)) = true := by simp; omega
     clear ih hvk huk hv2 hu2 hel hfl
     have HF : Hid (sameV v u = false) := Lib.hid (by rw [sameV_eq]; have : v.keys ≠ u.keys := fun e => hlk (by rw [e]); simp [this])
     clear hk hn hs hlk
     go_enter Tryz.func58, Tryz.ntmps58
     go_upto_region 1 with fail
     rw [← hxb, ← hxv, hyb', ← hyv]
     clear hxb hxv hyb' hyv
     go_wp2_with (with_reducible refine h_A ?_)
     go_ret
     rw [HF.out]
     exact ⟨rfl, hB⟩
   ·have g3 : decide (v.s = u.s) = false := by simpa using hs
    rw [g3] at hst hst2
    simp only [Bool.not_false] at hst
    have HF : Hid (sameV v u = false) := Lib.hid (by rw [sameV_eq]; simp [hs])
    clear g3 ih hvk huk hv2 hu2 hs hk hn hel hfl
    go_enter Tryz.func58, Tryz.ntmps58
    go_upto_region 1 with fail
    rw [← hxb, ← hxv, hyb', ← hyv]
    clear hxb hxv hyb' hyv
    go_wp2_with (with_reducible refine h_A ?_)
    go_ret
    rw [HF.out]
    exact ⟨rfl, hB⟩
  ·have g2 : ((v.n : Int) != (u.n : Int)) = true := by simp; omega
   clear ih hvk huk hv2 hu2 hel hfl
   have HF : Hid (sameV v u = false) := Lib.hid (by rw [sameV_eq]; simp [hn])
   clear hk hn
   go_enter Tryz.func58, Tryz.ntmps58
   go_upto_region 1 with fail
   rw [← hxb, ← hxv, hyb', ← hyv]
   clear hxb hxv hyb' hyv
   go_wp2_with (with_reducible refine h_A ?_)
   go_ret
   rw [HF.out]
   exact ⟨rfl, hB⟩
 ·have g1 : ((v.kind : Int) != (u.kind : Int)) = true := by simp; omega
  clear ih hvk huk hv2 hu2 hel hfl
  have HF : Hid (sameV v u = false) := Lib.hid (by rw [sameV_eq]; simp [hk])
  clear hk
  go_enter Tryz.func58, Tryz.ntmps58
  go_upto_region 1 with fail
  rw [← hxb, ← hxv, hyb', ← hyv]
  clear hxb hxv hyb' hyv
  go_wp2_with (with_reducible refine h_A ?_)
  go_ret
  rw [HF.out]
  exact ⟨rfl, hB⟩
end Go.PH
end
section
/- Reading arguments that hold values, however deep. -/
namespace Go.PH
open Go.RowKit Go.Proofs Go.ChangeShapes Go.WideShapes Go.ChangeAt Go.Deep

section
variable {H : Type} {enc : TypeId × Value → H} {P : Program} {W : World}
/-- a reader at fuel below N -/
def ReaderN (N : Nat) (enc : TypeId × Value → H) (P : Program) (W : World) (t : TypeId) {α : Type} (R : α → List Value → Prop) : Prop :=
 ∀ (fuel : Nat), fuel < N → ∀ (cs : List Value) (d : DataW H) (p : List MemPlace), DataW.trod enc P W 0 (fun _ => true) true fuel t cs = some (d, p) → (∀ x ∈ d.weights P t, x ≤ reachBytes) → ∃ a, R a cs
theorem Reader.at {N : Nat} {t : TypeId} {α : Type} {R : α → List Value → Prop} (h : Reader enc P W t R) : ReaderN N enc P W t R := fun fuel _ => h fuel
theorem ReaderN.all {t : TypeId} {α : Type} {R : α → List Value → Prop} (h : ∀ N, ReaderN N enc P W t R) : Reader enc P W t R := fun fuel => h (fuel + 1) fuel (Nat.lt_succ_self _)
end
variable {H : Type} {enc : TypeId × Value → H} {W : World}
end Go.PH
end
section
/- Which values can be looked at: the walks of the document's small and Small. -/
namespace Go.PH
open Go.RowKit Go.Proofs

end Go.PH
end
section
/- Values that are no greater than may be looked at. No program in sight. -/
namespace Go.PH

end Go.PH
end
section
/- A value in memory of its own: the walk of the document's Copy. -/
namespace Go.PH
open Go.RowKit Go.Proofs

theorem slTx : SlT Tryz.prog 47 9 1 16 (.string ⟨#[]⟩) := SlT.mk' Tryz.underlying47 (by kernel_rfl) rfl (by omega)
theorem slVl : SlT Tryz.prog 48 50 5 80 (.agg #[.int .u8 0, .int .u64 0, .string ⟨#[]⟩, .slice none 0 0, .slice none 0 0]) := SlT.mk' Tryz.underlying48 (by kernel_rfl) rfl (by omega)
/-- blocks from base on, but those of a row -/
def FB (base : Nat) (A : Option Addr) (w : World) : Nat → Prop := fun g => base ≤ g ∧ g < w.heap.size ∧ blk A ≠ some g
/-- fresh blocks -/
def FN (base : Nat) (w : World) : Nat → Prop := fun g => base ≤ g ∧ g < w.heap.size
/-- what a round has made: the parts so far, the keys -/
structure CpS (wr : World) (base : Nat) (K : List (List UInt8)) (AK : Option Addr) (cK : Nat) (A : Option Addr) (c : Nat) (xs : List (Vl × VH)) : Prop where
 own : Own wr base 50 5 A xs.length c (rowC vlC xs)
 el : ∀ p ∈ xs, RV wr (FB base A wr) p.1 p.2
 ky : RdX wr (FB base A wr) 1 AK K.length cK (K.map txV)
theorem CpS.on {wr wr' : World} {base : Nat} {K : List (List UInt8)} {AK : Option Addr} {cK : Nat} {A : Option Addr} {c : Nat} {xs : List (Vl × VH)} (h : CpS wr base K AK cK A c xs) (hk : ∀ g, base ≤ g → g < wr.heap.size → wr'.heap[g]? = wr.heap[g]?) (hs : wr.heap.size ≤ wr'.heap.size) : CpS wr' base K AK cK A c xs := by
 have hF : ∀ g, FB base A wr g → FB base A wr' g := fun g hg => ⟨hg.1, Nat.lt_of_lt_of_le hg.2.1 hs, hg.2.2⟩
 refine ⟨?_, fun p hp => ((h.el p hp).keep (fun g hg => hk g hg.1 hg.2.1) hs).mono hF, (h.ky.keep (fun g hg => hk g hg.1 hg.2.1) hs).mono hF⟩
 have ho := h.own
 unfold Own World.ownsRow at ho ⊢
 obtain ⟨hl, h1⟩ := ho
 refine ⟨hl, h1.imp id ?_⟩
 rintro ⟨g, cap, cur, hv, hb, hh, hr⟩
 exact ⟨g, cap, cur, hv, hb, (hk g hb (Array.getElem?_eq_some_iff.1 hh).1).trans hh, hr⟩
theorem CpS.below {wr wr' : World} {base : Nat} {K : List (List UInt8)} {AK : Option Addr} {cK : Nat} {A : Option Addr} {c : Nat} {xs : List (Vl × VH)} (h : CpS wr base K AK cK A c xs) (hB : Below wr.heap.size wr wr') : CpS wr' base K AK cK A c xs := h.on (fun g _ hg => hB.block g hg) hB.size
theorem CpS.box {wr wr' : World} {base b : Nat} {K : List (List UInt8)} {AK : Option Addr} {cK : Nat} {A : Option Addr} {c : Nat} {xs : List (Vl × VH)} (h : CpS wr base K AK cK A c xs) (hg : wr.grownBy wr' (some b)) (hb : b < base) : CpS wr' base K AK cK A c xs :=
 h.on (fun g hg1 hg2 => hg.block g hg2 (fun e => by injection e with e; omega)) hg.size
/-- one more part -/
theorem CpS.push {wr w5 w6 : World} {base : Nat} {K : List (List UInt8)} {AK : Option Addr} {cK : Nat} {A A2 : Option Addr} {c c2 : Nat} {xs : List (Vl × VH)} {x : Vl} {hx : VH} (h : CpS wr base K AK cK A c xs) (hbs : base ≤ wr.heap.size) (hB : Below wr.heap.size wr w5) (hv : RV w5 (FN wr.heap.size w5) x hx)
  (ho : Own w6 base 50 5 A2 (xs.length + 1) c2 (rowC vlC (xs ++ [(x, hx)]))) (hg : w5.grownBy w6 (blk A)) (hA : blk A2 = blk A ∨ ∀ g, blk A2 = some g → w5.heap.size ≤ g) : CpS w6 base K AK cK A2 c2 (xs ++ [(x, hx)]) := by
 have h5 := h.below hB
 have hAl : ∀ g, blk A = some g → g < wr.heap.size := fun g hg => (h.own.blk_lt hg).2
 have hF : ∀ g, FB base A w5 g → FB base A2 w6 g := fun g hg1 => ⟨hg1.1, Nat.lt_of_lt_of_le hg1.2.1 hg.size, by
  rcases hA with e | e
  ·rw [e]; exact hg1.2.2
  ·intro e2; have := e g e2; have := hg1.2.1; omega⟩
 have hk : ∀ g, FB base A w5 g → w6.heap[g]? = w5.heap[g]? := fun g hg1 => hg.block g hg1.2.1 (fun e => hg1.2.2 e.symm)
 refine ⟨by rw [List.length_append]; exact ho, fun p hp => ?_, (h5.ky.keep hk hg.size).mono hF⟩
 rcases List.mem_append.1 hp with hp | hp
 ·exact ((h5.el p hp).keep hk hg.size).mono hF
 ·obtain rfl := List.mem_singleton.1 hp
  have hFN : ∀ g, FN wr.heap.size w5 g → FB base A w5 g := fun g hg1 => ⟨Nat.le_trans hbs hg1.1, hg1.2, fun e => by have := hAl g e; have := hg1.1; omega⟩
  exact (((hv.mono hFN).keep hk hg.size).mono hF)
end Go.PH
end
section
/- What a reader of values makes in memory: parts and keys in rows of their own. -/
namespace Go.PH
open Go.RowKit Go.Proofs

/-- blocks from base on, but those of two rows -/
def FB2 (base : Nat) (A AK : Option Addr) (w : World) : Nat → Prop := fun g => base ≤ g ∧ g < w.heap.size ∧ blk A ≠ some g ∧ blk AK ≠ some g
structure MnS (wr : World) (base : Nat) (K : List (List UInt8)) (AK : Option Addr) (cK : Nat) (A : Option Addr) (c : Nat) (xs : List (Vl × VH)) : Prop where
 own : Own wr base 50 5 A xs.length c (rowC vlC xs)
 kown : Own wr base 9 1 AK K.length cK (K.map txV)
 ne : ∀ g, blk A = some g → blk AK ≠ some g
 el : ∀ p ∈ xs, RV wr (FB2 base A AK wr) p.1 p.2
theorem own_on {wr wr' : World} {base e size n c : Nat} {A : Option Addr} {ys : List Value} (h : Own wr base e size A n c ys) (hk : ∀ g, base ≤ g → g < wr.heap.size → wr'.heap[g]? = wr.heap[g]?) : Own wr' base e size A n c ys := by
 unfold Own World.ownsRow at h ⊢
 obtain ⟨hl, h1⟩ := h
 refine ⟨hl, h1.imp id ?_⟩
 rintro ⟨g, cap, cur, hv, hb, hh, hr⟩
 exact ⟨g, cap, cur, hv, hb, (hk g hb (Array.getElem?_eq_some_iff.1 hh).1).trans hh, hr⟩
section
variable {wr wr' w5 w6 : World} {base : Nat} {K : List (List UInt8)} {AK A A2 : Option Addr} {cK c c2 : Nat} {xs : List (Vl × VH)}
theorem MnS.on (h : MnS wr base K AK cK A c xs) (hk : ∀ g, base ≤ g → g < wr.heap.size → wr'.heap[g]? = wr.heap[g]?) (hs : wr.heap.size ≤ wr'.heap.size) : MnS wr' base K AK cK A c xs := by
 have hF : ∀ g, FB2 base A AK wr g → FB2 base A AK wr' g := fun g hg => ⟨hg.1, Nat.lt_of_lt_of_le hg.2.1 hs, hg.2.2⟩
 exact ⟨own_on h.own hk, own_on h.kown hk, h.ne, fun p hp => ((h.el p hp).keep (fun g hg => hk g hg.1 hg.2.1) hs).mono hF⟩
theorem MnS.below (h : MnS wr base K AK cK A c xs) (hB : Below wr.heap.size wr wr') : MnS wr' base K AK cK A c xs := h.on (fun g _ hg => hB.block g hg) hB.size
theorem MnS.box {b : Nat} (h : MnS wr base K AK cK A c xs) (hg : wr.grownBy wr' (some b)) (hb : b < base) : MnS wr' base K AK cK A c xs :=
 h.on (fun g hg1 hg2 => hg.block g hg2 (fun e => by injection e with e; omega)) hg.size
theorem MnS.nil (wr : World) (base : Nat) : MnS wr base [] none 0 none 0 [] := ⟨Own.none_ _ _ _ _, Own.none_ _ _ _ _, fun g h => (by cases h), fun p hp => (by cases hp)⟩
/-- one more key -/
theorem MnS.pushK {k : List UInt8} (h : MnS w5 base K AK cK A c xs) (ho : Own w6 base 9 1 A2 (K.length + 1) c2 ((K ++ [k]).map txV)) (hg : w5.grownBy w6 (blk AK)) (hA : blk A2 = blk AK ∨ ∀ g, blk A2 = some g → w5.heap.size ≤ g) : MnS w6 base (K ++ [k]) A2 c2 A c xs := by
 have hAl : ∀ g, blk A = some g → g < w5.heap.size := fun g hg => (h.own.blk_lt hg).2
 refine ⟨own_stays h.own hg (fun g hg e => h.ne g hg e), by rw [List.length_append]; exact ho, fun g hg e => ?_, fun p hp => ?_⟩
 ·rcases hA with e2 | e2
  ·exact h.ne g hg (by rw [← e2, e])
  ·have := hAl g hg; have := e2 g e; omega
 ·have hk : ∀ g, FB2 base A AK w5 g → w6.heap[g]? = w5.heap[g]? := fun g hg1 => hg.block g hg1.2.1 (fun e => hg1.2.2.2 e.symm)
  have hF : ∀ g, FB2 base A AK w5 g → FB2 base A A2 w6 g := fun g hg1 => ⟨hg1.1, Nat.lt_of_lt_of_le hg1.2.1 hg.size, hg1.2.2.1, by
   rcases hA with e | e
   ·rw [e]; exact hg1.2.2.2
   ·intro e2; have := e g e2; have := hg1.2.1; omega⟩
  exact ((h.el p hp).keep hk hg.size).mono hF
/-- one more part -/
theorem MnS.push {W4 : Nat} {x : Vl} {hx : VH} (h : MnS w5 base K AK cK A c xs) (h4 : ∀ g, blk A = some g ∨ blk AK = some g → g < W4) (hbs : base ≤ W4) (hv : RV w5 (FN W4 w5) x hx)
  (ho : Own w6 base 50 5 A2 (xs.length + 1) c2 (rowC vlC (xs ++ [(x, hx)]))) (hg : w5.grownBy w6 (blk A)) (hA : blk A2 = blk A ∨ ∀ g, blk A2 = some g → w5.heap.size ≤ g) : MnS w6 base K AK cK A2 c2 (xs ++ [(x, hx)]) := by
 have hKl : ∀ g, blk AK = some g → g < w5.heap.size := fun g hg => (h.kown.blk_lt hg).2
 have hF : ∀ g, FB2 base A AK w5 g → FB2 base A2 AK w6 g := fun g hg1 => ⟨hg1.1, Nat.lt_of_lt_of_le hg1.2.1 hg.size, by
  rcases hA with e | e
  ·rw [e]; exact hg1.2.2.1
  ·intro e2; have := e g e2; have := hg1.2.1; omega, hg1.2.2.2⟩
 have hk : ∀ g, FB2 base A AK w5 g → w6.heap[g]? = w5.heap[g]? := fun g hg1 => hg.block g hg1.2.1 (fun e => hg1.2.2.1 e.symm)
 refine ⟨by rw [List.length_append]; exact ho, own_stays h.kown hg (fun g hg e => h.ne g e hg), fun g hg e => ?_, fun p hp => ?_⟩
 ·rcases hA with e2 | e2
  ·exact h.ne g (by rw [← e2, hg]) e
  ·have := hKl g e; have := e2 g hg; omega
 rcases List.mem_append.1 hp with hp | hp
 ·exact ((h.el p hp).keep hk hg.size).mono hF
 ·obtain rfl := List.mem_singleton.1 hp
  have hFN : ∀ g, FN W4 w5 g → FB2 base A AK w5 g := fun g hg1 => ⟨Nat.le_trans hbs hg1.1, hg1.2, fun e => by have := h4 g (.inl e); have := hg1.1; omega, fun e => by have := h4 g (.inr e); have := hg1.1; omega⟩
  exact (((hv.mono hFN).keep hk hg.size).mono hF)
/-- what was read stays, and lies aside from the rows -/
theorem MnS.fresh {W4 : Nat} {x : Vl} {hx : VH} (h : MnS w5 base K AK cK A c xs) (h4 : ∀ g, blk A = some g ∨ blk AK = some g → g < W4) (hbs : base ≤ W4) (hv : RV w5 (FN W4 w5) x hx)
  (hg : w5.grownBy w6 (blk A)) (hA : blk A2 = blk A ∨ ∀ g, blk A2 = some g → w5.heap.size ≤ g) : RV w6 (FB2 base A2 AK w6) x hx := by
 have hF : ∀ g, FB2 base A AK w5 g → FB2 base A2 AK w6 g := fun g hg1 => ⟨hg1.1, Nat.lt_of_lt_of_le hg1.2.1 hg.size, by
  rcases hA with e | e
  ·rw [e]; exact hg1.2.2.1
  ·intro e2; have := e g e2; have := hg1.2.1; omega, hg1.2.2.2⟩
 have hk : ∀ g, FB2 base A AK w5 g → w6.heap[g]? = w5.heap[g]? := fun g hg1 => hg.block g hg1.2.1 (fun e => hg1.2.2.1 e.symm)
 have hFN : ∀ g, FN W4 w5 g → FB2 base A AK w5 g := fun g hg1 => ⟨Nat.le_trans hbs hg1.1, hg1.2, fun e => by have := h4 g (.inl e); have := hg1.1; omega, fun e => by have := h4 g (.inr e); have := hg1.1; omega⟩
 exact (((hv.mono hFN).keep hk hg.size).mono hF)
/-- the last part written -/
theorem MnS.setlast {z : Vl × VH} {x : Vl} {hx : VH} (h : MnS w5 base K AK cK A c (xs ++ [z])) (hv : RV w5 (FB2 base A AK w5) x hx) (ho : Own w6 base 50 5 A (xs.length + 1) c (rowC vlC (xs ++ [(x, hx)]))) (hg : w5.grownBy w6 (blk A)) : MnS w6 base K AK cK A c (xs ++ [(x, hx)]) := by
 have hF : ∀ g, FB2 base A AK w5 g → FB2 base A AK w6 g := fun g hg1 => ⟨hg1.1, Nat.lt_of_lt_of_le hg1.2.1 hg.size, hg1.2.2⟩
 have hk : ∀ g, FB2 base A AK w5 g → w6.heap[g]? = w5.heap[g]? := fun g hg1 => hg.block g hg1.2.1 (fun e => hg1.2.2.1 e.symm)
 refine ⟨by rw [List.length_append]; exact ho, own_stays h.kown hg (fun g hg e => h.ne g e hg), h.ne, fun p hp => ?_⟩
 rcases List.mem_append.1 hp with hp | hp
 ·exact ((h.el p (List.mem_append_left _ hp)).keep hk hg.size).mono hF
 ·obtain rfl := List.mem_singleton.1 hp
  exact (hv.keep hk hg.size).mono hF
/-- the value that they make -/
theorem MnS.rv {B : Nat} {k : Nat} (h : MnS wr base K AK cK A c xs) (hB : B ≤ base) (hk : k < 256) (hkl : ∀ x ∈ K, x.length ≤ 140737488351232) (h1 : K.length ≤ 140737488351232) (h2 : xs.length ≤ 140737488351232) : RV wr (FN B wr) (.mk k 0 [] K (xs.map (·.1))) ⟨AK, cK, A, c⟩ := by
 have hFB : ∀ g, FB2 base A AK wr g → FN B wr g := fun g hg => ⟨Nat.le_trans hB hg.1, hg.2.1⟩
 refine ⟨xs, hk, (by show (0 : Nat) < _; decide), (by show (0 : Nat) ≤ _; omega), RdX.of_own h.kown (fun g hg => ?_), hkl, h1, (by show (xs.map (·.1)).length ≤ _; simpa using h2), ?_, rfl, fun p hp => (h.el p hp).mono hFB⟩
 ·have := h.kown.blk_lt hg
  exact ⟨by omega, this.2⟩
 ·have ho := h.own
  show RdX wr (FN B wr) 5 A (xs.map (·.1)).length c (rowC vlC xs)
  rw [List.length_map]
  refine RdX.of_own ho (fun g hg => ?_)
  have := ho.blk_lt hg
  exact ⟨by omega, this.2⟩
end
/-- nothing is other than it was, but for two blocks -/
def KP (B pb vb : Nat) (w w' : World) : Prop := Below B w w' ∧ ∀ g, g < w.heap.size → g ≠ pb → g ≠ vb → w'.heap[g]? = w.heap[g]?
section
variable {B pb vb : Nat} {a w w' : World}
theorem KP.refl (B pb vb : Nat) (w : World) : KP B pb vb w w := ⟨Below.refl _ _, fun _ _ _ _ => rfl⟩
theorem KP.size (h : KP B pb vb a w) : a.heap.size ≤ w.heap.size := h.1.size
theorem KP.trans (h : KP B pb vb a w) (k : KP B pb vb w w') : KP B pb vb a w' := ⟨h.1.trans k.1, fun g hg h1 h2 => (k.2 g (Nat.lt_of_lt_of_le hg h.size) h1 h2).trans (h.2 g hg h1 h2)⟩
theorem KP.below (h : KP B pb vb a w) (hb : B ≤ a.heap.size) (k : Below w.heap.size w w') : KP B pb vb a w' := h.trans ⟨k.mono (Nat.le_trans hb h.size), fun g hg _ _ => k.block g hg⟩
theorem KP.grown (h : KP B pb vb a w) (hb : B ≤ a.heap.size) {row : Option Nat} (hg : w.grownBy w' row) (hr : ∀ g, row = some g → B ≤ g ∧ (g = pb ∨ g = vb ∨ a.heap.size ≤ g)) : KP B pb vb a w' :=
 ⟨h.1.grown hg (Nat.le_trans hb h.size) (fun g e => (hr g e).1), fun g hlt h1 h2 => (hg.block g (Nat.lt_of_lt_of_le hlt h.size) (fun e => by rcases (hr g e.symm).2 with e | e | e <;> omega)).trans (h.2 g hlt h1 h2)⟩
theorem KP.drew (h : KP B pb vb a w) : KP B pb vb a w.drew := ⟨below_drewN h.1 1, h.2⟩
theorem KP.box {g : Nat} {t : TypeId} {cs : Array Value} (h : KP B pb vb w w') (hb : Box w g t cs) (h1 : g ≠ pb) (h2 : g ≠ vb) : Box w' g t cs := (h.2 g hb.lt h1 h2).trans hb
theorem KP.own {base e size n c : Nat} {A : Option Addr} {ys : List Value} (h : KP B pb vb w w') (ho : Own w base e size A n c ys) (h1 : pb < base) (h2 : vb < base) : Own w' base e size A n c ys := own_on ho (fun g hg1 hg2 => h.2 g hg2 (by omega) (by omega))
theorem KP.mns {base : Nat} {K : List (List UInt8)} {AK A : Option Addr} {cK c : Nat} {xs : List (Vl × VH)} (h : KP B pb vb w w') (ho : MnS w base K AK cK A c xs) (h1 : pb < base) (h2 : vb < base) : MnS w' base K AK cK A c xs := ho.on (fun g hg1 hg2 => h.2 g hg2 (by omega) (by omega)) h.size
end
end Go.PH
end
section
/- The reader's 'must': the walk of the program. -/
namespace Go.PH
open Go.RowKit Go.Proofs

/-- the panic of a reader that must stop -/
def PAN : List PanicEntry := [{ v := .iface 153 (.agg #[]), recovered := false }]
theorem must_yes {F : Nat → Prop} {w : World} {v : Value} {vb : Option Nat} {l : List UInt8} (h : Rdr F w v vb l false) {pb : Nat} {n : Int} (hp : Box w pb 157 #[v, .int .i64 n]) :
  Calls Tryz.prog 110 #[.pointer (some ⟨pb, 0, none⟩), .bool true] w fun e w' => e = .returned (.tuple #[]) ∧ w' = w := by
 have hb := rdbad_any h
 have c0 := hp.c0
 clear h hp
 go_enter Tryz.func110, Tryz.ntmps110
 go_wp2_with (with_reducible refine h_A ?_)
 refine hb.mono ?_
 rintro e w' ⟨rfl, rfl⟩
 go_wp2_with (with_reducible refine h_A ?_)
 go_end0
 exact ⟨rfl, rfl⟩
theorem must_no {F : Nat → Prop} {w : World} {v : Value} {vb : Option Nat} {l : List UInt8} {bad : Bool} (h : Rdr F w v vb l bad) {pb : Nat} {n : Int} (hp : Box w pb 157 #[v, .int .i64 n]) (is : Bool) (hno : is = false ∨ bad = true) :
  Calls Tryz.prog 110 #[.pointer (some ⟨pb, 0, none⟩), .bool is] w fun e w' => e = .panicked PAN ∧ w' = w := by
 have hb := rdbad_any h
 have c0 := hp.c0
 clear h hp
 cases is
 ·clear hno
  go_enter Tryz.func110, Tryz.ntmps110
  go_wp2_with (with_reducible refine h_A ?_)
  exact ⟨rfl, rfl, rfl⟩
 ·obtain rfl : bad = true := hno.resolve_left (by decide)
  clear hno
  go_enter Tryz.func110, Tryz.ntmps110
  go_wp2_with (with_reducible refine h_A ?_)
  refine hb.mono ?_
  rintro e w' ⟨rfl, rfl⟩
  go_wp2_with (with_reducible refine h_A ?_)
  exact ⟨rfl, rfl, rfl⟩
end Go.PH
end
section
/- UTF-8 as plain mathematics: the model's steps through a text and the document's test are one. -/
namespace Go.PH

/-- the document's step, by a text's length and first bytes: how many bytes the first sign has; 0: there is none -/
def u8N (n b0 b1 b2 b3 : Nat) : Nat :=
 if b0 < 128 then 1
 else if 194 ≤ b0 ∧ b0 ≤ 223 ∧ 1 < n ∧ 128 ≤ b1 ∧ b1 ≤ 191 then 2
 else if 224 ≤ b0 ∧ b0 ≤ 239 ∧ 2 < n ∧ 128 ≤ b1 ∧ b1 ≤ 191 ∧ (b0 = 224 → 160 ≤ b1) ∧ (b0 = 237 → b1 ≤ 159) ∧ 128 ≤ b2 ∧ b2 ≤ 191 then 3
 else if 240 ≤ b0 ∧ b0 ≤ 244 ∧ 3 < n ∧ 128 ≤ b1 ∧ b1 ≤ 191 ∧ (b0 = 240 → 144 ≤ b1) ∧ (b0 = 244 → b1 ≤ 143) ∧ 128 ≤ b2 ∧ b2 ≤ 191 ∧ 128 ≤ b3 ∧ b3 ≤ 191 then 4
 else 0
theorem u8N_le (n b0 b1 b2 b3 : Nat) (hn : 0 < n) : u8N n b0 b1 b2 b3 ≤ n := by
 unfold u8N
 repeat' split
 all_goals omega
def byteN (l : List UInt8) (k : Nat) : Nat := ((l[k]?).getD 0).toNat
theorem byteN_lt (l : List UInt8) (k : Nat) : byteN l k < 256 := UInt8.toNat_lt _
def u8step (l : List UInt8) : Nat := u8N l.length (byteN l 0) (byteN l 1) (byteN l 2) (byteN l 3)
set_option maxHeartbeats 2000000 in
theorem decodeN_step (n b0 b1 b2 b3 : Nat) (h0 : b0 < 256) (h1 : b1 < 256) (h2 : b2 < 256) (h3 : b3 < 256) :
  if u8N n b0 b1 b2 b3 = 0 then Lib.decodeN n b0 b1 b2 b3 = (65533, 1) else (Lib.decodeN n b0 b1 b2 b3).2 = u8N n b0 b1 b2 b3 ∧ ((Lib.decodeN n b0 b1 b2 b3).1 = 65533 → u8N n b0 b1 b2 b3 ≠ 1) := by
 unfold u8N
 by_cases c1 : b0 < 128
 ·simp only [c1, if_true]
  rw [if_neg (by omega)]
  unfold Lib.decodeN
  rw [if_pos c1]
  exact ⟨rfl, fun h => by simp only at h; omega⟩
 rw [if_neg c1]
 unfold Lib.decodeN
 rw [if_neg c1]
 by_cases c2 : 194 ≤ b0 ∧ b0 ≤ 223 ∧ 1 < n ∧ 128 ≤ b1 ∧ b1 ≤ 191
 ·rw [if_pos c2, if_neg (by omega), if_pos (by omega), if_pos (by omega)]
  exact ⟨rfl, fun _ => by omega⟩
 rw [if_neg c2]
 by_cases c3 : 224 ≤ b0 ∧ b0 ≤ 239 ∧ 2 < n ∧ 128 ≤ b1 ∧ b1 ≤ 191 ∧ (b0 = 224 → 160 ≤ b1) ∧ (b0 = 237 → b1 ≤ 159) ∧ 128 ≤ b2 ∧ b2 ≤ 191
 ·rw [if_pos c3, if_neg (by omega), if_neg (by omega), if_pos (by omega), if_pos (by omega)]
  exact ⟨rfl, fun _ => by omega⟩
 rw [if_neg c3]
 by_cases c4 : 240 ≤ b0 ∧ b0 ≤ 244 ∧ 3 < n ∧ 128 ≤ b1 ∧ b1 ≤ 191 ∧ (b0 = 240 → 144 ≤ b1) ∧ (b0 = 244 → b1 ≤ 143) ∧ 128 ≤ b2 ∧ b2 ≤ 191 ∧ 128 ≤ b3 ∧ b3 ≤ 191
 ·rw [if_pos c4, if_neg (by omega), if_neg (by omega), if_neg (by omega), if_pos (by omega), if_pos (by omega)]
  exact ⟨rfl, fun _ => by omega⟩
 rw [if_neg c4, if_pos rfl]
 by_cases d2 : b0 / 32 = 6 ∧ (1 < n ∧ b1 / 64 = 2)
 ·rw [if_pos d2, if_neg (by omega)]
 rw [if_neg d2]
 by_cases d3 : b0 / 16 = 14 ∧ (1 < n ∧ b1 / 64 = 2) ∧ (2 < n ∧ b2 / 64 = 2)
 ·rw [if_pos d3, if_neg (by omega)]
 rw [if_neg d3]
 by_cases d4 : b0 / 8 = 30 ∧ (1 < n ∧ b1 / 64 = 2) ∧ (2 < n ∧ b2 / 64 = 2) ∧ (3 < n ∧ b3 / 64 = 2)
 ·rw [if_pos d4, if_neg (by omega)]
 rw [if_neg d4]
/-- is a text UTF-8? -/
def utfF : Nat → List UInt8 → Bool
 | 0, l => l.isEmpty
 | f + 1, l => if l = [] then true else if u8step l = 0 then false else utfF f (l.drop (u8step l))
def utf8B (l : List UInt8) : Bool := utfF l.length l
theorem u8step_le {l : List UInt8} (h : l ≠ []) : u8step l ≤ l.length := u8N_le _ _ _ _ _ (List.length_pos_iff.2 h)
theorem utfF_more : ∀ (f : Nat) (l : List UInt8), l.length ≤ f → utfF f l = utf8B l := by
 intro f
 induction f using Nat.strongRecOn with
 | _ f ih =>
  intro l hl
  by_cases h0 : l = []
  ·subst h0
   cases f <;> rfl
  have hp := List.length_pos_iff.2 h0
  obtain ⟨k, hk⟩ : ∃ k, l.length = k + 1 := ⟨l.length - 1, by omega⟩
  obtain ⟨f, rfl⟩ : ∃ m, f = m + 1 := ⟨f - 1, by omega⟩
  unfold utf8B
  rw [hk, utfF, utfF, if_neg h0, if_neg h0]
  by_cases hs : u8step l = 0
  ·rw [if_pos hs, if_pos hs]
  ·rw [if_neg hs, if_neg hs]
   have hlen : (l.drop (u8step l)).length ≤ k := by rw [List.length_drop]; omega
   rw [ih f (by omega) _ (by omega)]
   by_cases hkf : k = f
   ·rw [hkf, ih f (by omega) _ (by omega)]
   ·rw [ih k (by omega) _ hlen]
theorem utf8B_none {l : List UInt8} (h0 : l ≠ []) (h : u8step l = 0) : utf8B l = false := by
 obtain ⟨k, hk⟩ : ∃ k, l.length = k + 1 := ⟨l.length - 1, by have := List.length_pos_iff.2 h0; omega⟩
 unfold utf8B
 rw [hk, utfF, if_neg h0, if_pos h]
theorem utf8B_some {l : List UInt8} (h0 : l ≠ []) (h : u8step l ≠ 0) : utf8B l = utf8B (l.drop (u8step l)) := by
 obtain ⟨k, hk⟩ : ∃ k, l.length = k + 1 := ⟨l.length - 1, by have := List.length_pos_iff.2 h0; omega⟩
 rw [← utfF_more k (l.drop (u8step l)) (by rw [List.length_drop]; omega)]
 conv => lhs; unfold utf8B
 rw [hk, utfF, if_neg h0, if_neg h]
/-! ### the model's step -/
theorem get!_str (s : List UInt8) (i : Nat) : ((str s).get! i).toNat = byteN s i := by
 unfold ByteArray.get! str byteN
 simp only [List.getElem!_toArray, List.getElem!_eq_getElem?_getD]
 rfl
theorem byteN_drop (s : List UInt8) (i k : Nat) : byteN (s.drop i) k = byteN s (i + k) := by
 unfold byteN
 rw [List.getElem?_drop]
theorem decode_drop (s : List UInt8) (i : Nat) : Utf8.decode (str s) i = Lib.decodeN (s.drop i).length (byteN (s.drop i) 0) (byteN (s.drop i) 1) (byteN (s.drop i) 2) (byteN (s.drop i) 3) := by
 rw [Lib.decode_at]
 simp only [get!_str, str_size, List.length_drop, byteN_drop, Nat.add_zero]
theorem decode_step (s : List UInt8) (i : Nat) : if u8step (s.drop i) = 0 then Utf8.decode (str s) i = (65533, 1) else (Utf8.decode (str s) i).2 = u8step (s.drop i) ∧ ((Utf8.decode (str s) i).1 = 65533 → u8step (s.drop i) ≠ 1) := by
 rw [decode_drop]
 exact decodeN_step _ _ _ _ _ (byteN_lt _ _) (byteN_lt _ _) (byteN_lt _ _) (byteN_lt _ _)
end Go.PH
end

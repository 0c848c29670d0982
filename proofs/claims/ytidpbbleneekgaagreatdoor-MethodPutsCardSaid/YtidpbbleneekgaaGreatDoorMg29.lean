/- Texts laid together: MdSameM, MdSameR, MdArgR0. -/
import Derived.Test.YtidpbbleneekgaaGreatDoorMg05
import Derived.Test.YtidpbbleneekgaaGreatDoorMg07
import Derived.Test.YtidpbbleneekgaaGreatDoorMg11
import Derived.Test.YtidpbbleneekgaaGreatDoorMg24
import Derived.Test.YtidpbbleneekgaaGreatDoorMg25
import Derived.Test.YtidpbbleneekgaaGreatDoorMg26
import Derived.Test.YtidpbbleneekgaaGreatDoorMg27
section
/- '==' of methods: the walk of the program. -/
set_option linter.all false
set_option linter.unusedSimpArgs false
set_option linter.unusedVariables false
namespace Go.PH
open Go.RowKit Go.Proofs

theorem RM.len {w : World} {F : Nat → Prop} {m : Mt} {A : Option Addr} {c : Nat} (h : RM w F m A c) : m.args.length ≤ 140737488351232 := by
  exact h.c
set_option maxRecDepth 20000 in
set_option maxHeartbeats 1000000 in
theorem eqarg_any (v u : Mt) (A : Option Addr) (c : Nat) (A' : Option Addr) (c' : Nat) (w : World) (hv : RMw w v A c) (hu : RMw w u A' c') :
    Calls Tryz.prog 27 #[.slice A v.args.length c, .slice A' u.args.length c', .func (.func 28) #[] #[]] w fun e w' => e = .returned (.bool (sameAs v.args u.args)) ∧ Below w.heap.size w w' := by
  have hel := fun {i : Nat} (hi : i < v.args.length) => hv.elem hi
  have hfl := fun {i : Nat} (hi : i < u.args.length) => hu.elem hi
  obtain ⟨N, hN⟩ : ∃ N, N = v.args.length := ⟨_, rfl⟩
  have hNm : N ≤ 140737488351232 := by rw [hN]; exact hv.len
  obtain ⟨M, hM⟩ : ∃ M, M = u.args.length := ⟨_, rfl⟩
  have hMm : M ≤ 140737488351232 := by rw [hM]; exact hu.len
  rw [← hN, ← hM]
  have HN := Lib.hid hN
  have HM := Lib.hid hM
  clear hN hM hv hu
  by_cases hnn : N = M
  · subst hnn
    have g0 : ((N : Int) != (N : Int)) = false := by simp
    go_enter Tryz.func27, Tryz.ntmps27
    go_wp2_with (first | (with_reducible refine hold_append ?_) | (with_reducible refine hold_make ?_) | (with_reducible refine hold_copy ?_))
    clear g0
    go_loopw [17] (fun s wr => ∃ i : Nat, i ≤ N ∧ s = .int .i64 i ∧ Below w.heap.size w wr ∧ Hid (sameAs (v.args.drop i) (u.args.drop i) = sameAs v.args u.args)) (fun s _ => N - (RowKit.intOf s).toNat)
    case atStart => exact ⟨0, by omega, rfl, Below.refl _ _, Lib.hid rfl⟩
    case round =>
      as_aux_lemma =>
      obtain ⟨i, hi, rfl, hB, HC⟩ := hrel
      by_cases hlt : i < N
      · have g1 : (i : Int) < (N : Int) := by omega
        have hil : i < v.args.length := by rw [← HN.out]; exact hlt
        have hil' : i < u.args.length := by rw [← HM.out]; exact hlt
        obtain ⟨b, off, hx, rfl, hvx, HX⟩ := hel hil
        obtain ⟨b', off', hy, rfl, hvy, HY⟩ := hfl hil'
        have HD : Hid (sameAs (v.args.drop i) (u.args.drop i) = (sameA v.args[i] u.args[i] && sameAs (v.args.drop (i + 1)) (u.args.drop (i + 1)))) := Lib.hid (by rw [List.drop_eq_getElem_cons hil, List.drop_eq_getElem_cons hil', sameAs_cons])
        have hrec := fun (W : World) (hW : Below w.heap.size w W) => msameA_any v.args[i] u.args[i] hx hy W (hvx.up hW) (hvy.up hW)
        clear hel hvx hfl hvy
        generalize v.args[i] = x at *
        generalize u.args[i] = y at *
        have HX1 := HX wr hB
        have k_0 := HX1 0 _ rfl
        have k_1 := HX1 1 _ rfl
        have k_2 := HX1 2 _ rfl
        have k_3 := HX1 3 _ rfl
        have k_4 := HX1 4 _ rfl
        have k_5 := HX1 5 _ rfl
        have k_6 := HX1 6 _ rfl
        have k_7 := HX1 7 _ rfl
        have k_8 := HX1 8 _ rfl
        have k_9 := HX1 9 _ rfl
        have k_10 := HX1 10 _ rfl
        have k_11 := HX1 11 _ rfl
        simp only [Nat.add_zero] at k_0
        clear HX1 HX
        obtain ⟨xb, w1, hxb, hxv, hX, hB1⟩ := alloc_stepV wr #[.bool x.is, .int .u64 (x.n : Int), .string (str x.s), .int .u32 (x.x.fmt : Int), .string (str x.x.glob), .string (str x.x.bran), .slice hx.A x.q.length hx.c, .int .u8 (x.v.kind : Int), .int .u64 (x.v.n : Int), .string (str x.v.s), .slice hx.h.A1 x.v.keys.length hx.h.c1, .slice hx.h.A2 x.v.list.length hx.h.c2] 52
        have hBx := hB.trans (hB1.mono hB.size)
        have HY1 := HY w1 hBx
        have q_0 := HY1 0 _ rfl
        have q_1 := HY1 1 _ rfl
        have q_2 := HY1 2 _ rfl
        have q_3 := HY1 3 _ rfl
        have q_4 := HY1 4 _ rfl
        have q_5 := HY1 5 _ rfl
        have q_6 := HY1 6 _ rfl
        have q_7 := HY1 7 _ rfl
        have q_8 := HY1 8 _ rfl
        have q_9 := HY1 9 _ rfl
        have q_10 := HY1 10 _ rfl
        have q_11 := HY1 11 _ rfl
        simp only [Nat.add_zero] at q_0
        clear HY1 HY
        obtain ⟨yb, w2, hyb, hyv, hY, hB2⟩ := alloc_stepV w1 #[.bool y.is, .int .u64 (y.n : Int), .string (str y.s), .int .u32 (y.x.fmt : Int), .string (str y.x.glob), .string (str y.x.bran), .slice hy.A y.q.length hy.c, .int .u8 (y.v.kind : Int), .int .u64 (y.v.n : Int), .string (str y.v.s), .slice hy.h.A1 y.v.keys.length hy.h.c1, .slice hy.h.A2 y.v.list.length hy.h.c2] 52
        have hBy := hBx.trans (hB2.mono hBx.size)
        have h1 := hrec w2 hBy
        have hX2 := hX.below hB2
        clear hrec hX
        unfold agV at h1
        have c_0 := hX2.cell (j := 0) rfl
        have c_1 := hX2.cell (j := 1) rfl
        have c_2 := hX2.cell (j := 2) rfl
        have c_3 := hX2.cell (j := 3) rfl
        have c_4 := hX2.cell (j := 4) rfl
        have c_5 := hX2.cell (j := 5) rfl
        have c_6 := hX2.cell (j := 6) rfl
        have c_7 := hX2.cell (j := 7) rfl
        have c_8 := hX2.cell (j := 8) rfl
        have c_9 := hX2.cell (j := 9) rfl
        have c_10 := hX2.cell (j := 10) rfl
        have c_11 := hX2.cell (j := 11) rfl
        have d_0 := hY.cell (j := 0) rfl
        have d_1 := hY.cell (j := 1) rfl
        have d_2 := hY.cell (j := 2) rfl
        have d_3 := hY.cell (j := 3) rfl
        have d_4 := hY.cell (j := 4) rfl
        have d_5 := hY.cell (j := 5) rfl
        have d_6 := hY.cell (j := 6) rfl
        have d_7 := hY.cell (j := 7) rfl
        have d_8 := hY.cell (j := 8) rfl
        have d_9 := hY.cell (j := 9) rfl
        have d_10 := hY.cell (j := 10) rfl
        have d_11 := hY.cell (j := 11) rfl
        go_upto_region 6 with fail
        rw [← hxb, ← hxv]
        clear hxb hxv
        clear k_0 k_1 k_2 k_3 k_4 k_5 k_6 k_7 k_8 k_9 k_10 k_11
        go_upto_region 7 with fail
        rw [← hyb, ← hyv]
        clear hyb hyv
        clear q_0 q_1 q_2 q_3 q_4 q_5 q_6 q_7 q_8 q_9 q_10 q_11
        cases hs : sameA x y
        · have HF : Hid (sameAs v.args u.args = false) := Lib.hid (by rw [← HC.out, HD.out, hs]; rfl)
          rw [hs] at h1
          clear hs
          go_wp2_with (first | (with_reducible refine hold_append ?_) | (with_reducible refine hold_make ?_) | (with_reducible refine hold_copy ?_))
          refine h1.mono ?_
          rintro e w3 ⟨rfl, hB3⟩
          clear h1
          clear c_0 c_1 c_2 c_3 c_4 c_5 c_6 c_7 c_8 c_9 c_10 c_11
          clear d_0 d_1 d_2 d_3 d_4 d_5 d_6 d_7 d_8 d_9 d_10 d_11
          go_wp2_with (first | (with_reducible refine hold_append ?_) | (with_reducible refine hold_make ?_) | (with_reducible refine hold_copy ?_))
          go_ret
          rw [HF.out]
          exact ⟨rfl, hBy.trans (hB3.mono hBy.size)⟩
        · have HC2 : Hid (sameAs (v.args.drop (i + 1)) (u.args.drop (i + 1)) = sameAs v.args u.args) := Lib.hid (by rw [← HC.out, HD.out, hs]; rfl)
          rw [hs] at h1
          clear hs
          go_wp2_with (first | (with_reducible refine hold_append ?_) | (with_reducible refine hold_make ?_) | (with_reducible refine hold_copy ?_))
          refine h1.mono ?_
          rintro e w3 ⟨rfl, hB3⟩
          clear h1
          clear c_0 c_1 c_2 c_3 c_4 c_5 c_6 c_7 c_8 c_9 c_10 c_11
          clear d_0 d_1 d_2 d_3 d_4 d_5 d_6 d_7 d_8 d_9 d_10 d_11
          go_wp2_with (first | (with_reducible refine hold_append ?_) | (with_reducible refine hold_make ?_) | (with_reducible refine hold_copy ?_))
          exact ⟨⟨i + 1, by omega, by go_num, hBy.trans (hB3.mono hBy.size), HC2⟩, by simp [RowKit.intOf]; omega⟩
      · have g1 : ¬ (i : Int) < (N : Int) := by omega
        have HF : Hid (sameAs v.args u.args = true) := Lib.hid (by
          rw [← HC.out, List.drop_eq_nil_of_le (by rw [← HN.out]; omega), List.drop_eq_nil_of_le (by rw [← HM.out]; omega), sameAs])
        clear hel hfl
        go_wp2_with (first | (with_reducible refine hold_append ?_) | (with_reducible refine hold_make ?_) | (with_reducible refine hold_copy ?_))
        go_ret
        rw [HF.out]
        exact ⟨rfl, hB⟩
  · have g0 : ((N : Int) != (M : Int)) = true := by simp; omega
    have HF : Hid (sameAs v.args u.args = false) := Lib.hid (sameAs_len (by rw [← HN.out, ← HM.out]; exact hnn))
    clear hnn hel hfl
    go_enter Tryz.func27, Tryz.ntmps27
    go_wp2_with (first | (with_reducible refine hold_append ?_) | (with_reducible refine hold_make ?_) | (with_reducible refine hold_copy ?_))
    go_ret
    rw [HF.out]
    exact ⟨rfl, Below.refl _ _⟩
set_option maxRecDepth 20000 in
theorem msameM_any (v u : Mt) (A : Option Addr) (c : Nat) (A' : Option Addr) (c' : Nat) (w : World) (hv : RMw w v A c) (hu : RMw w u A' c') :
    Calls Tryz.prog 11 #[.agg (mtV v A c), .agg (mtV u A' c')] w fun e w' => e = .returned (.bool (sameM v u)) ∧ Below w.heap.size w w' := by
  unfold mtV
  obtain ⟨xb, w1, hxb, hxv, hX, hB1⟩ := alloc_stepV w #[.int .u8 (v.cls : Int), .int .u8 (v.code : Int), .bool v.sync, .slice A v.args.length c] 26
  obtain ⟨yb, w2, hyb, hyv, hY, hB2⟩ := alloc_stepV w1 #[.int .u8 (u.cls : Int), .int .u8 (u.code : Int), .bool u.sync, .slice A' u.args.length c'] 26
  have hyb' : xb + 1 = yb := by rw [hyb, hxv, hxb]; simp
  have hB := hB1.trans (hB2.mono hB1.size)
  have hX2 := hX.below hB2
  have h1 := eqarg_any v u A c A' c' w2 (hv.up hB) (hu.up hB)
  have c0 := hX2.cell (j := 0) rfl
  have c1 := hX2.cell (j := 1) rfl
  have c2 := hX2.cell (j := 2) rfl
  have c3 := hX2.cell (j := 3) rfl
  have d0 := hY.cell (j := 0) rfl
  have d1 := hY.cell (j := 1) rfl
  have d2 := hY.cell (j := 2) rfl
  have d3 := hY.cell (j := 3) rfl
  have HS : Hid (sameM v u = (decide (v.cls = u.cls) && decide (v.code = u.code) && decide (v.sync = u.sync) && sameAs v.args u.args)) := Lib.hid rfl
  generalize sameAs v.args u.args = r at *
  clear hyb
  by_cases e1 : v.cls = u.cls
  · have g1 : ((v.cls : Int) == (u.cls : Int)) = true := by simp [e1]
    by_cases e2 : v.code = u.code
    · have g2 : ((v.code : Int) == (u.code : Int)) = true := by simp [e2]
      by_cases e3 : v.sync = u.sync
      · have g3 : (v.sync == u.sync) = true := by simp [e3]
        have HF : Hid (sameM v u = r) := Lib.hid (by rw [HS.out]; simp [e1, e2, e3])
        clear e1 e2 e3
        go_enter Tryz.func11, Tryz.ntmps11
        go_upto_region 1 with fail
        rw [← hxb, ← hxv, hyb', ← hyv]
        clear hxb hxv hyb' hyv
        go_wp2_with (first | (with_reducible refine hold_append ?_) | (with_reducible refine hold_make ?_) | (with_reducible refine hold_copy ?_))
        refine h1.mono ?_
        rintro e w3 ⟨rfl, hB3⟩
        clear c0 c1 c2 c3 d0 d1 d2 d3
        go_wp2_with (first | (with_reducible refine hold_append ?_) | (with_reducible refine hold_make ?_) | (with_reducible refine hold_copy ?_))
        go_ret
        rw [HF.out]
        exact ⟨rfl, hB.trans (hB3.mono hB.size)⟩
      · have g3 : (v.sync == u.sync) = false := by simpa using e3
        have HF : Hid (sameM v u = false) := Lib.hid (by rw [HS.out]; simp [e3])
        clear e1 e2 e3 h1
        go_enter Tryz.func11, Tryz.ntmps11
        go_upto_region 1 with fail
        rw [← hxb, ← hxv, hyb', ← hyv]
        clear hxb hxv hyb' hyv
        go_wp2_with (first | (with_reducible refine hold_append ?_) | (with_reducible refine hold_make ?_) | (with_reducible refine hold_copy ?_))
        go_ret
        rw [HF.out]
        exact ⟨rfl, hB⟩
    · have g2 : ((v.code : Int) == (u.code : Int)) = false := by simp; omega
      have HF : Hid (sameM v u = false) := Lib.hid (by rw [HS.out]; simp [e2])
      clear e1 e2 h1
      go_enter Tryz.func11, Tryz.ntmps11
      go_upto_region 1 with fail
      rw [← hxb, ← hxv, hyb', ← hyv]
      clear hxb hxv hyb' hyv
      go_wp2_with (first | (with_reducible refine hold_append ?_) | (with_reducible refine hold_make ?_) | (with_reducible refine hold_copy ?_))
      go_ret
      rw [HF.out]
      exact ⟨rfl, hB⟩
  · have g1 : ((v.cls : Int) == (u.cls : Int)) = false := by simp; omega
    have HF : Hid (sameM v u = false) := Lib.hid (by rw [HS.out]; simp [e1])
    clear e1 h1
    go_enter Tryz.func11, Tryz.ntmps11
    go_upto_region 1 with fail
    rw [← hxb, ← hxv, hyb', ← hyv]
    clear hxb hxv hyb' hyv
    go_wp2_with (first | (with_reducible refine hold_append ?_) | (with_reducible refine hold_make ?_) | (with_reducible refine hold_copy ?_))
    go_ret
    rw [HF.out]
    exact ⟨rfl, hB⟩
end Go.PH
end
section
/- '==' of arguments and of methods: the walks of the document's program. -/
set_option linter.all false
set_option linter.unusedSimpArgs false
set_option linter.unusedVariables false
namespace Go.PH
open Go.RowKit Go.Proofs

set_option maxRecDepth 20000 in
set_option maxHeartbeats 1000000 in
theorem rsameA_any (a b : Ag) (h k : AH) (w : World) (ha : RAw w a h) (hb : RAw w b k) : Calls Tryz.prog 25 #[.agg (agV a h), .agg (agV b k)] w fun e w' => e = .returned (.bool (sameA a b)) ∧ Below w.heap.size w w' := by
  unfold agV
  obtain ⟨xb, w1, hxb, hxv, hX, hB1⟩ := alloc_stepV w #[.bool a.is, .int .u64 (a.n : Int), .string (str a.s), .int .u32 (a.x.fmt : Int), .string (str a.x.glob), .string (str a.x.bran), .slice h.A a.q.length h.c, .int .u8 (a.v.kind : Int), .int .u64 (a.v.n : Int), .string (str a.v.s), .slice h.h.A1 a.v.keys.length h.h.c1, .slice h.h.A2 a.v.list.length h.h.c2] 52
  obtain ⟨yb, w2, hyb, hyv, hY, hB2⟩ := alloc_stepV w1 #[.bool b.is, .int .u64 (b.n : Int), .string (str b.s), .int .u32 (b.x.fmt : Int), .string (str b.x.glob), .string (str b.x.bran), .slice k.A b.q.length k.c, .int .u8 (b.v.kind : Int), .int .u64 (b.v.n : Int), .string (str b.v.s), .slice k.h.A1 b.v.keys.length k.h.c1, .slice k.h.A2 b.v.list.length k.h.c2] 52
  have hyb' : xb + 1 = yb := by rw [hyb, hxv, hxb]; simp
  have hB := hB1.trans (hB2.mono hB1.size)
  have hX2 := hX.below hB2
  have ha2 := ha.up hB
  have hb2 := hb.up hB
  have c_0 := hX2.cell (j := 0) rfl
  have c_1 := hX2.cell (j := 1) rfl
  have c_2 := hX2.cell (j := 2) rfl
  have c_3 := hX2.cell (j := 3) rfl
  have c_4 := hX2.cell (j := 4) rfl
  have c_5 := hX2.cell (j := 5) rfl
  have c_6 := hX2.cell (j := 6) rfl
  have c_7 := hX2.cell (j := 7) rfl
  have c_8 := hX2.cell (j := 8) rfl
  have c_9 := hX2.cell (j := 9) rfl
  have c_10 := hX2.cell (j := 10) rfl
  have c_11 := hX2.cell (j := 11) rfl
  have d_0 := hY.cell (j := 0) rfl
  have d_1 := hY.cell (j := 1) rfl
  have d_2 := hY.cell (j := 2) rfl
  have d_3 := hY.cell (j := 3) rfl
  have d_4 := hY.cell (j := 4) rfl
  have d_5 := hY.cell (j := 5) rfl
  have d_6 := hY.cell (j := 6) rfl
  have d_7 := hY.cell (j := 7) rfl
  have d_8 := hY.cell (j := 8) rfl
  have d_9 := hY.cell (j := 9) rfl
  have d_10 := hY.cell (j := 10) rfl
  have d_11 := hY.cell (j := 11) rfl
  have hst := strs_eq a.s b.s
  have hst2 : ((str a.s).toList != (str b.s).toList) = !decide (a.s = b.s) := by rw [bne, strs_eq]
  have heqx := fun w => xid_eqlM a.x b.x w
  unfold xdV at heqx
  have hgd := fun x y => run_eqGuard_agg (P := Tryz.prog) w2 .eql 44 x y #[.int .u32 (a.x.fmt : Int), .string (str a.x.glob), .string (str a.x.bran)] #[.int .u32 (b.x.fmt : Int), .string (str b.x.glob), .string (str b.x.bran)] xid_guard
  have hsq := ssame_any h.A a.q.length h.c a.q k.A b.q.length k.c b.q w2.heap.size w2 ha2.q.1 hb2.q.1 (Nat.le_refl _) (by have := ha2.c; omega) (by have := hb2.c; omega)
  have hsv := fun (W : World) (hW : Below w2.heap.size w2 W) => rsame_any a.v b.v h.h k.h W (ha2.v.up hW) (hb2.v.up hW)
  have HS : Hid (sameA a b = (decide (a.is = b.is) && decide (a.n = b.n) && decide (a.s = b.s) && decide (a.x = b.x) && decide (a.q = b.q) && sameV a.v b.v)) := Lib.hid rfl
  unfold vlV SameR at hsv
  clear hyb hX ha hb ha2 hb2 hB1 hB2
  by_cases h1 : a.is = b.is
  · have g1 : (a.is == b.is) = true := by simp [h1]
    by_cases h2 : a.n = b.n
    · have g2 : ((a.n : Int) == (b.n : Int)) = true := by simp [h2]
      by_cases h3 : a.s = b.s
      · rw [decide_eq_true h3] at hst hst2
        simp only [Bool.not_true] at hst2
        by_cases h4 : a.x = b.x
        · simp only [decide_eq_true h4] at heqx
          by_cases h5 : a.q = b.q
          · simp only [decide_eq_true h5] at hsq
            have HF : Hid (sameA a b = sameV a.v b.v) := Lib.hid (by rw [HS.out]; simp [h1, h2, h3, h4, h5])
            clear h1 h2 h3 h4 h5 HS
            go_enter Tryz.func25, Tryz.ntmps25
            go_upto_region 1 with fail
            rw [← hxb, ← hxv, hyb', ← hyv]
            clear hxb hxv hyb' hyv
            go_wp2_with (first | (with_reducible refine hold_append ?_) | (with_reducible refine hold_make ?_) | (with_reducible refine hold_copy ?_))
            refine hsq.mono ?_
            rintro e w3 ⟨rfl, hB3⟩
            have hsv3 := hsv w3 hB3
            have hX3 := hX2.below hB3
            have hY3 := hY.below hB3
            have hBB := hB.trans (hB3.mono hB.size)
            clear c_0 c_1 c_2 c_3 c_4 c_5 c_6 c_7 c_8 c_9 c_10 c_11
            clear d_0 d_1 d_2 d_3 d_4 d_5 d_6 d_7 d_8 d_9 d_10 d_11
            clear hsq hsv
            have c_0 := hX3.cell (j := 0) rfl
            have c_1 := hX3.cell (j := 1) rfl
            have c_2 := hX3.cell (j := 2) rfl
            have c_3 := hX3.cell (j := 3) rfl
            have c_4 := hX3.cell (j := 4) rfl
            have c_5 := hX3.cell (j := 5) rfl
            have c_6 := hX3.cell (j := 6) rfl
            have c_7 := hX3.cell (j := 7) rfl
            have c_8 := hX3.cell (j := 8) rfl
            have c_9 := hX3.cell (j := 9) rfl
            have c_10 := hX3.cell (j := 10) rfl
            have c_11 := hX3.cell (j := 11) rfl
            have d_0 := hY3.cell (j := 0) rfl
            have d_1 := hY3.cell (j := 1) rfl
            have d_2 := hY3.cell (j := 2) rfl
            have d_3 := hY3.cell (j := 3) rfl
            have d_4 := hY3.cell (j := 4) rfl
            have d_5 := hY3.cell (j := 5) rfl
            have d_6 := hY3.cell (j := 6) rfl
            have d_7 := hY3.cell (j := 7) rfl
            have d_8 := hY3.cell (j := 8) rfl
            have d_9 := hY3.cell (j := 9) rfl
            have d_10 := hY3.cell (j := 10) rfl
            have d_11 := hY3.cell (j := 11) rfl
            generalize sameV a.v b.v = r at *
            go_wp2_with (first | (with_reducible refine hold_append ?_) | (with_reducible refine hold_make ?_) | (with_reducible refine hold_copy ?_))
            refine hsv3.mono ?_
            rintro e w4 ⟨rfl, hB4⟩
            clear c_0 c_1 c_2 c_3 c_4 c_5 c_6 c_7 c_8 c_9 c_10 c_11
            clear d_0 d_1 d_2 d_3 d_4 d_5 d_6 d_7 d_8 d_9 d_10 d_11
            clear hsv3
            go_wp2_with (first | (with_reducible refine hold_append ?_) | (with_reducible refine hold_make ?_) | (with_reducible refine hold_copy ?_))
            go_ret
            rw [HF.out]
            exact ⟨rfl, hBB.trans (hB4.mono hBB.size)⟩
          · simp only [decide_eq_false h5] at hsq
            have HF : Hid (sameA a b = false) := Lib.hid (by rw [HS.out]; simp [h5])
            clear h1 h2 h3 h4 h5 HS hsv
            go_enter Tryz.func25, Tryz.ntmps25
            go_upto_region 1 with fail
            rw [← hxb, ← hxv, hyb', ← hyv]
            clear hxb hxv hyb' hyv
            go_wp2_with (first | (with_reducible refine hold_append ?_) | (with_reducible refine hold_make ?_) | (with_reducible refine hold_copy ?_))
            refine hsq.mono ?_
            rintro e w3 ⟨rfl, hB3⟩
            clear c_0 c_1 c_2 c_3 c_4 c_5 c_6 c_7 c_8 c_9 c_10 c_11
            clear d_0 d_1 d_2 d_3 d_4 d_5 d_6 d_7 d_8 d_9 d_10 d_11
            clear hsq
            go_wp2_with (first | (with_reducible refine hold_append ?_) | (with_reducible refine hold_make ?_) | (with_reducible refine hold_copy ?_))
            go_ret
            rw [HF.out]
            exact ⟨rfl, hB.trans (hB3.mono hB.size)⟩
        · simp only [decide_eq_false h4] at heqx
          have HF : Hid (sameA a b = false) := Lib.hid (by rw [HS.out]; simp [h4])
          clear h1 h2 h3 h4 HS hsv hsq
          go_enter Tryz.func25, Tryz.ntmps25
          go_upto_region 1 with fail
          rw [← hxb, ← hxv, hyb', ← hyv]
          clear hxb hxv hyb' hyv
          go_wp2_with (first | (with_reducible refine hold_append ?_) | (with_reducible refine hold_make ?_) | (with_reducible refine hold_copy ?_))
          go_ret
          rw [HF.out]
          exact ⟨rfl, hB⟩
      · rw [decide_eq_false h3] at hst hst2
        simp only [Bool.not_false] at hst2
        have HF : Hid (sameA a b = false) := Lib.hid (by rw [HS.out]; simp [h3])
        clear h1 h2 h3 HS hsv hsq heqx hgd
        go_enter Tryz.func25, Tryz.ntmps25
        go_upto_region 1 with fail
        rw [← hxb, ← hxv, hyb', ← hyv]
        clear hxb hxv hyb' hyv
        go_wp2_with (first | (with_reducible refine hold_append ?_) | (with_reducible refine hold_make ?_) | (with_reducible refine hold_copy ?_))
        go_ret
        rw [HF.out]
        exact ⟨rfl, hB⟩
    · have g2 : ((a.n : Int) == (b.n : Int)) = false := by simp; omega
      have HF : Hid (sameA a b = false) := Lib.hid (by rw [HS.out]; simp [h2])
      clear h1 h2 HS hsv hsq heqx hgd
      go_enter Tryz.func25, Tryz.ntmps25
      go_upto_region 1 with fail
      rw [← hxb, ← hxv, hyb', ← hyv]
      clear hxb hxv hyb' hyv
      go_wp2_with (first | (with_reducible refine hold_append ?_) | (with_reducible refine hold_make ?_) | (with_reducible refine hold_copy ?_))
      go_ret
      rw [HF.out]
      exact ⟨rfl, hB⟩
  · have g1 : (a.is == b.is) = false := by simpa using h1
    have HF : Hid (sameA a b = false) := Lib.hid (by rw [HS.out]; simp [h1])
    clear h1 HS hsv hsq heqx hgd
    go_enter Tryz.func25, Tryz.ntmps25
    go_upto_region 1 with fail
    rw [← hxb, ← hxv, hyb', ← hyv]
    clear hxb hxv hyb' hyv
    go_wp2_with (first | (with_reducible refine hold_append ?_) | (with_reducible refine hold_make ?_) | (with_reducible refine hold_copy ?_))
    go_ret
    rw [HF.out]
    exact ⟨rfl, hB⟩
end Go.PH
end
section
/- What the walks of the document's 'arg' share. -/
set_option linter.all false
set_option linter.unusedSimpArgs false
set_option linter.unusedVariables false
namespace Go.PH
open Go.RowKit Go.Proofs

theorem xid_neqA (a b : Xd) (w : World) : (binOp .neq 44 (.agg (xdV a)) (.agg (xdV b))).run Tryz.prog w = .ok (.bool (!decide (a = b))) w := by
  rw [run_neq_struct, xid_equal]
  rfl
theorem sameV_self (v : Vl) : sameV v v = true := (sameV_iff v v).2 rfl
def ArgR (w : World) (ok : Bool) (l : List UInt8) (e : Ending) (w' : World) : Prop := ∃ A2 n2 c2, e = .returned (.tuple #[.slice A2 n2 c2, .bool ok]) ∧ Below w.heap.size w w' ∧ (ok = true → n2 = l.length ∧ OwnB w' w.heap.size A2 n2 c2 l)
def argwR (k : Nat) : Option Nat := if k = 110 ∨ k = 115 then some 1 else if k = 119 ∨ k = 116 then some 2 else if k = 100 then some 4 else none
theorem rargw_any (k b : Nat) (hk : argwR k = some b) (w : World) : Calls Tryz.prog 52 #[.int .u8 (k : Int)] w fun e w' => e = .returned (.int .i64 (b : Int)) ∧ w' = w := by
  have hkk : (k = 110 ∧ b = 1) ∨ (k = 115 ∧ b = 1) ∨ (k = 119 ∧ b = 2) ∨ (k = 116 ∧ b = 2) ∨ (k = 100 ∧ b = 4) := by
    unfold argwR at hk
    split at hk
    · injection hk; omega
    split at hk
    · injection hk; omega
    split at hk
    · injection hk; omega
    · cases hk
  clear hk
  rcases hkk with ⟨rfl, rfl⟩ | ⟨rfl, rfl⟩ | ⟨rfl, rfl⟩ | ⟨rfl, rfl⟩ | ⟨rfl, rfl⟩ <;>
  · go_enter Tryz.func52, Tryz.ntmps52
    go_wp2_with (first | (with_reducible refine hold_append ?_) | (with_reducible refine hold_make ?_) | (with_reducible refine hold_copy ?_))
    go_ret
    exact ⟨rfl, rfl⟩
end Go.PH
end

/- Texts laid together: MdSameR, MdSameMR, MdSmall. -/
import Derived.Test.YtidpbbleneekgaaGreatDoorMg09
import Derived.Test.YtidpbbleneekgaaGreatDoorMg10
import Derived.Test.YtidpbbleneekgaaGreatDoorMg17
section
/- '==' of arguments and of methods: the walks of the document's program. -/
set_option linter.all false
set_option linter.unusedSimpArgs false
set_option linter.unusedVariables false
namespace Go.PH
open Go.RowKit Go.Proofs

set_option maxRecDepth 20000 in
set_option maxHeartbeats 1000000 in
theorem rsameA_any (a b : Ag) (h k : AH) (w : World) (ha : RAw w a h) (hb : RAw w b k) : Calls Tryz.prog 25 #[.agg (agV a h), .agg (agV b k)] w fun e w' => e = .returned (.bool (sameA a b)) ∧ Below w.heap.size w w' := by
  unfold agV
  obtain ⟨xb, w1, hxb, hxv, hX, hB1⟩ := alloc_stepV w #[.bool a.is, .int .u64 (a.n : Int), .string (str a.s), .int .u32 (a.x.fmt : Int), .string (str a.x.glob), .string (str a.x.bran), .slice h.A a.q.length h.c, .int .u8 (a.v.kind : Int), .int .u64 (a.v.n : Int), .string (str a.v.s), .slice h.h.A1 a.v.keys.length h.h.c1, .slice h.h.A2 a.v.list.length h.h.c2] 52
  obtain ⟨yb, w2, hyb, hyv, hY, hB2⟩ := alloc_stepV w1 #[.bool b.is, .int .u64 (b.n : Int), .string (str b.s), .int .u32 (b.x.fmt : Int), .string (str b.x.glob), .string (str b.x.bran), .slice k.A b.q.length k.c, .int .u8 (b.v.kind : Int), .int .u64 (b.v.n : Int), .string (str b.v.s), .slice k.h.A1 b.v.keys.length k.h.c1, .slice k.h.A2 b.v.list.length k.h.c2] 52
  have hyb' : xb + 1 = yb := by rw [hyb, hxv, hxb]; simp
  have hB := hB1.trans (hB2.mono hB1.size)
  have hX2 := hX.below hB2
  have ha2 := ha.up hB
  have hb2 := hb.up hB
  have c_0 := hX2.cell (j := 0) rfl
  have c_1 := hX2.cell (j := 1) rfl
  have c_2 := hX2.cell (j := 2) rfl
  have c_3 := hX2.cell (j := 3) rfl
  have c_4 := hX2.cell (j := 4) rfl
  have c_5 := hX2.cell (j := 5) rfl
  have c_6 := hX2.cell (j := 6) rfl
  have c_7 := hX2.cell (j := 7) rfl
  have c_8 := hX2.cell (j := 8) rfl
  have c_9 := hX2.cell (j := 9) rfl
  have c_10 := hX2.cell (j := 10) rfl
  have c_11 := hX2.cell (j := 11) rfl
  have d_0 := hY.cell (j := 0) rfl
  have d_1 := hY.cell (j := 1) rfl
  have d_2 := hY.cell (j := 2) rfl
  have d_3 := hY.cell (j := 3) rfl
  have d_4 := hY.cell (j := 4) rfl
  have d_5 := hY.cell (j := 5) rfl
  have d_6 := hY.cell (j := 6) rfl
  have d_7 := hY.cell (j := 7) rfl
  have d_8 := hY.cell (j := 8) rfl
  have d_9 := hY.cell (j := 9) rfl
  have d_10 := hY.cell (j := 10) rfl
  have d_11 := hY.cell (j := 11) rfl
  have hst := strs_eq a.s b.s
  have hst2 : ((str a.s).toList != (str b.s).toList) = !decide (a.s = b.s) := by rw [bne, strs_eq]
  have heqx := fun w => xid_eqlM a.x b.x w
  unfold xdV at heqx
  have hgd := fun x y => run_eqGuard_agg (P := Tryz.prog) w2 .eql 44 x y #[.int .u32 (a.x.fmt : Int), .string (str a.x.glob), .string (str a.x.bran)] #[.int .u32 (b.x.fmt : Int), .string (str b.x.glob), .string (str b.x.bran)] xid_guard
  have hsq := ssame_any h.A a.q.length h.c a.q k.A b.q.length k.c b.q w2.heap.size w2 ha2.q.1 hb2.q.1 (Nat.le_refl _) (by have := ha2.c; omega) (by have := hb2.c; omega)
  have hsv := fun (W : World) (hW : Below w2.heap.size w2 W) => rsame_any a.v b.v h.h k.h W (ha2.v.up hW) (hb2.v.up hW)
  have HS : Hid (sameA a b = (decide (a.is = b.is) && decide (a.n = b.n) && decide (a.s = b.s) && decide (a.x = b.x) && decide (a.q = b.q) && sameV a.v b.v)) := Lib.hid rfl
  unfold vlV SameR at hsv
  clear hyb hX ha hb ha2 hb2 hB1 hB2
  by_cases h1 : a.is = b.is
  · have g1 : (a.is == b.is) = true := by simp [h1]
    by_cases h2 : a.n = b.n
    · have g2 : ((a.n : Int) == (b.n : Int)) = true := by simp [h2]
      by_cases h3 : a.s = b.s
      · rw [decide_eq_true h3] at hst hst2
        simp only [Bool.not_true] at hst2
        by_cases h4 : a.x = b.x
        · simp only [decide_eq_true h4] at heqx
          by_cases h5 : a.q = b.q
          · simp only [decide_eq_true h5] at hsq
            have HF : Hid (sameA a b = sameV a.v b.v) := Lib.hid (by rw [HS.out]; simp [h1, h2, h3, h4, h5])
            clear h1 h2 h3 h4 h5 HS
            go_enter Tryz.func25, Tryz.ntmps25
            go_upto_region 1 with fail
            rw [← hxb, ← hxv, hyb', ← hyv]
            clear hxb hxv hyb' hyv
            go_wp2_with (first | (with_reducible refine hold_append ?_) | (with_reducible refine hold_make ?_) | (with_reducible refine hold_copy ?_))
            refine hsq.mono ?_
            rintro e w3 ⟨rfl, hB3⟩
            have hsv3 := hsv w3 hB3
            have hX3 := hX2.below hB3
            have hY3 := hY.below hB3
            have hBB := hB.trans (hB3.mono hB.size)
            clear c_0 c_1 c_2 c_3 c_4 c_5 c_6 c_7 c_8 c_9 c_10 c_11
            clear d_0 d_1 d_2 d_3 d_4 d_5 d_6 d_7 d_8 d_9 d_10 d_11
            clear hsq hsv
            have c_0 := hX3.cell (j := 0) rfl
            have c_1 := hX3.cell (j := 1) rfl
            have c_2 := hX3.cell (j := 2) rfl
            have c_3 := hX3.cell (j := 3) rfl
            have c_4 := hX3.cell (j := 4) rfl
            have c_5 := hX3.cell (j := 5) rfl
            have c_6 := hX3.cell (j := 6) rfl
            have c_7 := hX3.cell (j := 7) rfl
            have c_8 := hX3.cell (j := 8) rfl
            have c_9 := hX3.cell (j := 9) rfl
            have c_10 := hX3.cell (j := 10) rfl
            have c_11 := hX3.cell (j := 11) rfl
            have d_0 := hY3.cell (j := 0) rfl
            have d_1 := hY3.cell (j := 1) rfl
            have d_2 := hY3.cell (j := 2) rfl
            have d_3 := hY3.cell (j := 3) rfl
            have d_4 := hY3.cell (j := 4) rfl
            have d_5 := hY3.cell (j := 5) rfl
            have d_6 := hY3.cell (j := 6) rfl
            have d_7 := hY3.cell (j := 7) rfl
            have d_8 := hY3.cell (j := 8) rfl
            have d_9 := hY3.cell (j := 9) rfl
            have d_10 := hY3.cell (j := 10) rfl
            have d_11 := hY3.cell (j := 11) rfl
            generalize sameV a.v b.v = r at *
            go_wp2_with (first | (with_reducible refine hold_append ?_) | (with_reducible refine hold_make ?_) | (with_reducible refine hold_copy ?_))
            refine hsv3.mono ?_
            rintro e w4 ⟨rfl, hB4⟩
            clear c_0 c_1 c_2 c_3 c_4 c_5 c_6 c_7 c_8 c_9 c_10 c_11
            clear d_0 d_1 d_2 d_3 d_4 d_5 d_6 d_7 d_8 d_9 d_10 d_11
            clear hsv3
            go_wp2_with (first | (with_reducible refine hold_append ?_) | (with_reducible refine hold_make ?_) | (with_reducible refine hold_copy ?_))
            go_ret
            rw [HF.out]
            exact ⟨rfl, hBB.trans (hB4.mono hBB.size)⟩
          · simp only [decide_eq_false h5] at hsq
            have HF : Hid (sameA a b = false) := Lib.hid (by rw [HS.out]; simp [h5])
            clear h1 h2 h3 h4 h5 HS hsv
            go_enter Tryz.func25, Tryz.ntmps25
            go_upto_region 1 with fail
            rw [← hxb, ← hxv, hyb', ← hyv]
            clear hxb hxv hyb' hyv
            go_wp2_with (first | (with_reducible refine hold_append ?_) | (with_reducible refine hold_make ?_) | (with_reducible refine hold_copy ?_))
            refine hsq.mono ?_
            rintro e w3 ⟨rfl, hB3⟩
            clear c_0 c_1 c_2 c_3 c_4 c_5 c_6 c_7 c_8 c_9 c_10 c_11
            clear d_0 d_1 d_2 d_3 d_4 d_5 d_6 d_7 d_8 d_9 d_10 d_11
            clear hsq
            go_wp2_with (first | (with_reducible refine hold_append ?_) | (with_reducible refine hold_make ?_) | (with_reducible refine hold_copy ?_))
            go_ret
            rw [HF.out]
            exact ⟨rfl, hB.trans (hB3.mono hB.size)⟩
        · simp only [decide_eq_false h4] at heqx
          have HF : Hid (sameA a b = false) := Lib.hid (by rw [HS.out]; simp [h4])
          clear h1 h2 h3 h4 HS hsv hsq
          go_enter Tryz.func25, Tryz.ntmps25
          go_upto_region 1 with fail
          rw [← hxb, ← hxv, hyb', ← hyv]
          clear hxb hxv hyb' hyv
          go_wp2_with (first | (with_reducible refine hold_append ?_) | (with_reducible refine hold_make ?_) | (with_reducible refine hold_copy ?_))
          go_ret
          rw [HF.out]
          exact ⟨rfl, hB⟩
      · rw [decide_eq_false h3] at hst hst2
        simp only [Bool.not_false] at hst2
        have HF : Hid (sameA a b = false) := Lib.hid (by rw [HS.out]; simp [h3])
        clear h1 h2 h3 HS hsv hsq heqx hgd
        go_enter Tryz.func25, Tryz.ntmps25
        go_upto_region 1 with fail
        rw [← hxb, ← hxv, hyb', ← hyv]
        clear hxb hxv hyb' hyv
        go_wp2_with (first | (with_reducible refine hold_append ?_) | (with_reducible refine hold_make ?_) | (with_reducible refine hold_copy ?_))
        go_ret
        rw [HF.out]
        exact ⟨rfl, hB⟩
    · have g2 : ((a.n : Int) == (b.n : Int)) = false := by simp; omega
      have HF : Hid (sameA a b = false) := Lib.hid (by rw [HS.out]; simp [h2])
      clear h1 h2 HS hsv hsq heqx hgd
      go_enter Tryz.func25, Tryz.ntmps25
      go_upto_region 1 with fail
      rw [← hxb, ← hxv, hyb', ← hyv]
      clear hxb hxv hyb' hyv
      go_wp2_with (first | (with_reducible refine hold_append ?_) | (with_reducible refine hold_make ?_) | (with_reducible refine hold_copy ?_))
      go_ret
      rw [HF.out]
      exact ⟨rfl, hB⟩
  · have g1 : (a.is == b.is) = false := by simpa using h1
    have HF : Hid (sameA a b = false) := Lib.hid (by rw [HS.out]; simp [h1])
    clear h1 HS hsv hsq heqx hgd
    go_enter Tryz.func25, Tryz.ntmps25
    go_upto_region 1 with fail
    rw [← hxb, ← hxv, hyb', ← hyv]
    clear hxb hxv hyb' hyv
    go_wp2_with (first | (with_reducible refine hold_append ?_) | (with_reducible refine hold_make ?_) | (with_reducible refine hold_copy ?_))
    go_ret
    rw [HF.out]
    exact ⟨rfl, hB⟩
end Go.PH
end
section
/- '==' of methods: the walk of the document's program. -/
set_option linter.all false
set_option linter.unusedSimpArgs false
set_option linter.unusedVariables false
namespace Go.PH
open Go.RowKit Go.Proofs

set_option maxRecDepth 20000 in
set_option maxHeartbeats 1000000 in
theorem rsameM_any (v u : Mt) (A : Option Addr) (c : Nat) (A' : Option Addr) (c' : Nat) (w : World) (hv : RMw w v A c) (hu : RMw w u A' c') :
    Calls Tryz.prog 9 #[.agg (mtV v A c), .agg (mtV u A' c')] w fun e w' => e = .returned (.bool (sameM v u)) ∧ Below w.heap.size w w' := by
  unfold mtV
  obtain ⟨xb, w1, hxb, hxv, hX, hB1⟩ := alloc_stepV w #[.int .u8 (v.cls : Int), .int .u8 (v.code : Int), .bool v.sync, .slice A v.args.length c] 26
  obtain ⟨yb, w2, hyb, hyv, hY, hB2⟩ := alloc_stepV w1 #[.int .u8 (u.cls : Int), .int .u8 (u.code : Int), .bool u.sync, .slice A' u.args.length c'] 26
  have hyb' : xb + 1 = yb := by rw [hyb, hxv, hxb]; simp
  have hB := hB1.trans (hB2.mono hB1.size)
  have hX2 := hX.below hB2
  have hv2 := hv.up hB
  have hu2 := hu.up hB
  have hel := fun {i : Nat} (hi : i < v.args.length) => hv2.elem hi
  have hfl := fun {i : Nat} (hi : i < u.args.length) => hu2.elem hi
  have hNm := hv.len
  have c0 := hX2.cell (j := 0) rfl
  have c1 := hX2.cell (j := 1) rfl
  have c2 := hX2.cell (j := 2) rfl
  have c3 := hX2.cell (j := 3) rfl
  have d0 := hY.cell (j := 0) rfl
  have d1 := hY.cell (j := 1) rfl
  have d2 := hY.cell (j := 2) rfl
  have d3 := hY.cell (j := 3) rfl
  have HS : Hid (sameM v u = (decide (v.cls = u.cls) && decide (v.code = u.code) && decide (v.sync = u.sync) && sameAs v.args u.args)) := Lib.hid rfl
  clear hyb hX hv hu hv2 hu2 hB1 hB2
  by_cases e1 : v.cls = u.cls
  · have g1 : ((v.cls : Int) != (u.cls : Int)) = false := by simp [e1]
    by_cases e2 : v.code = u.code
    · have g2 : ((v.code : Int) != (u.code : Int)) = false := by simp [e2]
      by_cases e3 : v.sync = u.sync
      · have g3 : (v.sync != u.sync) = false := by simp [e3]
        have g3' : (v.sync == u.sync) = true := by simp [e3]
        have HF : Hid (sameM v u = sameAs v.args u.args) := Lib.hid (by rw [HS.out]; simp [e1, e2, e3])
        by_cases e4 : v.args.length = u.args.length
        · have g4 : ((v.args.length : Int) != (u.args.length : Int)) = false := by simp [e4]
          have HLL := Lib.hid e4
          clear e1 e2 e3 e4 HS
          go_enter Tryz.func9, Tryz.ntmps9
          go_upto_region 1 with fail
          rw [← hxb, ← hxv, hyb', ← hyv]
          clear hxb hxv hyb' hyv
          go_wp2_with (first | (with_reducible refine hold_append ?_) | (with_reducible refine hold_make ?_) | (with_reducible refine hold_copy ?_))
          clear c0 c1 c2 c3 d0 d1 d2 d3 g1 g2 g3 g3' g4
          go_loopw [5] (fun s wr => ∃ i : Nat, i ≤ v.args.length ∧ s = .int .i64 i ∧ Box wr xb 26 #[.int .u8 (v.cls : Int), .int .u8 (v.code : Int), .bool v.sync, .slice A v.args.length c] ∧ Box wr yb 26 #[.int .u8 (u.cls : Int), .int .u8 (u.code : Int), .bool u.sync, .slice A' u.args.length c'] ∧ Below w.heap.size w wr ∧ Below w2.heap.size w2 wr ∧ Hid (sameAs (v.args.drop i) (u.args.drop i) = sameAs v.args u.args)) (fun s _ => v.args.length - (RowKit.intOf s).toNat)
          case atStart => exact ⟨0, by omega, rfl, hX2, hY, hB, Below.refl _ _, Lib.hid rfl⟩
          case round =>
            as_aux_lemma =>
            clear hX2 hY hB
            obtain ⟨i, hi, rfl, hX3, hY3, hB3, hB23, HC⟩ := hrel
            have c3 := hX3.cell (j := 3) rfl
            have d3 := hY3.cell (j := 3) rfl
            simp only [List.getElem_toArray, List.getElem_cons_succ, List.getElem_cons_zero] at c3 d3
            by_cases hlt : i < v.args.length
            · have g1 : (i : Int) < (v.args.length : Int) := by omega
              have hil' : i < u.args.length := by rw [← HLL.out]; exact hlt
              have g1' : (i : Int) < (u.args.length : Int) := by omega
              obtain ⟨b, off, hx, rfl, hvx, HX⟩ := hel hlt
              obtain ⟨b', off', hy, rfl, hvy, HY⟩ := hfl hil'
              have HD : Hid (sameAs (v.args.drop i) (u.args.drop i) = (sameA v.args[i] u.args[i] && sameAs (v.args.drop (i + 1)) (u.args.drop (i + 1)))) := Lib.hid (by rw [List.drop_eq_getElem_cons hlt, List.drop_eq_getElem_cons hil', sameAs_cons])
              have hrec := fun (W : World) (hW : Below w2.heap.size w2 W) => rsameA_any v.args[i] u.args[i] hx hy W (hvx.up hW) (hvy.up hW)
              clear hel hvx hfl hvy
              generalize v.args[i] = x at *
              generalize u.args[i] = y at *
              unfold agV at hrec
              go_upto_region 6 with fail
              clear c3 d3
              refine rg_start (fun W : World => Box W xb 26 #[.int .u8 (v.cls : Int), .int .u8 (v.code : Int), .bool v.sync, .slice (some ⟨b, off, none⟩) v.args.length c] ∧ Box W yb 26 #[.int .u8 (u.cls : Int), .int .u8 (u.code : Int), .bool u.sync, .slice (some ⟨b', off', none⟩) u.args.length c'] ∧ Below w.heap.size w W ∧ Below w2.heap.size w2 W) (by kernel_rfl) ?_
              have hS : Box wr.drew xb 26 #[.int .u8 (v.cls : Int), .int .u8 (v.code : Int), .bool v.sync, .slice (some ⟨b, off, none⟩) v.args.length c] ∧ Box wr.drew yb 26 #[.int .u8 (u.cls : Int), .int .u8 (u.code : Int), .bool u.sync, .slice (some ⟨b', off', none⟩) u.args.length c'] ∧ Below w.heap.size w wr.drew ∧ Below w2.heap.size w2 wr.drew := ⟨hX3, hY3, below_drewN hB3 1, below_drewN hB23 1⟩
              generalize wr.drew = wd at *
              refine rg_take 0 (v := ?_) rfl (by kernel_rfl) (by kernel_rfl) (by kernel_rfl) hS rfl ?_ ?_
              rotate_left
              · intro wS hSw; go_simp; (with_reducible rfl)
              simp only [List.getElem_toArray, List.getElem_cons_zero, Act.put, List.setIfInBounds_toArray, List.set_cons_zero, List.set_cons_succ]
              refine rg_take 1 (v := ?_) rfl (by kernel_rfl) (by kernel_rfl) (by kernel_rfl) hS rfl ?_ ?_
              rotate_left
              · intro wS hSw; have k0 := hSw.1.cell (j := 3) rfl; go_simp; (with_reducible rfl)
              simp only [List.getElem_toArray, List.getElem_cons_succ, List.getElem_cons_zero, Act.put, List.setIfInBounds_toArray, List.set_cons_zero, List.set_cons_succ]
              refine rg_take 2 (v := ?_) rfl (by kernel_rfl) (by kernel_rfl) (by kernel_rfl) hS rfl ?_ ?_
              rotate_left
              · intro wS hSw; go_simp; (with_reducible rfl)
              simp only [List.getElem_toArray, List.getElem_cons_succ, List.getElem_cons_zero, Act.put, List.setIfInBounds_toArray, List.set_cons_zero, List.set_cons_succ]
              refine rg_take 3 (v := ?_) rfl (by kernel_rfl) (by kernel_rfl) (by kernel_rfl) hS rfl ?_ ?_
              rotate_left
              · intro wS hSw; go_simp; (with_reducible rfl)
              simp only [List.getElem_toArray, List.getElem_cons_succ, List.getElem_cons_zero, Act.put, List.setIfInBounds_toArray, List.set_cons_zero, List.set_cons_succ]
              refine rg_take 4 (v := ?_) rfl (by kernel_rfl) (by kernel_rfl) (by kernel_rfl) hS rfl ?_ ?_
              rotate_left
              · intro wS hSw; have HX1 := HX _ hSw.2.2.2; have k_0 := HX1 0 _ rfl; have k_1 := HX1 1 _ rfl; have k_2 := HX1 2 _ rfl; have k_3 := HX1 3 _ rfl; have k_4 := HX1 4 _ rfl; have k_5 := HX1 5 _ rfl; have k_6 := HX1 6 _ rfl; have k_7 := HX1 7 _ rfl; have k_8 := HX1 8 _ rfl; have k_9 := HX1 9 _ rfl; have k_10 := HX1 10 _ rfl; have k_11 := HX1 11 _ rfl; simp only [Nat.add_zero] at k_0; clear HX1; go_simp; (with_reducible rfl)
              simp only [List.getElem_toArray, List.getElem_cons_succ, List.getElem_cons_zero, Act.put, List.setIfInBounds_toArray, List.set_cons_zero, List.set_cons_succ]
              refine rg_take 5 (v := ?_) rfl (by kernel_rfl) (by kernel_rfl) (by kernel_rfl) hS rfl ?_ ?_
              rotate_left
              · intro wS hSw; go_simp; (with_reducible rfl)
              simp only [List.getElem_toArray, List.getElem_cons_succ, List.getElem_cons_zero, Act.put, List.setIfInBounds_toArray, List.set_cons_zero, List.set_cons_succ]
              refine rg_take 6 (v := ?_) rfl (by kernel_rfl) (by kernel_rfl) (by kernel_rfl) hS rfl ?_ ?_
              rotate_left
              · intro wS hSw; have k0 := hSw.2.1.cell (j := 3) rfl; go_simp; (with_reducible rfl)
              simp only [List.getElem_toArray, List.getElem_cons_succ, List.getElem_cons_zero, Act.put, List.setIfInBounds_toArray, List.set_cons_zero, List.set_cons_succ]
              refine rg_take 7 (v := ?_) rfl (by kernel_rfl) (by kernel_rfl) (by kernel_rfl) hS rfl ?_ ?_
              rotate_left
              · intro wS hSw; go_simp; (with_reducible rfl)
              simp only [List.getElem_toArray, List.getElem_cons_succ, List.getElem_cons_zero, Act.put, List.setIfInBounds_toArray, List.set_cons_zero, List.set_cons_succ]
              refine rg_take 8 (v := ?_) rfl (by kernel_rfl) (by kernel_rfl) (by kernel_rfl) hS rfl ?_ ?_
              rotate_left
              · intro wS hSw; go_simp; (with_reducible rfl)
              simp only [List.getElem_toArray, List.getElem_cons_succ, List.getElem_cons_zero, Act.put, List.setIfInBounds_toArray, List.set_cons_zero, List.set_cons_succ]
              refine rg_take 9 (v := ?_) rfl (by kernel_rfl) (by kernel_rfl) (by kernel_rfl) hS rfl ?_ ?_
              rotate_left
              · intro wS hSw; have HX1 := HY _ hSw.2.2.2; have k_0 := HX1 0 _ rfl; have k_1 := HX1 1 _ rfl; have k_2 := HX1 2 _ rfl; have k_3 := HX1 3 _ rfl; have k_4 := HX1 4 _ rfl; have k_5 := HX1 5 _ rfl; have k_6 := HX1 6 _ rfl; have k_7 := HX1 7 _ rfl; have k_8 := HX1 8 _ rfl; have k_9 := HX1 9 _ rfl; have k_10 := HX1 10 _ rfl; have k_11 := HX1 11 _ rfl; simp only [Nat.add_zero] at k_0; clear HX1; go_simp; (with_reducible rfl)
              simp only [List.getElem_toArray, List.getElem_cons_succ, List.getElem_cons_zero, Act.put, List.setIfInBounds_toArray, List.set_cons_zero, List.set_cons_succ]
              refine rg_one 10 rfl (by kernel_rfl) rfl (fun K hK => ?_)
              go_simp
              refine (hrec _ hS.2.2.2).mono ?_
              rintro e w5 ⟨rfl, hB5⟩
              obtain ⟨hX4, hY4, hB4, hB24⟩ := hS
              have hS : Box w5 xb 26 #[.int .u8 (v.cls : Int), .int .u8 (v.code : Int), .bool v.sync, .slice (some ⟨b, off, none⟩) v.args.length c] ∧ Box w5 yb 26 #[.int .u8 (u.cls : Int), .int .u8 (u.code : Int), .bool u.sync, .slice (some ⟨b', off', none⟩) u.args.length c'] ∧ Below w.heap.size w w5 ∧ Below w2.heap.size w2 w5 := ⟨hX4.below hB5, hY4.below hB5, hB4.trans (hB5.mono hB4.size), hB24.trans (hB5.mono hB24.size)⟩
              clear hX4 hY4 hB4 hB24 hB5 hX3 hY3 hB3 hB23 HX HY hrec
              refine hK _ _ hS ?_; clear hK K
              try simp only [List.getElem_toArray, List.getElem_cons_succ, List.getElem_cons_zero, Act.put, List.setIfInBounds_toArray, List.set_cons_zero, List.set_cons_succ]
              refine rg_take 11 (v := ?_) rfl (by kernel_rfl) (by kernel_rfl) (by kernel_rfl) hS rfl ?_ ?_
              rotate_left
              · intro wS hSw; go_simp; (with_reducible rfl)
              simp only [List.getElem_toArray, List.getElem_cons_succ, List.getElem_cons_zero, Act.put, List.setIfInBounds_toArray, List.set_cons_zero, List.set_cons_succ]
              refine rg_end (by kernel_rfl) ?_
              obtain ⟨hX4, hY4, hB4, hB24⟩ := hS
              cases hs : sameA x y
              · have HF2 : Hid (sameAs v.args u.args = false) := Lib.hid (by rw [← HC.out, HD.out, hs]; rfl)
                clear hs
                go_wp2_with (first | (with_reducible refine hold_append ?_) | (with_reducible refine hold_make ?_) | (with_reducible refine hold_copy ?_))
                go_ret
                rw [HF.out, HF2.out]
                exact ⟨rfl, hB4⟩
              · have HC2 : Hid (sameAs (v.args.drop (i + 1)) (u.args.drop (i + 1)) = sameAs v.args u.args) := Lib.hid (by rw [← HC.out, HD.out, hs]; rfl)
                clear hs
                go_wp2_with (first | (with_reducible refine hold_append ?_) | (with_reducible refine hold_make ?_) | (with_reducible refine hold_copy ?_))
                exact ⟨⟨i + 1, by omega, by go_num, hX4, hY4, hB4, hB24, HC2⟩, by simp [RowKit.intOf]; omega⟩
            · have g1 : ¬ (i : Int) < (v.args.length : Int) := by omega
              have HF2 : Hid (sameAs v.args u.args = true) := Lib.hid (by
                rw [← HC.out, List.drop_eq_nil_of_le (by omega), List.drop_eq_nil_of_le (by have := HLL.out; omega), sameAs])
              clear hel hfl
              go_wp2_with (first | (with_reducible refine hold_append ?_) | (with_reducible refine hold_make ?_) | (with_reducible refine hold_copy ?_))
              go_ret
              rw [HF.out, HF2.out]
              exact ⟨rfl, hB3⟩
        · have g4 : ((v.args.length : Int) != (u.args.length : Int)) = true := by simp; omega
          have HF : Hid (sameM v u = false) := Lib.hid (by rw [HF.out, sameAs_len e4])
          clear e1 e2 e3 e4 HS hel hfl
          go_enter Tryz.func9, Tryz.ntmps9
          go_upto_region 1 with fail
          rw [← hxb, ← hxv, hyb', ← hyv]
          clear hxb hxv hyb' hyv
          go_wp2_with (first | (with_reducible refine hold_append ?_) | (with_reducible refine hold_make ?_) | (with_reducible refine hold_copy ?_))
          go_ret
          rw [HF.out]
          exact ⟨rfl, hB⟩
      · have g3 : (v.sync != u.sync) = true := by simpa using e3
        have g3' : (v.sync == u.sync) = false := by simpa using e3
        have HF : Hid (sameM v u = false) := Lib.hid (by rw [HS.out]; simp [e3])
        clear e1 e2 e3 hel hfl
        go_enter Tryz.func9, Tryz.ntmps9
        go_upto_region 1 with fail
        rw [← hxb, ← hxv, hyb', ← hyv]
        clear hxb hxv hyb' hyv
        go_wp2_with (first | (with_reducible refine hold_append ?_) | (with_reducible refine hold_make ?_) | (with_reducible refine hold_copy ?_))
        go_ret
        rw [HF.out]
        exact ⟨rfl, hB⟩
    · have g2 : ((v.code : Int) != (u.code : Int)) = true := by simp; omega
      have HF : Hid (sameM v u = false) := Lib.hid (by rw [HS.out]; simp [e2])
      clear e1 e2 hel hfl
      go_enter Tryz.func9, Tryz.ntmps9
      go_upto_region 1 with fail
      rw [← hxb, ← hxv, hyb', ← hyv]
      clear hxb hxv hyb' hyv
      go_wp2_with (first | (with_reducible refine hold_append ?_) | (with_reducible refine hold_make ?_) | (with_reducible refine hold_copy ?_))
      go_ret
      rw [HF.out]
      exact ⟨rfl, hB⟩
  · have g1 : ((v.cls : Int) != (u.cls : Int)) = true := by simp; omega
    have HF : Hid (sameM v u = false) := Lib.hid (by rw [HS.out]; simp [e1])
    clear e1 hel hfl
    go_enter Tryz.func9, Tryz.ntmps9
    go_upto_region 1 with fail
    rw [← hxb, ← hxv, hyb', ← hyv]
    clear hxb hxv hyb' hyv
    go_wp2_with (first | (with_reducible refine hold_append ?_) | (with_reducible refine hold_make ?_) | (with_reducible refine hold_copy ?_))
    go_ret
    rw [HF.out]
    exact ⟨rfl, hB⟩
end Go.PH
end
section
/- Which methods can be looked at: the walk of the document's Small. -/
set_option linter.all false
set_option linter.unusedSimpArgs false
set_option linter.unusedVariables false
namespace Go.PH
open Go.RowKit Go.Proofs

def smallA (a : Ag) : Bool := decide (a.q.length ≤ 1100) && decide (a.s.length ≤ 70000) && smallB a.v
def smallM (m : Mt) : Bool := decide (m.args.length ≤ 8) && m.args.all smallA
set_option maxRecDepth 20000 in
set_option maxHeartbeats 1000000 in
theorem rsmallM_any (v : Mt) (A : Option Addr) (c : Nat) (w : World) (hv : RMw w v A c) :
    Calls Tryz.prog 10 #[.agg (mtV v A c)] w fun e w' => e = .returned (.bool (smallM v)) ∧ Below w.heap.size w w' := by
  unfold mtV
  obtain ⟨xb, w1, hxb, hxv, hX, hB1⟩ := alloc_stepV w #[.int .u8 (v.cls : Int), .int .u8 (v.code : Int), .bool v.sync, .slice A v.args.length c] 26
  have hv1 := hv.up hB1
  have hel := fun {i : Nat} (hi : i < v.args.length) => hv1.elem hi
  have hNm := hv.len
  have c3 := hX.cell (j := 3) rfl
  clear hv hv1
  by_cases h8 : v.args.length ≤ 8
  · have g0 : ¬ (8 : Int) < (v.args.length : Int) := by omega
    have HS : Hid (smallM v = v.args.all smallA) := Lib.hid (by unfold smallM; rw [decide_eq_true h8]; rfl)
    clear h8
    go_enter Tryz.func10, Tryz.ntmps10
    go_upto_region 1 with fail
    rw [← hxb, ← hxv]
    clear hxb hxv
    go_wp2_with (first | (with_reducible refine hold_append ?_) | (with_reducible refine hold_make ?_) | (with_reducible refine hold_copy ?_))
    clear c3 g0
    go_loopw [3] (fun s wr => ∃ i : Nat, i ≤ v.args.length ∧ s = .int .i64 i ∧ Box wr xb 26 #[.int .u8 (v.cls : Int), .int .u8 (v.code : Int), .bool v.sync, .slice A v.args.length c] ∧ Below w.heap.size w wr ∧ Below w1.heap.size w1 wr ∧ Hid ((v.args.drop i).all smallA = v.args.all smallA)) (fun s _ => v.args.length - (RowKit.intOf s).toNat)
    case atStart => exact ⟨0, by omega, rfl, hX, hB1, Below.refl _ _, Lib.hid rfl⟩
    case round =>
      as_aux_lemma =>
      clear hX hB1
      obtain ⟨i, hi, rfl, hX, hB, hB2, HC⟩ := hrel
      have c3 := hX.cell (j := 3) rfl
      simp only [List.getElem_toArray, List.getElem_cons_succ, List.getElem_cons_zero] at c3
      by_cases hlt : i < v.args.length
      · have g1 : (i : Int) < (v.args.length : Int) := by omega
        obtain ⟨b, off, hx, rfl, hvx, HX⟩ := hel hlt
        have HD : Hid ((v.args.drop i).all smallA = (smallA v.args[i] && (v.args.drop (i + 1)).all smallA)) := Lib.hid (by rw [List.drop_eq_getElem_cons hlt, List.all_cons])
        have HX1 := HX wr hB2
        have hqm : v.args[i].q.length ≤ 140737488351232 := by have a2 := hvx.c; omega
        have hsm := hvx.s
        have hrec := rsmall_any v.args[i].v hx.h wr (hvx.up hB2).v
        clear hvx HX
        generalize v.args[i] = x at *
        have k_0 := HX1 0 _ rfl
        have k_1 := HX1 1 _ rfl
        have k_2 := HX1 2 _ rfl
        have k_3 := HX1 3 _ rfl
        have k_4 := HX1 4 _ rfl
        have k_5 := HX1 5 _ rfl
        have k_6 := HX1 6 _ rfl
        have k_7 := HX1 7 _ rfl
        have k_8 := HX1 8 _ rfl
        have k_9 := HX1 9 _ rfl
        have k_10 := HX1 10 _ rfl
        have k_11 := HX1 11 _ rfl
        simp only [Nat.add_zero] at k_0
        clear HX1
        unfold vlV at hrec
        have HA : Hid (smallA x = (decide (x.q.length ≤ 1100) && decide (x.s.length ≤ 70000) && smallB x.v)) := Lib.hid rfl
        have hss := str_size x.s
        by_cases q1 : x.q.length ≤ 1100
        · have g2 : ¬ (1100 : Int) < (x.q.length : Int) := by omega
          by_cases q2 : x.s.length ≤ 70000
          · have g3 : ¬ (70000 : Int) < (x.s.length : Int) := by omega
            have HB : Hid (smallA x = smallB x.v) := Lib.hid (by rw [HA.out, decide_eq_true q1, decide_eq_true q2]; rfl)
            clear q1 q2
            cases hs : smallB x.v
            · rw [hs] at hrec
              have HF : Hid (smallM v = false) := Lib.hid (by rw [HS.out, ← HC.out, HD.out, HB.out, hs]; rfl)
              clear hs hel
              go_wp2_with (first | (with_reducible refine hold_append ?_) | (with_reducible refine hold_make ?_) | (with_reducible refine hold_copy ?_))
              refine hrec.mono ?_
              rintro e w3 ⟨rfl, hB3⟩
              clear hrec k_0 k_1 k_2 k_3 k_4 k_5 k_6 k_7 k_8 k_9 k_10 k_11 c3
              go_wp2_with (first | (with_reducible refine hold_append ?_) | (with_reducible refine hold_make ?_) | (with_reducible refine hold_copy ?_))
              go_ret
              rw [HF.out]
              exact ⟨rfl, hB.trans (hB3.mono hB.size)⟩
            · rw [hs] at hrec
              have HC2 : Hid ((v.args.drop (i + 1)).all smallA = v.args.all smallA) := Lib.hid (by rw [← HC.out, HD.out, HB.out, hs]; rfl)
              clear hs hel
              go_wp2_with (first | (with_reducible refine hold_append ?_) | (with_reducible refine hold_make ?_) | (with_reducible refine hold_copy ?_))
              refine hrec.mono ?_
              rintro e w3 ⟨rfl, hB3⟩
              clear hrec k_0 k_1 k_2 k_3 k_4 k_5 k_6 k_7 k_8 k_9 k_10 k_11 c3
              go_wp2_with (first | (with_reducible refine hold_append ?_) | (with_reducible refine hold_make ?_) | (with_reducible refine hold_copy ?_))
              exact ⟨⟨i + 1, by omega, by go_num, hX.below hB3, hB.trans (hB3.mono hB.size), hB2.trans (hB3.mono hB2.size), HC2⟩, by simp [RowKit.intOf]; omega⟩
          · have g3 : (70000 : Int) < (x.s.length : Int) := by omega
            have h0 : smallA x = false := by rw [HA.out, decide_eq_false q2]; simp
            clear q1 q2 hrec
            have HF : Hid (smallM v = false) := Lib.hid (by rw [HS.out, ← HC.out, HD.out, h0]; simp)
            clear hel
            go_wp2_with (first | (with_reducible refine hold_append ?_) | (with_reducible refine hold_make ?_) | (with_reducible refine hold_copy ?_))
            go_ret
            rw [HF.out]
            exact ⟨rfl, hB⟩
        · have g2 : (1100 : Int) < (x.q.length : Int) := by omega
          have h0 : smallA x = false := by rw [HA.out, decide_eq_false q1]; simp
          clear q1 hrec
          have HF : Hid (smallM v = false) := Lib.hid (by rw [HS.out, ← HC.out, HD.out, h0]; simp)
          clear hel
          go_wp2_with (first | (with_reducible refine hold_append ?_) | (with_reducible refine hold_make ?_) | (with_reducible refine hold_copy ?_))
          go_ret
          rw [HF.out]
          exact ⟨rfl, hB⟩
      · have g1 : ¬ (i : Int) < (v.args.length : Int) := by omega
        have HF : Hid (smallM v = true) := Lib.hid (by rw [HS.out, ← HC.out, List.drop_eq_nil_of_le (by omega)]; rfl)
        clear hel
        go_wp2_with (first | (with_reducible refine hold_append ?_) | (with_reducible refine hold_make ?_) | (with_reducible refine hold_copy ?_))
        go_ret
        rw [HF.out]
        exact ⟨rfl, hB⟩
  · have g0 : (8 : Int) < (v.args.length : Int) := by omega
    have HF : Hid (smallM v = false) := Lib.hid (by unfold smallM; rw [decide_eq_false h8]; rfl)
    clear h8 hel
    go_enter Tryz.func10, Tryz.ntmps10
    go_upto_region 1 with fail
    rw [← hxb, ← hxv]
    clear hxb hxv
    go_wp2_with (first | (with_reducible refine hold_append ?_) | (with_reducible refine hold_make ?_) | (with_reducible refine hold_copy ?_))
    go_ret
    rw [HF.out]
    exact ⟨rfl, hB1⟩
end Go.PH
end

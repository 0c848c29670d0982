/- Texts laid together: MdSameMR, MdSmall, MdCopy. -/
import Derived.Test.YtidpbbleneekgaaGreatDoorMg12
import Derived.Test.YtidpbbleneekgaaGreatDoorMg26
import Derived.Test.YtidpbbleneekgaaGreatDoorMg29
section
/- '==' of methods: the walk of the document's program. -/
set_option linter.all false
set_option linter.unusedSimpArgs false
set_option linter.unusedVariables false
namespace Go.PH
open Go.RowKit Go.Proofs

set_option maxRecDepth 20000 in
set_option maxHeartbeats 1000000 in
theorem rsameM_any (v u : Mt) (A : Option Addr) (c : Nat) (A' : Option Addr) (c' : Nat) (w : World) (hv : RMw w v A c) (hu : RMw w u A' c') :
    Calls Tryz.prog 9 #[.agg (mtV v A c), .agg (mtV u A' c')] w fun e w' => e = .returned (.bool (sameM v u)) ∧ Below w.heap.size w w' := by
  unfold mtV
  obtain ⟨xb, w1, hxb, hxv, hX, hB1⟩ := alloc_stepV w #[.int .u8 (v.cls : Int), .int .u8 (v.code : Int), .bool v.sync, .slice A v.args.length c] 26
  obtain ⟨yb, w2, hyb, hyv, hY, hB2⟩ := alloc_stepV w1 #[.int .u8 (u.cls : Int), .int .u8 (u.code : Int), .bool u.sync, .slice A' u.args.length c'] 26
  have hyb' : xb + 1 = yb := by rw [hyb, hxv, hxb]; simp
  have hB := hB1.trans (hB2.mono hB1.size)
  have hX2 := hX.below hB2
  have hv2 := hv.up hB
  have hu2 := hu.up hB
  have hel := fun {i : Nat} (hi : i < v.args.length) => hv2.elem hi
  have hfl := fun {i : Nat} (hi : i < u.args.length) => hu2.elem hi
  have hNm := hv.len
  have c0 := hX2.cell (j := 0) rfl
  have c1 := hX2.cell (j := 1) rfl
  have c2 := hX2.cell (j := 2) rfl
  have c3 := hX2.cell (j := 3) rfl
  have d0 := hY.cell (j := 0) rfl
  have d1 := hY.cell (j := 1) rfl
  have d2 := hY.cell (j := 2) rfl
  have d3 := hY.cell (j := 3) rfl
  have HS : Hid (sameM v u = (decide (v.cls = u.cls) && decide (v.code = u.code) && decide (v.sync = u.sync) && sameAs v.args u.args)) := Lib.hid rfl
  clear hyb hX hv hu hv2 hu2 hB1 hB2
  by_cases e1 : v.cls = u.cls
  · have g1 : ((v.cls : Int) != (u.cls : Int)) = false := by simp [e1]
    by_cases e2 : v.code = u.code
    · have g2 : ((v.code : Int) != (u.code : Int)) = false := by simp [e2]
      by_cases e3 : v.sync = u.sync
      · have g3 : (v.sync != u.sync) = false := by simp [e3]
        have g3' : (v.sync == u.sync) = true := by simp [e3]
        have HF : Hid (sameM v u = sameAs v.args u.args) := Lib.hid (by rw [HS.out]; simp [e1, e2, e3])
        by_cases e4 : v.args.length = u.args.length
        · have g4 : ((v.args.length : Int) != (u.args.length : Int)) = false := by simp [e4]
          have HLL := Lib.hid e4
          clear e1 e2 e3 e4 HS
          go_enter Tryz.func9, Tryz.ntmps9
          go_upto_region 1 with fail
          rw [← hxb, ← hxv, hyb', ← hyv]
          clear hxb hxv hyb' hyv
          go_wp2_with (first | (with_reducible refine hold_append ?_) | (with_reducible refine hold_make ?_) | (with_reducible refine hold_copy ?_))
          clear c0 c1 c2 c3 d0 d1 d2 d3 g1 g2 g3 g3' g4
          go_loopw [5] (fun s wr => ∃ i : Nat, i ≤ v.args.length ∧ s = .int .i64 i ∧ Box wr xb 26 #[.int .u8 (v.cls : Int), .int .u8 (v.code : Int), .bool v.sync, .slice A v.args.length c] ∧ Box wr yb 26 #[.int .u8 (u.cls : Int), .int .u8 (u.code : Int), .bool u.sync, .slice A' u.args.length c'] ∧ Below w.heap.size w wr ∧ Below w2.heap.size w2 wr ∧ Hid (sameAs (v.args.drop i) (u.args.drop i) = sameAs v.args u.args)) (fun s _ => v.args.length - (RowKit.intOf s).toNat)
          case atStart => exact ⟨0, by omega, rfl, hX2, hY, hB, Below.refl _ _, Lib.hid rfl⟩
          case round =>
            as_aux_lemma =>
            clear hX2 hY hB
            obtain ⟨i, hi, rfl, hX3, hY3, hB3, hB23, HC⟩ := hrel
            have c3 := hX3.cell (j := 3) rfl
            have d3 := hY3.cell (j := 3) rfl
            simp only [List.getElem_toArray, List.getElem_cons_succ, List.getElem_cons_zero] at c3 d3
            by_cases hlt : i < v.args.length
            · have g1 : (i : Int) < (v.args.length : Int) := by omega
              have hil' : i < u.args.length := by rw [← HLL.out]; exact hlt
              have g1' : (i : Int) < (u.args.length : Int) := by omega
              obtain ⟨b, off, hx, rfl, hvx, HX⟩ := hel hlt
              obtain ⟨b', off', hy, rfl, hvy, HY⟩ := hfl hil'
              have HD : Hid (sameAs (v.args.drop i) (u.args.drop i) = (sameA v.args[i] u.args[i] && sameAs (v.args.drop (i + 1)) (u.args.drop (i + 1)))) := Lib.hid (by rw [List.drop_eq_getElem_cons hlt, List.drop_eq_getElem_cons hil', sameAs_cons])
              have hrec := fun (W : World) (hW : Below w2.heap.size w2 W) => rsameA_any v.args[i] u.args[i] hx hy W (hvx.up hW) (hvy.up hW)
              clear hel hvx hfl hvy
              generalize v.args[i] = x at *
              generalize u.args[i] = y at *
              unfold agV at hrec
              go_upto_region 6 with fail
              clear c3 d3
              refine rg_start (fun W : World => Box W xb 26 #[.int .u8 (v.cls : Int), .int .u8 (v.code : Int), .bool v.sync, .slice (some ⟨b, off, none⟩) v.args.length c] ∧ Box W yb 26 #[.int .u8 (u.cls : Int), .int .u8 (u.code : Int), .bool u.sync, .slice (some ⟨b', off', none⟩) u.args.length c'] ∧ Below w.heap.size w W ∧ Below w2.heap.size w2 W) (by kernel_rfl) ?_
              have hS : Box wr.drew xb 26 #[.int .u8 (v.cls : Int), .int .u8 (v.code : Int), .bool v.sync, .slice (some ⟨b, off, none⟩) v.args.length c] ∧ Box wr.drew yb 26 #[.int .u8 (u.cls : Int), .int .u8 (u.code : Int), .bool u.sync, .slice (some ⟨b', off', none⟩) u.args.length c'] ∧ Below w.heap.size w wr.drew ∧ Below w2.heap.size w2 wr.drew := ⟨hX3, hY3, below_drewN hB3 1, below_drewN hB23 1⟩
              generalize wr.drew = wd at *
              refine rg_take 0 (v := ?_) rfl (by kernel_rfl) (by kernel_rfl) (by kernel_rfl) hS rfl ?_ ?_
              rotate_left
              · intro wS hSw; go_simp; (with_reducible rfl)
              simp only [List.getElem_toArray, List.getElem_cons_zero, Act.put, List.setIfInBounds_toArray, List.set_cons_zero, List.set_cons_succ]
              refine rg_take 1 (v := ?_) rfl (by kernel_rfl) (by kernel_rfl) (by kernel_rfl) hS rfl ?_ ?_
              rotate_left
              · intro wS hSw; have k0 := hSw.1.cell (j := 3) rfl; go_simp; (with_reducible rfl)
              simp only [List.getElem_toArray, List.getElem_cons_succ, List.getElem_cons_zero, Act.put, List.setIfInBounds_toArray, List.set_cons_zero, List.set_cons_succ]
              refine rg_take 2 (v := ?_) rfl (by kernel_rfl) (by kernel_rfl) (by kernel_rfl) hS rfl ?_ ?_
              rotate_left
              · intro wS hSw; go_simp; (with_reducible rfl)
              simp only [List.getElem_toArray, List.getElem_cons_succ, List.getElem_cons_zero, Act.put, List.setIfInBounds_toArray, List.set_cons_zero, List.set_cons_succ]
              refine rg_take 3 (v := ?_) rfl (by kernel_rfl) (by kernel_rfl) (by kernel_rfl) hS rfl ?_ ?_
              rotate_left
              · intro wS hSw; go_simp; (with_reducible rfl)
              simp only [List.getElem_toArray, List.getElem_cons_succ, List.getElem_cons_zero, Act.put, List.setIfInBounds_toArray, List.set_cons_zero, List.set_cons_succ]
              refine rg_take 4 (v := ?_) rfl (by kernel_rfl) (by kernel_rfl) (by kernel_rfl) hS rfl ?_ ?_
              rotate_left
              · intro wS hSw; have HX1 := HX _ hSw.2.2.2; have k_0 := HX1 0 _ rfl; have k_1 := HX1 1 _ rfl; have k_2 := HX1 2 _ rfl; have k_3 := HX1 3 _ rfl; have k_4 := HX1 4 _ rfl; have k_5 := HX1 5 _ rfl; have k_6 := HX1 6 _ rfl; have k_7 := HX1 7 _ rfl; have k_8 := HX1 8 _ rfl; have k_9 := HX1 9 _ rfl; have k_10 := HX1 10 _ rfl; have k_11 := HX1 11 _ rfl; simp only [Nat.add_zero] at k_0; clear HX1; go_simp; (with_reducible rfl)
              simp only [List.getElem_toArray, List.getElem_cons_succ, List.getElem_cons_zero, Act.put, List.setIfInBounds_toArray, List.set_cons_zero, List.set_cons_succ]
              refine rg_take 5 (v := ?_) rfl (by kernel_rfl) (by kernel_rfl) (by kernel_rfl) hS rfl ?_ ?_
              rotate_left
              · intro wS hSw; go_simp; (with_reducible rfl)
              simp only [List.getElem_toArray, List.getElem_cons_succ, List.getElem_cons_zero, Act.put, List.setIfInBounds_toArray, List.set_cons_zero, List.set_cons_succ]
              refine rg_take 6 (v := ?_) rfl (by kernel_rfl) (by kernel_rfl) (by kernel_rfl) hS rfl ?_ ?_
              rotate_left
              · intro wS hSw; have k0 := hSw.2.1.cell (j := 3) rfl; go_simp; (with_reducible rfl)
              simp only [List.getElem_toArray, List.getElem_cons_succ, List.getElem_cons_zero, Act.put, List.setIfInBounds_toArray, List.set_cons_zero, List.set_cons_succ]
              refine rg_take 7 (v := ?_) rfl (by kernel_rfl) (by kernel_rfl) (by kernel_rfl) hS rfl ?_ ?_
              rotate_left
              · intro wS hSw; go_simp; (with_reducible rfl)
              simp only [List.getElem_toArray, List.getElem_cons_succ, List.getElem_cons_zero, Act.put, List.setIfInBounds_toArray, List.set_cons_zero, List.set_cons_succ]
              refine rg_take 8 (v := ?_) rfl (by kernel_rfl) (by kernel_rfl) (by kernel_rfl) hS rfl ?_ ?_
              rotate_left
              · intro wS hSw; go_simp; (with_reducible rfl)
              simp only [List.getElem_toArray, List.getElem_cons_succ, List.getElem_cons_zero, Act.put, List.setIfInBounds_toArray, List.set_cons_zero, List.set_cons_succ]
              refine rg_take 9 (v := ?_) rfl (by kernel_rfl) (by kernel_rfl) (by kernel_rfl) hS rfl ?_ ?_
              rotate_left
              · intro wS hSw; have HX1 := HY _ hSw.2.2.2; have k_0 := HX1 0 _ rfl; have k_1 := HX1 1 _ rfl; have k_2 := HX1 2 _ rfl; have k_3 := HX1 3 _ rfl; have k_4 := HX1 4 _ rfl; have k_5 := HX1 5 _ rfl; have k_6 := HX1 6 _ rfl; have k_7 := HX1 7 _ rfl; have k_8 := HX1 8 _ rfl; have k_9 := HX1 9 _ rfl; have k_10 := HX1 10 _ rfl; have k_11 := HX1 11 _ rfl; simp only [Nat.add_zero] at k_0; clear HX1; go_simp; (with_reducible rfl)
              simp only [List.getElem_toArray, List.getElem_cons_succ, List.getElem_cons_zero, Act.put, List.setIfInBounds_toArray, List.set_cons_zero, List.set_cons_succ]
              refine rg_one 10 rfl (by kernel_rfl) rfl (fun K hK => ?_)
              go_simp
              refine (hrec _ hS.2.2.2).mono ?_
              rintro e w5 ⟨rfl, hB5⟩
              obtain ⟨hX4, hY4, hB4, hB24⟩ := hS
              have hS : Box w5 xb 26 #[.int .u8 (v.cls : Int), .int .u8 (v.code : Int), .bool v.sync, .slice (some ⟨b, off, none⟩) v.args.length c] ∧ Box w5 yb 26 #[.int .u8 (u.cls : Int), .int .u8 (u.code : Int), .bool u.sync, .slice (some ⟨b', off', none⟩) u.args.length c'] ∧ Below w.heap.size w w5 ∧ Below w2.heap.size w2 w5 := ⟨hX4.below hB5, hY4.below hB5, hB4.trans (hB5.mono hB4.size), hB24.trans (hB5.mono hB24.size)⟩
              clear hX4 hY4 hB4 hB24 hB5 hX3 hY3 hB3 hB23 HX HY hrec
              refine hK _ _ hS ?_; clear hK K
              try simp only [List.getElem_toArray, List.getElem_cons_succ, List.getElem_cons_zero, Act.put, List.setIfInBounds_toArray, List.set_cons_zero, List.set_cons_succ]
              refine rg_take 11 (v := ?_) rfl (by kernel_rfl) (by kernel_rfl) (by kernel_rfl) hS rfl ?_ ?_
              rotate_left
              · intro wS hSw; go_simp; (with_reducible rfl)
              simp only [List.getElem_toArray, List.getElem_cons_succ, List.getElem_cons_zero, Act.put, List.setIfInBounds_toArray, List.set_cons_zero, List.set_cons_succ]
              refine rg_end (by kernel_rfl) ?_
              obtain ⟨hX4, hY4, hB4, hB24⟩ := hS
              cases hs : sameA x y
              · have HF2 : Hid (sameAs v.args u.args = false) := Lib.hid (by rw [← HC.out, HD.out, hs]; rfl)
                clear hs
                go_wp2_with (first | (with_reducible refine hold_append ?_) | (with_reducible refine hold_make ?_) | (with_reducible refine hold_copy ?_))
                go_ret
                rw [HF.out, HF2.out]
                exact ⟨rfl, hB4⟩
              · have HC2 : Hid (sameAs (v.args.drop (i + 1)) (u.args.drop (i + 1)) = sameAs v.args u.args) := Lib.hid (by rw [← HC.out, HD.out, hs]; rfl)
                clear hs
                go_wp2_with (first | (with_reducible refine hold_append ?_) | (with_reducible refine hold_make ?_) | (with_reducible refine hold_copy ?_))
                exact ⟨⟨i + 1, by omega, by go_num, hX4, hY4, hB4, hB24, HC2⟩, by simp [RowKit.intOf]; omega⟩
            · have g1 : ¬ (i : Int) < (v.args.length : Int) := by omega
              have HF2 : Hid (sameAs v.args u.args = true) := Lib.hid (by
                rw [← HC.out, List.drop_eq_nil_of_le (by omega), List.drop_eq_nil_of_le (by have := HLL.out; omega), sameAs])
              clear hel hfl
              go_wp2_with (first | (with_reducible refine hold_append ?_) | (with_reducible refine hold_make ?_) | (with_reducible refine hold_copy ?_))
              go_ret
              rw [HF.out, HF2.out]
              exact ⟨rfl, hB3⟩
        · have g4 : ((v.args.length : Int) != (u.args.length : Int)) = true := by simp; omega
          have HF : Hid (sameM v u = false) := Lib.hid (by rw [HF.out, sameAs_len e4])
          clear e1 e2 e3 e4 HS hel hfl
          go_enter Tryz.func9, Tryz.ntmps9
          go_upto_region 1 with fail
          rw [← hxb, ← hxv, hyb', ← hyv]
          clear hxb hxv hyb' hyv
          go_wp2_with (first | (with_reducible refine hold_append ?_) | (with_reducible refine hold_make ?_) | (with_reducible refine hold_copy ?_))
          go_ret
          rw [HF.out]
          exact ⟨rfl, hB⟩
      · have g3 : (v.sync != u.sync) = true := by simpa using e3
        have g3' : (v.sync == u.sync) = false := by simpa using e3
        have HF : Hid (sameM v u = false) := Lib.hid (by rw [HS.out]; simp [e3])
        clear e1 e2 e3 hel hfl
        go_enter Tryz.func9, Tryz.ntmps9
        go_upto_region 1 with fail
        rw [← hxb, ← hxv, hyb', ← hyv]
        clear hxb hxv hyb' hyv
        go_wp2_with (first | (with_reducible refine hold_append ?_) | (with_reducible refine hold_make ?_) | (with_reducible refine hold_copy ?_))
        go_ret
        rw [HF.out]
        exact ⟨rfl, hB⟩
    · have g2 : ((v.code : Int) != (u.code : Int)) = true := by simp; omega
      have HF : Hid (sameM v u = false) := Lib.hid (by rw [HS.out]; simp [e2])
      clear e1 e2 hel hfl
      go_enter Tryz.func9, Tryz.ntmps9
      go_upto_region 1 with fail
      rw [← hxb, ← hxv, hyb', ← hyv]
      clear hxb hxv hyb' hyv
      go_wp2_with (first | (with_reducible refine hold_append ?_) | (with_reducible refine hold_make ?_) | (with_reducible refine hold_copy ?_))
      go_ret
      rw [HF.out]
      exact ⟨rfl, hB⟩
  · have g1 : ((v.cls : Int) != (u.cls : Int)) = true := by simp; omega
    have HF : Hid (sameM v u = false) := Lib.hid (by rw [HS.out]; simp [e1])
    clear e1 hel hfl
    go_enter Tryz.func9, Tryz.ntmps9
    go_upto_region 1 with fail
    rw [← hxb, ← hxv, hyb', ← hyv]
    clear hxb hxv hyb' hyv
    go_wp2_with (first | (with_reducible refine hold_append ?_) | (with_reducible refine hold_make ?_) | (with_reducible refine hold_copy ?_))
    go_ret
    rw [HF.out]
    exact ⟨rfl, hB⟩
end Go.PH
end
section
/- Which methods can be looked at: the walk of the document's Small. -/
set_option linter.all false
set_option linter.unusedSimpArgs false
set_option linter.unusedVariables false
namespace Go.PH
open Go.RowKit Go.Proofs

def smallA (a : Ag) : Bool := decide (a.q.length ≤ 1100) && decide (a.s.length ≤ 70000) && smallB a.v
def smallM (m : Mt) : Bool := decide (m.args.length ≤ 8) && m.args.all smallA
set_option maxRecDepth 20000 in
set_option maxHeartbeats 1000000 in
theorem rsmallM_any (v : Mt) (A : Option Addr) (c : Nat) (w : World) (hv : RMw w v A c) :
    Calls Tryz.prog 10 #[.agg (mtV v A c)] w fun e w' => e = .returned (.bool (smallM v)) ∧ Below w.heap.size w w' := by
  unfold mtV
  obtain ⟨xb, w1, hxb, hxv, hX, hB1⟩ := alloc_stepV w #[.int .u8 (v.cls : Int), .int .u8 (v.code : Int), .bool v.sync, .slice A v.args.length c] 26
  have hv1 := hv.up hB1
  have hel := fun {i : Nat} (hi : i < v.args.length) => hv1.elem hi
  have hNm := hv.len
  have c3 := hX.cell (j := 3) rfl
  clear hv hv1
  by_cases h8 : v.args.length ≤ 8
  · have g0 : ¬ (8 : Int) < (v.args.length : Int) := by omega
    have HS : Hid (smallM v = v.args.all smallA) := Lib.hid (by unfold smallM; rw [decide_eq_true h8]; rfl)
    clear h8
    go_enter Tryz.func10, Tryz.ntmps10
    go_upto_region 1 with fail
    rw [← hxb, ← hxv]
    clear hxb hxv
    go_wp2_with (first | (with_reducible refine hold_append ?_) | (with_reducible refine hold_make ?_) | (with_reducible refine hold_copy ?_))
    clear c3 g0
    go_loopw [3] (fun s wr => ∃ i : Nat, i ≤ v.args.length ∧ s = .int .i64 i ∧ Box wr xb 26 #[.int .u8 (v.cls : Int), .int .u8 (v.code : Int), .bool v.sync, .slice A v.args.length c] ∧ Below w.heap.size w wr ∧ Below w1.heap.size w1 wr ∧ Hid ((v.args.drop i).all smallA = v.args.all smallA)) (fun s _ => v.args.length - (RowKit.intOf s).toNat)
    case atStart => exact ⟨0, by omega, rfl, hX, hB1, Below.refl _ _, Lib.hid rfl⟩
    case round =>
      as_aux_lemma =>
      clear hX hB1
      obtain ⟨i, hi, rfl, hX, hB, hB2, HC⟩ := hrel
      have c3 := hX.cell (j := 3) rfl
      simp only [List.getElem_toArray, List.getElem_cons_succ, List.getElem_cons_zero] at c3
      by_cases hlt : i < v.args.length
      · have g1 : (i : Int) < (v.args.length : Int) := by omega
        obtain ⟨b, off, hx, rfl, hvx, HX⟩ := hel hlt
        have HD : Hid ((v.args.drop i).all smallA = (smallA v.args[i] && (v.args.drop (i + 1)).all smallA)) := Lib.hid (by rw [List.drop_eq_getElem_cons hlt, List.all_cons])
        have HX1 := HX wr hB2
        have hqm : v.args[i].q.length ≤ 140737488351232 := by have a2 := hvx.c; omega
        have hsm := hvx.s
        have hrec := rsmall_any v.args[i].v hx.h wr (hvx.up hB2).v
        clear hvx HX
        generalize v.args[i] = x at *
        have k_0 := HX1 0 _ rfl
        have k_1 := HX1 1 _ rfl
        have k_2 := HX1 2 _ rfl
        have k_3 := HX1 3 _ rfl
        have k_4 := HX1 4 _ rfl
        have k_5 := HX1 5 _ rfl
        have k_6 := HX1 6 _ rfl
        have k_7 := HX1 7 _ rfl
        have k_8 := HX1 8 _ rfl
        have k_9 := HX1 9 _ rfl
        have k_10 := HX1 10 _ rfl
        have k_11 := HX1 11 _ rfl
        simp only [Nat.add_zero] at k_0
        clear HX1
        unfold vlV at hrec
        have HA : Hid (smallA x = (decide (x.q.length ≤ 1100) && decide (x.s.length ≤ 70000) && smallB x.v)) := Lib.hid rfl
        have hss := str_size x.s
        by_cases q1 : x.q.length ≤ 1100
        · have g2 : ¬ (1100 : Int) < (x.q.length : Int) := by omega
          by_cases q2 : x.s.length ≤ 70000
          · have g3 : ¬ (70000 : Int) < (x.s.length : Int) := by omega
            have HB : Hid (smallA x = smallB x.v) := Lib.hid (by rw [HA.out, decide_eq_true q1, decide_eq_true q2]; rfl)
            clear q1 q2
            cases hs : smallB x.v
            · rw [hs] at hrec
              have HF : Hid (smallM v = false) := Lib.hid (by rw [HS.out, ← HC.out, HD.out, HB.out, hs]; rfl)
              clear hs hel
              go_wp2_with (first | (with_reducible refine hold_append ?_) | (with_reducible refine hold_make ?_) | (with_reducible refine hold_copy ?_))
              refine hrec.mono ?_
              rintro e w3 ⟨rfl, hB3⟩
              clear hrec k_0 k_1 k_2 k_3 k_4 k_5 k_6 k_7 k_8 k_9 k_10 k_11 c3
              go_wp2_with (first | (with_reducible refine hold_append ?_) | (with_reducible refine hold_make ?_) | (with_reducible refine hold_copy ?_))
              go_ret
              rw [HF.out]
              exact ⟨rfl, hB.trans (hB3.mono hB.size)⟩
            · rw [hs] at hrec
              have HC2 : Hid ((v.args.drop (i + 1)).all smallA = v.args.all smallA) := Lib.hid (by rw [← HC.out, HD.out, HB.out, hs]; rfl)
              clear hs hel
              go_wp2_with (first | (with_reducible refine hold_append ?_) | (with_reducible refine hold_make ?_) | (with_reducible refine hold_copy ?_))
              refine hrec.mono ?_
              rintro e w3 ⟨rfl, hB3⟩
              clear hrec k_0 k_1 k_2 k_3 k_4 k_5 k_6 k_7 k_8 k_9 k_10 k_11 c3
              go_wp2_with (first | (with_reducible refine hold_append ?_) | (with_reducible refine hold_make ?_) | (with_reducible refine hold_copy ?_))
              exact ⟨⟨i + 1, by omega, by go_num, hX.below hB3, hB.trans (hB3.mono hB.size), hB2.trans (hB3.mono hB2.size), HC2⟩, by simp [RowKit.intOf]; omega⟩
          · have g3 : (70000 : Int) < (x.s.length : Int) := by omega
            have h0 : smallA x = false := by rw [HA.out, decide_eq_false q2]; simp
            clear q1 q2 hrec
            have HF : Hid (smallM v = false) := Lib.hid (by rw [HS.out, ← HC.out, HD.out, h0]; simp)
            clear hel
            go_wp2_with (first | (with_reducible refine hold_append ?_) | (with_reducible refine hold_make ?_) | (with_reducible refine hold_copy ?_))
            go_ret
            rw [HF.out]
            exact ⟨rfl, hB⟩
        · have g2 : (1100 : Int) < (x.q.length : Int) := by omega
          have h0 : smallA x = false := by rw [HA.out, decide_eq_false q1]; simp
          clear q1 hrec
          have HF : Hid (smallM v = false) := Lib.hid (by rw [HS.out, ← HC.out, HD.out, h0]; simp)
          clear hel
          go_wp2_with (first | (with_reducible refine hold_append ?_) | (with_reducible refine hold_make ?_) | (with_reducible refine hold_copy ?_))
          go_ret
          rw [HF.out]
          exact ⟨rfl, hB⟩
      · have g1 : ¬ (i : Int) < (v.args.length : Int) := by omega
        have HF : Hid (smallM v = true) := Lib.hid (by rw [HS.out, ← HC.out, List.drop_eq_nil_of_le (by omega)]; rfl)
        clear hel
        go_wp2_with (first | (with_reducible refine hold_append ?_) | (with_reducible refine hold_make ?_) | (with_reducible refine hold_copy ?_))
        go_ret
        rw [HF.out]
        exact ⟨rfl, hB⟩
  · have g0 : (8 : Int) < (v.args.length : Int) := by omega
    have HF : Hid (smallM v = false) := Lib.hid (by unfold smallM; rw [decide_eq_false h8]; rfl)
    clear h8 hel
    go_enter Tryz.func10, Tryz.ntmps10
    go_upto_region 1 with fail
    rw [← hxb, ← hxv]
    clear hxb hxv
    go_wp2_with (first | (with_reducible refine hold_append ?_) | (with_reducible refine hold_make ?_) | (with_reducible refine hold_copy ?_))
    go_ret
    rw [HF.out]
    exact ⟨rfl, hB1⟩
end Go.PH
end
section
/- A method in memory of its own: the walk of the document's Copy. -/
set_option linter.all false
set_option linter.unusedSimpArgs false
set_option linter.unusedVariables false
namespace Go.PH
open Go.RowKit Go.Proofs

theorem slAg : SlT Tryz.prog 24 52 12 176 (.agg #[.bool false, .int .u64 0, .string ⟨#[]⟩, .int .u32 0, .string ⟨#[]⟩, .string ⟨#[]⟩, .slice none 0 0, .int .u8 0, .int .u64 0, .string ⟨#[]⟩, .slice none 0 0, .slice none 0 0]) := SlT.mk' Tryz.underlying24 (by kernel_rfl) rfl (by omega)
structure MpS (wr : World) (base : Nat) (A : Option Addr) (c : Nat) (xs : List (Ag × AH)) : Prop where
  own : Own wr base 52 12 A xs.length c (rowC agC xs)
  el : ∀ p ∈ xs, RA wr (FB base A wr) p.1 p.2
theorem MpS.on {wr wr' : World} {base : Nat} {A : Option Addr} {c : Nat} {xs : List (Ag × AH)} (h : MpS wr base A c xs) (hk : ∀ g, base ≤ g → g < wr.heap.size → wr'.heap[g]? = wr.heap[g]?) (hs : wr.heap.size ≤ wr'.heap.size) : MpS wr' base A c xs := by
  have hF : ∀ g, FB base A wr g → FB base A wr' g := fun g hg => ⟨hg.1, Nat.lt_of_lt_of_le hg.2.1 hs, hg.2.2⟩
  refine ⟨?_, fun p hp => ((h.el p hp).keep (fun g hg => hk g hg.1 hg.2.1) hs).mono hF⟩
  have ho := h.own
  unfold Own World.ownsRow at ho ⊢
  obtain ⟨hl, h1⟩ := ho
  refine ⟨hl, h1.imp id ?_⟩
  rintro ⟨g, cap, cur, hv, hb, hh, hr⟩
  exact ⟨g, cap, cur, hv, hb, (hk g hb (Array.getElem?_eq_some_iff.1 hh).1).trans hh, hr⟩
theorem MpS.below {wr wr' : World} {base : Nat} {A : Option Addr} {c : Nat} {xs : List (Ag × AH)} (h : MpS wr base A c xs) (hB : Below wr.heap.size wr wr') : MpS wr' base A c xs := h.on (fun g _ hg => hB.block g hg) hB.size
theorem MpS.box {wr wr' : World} {base b : Nat} {A : Option Addr} {c : Nat} {xs : List (Ag × AH)} (h : MpS wr base A c xs) (hg : wr.grownBy wr' (some b)) (hb : b < base) : MpS wr' base A c xs :=
  h.on (fun g hg1 hg2 => hg.block g hg2 (fun e => by injection e with e; omega)) hg.size
theorem MpS.push {w5 w6 : World} {base : Nat} {A A2 : Option Addr} {c c2 : Nat} {xs : List (Ag × AH)} {x : Ag} {hx : AH} (h : MpS w5 base A c xs) (hv : RA w5 (FB base A w5) x hx)
    (ho : Own w6 base 52 12 A2 (xs.length + 1) c2 (rowC agC (xs ++ [(x, hx)]))) (hg : w5.grownBy w6 (blk A)) (hA : blk A2 = blk A ∨ ∀ g, blk A2 = some g → w5.heap.size ≤ g) : MpS w6 base A2 c2 (xs ++ [(x, hx)]) := by
  have hF : ∀ g, FB base A w5 g → FB base A2 w6 g := fun g hg1 => ⟨hg1.1, Nat.lt_of_lt_of_le hg1.2.1 hg.size, by
    rcases hA with e | e
    · rw [e]; exact hg1.2.2
    · intro e2; have := e g e2; have := hg1.2.1; omega⟩
  have hk : ∀ g, FB base A w5 g → w6.heap[g]? = w5.heap[g]? := fun g hg1 => hg.block g hg1.2.1 (fun e => hg1.2.2 e.symm)
  refine ⟨by rw [List.length_append]; exact ho, fun p hp => ?_⟩
  rcases List.mem_append.1 hp with hp | hp
  · exact ((h.el p hp).keep hk hg.size).mono hF
  · obtain rfl := List.mem_singleton.1 hp
    exact (hv.keep hk hg.size).mono hF
def CopyMR (w : World) (v : Mt) (e : Ending) (w' : World) : Prop := ∃ A' c', e = .returned (.agg (mtV v A' c')) ∧ RM w' (FN w.heap.size w') v A' c' ∧ Below w.heap.size w w'
set_option maxRecDepth 20000 in
set_option maxHeartbeats 4000000 in
theorem rcopyM_any (v : Mt) (A : Option Addr) (c : Nat) (w : World) (hv : RMw w v A c) (hl8 : v.args.length ≤ 1000) (hq : ∀ a ∈ v.args, a.q.length ≤ 100000) (hf : ∀ a ∈ v.args, FineV a.v) : Calls Tryz.prog 12 #[.agg (mtV v A c)] w (CopyMR w v) := by
  unfold mtV
  have hc8 := hv.cls
  have hd8 := hv.code
  obtain ⟨xb, w1, hxb, hxv, hX, hB1⟩ := alloc_stepV w #[.int .u8 (v.cls : Int), .int .u8 (v.code : Int), .bool v.sync, .slice A v.args.length c] 26
  obtain ⟨rb, w2, hrb, hrv, hR, hB2⟩ := alloc_stepV w1 #[.int .u8 0, .int .u8 0, .bool false, .slice none 0 0] 26
  obtain ⟨ob, w3, hob, hov, hO, hB3⟩ := alloc_stepV w2 #[.int .u8 (v.cls : Int), .int .u8 (v.code : Int), .bool v.sync, .slice none 0 0] 26
  have e1 : xb + 1 = rb := by rw [hrb, hxv, hxb]; simp
  have e2 : xb + 2 = ob := by rw [hob, hrv, hxv, hxb]; simp
  have e2' : rb + 1 = ob := by omega
  have e4 : w1.heap.size = xb + 1 := by rw [hxv, hxb]; simp
  have e5 : xb = w.heap.size := hxb
  have e3 : w3.heap.size = ob + 1 := by rw [hov, hob]; simp
  have hB13 := hB2.trans (hB3.mono hB2.size)
  have hB03 := hB1.trans (hB13.mono hB1.size)
  have hv1 := hv.up hB1
  have hel := fun {i : Nat} (hi : i < v.args.length) => hv1.elem hi
  have hX2 := hX.below hB2
  have hX3 := hX.below hB13
  have hR3 := hR.below hB3
  have c0 := hX2.cell (j := 0) rfl
  have c1 := hX2.cell (j := 1) rfl
  have c2 := hX2.cell (j := 2) rfl
  have HQ := Lib.hid hq
  have HFE := Lib.hid hf
  have HC8 := Lib.hid hc8
  have HD8 := Lib.hid hd8
  clear hv hv1 hB1 hB2 hB3 hX hR hX2 hf hq hc8 hd8
  go_enter Tryz.func12, Tryz.ntmps12
  go_upto_region 2 with fail
  rw [← hxv, ← hrv, ← hov, ← hxb, e1, e2']
  clear hxb hxv hrb hrv hob hov c0 c1 c2
  have he4 : w1.heap.size ≤ ob := by omega
  have he5 : w.heap.size + 2 = ob := by omega
  have he6 : xb + 2 = ob := e2
  have he7 : rb + 1 = ob := e2'
  have HE5 := Lib.hid e5
  clear e1 e2 e2' e5
  have hS3 : MpS w3 (ob + 1) none 0 [] := ⟨Own.none_ _ _ _ _, fun p hp => by cases hp⟩
  have hsz3 : ob + 1 ≤ w3.heap.size := by omega
  clear e3 e4
  go_wp2_with (first | (with_reducible refine hold_append ?_) | (with_reducible refine hold_make ?_) | (with_reducible refine hold_copy ?_))
  go_loopw [4] (fun s wr => ∃ (i : Nat) (A3 : Option Addr) (c3 : Nat) (xs : List (Ag × AH)), i ≤ v.args.length ∧ s = .int .i64 i ∧ xs.length = i ∧ Hid (xs.map (·.1) = v.args.take i) ∧ MpS wr (ob + 1) A3 c3 xs ∧ Box wr xb 26 #[.int .u8 (v.cls : Int), .int .u8 (v.code : Int), .bool v.sync, .slice A v.args.length c] ∧ Box wr rb 26 #[.int .u8 0, .int .u8 0, .bool false, .slice none 0 0] ∧ Box wr ob 26 #[.int .u8 (v.cls : Int), .int .u8 (v.code : Int), .bool v.sync, .slice A3 i c3] ∧ Below w.heap.size w wr ∧ Below w1.heap.size w1 wr ∧ ob + 1 ≤ wr.heap.size) (fun s _ => v.args.length - (RowKit.intOf s).toNat)
  case atStart => exact ⟨0, none, 0, [], by omega, rfl, rfl, Lib.hid (by simp), hS3, hX3, hR3, hO, hB03, hB13, hsz3⟩
  case round =>
    clear hS3 hX3 hR3 hO hB03 hB13 hsz3
    obtain ⟨i, A3, c3, xs, hi, rfl, hxl, HXS, hS, hX, hR, hO, hB, hB1, hsz⟩ := hrel
    have HXL := Lib.hid hxl
    clear hxl
    have x3 := hX.cell (j := 3) rfl
    simp only [List.getElem_toArray, List.getElem_cons_succ, List.getElem_cons_zero] at x3
    by_cases hlt : i < v.args.length
    · have g1 : (i : Int) < (v.args.length : Int) := by omega
      obtain ⟨b, off, hx, rfl, hvx, HX⟩ := hel hlt
      have HXS2 : Hid (xs.map (·.1) ++ [v.args[i]] = v.args.take (i + 1)) := Lib.hid (by rw [HXS.out, List.take_succ_eq_append_getElem hlt])
      have hqx := HQ.out _ (List.getElem_mem hlt)
      have hfx := HFE.out _ (List.getElem_mem hlt)
      have HX1 := HX wr hB1
      have hvr := hvx.up hB1
      clear hel hvx HX
      generalize v.args[i] = x at *
      obtain ⟨QA, Qc, hh⟩ := hx
      have k_0 := HX1 0 _ rfl
      have k_1 := HX1 1 _ rfl
      have k_2 := HX1 2 _ rfl
      have k_3 := HX1 3 _ rfl
      have k_4 := HX1 4 _ rfl
      have k_5 := HX1 5 _ rfl
      have k_6 := HX1 6 _ rfl
      have k_7 := HX1 7 _ rfl
      have k_8 := HX1 8 _ rfl
      have k_9 := HX1 9 _ rfl
      have k_10 := HX1 10 _ rfl
      have k_11 := HX1 11 _ rfl
      simp only [Nat.add_zero] at k_0
      simp only at k_0 k_1 k_2 k_3 k_4 k_5 k_6 k_7 k_8 k_9 k_10 k_11
      clear HX1
      obtain ⟨ab, w4, hab, hav, hAB, hB4⟩ := alloc_stepV wr #[.bool x.is, .int .u64 (x.n : Int), .string (str x.s), .int .u32 (x.x.fmt : Int), .string (str x.x.glob), .string (str x.x.bran), .slice QA x.q.length Qc, .int .u8 (x.v.kind : Int), .int .u64 (x.v.n : Int), .string (str x.v.s), .slice hh.A1 x.v.keys.length hh.c1, .slice hh.A2 x.v.list.length hh.c2] 52
      have hv4 := hvr.up hB4
      have hz4 := hB4.size
      have halt := hAB.lt
      go_upto_region 6 with fail
      rw [← hab, ← hav]
      have HAB := Lib.hid hab
      have HSZ : Hid (w4.heap.size = ab + 1) := Lib.hid (by rw [hav, hab]; simp)
      clear hab hav x3
      clear k_0 k_1 k_2 k_3 k_4 k_5 k_6 k_7 k_8 k_9 k_10 k_11
      have hS4 := hS.below hB4
      have hX4 := hX.below hB4
      have hR4 := hR.below hB4
      have hO4 := hO.below hB4
      have hB04 := hB.trans (hB4.mono hB.size)
      have hB14 := hB1.trans (hB4.mono hB1.size)
      have HK4 : Hid (∀ g, g < wr.heap.size → w4.heap[g]? = wr.heap[g]?) := Lib.hid (fun g hg => hB4.block g hg)
      have hSr := hS
      clear hS hX hR hO hB4
      have a6 := hAB.cell (j := 6) rfl
      have hcq := scopy_any QA x.q.length Qc x.q w4 hv4.q.1 (by omega)
      go_wp2_with (first | (with_reducible refine hold_append ?_) | (with_reducible refine hold_make ?_) | (with_reducible refine hold_copy ?_) | (with_reducible refine hold_store ?_))
      refine hcq.mono ?_
      rintro e w5 ⟨QA2, Qc2, rfl, hoq, hB5⟩
      clear hcq a6
      have hAB5 := hAB.below hB5
      go_wp2_with (first | (with_reducible refine hold_append ?_) | (with_reducible refine hold_make ?_) | (with_reducible refine hold_copy ?_) | (with_reducible refine hold_store ?_))
      refine unhold (wp_box (v := .slice QA2 x.q.length Qc2) (vs := [.slice QA2 x.q.length Qc2]) rfl rfl rfl rfl hAB5 rfl (by kernel_rfl) (by simp) (by simp; rfl) #[.bool x.is, .int .u64 (x.n : Int), .string (str x.s), .int .u32 (x.x.fmt : Int), .string (str x.x.glob), .string (str x.x.bran), .slice QA2 x.q.length Qc2, .int .u8 (x.v.kind : Int), .int .u64 (x.v.n : Int), .string (str x.v.s), .slice hh.A1 x.v.keys.length hh.c1, .slice hh.A2 x.v.list.length hh.c2] (by simp) ?_)
      intro w6 hAB6 hg6 hs6
      have hF4 : ∀ g, g < wr.heap.size → g < w4.heap.size ∧ g ≠ ab := fun g hg => ⟨by omega, by have := HAB.out; omega⟩
      have hv6 : RVw w6 x.v hh := by
        have h1 : RV wr (fun g => g < wr.heap.size) x.v hh := hvr.v
        refine (h1.keep (fun g hg => ?_) (by have := hB5.size; have := hg6.size; omega)).mono (fun g hg => by have := hB5.size; have := hg6.size; omega)
        have h2 := hF4 g hg
        rw [hg6.block g (by have := hB5.size; omega) (fun e => by injection e with e; omega), hB5.block g h2.1, HK4.out g hg]
      have hq6 : RdX w6 (FN (ab + 1) w6) 2 QA2 x.q.length Qc2 (spCells x.q) := RdX.of_own (own_stays hoq hg6 (fun g hg e => by injection e with e; have := (hoq.blk_lt hg).1; omega)) (fun g hg => by
        have h1 := hoq.blk_lt hg
        have h2 := HSZ.out
        exact ⟨by omega, by omega⟩)
      have hk6 : ∀ g, g < ab → w6.heap[g]? = w4.heap[g]? := fun g hg => (hg6.block g (by have := hB5.size; omega) (fun e => by injection e with e; omega)).trans (hB5.block g (by omega))
      have hS6 : MpS w6 (ob + 1) A3 c3 xs := hSr.on (fun g _ hg => (hk6 g (by have := HAB.out; omega)).trans (HK4.out g hg)) (by have := hB5.size; have := hg6.size; omega)
      have hX6 := (hX4.below hB5).grown hg6 (by intro e; injection e with e; have := HAB.out; omega)
      have hR6 := (hR4.below hB5).grown hg6 (by intro e; injection e with e; have := HAB.out; omega)
      have hO6 := (hO4.below hB5).grown hg6 (by intro e; injection e with e; have := HAB.out; omega)
      have hB06 := (hB04.trans (hB5.mono hB04.size)).grown hg6 (by have := hB04.size; have := hB5.size; omega) (fun g hg => by injection hg with hg; have := HAB.out; have := hB.size; omega)
      have hB16 := (hB14.trans (hB5.mono hB14.size)).grown hg6 (by have := hB14.size; have := hB5.size; omega) (fun g hg => by injection hg with hg; have := HAB.out; have := hB1.size; omega)
      have hz6 : ab < w6.heap.size := by have := hB5.size; have := hg6.size; omega
      have HK6 : Hid (∀ g, g < ab → w6.heap[g]? = wr.heap[g]?) := Lib.hid (fun g hg => (hk6 g hg).trans (HK4.out g (by have := HAB.out; omega)))
      clear hg6 hs6 hB5 hAB5 hX4 hR4 hO4 hB04 hB14 hAB hk6 hoq
      have a_0 := hAB6.cell (j := 0) rfl
      have a_1 := hAB6.cell (j := 1) rfl
      have a_2 := hAB6.cell (j := 2) rfl
      have a_3 := hAB6.cell (j := 3) rfl
      have a_4 := hAB6.cell (j := 4) rfl
      have a_5 := hAB6.cell (j := 5) rfl
      have a_6 := hAB6.cell (j := 6) rfl
      have a_7 := hAB6.cell (j := 7) rfl
      have a_8 := hAB6.cell (j := 8) rfl
      have a_9 := hAB6.cell (j := 9) rfl
      have a_10 := hAB6.cell (j := 10) rfl
      have a_11 := hAB6.cell (j := 11) rfl
      have hcv := rcopy_any x.v hh w6 hfx hv6
      unfold vlV at hcv
      unfold CopyR at hcv
      go_wp2_with (first | (with_reducible refine hold_append ?_) | (with_reducible refine hold_make ?_) | (with_reducible refine hold_copy ?_) | (with_reducible refine hold_store ?_))
      refine hcv.mono ?_
      rintro e w7 ⟨h7, rfl, hRV, hB7⟩
      unfold vlV
      clear hcv
      clear a_0 a_1 a_2 a_3 a_4 a_5 a_6 a_7 a_8 a_9 a_10 a_11
      have hAB7 := hAB6.below hB7
      go_wp2_with (first | (with_reducible refine hold_append ?_) | (with_reducible refine hold_make ?_) | (with_reducible refine hold_copy ?_) | (with_reducible refine hold_store ?_))
      refine unhold (wp_box (v := .agg #[.int .u8 (x.v.kind : Int), .int .u64 (x.v.n : Int), .string (str x.v.s), .slice h7.A1 x.v.keys.length h7.c1, .slice h7.A2 x.v.list.length h7.c2]) (vs := [.int .u8 (x.v.kind : Int), .int .u64 (x.v.n : Int), .string (str x.v.s), .slice h7.A1 x.v.keys.length h7.c1, .slice h7.A2 x.v.list.length h7.c2]) rfl rfl rfl rfl hAB7 rfl (by kernel_rfl) (by simp) (by simp; exact ⟨rfl, rfl, rfl, rfl, rfl⟩) #[.bool x.is, .int .u64 (x.n : Int), .string (str x.s), .int .u32 (x.x.fmt : Int), .string (str x.x.glob), .string (str x.x.bran), .slice QA2 x.q.length Qc2, .int .u8 (x.v.kind : Int), .int .u64 (x.v.n : Int), .string (str x.v.s), .slice h7.A1 x.v.keys.length h7.c1, .slice h7.A2 x.v.list.length h7.c2] (by simp) ?_)
      intro w8 hAB8 hg8 hs8
      have hnb : ∀ g, blk A3 = some g → ob + 1 ≤ g ∧ g < ab := fun g hg => by have := hSr.own.blk_lt hg; have := HAB.out; omega
      have hz7 := hB7.size
      have hz8 := hg8.size
      have HK8 : Hid (∀ g, g < ab → w8.heap[g]? = wr.heap[g]?) := Lib.hid (fun g hg => (hg8.block g (by omega) (fun e => by injection e with e; omega)).trans ((hB7.block g (by omega)).trans (HK6.out g hg)))
      have hS8 : MpS w8 (ob + 1) A3 c3 xs := hSr.on (fun g _ hg => HK8.out g (by have := HAB.out; omega)) (by have := HAB.out; omega)
      have hX8 := (hX6.below hB7).grown hg8 (by intro e; injection e with e; have := HAB.out; omega)
      have hR8 := (hR6.below hB7).grown hg8 (by intro e; injection e with e; have := HAB.out; omega)
      have hO8 := (hO6.below hB7).grown hg8 (by intro e; injection e with e; have := HAB.out; omega)
      have hB08 := (hB06.trans (hB7.mono hB06.size)).grown hg8 (by have := hB06.size; omega) (fun g hg => by injection hg with hg; have := HAB.out; have := hB.size; omega)
      have hB18 := (hB16.trans (hB7.mono hB16.size)).grown hg8 (by have := hB16.size; omega) (fun g hg => by injection hg with hg; have := HAB.out; have := hB1.size; omega)
      have hF8 : ∀ g, ab + 1 ≤ g → g < w8.heap.size → FB (ob + 1) A3 w8 g := fun g h1 h2 => ⟨by have := HAB.out; omega, h2, fun e => by have := hnb g e; omega⟩
      have hRA : RA w8 (FB (ob + 1) A3 w8) x ⟨QA2, Qc2, h7⟩ := by
        refine ⟨hvr.n, hvr.s, hvr.x, ?_, hvr.ok, hvr.c, ?_⟩
        · refine (hq6.keep (fun g hg => ?_) (by omega)).mono (fun g hg => hF8 g hg.1 (by have := hg.2; omega))
          have h1 := hg.1
          have h2 := hg.2
          rw [hg8.block g (by omega) (fun e => by injection e with e; omega), hB7.block g h2]
        · refine (hRV.keep (fun g hg => ?_) (by omega)).mono (fun g hg => hF8 g (by have := hg.1; omega) (by have := hg.2; omega))
          have h1 := hg.1
          have h2 := hg.2
          exact hg8.block g h2 (fun e => by injection e with e; omega)
      have hown8 : Own w8 (ob + 1) 52 12 A3 i c3 (rowC agC xs) := HXL.out ▸ hS8.own
      clear hq6 hRV hF8 hg8 hs8 hB7 hX6 hR6 hO6 hB06 hB16 hAB6 hAB7 hvr hv6 hF4 hv4 hS6 hSr hS4
      have o3 := hO8.cell (j := 3) rfl
      have a_0 := hAB8.cell (j := 0) rfl
      have a_1 := hAB8.cell (j := 1) rfl
      have a_2 := hAB8.cell (j := 2) rfl
      have a_3 := hAB8.cell (j := 3) rfl
      have a_4 := hAB8.cell (j := 4) rfl
      have a_5 := hAB8.cell (j := 5) rfl
      have a_6 := hAB8.cell (j := 6) rfl
      have a_7 := hAB8.cell (j := 7) rfl
      have a_8 := hAB8.cell (j := 8) rfl
      have a_9 := hAB8.cell (j := 9) rfl
      have a_10 := hAB8.cell (j := 10) rfl
      have a_11 := hAB8.cell (j := 11) rfl
      have hsz8 : ob + 1 ≤ w8.heap.size := by have := HAB.out; omega
      clear hB hB1 hsz hz4 halt hz6 hz7 hz8
      go_wp2_with (first | (with_reducible refine hold_append ?_) | (with_reducible refine hold_make ?_) | (with_reducible refine hold_copy ?_) | (with_reducible refine hold_store ?_))
      refine unhold (wp_rec (W := w8) agShape slAg Tryz.underlying24 rfl rfl rfl rfl rfl (x, (⟨QA2, Qc2, h7⟩ : AH)) rfl hown8 (by omega) (by omega) (by omega) ?_)
      intro A9 c9 w9 ho9 hg9 hA9 _
      have hS9 := hS8.push hRA (by rw [HXL.out]; exact ho9) hg9 hA9
      have hX9 := hX8.grown hg9 (by intro e; have := hnb _ e.symm; omega)
      have hR9 := hR8.grown hg9 (by intro e; have := hnb _ e.symm; omega)
      have hO9 := hO8.grown hg9 (by intro e; have := hnb _ e.symm; omega)
      have hB09 := hB08.grown hg9 hB08.size (fun g hg => by have := hnb g hg; omega)
      have hB19 := hB18.grown hg9 hB18.size (fun g hg => by have := hnb g hg; omega)
      have hz9 := hg9.size
      clear o3 hX8 hR8 hO8 hB08 hB18 hS8 hRA
      clear a_0 a_1 a_2 a_3 a_4 a_5 a_6 a_7 a_8 a_9 a_10 a_11
      go_wp2_with (first | (with_reducible refine hold_append ?_) | (with_reducible refine hold_make ?_) | (with_reducible refine hold_copy ?_) | (with_reducible refine hold_store ?_))
      refine unhold (wp_box (v := .slice A9 (i + 1) c9) (vs := [.slice A9 (i + 1) c9]) rfl rfl rfl rfl hO9 rfl (by kernel_rfl) (by simp) (by simp; rfl) #[.int .u8 (v.cls : Int), .int .u8 (v.code : Int), .bool v.sync, .slice A9 (i + 1) c9] (by simp) ?_)
      intro w10 hO10 hg10 hs10
      have hS10 := hS9.box hg10 (by omega)
      have hX10 := hX9.grown hg10 (by intro e; injection e with e; omega)
      have hR10 := hR9.grown hg10 (by intro e; injection e with e; omega)
      have hB010 := hB09.grown hg10 hB09.size (fun g hg => by injection hg with hg; omega)
      have hB110 := hB19.grown hg10 hB19.size (fun g hg => by injection hg with hg; omega)
      go_wp2_with (first | (with_reducible refine hold_append ?_) | (with_reducible refine hold_make ?_) | (with_reducible refine hold_copy ?_))
      exact ⟨⟨i + 1, A9, c9, xs ++ [(x, ⟨QA2, Qc2, h7⟩)], by omega, by go_num, by rw [List.length_append, HXL.out]; rfl, Lib.hid (by rw [List.map_append]; exact HXS2.out), hS10, hX10, hR10, hO10, hB010, hB110, by omega⟩, by simp [RowKit.intOf]; omega⟩
    · have g1 : ¬ (i : Int) < (v.args.length : Int) := by omega
      obtain rfl : i = v.args.length := by omega
      have HM : Hid (xs.map (·.1) = v.args) := Lib.hid (by rw [HXS.out, List.take_of_length_le (Nat.le_refl _)])
      clear hel
      have o0 := hO.cell (j := 0) rfl
      have o1 := hO.cell (j := 1) rfl
      have o2 := hO.cell (j := 2) rfl
      have o3 := hO.cell (j := 3) rfl
      go_wp2_with (first | (with_reducible refine hold_append ?_) | (with_reducible refine hold_make ?_) | (with_reducible refine hold_copy ?_) | (with_reducible refine hold_store ?_))
      refine unhold (wp_box (v := .agg #[.int .u8 (v.cls : Int), .int .u8 (v.code : Int), .bool v.sync, .slice A3 v.args.length c3]) (vs := [.int .u8 (v.cls : Int), .int .u8 (v.code : Int), .bool v.sync, .slice A3 v.args.length c3]) rfl rfl rfl rfl hR rfl (by kernel_rfl) (by simp) (by simp; exact ⟨rfl, rfl, rfl, rfl⟩) #[.int .u8 (v.cls : Int), .int .u8 (v.code : Int), .bool v.sync, .slice A3 v.args.length c3] (by simp) ?_)
      intro w6 hR6 hg6 _
      have hS6 := hS.box hg6 (by omega)
      have hB6 := below_boxv hB hg6 (by omega)
      clear o0 o1 o2 o3
      go_wp2_with (first | (with_reducible refine hold_append ?_) | (with_reducible refine hold_make ?_) | (with_reducible refine hold_copy ?_))
      refine ret_box1v rfl hR6 rfl Tryz.underlying26 rfl (by kernel_rfl) rfl ?_
      have hFB : ∀ g, FB (ob + 1) A3 w6 g → FN w.heap.size w6 g := fun g hg => ⟨by have := hg.1; omega, hg.2.1⟩
      refine ⟨A3, c3, rfl, ⟨HC8.out, HD8.out, ⟨xs, HM.out, ?_, fun p hp => (hS6.el p hp).mono hFB⟩, by omega⟩, hB6⟩
      have ho := hS6.own
      rw [HXL.out] at ho
      refine RdX.of_own ho (fun g hg => ?_)
      have := ho.blk_lt hg
      exact ⟨by omega, this.2⟩
end Go.PH
end

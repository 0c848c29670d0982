/- Texts laid together: MdLawOne. -/
import Derived.Test.YtidpbbleneekgaaDoorMg16
import Derived.Test.YtidpbbleneekgaaDoorMg23
section
/- MethodOne: the walk. -/
set_option linter.all false
set_option linter.unusedSimpArgs false
set_option linter.unusedVariables false
namespace Go.PH
open Go.RowKit Go.Proofs

theorem strEqP (a b : List UInt8) : ((str a).toList == (str b).toList) = decide (a = b) := by
  rw [str_toList, str_toList]
  by_cases h : a = b <;> simp [h]
set_option maxRecDepth 20000 in
set_option maxHeartbeats 4000000 in
theorem law_MethodOne (v u : Mt) (A : Option Addr) (c : Nat) (A' : Option Addr) (c' : Nat) (w : World) (he : MEnv w) (hT : UTabs w) (hv : RMw w v A c) (hu : RMw w u A' c') :
    Calls Tryd.prog 4 #[.agg (mtV v A c), .agg (mtV u A' c')] w fun e w' => e = .returned (.bool true) ∧ Below w.heap.size w w' := by
  obtain ⟨xb, w1, hxb, hxv, hX, hB1⟩ := alloc_stepV w #[.int .u8 (v.cls : Int), .int .u8 (v.code : Int), .bool v.sync, .slice A v.args.length c] 24
  obtain ⟨yb, w2, hyb, hyv, hY, hB2⟩ := alloc_stepV w1 #[.int .u8 (u.cls : Int), .int .u8 (u.code : Int), .bool u.sync, .slice A' u.args.length c'] 24
  have hyb' : xb + 1 = yb := by rw [hyb, hxv, hxb]; simp
  have hB := hB1.trans (hB2.mono hB1.size)
  have hX2 := hX.below hB2
  have hv2 := hv.up hB
  have hu2 := hu.up hB
  have hsv := rsmallM_any v A c w2 hv2
  have hsu := fun (W : World) (hW : Below w2.heap.size w2 W) => rsmallM_any u A' c' W (hu2.up hW)
  have hsm := fun (W : World) (hW : Below w2.heap.size w2 W) => msameM_any v u A c A' c' W (hv2.up hW) (hu2.up hW)
  have hpv := fun (W : World) (hW : Below w2.heap.size w2 W) => mput_all v A c W (he.on (hB.trans (hW.mono hB.size))) (hT.on (hB.trans (hW.mono hB.size))) (hv2.up hW)
  have hpu := fun (W : World) (hW : Below w2.heap.size w2 W) => mput_all u A' c' W (he.on (hB.trans (hW.mono hB.size))) (hT.on (hB.trans (hW.mono hB.size))) (hu2.up hW)
  have hhd := fun (W : World) (hW : Below w.heap.size w W) => mdhead_any W (he.on hW)
  have hab : ∀ {m : Mt} {A : Option Addr} {c : Nat}, RMw w m A c → m.cls < 256 ∧ m.code < 256 ∧ ∀ x ∈ m.args, AB x := by
    intro m A c hm
    refine ⟨hm.cls, hm.code, fun x hx => ?_⟩
    obtain ⟨xs, e, _, h2⟩ := hm.row
    rw [← e] at hx
    obtain ⟨p, hp, rfl⟩ := List.mem_map.1 hx
    exact (h2 p hp).ab
  have hone : goodM v = true → goodM u = true → decide (putM v = putM u) = sameM v u := fun g1 g2 => by
    rw [Bool.eq_iff_iff, decide_eq_true_iff, sameM_iff]
    exact ⟨fun e => putM_inj g1 g2 (hab hv) (hab hu) e, fun e => by rw [e]⟩
  have heq := strEqP (putM v) (putM u)
  have HE1 : Hid (errM v = if goodM v = true then 0 else 80) := Lib.hid rfl
  have HE2 : Hid (errM u = if goodM u = true then 0 else 80) := Lib.hid rfl
  unfold mtV at hsv hsu hsm hpv hpu ⊢
  unfold MPut at hpv hpu
  have HONE := Lib.hid hone
  generalize decide (putM v = putM u) = o at *
  generalize putM v = P at *
  generalize putM u = Q at *
  generalize errM v = E1 at *
  generalize errM u = E2 at *
  generalize goodM v = G1 at *
  generalize goodM u = G2 at *
  generalize sameM v u = r at *
  clear hyb hX hv hu hv2 hu2 he hT hab hone
  have c0 := hX2.cell (j := 0) rfl
  have c1 := hX2.cell (j := 1) rfl
  have c2 := hX2.cell (j := 2) rfl
  have c3 := hX2.cell (j := 3) rfl
  have d0 := hY.cell (j := 0) rfl
  have d1 := hY.cell (j := 1) rfl
  have d2 := hY.cell (j := 2) rfl
  have d3 := hY.cell (j := 3) rfl
  go_enter Tryd.func4, Tryd.ntmps4
  go_upto_region 1 with fail
  rw [← hxb, ← hxv, hyb', ← hyv]
  clear hxb hxv hyb' hyv
  go_wp2_with (first | (with_reducible refine hold_append ?_) | (with_reducible refine hold_make ?_) | (with_reducible refine hold_copy ?_))
  refine hsv.mono ?_
  rintro e w3 ⟨rfl, hB3⟩
  have hBB := hB.trans (hB3.mono hB.size)
  have hX3 := hX2.below hB3
  have hY3 := hY.below hB3
  clear hsv c0 c1 c2 c3 d0 d1 d2 d3
  cases hs : smallM v
  · clear hs hsm hsu hpv hpu
    go_wp2_with (first | (with_reducible refine hold_append ?_) | (with_reducible refine hold_make ?_) | (with_reducible refine hold_copy ?_))
    refine (hhd _ hBB).mono ?_
    rintro e w9 ⟨rfl, hB9⟩
    go_wp2_with (first | (with_reducible refine hold_append ?_) | (with_reducible refine hold_make ?_) | (with_reducible refine hold_copy ?_))
    go_ret
    exact ⟨rfl, (hBB).trans (hB9.mono (hBB).size)⟩
  · clear hs
    have hsu3 := hsu w3 hB3
    have c0 := hX3.cell (j := 0) rfl
    have c1 := hX3.cell (j := 1) rfl
    have c2 := hX3.cell (j := 2) rfl
    have c3 := hX3.cell (j := 3) rfl
    have d0 := hY3.cell (j := 0) rfl
    have d1 := hY3.cell (j := 1) rfl
    have d2 := hY3.cell (j := 2) rfl
    have d3 := hY3.cell (j := 3) rfl
    go_wp2_with (first | (with_reducible refine hold_append ?_) | (with_reducible refine hold_make ?_) | (with_reducible refine hold_copy ?_))
    refine hsu3.mono ?_
    rintro e w4 ⟨rfl, hB4⟩
    have hBB4 := hBB.trans (hB4.mono hBB.size)
    have hB24 := hB3.trans (hB4.mono hB3.size)
    have hX4 := hX3.below hB4
    have hY4 := hY3.below hB4
    clear hsu hsu3 c0 c1 c2 c3 d0 d1 d2 d3
    cases hs : smallM u
    · clear hs hsm hpv hpu
      go_wp2_with (first | (with_reducible refine hold_append ?_) | (with_reducible refine hold_make ?_) | (with_reducible refine hold_copy ?_))
      refine (hhd _ hBB4).mono ?_
      rintro e w9 ⟨rfl, hB9⟩
      go_wp2_with (first | (with_reducible refine hold_append ?_) | (with_reducible refine hold_make ?_) | (with_reducible refine hold_copy ?_))
      go_ret
      exact ⟨rfl, (hBB4).trans (hB9.mono (hBB4).size)⟩
    · clear hs
      have hpv4 := hpv w4 hB24
      have c0 := hX4.cell (j := 0) rfl
      have c1 := hX4.cell (j := 1) rfl
      have c2 := hX4.cell (j := 2) rfl
      have c3 := hX4.cell (j := 3) rfl
      have d0 := hY4.cell (j := 0) rfl
      have d1 := hY4.cell (j := 1) rfl
      have d2 := hY4.cell (j := 2) rfl
      have d3 := hY4.cell (j := 3) rfl
      go_wp2_with (first | (with_reducible refine hold_append ?_) | (with_reducible refine hold_make ?_) | (with_reducible refine hold_copy ?_))
      refine hpv4.mono ?_
      rintro e w5 ⟨A1, c1', rfl, ho5, hB5⟩
      have hBB5 := hBB4.trans (hB5.mono hBB4.size)
      have hB25 := hB24.trans (hB5.mono hB24.size)
      have hX5 := hX4.below hB5
      have hY5 := hY4.below hB5
      have ho5 := ho5.base_le hBB4.size
      have hpu5 := hpu w5 hB25
      clear hpv hpv4 hpu c0 c1 c2 c3 d0 d1 d2 d3
      have c0 := hX5.cell (j := 0) rfl
      have c1 := hX5.cell (j := 1) rfl
      have c2 := hX5.cell (j := 2) rfl
      have c3 := hX5.cell (j := 3) rfl
      have d0 := hY5.cell (j := 0) rfl
      have d1 := hY5.cell (j := 1) rfl
      have d2 := hY5.cell (j := 2) rfl
      have d3 := hY5.cell (j := 3) rfl
      go_wp2_with (first | (with_reducible refine hold_append ?_) | (with_reducible refine hold_make ?_) | (with_reducible refine hold_copy ?_))
      refine hpu5.mono ?_
      rintro e w6 ⟨A3, c3', rfl, ho63, hB6⟩
      have hBB6 := hBB5.trans (hB6.mono hBB5.size)
      have hB26 := hB25.trans (hB6.mono hB25.size)
      have hX6 := hX5.below hB6
      have hY6 := hY5.below hB6
      have ho61 := own_below ho5 hB6
      have ho63 := ho63.base_le hBB5.size
      clear hpu5 c0 c1 c2 c3 d0 d1 d2 d3
      cases G1
      · obtain rfl : E1 = 80 := HE1.out
        clear hsm
        go_wp2_with (first | (with_reducible refine hold_append ?_) | (with_reducible refine hold_make ?_) | (with_reducible refine hold_copy ?_))
        refine (hhd _ hBB6).mono ?_
        rintro e w9 ⟨rfl, hB9⟩
        go_wp2_with (first | (with_reducible refine hold_append ?_) | (with_reducible refine hold_make ?_) | (with_reducible refine hold_copy ?_))
        go_ret
        exact ⟨rfl, (hBB6).trans (hB9.mono (hBB6).size)⟩
      · obtain rfl : E1 = 0 := HE1.out
        cases G2
        · obtain rfl : E2 = 80 := HE2.out
          clear hsm
          go_wp2_with (first | (with_reducible refine hold_append ?_) | (with_reducible refine hold_make ?_) | (with_reducible refine hold_copy ?_))
          refine (hhd _ hBB6).mono ?_
          rintro e w9 ⟨rfl, hB9⟩
          go_wp2_with (first | (with_reducible refine hold_append ?_) | (with_reducible refine hold_make ?_) | (with_reducible refine hold_copy ?_))
          go_ret
          exact ⟨rfl, (hBB6).trans (hB9.mono (hBB6).size)⟩
        · obtain rfl : E2 = 0 := HE2.out
          obtain rfl : o = r := HONE.out rfl rfl
          clear HE1 HE2 HONE
          have hoo : (o == o) = true := by simp
          have c0 := hX6.cell (j := 0) rfl
          have c1 := hX6.cell (j := 1) rfl
          have c2 := hX6.cell (j := 2) rfl
          have c3 := hX6.cell (j := 3) rfl
          have d0 := hY6.cell (j := 0) rfl
          have d1 := hY6.cell (j := 1) rfl
          have d2 := hY6.cell (j := 2) rfl
          have d3 := hY6.cell (j := 3) rfl
          go_wp2_with (first | (with_reducible refine hold_append ?_) | (with_reducible refine hold_make ?_) | (with_reducible refine hold_copy ?_))
          clear c0 c1 c2 c3 d0 d1 d2 d3
          refine rg_start (fun W : World => (Box W xb 24 #[.int .u8 (v.cls : Int), .int .u8 (v.code : Int), .bool v.sync, .slice A v.args.length c] ∧ Box W yb 24 #[.int .u8 (u.cls : Int), .int .u8 (u.code : Int), .bool u.sync, .slice A' u.args.length c']) ∧ (OwnB W w.heap.size A1 P.length c1' P ∧ OwnB W w.heap.size A3 Q.length c3' Q) ∧ Below w.heap.size w W ∧ Below w2.heap.size w2 W) (by kernel_rfl) ?_
          have hS : (Box w6.drew xb 24 #[.int .u8 (v.cls : Int), .int .u8 (v.code : Int), .bool v.sync, .slice A v.args.length c] ∧ Box w6.drew yb 24 #[.int .u8 (u.cls : Int), .int .u8 (u.code : Int), .bool u.sync, .slice A' u.args.length c']) ∧ (OwnB w6.drew w.heap.size A1 P.length c1' P ∧ OwnB w6.drew w.heap.size A3 Q.length c3' Q) ∧ Below w.heap.size w w6.drew ∧ Below w2.heap.size w2 w6.drew := ⟨⟨hX6, hY6⟩, ⟨Own.drewN ho61 1, Own.drewN ho63 1⟩, below_drewN hBB6 1, below_drewN hB26 1⟩
          generalize w6.drew = wd at *
          clear hX6 hY6 ho61 ho63 hBB6 hB26
          refine rg_take 0 (v := ?_) rfl (by kernel_rfl) (by kernel_rfl) (by kernel_rfl) hS rfl ?_ ?_
          rotate_left
          · intro wS hSw; go_simp; (with_reducible rfl)
          simp only [List.getElem_toArray, List.getElem_cons_zero, Act.put, List.setIfInBounds_toArray, List.set_cons_zero, List.set_cons_succ]
          refine rg_take 1 (v := ?_) rfl (by kernel_rfl) (by kernel_rfl) (by kernel_rfl) hS rfl ?_ ?_
          rotate_left
          · intro wS hSw; have hv1 := run_strB (w := wS) hSw.2.1.1.rd; go_simp; (with_reducible rfl)
          simp only [List.getElem_toArray, List.getElem_cons_succ, List.getElem_cons_zero, Act.put, List.setIfInBounds_toArray, List.set_cons_zero, List.set_cons_succ]
          refine rg_take 2 (v := ?_) rfl (by kernel_rfl) (by kernel_rfl) (by kernel_rfl) hS rfl ?_ ?_
          rotate_left
          · intro wS hSw; go_simp; (with_reducible rfl)
          simp only [List.getElem_toArray, List.getElem_cons_succ, List.getElem_cons_zero, Act.put, List.setIfInBounds_toArray, List.set_cons_zero, List.set_cons_succ]
          refine rg_take 3 (v := ?_) rfl (by kernel_rfl) (by kernel_rfl) (by kernel_rfl) hS rfl ?_ ?_
          rotate_left
          · intro wS hSw; have hv1 := run_strB (w := wS) hSw.2.1.2.rd; go_simp; (with_reducible rfl)
          simp only [List.getElem_toArray, List.getElem_cons_succ, List.getElem_cons_zero, Act.put, List.setIfInBounds_toArray, List.set_cons_zero, List.set_cons_succ]
          refine rg_take 4 (v := ?_) rfl (by kernel_rfl) (by kernel_rfl) (by kernel_rfl) hS rfl ?_ ?_
          rotate_left
          · intro wS hSw; go_simp; (with_reducible rfl)
          simp only [List.getElem_toArray, List.getElem_cons_succ, List.getElem_cons_zero, Act.put, List.setIfInBounds_toArray, List.set_cons_zero, List.set_cons_succ]
          refine rg_take 5 (v := ?_) rfl (by kernel_rfl) (by kernel_rfl) (by kernel_rfl) hS rfl ?_ ?_
          rotate_left
          · intro wS hSw; have k0 := hSw.1.1.cell (j := 0) rfl; have k1 := hSw.1.1.cell (j := 1) rfl; have k2 := hSw.1.1.cell (j := 2) rfl; have k3 := hSw.1.1.cell (j := 3) rfl; go_simp; (with_reducible rfl)
          simp only [List.getElem_toArray, List.getElem_cons_succ, List.getElem_cons_zero, Act.put, List.setIfInBounds_toArray, List.set_cons_zero, List.set_cons_succ]
          refine rg_take 6 (v := ?_) rfl (by kernel_rfl) (by kernel_rfl) (by kernel_rfl) hS rfl ?_ ?_
          rotate_left
          · intro wS hSw; have k0 := hSw.1.2.cell (j := 0) rfl; have k1 := hSw.1.2.cell (j := 1) rfl; have k2 := hSw.1.2.cell (j := 2) rfl; have k3 := hSw.1.2.cell (j := 3) rfl; go_simp; (with_reducible rfl)
          simp only [List.getElem_toArray, List.getElem_cons_succ, List.getElem_cons_zero, Act.put, List.setIfInBounds_toArray, List.set_cons_zero, List.set_cons_succ]
          refine rg_one 7 rfl (by kernel_rfl) rfl (fun K hK => ?_)
          go_simp
          refine (hsm wd hS.2.2.2).mono ?_
          rintro e w7 ⟨rfl, hB7⟩
          have hS : (Box w7 xb 24 #[.int .u8 (v.cls : Int), .int .u8 (v.code : Int), .bool v.sync, .slice A v.args.length c] ∧ Box w7 yb 24 #[.int .u8 (u.cls : Int), .int .u8 (u.code : Int), .bool u.sync, .slice A' u.args.length c']) ∧ (OwnB w7 w.heap.size A1 P.length c1' P ∧ OwnB w7 w.heap.size A3 Q.length c3' Q) ∧ Below w.heap.size w w7 ∧ Below w2.heap.size w2 w7 := ⟨⟨hS.1.1.below hB7, hS.1.2.below hB7⟩, ⟨own_below hS.2.1.1 hB7, own_below hS.2.1.2 hB7⟩, hS.2.2.1.trans (hB7.mono hS.2.2.1.size), hS.2.2.2.trans (hB7.mono hS.2.2.2.size)⟩
          refine hK _ _ hS ?_; clear hK K
          try simp only [List.getElem_toArray, List.getElem_cons_succ, List.getElem_cons_zero, Act.put, List.setIfInBounds_toArray, List.set_cons_zero, List.set_cons_succ]
          refine rg_take 8 (v := ?_) rfl (by kernel_rfl) (by kernel_rfl) (by kernel_rfl) hS rfl ?_ ?_
          rotate_left
          · intro wS hSw; go_simp; (with_reducible rfl)
          simp only [List.getElem_toArray, List.getElem_cons_succ, List.getElem_cons_zero, Act.put, List.setIfInBounds_toArray, List.set_cons_zero, List.set_cons_succ]
          refine rg_take 9 (v := ?_) rfl (by kernel_rfl) (by kernel_rfl) (by kernel_rfl) hS rfl ?_ ?_
          rotate_left
          · intro wS hSw; go_simp; (with_reducible rfl)
          simp only [List.getElem_toArray, List.getElem_cons_succ, List.getElem_cons_zero, Act.put, List.setIfInBounds_toArray, List.set_cons_zero, List.set_cons_succ]
          refine rg_one 10 rfl (by kernel_rfl) rfl (fun K hK => ?_)
          go_simp
          refine (hhd w7 hS.2.2.1).mono ?_
          rintro e w8 ⟨rfl, hB8⟩
          have hS : (Box w8 xb 24 #[.int .u8 (v.cls : Int), .int .u8 (v.code : Int), .bool v.sync, .slice A v.args.length c] ∧ Box w8 yb 24 #[.int .u8 (u.cls : Int), .int .u8 (u.code : Int), .bool u.sync, .slice A' u.args.length c']) ∧ (OwnB w8 w.heap.size A1 P.length c1' P ∧ OwnB w8 w.heap.size A3 Q.length c3' Q) ∧ Below w.heap.size w w8 ∧ Below w2.heap.size w2 w8 := ⟨⟨hS.1.1.below hB8, hS.1.2.below hB8⟩, ⟨own_below hS.2.1.1 hB8, own_below hS.2.1.2 hB8⟩, hS.2.2.1.trans (hB8.mono hS.2.2.1.size), hS.2.2.2.trans (hB8.mono hS.2.2.2.size)⟩
          refine hK _ _ hS ?_; clear hK K
          try simp only [List.getElem_toArray, List.getElem_cons_succ, List.getElem_cons_zero, Act.put, List.setIfInBounds_toArray, List.set_cons_zero, List.set_cons_succ]
          refine rg_take 11 (v := ?_) rfl (by kernel_rfl) (by kernel_rfl) (by kernel_rfl) hS rfl ?_ ?_
          rotate_left
          · intro wS hSw; go_simp; (with_reducible rfl)
          simp only [List.getElem_toArray, List.getElem_cons_succ, List.getElem_cons_zero, Act.put, List.setIfInBounds_toArray, List.set_cons_zero, List.set_cons_succ]
          refine rg_take 12 (v := ?_) rfl (by kernel_rfl) (by kernel_rfl) (by kernel_rfl) hS rfl ?_ ?_
          rotate_left
          · intro wS hSw; go_simp; (with_reducible rfl)
          simp only [List.getElem_toArray, List.getElem_cons_succ, List.getElem_cons_zero, Act.put, List.setIfInBounds_toArray, List.set_cons_zero, List.set_cons_succ]
          refine rg_end (by kernel_rfl) ?_
          go_wp2_with (first | (with_reducible refine hold_append ?_) | (with_reducible refine hold_make ?_) | (with_reducible refine hold_copy ?_))
          go_ret
          exact ⟨rfl, hS.2.2.1⟩
end Go.PH
end

/- Texts laid together: MdLawSame, MdLawPuts. -/
import Derived.Test.YtidpbbleneekgaaGreatDoorMg22
import Derived.Test.YtidpbbleneekgaaGreatDoorMg28
import Derived.Test.YtidpbbleneekgaaGreatDoorMg33
import Derived.Test.YtidpbbleneekgaaGreatDoorMg34
section
/- MethodSame: the walk. -/
set_option linter.all false
set_option linter.unusedSimpArgs false
set_option linter.unusedVariables false
namespace Go.PH
open Go.RowKit Go.Proofs

theorem small_parts {v : Mt} (h : smallM v = true) : v.args.length ≤ 8 ∧ (∀ a ∈ v.args, a.q.length ≤ 1100) ∧ (∀ a ∈ v.args, FineV a.v) ∧ ∀ a ∈ v.args, a.s.length ≤ 70000 := by
  unfold smallM at h
  simp only [Bool.and_eq_true, decide_eq_true_eq, List.all_eq_true] at h
  obtain ⟨h1, h2⟩ := h
  refine ⟨h1, fun a ha => ?_, fun a ha => ?_, fun a ha => ?_⟩
  all_goals
    have h3 := h2 a ha
    unfold smallA at h3
    simp only [Bool.and_eq_true, decide_eq_true_eq] at h3
  · exact h3.1.1
  · exact small_fine h3.2
  · exact h3.1.2
set_option maxRecDepth 20000 in
set_option maxHeartbeats 4000000 in
theorem law_MethodSame (v u : Mt) (A : Option Addr) (c : Nat) (A' : Option Addr) (c' : Nat) (w : World) (he : MEnv w) (hv : RMw w v A c) (hu : RMw w u A' c') :
    Calls Tryz.prog 4 #[.agg (mtV v A c), .agg (mtV u A' c')] w fun e w' => e = .returned (.bool true) ∧ Below w.heap.size w w' := by
  obtain ⟨xb, w1, hxb, hxv, hX, hB1⟩ := alloc_stepV w #[.int .u8 (v.cls : Int), .int .u8 (v.code : Int), .bool v.sync, .slice A v.args.length c] 26
  obtain ⟨yb, w2, hyb, hyv, hY, hB2⟩ := alloc_stepV w1 #[.int .u8 (u.cls : Int), .int .u8 (u.code : Int), .bool u.sync, .slice A' u.args.length c'] 26
  have hyb' : xb + 1 = yb := by rw [hyb, hxv, hxb]; simp
  have hB := hB1.trans (hB2.mono hB1.size)
  have hX2 := hX.below hB2
  have hv2 := hv.up hB
  have hu2 := hu.up hB
  have hsv := rsmallM_any v A c w2 hv2
  have hsu := fun (W : World) (hW : Below w2.heap.size w2 W) => rsmallM_any u A' c' W (hu2.up hW)
  have hsm := fun (W : World) (hW : Below w2.heap.size w2 W) => msameM_any v u A c A' c' W (hv2.up hW) (hu2.up hW)
  have hrm := fun (W : World) (hW : Below w2.heap.size w2 W) => rsameM_any v u A c A' c' W (hv2.up hW) (hu2.up hW)
  have hcp := fun (hs : smallM v = true) (W : World) (hW : Below w2.heap.size w2 W) => rcopyM_any v A c W (hv2.up hW) (by have := (small_parts hs).1; omega) (fun a ha => by have := (small_parts hs).2.1 a ha; omega) (small_parts hs).2.2.1
  have hvv := fun (W : World) (hW : Below w2.heap.size w2 W) (A2 : Option Addr) (c2 : Nat) (h : RMw W v A2 c2) => msameM_any v v A c A2 c2 W (hv2.up hW) h
  have hss : sameM v v = true := (sameM_iff v v).2 rfl
  have hhd := fun (W : World) (hW : Below w.heap.size w W) => mdhead_any W (he.on hW)
  simp only [hss] at hvv
  unfold mtV at hsv hsu hsm hrm hcp hvv ⊢
  clear hyb hX hv hu hv2 hu2 hss he
  have c0 := hX2.cell (j := 0) rfl
  have c1 := hX2.cell (j := 1) rfl
  have c2 := hX2.cell (j := 2) rfl
  have c3 := hX2.cell (j := 3) rfl
  have d0 := hY.cell (j := 0) rfl
  have d1 := hY.cell (j := 1) rfl
  have d2 := hY.cell (j := 2) rfl
  have d3 := hY.cell (j := 3) rfl
  go_enter Tryz.func4, Tryz.ntmps4
  go_upto_region 1 with fail
  rw [← hxb, ← hxv, hyb', ← hyv]
  clear hxb hxv hyb' hyv
  go_wp2_with (first | (with_reducible refine hold_append ?_) | (with_reducible refine hold_make ?_) | (with_reducible refine hold_copy ?_))
  refine hsv.mono ?_
  rintro e w3 ⟨rfl, hB3⟩
  have hBB := hB.trans (hB3.mono hB.size)
  have hX3 := hX2.below hB3
  have hY3 := hY.below hB3
  clear hsv c0 c1 c2 c3 d0 d1 d2 d3
  cases hs : smallM v
  · clear hs hsm hrm hcp hvv hsu
    go_wp2_with (first | (with_reducible refine hold_append ?_) | (with_reducible refine hold_make ?_) | (with_reducible refine hold_copy ?_))
    refine (hhd _ hBB).mono ?_
    rintro e w4 ⟨rfl, hB4⟩
    go_wp2_with (first | (with_reducible refine hold_append ?_) | (with_reducible refine hold_make ?_) | (with_reducible refine hold_copy ?_))
    go_ret
    exact ⟨rfl, hBB.trans (hB4.mono hBB.size)⟩
  · replace hcp := hcp hs
    clear hs
    have hsu3 := hsu w3 hB3
    have c0 := hX3.cell (j := 0) rfl
    have c1 := hX3.cell (j := 1) rfl
    have c2 := hX3.cell (j := 2) rfl
    have c3 := hX3.cell (j := 3) rfl
    have d0 := hY3.cell (j := 0) rfl
    have d1 := hY3.cell (j := 1) rfl
    have d2 := hY3.cell (j := 2) rfl
    have d3 := hY3.cell (j := 3) rfl
    go_wp2_with (first | (with_reducible refine hold_append ?_) | (with_reducible refine hold_make ?_) | (with_reducible refine hold_copy ?_))
    refine hsu3.mono ?_
    rintro e w4 ⟨rfl, hB4⟩
    have hBB4 := hBB.trans (hB4.mono hBB.size)
    have hB24 := hB3.trans (hB4.mono hB3.size)
    have hX4 := hX3.below hB4
    have hY4 := hY3.below hB4
    clear hsu hsu3 c0 c1 c2 c3 d0 d1 d2 d3
    cases hs : smallM u
    · clear hs hsm hrm hcp hvv
      go_wp2_with (first | (with_reducible refine hold_append ?_) | (with_reducible refine hold_make ?_) | (with_reducible refine hold_copy ?_))
      refine (hhd _ hBB4).mono ?_
      rintro e w5 ⟨rfl, hB5⟩
      go_wp2_with (first | (with_reducible refine hold_append ?_) | (with_reducible refine hold_make ?_) | (with_reducible refine hold_copy ?_))
      go_ret
      exact ⟨rfl, hBB4.trans (hB5.mono hBB4.size)⟩
    · clear hs
      go_upto_region 3 with fail
      refine rg_start (fun W : World => Box W xb 26 #[.int .u8 (v.cls : Int), .int .u8 (v.code : Int), .bool v.sync, .slice A v.args.length c] ∧ Box W yb 26 #[.int .u8 (u.cls : Int), .int .u8 (u.code : Int), .bool u.sync, .slice A' u.args.length c'] ∧ Below w.heap.size w W ∧ Below w2.heap.size w2 W) (by kernel_rfl) ?_
      have hS : Box w4.drew xb 26 #[.int .u8 (v.cls : Int), .int .u8 (v.code : Int), .bool v.sync, .slice A v.args.length c] ∧ Box w4.drew yb 26 #[.int .u8 (u.cls : Int), .int .u8 (u.code : Int), .bool u.sync, .slice A' u.args.length c'] ∧ Below w.heap.size w w4.drew ∧ Below w2.heap.size w2 w4.drew := ⟨hX4, hY4, below_drewN hBB4 1, below_drewN hB24 1⟩
      generalize w4.drew = wd at *
      clear hX4 hY4 hBB4 hB24
      refine rg_take 0 (v := ?_) rfl (by kernel_rfl) (by kernel_rfl) (by kernel_rfl) hS rfl ?_ ?_
      rotate_left
      · intro wS hSw; have k0 := hSw.1.cell (j := 0) rfl; have k1 := hSw.1.cell (j := 1) rfl; have k2 := hSw.1.cell (j := 2) rfl; have k3 := hSw.1.cell (j := 3) rfl; go_simp; (with_reducible rfl)
      simp only [List.getElem_toArray, List.getElem_cons_zero, Act.put, List.setIfInBounds_toArray, List.set_cons_zero, List.set_cons_succ]
      refine rg_take 1 (v := ?_) rfl (by kernel_rfl) (by kernel_rfl) (by kernel_rfl) hS rfl ?_ ?_
      rotate_left
      · intro wS hSw; have k0 := hSw.2.1.cell (j := 0) rfl; have k1 := hSw.2.1.cell (j := 1) rfl; have k2 := hSw.2.1.cell (j := 2) rfl; have k3 := hSw.2.1.cell (j := 3) rfl; go_simp; (with_reducible rfl)
      simp only [List.getElem_toArray, List.getElem_cons_succ, List.getElem_cons_zero, Act.put, List.setIfInBounds_toArray, List.set_cons_zero, List.set_cons_succ]
      refine rg_take 3 (v := ?_) rfl (by kernel_rfl) (by kernel_rfl) (by kernel_rfl) hS rfl ?_ ?_
      rotate_left
      · intro wS hSw; have k0 := hSw.1.cell (j := 0) rfl; have k1 := hSw.1.cell (j := 1) rfl; have k2 := hSw.1.cell (j := 2) rfl; have k3 := hSw.1.cell (j := 3) rfl; go_simp; (with_reducible rfl)
      simp only [List.getElem_toArray, List.getElem_cons_succ, List.getElem_cons_zero, Act.put, List.setIfInBounds_toArray, List.set_cons_zero, List.set_cons_succ]
      refine rg_take 4 (v := ?_) rfl (by kernel_rfl) (by kernel_rfl) (by kernel_rfl) hS rfl ?_ ?_
      rotate_left
      · intro wS hSw; have k0 := hSw.2.1.cell (j := 0) rfl; have k1 := hSw.2.1.cell (j := 1) rfl; have k2 := hSw.2.1.cell (j := 2) rfl; have k3 := hSw.2.1.cell (j := 3) rfl; go_simp; (with_reducible rfl)
      simp only [List.getElem_toArray, List.getElem_cons_succ, List.getElem_cons_zero, Act.put, List.setIfInBounds_toArray, List.set_cons_zero, List.set_cons_succ]
      refine rg_one 2 rfl (by kernel_rfl) rfl (fun K hK => ?_)
      go_simp
      refine (hsm wd hS.2.2.2).mono ?_
      rintro e w5 ⟨rfl, hB5⟩
      have hS : Box w5 xb 26 #[.int .u8 (v.cls : Int), .int .u8 (v.code : Int), .bool v.sync, .slice A v.args.length c] ∧ Box w5 yb 26 #[.int .u8 (u.cls : Int), .int .u8 (u.code : Int), .bool u.sync, .slice A' u.args.length c'] ∧ Below w.heap.size w w5 ∧ Below w2.heap.size w2 w5 := ⟨hS.1.below hB5, hS.2.1.below hB5, hS.2.2.1.trans (hB5.mono hS.2.2.1.size), hS.2.2.2.trans (hB5.mono hS.2.2.2.size)⟩
      refine hK _ _ hS ?_; clear hK K
      try simp only [List.getElem_toArray, List.getElem_cons_succ, List.getElem_cons_zero, Act.put, List.setIfInBounds_toArray, List.set_cons_zero, List.set_cons_succ]
      refine rg_one 5 rfl (by kernel_rfl) rfl (fun K hK => ?_)
      go_simp
      refine (hrm w5 hS.2.2.2).mono ?_
      rintro e w6 ⟨rfl, hB6⟩
      have hS : Box w6 xb 26 #[.int .u8 (v.cls : Int), .int .u8 (v.code : Int), .bool v.sync, .slice A v.args.length c] ∧ Box w6 yb 26 #[.int .u8 (u.cls : Int), .int .u8 (u.code : Int), .bool u.sync, .slice A' u.args.length c'] ∧ Below w.heap.size w w6 ∧ Below w2.heap.size w2 w6 := ⟨hS.1.below hB6, hS.2.1.below hB6, hS.2.2.1.trans (hB6.mono hS.2.2.1.size), hS.2.2.2.trans (hB6.mono hS.2.2.2.size)⟩
      refine hK _ _ hS ?_; clear hK K
      try simp only [List.getElem_toArray, List.getElem_cons_succ, List.getElem_cons_zero, Act.put, List.setIfInBounds_toArray, List.set_cons_zero, List.set_cons_succ]
      generalize sameM v u = r at *
      have hrr : (r == r) = true := by simp
      refine rg_take 6 (v := ?_) rfl (by kernel_rfl) (by kernel_rfl) (by kernel_rfl) hS rfl ?_ ?_
      rotate_left
      · intro wS hSw; go_simp; (with_reducible rfl)
      simp only [List.getElem_toArray, List.getElem_cons_succ, List.getElem_cons_zero, Act.put, List.setIfInBounds_toArray, List.set_cons_zero, List.set_cons_succ]
      refine rg_take 7 (v := ?_) rfl (by kernel_rfl) (by kernel_rfl) (by kernel_rfl) hS rfl ?_ ?_
      rotate_left
      · intro wS hSw; go_simp; (with_reducible rfl)
      simp only [List.getElem_toArray, List.getElem_cons_succ, List.getElem_cons_zero, Act.put, List.setIfInBounds_toArray, List.set_cons_zero, List.set_cons_succ]
      refine rg_take 8 (v := ?_) rfl (by kernel_rfl) (by kernel_rfl) (by kernel_rfl) hS rfl ?_ ?_
      rotate_left
      · intro wS hSw; have k0 := hSw.1.cell (j := 0) rfl; have k1 := hSw.1.cell (j := 1) rfl; have k2 := hSw.1.cell (j := 2) rfl; have k3 := hSw.1.cell (j := 3) rfl; go_simp; (with_reducible rfl)
      simp only [List.getElem_toArray, List.getElem_cons_succ, List.getElem_cons_zero, Act.put, List.setIfInBounds_toArray, List.set_cons_zero, List.set_cons_succ]
      refine rg_take 9 (v := ?_) rfl (by kernel_rfl) (by kernel_rfl) (by kernel_rfl) hS rfl ?_ ?_
      rotate_left
      · intro wS hSw; have k0 := hSw.1.cell (j := 0) rfl; have k1 := hSw.1.cell (j := 1) rfl; have k2 := hSw.1.cell (j := 2) rfl; have k3 := hSw.1.cell (j := 3) rfl; go_simp; (with_reducible rfl)
      simp only [List.getElem_toArray, List.getElem_cons_succ, List.getElem_cons_zero, Act.put, List.setIfInBounds_toArray, List.set_cons_zero, List.set_cons_succ]
      refine rg_one 10 rfl (by kernel_rfl) rfl (fun K hK => ?_)
      go_simp
      refine (hcp w6 hS.2.2.2).mono ?_
      rintro e w7 ⟨A2, c2, rfl, hRM, hB7⟩
      unfold mtV
      have hRM7 : RMw w7 v A2 c2 := hRM.mono (fun g hg => hg.2)
      have hS : Box w7 xb 26 #[.int .u8 (v.cls : Int), .int .u8 (v.code : Int), .bool v.sync, .slice A v.args.length c] ∧ Box w7 yb 26 #[.int .u8 (u.cls : Int), .int .u8 (u.code : Int), .bool u.sync, .slice A' u.args.length c'] ∧ Below w.heap.size w w7 ∧ Below w2.heap.size w2 w7 := ⟨hS.1.below hB7, hS.2.1.below hB7, hS.2.2.1.trans (hB7.mono hS.2.2.1.size), hS.2.2.2.trans (hB7.mono hS.2.2.2.size)⟩
      refine hK _ _ hS ?_; clear hK K
      try simp only [List.getElem_toArray, List.getElem_cons_succ, List.getElem_cons_zero, Act.put, List.setIfInBounds_toArray, List.set_cons_zero, List.set_cons_succ]
      refine rg_one 11 rfl (by kernel_rfl) rfl (fun K hK => ?_)
      go_simp
      refine (hvv w7 hS.2.2.2 A2 c2 hRM7).mono ?_
      rintro e w8 ⟨rfl, hB8⟩
      have hS : Box w8 xb 26 #[.int .u8 (v.cls : Int), .int .u8 (v.code : Int), .bool v.sync, .slice A v.args.length c] ∧ Box w8 yb 26 #[.int .u8 (u.cls : Int), .int .u8 (u.code : Int), .bool u.sync, .slice A' u.args.length c'] ∧ Below w.heap.size w w8 ∧ Below w2.heap.size w2 w8 := ⟨hS.1.below hB8, hS.2.1.below hB8, hS.2.2.1.trans (hB8.mono hS.2.2.1.size), hS.2.2.2.trans (hB8.mono hS.2.2.2.size)⟩
      refine hK _ _ hS ?_; clear hK K
      try simp only [List.getElem_toArray, List.getElem_cons_succ, List.getElem_cons_zero, Act.put, List.setIfInBounds_toArray, List.set_cons_zero, List.set_cons_succ]
      refine rg_take 12 (v := ?_) rfl (by kernel_rfl) (by kernel_rfl) (by kernel_rfl) hS rfl ?_ ?_
      rotate_left
      · intro wS hSw; go_simp; (with_reducible rfl)
      simp only [List.getElem_toArray, List.getElem_cons_succ, List.getElem_cons_zero, Act.put, List.setIfInBounds_toArray, List.set_cons_zero, List.set_cons_succ]
      refine rg_take 13 (v := ?_) rfl (by kernel_rfl) (by kernel_rfl) (by kernel_rfl) hS rfl ?_ ?_
      rotate_left
      · intro wS hSw; go_simp; (with_reducible rfl)
      simp only [List.getElem_toArray, List.getElem_cons_succ, List.getElem_cons_zero, Act.put, List.setIfInBounds_toArray, List.set_cons_zero, List.set_cons_succ]
      refine rg_one 14 rfl (by kernel_rfl) rfl (fun K hK => ?_)
      go_simp
      refine (hhd w8 hS.2.2.1).mono ?_
      rintro e w9 ⟨rfl, hB9⟩
      have hS : Box w9 xb 26 #[.int .u8 (v.cls : Int), .int .u8 (v.code : Int), .bool v.sync, .slice A v.args.length c] ∧ Box w9 yb 26 #[.int .u8 (u.cls : Int), .int .u8 (u.code : Int), .bool u.sync, .slice A' u.args.length c'] ∧ Below w.heap.size w w9 ∧ Below w2.heap.size w2 w9 := ⟨hS.1.below hB9, hS.2.1.below hB9, hS.2.2.1.trans (hB9.mono hS.2.2.1.size), hS.2.2.2.trans (hB9.mono hS.2.2.2.size)⟩
      refine hK _ _ hS ?_; clear hK K
      try simp only [List.getElem_toArray, List.getElem_cons_succ, List.getElem_cons_zero, Act.put, List.setIfInBounds_toArray, List.set_cons_zero, List.set_cons_succ]
      refine rg_take 15 (v := ?_) rfl (by kernel_rfl) (by kernel_rfl) (by kernel_rfl) hS rfl ?_ ?_
      rotate_left
      · intro wS hSw; go_simp; (with_reducible rfl)
      simp only [List.getElem_toArray, List.getElem_cons_succ, List.getElem_cons_zero, Act.put, List.setIfInBounds_toArray, List.set_cons_zero, List.set_cons_succ]
      refine rg_take 16 (v := ?_) rfl (by kernel_rfl) (by kernel_rfl) (by kernel_rfl) hS rfl ?_ ?_
      rotate_left
      · intro wS hSw; go_simp; (with_reducible rfl)
      simp only [List.getElem_toArray, List.getElem_cons_succ, List.getElem_cons_zero, Act.put, List.setIfInBounds_toArray, List.set_cons_zero, List.set_cons_succ]
      refine rg_end (by kernel_rfl) ?_
      go_wp2_with (first | (with_reducible refine hold_append ?_) | (with_reducible refine hold_make ?_) | (with_reducible refine hold_copy ?_))
      go_ret
      exact ⟨rfl, hS.2.2.1⟩
end Go.PH
end
section
/- MethodPuts: the walk. -/
set_option linter.all false
set_option linter.unusedSimpArgs false
set_option linter.unusedVariables false
namespace Go.PH
open Go.RowKit Go.Proofs

set_option maxRecDepth 20000 in
set_option maxHeartbeats 4000000 in
theorem law_MethodPuts (v : Mt) (A : Option Addr) (c : Nat) (w : World) (he : MEnv w) (hT : UTabs w) (hv : RMw w v A c) :
    Calls Tryz.prog 5 #[.agg (mtV v A c)] w fun e w' => e = .returned (.bool true) ∧ Below w.heap.size w w' := by
  obtain ⟨xb, w1, hxb, hxv, hX, hB1⟩ := alloc_stepV w #[.int .u8 (v.cls : Int), .int .u8 (v.code : Int), .bool v.sync, .slice A v.args.length c] 26
  have hv1 := hv.up hB1
  have hsv := rsmallM_any v A c w1 hv1
  have hcp := fun (hs : smallM v = true) (W : World) (hW : Below w1.heap.size w1 W) => rcopyM_any v A c W (hv1.up hW) (by have := (small_parts hs).1; omega) (fun a ha => by have := (small_parts hs).2.1 a ha; omega) (small_parts hs).2.2.1
  have hmp := fun (W : World) (A2 : Option Addr) (c2 : Nat) (hW : Below w.heap.size w W) (h : RMw W v A2 c2) => mput_all v A2 c2 W (he.on hW) (hT.on hW) h
  have hck := fun (W : World) (A2 : Option Addr) (c2 : Nat) (hW : Below w.heap.size w W) (h : RMw W v A2 c2) => mcheck_all v A2 c2 W (he.on hW) (hT.on hW) h
  have hrp := fun (W : World) (hW : Below w1.heap.size w1 W) => rmput_any v A c W (hv1.up hW)
  have hsm := fun (W : World) (A2 : Option Addr) (c2 : Nat) (hW : Below w1.heap.size w1 W) (h : RMw W v A2 c2) => rsameM_any v v A2 c2 A c W h (hv1.up hW)
  have hss : sameM v v = true := (sameM_iff v v).2 rfl
  have hhd := fun (W : World) (hW : Below w.heap.size w W) => mdhead_any W (he.on hW)
  simp only [hss] at hsm
  unfold mtV at hsv hcp hmp hck hrp hsm ⊢
  unfold MPut at hmp hrp
  unfold CopyMR mtV at hcp
  generalize putM v = P at *
  generalize errM v = E at *
  have hpp : ((str P).toList == (str P).toList) = true := by simp
  have hee : (E == E) = true := by simp
  have HCK := Lib.hid hck
  have HMP := Lib.hid hmp
  have HRP := Lib.hid hrp
  have HSM := Lib.hid hsm
  have HHD := Lib.hid hhd
  clear hv hv1 hss he hT hck hmp hrp hsm hhd
  have x0 := hX.cell (j := 0) rfl
  have x1 := hX.cell (j := 1) rfl
  have x2 := hX.cell (j := 2) rfl
  have x3 := hX.cell (j := 3) rfl
  go_enter Tryz.func5, Tryz.ntmps5
  go_upto_region 1 with fail
  rw [← hxb, ← hxv]
  clear hxb hxv
  go_wp2_with (first | (with_reducible refine hold_append ?_) | (with_reducible refine hold_make ?_) | (with_reducible refine hold_copy ?_))
  refine hsv.mono ?_
  rintro e w3 ⟨rfl, hB3⟩
  have hBB := hB1.trans (hB3.mono hB1.size)
  have hX3 := hX.below hB3
  clear hsv x0 x1 x2 x3
  cases hs : smallM v
  · clear hs hcp
    go_wp2_with (first | (with_reducible refine hold_append ?_) | (with_reducible refine hold_make ?_) | (with_reducible refine hold_copy ?_))
    refine (HHD.out _ hBB).mono ?_
    rintro e w4 ⟨rfl, hB4⟩
    go_wp2_with (first | (with_reducible refine hold_append ?_) | (with_reducible refine hold_make ?_) | (with_reducible refine hold_copy ?_))
    go_ret
    exact ⟨rfl, hBB.trans (hB4.mono hBB.size)⟩
  · replace hcp := hcp hs w3 hB3
    clear hs
    have x0 := hX3.cell (j := 0) rfl
    have x1 := hX3.cell (j := 1) rfl
    have x2 := hX3.cell (j := 2) rfl
    have x3 := hX3.cell (j := 3) rfl
    go_wp2_with (first | (with_reducible refine hold_append ?_) | (with_reducible refine hold_make ?_) | (with_reducible refine hold_copy ?_))
    refine hcp.mono ?_
    rintro e w4 ⟨A2, c2, rfl, hRM, hB4⟩
    have hRM4 : RMw w4 v A2 c2 := hRM.mono (fun g hg => hg.2)
    have hX4 := hX3.below hB4
    have hB14 := hB3.trans (hB4.mono hB3.size)
    have hz := Box.new w4 #[.int .u8 0, .int .u8 0, .bool false, .slice none 0 0] 26
    have hXz := hX4.alloc (.cells #[.int .u8 0, .int .u8 0, .bool false, .slice none 0 0] 26)
    have hBz := (Below.refl w4.heap.size w4).alloc (Nat.le_refl _) (.cells #[.int .u8 0, .int .u8 0, .bool false, .slice none 0 0] 26)
    have hxz := hX4.lt
    clear hcp x0 x1 x2 x3 hRM hX4
    go_wp2_with (first | (with_reducible refine hold_append ?_) | (with_reducible refine hold_make ?_) | (with_reducible refine hold_copy ?_) | (with_reducible refine hold_store ?_))
    refine unhold (wp_box (v := .agg #[.int .u8 (v.cls : Int), .int .u8 (v.code : Int), .bool v.sync, .slice A2 v.args.length c2]) (vs := [.int .u8 (v.cls : Int), .int .u8 (v.code : Int), .bool v.sync, .slice A2 v.args.length c2]) rfl rfl rfl rfl hz rfl (by kernel_rfl) (by simp) (by intro u hu; simp at hu; rcases hu with rfl | rfl | rfl | rfl <;> rfl) #[.int .u8 (v.cls : Int), .int .u8 (v.code : Int), .bool v.sync, .slice A2 v.args.length c2] (by simp) ?_)
    intro w5 hO hg5 _
    have hX5 := hXz.grown hg5 (by intro e; injection e with e; omega)
    have hB5 : Below w4.heap.size w4 w5 := hBz.grown hg5 hBz.size (fun g hg => by injection hg with hg; omega)
    have hRM5 := hRM4.up hB5
    have hBB4 := hBB.trans (hB4.mono hBB.size)
    have hBB5 := hBB4.trans (hB5.mono hBB4.size)
    have hB15 := hB14.trans (hB5.mono hB14.size)
    have hmp := HMP.out w5 A2 c2 hBB5 hRM5
    clear hz hXz hBz hg5 hRM4 hB5 hB14 hBB4 hB4 hBB hX3 HMP
    generalize w4.heap.size = ob at *
    have y0 := hO.cell (j := 0) rfl
    have y1 := hO.cell (j := 1) rfl
    have y2 := hO.cell (j := 2) rfl
    have y3 := hO.cell (j := 3) rfl
    go_wp2_with (first | (with_reducible refine hold_append ?_) | (with_reducible refine hold_make ?_) | (with_reducible refine hold_copy ?_))
    refine hmp.mono ?_
    rintro e w6 ⟨A6, c6, rfl, ho6, hB6⟩
    have hX6 := hX5.below hB6
    have hO6 := hO.below hB6
    have hRM6 := hRM5.up hB6
    have hBB6 := hBB5.trans (hB6.mono hBB5.size)
    have hB16 := hB15.trans (hB6.mono hB15.size)
    have hrp := HRP.out w6 hB16
    clear hmp y0 y1 y2 y3 hX5 hO hRM5 hBB5 hB15 hB6 HRP
    have x0 := hX6.cell (j := 0) rfl
    have x1 := hX6.cell (j := 1) rfl
    have x2 := hX6.cell (j := 2) rfl
    have x3 := hX6.cell (j := 3) rfl
    go_wp2_with (first | (with_reducible refine hold_append ?_) | (with_reducible refine hold_make ?_) | (with_reducible refine hold_copy ?_))
    refine hrp.mono ?_
    rintro e w7 ⟨A7, c7, rfl, ho7, hB7⟩
    have hX7 := hX6.below hB7
    have hO7 := hO6.below hB7
    have hRM7 := hRM6.up hB7
    have hBB7 := hBB6.trans (hB7.mono hBB6.size)
    have hB17 := hB16.trans (hB7.mono hB16.size)
    have ho67 := own_below ho6 hB7
    have hv1 := run_strB (w := w7) ho67.rd
    have hv2 := run_strB (w := w7) ho7.rd
    have hck := HCK.out w7 A2 c2 hBB7 hRM7
    clear hrp x0 x1 x2 x3 hX6 hO6 hRM6 hBB6 hB16 hB7 HCK ho6 ho7 ho67
    have y0 := hO7.cell (j := 0) rfl
    have y1 := hO7.cell (j := 1) rfl
    have y2 := hO7.cell (j := 2) rfl
    have y3 := hO7.cell (j := 3) rfl
    go_wp2_with (first | (with_reducible refine hold_append ?_) | (with_reducible refine hold_make ?_) | (with_reducible refine hold_copy ?_))
    refine hck.mono ?_
    rintro e w8 ⟨rfl, hB8⟩
    have hX8 := hX7.below hB8
    have hO8 := hO7.below hB8
    have hRM8 := hRM7.up hB8
    have hBB8 := hBB7.trans (hB8.mono hBB7.size)
    have hB18 := hB17.trans (hB8.mono hB17.size)
    have hsm := HSM.out w8 A2 c2 hB18 hRM8
    clear hck y0 y1 y2 y3 hX7 hO7 hRM7 hBB7 hB17 hB8 HSM hv1 hv2
    have y0 := hO8.cell (j := 0) rfl
    have y1 := hO8.cell (j := 1) rfl
    have y2 := hO8.cell (j := 2) rfl
    have y3 := hO8.cell (j := 3) rfl
    have x0 := hX8.cell (j := 0) rfl
    have x1 := hX8.cell (j := 1) rfl
    have x2 := hX8.cell (j := 2) rfl
    have x3 := hX8.cell (j := 3) rfl
    go_wp2_with (first | (with_reducible refine hold_append ?_) | (with_reducible refine hold_make ?_) | (with_reducible refine hold_copy ?_))
    refine hsm.mono ?_
    rintro e w9 ⟨rfl, hB9⟩
    have hBB9 := hBB8.trans (hB9.mono hBB8.size)
    clear hsm y0 y1 y2 y3 x0 x1 x2 x3
    go_wp2_with (first | (with_reducible refine hold_append ?_) | (with_reducible refine hold_make ?_) | (with_reducible refine hold_copy ?_))
    refine (HHD.out w9 hBB9).mono ?_
    rintro e w10 ⟨rfl, hB10⟩
    go_wp2_with (first | (with_reducible refine hold_append ?_) | (with_reducible refine hold_make ?_) | (with_reducible refine hold_copy ?_))
    go_ret
    exact ⟨rfl, hBB9.trans (hB10.mono hBB9.size)⟩
end Go.PH
end

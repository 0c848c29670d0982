/- The walk of Take. -/
import Derived.Test.YtemngfljlaimdaaWrTakeMem
set_option linter.all false
set_option linter.unusedSimpArgs false
set_option linter.unusedVariables false
namespace Go.PH
open Go.RowKit Go.Proofs Go.ChangeMaps

def TakeR (w : World) (F : Nat → Prop) (pb n : Nat) (R : List Wl) (a b i : Int) (e : Ending) (w' : World) : Prop :=
  e = .returned (.tuple #[.string (str (takeW R a b i).2.1), .int .i64 ((takeW R a b i).2.2 : Int)]) ∧ ∃ F' : Nat → Prop, (∀ g, F' g → F g ∨ w.heap.size ≤ g) ∧ Wr w' F' pb (n + 1) (takeW R a b i).1 ∧ KeepF F w w'
set_option maxRecDepth 20000 in
set_option maxHeartbeats 4000000 in
theorem take_any (F : Nat → Prop) (pb n : Nat) (R : List Wl) (a b i : Int) (w : World) (h : Wr w F pb n R) (ha : i64ok a) (hb : i64ok b) (hn : n < maxLen) :
    Calls Try.prog 10 #[.pointer (some ⟨pb, 0, none⟩), .int .i64 a, .int .i64 b, .int .i64 i] w (TakeR w F pb n R a b i) := by
  obtain ⟨kb, w0, hqb, hqv, hk, hB0⟩ := alloc_stepW w #[.int .i64 0, .int .i64 0] 54
  have HW := Lib.hid h
  obtain ⟨⟨mb, D, hd, hx, hpF, hpm, hpr, hm⟩, hwf, hmost⟩ := h
  have hkm : kb ≠ mb := fun e => by have := hm.lt _ hm.inF; omega
  have hx0w : pb < w.heap.size := hx.lt
  have hkw : w.heap.size ≤ kb := by omega
  have hpk : pb < kb := by rw [hqb]; exact hx.lt
  have hx0 := hx.below hB0
  have HWF := Lib.hid hwf
  have HMO := Lib.hid hmost
  have HPR := Lib.hid hpr
  have hmo := hmost a b
  clear hwf hmost
  go_enter Try.func10, Try.ntmps10
  go_upto_region 1 with fail
  go_wp2_with (first | (with_reducible refine hold_append ?_) | (with_reducible refine hold_make ?_) | (with_reducible refine hold_copy ?_) | (with_reducible refine hold_store ?_))
  rw [← hqb, ← hqv]
  refine unhold (wp_box (v := .agg #[.int .i64 a, .int .i64 b]) (vs := [.int .i64 a, .int .i64 b]) rfl rfl rfl rfl hk rfl (by kernel_rfl) (by simp) (by simp [Value.oneCell']) #[.int .i64 a, .int .i64 b] (by simp) ?_)
  intro w1 hk1 hg1 hz1
  have hx1 := hx0.grown hg1 (by simp; omega)
  have hB1 : Below w.heap.size w w1 := hB0.grown hg1 hB0.size (fun g hg => by injection hg with hg; omega)
  have hm1 : WrMap w1 F mb n D hd R := hm.keep (fun g hg => hB1.block g (hm.lt g hg)) hB1.size
  clear hx0 hk hg1 hB0 hqb hqv
  have hfi := find_any F pb mb n D hd R a b i w1 hx1 hm1 ha hb hmo
  have k0 := hk1.cell (j := 0) rfl
  have k1 := hk1.cell (j := 1) rfl
  go_wp2_with (first | (with_reducible refine hold_append ?_) | (with_reducible refine hold_make ?_) | (with_reducible refine hold_copy ?_) | (with_reducible refine hold_store ?_))
  clear k0 k1
  refine hfi.mono ?_
  clear hfi
  rintro e w2 ⟨hB2, ⟨h0, h1, rfl⟩ | ⟨h0, rfl⟩⟩
  · obtain ⟨j, hj, hjl, hjs, hjR⟩ := place_in h0 h1
    have hne : bag R a b ≠ [] := fun e => by rw [e] at h1; simp at h1; omega
    have hrw := own_below (hm1.row a b ha hb hne).1 hB2
    have hrF := (hm1.row a b ha hb hne).2
    obtain ⟨k, rfl⟩ : ∃ k : Nat, i = (k : Int) := ⟨i.toNat, by omega⟩
    have hnl : (hd a b).n = (bag R a b).length := by have := hrw.rd.len; simpa using this.symm
    obtain ⟨g, off, u, hA, _, hu, hcell⟩ := hrw.rd.at_k (k := k) (by omega)
    have hus : u = .string (str R[j].s) := by
      rw [List.getElem?_map] at hu
      rw [show ((k : Int).toNat) = k from rfl] at hjs
      rw [hjs] at hu
      simpa [strV] using hu.symm
    subst hus
    have HT : Hid (takeW R a b k = (R.eraseIdx j, R[j].s, 0)) := Lib.hid (by rw [takeW, hj]; simp [hjl])
    obtain ⟨M, hM⟩ : ∃ M, (hd a b).n = M + 1 := ⟨(hd a b).n - 1, by omega⟩
    have hdl := del_any (hd a b).A M (hd a b).c k (bag R a b) w2 (by have := hrw; unfold OwnS; rw [← hM]; exact this) (by omega)
    have hkl : k < M + 1 := by omega
    have hM63 : M < 64 := by omega
    obtain ⟨H, hH⟩ : ∃ H, H = hd a b := ⟨_, rfl⟩
    rw [← hH] at hM hdl hA
    have HH := Lib.hid hH
    unfold Hd.v
    rw [← hH, hM]
    rw [hA]
    rw [hA] at hdl
    obtain ⟨gA, hgA⟩ : ∃ gA, gA = blk (some (⟨g, off, none⟩ : Addr)) := ⟨_, rfl⟩
    rw [← hgA] at hdl
    generalize H.c = C at *
    have HB := Lib.hid hB2
    have hgF : F g ∧ g ≠ mb ∧ g ≠ pb ∧ g ≠ kb ∧ g < w.heap.size := by
      have q0 : blk (hd a b).A = some g := by rw [← hH, hA]; rfl
      have q1 := hrF g q0
      have q2 := hm.lt g q1.1
      exact ⟨q1.1, q1.2, fun e => hpr a b ha hb hne (by rw [q0, e]), by omega, q2⟩
    have hgs : gA = some g := hgA
    have hm2 : WrMap w2 F mb n D hd R := hm1.keep (fun g hg => hB2.block g (hm1.lt g hg)) hB2.size
    have hx2 := hx1.below hB2
    have hk2 := hk1.below hB2
    have HNE := Lib.hid hne
    have HE := Lib.hid (show ∀ x ∈ R.eraseIdx j, x ∈ R from fun x hx => List.mem_of_mem_eraseIdx hx)
    have hmost' : ∀ x y, (bag (R.eraseIdx j) x y).length ≤ 64 := fun x y => by
      rw [hjR x y]
      have q1 := HMO.out a b
      have q2 := HMO.out x y
      split
      · rw [List.length_eraseIdx]; split <;> omega
      · exact q2
    have HM := Lib.hid hmost'
    rw [show ((k : Int)).toNat = k from rfl] at hjR
    have HR := Lib.hid hjR
    have HBN : Hid ((bag R a b).length = M + 1) := Lib.hid (by rw [← hnl, ← HH.out]; exact hM)
    clear hne hrw hrF hu hjs hj hnl hmo hmost' hjR hm1 hx1 hk1 hm hpr hM hgA hx
    go_wp2_with (first | (with_reducible refine hold_append ?_) | (with_reducible refine hold_make ?_) | (with_reducible refine hold_copy ?_) | (with_reducible refine hold_store ?_))
    refine hdl.mono ?_
    rintro e w3 ⟨rfl, ho3, hg3⟩
    clear hdl
    subst hgs
    have hx3 := hx2.grown hg3 (fun e => hgF.2.2.1 (by injection e with e; omega))
    have hk3 := hk2.grown hg3 (fun e => hgF.2.2.2.1 (by injection e with e; omega))
    have hmb3 : w3.heap[mb]? = w2.heap[mb]? := hg3.block mb (hm2.lt _ hm2.inF) (fun e => hgF.2.1 (by injection e with e; exact e.symm))
    have ho : w3.ownsMap Try.prog 54 rawW mb n D := ownsMap_keep hm2.owns hmb3
    have hB12 : Below w.heap.size w w2 := hB1.trans (hB2.mono hB1.size)
    clear hx2 hk2 hcell hB2 hB1 HB
    by_cases c1 : M = 0
    · subst c1
      have hR0 : Hid (∀ x y, bag (R.eraseIdx j) x y = if x = a ∧ y = b then [] else bag R x y) := Lib.hid (by
        have q : (bag R a b).eraseIdx k = [] := List.eq_nil_of_length_eq_zero (by rw [List.length_eraseIdx, HBN.out, if_pos hkl])
        rw [← q]; exact HR.out)
      go_upto_region 8 with fail
      refine rg_start (fun W : World => Box W pb 50 #[.map (some mb)] ∧ Box W kb 54 #[.int .i64 a, .int .i64 b]) (by kernel_rfl) ?_
      have hS : Box w3.drew pb 50 #[.map (some mb)] ∧ Box w3.drew kb 54 #[.int .i64 a, .int .i64 b] := ⟨hx3, hk3⟩
      have hmg : (w3.drew).ownsMap Try.prog 54 rawW mb n D := ho
      have hg4 : w2.grownBy w3.drew (some g) := ⟨hg3.os, hg3.tape, hg3.output, hg3.size, hg3.block⟩
      clear hx3 hk3 ho hg3 hmb3
      generalize w3.drew = v1 at *
      obtain ⟨v2, hrun, ho5, ht5⟩ := hmg.drop way_keyed Try.underlying48 (way_key ha hb) 0
      have hg5 := ht5.grown
      refine rg_take 0 (v := ?_) rfl (by kernel_rfl) (by kernel_rfl) (by kernel_rfl) hS rfl ?_ ?_
      rotate_left
      · intro wS hSw; go_simp; (with_reducible rfl)
      simp only [List.getElem_toArray, List.getElem_cons_zero, Act.put, List.setIfInBounds_toArray, List.set_cons_zero, List.set_cons_succ]
      refine rg_take 1 (v := ?_) rfl (by kernel_rfl) (by kernel_rfl) (by kernel_rfl) hS rfl ?_ ?_
      rotate_left
      · intro wS hSw; have k0 := hSw.1.cell (j := 0) rfl; go_simp; (with_reducible rfl)
      simp only [List.getElem_toArray, List.getElem_cons_succ, List.getElem_cons_zero, Act.put, List.setIfInBounds_toArray, List.set_cons_zero, List.set_cons_succ]
      refine rg_take 2 (v := ?_) rfl (by kernel_rfl) (by kernel_rfl) (by kernel_rfl) hS rfl ?_ ?_
      rotate_left
      · intro wS hSw; go_simp; (with_reducible rfl)
      simp only [List.getElem_toArray, List.getElem_cons_succ, List.getElem_cons_zero, Act.put, List.setIfInBounds_toArray, List.set_cons_zero, List.set_cons_succ]
      refine rg_take 3 (v := ?_) rfl (by kernel_rfl) (by kernel_rfl) (by kernel_rfl) hS rfl ?_ ?_
      rotate_left
      · intro wS hSw; have k0 := hSw.1.cell (j := 0) rfl; go_simp; (with_reducible rfl)
      simp only [List.getElem_toArray, List.getElem_cons_succ, List.getElem_cons_zero, Act.put, List.setIfInBounds_toArray, List.set_cons_zero, List.set_cons_succ]
      refine rg_take 4 (v := ?_) rfl (by kernel_rfl) (by kernel_rfl) (by kernel_rfl) hS rfl ?_ ?_
      rotate_left
      · intro wS hSw; have k0 := hSw.2.cell (j := 0) rfl; have k1 := hSw.2.cell (j := 1) rfl; go_simp; (with_reducible rfl)
      simp only [List.getElem_toArray, List.getElem_cons_succ, List.getElem_cons_zero, Act.put, List.setIfInBounds_toArray, List.set_cons_zero, List.set_cons_succ]
      refine rg_one 5 rfl (by kernel_rfl) rfl (fun K hK => ?_)
      refine op_delete rfl rfl rfl rfl hrun ?_
      have hS5 : Box v2 pb 50 #[.map (some mb)] ∧ Box v2 kb 54 #[.int .i64 a, .int .i64 b] := ⟨hS.1.grown hg5 (fun e => hpm (by injection e)), hS.2.grown hg5 (fun e => hkm (by injection e))⟩
      refine hK _ _ hS5 ?_; clear hK K
      try simp only [List.getElem_toArray, List.getElem_cons_succ, List.getElem_cons_zero, Act.put, List.setIfInBounds_toArray, List.set_cons_zero, List.set_cons_succ]
      refine rg_end (by kernel_rfl) ?_
      go_wp2_with (first | (with_reducible refine hold_append ?_) | (with_reducible refine hold_make ?_) | (with_reducible refine hold_copy ?_) | (with_reducible refine hold_store ?_))
      go_ret2
      have hs1 := hB12.size
      have hs4 := hg4.size
      have hs5 := hg5.size
      have k5 : ∀ g', g' < w2.heap.size → g' ≠ mb → g' ≠ g → v2.heap[g']? = w2.heap[g']? := fun g' h1 h2 h3 => (hg5.block g' (by omega) (fun e => h2 (by injection e))).trans (hg4.block g' h1 (fun e => h3 (by injection e)))
      have hq : blk (hd a b).A = some g := by rw [← HH.out, hA]; rfl
      have hgn := hm2.gone ha hb hR0.out ho5 HNE.out (fun g' h1 h2 h3 => k5 g' h1 h2 (fun e => h3 (by rw [hq, e]))) (by omega)
      refine ⟨by rw [HT.out]; rfl, F, fun g hg => .inl hg, ?_, by omega, fun g' hg' hF => ?_, (Quiet.below hB12).trans ((Quiet.grown hg4).trans (.grown hg5))⟩
      · rw [HT.out]
        exact ⟨⟨mb, _, hd, hS5.1, hpF, hpm, fun x y hx hy hne => HPR.out x y hx hy (fun e => by rw [hR0.out] at hne; split at hne; exact hne rfl; exact hne e), hgn.mono (Nat.le_succ _)⟩, fun x hx => HWF.out x (HE.out x hx), HM.out⟩
      · rw [k5 g' (by omega) (fun e => hF (by rw [e]; exact hm2.inF)) (fun e => hF (by rw [e]; exact hgF.1)), hB12.block g' hg']
    · have hd1 : decide ((M : Int) = 0) = false := by simp; omega
      have hne0 : (bag R a b).eraseIdx k ≠ [] := fun e => by
        have := congrArg List.length e
        rw [List.length_eraseIdx, HBN.out, if_pos hkl] at this
        simp at this; omega
      have HN0 := Lib.hid hne0
      clear hne0
      go_upto_region 9 with fail
      refine rg_start (fun W : World => Box W pb 50 #[.map (some mb)] ∧ Box W kb 54 #[.int .i64 a, .int .i64 b]) (by kernel_rfl) ?_
      have hS : Box w3.drew pb 50 #[.map (some mb)] ∧ Box w3.drew kb 54 #[.int .i64 a, .int .i64 b] := ⟨hx3, hk3⟩
      have hmg : (w3.drew).ownsMap Try.prog 54 rawW mb n D := ho
      have hg4 : w2.grownBy w3.drew (some g) := ⟨hg3.os, hg3.tape, hg3.output, hg3.size, hg3.block⟩
      have ho4 : OwnS w3.drew ⟨some ⟨g, off, none⟩, M, C⟩ ((bag R a b).eraseIdx k) := ho3
      clear hx3 hk3 ho hg3 hmb3 ho3
      generalize w3.drew = v1 at *
      obtain ⟨v2, hrun, ho5, ht5⟩ := hmg.store way_keyed Try.underlying48 hn (way_key ha hb) (val := .slice (some ⟨g, off, none⟩) M C) rfl
      have hg5 := ht5.grown
      refine rg_take 0 (v := ?_) rfl (by kernel_rfl) (by kernel_rfl) (by kernel_rfl) hS rfl ?_ ?_
      rotate_left
      · intro wS hSw; go_simp; (with_reducible rfl)
      simp only [List.getElem_toArray, List.getElem_cons_zero, Act.put, List.setIfInBounds_toArray, List.set_cons_zero, List.set_cons_succ]
      refine rg_take 1 (v := ?_) rfl (by kernel_rfl) (by kernel_rfl) (by kernel_rfl) hS rfl ?_ ?_
      rotate_left
      · intro wS hSw; have k0 := hSw.1.cell (j := 0) rfl; go_simp; (with_reducible rfl)
      simp only [List.getElem_toArray, List.getElem_cons_succ, List.getElem_cons_zero, Act.put, List.setIfInBounds_toArray, List.set_cons_zero, List.set_cons_succ]
      refine rg_take 2 (v := ?_) rfl (by kernel_rfl) (by kernel_rfl) (by kernel_rfl) hS rfl ?_ ?_
      rotate_left
      · intro wS hSw; go_simp; (with_reducible rfl)
      simp only [List.getElem_toArray, List.getElem_cons_succ, List.getElem_cons_zero, Act.put, List.setIfInBounds_toArray, List.set_cons_zero, List.set_cons_succ]
      refine rg_take 3 (v := ?_) rfl (by kernel_rfl) (by kernel_rfl) (by kernel_rfl) hS rfl ?_ ?_
      rotate_left
      · intro wS hSw; have k0 := hSw.1.cell (j := 0) rfl; go_simp; (with_reducible rfl)
      simp only [List.getElem_toArray, List.getElem_cons_succ, List.getElem_cons_zero, Act.put, List.setIfInBounds_toArray, List.set_cons_zero, List.set_cons_succ]
      refine rg_take 4 (v := ?_) rfl (by kernel_rfl) (by kernel_rfl) (by kernel_rfl) hS rfl ?_ ?_
      rotate_left
      · intro wS hSw; have k0 := hSw.2.cell (j := 0) rfl; have k1 := hSw.2.cell (j := 1) rfl; go_simp; (with_reducible rfl)
      simp only [List.getElem_toArray, List.getElem_cons_succ, List.getElem_cons_zero, Act.put, List.setIfInBounds_toArray, List.set_cons_zero, List.set_cons_succ]
      refine rg_take 5 (v := ?_) rfl (by kernel_rfl) (by kernel_rfl) (by kernel_rfl) hS rfl ?_ ?_
      rotate_left
      · intro wS hSw; go_simp; (with_reducible rfl)
      simp only [List.getElem_toArray, List.getElem_cons_succ, List.getElem_cons_zero, Act.put, List.setIfInBounds_toArray, List.set_cons_zero, List.set_cons_succ]
      refine rg_one 6 rfl (by kernel_rfl) rfl (fun K hK => ?_)
      refine op_mapUpdate rfl rfl rfl rfl hrun ?_
      have hS5 : Box v2 pb 50 #[.map (some mb)] ∧ Box v2 kb 54 #[.int .i64 a, .int .i64 b] := ⟨hS.1.grown hg5 (fun e => hpm (by injection e)), hS.2.grown hg5 (fun e => hkm (by injection e))⟩
      refine hK _ _ hS5 ?_; clear hK K
      try simp only [List.getElem_toArray, List.getElem_cons_succ, List.getElem_cons_zero, Act.put, List.setIfInBounds_toArray, List.set_cons_zero, List.set_cons_succ]
      refine rg_end (by kernel_rfl) ?_
      go_wp2_with (first | (with_reducible refine hold_append ?_) | (with_reducible refine hold_make ?_) | (with_reducible refine hold_copy ?_) | (with_reducible refine hold_store ?_))
      go_ret2
      have hs1 := hB12.size
      have hs4 := hg4.size
      have hs5 := hg5.size
      have k5 : ∀ g', g' < w2.heap.size → g' ≠ mb → g' ≠ g → v2.heap[g']? = w2.heap[g']? := fun g' h1 h2 h3 => (hg5.block g' (by omega) (fun e => h2 (by injection e))).trans (hg4.block g' h1 (fun e => h3 (by injection e)))
      have hq : (hd a b).A = some ⟨g, off, none⟩ := by rw [← HH.out, hA]
      have hq' : blk (hd a b).A = some g := by rw [hq]; rfl
      rw [← hq] at ho4 ho5
      have ho6 : OwnS v2 ⟨(hd a b).A, M, C⟩ ((bag R a b).eraseIdx k) := own_keep ho4 (fun g' hg' => hg5.block g' (by rw [hq'] at hg'; injection hg' with e; rw [← e]; omega) (fun e => by rw [hq'] at hg'; injection hg' with e1; injection e with e2; exact hgF.2.1 (e1.trans e2))) hg5.size
      have hgn := hm2.taken ha hb HN0.out HNE.out HR.out ho6 (fun g' h1 h2 h3 => k5 g' h1 h2 (fun e => h3 (by rw [hq', e]))) (by omega) ho5
      refine ⟨by rw [HT.out]; rfl, F, fun g hg => .inl hg, ?_, by omega, fun g' hg' hF => ?_, (Quiet.below hB12).trans ((Quiet.grown hg4).trans (.grown hg5))⟩
      · rw [HT.out]
        refine ⟨⟨mb, _, _, hS5.1, hpF, hpm, fun x y hx hy hne => ?_, hgn⟩, fun x hx => HWF.out x (HE.out x hx), HM.out⟩
        by_cases hxy : x = a ∧ y = b
        · simp only [if_pos hxy]
          rw [hq']
          exact fun e => hgF.2.2.1 (by injection e)
        · simp only [if_neg hxy]
          rw [HR.out, if_neg hxy] at hne
          exact HPR.out x y hx hy hne
      · rw [k5 g' (by omega) (fun e => hF (by rw [e]; exact hm2.inF)) (fun e => hF (by rw [e]; exact hgF.1)), hB12.block g' hg']
  · have HT : Hid (takeW R a b i = (R, [], 7)) := Lib.hid (by rw [takeW, place_out h0])
    have HB := Lib.hid (hB1.trans (hB2.mono hB1.size))
    clear hB2 h0
    go_wp2_with (first | (with_reducible refine hold_append ?_) | (with_reducible refine hold_make ?_) | (with_reducible refine hold_copy ?_))
    go_ret2
    exact ⟨by rw [HT.out]; rfl, F, fun g hg => .inl hg, by rw [HT.out]; exact (HW.out.below HB.out).mono (Nat.le_succ _), KeepF.below HB.out⟩
end Go.PH

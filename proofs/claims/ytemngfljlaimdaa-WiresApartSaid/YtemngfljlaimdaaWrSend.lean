/- The walk of Send. -/
import Derived.Test.YtemngfljlaimdaaWrSent
set_option linter.all false
set_option linter.unusedSimpArgs false
set_option linter.unusedVariables false
namespace Go.PH
open Go.RowKit Go.Proofs Go.ChangeMaps

theorem slS : SlT Try.prog 22 9 1 16 (.string ⟨#[]⟩) := SlT.mk' Try.underlying22 (by kernel_rfl) rfl (by omega)
def SendR (w : World) (F : Nat → Prop) (pb n : Nat) (R : List Wl) (a b : Int) (s : List UInt8) (e : Ending) (w' : World) : Prop :=
  e = .returned (.int .i64 ((sendW R a b s).2 : Int)) ∧ ∃ F' : Nat → Prop, (∀ g, F' g → F g ∨ w.heap.size ≤ g) ∧ Wr w' F' pb (n + 1) (sendW R a b s).1 ∧ KeepF F w w'
theorem WrMap.mono {w : World} {F : Nat → Prop} {mb n m : Nat} {D : DataW Value} {hd : Int → Int → Hd} {R : List Wl} (h : WrMap w F mb n D hd R) (hn : n ≤ m) : WrMap w F mb m D hd R :=
  ⟨h.owns.mono hn, h.inF, h.miss, h.has, h.row, h.apart, h.lt⟩
theorem Wr.mono {w : World} {F : Nat → Prop} {pb n m : Nat} {R : List Wl} (h : Wr w F pb n R) (hn : n ≤ m) : Wr w F pb m R := by
  obtain ⟨⟨mb, D, hd, h1, h2, h3, h4, h5⟩, h6, h7⟩ := h
  exact ⟨⟨mb, D, hd, h1, h2, h3, h4, h5.mono hn⟩, h6, h7⟩
theorem Wr.lt {w : World} {F : Nat → Prop} {pb n : Nat} {R : List Wl} (h : Wr w F pb n R) : ∀ g, F g → g < w.heap.size := by
  obtain ⟨⟨mb, D, hd, h1, h2, h3, h4, h5⟩, h6, h7⟩ := h
  exact h5.lt
theorem Wr.below {w w' : World} {F : Nat → Prop} {pb n : Nat} {R : List Wl} (h : Wr w F pb n R) (hB : Below w.heap.size w w') : Wr w' F pb n R := h.keep (fun g hg => hB.block g (h.lt g hg)) hB.size
theorem send_same {w w' : World} {F : Nat → Prop} {pb n : Nat} {R : List Wl} {a b : Int} {s : List UInt8} {k : Nat} (h : Wr w F pb n R) (hB : Below w.heap.size w w') (hs : sendW R a b s = (R, k)) : SendR w F pb n R a b s (.returned (.int .i64 (k : Int))) w' :=
  ⟨by rw [hs], F, fun g hg => .inl hg, by rw [hs]; exact (h.below hB).mono (Nat.le_succ _), KeepF.below hB⟩
theorem WrMap.lookAll {w : World} {F : Nat → Prop} {mb n : Nat} {D : DataW Value} {hd : Int → Int → Hd} {R : List Wl} (h : WrMap w F mb n D hd R) {a b : Int} (ha : i64ok a) (hb : i64ok b) {N : Nat} (hN : N = (bag R a b).length) :
    ∃ H : Hd, H.n = N ∧ (bag R a b ≠ [] → H = hd a b) ∧ (bag R a b = [] → H = ⟨none, 0, 0⟩) ∧ ∀ W, Below w.heap.size w W → (Instr.lookup 48 (.map (some mb)) (.agg #[.int .i64 a, .int .i64 b]) false).run Try.prog W = .ok (.slice H.A N H.c) W := by
  have hlk : ∀ W, Below w.heap.size w W → ∃ H : Hd, (Instr.lookup 48 (.map (some mb)) (.agg #[.int .i64 a, .int .i64 b]) false).run Try.prog W = .ok (.slice H.A N H.c) W ∧ H.n = N ∧ (bag R a b ≠ [] → H = hd a b) ∧ (bag R a b = [] → H = ⟨none, 0, 0⟩) := fun W hW => by
    obtain ⟨H, h1, h2, _, h3, h4⟩ := (h.keep (fun g hg => hW.block g (h.lt g hg)) hW.size).look ha hb
    unfold Hd.v wayV at h1
    rw [h2, ← hN] at h1
    exact ⟨H, h1, by rw [h2, hN], h3, h4⟩
  obtain ⟨H, h1, h2, h3, h4⟩ := hlk w (Below.refl _ _)
  refine ⟨H, h2, h3, h4, fun W hW => ?_⟩
  obtain ⟨H', g1, g2, g3, g4⟩ := hlk W hW
  have : H' = H := by
    by_cases e : bag R a b = []
    · rw [h4 e, g4 e]
    · rw [h3 e, g3 e]
  rw [this] at g1
  exact g1
theorem op_entry {P : Program} {o : Oper} {a : Act} {w w' : World} {K : Act → World → Prop} {Q : Exit → Act → World → Prop} {t : TypeId} {m k : Operand} {mv kv v : Value} (ho : o.op = .mapEntry t m k) (hm : a.eval m = mv) (hk : a.eval k = kv) (hrun : (Instr.mapEntry t mv kv).run P w = .ok v w') (h : K (a.put o.dst v) w') : o.wp P a w K Q := by
  unfold Oper.wp execOp
  simp only [ho, hm, hk, Sem.run_bind, Sem.run_pure, Result.andThen_ok, hrun]
  exact h
theorem op_entryStore {P : Program} {o : Oper} {a : Act} {w w' : World} {K : Act → World → Prop} {Q : Exit → Act → World → Prop} {t : TypeId} {m k x : Operand} {mv kv xv : Value} (ho : o.op = .entryStore t m k x) (hm : a.eval m = mv) (hk : a.eval k = kv) (hx : a.eval x = xv) (hrun : (Instr.entryStore t mv kv xv).run P w = .ok () w') (h : K (a.put o.dst undef) w') : o.wp P a w K Q := by
  unfold Oper.wp execOp
  simp only [ho, hm, hk, hx, Sem.run_bind, Sem.run_pure, Result.andThen_ok, hrun]
  exact h
theorem WrMap.entry {w : World} {F : Nat → Prop} {mb n : Nat} {D : DataW Value} {hd : Int → Int → Hd} {R : List Wl} (h : WrMap w F mb n D hd R) {a b : Int} (ha : i64ok a) (hb : i64ok b) (hn : n < maxLen) {H : Hd} (h1 : bag R a b ≠ [] → H = hd a b) (h2 : bag R a b = [] → H = ⟨none, 0, 0⟩) :
    ∃ st w', (Instr.mapEntry 48 (.map (some mb)) (.agg #[.int .i64 a, .int .i64 b])).run Try.prog w = .ok (.tuple #[.slice H.A H.n H.c, goInt st]) w' ∧ w.grownBy w' (some mb) ∧ w'.heap.size = w.heap.size ∧
      ∀ w2 val, w2.heap[mb]? = w'.heap[mb]? → ∃ w3, (Instr.entryStore 48 (.map (some mb)) (goInt st) val).run Try.prog w2 = .ok () w3 ∧ w3.ownsMap Try.prog 54 rawW mb (n + 1) (D.put (wayL a b) (.held val)) ∧ w2.grownBy w3 (some mb) := by
  obtain ⟨v0, st, m1, ps, e1, e2, e3⟩ := entry_own h.owns way_law Try.underlying48 Try.zeroValue22 (zd := .held (.slice none 0 0)) (zp := []) rfl (way_key ha hb) hn
  have hv : v0 = .slice H.A H.n H.c := by
    by_cases e : bag R a b = []
    · rw [Maps.atKey_of_not_has (h.miss a b ha hb e)] at e2
      simp only [rawW, Option.some.injEq, Prod.mk.injEq, DataW.held.injEq] at e2
      rw [e2.1, h2 e]
    · rw [(h.has a b ha hb e).2] at e2
      simp only [rawW, Option.some.injEq, Prod.mk.injEq, DataW.held.injEq] at e2
      rw [e2.1, h1 e]
      rfl
  subst hv
  obtain ⟨es, clock, hbk, _⟩ := h.owns
  refine ⟨st, _, e1, ⟨rfl, rfl, rfl, by simp [setBlock], fun i _ hi => heap_setBlock_other hbk _ (fun e => hi (by rw [e]))⟩, by simp [setBlock], fun w2 val hw2 => ?_⟩
  rw [heap_setBlock_same hbk] at hw2
  exact e3 w2 val _ _ hw2 rfl
set_option maxRecDepth 20000 in
set_option maxHeartbeats 4000000 in
theorem send_any (F : Nat → Prop) (pb n : Nat) (R : List Wl) (a b : Int) (s : List UInt8) (w : World) (h : Wr w F pb n R) (ha : i64ok a) (hb : i64ok b) (hs : s.length ≤ 140737488351232) (hn : n < maxLen) :
    Calls Try.prog 9 #[.pointer (some ⟨pb, 0, none⟩), .int .i64 a, .int .i64 b, .string (str s)] w (SendR w F pb n R a b s) := by
  obtain ⟨kb, w0, hqb, hqv, hk, hB0⟩ := alloc_stepW w #[.int .i64 0, .int .i64 0] 54
  have hss := str_size s
  have HW := Lib.hid h
  obtain ⟨⟨mb, D, hd, hx, hpF, hpm, hpr, hm⟩, hwf, hmost⟩ := h
  have hkm : kb ≠ mb := fun e => by have := hm.lt _ hm.inF; omega
  have hx0w : pb < w.heap.size := hx.lt
  have hkw : w.heap.size ≤ kb := by omega
  have hpk : pb < kb := by rw [hqb]; exact hx.lt
  have hx0 := hx.below hB0
  have hm0 : WrMap w0 F mb n D hd R := hm.keep (fun g hg => hB0.block g (hm.lt g hg)) hB0.size
  obtain ⟨N, hN⟩ : ∃ N, N = (bag R a b).length := ⟨_, rfl⟩
  have hmo := hmost a b
  rw [← hN] at hmo
  have HN := Lib.hid hN
  have HWF := Lib.hid hwf
  have HMO := Lib.hid hmost
  clear hN hwf hmost
  go_enter Try.func9, Try.ntmps9
  go_upto_region 1 with fail
  go_wp2_with (first | (with_reducible refine hold_append ?_) | (with_reducible refine hold_make ?_) | (with_reducible refine hold_copy ?_) | (with_reducible refine hold_store ?_))
  rw [← hqb, ← hqv]
  refine unhold (wp_box (v := .agg #[.int .i64 a, .int .i64 b]) (vs := [.int .i64 a, .int .i64 b]) rfl rfl rfl rfl hk rfl (by kernel_rfl) (by simp) (by simp [Value.oneCell']) #[.int .i64 a, .int .i64 b] (by simp) ?_)
  intro w1 hk1 hg1 hz1
  have hx1 := hx0.grown hg1 (by simp; omega)
  have hB1 : Below w.heap.size w w1 := hB0.grown hg1 hB0.size (fun g hg => by injection hg with hg; omega)
  have hm1 : WrMap w1 F mb n D hd R := hm.keep (fun g hg => hB1.block g (hm.lt g hg)) hB1.size
  clear hm0 hx0 hk hg1 hB0 hqb hqv
  have hth := there_any pb mb w1 hx1
  go_wp2_with (first | (with_reducible refine hold_append ?_) | (with_reducible refine hold_make ?_) | (with_reducible refine hold_copy ?_) | (with_reducible refine hold_store ?_))
  refine hth.mono ?_
  rintro e w2 ⟨rfl, e2⟩
  subst w2
  clear hth
  by_cases c1 : 32768 < s.length
  · have hd1 : (32768 : Int) < ((str s).size : Int) := by omega
    have HS : Hid (sendW R a b s = (R, 3)) := Lib.hid (by rw [sendW, if_pos c1])
    clear hss
    go_wp2_with (first | (with_reducible refine hold_append ?_) | (with_reducible refine hold_make ?_) | (with_reducible refine hold_copy ?_) | (with_reducible refine hold_store ?_))
    go_ret
    exact send_same HW.out hB1 HS.out
  · have hd1 : decide ((32768 : Int) < ((str s).size : Int)) = false := by simp; omega
    have hsl : s.length ≤ 32768 := by omega
    have HC1 := Lib.hid c1
    clear hss c1
    obtain ⟨H, hHn, hH1, hH2, HLK⟩ := hm1.lookAll ha hb HN.out
    go_upto_region 6 with fail
    refine rg_start (fun W : World => Below w1.heap.size w1 W) (by kernel_rfl) ?_
    have hS : Below w1.heap.size w1 w1.drew := below_drewN (Below.refl _ _) 1
    generalize w1.drew = wd at *
    refine rg_take 0 (v := ?_) rfl (by kernel_rfl) (by kernel_rfl) (by kernel_rfl) hS rfl ?_ ?_
    rotate_left
    · intro wS hSw; go_simp; (with_reducible rfl)
    simp only [List.getElem_toArray, List.getElem_cons_zero, Act.put, List.setIfInBounds_toArray, List.set_cons_zero, List.set_cons_succ]
    refine rg_take 1 (v := ?_) rfl (by kernel_rfl) (by kernel_rfl) (by kernel_rfl) hS rfl ?_ ?_
    rotate_left
    · intro wS hSw; have k0 := (hx1.below hSw).cell (j := 0) rfl; go_simp; (with_reducible rfl)
    simp only [List.getElem_toArray, List.getElem_cons_succ, List.getElem_cons_zero, Act.put, List.setIfInBounds_toArray, List.set_cons_zero, List.set_cons_succ]
    refine rg_take 2 (v := ?_) rfl (by kernel_rfl) (by kernel_rfl) (by kernel_rfl) hS rfl ?_ ?_
    rotate_left
    · intro wS hSw; go_simp; (with_reducible rfl)
    simp only [List.getElem_toArray, List.getElem_cons_succ, List.getElem_cons_zero, Act.put, List.setIfInBounds_toArray, List.set_cons_zero, List.set_cons_succ]
    refine rg_take 3 (v := ?_) rfl (by kernel_rfl) (by kernel_rfl) (by kernel_rfl) hS rfl ?_ ?_
    rotate_left
    · intro wS hSw; have k0 := (hx1.below hSw).cell (j := 0) rfl; go_simp; (with_reducible rfl)
    simp only [List.getElem_toArray, List.getElem_cons_succ, List.getElem_cons_zero, Act.put, List.setIfInBounds_toArray, List.set_cons_zero, List.set_cons_succ]
    refine rg_take 4 (v := ?_) rfl (by kernel_rfl) (by kernel_rfl) (by kernel_rfl) hS rfl ?_ ?_
    rotate_left
    · intro wS hSw; have k0 := (hk1.below hSw).cell (j := 0) rfl; have k1 := (hk1.below hSw).cell (j := 1) rfl; go_simp; (with_reducible rfl)
    simp only [List.getElem_toArray, List.getElem_cons_succ, List.getElem_cons_zero, Act.put, List.setIfInBounds_toArray, List.set_cons_zero, List.set_cons_succ]
    refine rg_take 5 (v := ?_) rfl (by kernel_rfl) (by kernel_rfl) (by kernel_rfl) hS rfl ?_ ?_
    rotate_left
    · intro wS hSw; have k0 := HLK _ hSw; go_simp; (with_reducible rfl)
    simp only [List.getElem_toArray, List.getElem_cons_succ, List.getElem_cons_zero, Act.put, List.setIfInBounds_toArray, List.set_cons_zero, List.set_cons_succ]
    refine rg_take 6 (v := ?_) rfl (by kernel_rfl) (by kernel_rfl) (by kernel_rfl) hS rfl ?_ ?_
    rotate_left
    · intro wS hSw; go_simp; (with_reducible rfl)
    simp only [List.getElem_toArray, List.getElem_cons_succ, List.getElem_cons_zero, Act.put, List.setIfInBounds_toArray, List.set_cons_zero, List.set_cons_succ]
    refine rg_take 7 (v := ?_) rfl (by kernel_rfl) (by kernel_rfl) (by kernel_rfl) hS rfl ?_ ?_
    rotate_left
    · intro wS hSw; go_simp; (with_reducible rfl)
    simp only [List.getElem_toArray, List.getElem_cons_succ, List.getElem_cons_zero, Act.put, List.setIfInBounds_toArray, List.set_cons_zero, List.set_cons_succ]
    refine rg_take 8 (v := ?_) rfl (by kernel_rfl) (by kernel_rfl) (by kernel_rfl) hS rfl ?_ ?_
    rotate_left
    · intro wS hSw; go_simp; (with_reducible rfl)
    simp only [List.getElem_toArray, List.getElem_cons_succ, List.getElem_cons_zero, Act.put, List.setIfInBounds_toArray, List.set_cons_zero, List.set_cons_succ]
    refine rg_end (by kernel_rfl) ?_
    have hB2 : Below w.heap.size w wd := hB1.trans (hS.mono hB1.size)
    have hx2 := hx1.below hS
    have hk2 := hk1.below hS
    have hm2 : WrMap wd F mb n D hd R := hm.keep (fun g hg => hB2.block g (hm.lt g hg)) hB2.size
    clear hS hx1 hk1 hm1 HLK hB1
    by_cases c2 : 64 ≤ N
    · have HS : Hid (sendW R a b s = (R, 6)) := Lib.hid (by rw [sendW, if_neg HC1.out, ← HN.out, if_pos c2])
      go_wp2_with (first | (with_reducible refine hold_append ?_) | (with_reducible refine hold_make ?_) | (with_reducible refine hold_copy ?_) | (with_reducible refine hold_store ?_))
      go_ret
      exact send_same HW.out hB2 HS.out
    · have HS : Hid (sendW R a b s = (R ++ [⟨a, b, s⟩], 0)) := Lib.hid (by rw [sendW, if_neg HC1.out, ← HN.out, if_neg c2])
      have hd2 : decide ((64 : Int) ≤ (N : Int)) = false := by simp; omega
      go_upto_region 8 with fail
      refine rg_start (fun W : World => Box W pb 50 #[.map (some mb)] ∧ Box W kb 54 #[.int .i64 a, .int .i64 b]) (by kernel_rfl) ?_
      have hS : Box wd.drew pb 50 #[.map (some mb)] ∧ Box wd.drew kb 54 #[.int .i64 a, .int .i64 b] := ⟨hx2, hk2⟩
      have hB3 : Below w.heap.size w wd.drew := below_drewN hB2 1
      generalize wd.drew = v1 at *
      have hmv : WrMap v1 F mb n D hd R := hm.keep (fun g hg => hB3.block g (hm.lt g hg)) hB3.size
      clear hm2 hx2 hk2 hB2
      refine rg_take 0 (v := ?_) rfl (by kernel_rfl) (by kernel_rfl) (by kernel_rfl) hS rfl ?_ ?_
      rotate_left
      · intro wS hSw; go_simp; (with_reducible rfl)
      simp only [List.getElem_toArray, List.getElem_cons_zero, Act.put, List.setIfInBounds_toArray, List.set_cons_zero, List.set_cons_succ]
      refine rg_take 1 (v := ?_) rfl (by kernel_rfl) (by kernel_rfl) (by kernel_rfl) hS rfl ?_ ?_
      rotate_left
      · intro wS hSw; have k0 := hSw.1.cell (j := 0) rfl; go_simp; (with_reducible rfl)
      simp only [List.getElem_toArray, List.getElem_cons_succ, List.getElem_cons_zero, Act.put, List.setIfInBounds_toArray, List.set_cons_zero, List.set_cons_succ]
      refine rg_take 2 (v := ?_) rfl (by kernel_rfl) (by kernel_rfl) (by kernel_rfl) hS rfl ?_ ?_
      rotate_left
      · intro wS hSw; go_simp; (with_reducible rfl)
      simp only [List.getElem_toArray, List.getElem_cons_succ, List.getElem_cons_zero, Act.put, List.setIfInBounds_toArray, List.set_cons_zero, List.set_cons_succ]
      refine rg_take 3 (v := ?_) rfl (by kernel_rfl) (by kernel_rfl) (by kernel_rfl) hS rfl ?_ ?_
      rotate_left
      · intro wS hSw; have k0 := hSw.1.cell (j := 0) rfl; go_simp; (with_reducible rfl)
      simp only [List.getElem_toArray, List.getElem_cons_succ, List.getElem_cons_zero, Act.put, List.setIfInBounds_toArray, List.set_cons_zero, List.set_cons_succ]
      refine rg_take 4 (v := ?_) rfl (by kernel_rfl) (by kernel_rfl) (by kernel_rfl) hS rfl ?_ ?_
      rotate_left
      · intro wS hSw; have k0 := hSw.2.cell (j := 0) rfl; have k1 := hSw.2.cell (j := 1) rfl; go_simp; (with_reducible rfl)
      simp only [List.getElem_toArray, List.getElem_cons_succ, List.getElem_cons_zero, Act.put, List.setIfInBounds_toArray, List.set_cons_zero, List.set_cons_succ]
      refine rg_take 5 (v := ?_) rfl (by kernel_rfl) (by kernel_rfl) (by kernel_rfl) hS rfl ?_ ?_
      rotate_left
      · intro wS hSw; go_simp; (with_reducible rfl)
      simp only [List.getElem_toArray, List.getElem_cons_succ, List.getElem_cons_zero, Act.put, List.setIfInBounds_toArray, List.set_cons_zero, List.set_cons_succ]
      refine rg_one 6 rfl (by kernel_rfl) rfl (fun K hK => ?_)
      obtain ⟨lb, v2, hqb, hqv, hl, hB4⟩ := alloc_stepW v1 #[.string (str s)] 9
      have hS2 : Box v2 pb 50 #[.map (some mb)] ∧ Box v2 kb 54 #[.int .i64 a, .int .i64 b] := ⟨hS.1.below hB4, hS.2.below hB4⟩
      have hm2 : WrMap v2 F mb n D hd R := hmv.keep (fun g hg => hB4.block g (hmv.lt g hg)) hB4.size
      obtain ⟨st, v3, hre, hg3, hz3, hst⟩ := hm2.entry ha hb hn hH1 hH2
      rw [hHn] at hre
      go_simp
      rw [← hqb, ← hqv]
      refine hK _ _ hS2 ?_; clear hK K
      try simp only [List.getElem_toArray, List.getElem_cons_succ, List.getElem_cons_zero, Act.put, List.setIfInBounds_toArray, List.set_cons_zero, List.set_cons_succ]
      refine rg_one 7 rfl (by kernel_rfl) rfl (fun K hK => ?_)
      refine op_entry rfl rfl rfl hre ?_
      have hS3 : Box v3 pb 50 #[.map (some mb)] ∧ Box v3 kb 54 #[.int .i64 a, .int .i64 b] := ⟨hS2.1.grown hg3 (fun e => hpm (by injection e)), hS2.2.grown hg3 (fun e => hkm (by injection e))⟩
      refine hK _ _ hS3 ?_; clear hK K
      try simp only [List.getElem_toArray, List.getElem_cons_succ, List.getElem_cons_zero, Act.put, List.setIfInBounds_toArray, List.set_cons_zero, List.set_cons_succ]
      refine rg_take 8 (v := ?_) rfl (by kernel_rfl) (by kernel_rfl) (by kernel_rfl) hS3 rfl ?_ ?_
      rotate_left
      · intro wS hSw; go_simp; (with_reducible rfl)
      simp only [List.getElem_toArray, List.getElem_cons_succ, List.getElem_cons_zero, Act.put, List.setIfInBounds_toArray, List.set_cons_zero, List.set_cons_succ]
      refine rg_take 10 (v := ?_) rfl (by kernel_rfl) (by kernel_rfl) (by kernel_rfl) hS3 rfl ?_ ?_
      rotate_left
      · intro wS hSw; go_simp; (with_reducible rfl)
      simp only [List.getElem_toArray, List.getElem_cons_succ, List.getElem_cons_zero, Act.put, List.setIfInBounds_toArray, List.set_cons_zero, List.set_cons_succ]
      have hrw : Own v3 0 9 1 H.A N H.c ((bag R a b).map strV) := by
        by_cases e : bag R a b = []
        · have hN0 : N = 0 := by rw [HN.out, e]; rfl
          rw [hH2 e, e, hN0]
          exact Own.none_ _ _ _ _
        · obtain ⟨q1, q2⟩ := hm2.row a b ha hb e
          rw [← hHn, hH1 e]
          exact own_keep q1 (fun g hg => hg3.block g (hm2.lt g (q2 g hg).1) (fun e' => (q2 g hg).2 (by injection e'))) hg3.size
      have hlt : blk H.A = none ∨ ∃ g, blk H.A = some g ∧ g < v1.heap.size ∧ g ≠ mb ∧ g ≠ pb ∧ g ≠ kb ∧ F g := by
        by_cases e : bag R a b = []
        · rw [hH2 e]; exact .inl rfl
        · rw [hH1 e]
          rcases hbl : blk (hd a b).A with _ | g
          · exact .inl rfl
          · have q2 := (hmv.row a b ha hb e).2 g hbl
            have q3 := hm.lt g q2.1
            exact .inr ⟨g, rfl, hmv.lt g q2.1, q2.2, fun e' => hpr a b ha hb e (by rw [hbl, e']), by omega, q2.1⟩
      have hrd : Rd v3 v3.heap.size 1 (some ⟨lb, 0, none⟩) 1 1 [.string (str s)] := by
        have hl3 : Box v3 lb 9 #[.string (str s)] := hl.grown hg3 (fun e => by
          have q := hmv.lt _ hmv.inF
          injection e with e
          omega)
        exact ⟨rfl, Nat.le_refl _, by simp [maxLen], fun _ => ⟨lb, 0, rfl, hl3.lt, fun j u hu => by
          rw [Nat.zero_add]
          exact hl3.cell (by simpa using hu)⟩⟩
      refine rg_one 9 rfl (by kernel_rfl) rfl (fun K hK => ?_)
      refine op_app (ops := #[]) slS Try.underlying22 rfl rfl rfl hrw hrd (by simp [Value.oneCell']) (by omega) (by simp [maxLen]; omega) (Nat.zero_le _) ?_
      intro A2 c2 v4 ho4 hg4 hb4
      have hS4 : Box v4 pb 50 #[.map (some mb)] ∧ Box v4 kb 54 #[.int .i64 a, .int .i64 b] := by
        rcases hlt with q | ⟨g, q, _, _, q1, q2, _⟩
        · rw [q] at hg4
          exact ⟨hS3.1.grown hg4 (by simp), hS3.2.grown hg4 (by simp)⟩
        · rw [q] at hg4
          exact ⟨hS3.1.grown hg4 (fun e => q1 (by injection e with e; exact e.symm)), hS3.2.grown hg4 (fun e => q2 (by injection e with e; exact e.symm))⟩
      have hmb4 : v4.heap[mb]? = v3.heap[mb]? := hg4.block mb (by have := hmv.lt _ hmv.inF; have := hB4.size; have := hg3.size; omega) (fun e => by
        rcases hlt with q | ⟨g, q, _, q1, _⟩
        · rw [q] at e; cases e
        · rw [q] at e; injection e with e; exact q1 e.symm)
      obtain ⟨v5, hes, ho5, hg5⟩ := hst v4 (.slice A2 (N + 1) c2) hmb4
      refine hK _ _ hS4 ?_; clear hK K
      try simp only [List.getElem_toArray, List.getElem_cons_succ, List.getElem_cons_zero, Act.put, List.setIfInBounds_toArray, List.set_cons_zero, List.set_cons_succ]
      refine rg_one 11 rfl (by kernel_rfl) rfl (fun K hK => ?_)
      refine op_entryStore rfl rfl rfl rfl hes ?_
      have hS5 : Box v5 pb 50 #[.map (some mb)] ∧ Box v5 kb 54 #[.int .i64 a, .int .i64 b] := ⟨hS4.1.grown hg5 (fun e => hpm (by injection e)), hS4.2.grown hg5 (fun e => hkm (by injection e))⟩
      refine hK _ _ hS5 ?_; clear hK K
      refine rg_end (by kernel_rfl) ?_
      go_wp2_with (first | (with_reducible refine hold_append ?_) | (with_reducible refine hold_make ?_) | (with_reducible refine hold_copy ?_) | (with_reducible refine hold_store ?_))
      go_ret
      have hs2 := hB4.size
      have hs1 := hB3.size
      have hs3 := hg3.size
      have hs4 := hg4.size
      have hs5 := hg5.size
      have hk4 : ∀ g, g < v1.heap.size → g ≠ mb → v3.heap[g]? = v1.heap[g]? := fun g hg hne => (hg3.block g (by omega) (fun e => hne (by injection e))).trans (hB4.block g hg)
      rw [← hHn] at ho5
      have hsent := hmv.sent ha hb (s := s) hH1 hH2 hk4 (by omega) (by rw [List.map_append]; rw [hHn]; exact ho4) hg4 hb4 ho5 hg5
      refine ⟨by rw [HS.out]; rfl, (fun g => F g ∨ (v1.heap.size ≤ g ∧ g < v5.heap.size)), fun g hg => hg.imp id (fun h => by omega), ?_, by omega, fun g hg hF => ?_, ((Quiet.below hB3).trans (.below hB4)).trans ((Quiet.grown hg3).trans ((Quiet.grown hg4).trans (.grown hg5)))⟩
      · rw [HS.out]
        refine ⟨⟨mb, _, _, hS5.1, .inl hpF, hpm, fun x y hx hy hne e => ?_, hsent⟩, fun x hx => ?_, fun x y => ?_⟩
        · have hpw := hx0w
          by_cases hxy : x = a ∧ y = b
          · simp only [if_pos hxy] at e
            rcases hb4 with hb4 | hb4
            · rw [hb4] at e
              rcases hlt with q | ⟨g', q, _, _, q1, _⟩
              · rw [q] at e; cases e
              · rw [q] at e; injection e with e; exact q1 e
            · rw [hb4] at e; injection e with e; omega
          · simp only [if_neg hxy] at e
            rw [bag_sent, if_neg hxy] at hne
            exact hpr x y hx hy hne e
        · rcases List.mem_append.1 hx with hx | hx
          · exact HWF.out x hx
          · obtain rfl := List.mem_singleton.1 hx
            exact ⟨ha, hb, hsl⟩
        · rw [bag_sent]
          split
          · have := HN.out
            rw [List.length_append, ← this]
            simp; omega
          · exact HMO.out x y
      · have hne : g ≠ mb := fun e => hF (by rw [e]; exact hm.inF)
        rw [hg5.block g (by omega) (fun e => hne (by injection e)), hg4.block g (by omega) (fun e => ?_), hk4 g (by omega) hne, hB3.block g hg]
        rcases hlt with q | ⟨g', q, _, _, _, _, q1⟩
        · rw [q] at e; cases e
        · rw [q] at e; injection e with e; exact hF (by rw [e]; exact q1)
end Go.PH

/- WiresPlay: the walk. -/
import Derived.Test.YtemngfljlaimdaaWrDoes
import Derived.Deep.CutRange
set_option linter.all false
set_option linter.unusedSimpArgs false
set_option linter.unusedVariables false
namespace Go.PH
open Go.RowKit Go.Proofs

theorem call_cells {w : World} {B n c : Nat} {A : Option Addr} {L : List Cl} (hr : Rd w B 5 A n c (rowC clC L)) {k : Nat} (hk : k < n) (hkl : k < L.length) : ∃ b off, A = some ⟨b, off, none⟩ ∧ ∀ W, Below B w W → W.cell? ⟨b, off + k * 5, none⟩ = some (.int .u8 (L[k].wh : Int)) ∧ W.cell? ⟨b, off + k * 5 + 1, none⟩ = some (.int .i64 L[k].fr) ∧ W.cell? ⟨b, off + k * 5 + 2, none⟩ = some (.int .i64 L[k].to) ∧ W.cell? ⟨b, off + k * 5 + 3, none⟩ = some (.int .i64 L[k].i) ∧ W.cell? ⟨b, off + k * 5 + 4, none⟩ = some (.string (str L[k].s)) := by
  obtain ⟨b, off, hA, hb, _, hc⟩ := rec_at clShape hr hk
  refine ⟨b, off, hA, fun W hW => ⟨(hW.cell hb).trans (hc 0 _ rfl), (hW.cell hb).trans (hc 1 _ rfl), (hW.cell hb).trans (hc 2 _ rfl), (hW.cell hb).trans (hc 3 _ rfl), (hW.cell hb).trans (hc 4 _ rfl)⟩⟩
/-- the rounds' state -/
def PlS (w wr : World) (k pb qb : Nat) (R : List Wl) : Prop := ∃ H, AW w wr (fun _ => False) k H qb R ∧ H 0 = some (pb, R) ∧ R.length ≤ k
theorem PlS.on {w wr w' : World} {k pb qb : Nat} {R : List Wl} (h : PlS w wr k pb qb R) (hB : Below wr.heap.size wr w') : PlS w w' k pb qb R := by
  obtain ⟨H, h1, h2, h3⟩ := h
  exact ⟨H, h1.on hB, h2, h3⟩
theorem PlS.toB {w wr : World} {k pb qb : Nat} {R : List Wl} (h : PlS w wr k pb qb R) : Below w.heap.size w wr := by
  obtain ⟨H, h1, h2, h3⟩ := h
  exact h1.toB
def PlD (w : World) (k pb qb : Nat) (R : List Wl) (x : Cl) (e : Ending) (w' : World) : Prop := e = .returned (.bool true) ∧ PlS w w' (k + 1) pb qb (turnW R x)
theorem doesP {w wr : World} {k pb qb : Nat} {R : List Wl} (h : PlS w wr k pb qb R) (x : Cl) (hx : x.wf) (hk : k ≤ 1000) : Calls Try.prog 12 #[.pointer (some ⟨pb, 0, none⟩), .pointer (some ⟨qb, 0, none⟩), .agg (clV x)] wr (PlD w k pb qb R x) := by
  obtain ⟨H, h1, h2, h3⟩ := h
  refine (does_any h1 h2 x hx (by simp [maxLen]; omega) (by omega) (fun y hy => (h1.wf h2 y hy).2.2)).mono ?_
  rintro e w' ⟨b, rfl, hb, h4, _⟩
  exact ⟨by rw [hb rfl], _, h4, upd_same _ _ _, Nat.le_trans (turnW_len R x) (by omega)⟩
def PlC (wr : World) (R : List Wl) (a b : Int) (e : Ending) (w' : World) : Prop := e = .returned (.int .i64 ((bag R a b).length : Int)) ∧ Below wr.heap.size wr w'
theorem countP {w wr : World} {k pb qb : Nat} {R : List Wl} (h : PlS w wr k pb qb R) (a b : Int) (ha : i64ok a) (hb : i64ok b) : Calls Try.prog 13 #[.pointer (some ⟨pb, 0, none⟩), .int .i64 a, .int .i64 b] wr (PlC wr R a b) := by
  obtain ⟨H, h1, h2, h3⟩ := h
  exact countA h1 h2 a b ha hb
theorem rcountP {w wr : World} {k pb qb : Nat} {R : List Wl} (h : PlS w wr k pb qb R) (a b : Int) (hk : k ≤ 1000) : Calls Try.prog 14 #[.pointer (some ⟨qb, 0, none⟩), .int .i64 a, .int .i64 b] wr (PlC wr R a b) := by
  obtain ⟨H, h1, h2, h3⟩ := h
  refine (rcountA h1 a b (by omega)).mono ?_
  rintro e w' ⟨rfl, rfl⟩
  exact ⟨rfl, Below.refl _ _⟩
theorem waysP {w wr : World} {k pb qb : Nat} {R : List Wl} (h : PlS w wr k pb qb R) (hk : k ≤ 1000) : Calls Try.prog 15 #[.pointer (some ⟨pb, 0, none⟩)] wr (WaysR wr R) := by
  obtain ⟨H, h1, h2, h3⟩ := h
  exact waysA h1 h2 (by omega)
theorem rwaysP {w wr : World} {k pb qb : Nat} {R : List Wl} (h : PlS w wr k pb qb R) (hk : k ≤ 1000) : Calls Try.prog 16 #[.pointer (some ⟨qb, 0, none⟩)] wr (WaysQ wr R) := by
  obtain ⟨H, h1, h2, h3⟩ := h
  exact rwaysA h1 (by omega)
theorem PlS.wf {w wr : World} {k pb qb : Nat} {R : List Wl} (h : PlS w wr k pb qb R) : ∀ x ∈ R, i64ok x.fr ∧ i64ok x.to ∧ x.s.length ≤ 32768 := by
  obtain ⟨H, h1, h2, h3⟩ := h
  exact h1.wf h2
theorem startP (w : World) : Calls Try.prog 7 #[] w fun e w' => ∃ pb, e = .returned (.pointer (some ⟨pb, 0, none⟩)) ∧ PlS w (w'.alloc (.cells #[.slice none 0 0] 37)) 0 pb w'.heap.size [] := by
  refine (new_any w).mono ?_
  rintro e w' ⟨rfl, hW, hB⟩
  have hs := hB.size
  obtain ⟨qb, w2, hqb, hqv, hq, hB2⟩ := alloc_stepW w' #[.slice none 0 0] 37
  refine ⟨_, rfl, fun i => if i = 0 then some (w.heap.size + 1, []) else none, ?_, rfl, by simp⟩
  rw [← hqv, ← hqb]
  have hql := hq.lt
  refine ⟨fun i => if i = 1 then (fun g => g = w.heap.size ∨ g = w.heap.size + 1) else if i = 0 then (fun g => g = qb) else (fun _ => False), fun i p R hi => ?_, ?_, fun i j g hij h1 h2 => ?_, fun i g hg => ?_, fun g hg => hg.elim, hB.trans (hB2.mono hs)⟩
  · simp only at hi
    by_cases h0 : i = 0
    · subst h0
      rw [if_pos rfl] at hi
      injection hi with hi
      injection hi with e1 e2
      subst e1 e2
      exact hW.below hB2
    · rw [if_neg h0] at hi; cases hi
  · exact ⟨⟨none, 0, hq, Own.none_ _ _ _ _, rfl, fun g hg => by cases hg⟩, fun g hg => by rw [show g = qb from hg]; exact hql⟩
  · have hw2 := hW.lt _ (.inr rfl)
    simp only at h1 h2
    split at h1
    · rw [if_neg (by omega)] at h2
      split at h2
      · have : g = qb := h2
        rcases h1 with h | h
        · have := hW.lt g (.inl h); omega
        · have := hW.lt g (.inr h); omega
      · exact h2.elim
    · split at h1
      · have : g = qb := h1
        split at h2
        · rcases h2 with h | h
          · have := hW.lt g (.inl h); omega
          · have := hW.lt g (.inr h); omega
        · rw [if_neg (by omega)] at h2; exact h2.elim
      · exact h1.elim
  · simp only at hg
    split at hg
    · have := hW.lt g hg
      have := hB2.size
      exact ⟨by rcases hg with h | h <;> omega, by omega, fun h => h⟩
    · split at hg
      · have : g = qb := hg
        exact ⟨by omega, by omega, fun h => h⟩
      · exact hg.elim
set_option maxRecDepth 20000 in
set_option maxHeartbeats 8000000 in
theorem law_WiresPlay (A : Option Addr) (n c : Nat) (L : List Cl) (w : World) (hr : Rd w w.heap.size 5 A n c (rowC clC L)) (hf : ∀ x ∈ L, x.wf) (hc : c ≤ 3000000000000000) :
    Calls Try.prog 4 #[.slice A n c] w fun e w' => e = .returned (.bool true) ∧ Below w.heap.size w w' := by
  have hn := rec_length clShape hr
  have hst := startP w
  go_enter Try.func4, Try.ntmps4
  go_wp2_with (first | (with_reducible refine hold_append ?_) | (with_reducible refine hold_make ?_) | (with_reducible refine hold_copy ?_))
  refine hst.mono ?_
  rintro e w1 ⟨pb, rfl, hP⟩
  clear hst
  have HN := Lib.hid hn
  clear hn
  obtain ⟨qb, hqb⟩ : ∃ qb, qb = w1.heap.size := ⟨_, rfl⟩
  obtain ⟨w2, hqv⟩ : ∃ w2, w2 = w1.alloc (.cells #[.slice none 0 0] 37) := ⟨_, rfl⟩
  rw [← hqb, ← hqv] at hP
  go_upto_region 2 with fail
  rw [← hqb, ← hqv]
  clear hqb hqv
  go_wp2_with (first | (with_reducible refine hold_append ?_) | (with_reducible refine hold_make ?_) | (with_reducible refine hold_copy ?_))
  try go_frame
  go_loopw [5] (fun s wr => ∃ (k : Nat) (R : List Wl), k ≤ n ∧ k ≤ 200 ∧ s = .int .i64 k ∧ PlS w wr k pb qb R) (fun s _ => 200 - (Go.RowKit.intOf s).toNat)
  case atStart => exact ⟨0, [], by omega, by omega, rfl, hP⟩
  case round =>
    as_aux_lemma =>
    clear hP
    obtain ⟨k, R, hk, hk2, rfl, hP⟩ := hrel
    by_cases hlt : k < n ∧ k < 200
    · obtain ⟨d1, d2⟩ := hlt
      have g1 : (k : Int) < (n : Int) := by omega
      have g2 : (k : Int) < 200 := by omega
      have hkl : k < L.length := by rw [HN.out]; exact d1
      obtain ⟨b, off, rfl, HC⟩ := call_cells hr d1 hkl
      have hxw := hf _ (List.getElem_mem hkl)
      have hgr := fun W => great_any L[k] W hxw
      have hdo := fun {W} (h : PlS w W k pb qb R) => doesP h L[k] hxw (by omega)
      generalize L[k] = x at *
      obtain ⟨wh, fr, tq, j, s⟩ := x
      have hfr : i64ok fr := hxw.2.1
      have hto : i64ok tq := hxw.2.2.1
      unfold clV at hgr hdo
      simp only at hgr hdo HC
      obtain ⟨k0, k1, k2, k3, k4⟩ := HC wr hP.toB
      have hgr0 := hgr wr
      clear hgr
      go_wp2_with (first | (with_reducible refine hold_append ?_) | (with_reducible refine hold_make ?_) | (with_reducible refine hold_copy ?_))
      refine hgr0.mono ?_
      rintro e w3 ⟨rfl, hB3⟩
      have hP3 := hP.on hB3
      clear hgr0 hP hB3 k0 k1 k2 k3 k4
      by_cases hgs : 300 < s.length
      · have g3 : decide (300 < s.length) = true := by simp [hgs]
        have hBx := hP3.toB
        clear hP3 hdo
        go_wp2_with (first | (with_reducible refine hold_append ?_) | (with_reducible refine hold_make ?_) | (with_reducible refine hold_copy ?_))
        refine (head_any _).mono ?_
        rintro e wh ⟨rfl, hBh⟩
        go_wp2_with (first | (with_reducible refine hold_append ?_) | (with_reducible refine hold_make ?_) | (with_reducible refine hold_copy ?_))
        go_ret
        exact ⟨rfl, (hBx).trans (hBh.mono (hBx).size)⟩
      have g3 : decide (300 < s.length) = false := by simp; omega
      go_upto_region 7 with fail
      clear g3
      obtain ⟨R2, hR2⟩ : ∃ R2, R2 = turnW R ⟨wh, fr, tq, j, s⟩ := ⟨_, rfl⟩
      replace hdo := fun {W} (h : PlS w W k pb qb R) => (hdo h).mono (R' := fun e w' => e = .returned (.bool true) ∧ PlS w w' (k + 1) pb qb R2) (fun e w' q => by rw [hR2]; exact q)
      clear hR2
      go_cut [62] from 12 to 113 (fun s wx => s = .bool false ∧ PlS w wx (k + 1) pb qb R2)
      case first =>
       as_aux_lemma =>
        refine rg_start (fun W : World => Below w.heap.size w W) (by kernel_rfl) ?_
        have hPd : PlS w w3.drew k pb qb R := hP3.on (below_drewN (Below.refl _ w3) 1)
        generalize w3.drew = wd at *
        have hS := hPd.toB
        refine rg_take 0 (v := ?_) rfl (by kernel_rfl) (by kernel_rfl) (by kernel_rfl) hS rfl ?_ ?_
        rotate_left
        · intro wS hSw; go_simp; (with_reducible rfl)
        simp only [List.getElem_toArray, List.getElem_cons_zero, Act.put, List.setIfInBounds_toArray, List.set_cons_zero, List.set_cons_succ]
        refine rg_take 1 (v := ?_) rfl (by kernel_rfl) (by kernel_rfl) (by kernel_rfl) hS rfl ?_ ?_
        rotate_left
        · intro wS hSw; go_simp; (with_reducible rfl)
        simp only [List.getElem_toArray, List.getElem_cons_succ, List.getElem_cons_zero, Act.put, List.setIfInBounds_toArray, List.set_cons_zero, List.set_cons_succ]
        refine rg_take 2 (v := ?_) rfl (by kernel_rfl) (by kernel_rfl) (by kernel_rfl) hS rfl ?_ ?_
        rotate_left
        · intro wS hSw; go_simp; (with_reducible rfl)
        simp only [List.getElem_toArray, List.getElem_cons_succ, List.getElem_cons_zero, Act.put, List.setIfInBounds_toArray, List.set_cons_zero, List.set_cons_succ]
        refine rg_take 3 (v := ?_) rfl (by kernel_rfl) (by kernel_rfl) (by kernel_rfl) hS rfl ?_ ?_
        rotate_left
        · intro wS hSw; go_simp; (with_reducible rfl)
        simp only [List.getElem_toArray, List.getElem_cons_succ, List.getElem_cons_zero, Act.put, List.setIfInBounds_toArray, List.set_cons_zero, List.set_cons_succ]
        refine rg_take 4 (v := ?_) rfl (by kernel_rfl) (by kernel_rfl) (by kernel_rfl) hS rfl ?_ ?_
        rotate_left
        · intro wS hSw; go_simp; (with_reducible rfl)
        simp only [List.getElem_toArray, List.getElem_cons_succ, List.getElem_cons_zero, Act.put, List.setIfInBounds_toArray, List.set_cons_zero, List.set_cons_succ]
        refine rg_take 5 (v := ?_) rfl (by kernel_rfl) (by kernel_rfl) (by kernel_rfl) hS rfl ?_ ?_
        rotate_left
        · intro wS hSw; obtain ⟨k0, k1, k2, k3, k4⟩ := HC _ hSw; go_simp; (with_reducible rfl)
        simp only [List.getElem_toArray, List.getElem_cons_succ, List.getElem_cons_zero, Act.put, List.setIfInBounds_toArray, List.set_cons_zero, List.set_cons_succ]
        refine rg_one 6 rfl (by kernel_rfl) rfl (fun K hK => ?_)
        go_simp
        refine (hdo hPd).mono ?_
        clear hdo hP3 hPd hS
        rintro e w4 ⟨rfl, hP4⟩
        have hS := hP4.toB
        refine hK _ _ hS ?_; clear hK K
        try simp only [List.getElem_toArray, List.getElem_cons_succ, List.getElem_cons_zero, Act.put, List.setIfInBounds_toArray, List.set_cons_zero, List.set_cons_succ]
        refine rg_take 7 (v := ?_) rfl (by kernel_rfl) (by kernel_rfl) (by kernel_rfl) hS rfl ?_ ?_
        rotate_left
        · intro wS hSw; go_simp; (with_reducible rfl)
        simp only [List.getElem_toArray, List.getElem_cons_succ, List.getElem_cons_zero, Act.put, List.setIfInBounds_toArray, List.set_cons_zero, List.set_cons_succ]
        refine rg_take 8 (v := ?_) rfl (by kernel_rfl) (by kernel_rfl) (by kernel_rfl) hS rfl ?_ ?_
        rotate_left
        · intro wS hSw; go_simp; (with_reducible rfl)
        simp only [List.getElem_toArray, List.getElem_cons_succ, List.getElem_cons_zero, Act.put, List.setIfInBounds_toArray, List.set_cons_zero, List.set_cons_succ]
        refine rg_take 9 (v := ?_) rfl (by kernel_rfl) (by kernel_rfl) (by kernel_rfl) hS rfl ?_ ?_
        rotate_left
        · intro wS hSw; go_simp; (with_reducible rfl)
        simp only [List.getElem_toArray, List.getElem_cons_succ, List.getElem_cons_zero, Act.put, List.setIfInBounds_toArray, List.set_cons_zero, List.set_cons_succ]
        refine rg_take 10 (v := ?_) rfl (by kernel_rfl) (by kernel_rfl) (by kernel_rfl) hS rfl ?_ ?_
        rotate_left
        · intro wS hSw; go_simp; (with_reducible rfl)
        simp only [List.getElem_toArray, List.getElem_cons_succ, List.getElem_cons_zero, Act.put, List.setIfInBounds_toArray, List.set_cons_zero, List.set_cons_succ]
        refine rg_take 11 (v := ?_) rfl (by kernel_rfl) (by kernel_rfl) (by kernel_rfl) hS rfl ?_ ?_
        rotate_left
        · intro wS hSw; go_simp; (with_reducible rfl)
        simp only [List.getElem_toArray, List.getElem_cons_succ, List.getElem_cons_zero, Act.put, List.setIfInBounds_toArray, List.set_cons_zero, List.set_cons_succ]
        refine rg_take 12 (v := ?_) rfl (by kernel_rfl) (by kernel_rfl) (by kernel_rfl) hS rfl ?_ ?_
        rotate_left
        · intro wS hSw; go_simp; (with_reducible rfl)
        simp only [List.getElem_toArray, List.getElem_cons_succ, List.getElem_cons_zero, Act.put, List.setIfInBounds_toArray, List.set_cons_zero, List.set_cons_succ]
        refine rg_take 13 (v := ?_) rfl (by kernel_rfl) (by kernel_rfl) (by kernel_rfl) hS rfl ?_ ?_
        rotate_left
        · intro wS hSw; go_simp; (with_reducible rfl)
        simp only [List.getElem_toArray, List.getElem_cons_succ, List.getElem_cons_zero, Act.put, List.setIfInBounds_toArray, List.set_cons_zero, List.set_cons_succ]
        refine rg_take 14 (v := ?_) rfl (by kernel_rfl) (by kernel_rfl) (by kernel_rfl) hS rfl ?_ ?_
        rotate_left
        · intro wS hSw; obtain ⟨k0, k1, k2, k3, k4⟩ := HC _ hSw; go_simp; (with_reducible rfl)
        simp only [List.getElem_toArray, List.getElem_cons_succ, List.getElem_cons_zero, Act.put, List.setIfInBounds_toArray, List.set_cons_zero, List.set_cons_succ]
        refine rg_take 15 (v := ?_) rfl (by kernel_rfl) (by kernel_rfl) (by kernel_rfl) hS rfl ?_ ?_
        rotate_left
        · intro wS hSw; go_simp; (with_reducible rfl)
        simp only [List.getElem_toArray, List.getElem_cons_succ, List.getElem_cons_zero, Act.put, List.setIfInBounds_toArray, List.set_cons_zero, List.set_cons_succ]
        refine rg_take 16 (v := ?_) rfl (by kernel_rfl) (by kernel_rfl) (by kernel_rfl) hS rfl ?_ ?_
        rotate_left
        · intro wS hSw; go_simp; (with_reducible rfl)
        simp only [List.getElem_toArray, List.getElem_cons_succ, List.getElem_cons_zero, Act.put, List.setIfInBounds_toArray, List.set_cons_zero, List.set_cons_succ]
        refine rg_take 17 (v := ?_) rfl (by kernel_rfl) (by kernel_rfl) (by kernel_rfl) hS rfl ?_ ?_
        rotate_left
        · intro wS hSw; go_simp; (with_reducible rfl)
        simp only [List.getElem_toArray, List.getElem_cons_succ, List.getElem_cons_zero, Act.put, List.setIfInBounds_toArray, List.set_cons_zero, List.set_cons_succ]
        refine rg_take 18 (v := ?_) rfl (by kernel_rfl) (by kernel_rfl) (by kernel_rfl) hS rfl ?_ ?_
        rotate_left
        · intro wS hSw; go_simp; (with_reducible rfl)
        simp only [List.getElem_toArray, List.getElem_cons_succ, List.getElem_cons_zero, Act.put, List.setIfInBounds_toArray, List.set_cons_zero, List.set_cons_succ]
        refine rg_take 19 (v := ?_) rfl (by kernel_rfl) (by kernel_rfl) (by kernel_rfl) hS rfl ?_ ?_
        rotate_left
        · intro wS hSw; obtain ⟨k0, k1, k2, k3, k4⟩ := HC _ hSw; go_simp; (with_reducible rfl)
        simp only [List.getElem_toArray, List.getElem_cons_succ, List.getElem_cons_zero, Act.put, List.setIfInBounds_toArray, List.set_cons_zero, List.set_cons_succ]
        refine rg_take 21 (v := ?_) rfl (by kernel_rfl) (by kernel_rfl) (by kernel_rfl) hS rfl ?_ ?_
        rotate_left
        · intro wS hSw; go_simp; (with_reducible rfl)
        simp only [List.getElem_toArray, List.getElem_cons_succ, List.getElem_cons_zero, Act.put, List.setIfInBounds_toArray, List.set_cons_zero, List.set_cons_succ]
        refine rg_take 22 (v := ?_) rfl (by kernel_rfl) (by kernel_rfl) (by kernel_rfl) hS rfl ?_ ?_
        rotate_left
        · intro wS hSw; go_simp; (with_reducible rfl)
        simp only [List.getElem_toArray, List.getElem_cons_succ, List.getElem_cons_zero, Act.put, List.setIfInBounds_toArray, List.set_cons_zero, List.set_cons_succ]
        refine rg_take 23 (v := ?_) rfl (by kernel_rfl) (by kernel_rfl) (by kernel_rfl) hS rfl ?_ ?_
        rotate_left
        · intro wS hSw; go_simp; (with_reducible rfl)
        simp only [List.getElem_toArray, List.getElem_cons_succ, List.getElem_cons_zero, Act.put, List.setIfInBounds_toArray, List.set_cons_zero, List.set_cons_succ]
        refine rg_take 24 (v := ?_) rfl (by kernel_rfl) (by kernel_rfl) (by kernel_rfl) hS rfl ?_ ?_
        rotate_left
        · intro wS hSw; go_simp; (with_reducible rfl)
        simp only [List.getElem_toArray, List.getElem_cons_succ, List.getElem_cons_zero, Act.put, List.setIfInBounds_toArray, List.set_cons_zero, List.set_cons_succ]
        refine rg_take 25 (v := ?_) rfl (by kernel_rfl) (by kernel_rfl) (by kernel_rfl) hS rfl ?_ ?_
        rotate_left
        · intro wS hSw; go_simp; (with_reducible rfl)
        simp only [List.getElem_toArray, List.getElem_cons_succ, List.getElem_cons_zero, Act.put, List.setIfInBounds_toArray, List.set_cons_zero, List.set_cons_succ]
        refine rg_take 26 (v := ?_) rfl (by kernel_rfl) (by kernel_rfl) (by kernel_rfl) hS rfl ?_ ?_
        rotate_left
        · intro wS hSw; obtain ⟨k0, k1, k2, k3, k4⟩ := HC _ hSw; go_simp; (with_reducible rfl)
        simp only [List.getElem_toArray, List.getElem_cons_succ, List.getElem_cons_zero, Act.put, List.setIfInBounds_toArray, List.set_cons_zero, List.set_cons_succ]
        refine rg_take 27 (v := ?_) rfl (by kernel_rfl) (by kernel_rfl) (by kernel_rfl) hS rfl ?_ ?_
        rotate_left
        · intro wS hSw; go_simp; (with_reducible rfl)
        simp only [List.getElem_toArray, List.getElem_cons_succ, List.getElem_cons_zero, Act.put, List.setIfInBounds_toArray, List.set_cons_zero, List.set_cons_succ]
        refine rg_take 28 (v := ?_) rfl (by kernel_rfl) (by kernel_rfl) (by kernel_rfl) hS rfl ?_ ?_
        rotate_left
        · intro wS hSw; go_simp; (with_reducible rfl)
        simp only [List.getElem_toArray, List.getElem_cons_succ, List.getElem_cons_zero, Act.put, List.setIfInBounds_toArray, List.set_cons_zero, List.set_cons_succ]
        refine rg_take 29 (v := ?_) rfl (by kernel_rfl) (by kernel_rfl) (by kernel_rfl) hS rfl ?_ ?_
        rotate_left
        · intro wS hSw; go_simp; (with_reducible rfl)
        simp only [List.getElem_toArray, List.getElem_cons_succ, List.getElem_cons_zero, Act.put, List.setIfInBounds_toArray, List.set_cons_zero, List.set_cons_succ]
        refine rg_take 30 (v := ?_) rfl (by kernel_rfl) (by kernel_rfl) (by kernel_rfl) hS rfl ?_ ?_
        rotate_left
        · intro wS hSw; go_simp; (with_reducible rfl)
        simp only [List.getElem_toArray, List.getElem_cons_succ, List.getElem_cons_zero, Act.put, List.setIfInBounds_toArray, List.set_cons_zero, List.set_cons_succ]
        refine rg_take 31 (v := ?_) rfl (by kernel_rfl) (by kernel_rfl) (by kernel_rfl) hS rfl ?_ ?_
        rotate_left
        · intro wS hSw; obtain ⟨k0, k1, k2, k3, k4⟩ := HC _ hSw; go_simp; (with_reducible rfl)
        simp only [List.getElem_toArray, List.getElem_cons_succ, List.getElem_cons_zero, Act.put, List.setIfInBounds_toArray, List.set_cons_zero, List.set_cons_succ]
        refine rg_one 20 rfl (by kernel_rfl) rfl (fun K hK => ?_)
        go_simp
        refine (countP hP4 fr tq hfr hto).mono ?_
        rintro e w5 ⟨rfl, hB5⟩
        have hP5 := hP4.on hB5
        clear hP4 hB5
        have hS := hP5.toB
        refine hK _ _ hS ?_; clear hK K
        try simp only [List.getElem_toArray, List.getElem_cons_succ, List.getElem_cons_zero, Act.put, List.setIfInBounds_toArray, List.set_cons_zero, List.set_cons_succ]
        refine rg_one 32 rfl (by kernel_rfl) rfl (fun K hK => ?_)
        go_simp
        refine (rcountP hP5 fr tq (by omega)).mono ?_
        rintro e w6 ⟨rfl, hB6⟩
        have hP6 := hP5.on hB6
        clear hP5 hB6
        have hS := hP6.toB
        refine hK _ _ hS ?_; clear hK K
        try simp only [List.getElem_toArray, List.getElem_cons_succ, List.getElem_cons_zero, Act.put, List.setIfInBounds_toArray, List.set_cons_zero, List.set_cons_succ]
        generalize (bag R2 fr tq).length = bl at *
        refine rg_take 33 (v := ?_) rfl (by kernel_rfl) (by kernel_rfl) (by kernel_rfl) hS rfl ?_ ?_
        rotate_left
        · intro wS hSw; go_simp; (with_reducible rfl)
        simp only [List.getElem_toArray, List.getElem_cons_succ, List.getElem_cons_zero, Act.put, List.setIfInBounds_toArray, List.set_cons_zero, List.set_cons_succ]
        refine rg_take 34 (v := ?_) rfl (by kernel_rfl) (by kernel_rfl) (by kernel_rfl) hS rfl ?_ ?_
        rotate_left
        · intro wS hSw; go_simp; (with_reducible rfl)
        simp only [List.getElem_toArray, List.getElem_cons_succ, List.getElem_cons_zero, Act.put, List.setIfInBounds_toArray, List.set_cons_zero, List.set_cons_succ]
        refine rg_end (by kernel_rfl) ?_
        go_wp2_with (first | (with_reducible refine hold_append ?_) | (with_reducible refine hold_make ?_) | (with_reducible refine hold_copy ?_))
        go_meet
        exact ⟨by simp, hP6⟩
      case rest =>
       as_aux_lemma =>
        obtain ⟨rfl, hP6⟩ := hcut
        clear hdo hP3
        generalize wc = w6 at *
        go_wp2_with (first | (with_reducible refine hold_append ?_) | (with_reducible refine hold_make ?_) | (with_reducible refine hold_copy ?_))
        refine (waysP hP6 (by omega)).mono ?_
        rintro e w7 ⟨A7, c7, rfl, ho7, hB7⟩
        have hP7 := hP6.on hB7
        clear hP6 hB7
        go_wp2_with (first | (with_reducible refine hold_append ?_) | (with_reducible refine hold_make ?_) | (with_reducible refine hold_copy ?_))
        refine (rwaysP hP7 (by omega)).mono ?_
        rintro e w8 ⟨A8, c8, rfl, ho8, hB8⟩
        have hP8 := hP7.on hB8
        have hr7 : Rd w8 w7.heap.size 2 A7 (waysW R2).length c7 (rowC wayC (waysW R2)) := ho7.rd.below hB8
        have hr8 := ho8.rd
        have hz7 := hB8.size
        have HWI : Hid (∀ p ∈ waysW R2, i64ok p.1 ∧ i64ok p.2) := Lib.hid (ways_i64 hP8.wf)
        clear hP7 ho7 ho8 hB8
        generalize waysW R2 = ws at *
        obtain ⟨N, hNe⟩ : ∃ N, N = ws.length := ⟨_, rfl⟩
        rw [← hNe] at hr7 hr8 ⊢
        have HNE := Lib.hid hNe
        clear hNe
        obtain ⟨s7, hs7⟩ : ∃ s7, s7 = w7.heap.size := ⟨_, rfl⟩
        obtain ⟨s8, hs8⟩ : ∃ s8, s8 = w8.heap.size := ⟨_, rfl⟩
        rw [← hs7] at hr7
        rw [← hs8] at hr8
        have hz77 : s7 ≤ w8.heap.size := by omega
        have hNm : N ≤ 9223372036854775807 := by have a1 := hr7.cap; have a2 := hr7.max; simp [maxLen] at a2; omega
        have hz88 : s8 ≤ w8.heap.size := by omega
        clear hs7 hs8 hz7
        go_wp2_with (first | (with_reducible refine hold_append ?_) | (with_reducible refine hold_make ?_) | (with_reducible refine hold_copy ?_))
        try go_frame
        go_loopw [8] (fun s wq => ∃ q : Nat, q ≤ N ∧ s = .int .i64 q ∧ PlS w wq (k + 1) pb qb R2 ∧ Rd wq s7 2 A7 N c7 (rowC wayC ws) ∧ Rd wq s8 2 A8 N c8 (rowC wayC ws) ∧ s7 ≤ wq.heap.size ∧ s8 ≤ wq.heap.size) (fun s _ => N - (Go.RowKit.intOf s).toNat)
        case atStart => exact ⟨0, by omega, rfl, hP8, hr7, hr8, hz77, hz88⟩
        case round =>
          as_aux_lemma =>
          clear hP8 hr7 hr8 hz77 hz88
          obtain ⟨q, hq, rfl, hP8, hr7, hr8, hz7, hz8⟩ := hrel
          by_cases hqN : q < N
          · have g5 : (q : Int) < (N : Int) := by omega
            have hql : q < ws.length := by rw [← HNE.out]; exact hqN
            obtain ⟨b7, o7, rfl, hb7, _, hc7⟩ := rec_at wayShape hr7 (k := q) hqN
            obtain ⟨b8, o8, rfl, hb8, _, hc8⟩ := rec_at wayShape hr8 (k := q) hqN
            have hpi := HWI.out _ (List.getElem_mem hql)
            have y0 := hc7 0 (.int .i64 ws[q].1) rfl
            have y1 := hc7 1 (.int .i64 ws[q].2) rfl
            have z0 := hc8 0 (.int .i64 ws[q].1) rfl
            have z1 := hc8 1 (.int .i64 ws[q].2) rfl
            simp only [Nat.add_zero] at y0 z0
            clear hc7 hc8
            generalize ws[q] = pp at *
            obtain ⟨pa, pc⟩ := pp
            obtain ⟨hpa, hpc⟩ := hpi
            simp only at y0 y1 z0 z1 hpa hpc
            have he : ∀ W, (binOp .neq 45 (.agg #[.int .i64 pa, .int .i64 pc]) (.agg #[.int .i64 pa, .int .i64 pc])).run Try.prog W = .ok (.bool false) W := fun W => by rw [neq_pair]; simp
            have hb77 := Nat.lt_of_lt_of_le hb7 hz7
            have hb88 := Nat.lt_of_lt_of_le hb8 hz8
            go_upto_region 15 with fail
            go_cut [113] from 72 to 113 (fun s wx => s = .bool false ∧ PlS w wx (k + 1) pb qb R2 ∧ Below wr.heap.size wr wx)
            case first =>
             as_aux_lemma =>
              refine rg_start (fun W : World => Below wr.heap.size wr W) (by kernel_rfl) ?_
              have hS : Below wr.heap.size wr wr.drew := below_drewN (Below.refl _ wr) 1
              have hPd := hP8.on hS
              generalize wr.drew = wd at *
              refine rg_take 0 (v := ?_) rfl (by kernel_rfl) (by kernel_rfl) (by kernel_rfl) hS rfl ?_ ?_
              rotate_left
              · intro wS hSw; go_simp; (with_reducible rfl)
              simp only [List.getElem_toArray, List.getElem_cons_zero, Act.put, List.setIfInBounds_toArray, List.set_cons_zero, List.set_cons_succ]
              refine rg_take 1 (v := ?_) rfl (by kernel_rfl) (by kernel_rfl) (by kernel_rfl) hS rfl ?_ ?_
              rotate_left
              · intro wS hSw; go_simp; (with_reducible rfl)
              simp only [List.getElem_toArray, List.getElem_cons_succ, List.getElem_cons_zero, Act.put, List.setIfInBounds_toArray, List.set_cons_zero, List.set_cons_succ]
              refine rg_take 2 (v := ?_) rfl (by kernel_rfl) (by kernel_rfl) (by kernel_rfl) hS rfl ?_ ?_
              rotate_left
              · intro wS hSw; go_simp; (with_reducible rfl)
              simp only [List.getElem_toArray, List.getElem_cons_succ, List.getElem_cons_zero, Act.put, List.setIfInBounds_toArray, List.set_cons_zero, List.set_cons_succ]
              refine rg_take 3 (v := ?_) rfl (by kernel_rfl) (by kernel_rfl) (by kernel_rfl) hS rfl ?_ ?_
              rotate_left
              · intro wS hSw; have k0 := (hSw.cell hb77).trans y0; have k1 := (hSw.cell hb77).trans y1; go_simp; (with_reducible rfl)
              simp only [List.getElem_toArray, List.getElem_cons_succ, List.getElem_cons_zero, Act.put, List.setIfInBounds_toArray, List.set_cons_zero, List.set_cons_succ]
              refine rg_take 4 (v := ?_) rfl (by kernel_rfl) (by kernel_rfl) (by kernel_rfl) hS rfl ?_ ?_
              rotate_left
              · intro wS hSw; go_simp; (with_reducible rfl)
              simp only [List.getElem_toArray, List.getElem_cons_succ, List.getElem_cons_zero, Act.put, List.setIfInBounds_toArray, List.set_cons_zero, List.set_cons_succ]
              refine rg_take 5 (v := ?_) rfl (by kernel_rfl) (by kernel_rfl) (by kernel_rfl) hS rfl ?_ ?_
              rotate_left
              · intro wS hSw; go_simp; (with_reducible rfl)
              simp only [List.getElem_toArray, List.getElem_cons_succ, List.getElem_cons_zero, Act.put, List.setIfInBounds_toArray, List.set_cons_zero, List.set_cons_succ]
              refine rg_take 6 (v := ?_) rfl (by kernel_rfl) (by kernel_rfl) (by kernel_rfl) hS rfl ?_ ?_
              rotate_left
              · intro wS hSw; go_simp; (with_reducible rfl)
              simp only [List.getElem_toArray, List.getElem_cons_succ, List.getElem_cons_zero, Act.put, List.setIfInBounds_toArray, List.set_cons_zero, List.set_cons_succ]
              refine rg_take 7 (v := ?_) rfl (by kernel_rfl) (by kernel_rfl) (by kernel_rfl) hS rfl ?_ ?_
              rotate_left
              · intro wS hSw; have k0 := (hSw.cell hb88).trans z0; have k1 := (hSw.cell hb88).trans z1; go_simp; (with_reducible rfl)
              simp only [List.getElem_toArray, List.getElem_cons_succ, List.getElem_cons_zero, Act.put, List.setIfInBounds_toArray, List.set_cons_zero, List.set_cons_succ]
              refine rg_take 8 (v := ?_) rfl (by kernel_rfl) (by kernel_rfl) (by kernel_rfl) hS rfl ?_ ?_
              rotate_left
              · intro wS hSw; go_simp; (with_reducible rfl)
              simp only [List.getElem_toArray, List.getElem_cons_succ, List.getElem_cons_zero, Act.put, List.setIfInBounds_toArray, List.set_cons_zero, List.set_cons_succ]
              refine rg_take 9 (v := ?_) rfl (by kernel_rfl) (by kernel_rfl) (by kernel_rfl) hS rfl ?_ ?_
              rotate_left
              · intro wS hSw; go_simp; (with_reducible rfl)
              simp only [List.getElem_toArray, List.getElem_cons_succ, List.getElem_cons_zero, Act.put, List.setIfInBounds_toArray, List.set_cons_zero, List.set_cons_succ]
              refine rg_take 10 (v := ?_) rfl (by kernel_rfl) (by kernel_rfl) (by kernel_rfl) hS rfl ?_ ?_
              rotate_left
              · intro wS hSw; go_simp; (with_reducible rfl)
              simp only [List.getElem_toArray, List.getElem_cons_succ, List.getElem_cons_zero, Act.put, List.setIfInBounds_toArray, List.set_cons_zero, List.set_cons_succ]
              refine rg_take 11 (v := ?_) rfl (by kernel_rfl) (by kernel_rfl) (by kernel_rfl) hS rfl ?_ ?_
              rotate_left
              · intro wS hSw; go_simp; (with_reducible rfl)
              simp only [List.getElem_toArray, List.getElem_cons_succ, List.getElem_cons_zero, Act.put, List.setIfInBounds_toArray, List.set_cons_zero, List.set_cons_succ]
              refine rg_take 12 (v := ?_) rfl (by kernel_rfl) (by kernel_rfl) (by kernel_rfl) hS rfl ?_ ?_
              rotate_left
              · intro wS hSw; go_simp; (with_reducible rfl)
              simp only [List.getElem_toArray, List.getElem_cons_succ, List.getElem_cons_zero, Act.put, List.setIfInBounds_toArray, List.set_cons_zero, List.set_cons_succ]
              refine rg_take 13 (v := ?_) rfl (by kernel_rfl) (by kernel_rfl) (by kernel_rfl) hS rfl ?_ ?_
              rotate_left
              · intro wS hSw; go_simp; (with_reducible rfl)
              simp only [List.getElem_toArray, List.getElem_cons_succ, List.getElem_cons_zero, Act.put, List.setIfInBounds_toArray, List.set_cons_zero, List.set_cons_succ]
              refine rg_take 14 (v := ?_) rfl (by kernel_rfl) (by kernel_rfl) (by kernel_rfl) hS rfl ?_ ?_
              rotate_left
              · intro wS hSw; go_simp; (with_reducible rfl)
              simp only [List.getElem_toArray, List.getElem_cons_succ, List.getElem_cons_zero, Act.put, List.setIfInBounds_toArray, List.set_cons_zero, List.set_cons_succ]
              refine rg_take 15 (v := ?_) rfl (by kernel_rfl) (by kernel_rfl) (by kernel_rfl) hS rfl ?_ ?_
              rotate_left
              · intro wS hSw; have k0 := (hSw.cell hb77).trans y0; go_simp; (with_reducible rfl)
              simp only [List.getElem_toArray, List.getElem_cons_succ, List.getElem_cons_zero, Act.put, List.setIfInBounds_toArray, List.set_cons_zero, List.set_cons_succ]
              refine rg_take 16 (v := ?_) rfl (by kernel_rfl) (by kernel_rfl) (by kernel_rfl) hS rfl ?_ ?_
              rotate_left
              · intro wS hSw; go_simp; (with_reducible rfl)
              simp only [List.getElem_toArray, List.getElem_cons_succ, List.getElem_cons_zero, Act.put, List.setIfInBounds_toArray, List.set_cons_zero, List.set_cons_succ]
              refine rg_take 17 (v := ?_) rfl (by kernel_rfl) (by kernel_rfl) (by kernel_rfl) hS rfl ?_ ?_
              rotate_left
              · intro wS hSw; go_simp; (with_reducible rfl)
              simp only [List.getElem_toArray, List.getElem_cons_succ, List.getElem_cons_zero, Act.put, List.setIfInBounds_toArray, List.set_cons_zero, List.set_cons_succ]
              refine rg_take 18 (v := ?_) rfl (by kernel_rfl) (by kernel_rfl) (by kernel_rfl) hS rfl ?_ ?_
              rotate_left
              · intro wS hSw; go_simp; (with_reducible rfl)
              simp only [List.getElem_toArray, List.getElem_cons_succ, List.getElem_cons_zero, Act.put, List.setIfInBounds_toArray, List.set_cons_zero, List.set_cons_succ]
              refine rg_take 19 (v := ?_) rfl (by kernel_rfl) (by kernel_rfl) (by kernel_rfl) hS rfl ?_ ?_
              rotate_left
              · intro wS hSw; go_simp; (with_reducible rfl)
              simp only [List.getElem_toArray, List.getElem_cons_succ, List.getElem_cons_zero, Act.put, List.setIfInBounds_toArray, List.set_cons_zero, List.set_cons_succ]
              refine rg_take 20 (v := ?_) rfl (by kernel_rfl) (by kernel_rfl) (by kernel_rfl) hS rfl ?_ ?_
              rotate_left
              · intro wS hSw; have k0 := (hSw.cell hb77).trans y1; go_simp; (with_reducible rfl)
              simp only [List.getElem_toArray, List.getElem_cons_succ, List.getElem_cons_zero, Act.put, List.setIfInBounds_toArray, List.set_cons_zero, List.set_cons_succ]
              refine rg_take 22 (v := ?_) rfl (by kernel_rfl) (by kernel_rfl) (by kernel_rfl) hS rfl ?_ ?_
              rotate_left
              · intro wS hSw; go_simp; (with_reducible rfl)
              simp only [List.getElem_toArray, List.getElem_cons_succ, List.getElem_cons_zero, Act.put, List.setIfInBounds_toArray, List.set_cons_zero, List.set_cons_succ]
              refine rg_take 23 (v := ?_) rfl (by kernel_rfl) (by kernel_rfl) (by kernel_rfl) hS rfl ?_ ?_
              rotate_left
              · intro wS hSw; go_simp; (with_reducible rfl)
              simp only [List.getElem_toArray, List.getElem_cons_succ, List.getElem_cons_zero, Act.put, List.setIfInBounds_toArray, List.set_cons_zero, List.set_cons_succ]
              refine rg_take 24 (v := ?_) rfl (by kernel_rfl) (by kernel_rfl) (by kernel_rfl) hS rfl ?_ ?_
              rotate_left
              · intro wS hSw; go_simp; (with_reducible rfl)
              simp only [List.getElem_toArray, List.getElem_cons_succ, List.getElem_cons_zero, Act.put, List.setIfInBounds_toArray, List.set_cons_zero, List.set_cons_succ]
              refine rg_take 25 (v := ?_) rfl (by kernel_rfl) (by kernel_rfl) (by kernel_rfl) hS rfl ?_ ?_
              rotate_left
              · intro wS hSw; go_simp; (with_reducible rfl)
              simp only [List.getElem_toArray, List.getElem_cons_succ, List.getElem_cons_zero, Act.put, List.setIfInBounds_toArray, List.set_cons_zero, List.set_cons_succ]
              refine rg_take 26 (v := ?_) rfl (by kernel_rfl) (by kernel_rfl) (by kernel_rfl) hS rfl ?_ ?_
              rotate_left
              · intro wS hSw; go_simp; (with_reducible rfl)
              simp only [List.getElem_toArray, List.getElem_cons_succ, List.getElem_cons_zero, Act.put, List.setIfInBounds_toArray, List.set_cons_zero, List.set_cons_succ]
              refine rg_take 27 (v := ?_) rfl (by kernel_rfl) (by kernel_rfl) (by kernel_rfl) hS rfl ?_ ?_
              rotate_left
              · intro wS hSw; have k0 := (hSw.cell hb77).trans y0; go_simp; (with_reducible rfl)
              simp only [List.getElem_toArray, List.getElem_cons_succ, List.getElem_cons_zero, Act.put, List.setIfInBounds_toArray, List.set_cons_zero, List.set_cons_succ]
              refine rg_take 28 (v := ?_) rfl (by kernel_rfl) (by kernel_rfl) (by kernel_rfl) hS rfl ?_ ?_
              rotate_left
              · intro wS hSw; go_simp; (with_reducible rfl)
              simp only [List.getElem_toArray, List.getElem_cons_succ, List.getElem_cons_zero, Act.put, List.setIfInBounds_toArray, List.set_cons_zero, List.set_cons_succ]
              refine rg_take 29 (v := ?_) rfl (by kernel_rfl) (by kernel_rfl) (by kernel_rfl) hS rfl ?_ ?_
              rotate_left
              · intro wS hSw; go_simp; (with_reducible rfl)
              simp only [List.getElem_toArray, List.getElem_cons_succ, List.getElem_cons_zero, Act.put, List.setIfInBounds_toArray, List.set_cons_zero, List.set_cons_succ]
              refine rg_take 30 (v := ?_) rfl (by kernel_rfl) (by kernel_rfl) (by kernel_rfl) hS rfl ?_ ?_
              rotate_left
              · intro wS hSw; go_simp; (with_reducible rfl)
              simp only [List.getElem_toArray, List.getElem_cons_succ, List.getElem_cons_zero, Act.put, List.setIfInBounds_toArray, List.set_cons_zero, List.set_cons_succ]
              refine rg_take 31 (v := ?_) rfl (by kernel_rfl) (by kernel_rfl) (by kernel_rfl) hS rfl ?_ ?_
              rotate_left
              · intro wS hSw; go_simp; (with_reducible rfl)
              simp only [List.getElem_toArray, List.getElem_cons_succ, List.getElem_cons_zero, Act.put, List.setIfInBounds_toArray, List.set_cons_zero, List.set_cons_succ]
              refine rg_take 32 (v := ?_) rfl (by kernel_rfl) (by kernel_rfl) (by kernel_rfl) hS rfl ?_ ?_
              rotate_left
              · intro wS hSw; have k0 := (hSw.cell hb77).trans y1; go_simp; (with_reducible rfl)
              simp only [List.getElem_toArray, List.getElem_cons_succ, List.getElem_cons_zero, Act.put, List.setIfInBounds_toArray, List.set_cons_zero, List.set_cons_succ]
              refine rg_one 21 rfl (by kernel_rfl) rfl (fun K hK => ?_)
              go_simp
              refine (countP hPd pa pc hpa hpc).mono ?_
              rintro e w9 ⟨rfl, hB9⟩
              have hP9 := hPd.on hB9
              have hS9 := hS.trans (hB9.mono hS.size)
              clear hPd hB9 hP8
              refine hK _ _ hS9 ?_; clear hK K
              try simp only [List.getElem_toArray, List.getElem_cons_succ, List.getElem_cons_zero, Act.put, List.setIfInBounds_toArray, List.set_cons_zero, List.set_cons_succ]
              refine rg_one 33 rfl (by kernel_rfl) rfl (fun K hK => ?_)
              go_simp
              refine (rcountP hP9 pa pc (by omega)).mono ?_
              rintro e w10 ⟨rfl, hB10⟩
              have hP10 := hP9.on hB10
              have hS10 := hS9.trans (hB10.mono hS9.size)
              clear hP9 hB10 hS9 hS
              refine hK _ _ hS10 ?_; clear hK K
              try simp only [List.getElem_toArray, List.getElem_cons_succ, List.getElem_cons_zero, Act.put, List.setIfInBounds_toArray, List.set_cons_zero, List.set_cons_succ]
              generalize (bag R2 pa pc).length = bl2 at *
              refine rg_take 34 (v := ?_) rfl (by kernel_rfl) (by kernel_rfl) (by kernel_rfl) hS10 rfl ?_ ?_
              rotate_left
              · intro wS hSw; go_simp; (with_reducible rfl)
              simp only [List.getElem_toArray, List.getElem_cons_succ, List.getElem_cons_zero, Act.put, List.setIfInBounds_toArray, List.set_cons_zero, List.set_cons_succ]
              refine rg_take 35 (v := ?_) rfl (by kernel_rfl) (by kernel_rfl) (by kernel_rfl) hS10 rfl ?_ ?_
              rotate_left
              · intro wS hSw; go_simp; (with_reducible rfl)
              simp only [List.getElem_toArray, List.getElem_cons_succ, List.getElem_cons_zero, Act.put, List.setIfInBounds_toArray, List.set_cons_zero, List.set_cons_succ]
              refine rg_end (by kernel_rfl) ?_
              go_wp2_with (first | (with_reducible refine hold_append ?_) | (with_reducible refine hold_make ?_) | (with_reducible refine hold_copy ?_))
              go_meet
              exact ⟨by simp, hP10, hS10⟩
            case rest =>
             as_aux_lemma =>
              obtain ⟨rfl, hP10, hS10⟩ := hcut
              clear hP8
              generalize wc = w10 at *
              have hr77 := hr7.below' hS10 hz7
              have hr88 := hr8.below' hS10 hz8
              have hz10 := hS10.size
              clear hr7 hr8
              go_wp2_with (first | (with_reducible refine hold_append ?_) | (with_reducible refine hold_make ?_) | (with_reducible refine hold_copy ?_))
              exact ⟨⟨q + 1, by omega, by first | rfl | go_num, hP10, hr77, hr88, by omega, by omega⟩, by simp [Go.RowKit.intOf]; omega⟩
          · have g5 : decide ((q : Int) < (N : Int)) = false := by simp; omega
            clear hr7 hr8
            go_wp2_with (first | (with_reducible refine hold_append ?_) | (with_reducible refine hold_make ?_) | (with_reducible refine hold_copy ?_))
            exact ⟨⟨k + 1, R2, by omega, by omega, by first | rfl | go_num, hP8⟩, by simp [Go.RowKit.intOf]; omega⟩
    · by_cases hq : k < n
      · have g8 : (k : Int) < (n : Int) := by omega
        have g9 : decide ((k : Int) < 200) = false := by simp; omega
        have hBx := hP.toB
        clear hP
        go_wp2_with (first | (with_reducible refine hold_append ?_) | (with_reducible refine hold_make ?_) | (with_reducible refine hold_copy ?_))
        refine (head_any _).mono ?_
        rintro e wh ⟨rfl, hBh⟩
        go_wp2_with (first | (with_reducible refine hold_append ?_) | (with_reducible refine hold_make ?_) | (with_reducible refine hold_copy ?_))
        go_ret
        exact ⟨rfl, (hBx).trans (hBh.mono (hBx).size)⟩
      · have g8 : decide ((k : Int) < (n : Int)) = false := by simp; omega
        have hBx := hP.toB
        clear hP
        go_wp2_with (first | (with_reducible refine hold_append ?_) | (with_reducible refine hold_make ?_) | (with_reducible refine hold_copy ?_))
        refine (head_any _).mono ?_
        rintro e wh ⟨rfl, hBh⟩
        go_wp2_with (first | (with_reducible refine hold_append ?_) | (with_reducible refine hold_make ?_) | (with_reducible refine hold_copy ?_))
        go_ret
        exact ⟨rfl, (hBx).trans (hBh.mono (hBx).size)⟩
end Go.PH

/- The walks of great and does. -/
import Derived.Test.YtemngfljlaimdaaWrAll
set_option linter.all false
set_option linter.unusedSimpArgs false
set_option linter.unusedVariables false
namespace Go.PH
open Go.RowKit Go.Proofs

theorem AW.wf {w0 w : World} {X : Nat → Prop} {n : Nat} {H : Nat → Option (Nat × List Wl)} {qb : Nat} {Q : List Wl} (h : AW w0 w X n H qb Q) {i p : Nat} {R : List Wl} (hi : H i = some (p, R)) : ∀ x ∈ R, i64ok x.fr ∧ i64ok x.to ∧ x.s.length ≤ 32768 := by
  obtain ⟨F, h1, _⟩ := h
  exact (h1 i p R hi).wf
theorem ways_i64 {R : List Wl} (h : ∀ x ∈ R, i64ok x.fr ∧ i64ok x.to ∧ x.s.length ≤ 32768) (p : Int × Int) (hp : p ∈ waysW R) : i64ok p.1 ∧ i64ok p.2 := by
  obtain ⟨a, b⟩ := p
  have hb := (ways_mem R a b).1 hp
  by_cases he : ∃ z ∈ R, z.on a b = true
  · obtain ⟨z, hz, ho⟩ := he
    simp only [Wl.on, decide_eq_true_eq] at ho
    rw [← ho.1, ← ho.2]
    exact ⟨(h z hz).1, (h z hz).2.1⟩
  · refine absurd ?_ hb
    unfold bag
    rw [List.map_eq_nil_iff, List.filter_eq_nil_iff]
    exact fun z hz ho => he ⟨z, hz, ho⟩
set_option maxRecDepth 20000 in
theorem great_any (x : Cl) (w : World) (hx : x.wf) : Calls Try.prog 11 #[.agg (clV x)] w fun e w' => e = .returned (.bool (decide (300 < x.s.length))) ∧ Below w.heap.size w w' := by
  obtain ⟨wh, fr, to, i, s⟩ := x
  obtain ⟨_, _, _, _, hs⟩ := hx
  unfold clV
  simp only at hs ⊢
  have hss := str_size s
  obtain ⟨xb, w1, hqb, hqv, hX, hB1⟩ := alloc_stepW w #[.int .u8 (wh : Int), .int .i64 fr, .int .i64 to, .int .i64 i, .string (str s)] 40
  have HD : Hid (decide ((300 : Int) < ((str s).size : Int)) = decide (300 < s.length)) := Lib.hid (by rw [hss]; simp only [decide_eq_decide]; omega)
  clear hss
  have c4 := hX.cell (j := 4) rfl
  go_enter Try.func11, Try.ntmps11
  go_upto_region 1 with fail
  rw [← hqb, ← hqv]
  clear hqb hqv
  go_wp2_with (first | (with_reducible refine hold_append ?_) | (with_reducible refine hold_make ?_) | (with_reducible refine hold_copy ?_))
  go_ret
  rw [← HD.out]
  exact ⟨rfl, hB1⟩
def DoesR (w0 w : World) (X : Nat → Prop) (n : Nat) (H : Nat → Option (Nat × List Wl)) (qb : Nat) (Q : List Wl) (i p : Nat) (R : List Wl) (x : Cl) (e : Ending) (w' : World) : Prop :=
  ∃ b, e = .returned (.bool b) ∧ (R = Q → b = true) ∧ AW w0 w' X (n + 1) (upd H i (p, turnW R x)) qb (turnW Q x) ∧ ∀ g, X g → w'.heap[g]? = w.heap[g]?
set_option maxRecDepth 20000 in
set_option maxHeartbeats 4000000 in
theorem does_any {w0 w : World} {X : Nat → Prop} {n : Nat} {H : Nat → Option (Nat × List Wl)} {qb : Nat} {Q : List Wl} (h : AW w0 w X n H qb Q) {i p : Nat} {R : List Wl} (hi : H i = some (p, R)) (x : Cl) (hx : x.wf) (hn : n < maxLen) (hQ : Q.length ≤ 1000000) (hS' : ∀ y ∈ Q, y.s.length ≤ 32768) :
    Calls Try.prog 12 #[.pointer (some ⟨p, 0, none⟩), .pointer (some ⟨qb, 0, none⟩), .agg (clV x)] w (DoesR w0 w X n H qb Q i p R x) := by
  obtain ⟨wh, fr, to, j, s⟩ := x
  obtain ⟨hwh, hfr, hto, hj, hs⟩ := hx
  simp only at hwh hfr hto hj hs
  unfold clV
  simp only
  obtain ⟨xb, w1, hqb, hqv, hX, hB1⟩ := alloc_stepW w #[.int .u8 (wh : Int), .int .i64 fr, .int .i64 to, .int .i64 j, .string (str s)] 40
  have h1 := h.spare hB1 (fun g => X g ∨ g = xb) (fun g hg => hg.imp id (fun e => by have := hX.lt; omega))
  have hXw : ∀ g, X g → g < w.heap.size := by
    obtain ⟨F, _, _, _, _, h5, _⟩ := h
    exact h5
  have c0 := hX.cell (j := 0) rfl
  go_enter Try.func12, Try.ntmps12
  go_upto_region 1 with fail
  rw [← hqb, ← hqv]
  clear hqb hqv
  have HXw := Lib.hid hXw
  have HT : Hid (wh % 6 = 3 ∨ wh % 6 = 4 ∨ wh % 6 = 5 ∨ (wh % 6 ≠ 3 ∧ wh % 6 ≠ 4 ∧ wh % 6 ≠ 5)) := Lib.hid (by omega)
  have HB1 := Lib.hid hB1
  clear hXw h hB1
  rcases HT.out with hc | hc | hc | ⟨hc1, hc2, hc3⟩
  · have d3 : ((wh : Int) % 6 == 3) = true := by simp; omega
    have HR : Hid (∀ P : List Wl, turnW P ⟨wh, fr, to, j, s⟩ = (takeW P fr to j).1) := Lib.hid (fun P => by unfold turnW; rw [if_pos hc])
    have htk := takeA h1 hi fr to j hfr hto hn
    have HQ : Hid (R = Q → (takeW R fr to j).2.1 = (takeW Q fr to j).2.1 ∧ (takeW R fr to j).2.2 = (takeW Q fr to j).2.2) := Lib.hid (fun e => by rw [e]; exact ⟨rfl, rfl⟩)
    have c1 := hX.cell (j := 1) rfl
    have c2 := hX.cell (j := 2) rfl
    have c3 := hX.cell (j := 3) rfl
    clear h1
    go_wp2_with (first | (with_reducible refine hold_append ?_) | (with_reducible refine hold_make ?_) | (with_reducible refine hold_copy ?_))
    refine htk.mono ?_
    rintro e w2 ⟨rfl, h2, hk2⟩
    have hX2 : Box w2 xb 40 #[.int .u8 (wh : Int), .int .i64 fr, .int .i64 to, .int .i64 j, .string (str s)] := (hk2 xb (.inr rfl)).trans hX
    clear htk c0 c1 c2 c3
    have c1 := hX2.cell (j := 1) rfl
    have c2 := hX2.cell (j := 2) rfl
    have c3 := hX2.cell (j := 3) rfl
    have htk := rtakeA h2 fr to j hj hQ
    go_wp2_with (first | (with_reducible refine hold_append ?_) | (with_reducible refine hold_make ?_) | (with_reducible refine hold_copy ?_))
    refine htk.mono ?_
    rintro e w3 ⟨rfl, h3, hk3⟩
    clear htk c1 c2 c3 h2
    have HE : Hid (AW w0 w3 X (n + 1) (upd H i (p, turnW R ⟨wh, fr, to, j, s⟩)) qb (turnW Q ⟨wh, fr, to, j, s⟩) ∧ ∀ g, X g → w3.heap[g]? = w.heap[g]?) := Lib.hid ⟨by rw [HR.out, HR.out]; exact h3.spare (Below.refl _ _) X (fun g hg => .inl (.inl hg)), fun g hg => (hk3 g (.inl hg)).trans ((hk2 g (.inl hg)).trans (HB1.out.block g (HXw.out g hg)))⟩
    clear h3 hk3 hk2
    generalize (takeW R fr to j).2.1 = s1 at *
    generalize (takeW Q fr to j).2.1 = s2 at *
    generalize (takeW R fr to j).2.2 = k1 at *
    generalize (takeW Q fr to j).2.2 = k2 at *
    obtain ⟨b1, hb1⟩ : ∃ b1, ((str s1).toList == (str s2).toList) = b1 := ⟨_, rfl⟩
    cases b1
    · have HB : Hid (R = Q → False) := Lib.hid (fun e => by rw [(HQ.out e).1] at hb1; simp at hb1)
      go_wp2_with (first | (with_reducible refine hold_append ?_) | (with_reducible refine hold_make ?_) | (with_reducible refine hold_copy ?_))
      go_ret
      exact ⟨false, rfl, fun e => (HB.out e).elim, HE.out⟩
    · have HB : Hid (R = Q → ((k1 : Int) == (k2 : Int)) = true) := Lib.hid (fun e => by rw [(HQ.out e).2]; simp)
      go_wp2_with (first | (with_reducible refine hold_append ?_) | (with_reducible refine hold_make ?_) | (with_reducible refine hold_copy ?_))
      go_ret
      exact ⟨_, rfl, HB.out, HE.out⟩
  · have d3 : ((wh : Int) % 6 == 3) = false := by simp; omega
    have d4 : ((wh : Int) % 6 == 4) = true := by simp; omega
    have HR : Hid (∀ P : List Wl, turnW P ⟨wh, fr, to, j, s⟩ = (doubleW P fr to j).1) := Lib.hid (fun P => by unfold turnW; rw [if_neg (by omega : ¬ wh % 6 = 3), if_pos hc])
    have HQ : Hid (R = Q → (doubleW R fr to j).2 = (doubleW Q fr to j).2) := Lib.hid (fun e => by rw [e])
    go_upto_region 7 with fail
    clear c0
    refine rg_start (fun W : World => Box W xb 40 #[.int .u8 (wh : Int), .int .i64 fr, .int .i64 to, .int .i64 j, .string (str s)]) (by kernel_rfl) ?_
    have hS : Box w1.drew xb 40 #[.int .u8 (wh : Int), .int .i64 fr, .int .i64 to, .int .i64 j, .string (str s)] := hX
    have h1 := h1.on (below_drewN (Below.refl _ w1) 1)
    have hkd : ∀ g : Nat, w1.drew.heap[g]? = w1.heap[g]? := fun g => rfl
    have h1 : AW w0 w1.drew (fun g => X g ∨ g = xb) n H qb Q := h1
    generalize w1.drew = wd at *
    refine rg_take 0 (v := ?_) rfl (by kernel_rfl) (by kernel_rfl) (by kernel_rfl) hS rfl ?_ ?_
    rotate_left
    · intro wS hSw; go_simp; (with_reducible rfl)
    simp only [List.getElem_toArray, List.getElem_cons_zero, Act.put, List.setIfInBounds_toArray, List.set_cons_zero, List.set_cons_succ]
    refine rg_take 1 (v := ?_) rfl (by kernel_rfl) (by kernel_rfl) (by kernel_rfl) hS rfl ?_ ?_
    rotate_left
    · intro wS hSw; go_simp; (with_reducible rfl)
    simp only [List.getElem_toArray, List.getElem_cons_succ, List.getElem_cons_zero, Act.put, List.setIfInBounds_toArray, List.set_cons_zero, List.set_cons_succ]
    refine rg_take 2 (v := ?_) rfl (by kernel_rfl) (by kernel_rfl) (by kernel_rfl) hS rfl ?_ ?_
    rotate_left
    · intro wS hSw; have k0 := hSw.cell (j := 1) rfl; go_simp; (with_reducible rfl)
    simp only [List.getElem_toArray, List.getElem_cons_succ, List.getElem_cons_zero, Act.put, List.setIfInBounds_toArray, List.set_cons_zero, List.set_cons_succ]
    refine rg_take 3 (v := ?_) rfl (by kernel_rfl) (by kernel_rfl) (by kernel_rfl) hS rfl ?_ ?_
    rotate_left
    · intro wS hSw; go_simp; (with_reducible rfl)
    simp only [List.getElem_toArray, List.getElem_cons_succ, List.getElem_cons_zero, Act.put, List.setIfInBounds_toArray, List.set_cons_zero, List.set_cons_succ]
    refine rg_take 4 (v := ?_) rfl (by kernel_rfl) (by kernel_rfl) (by kernel_rfl) hS rfl ?_ ?_
    rotate_left
    · intro wS hSw; have k0 := hSw.cell (j := 2) rfl; go_simp; (with_reducible rfl)
    simp only [List.getElem_toArray, List.getElem_cons_succ, List.getElem_cons_zero, Act.put, List.setIfInBounds_toArray, List.set_cons_zero, List.set_cons_succ]
    refine rg_take 5 (v := ?_) rfl (by kernel_rfl) (by kernel_rfl) (by kernel_rfl) hS rfl ?_ ?_
    rotate_left
    · intro wS hSw; go_simp; (with_reducible rfl)
    simp only [List.getElem_toArray, List.getElem_cons_succ, List.getElem_cons_zero, Act.put, List.setIfInBounds_toArray, List.set_cons_zero, List.set_cons_succ]
    refine rg_take 6 (v := ?_) rfl (by kernel_rfl) (by kernel_rfl) (by kernel_rfl) hS rfl ?_ ?_
    rotate_left
    · intro wS hSw; have k0 := hSw.cell (j := 3) rfl; go_simp; (with_reducible rfl)
    simp only [List.getElem_toArray, List.getElem_cons_succ, List.getElem_cons_zero, Act.put, List.setIfInBounds_toArray, List.set_cons_zero, List.set_cons_succ]
    refine rg_take 8 (v := ?_) rfl (by kernel_rfl) (by kernel_rfl) (by kernel_rfl) hS rfl ?_ ?_
    rotate_left
    · intro wS hSw; go_simp; (with_reducible rfl)
    simp only [List.getElem_toArray, List.getElem_cons_succ, List.getElem_cons_zero, Act.put, List.setIfInBounds_toArray, List.set_cons_zero, List.set_cons_succ]
    refine rg_take 9 (v := ?_) rfl (by kernel_rfl) (by kernel_rfl) (by kernel_rfl) hS rfl ?_ ?_
    rotate_left
    · intro wS hSw; go_simp; (with_reducible rfl)
    simp only [List.getElem_toArray, List.getElem_cons_succ, List.getElem_cons_zero, Act.put, List.setIfInBounds_toArray, List.set_cons_zero, List.set_cons_succ]
    refine rg_take 10 (v := ?_) rfl (by kernel_rfl) (by kernel_rfl) (by kernel_rfl) hS rfl ?_ ?_
    rotate_left
    · intro wS hSw; have k0 := hSw.cell (j := 1) rfl; go_simp; (with_reducible rfl)
    simp only [List.getElem_toArray, List.getElem_cons_succ, List.getElem_cons_zero, Act.put, List.setIfInBounds_toArray, List.set_cons_zero, List.set_cons_succ]
    refine rg_take 11 (v := ?_) rfl (by kernel_rfl) (by kernel_rfl) (by kernel_rfl) hS rfl ?_ ?_
    rotate_left
    · intro wS hSw; go_simp; (with_reducible rfl)
    simp only [List.getElem_toArray, List.getElem_cons_succ, List.getElem_cons_zero, Act.put, List.setIfInBounds_toArray, List.set_cons_zero, List.set_cons_succ]
    refine rg_take 12 (v := ?_) rfl (by kernel_rfl) (by kernel_rfl) (by kernel_rfl) hS rfl ?_ ?_
    rotate_left
    · intro wS hSw; have k0 := hSw.cell (j := 2) rfl; go_simp; (with_reducible rfl)
    simp only [List.getElem_toArray, List.getElem_cons_succ, List.getElem_cons_zero, Act.put, List.setIfInBounds_toArray, List.set_cons_zero, List.set_cons_succ]
    refine rg_take 13 (v := ?_) rfl (by kernel_rfl) (by kernel_rfl) (by kernel_rfl) hS rfl ?_ ?_
    rotate_left
    · intro wS hSw; go_simp; (with_reducible rfl)
    simp only [List.getElem_toArray, List.getElem_cons_succ, List.getElem_cons_zero, Act.put, List.setIfInBounds_toArray, List.set_cons_zero, List.set_cons_succ]
    refine rg_take 14 (v := ?_) rfl (by kernel_rfl) (by kernel_rfl) (by kernel_rfl) hS rfl ?_ ?_
    rotate_left
    · intro wS hSw; have k0 := hSw.cell (j := 3) rfl; go_simp; (with_reducible rfl)
    simp only [List.getElem_toArray, List.getElem_cons_succ, List.getElem_cons_zero, Act.put, List.setIfInBounds_toArray, List.set_cons_zero, List.set_cons_succ]
    refine rg_one 7 rfl (by kernel_rfl) rfl (fun K hK => ?_)
    go_simp
    refine (doubleA h1 hi fr to j hfr hto hn).mono ?_
    rintro e w2 ⟨rfl, h2, hk2⟩
    have hS2 : Box w2 xb 40 #[.int .u8 (wh : Int), .int .i64 fr, .int .i64 to, .int .i64 j, .string (str s)] := (hk2 xb (.inr rfl)).trans hS
    refine hK _ _ hS2 ?_; clear hK K
    refine rg_one 15 rfl (by kernel_rfl) rfl (fun K hK => ?_)
    go_simp
    refine (rdoubleA h2 fr to j hj hQ (fun y hy => by have := hS' y hy; omega)).mono ?_
    rintro e w3 ⟨rfl, h3, hk3⟩
    have hS3 : Box w3 xb 40 #[.int .u8 (wh : Int), .int .i64 fr, .int .i64 to, .int .i64 j, .string (str s)] := (hk3 xb (.inr rfl)).trans hS2
    refine hK _ _ hS3 ?_; clear hK K
    have HE : Hid (AW w0 w3 X (n + 1) (upd H i (p, turnW R ⟨wh, fr, to, j, s⟩)) qb (turnW Q ⟨wh, fr, to, j, s⟩) ∧ ∀ g, X g → w3.heap[g]? = w.heap[g]?) := Lib.hid ⟨by rw [HR.out, HR.out]; exact h3.spare (Below.refl _ _) X (fun g hg => .inl (.inl hg)), fun g hg => (hk3 g (.inl hg)).trans ((hk2 g (.inl hg)).trans ((hkd g).trans (HB1.out.block g (HXw.out g hg))))⟩
    clear h3 hk3 hk2 h1 h2 hkd
    generalize (doubleW R fr to j).2 = k1 at *
    generalize (doubleW Q fr to j).2 = k2 at *
    refine rg_take 16 (v := ?_) rfl (by kernel_rfl) (by kernel_rfl) (by kernel_rfl) hS3 rfl ?_ ?_
    rotate_left
    · intro wS hSw; go_simp; (with_reducible rfl)
    simp only [List.getElem_toArray, List.getElem_cons_succ, List.getElem_cons_zero, Act.put, List.setIfInBounds_toArray, List.set_cons_zero, List.set_cons_succ]
    refine rg_take 17 (v := ?_) rfl (by kernel_rfl) (by kernel_rfl) (by kernel_rfl) hS3 rfl ?_ ?_
    rotate_left
    · intro wS hSw; go_simp; (with_reducible rfl)
    simp only [List.getElem_toArray, List.getElem_cons_succ, List.getElem_cons_zero, Act.put, List.setIfInBounds_toArray, List.set_cons_zero, List.set_cons_succ]
    refine rg_end (by kernel_rfl) ?_
    have HB : Hid (R = Q → ((k1 : Int) == (k2 : Int)) = true) := Lib.hid (fun e => by rw [HQ.out e]; simp)
    go_wp2_with (first | (with_reducible refine hold_append ?_) | (with_reducible refine hold_make ?_) | (with_reducible refine hold_copy ?_))
    go_ret
    exact ⟨_, rfl, HB.out, HE.out⟩
  · have d3 : ((wh : Int) % 6 == 3) = false := by simp; omega
    have d4 : ((wh : Int) % 6 == 4) = false := by simp; omega
    have d5 : ((wh : Int) % 6 == 5) = true := by simp; omega
    have HR : Hid (∀ P : List Wl, turnW P ⟨wh, fr, to, j, s⟩ = clearW P fr) := Lib.hid (fun P => by unfold turnW; rw [if_neg (by omega : ¬ wh % 6 = 3), if_neg (by omega : ¬ wh % 6 = 4), if_pos hc])
    have htk := clearA h1 hi fr
    have c1 := hX.cell (j := 1) rfl
    clear h1
    go_wp2_with (first | (with_reducible refine hold_append ?_) | (with_reducible refine hold_make ?_) | (with_reducible refine hold_copy ?_))
    refine htk.mono ?_
    rintro e w2 ⟨rfl, h2, hk2⟩
    have hX2 : Box w2 xb 40 #[.int .u8 (wh : Int), .int .i64 fr, .int .i64 to, .int .i64 j, .string (str s)] := (hk2 xb (.inr rfl)).trans hX
    clear htk c0 c1
    have c1 := hX2.cell (j := 1) rfl
    have htk := rclearA h2 fr hQ
    go_wp2_with (first | (with_reducible refine hold_append ?_) | (with_reducible refine hold_make ?_) | (with_reducible refine hold_copy ?_))
    refine htk.mono ?_
    rintro e w3 ⟨rfl, h3, hk3⟩
    clear htk c1 h2
    have HE : Hid (AW w0 w3 X (n + 1) (upd H i (p, turnW R ⟨wh, fr, to, j, s⟩)) qb (turnW Q ⟨wh, fr, to, j, s⟩) ∧ ∀ g, X g → w3.heap[g]? = w.heap[g]?) := Lib.hid ⟨by rw [HR.out, HR.out]; exact (h3.spare (Below.refl _ _) X (fun g hg => .inl (.inl hg))).mono (Nat.le_succ _), fun g hg => (hk3 g (.inl hg)).trans ((hk2 g (.inl hg)).trans (HB1.out.block g (HXw.out g hg)))⟩
    clear h3 hk3 hk2
    go_wp2_with (first | (with_reducible refine hold_append ?_) | (with_reducible refine hold_make ?_) | (with_reducible refine hold_copy ?_))
    go_ret
    exact ⟨true, rfl, fun _ => rfl, HE.out⟩
  · have d3 : ((wh : Int) % 6 == 3) = false := by simp; omega
    have d4 : ((wh : Int) % 6 == 4) = false := by simp; omega
    have d5 : ((wh : Int) % 6 == 5) = false := by simp; omega
    have HR : Hid (∀ P : List Wl, turnW P ⟨wh, fr, to, j, s⟩ = (sendW P fr to s).1) := Lib.hid (fun P => by unfold turnW; rw [if_neg hc1, if_neg hc2, if_neg hc3])
    have HQ : Hid (R = Q → (sendW R fr to s).2 = (sendW Q fr to s).2) := Lib.hid (fun e => by rw [e])
    go_upto_region 12 with fail
    clear c0
    refine rg_start (fun W : World => Box W xb 40 #[.int .u8 (wh : Int), .int .i64 fr, .int .i64 to, .int .i64 j, .string (str s)]) (by kernel_rfl) ?_
    have hS : Box w1.drew xb 40 #[.int .u8 (wh : Int), .int .i64 fr, .int .i64 to, .int .i64 j, .string (str s)] := hX
    have h1 := h1.on (below_drewN (Below.refl _ w1) 1)
    have hkd : ∀ g : Nat, w1.drew.heap[g]? = w1.heap[g]? := fun g => rfl
    have h1 : AW w0 w1.drew (fun g => X g ∨ g = xb) n H qb Q := h1
    generalize w1.drew = wd at *
    refine rg_take 0 (v := ?_) rfl (by kernel_rfl) (by kernel_rfl) (by kernel_rfl) hS rfl ?_ ?_
    rotate_left
    · intro wS hSw; go_simp; (with_reducible rfl)
    simp only [List.getElem_toArray, List.getElem_cons_zero, Act.put, List.setIfInBounds_toArray, List.set_cons_zero, List.set_cons_succ]
    refine rg_take 1 (v := ?_) rfl (by kernel_rfl) (by kernel_rfl) (by kernel_rfl) hS rfl ?_ ?_
    rotate_left
    · intro wS hSw; go_simp; (with_reducible rfl)
    simp only [List.getElem_toArray, List.getElem_cons_succ, List.getElem_cons_zero, Act.put, List.setIfInBounds_toArray, List.set_cons_zero, List.set_cons_succ]
    refine rg_take 2 (v := ?_) rfl (by kernel_rfl) (by kernel_rfl) (by kernel_rfl) hS rfl ?_ ?_
    rotate_left
    · intro wS hSw; have k0 := hSw.cell (j := 1) rfl; go_simp; (with_reducible rfl)
    simp only [List.getElem_toArray, List.getElem_cons_succ, List.getElem_cons_zero, Act.put, List.setIfInBounds_toArray, List.set_cons_zero, List.set_cons_succ]
    refine rg_take 3 (v := ?_) rfl (by kernel_rfl) (by kernel_rfl) (by kernel_rfl) hS rfl ?_ ?_
    rotate_left
    · intro wS hSw; go_simp; (with_reducible rfl)
    simp only [List.getElem_toArray, List.getElem_cons_succ, List.getElem_cons_zero, Act.put, List.setIfInBounds_toArray, List.set_cons_zero, List.set_cons_succ]
    refine rg_take 4 (v := ?_) rfl (by kernel_rfl) (by kernel_rfl) (by kernel_rfl) hS rfl ?_ ?_
    rotate_left
    · intro wS hSw; have k0 := hSw.cell (j := 2) rfl; go_simp; (with_reducible rfl)
    simp only [List.getElem_toArray, List.getElem_cons_succ, List.getElem_cons_zero, Act.put, List.setIfInBounds_toArray, List.set_cons_zero, List.set_cons_succ]
    refine rg_take 5 (v := ?_) rfl (by kernel_rfl) (by kernel_rfl) (by kernel_rfl) hS rfl ?_ ?_
    rotate_left
    · intro wS hSw; go_simp; (with_reducible rfl)
    simp only [List.getElem_toArray, List.getElem_cons_succ, List.getElem_cons_zero, Act.put, List.setIfInBounds_toArray, List.set_cons_zero, List.set_cons_succ]
    refine rg_take 6 (v := ?_) rfl (by kernel_rfl) (by kernel_rfl) (by kernel_rfl) hS rfl ?_ ?_
    rotate_left
    · intro wS hSw; have k0 := hSw.cell (j := 4) rfl; go_simp; (with_reducible rfl)
    simp only [List.getElem_toArray, List.getElem_cons_succ, List.getElem_cons_zero, Act.put, List.setIfInBounds_toArray, List.set_cons_zero, List.set_cons_succ]
    refine rg_take 8 (v := ?_) rfl (by kernel_rfl) (by kernel_rfl) (by kernel_rfl) hS rfl ?_ ?_
    rotate_left
    · intro wS hSw; go_simp; (with_reducible rfl)
    simp only [List.getElem_toArray, List.getElem_cons_succ, List.getElem_cons_zero, Act.put, List.setIfInBounds_toArray, List.set_cons_zero, List.set_cons_succ]
    refine rg_take 9 (v := ?_) rfl (by kernel_rfl) (by kernel_rfl) (by kernel_rfl) hS rfl ?_ ?_
    rotate_left
    · intro wS hSw; go_simp; (with_reducible rfl)
    simp only [List.getElem_toArray, List.getElem_cons_succ, List.getElem_cons_zero, Act.put, List.setIfInBounds_toArray, List.set_cons_zero, List.set_cons_succ]
    refine rg_take 10 (v := ?_) rfl (by kernel_rfl) (by kernel_rfl) (by kernel_rfl) hS rfl ?_ ?_
    rotate_left
    · intro wS hSw; have k0 := hSw.cell (j := 1) rfl; go_simp; (with_reducible rfl)
    simp only [List.getElem_toArray, List.getElem_cons_succ, List.getElem_cons_zero, Act.put, List.setIfInBounds_toArray, List.set_cons_zero, List.set_cons_succ]
    refine rg_take 11 (v := ?_) rfl (by kernel_rfl) (by kernel_rfl) (by kernel_rfl) hS rfl ?_ ?_
    rotate_left
    · intro wS hSw; go_simp; (with_reducible rfl)
    simp only [List.getElem_toArray, List.getElem_cons_succ, List.getElem_cons_zero, Act.put, List.setIfInBounds_toArray, List.set_cons_zero, List.set_cons_succ]
    refine rg_take 12 (v := ?_) rfl (by kernel_rfl) (by kernel_rfl) (by kernel_rfl) hS rfl ?_ ?_
    rotate_left
    · intro wS hSw; have k0 := hSw.cell (j := 2) rfl; go_simp; (with_reducible rfl)
    simp only [List.getElem_toArray, List.getElem_cons_succ, List.getElem_cons_zero, Act.put, List.setIfInBounds_toArray, List.set_cons_zero, List.set_cons_succ]
    refine rg_take 13 (v := ?_) rfl (by kernel_rfl) (by kernel_rfl) (by kernel_rfl) hS rfl ?_ ?_
    rotate_left
    · intro wS hSw; go_simp; (with_reducible rfl)
    simp only [List.getElem_toArray, List.getElem_cons_succ, List.getElem_cons_zero, Act.put, List.setIfInBounds_toArray, List.set_cons_zero, List.set_cons_succ]
    refine rg_take 14 (v := ?_) rfl (by kernel_rfl) (by kernel_rfl) (by kernel_rfl) hS rfl ?_ ?_
    rotate_left
    · intro wS hSw; have k0 := hSw.cell (j := 4) rfl; go_simp; (with_reducible rfl)
    simp only [List.getElem_toArray, List.getElem_cons_succ, List.getElem_cons_zero, Act.put, List.setIfInBounds_toArray, List.set_cons_zero, List.set_cons_succ]
    refine rg_one 7 rfl (by kernel_rfl) rfl (fun K hK => ?_)
    go_simp
    refine (sendA h1 hi fr to s hfr hto hs hn).mono ?_
    rintro e w2 ⟨rfl, h2, hk2⟩
    have hS2 : Box w2 xb 40 #[.int .u8 (wh : Int), .int .i64 fr, .int .i64 to, .int .i64 j, .string (str s)] := (hk2 xb (.inr rfl)).trans hS
    refine hK _ _ hS2 ?_; clear hK K
    refine rg_one 15 rfl (by kernel_rfl) rfl (fun K hK => ?_)
    go_simp
    refine (rsendA h2 fr to s hs hQ).mono ?_
    rintro e w3 ⟨rfl, h3, hk3⟩
    have hS3 : Box w3 xb 40 #[.int .u8 (wh : Int), .int .i64 fr, .int .i64 to, .int .i64 j, .string (str s)] := (hk3 xb (.inr rfl)).trans hS2
    refine hK _ _ hS3 ?_; clear hK K
    have HE : Hid (AW w0 w3 X (n + 1) (upd H i (p, turnW R ⟨wh, fr, to, j, s⟩)) qb (turnW Q ⟨wh, fr, to, j, s⟩) ∧ ∀ g, X g → w3.heap[g]? = w.heap[g]?) := Lib.hid ⟨by rw [HR.out, HR.out]; exact h3.spare (Below.refl _ _) X (fun g hg => .inl (.inl hg)), fun g hg => (hk3 g (.inl hg)).trans ((hk2 g (.inl hg)).trans ((hkd g).trans (HB1.out.block g (HXw.out g hg))))⟩
    clear h3 hk3 hk2 h1 h2 hkd
    generalize (sendW R fr to s).2 = k1 at *
    generalize (sendW Q fr to s).2 = k2 at *
    refine rg_take 16 (v := ?_) rfl (by kernel_rfl) (by kernel_rfl) (by kernel_rfl) hS3 rfl ?_ ?_
    rotate_left
    · intro wS hSw; go_simp; (with_reducible rfl)
    simp only [List.getElem_toArray, List.getElem_cons_succ, List.getElem_cons_zero, Act.put, List.setIfInBounds_toArray, List.set_cons_zero, List.set_cons_succ]
    refine rg_take 17 (v := ?_) rfl (by kernel_rfl) (by kernel_rfl) (by kernel_rfl) hS3 rfl ?_ ?_
    rotate_left
    · intro wS hSw; go_simp; (with_reducible rfl)
    simp only [List.getElem_toArray, List.getElem_cons_succ, List.getElem_cons_zero, Act.put, List.setIfInBounds_toArray, List.set_cons_zero, List.set_cons_succ]
    refine rg_end (by kernel_rfl) ?_
    have HB : Hid (R = Q → ((k1 : Int) == (k2 : Int)) = true) := Lib.hid (fun e => by rw [HQ.out e]; simp)
    go_wp2_with (first | (with_reducible refine hold_append ?_) | (with_reducible refine hold_make ?_) | (with_reducible refine hold_copy ?_))
    go_ret
    exact ⟨_, rfl, HB.out, HE.out⟩
end Go.PH

import Derived.Test.YtemngfljlaimdaaWrNew
import Derived.Test.YtemngfljlaimdaaRegion2
import Derived.Deep.Cut
set_option linter.all false
set_option linter.unusedSimpArgs false
set_option linter.unusedVariables false
namespace Go.PH
open Go.RowKit Go.Proofs

theorem alloc_stepW (w : World) (cs : Array Value) (t : TypeId) : ∃ (b : Nat) (v : World), b = w.heap.size ∧ v = w.alloc (.cells cs t) ∧ Box v b t cs ∧ Below w.heap.size w v :=
  ⟨_, _, rfl, rfl, Box.new w cs t, (Below.refl _ _).alloc (Nat.le_refl _) _⟩
def FindR (w : World) (N : Nat) (i : Int) (H : Hd) (e : Ending) (w' : World) : Prop := Below w.heap.size w w' ∧
      ((0 ≤ i ∧ i < (N : Int) ∧ e = .returned (.tuple #[H.v, .int .i64 0])) ∨ ((i < 0 ∨ (N : Int) ≤ i) ∧ e = .returned (.tuple #[.slice none 0 0, .int .i64 7])))
set_option maxRecDepth 20000 in
set_option maxHeartbeats 4000000 in
theorem find_any (F : Nat → Prop) (pb mb n : Nat) (D : DataW Value) (hd : Int → Int → Hd) (R : List Wl) (a b i : Int) (w : World) (hx : Box w pb 50 #[.map (some mb)]) (hm : WrMap w F mb n D hd R) (ha : i64ok a) (hb : i64ok b) (hmo : (bag R a b).length ≤ 64) :
    Calls Try.prog 20 #[.pointer (some ⟨pb, 0, none⟩), .agg #[.int .i64 a, .int .i64 b], .int .i64 i] w (FindR w (bag R a b).length i (hd a b)) := by
  obtain ⟨N, hN⟩ : ∃ N, N = (bag R a b).length := ⟨_, rfl⟩
  rw [← hN] at hmo ⊢
  obtain ⟨kb, w0, hqb, hqv, hk, hB0⟩ := alloc_stepW w #[.int .i64 a, .int .i64 b] 54
  have hpk : pb ≠ kb := fun e => by have := hx.lt; omega
  have hx0 := hx.below hB0
  have hth := there_any pb mb w0 hx0
  have hm0 : WrMap w0 F mb n D hd R := hm.keep (fun g hg => hB0.block g (hm.lt g hg)) hB0.size
  go_enter Try.func20, Try.ntmps20
  go_upto_region 1 with fail
  rw [← hqb, ← hqv]
  clear hqb hqv
  go_wp2_with (first | (with_reducible refine hold_append ?_) | (with_reducible refine hold_make ?_) | (with_reducible refine hold_copy ?_))
  refine hth.mono ?_
  rintro e w1 ⟨rfl, rfl⟩
  clear hth
  go_upto_region 3 with fail
  have HN := Lib.hid hN
  clear hN
  refine rg_start (fun W : World => Below w1.heap.size w1 W) (by kernel_rfl) ?_
  have hS : Below w1.heap.size w1 w1.drew := below_drewN (Below.refl _ _) 1
  generalize w1.drew = wd at *
  have hlk : ∀ W, Below w1.heap.size w1 W → ∃ H : Hd, (Instr.lookup 48 (.map (some mb)) (wayV a b) false).run Try.prog W = .ok (.slice H.A N H.c) W ∧ (bag R a b ≠ [] → H = hd a b) ∧ (bag R a b = [] → H = ⟨none, 0, 0⟩) := fun W hW => by
    obtain ⟨H, h1, h2, _, h3, h4⟩ := (hm0.keep (fun g hg => hW.block g (hm0.lt g hg)) hW.size).look ha hb
    unfold Hd.v at h1
    rw [h2, ← HN.out] at h1
    exact ⟨H, h1, h3, h4⟩
  obtain ⟨H, HH1, HH2⟩ : ∃ H : Hd, (bag R a b ≠ [] → H = hd a b ∧ H.n = N) ∧ ∀ W, Below w1.heap.size w1 W → (Instr.lookup 48 (.map (some mb)) (wayV a b) false).run Try.prog W = .ok (.slice H.A N H.c) W := by
    by_cases e : bag R a b = []
    · refine ⟨⟨none, 0, 0⟩, fun h => absurd e h, fun W hW => ?_⟩
      obtain ⟨H, h1, _, h4⟩ := hlk W hW
      rw [h4 e] at h1
      exact h1
    · refine ⟨hd a b, fun h => ⟨rfl, ?_⟩, fun W hW => ?_⟩
      · have := (hm0.row a b ha hb e).1.1
        rw [HN.out]; simpa using this.symm
      · obtain ⟨H, h1, h3, _⟩ := hlk W hW
        rw [h3 e] at h1
        exact h1
  unfold wayV at HH2
  clear hlk
  have HH := Lib.hid HH1
  clear HH1
  refine rg_take 0 (v := ?_) rfl (by kernel_rfl) (by kernel_rfl) (by kernel_rfl) hS rfl ?_ ?_
  rotate_left
  · intro wS hSw; go_simp; (with_reducible rfl)
  simp only [List.getElem_toArray, List.getElem_cons_zero, Act.put, List.setIfInBounds_toArray, List.set_cons_zero, List.set_cons_succ]
  refine rg_take 1 (v := ?_) rfl (by kernel_rfl) (by kernel_rfl) (by kernel_rfl) hS rfl ?_ ?_
  rotate_left
  · intro wS hSw; have k0 := (hx0.below hSw).cell (j := 0) rfl; go_simp; (with_reducible rfl)
  simp only [List.getElem_toArray, List.getElem_cons_succ, List.getElem_cons_zero, Act.put, List.setIfInBounds_toArray, List.set_cons_zero, List.set_cons_succ]
  refine rg_take 2 (v := ?_) rfl (by kernel_rfl) (by kernel_rfl) (by kernel_rfl) hS rfl ?_ ?_
  rotate_left
  · intro wS hSw; go_simp; (with_reducible rfl)
  simp only [List.getElem_toArray, List.getElem_cons_succ, List.getElem_cons_zero, Act.put, List.setIfInBounds_toArray, List.set_cons_zero, List.set_cons_succ]
  refine rg_take 3 (v := ?_) rfl (by kernel_rfl) (by kernel_rfl) (by kernel_rfl) hS rfl ?_ ?_
  rotate_left
  · intro wS hSw; have k0 := (hx0.below hSw).cell (j := 0) rfl; go_simp; (with_reducible rfl)
  simp only [List.getElem_toArray, List.getElem_cons_succ, List.getElem_cons_zero, Act.put, List.setIfInBounds_toArray, List.set_cons_zero, List.set_cons_succ]
  refine rg_take 4 (v := ?_) rfl (by kernel_rfl) (by kernel_rfl) (by kernel_rfl) hS rfl ?_ ?_
  rotate_left
  · intro wS hSw; have k0 := (hk.below hSw).cell (j := 0) rfl; have k1 := (hk.below hSw).cell (j := 1) rfl; go_simp; (with_reducible rfl)
  simp only [List.getElem_toArray, List.getElem_cons_succ, List.getElem_cons_zero, Act.put, List.setIfInBounds_toArray, List.set_cons_zero, List.set_cons_succ]
  refine rg_take 5 (v := ?_) rfl (by kernel_rfl) (by kernel_rfl) (by kernel_rfl) hS rfl ?_ ?_
  rotate_left
  · intro wS hSw; have k0 := HH2 _ hSw; go_simp; (with_reducible rfl)
  simp only [List.getElem_toArray, List.getElem_cons_succ, List.getElem_cons_zero, Act.put, List.setIfInBounds_toArray, List.set_cons_zero, List.set_cons_succ]
  refine rg_take 6 (v := ?_) rfl (by kernel_rfl) (by kernel_rfl) (by kernel_rfl) hS rfl ?_ ?_
  rotate_left
  · intro wS hSw; go_simp; (with_reducible rfl)
  simp only [List.getElem_toArray, List.getElem_cons_succ, List.getElem_cons_zero, Act.put, List.setIfInBounds_toArray, List.set_cons_zero, List.set_cons_succ]
  refine rg_end (by kernel_rfl) ?_
  have hBd := hB0.trans (hS.mono hB0.size)
  have HH3 : Hid (0 < N → H = hd a b ∧ H.n = N) := Lib.hid (fun h => HH.out (fun e => by rw [HN.out, e] at h; simp at h))
  clear HH HH2 hS hm hm0 hk hx hx0
  have HB := Lib.hid hBd
  clear hBd hB0
  by_cases c1 : i < 0
  · go_wp2_with (first | (with_reducible refine hold_append ?_) | (with_reducible refine hold_make ?_) | (with_reducible refine hold_copy ?_))
    go_ret2
    exact ⟨HB.out, .inr ⟨.inl c1, rfl⟩⟩
  · by_cases c2 : (N : Int) ≤ i
    · go_wp2_with (first | (with_reducible refine hold_append ?_) | (with_reducible refine hold_make ?_) | (with_reducible refine hold_copy ?_))
      go_ret2
      exact ⟨HB.out, .inr ⟨.inr c2, rfl⟩⟩
    · go_wp2_with (first | (with_reducible refine hold_append ?_) | (with_reducible refine hold_make ?_) | (with_reducible refine hold_copy ?_))
      go_ret2
      obtain ⟨e1, e2⟩ := HH3.out (by omega)
      refine ⟨HB.out, .inl ⟨by omega, by omega, ?_⟩⟩
      rw [← e1, Hd.v, e2]
      rfl
end Go.PH

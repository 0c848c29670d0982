/- The document's wires: the walks of Send, Take, Double and Clear. -/
import Derived.Test.YtemngfljlaimdaaWrRef
import Derived.Test.YtemngfljlaimdaaWrDouble
set_option linter.all false
set_option linter.unusedSimpArgs false
set_option linter.unusedVariables false
namespace Go.PH
open Go.RowKit Go.Proofs

/-- what a call that turns the document's wires leaves -/
def RcR (w : World) (F : Nat → Prop) (qb : Nat) (R' : List Wl) (v : Value) (e : Ending) (w' : World) : Prop :=
  e = .returned v ∧ ∃ F' : Nat → Prop, (∀ g, F' g → F g ∨ w.heap.size ≤ g) ∧ Rw w' F' qb R' ∧ KeepF F w w'
theorem RcR.same {w : World} {F : Nat → Prop} {qb : Nat} {R : List Wl} (h : Rw w F qb R) (v : Value) : RcR w F qb R v (.returned v) w :=
  ⟨rfl, F, fun g hg => .inl hg, h, KeepF.below (Below.refl _ _)⟩
/-- a new row in the box -/
theorem Rw.put {w w1 w2 : World} {F : Nat → Prop} {qb : Nat} {A : Option Addr} {c N : Nat} {R' : List Wl} (hl : ∀ g, F g → g < w.heap.size) (hq : F qb) (hsz : w.heap.size ≤ w1.heap.size) (hk : ∀ g, g < w.heap.size → ¬ F g → w1.heap[g]? = w.heap[g]?) (hqt : Quiet w w1)
    (ho : Own w1 0 63 3 A N c (rowC lwC R')) (hN : N = R'.length) (hA : ∀ g, blk A = some g → (F g ∨ w.heap.size ≤ g) ∧ g ≠ qb) (hb : Box w2 qb 37 #[.slice A N c]) (hg : w1.grownBy w2 (some qb)) (v : Value) : RcR w F qb R' v (.returned v) w2 := by
  have hs2 := hg.size
  refine ⟨rfl, fun g => F g ∨ (w.heap.size ≤ g ∧ g < w2.heap.size), fun g hg => hg.imp id (fun h => h.1), ⟨⟨A, c, by rw [← hN]; exact hb, ?_, .inl hq, fun g hga => ⟨?_, (hA g hga).2⟩⟩, fun g hg => by rcases hg with h | h; have := hl g h; omega; exact h.2⟩, by omega, fun g hg' hF => ?_, hqt.trans (.grown hg)⟩
  · rw [← hN]
    exact own_keep ho (fun g hga => hg.block g (ho.blk_lt hga).2 (fun e => (hA g hga).2 (by injection e))) hg.size
  · have hlt := (ho.blk_lt hga).2
    rcases (hA g hga).1 with h | h
    · exact .inl h
    · exact .inr ⟨h, by omega⟩
  · rw [hg.block g (by omega) (fun e => hF (by injection e with e; rw [e]; exact hq)), hk g hg' hF]
set_option maxRecDepth 20000 in
set_option maxHeartbeats 2000000 in
theorem rsend_any (F : Nat → Prop) (qb : Nat) (R : List Wl) (a b : Int) (s : List UInt8) (w : World) (h : Rw w F qb R) (hs : s.length ≤ 140737488351232) (hR : R.length ≤ 1000000) :
    Calls Try.prog 25 #[.pointer (some ⟨qb, 0, none⟩), .int .i64 a, .int .i64 b, .string (str s)] w (RcR w F qb (sendW R a b s).1 (.int .i64 ((sendW R a b s).2 : Int))) := by
  have hct := rcount_any F qb R a b w h hR
  have hss := str_size s
  have HW := Lib.hid h
  obtain ⟨A, c, hx, ho, hqF, hAF⟩ := h.ex
  have HL := Lib.hid h.lt
  clear h
  obtain ⟨N, hN⟩ : ∃ N, N = (bag R a b).length := ⟨_, rfl⟩
  rw [← hN] at hct
  have HN := Lib.hid hN
  clear hN
  have c0 := hx.cell (j := 0) rfl
  by_cases c1 : 32768 < s.length
  · have HS : sendW R a b s = (R, 3) := by rw [sendW, if_pos c1]
    rw [HS]
    have d1 : (32768 : Int) < ((str s).size : Int) := by omega
    clear HS hss
    go_enter Try.func25, Try.ntmps25
    go_wp2_with (first | (with_reducible refine hold_append ?_) | (with_reducible refine hold_make ?_) | (with_reducible refine hold_copy ?_))
    go_ret
    exact RcR.same HW.out _
  · by_cases c2 : 64 ≤ N
    · have HS : sendW R a b s = (R, 6) := by rw [sendW, if_neg c1, ← HN.out, if_pos c2]
      rw [HS]
      have d1 : ¬ (32768 : Int) < ((str s).size : Int) := by omega
      have d2 : (64 : Int) ≤ (N : Int) := by omega
      clear HS hss
      go_enter Try.func25, Try.ntmps25
      go_wp2_with (first | (with_reducible refine hold_append ?_) | (with_reducible refine hold_make ?_) | (with_reducible refine hold_copy ?_))
      refine hct.mono ?_
      rintro e w1 ⟨rfl, hw⟩
      subst w1
      go_wp2_with (first | (with_reducible refine hold_append ?_) | (with_reducible refine hold_make ?_) | (with_reducible refine hold_copy ?_))
      go_ret
      exact RcR.same HW.out _
    · have HS : sendW R a b s = (R ++ [⟨a, b, s⟩], 0) := by rw [sendW, if_neg c1, ← HN.out, if_neg c2]
      rw [HS]
      have d1 : ¬ (32768 : Int) < ((str s).size : Int) := by omega
      have d2 : ¬ (64 : Int) ≤ (N : Int) := by omega
      clear HS hss
      obtain ⟨n, hn⟩ : ∃ n, n = R.length := ⟨_, rfl⟩
      rw [← hn] at hx ho c0 hR
      have HNN := Lib.hid hn
      clear hn
      go_enter Try.func25, Try.ntmps25
      go_wp2_with (first | (with_reducible refine hold_append ?_) | (with_reducible refine hold_make ?_) | (with_reducible refine hold_copy ?_))
      refine hct.mono ?_
      rintro e w1 ⟨rfl, hw⟩
      subst w1
      clear hct d1 d2
      go_wp2_with (first | (with_reducible refine hold_append ?_) | (with_reducible refine hold_make ?_) | (with_reducible refine hold_copy ?_))
      refine unhold (wp_rec lwShape slL Try.underlying35 rfl rfl rfl rfl rfl (⟨a, b, s⟩ : Wl) rfl ho (by omega) (by omega) (Nat.zero_le _) ?_)
      intro A2 c2 w2 ho2 hg2 hA2 _
      have hx2 := hx.grown hg2 (fun e => (hAF _ e.symm).2 rfl)
      have HO := Lib.hid ho2
      clear ho c0 ho2
      go_wp2_with (first | (with_reducible refine hold_append ?_) | (with_reducible refine hold_make ?_) | (with_reducible refine hold_copy ?_) | (with_reducible refine hold_store ?_))
      refine unhold (wp_box (v := .slice A2 (n + 1) c2) (vs := [.slice A2 (n + 1) c2]) rfl rfl rfl rfl hx2 rfl (by kernel_rfl) (by simp) (by simp [Value.oneCell']) #[.slice A2 (n + 1) c2] (by simp) ?_)
      intro w3 hx3 hg3 _
      go_wp2_with (first | (with_reducible refine hold_append ?_) | (with_reducible refine hold_make ?_) | (with_reducible refine hold_copy ?_))
      go_ret
      exact Rw.put HL.out hqF hg2.size (fun g hg hF => hg2.block g hg (fun e => hF (hAF g e.symm).1)) (.grown hg2) HO.out (by rw [List.length_append, ← HNN.out]; rfl) (fun g hga => by
        rcases hA2 with hA2 | hA2
        · rw [hA2] at hga; exact ⟨.inl (hAF g hga).1, (hAF g hga).2⟩
        · have q1 := hA2 g hga; have q2 := HL.out qb hqF; exact ⟨.inr q1, by omega⟩) hx3 hg3 _
set_option maxRecDepth 20000 in
set_option maxHeartbeats 2000000 in
theorem rtake_any (F : Nat → Prop) (qb : Nat) (R : List Wl) (a b i : Int) (w : World) (h : Rw w F qb R) (hi : i64ok i) (hR : R.length ≤ 1000000) :
    Calls Try.prog 22 #[.pointer (some ⟨qb, 0, none⟩), .int .i64 a, .int .i64 b, .int .i64 i] w (RcR w F qb (takeW R a b i).1 (.tuple #[.string (str (takeW R a b i).2.1), .int .i64 ((takeW R a b i).2.2 : Int)])) := by
  have hpl := place_any F qb R a b i w h hi hR
  have HW := Lib.hid h
  obtain ⟨A, c, hx, ho, hqF, hAF⟩ := h.ex
  have HL := Lib.hid h.lt
  clear h
  have c0 := hx.cell (j := 0) rfl
  cases hp : placeI R a b i with
  | none =>
    have HT : takeW R a b i = (R, [], 7) := by rw [takeW, hp]
    rw [HT]
    rw [hp] at hpl
    simp only [plc] at hpl
    clear HT hp
    go_enter Try.func22, Try.ntmps22
    go_wp2_with (first | (with_reducible refine hold_append ?_) | (with_reducible refine hold_make ?_) | (with_reducible refine hold_copy ?_))
    refine hpl.mono ?_
    rintro e w1 ⟨rfl, hw⟩
    subst w1
    clear hpl
    go_wp2_with (first | (with_reducible refine hold_append ?_) | (with_reducible refine hold_make ?_) | (with_reducible refine hold_copy ?_))
    go_ret2
    exact RcR.same HW.out _
  | some j =>
    have hjl : j < R.length := by
      unfold placeI at hp
      split at hp
      · cases hp
      · by_cases hk : i.toNat < (bag R a b).length
        · obtain ⟨j', h1, h2, _⟩ := place_some R a b i.toNat hk
          rw [h1] at hp; injection hp with hp; omega
        · rw [place_none R a b _ (by omega)] at hp; cases hp
    have HT : takeW R a b i = (R.eraseIdx j, R[j].s, 0) := by rw [takeW, hp]; simp [hjl]
    rw [HT]
    rw [hp] at hpl
    simp only [plc] at hpl
    clear HT hp
    have hE : Hid (rowC lwC (R.take j) ++ rowC lwC (R.drop (j + 1)) = rowC lwC (R.eraseIdx j)) := Lib.hid (by rw [← rowC_app, ← List.eraseIdx_eq_take_drop_succ])
    have hEl : Hid ((R.eraseIdx j).length + 1 = R.length) := Lib.hid (by rw [List.length_eraseIdx, if_pos hjl]; omega)
    obtain ⟨n, hn⟩ : ∃ n, n = R.length := ⟨_, rfl⟩
    rw [← hn] at hx ho c0 hR hEl
    have HNN := Lib.hid hn
    have hjn : j < n := by omega
    obtain ⟨bb, off, hA, _, _, hc⟩ := rec_at lwShape ho.rd (k := j) hjn
    subst hA
    have k2 := hc 2 (.string (str R[j].s)) rfl
    have hrd := ho.rd
    have hwj : IntKind.i64.wrap ((j : Int) + 1) = ((j + 1 : Nat) : Int) := by rw [IntWalk.i64_in _ ⟨by omega, by omega⟩]; omega
    obtain ⟨J, hJ⟩ : ∃ J, J = j + 1 := ⟨_, rfl⟩
    rw [← hJ] at hwj
    have HJ := Lib.hid hJ
    have hJn : J ≤ n := by omega
    have hJ1 : 1 ≤ J := by omega
    clear hn hc hJ
    generalize R[j].s = s at *
    go_enter Try.func22, Try.ntmps22
    go_wp2_with (first | (with_reducible refine hold_append ?_) | (with_reducible refine hold_make ?_) | (with_reducible refine hold_copy ?_))
    refine hpl.mono ?_
    rintro e w1 ⟨rfl, hw⟩
    subst w1
    clear hpl
    go_wp2_with (first | (with_reducible refine hold_append ?_) | (with_reducible refine hold_make ?_) | (with_reducible refine hold_copy ?_) | (with_reducible refine hold_slice ?_))
    refine unhold (wp_cut slL rfl rfl rfl hrd 0 j c (.inl ⟨rfl, rfl⟩) (.inr ⟨_, _, rfl, rfl⟩) (.inl ⟨rfl, rfl⟩) (by intro h; cases h) (by omega) (by have := hrd.cap; omega) (Nat.le_refl _) (by omega) ?_)
    intro A5 hr5
    rw [rowC_take lwShape, Nat.zero_mul, List.drop_zero] at hr5
    simp only [Nat.sub_zero] at hr5 ⊢
    go_wp2_with (first | (with_reducible refine hold_append ?_) | (with_reducible refine hold_make ?_) | (with_reducible refine hold_copy ?_))
    refine unhold (wp_app slL rfl rfl rfl rfl (Own.none_ w w.heap.size _ _) hr5 (rowC_one lwShape _) (by omega) (by simp [maxLen]; omega) (Nat.le_refl _) ?_)
    intro A6 c6 w6 ho6 hg6 hb6
    simp only [Nat.zero_add, List.nil_append] at ho6 ⊢
    have hB6 : Below w.heap.size w w6 := (Below.refl _ _).grown hg6 (Nat.le_refl _) (fun g hg => by cases hg)
    clear c0 k2 hr5
    have c0 := (hx.below hB6).cell (j := 0) rfl
    go_wp2_with (first | (with_reducible refine hold_append ?_) | (with_reducible refine hold_make ?_) | (with_reducible refine hold_copy ?_) | (with_reducible refine hold_slice ?_))
    refine unhold (wp_cut slL rfl rfl rfl (hrd.below hB6) J n c (.inr ⟨_, _, rfl, rfl⟩) (.inl ⟨rfl, rfl⟩) (.inl ⟨rfl, rfl⟩) (by intro h; cases h) (by omega) (by have := hrd.cap; omega) (Nat.le_refl _) (by omega) ?_)
    intro A8 hr8
    rw [List.take_of_length_le (by rw [rowC_len lwShape, ← HNN.out]; exact Nat.le_refl _), rowC_drop lwShape] at hr8
    go_wp2_with (first | (with_reducible refine hold_append ?_) | (with_reducible refine hold_make ?_) | (with_reducible refine hold_copy ?_))
    refine unhold (wp_app slL rfl rfl rfl rfl ho6 (hr8.more hB6.size) (rowC_one lwShape _) (by have := HJ.out; omega) (by have := HJ.out; simp [maxLen]; omega) hB6.size ?_)
    intro A9 c9 w9 ho9 hg9 hb9
    have hB9 : Below w.heap.size w w9 := hB6.grown hg9 hB6.size (fun g hg => (ho6.blk_lt hg).1)
    have hx9 := hx.below hB9
    rw [show rowC lwC (R.drop J) = rowC lwC (R.drop (j + 1)) by rw [HJ.out], hE.out] at ho9
    have HO := ho9
    have hN9 : j + (n - J) = n - 1 := by have := HJ.out; omega
    have hA9 : ∀ g, blk A9 = some g → w.heap.size ≤ g := fun g hg => (ho9.blk_lt hg).1
    clear ho9 ho6 hr8 c0 hg9 hb9 hb6 hg6 hB6 ho hrd
    rw [hN9] at HO ⊢
    have HO := Lib.hid HO
    clear hN9
    obtain ⟨N9, hN9⟩ : ∃ N9, N9 = n - 1 := ⟨_, rfl⟩
    rw [← hN9] at HO ⊢
    have HN9 := Lib.hid hN9
    clear hN9
    go_wp2_with (first | (with_reducible refine hold_append ?_) | (with_reducible refine hold_make ?_) | (with_reducible refine hold_copy ?_) | (with_reducible refine hold_store ?_))
    refine unhold (wp_box (v := .slice A9 N9 c9) (vs := [.slice A9 N9 c9]) rfl rfl rfl rfl hx9 rfl (by kernel_rfl) (by simp) (by simp [Value.oneCell']) #[.slice A9 N9 c9] (by simp) ?_)
    intro w10 hx10 hg10 _
    go_wp2_with (first | (with_reducible refine hold_append ?_) | (with_reducible refine hold_make ?_) | (with_reducible refine hold_copy ?_))
    go_ret2
    exact Rw.put HL.out hqF hB9.size (fun g hg _ => hB9.block g hg) (.below hB9) (HO.out.base_le (Nat.zero_le _)) (by have := hEl.out; have := HN9.out; omega) (fun g hg => ⟨.inr (hA9 g hg), by have := hA9 g hg; have := HL.out qb hqF; omega⟩) hx10 hg10 _
set_option maxRecDepth 20000 in
set_option maxHeartbeats 2000000 in
theorem rdouble_any (F : Nat → Prop) (qb : Nat) (R : List Wl) (a b i : Int) (w : World) (h : Rw w F qb R) (hi : i64ok i) (hR : R.length ≤ 1000000) (hwf : ∀ x ∈ R, x.s.length ≤ 140737488351232) :
    Calls Try.prog 23 #[.pointer (some ⟨qb, 0, none⟩), .int .i64 a, .int .i64 b, .int .i64 i] w (RcR w F qb (doubleW R a b i).1 (.int .i64 ((doubleW R a b i).2 : Int))) := by
  have hpl := place_any F qb R a b i w h hi hR
  have HW := Lib.hid h
  obtain ⟨A, c, hx, ho, hqF, hAF⟩ := h.ex
  have c0 := hx.cell (j := 0) rfl
  cases hp : placeI R a b i with
  | none =>
    have HT : doubleW R a b i = (R, 7) := by rw [doubleW, hp]
    rw [HT]
    rw [hp] at hpl
    simp only [plc] at hpl
    clear HT hp h
    go_enter Try.func23, Try.ntmps23
    go_wp2_with (first | (with_reducible refine hold_append ?_) | (with_reducible refine hold_make ?_) | (with_reducible refine hold_copy ?_))
    refine hpl.mono ?_
    rintro e w1 ⟨rfl, hw⟩
    subst w1
    clear hpl
    go_wp2_with (first | (with_reducible refine hold_append ?_) | (with_reducible refine hold_make ?_) | (with_reducible refine hold_copy ?_))
    go_ret
    exact RcR.same HW.out _
  | some j =>
    have hjl : j < R.length := by
      unfold placeI at hp
      split at hp
      · cases hp
      · by_cases hk : i.toNat < (bag R a b).length
        · obtain ⟨j', h1, h2, _⟩ := place_some R a b i.toNat hk
          rw [h1] at hp; injection hp with hp; omega
        · rw [place_none R a b _ (by omega)] at hp; cases hp
    have HT : doubleW R a b i = sendW R a b R[j].s := by rw [doubleW, hp]; simp [hjl]
    rw [HT]
    rw [hp] at hpl
    simp only [plc] at hpl
    clear HT hp
    have hsn := rsend_any F qb R a b R[j].s w h (hwf _ (List.getElem_mem hjl)) hR
    clear h
    obtain ⟨n, hn⟩ : ∃ n, n = R.length := ⟨_, rfl⟩
    rw [← hn] at hx ho c0 hR
    have hjn : j < n := by omega
    clear hn
    obtain ⟨bb, off, hA, _, _, hc⟩ := rec_at lwShape ho.rd (k := j) hjn
    subst hA
    have k2 := hc 2 (.string (str R[j].s)) rfl
    clear hc ho hx
    generalize R[j].s = s at *
    go_enter Try.func23, Try.ntmps23
    go_wp2_with (first | (with_reducible refine hold_append ?_) | (with_reducible refine hold_make ?_) | (with_reducible refine hold_copy ?_))
    refine hpl.mono ?_
    rintro e w1 ⟨rfl, hw⟩
    subst w1
    clear hpl
    go_wp2_with (first | (with_reducible refine hold_append ?_) | (with_reducible refine hold_make ?_) | (with_reducible refine hold_copy ?_))
    refine hsn.mono ?_
    rintro e w2 ⟨rfl, hrest⟩
    have HR := Lib.hid hrest
    clear hrest hsn
    go_wp2_with (first | (with_reducible refine hold_append ?_) | (with_reducible refine hold_make ?_) | (with_reducible refine hold_copy ?_))
    go_ret
    exact ⟨rfl, HR.out⟩
end Go.PH

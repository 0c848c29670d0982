import Derived.Test.YtemngfljlaimdaaWrMem
import Derived.WalkSpells
set_option linter.all false
set_option linter.unusedSimpArgs false
set_option linter.unusedVariables false
namespace Go.PH
open Go.RowKit Go.Proofs

/-- what a way's lookup answers -/
theorem WrMap.look {w : World} {F : Nat → Prop} {mb n : Nat} {D : DataW Value} {hd : Int → Int → Hd} {R : List Wl} (h : WrMap w F mb n D hd R) {a b : Int} (ha : i64ok a) (hb : i64ok b) :
    ∃ H : Hd, (Instr.lookup 48 (.map (some mb)) (wayV a b) false).run Try.prog w = .ok H.v w ∧ H.n = (bag R a b).length ∧ OwnS w H (bag R a b) ∧ (bag R a b ≠ [] → H = hd a b) ∧ (bag R a b = [] → H = ⟨none, 0, 0⟩) := by
  obtain ⟨v, ps, h1, h2⟩ := h.owns.lookup way_keyed Try.underlying48 (Try.zeroValue22 w) (zd := .held (.slice none 0 0)) (zp := []) rfl (way_key ha hb)
  by_cases e : bag R a b = []
  · rw [Maps.atKey_of_not_has (h.miss a b ha hb e)] at h2
    simp only [rawW, Option.some.injEq, Prod.mk.injEq, DataW.held.injEq] at h2
    rw [h2.1] at h1
    exact ⟨⟨none, 0, 0⟩, h1, by rw [e]; rfl, by rw [e]; exact Own.none_ _ _ _ _, fun hne => absurd e hne, fun _ => rfl⟩
  · rw [(h.has a b ha hb e).2] at h2
    simp only [rawW, Option.some.injEq, Prod.mk.injEq, DataW.held.injEq] at h2
    rw [h2.1] at h1
    have hr := (h.row a b ha hb e).1
    exact ⟨hd a b, h1, by have := hr.1; simpa using this.symm, hr, fun _ => rfl, fun e' => absurd e' e⟩

set_option maxRecDepth 20000 in
theorem new_any (w : World) : Calls Try.prog 7 #[] w fun e w' => e = .returned (.pointer (some ⟨w.heap.size + 1, 0, none⟩)) ∧ Wr w' (fun g => g = w.heap.size ∨ g = w.heap.size + 1) (w.heap.size + 1) 0 [] ∧ Below w.heap.size w w' := by
  have hmk := fun W => run_makeMap (P := Try.prog) 48 W
  go_enter Try.func7, Try.ntmps7
  go_wp2_with (first | (with_reducible refine hold_append ?_) | (with_reducible refine hold_make ?_) | (with_reducible refine hold_copy ?_))
  go_ret
  have hm0 := World.ownsMap_made w Try.prog 54 rawW
  have hs1 : (w.alloc (.map #[] 0)).heap.size = w.heap.size + 1 := by simp
  have hB1 : Below w.heap.size w (w.alloc (.map #[] 0)) := (Below.refl _ _).alloc (Nat.le_refl _) _
  have hbx : Box ((w.alloc (.map #[] 0)).alloc (.cells #[.map (some w.heap.size)] 50)) (w.heap.size + 1) 50 #[.map (some w.heap.size)] := by
    have := Box.new (w.alloc (.map #[] 0)) #[.map (some w.heap.size)] 50
    rwa [hs1] at this
  refine ⟨rfl, ⟨⟨w.heap.size, .map [], fun _ _ => ⟨none, 0, 0⟩, hbx, .inr rfl, by omega, fun a b _ _ hne => absurd rfl hne, ?_⟩, fun x hx => by simp at hx, fun a b => by simp [bag]⟩, hB1.alloc hB1.size _⟩
  exact ⟨ownsMap_keep hm0 (Below.heap_alloc _ _ _ (by omega)), .inl rfl, fun a b _ _ _ => rfl, fun a b _ _ hne => absurd rfl hne, fun a b _ _ hne => absurd rfl hne, fun a b c d _ _ _ _ hne => absurd rfl hne, fun g hg => by simp only [World.alloc, Array.size_push]; omega⟩

set_option maxRecDepth 20000 in
theorem there_any (pb mb : Nat) (w : World) (hb : Box w pb 50 #[.map (some mb)]) : Calls Try.prog 19 #[.pointer (some ⟨pb, 0, none⟩)] w fun e w' => e = .returned (.bool true) ∧ w' = w := by
  have c0 := hb.cell (j := 0) rfl
  have hnm := fun W => run_neq_map_nil (P := Try.prog) W _ _ _ (some mb) Try.underlying48
  go_enter Try.func19, Try.ntmps19
  go_wp2_with (first | (with_reducible refine hold_append ?_) | (with_reducible refine hold_make ?_) | (with_reducible refine hold_copy ?_))
  go_ret
  exact ⟨rfl, rfl⟩

set_option maxRecDepth 20000 in
theorem count_any (F : Nat → Prop) (pb n : Nat) (R : List Wl) (a b : Int) (w : World) (h : Wr w F pb n R) (ha : i64ok a) (hb : i64ok b) : Calls Try.prog 13 #[.pointer (some ⟨pb, 0, none⟩), .int .i64 a, .int .i64 b] w fun e w' => e = .returned (.int .i64 ((bag R a b).length : Int)) ∧ Below w.heap.size w w' := by
  obtain ⟨⟨mb, D, hd, hx, _, _, _, hm⟩, _, hmost⟩ := h
  have hmo := hmost a b
  have c0 := hx.cell (j := 0) rfl
  go_enter Try.func13, Try.ntmps13
  go_wp2_with (first | (with_reducible refine hold_append ?_) | (with_reducible refine hold_make ?_) | (with_reducible refine hold_copy ?_))
  refine (there_any pb mb w hx).mono ?_
  rintro e w1 ⟨rfl, rfl⟩
  obtain ⟨H, hlk, hn, hO, _, _⟩ := hm.look ha hb
  unfold Hd.v at hlk
  rw [hn] at hlk
  unfold wayV at hlk
  go_wp2_with (first | (with_reducible refine hold_append ?_) | (with_reducible refine hold_make ?_) | (with_reducible refine hold_copy ?_))
  go_ret
  exact ⟨rfl, Below.refl _ _⟩
end Go.PH

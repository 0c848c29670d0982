/- Texts laid together: MdMap0. -/
import Derived.Test.YtidpbbleneekgaaDoorMg14
import Derived.Test.YtidpbbleneekgaaDoorMg28
section
/- The readers' map: what lies in it. -/
set_option linter.all false
set_option linter.unusedSimpArgs false
set_option linter.unusedVariables false
namespace Go.PH
open Go.RowKit Go.Proofs

set_option maxRecDepth 20000 in
theorem readers_map (w : World) : Calls Tryd.prog 25 #[] w fun e w' => ∃ mb, e = .returned (.map (some mb)) ∧ Below w.heap.size w w' ∧ w.heap.size ≤ mb ∧ mb < w'.heap.size ∧ ∀ W : World, W.heap[mb]? = w'.heap[mb]? → ∀ kd ∈ kindL, (Instr.lookup 69 (.map (some mb)) (.int .u8 (kd.toNat : Int)) false).run Tryd.prog W = .ok (.func (.func (rdFn kd)) #[] #[]) W := by
  have hmk := fun W => run_makeMap (P := Tryd.prog) 69 W
  have hmap := World.ownsMap_made w Tryd.prog 5 rawV
  have hB := (Below.refl w.heap.size w).alloc (Nat.le_refl _) (.map #[] 0)
  go_enter Tryd.func25, Tryd.ntmps25
  go_wp2_with (first | (with_reducible refine hold_append ?_) | (with_reducible refine hold_make ?_) | (with_reducible refine hold_copy ?_) | (with_reducible refine hold_insert ?_) | (with_reducible refine hold_range ?_) | (with_reducible refine hold_next ?_))
  obtain ⟨mb, hmb⟩ : ∃ m, m = w.heap.size := ⟨_, rfl⟩
  rw [← hmb] at hmap ⊢
  have hmw : w.heap.size ≤ mb := by omega
  clear hmb hmk
  generalize (w.alloc (.map #[] 0)) = v1 at *
  refine unhold (wpList_insert_own (H := Value) _ rfl _ _ _ 69 rfl 5 71 u8_keyedM Tryd.underlying69 rawV _ _ _ rfl hmap (by simp [maxLen]) _ _ (.int .u8 98) rfl rfl (Maps.keyOf_int_mk Tryd.underlying5 (by decide)) _ [] rfl ?_)
  intro v2 hmap2 hgm
  have hB2 := hB.grown hgm hB.size (fun g hg => by injection hg with hg; omega)
  clear hmap hgm hB
  have hmap := hmap2
  have hB := hB2
  clear hmap2 hB2
  generalize v2 = v1 at *
  go_wp2_with (first | (with_reducible refine hold_append ?_) | (with_reducible refine hold_make ?_) | (with_reducible refine hold_copy ?_) | (with_reducible refine hold_insert ?_) | (with_reducible refine hold_range ?_) | (with_reducible refine hold_next ?_))
  refine unhold (wpList_insert_own (H := Value) _ rfl _ _ _ 69 rfl 5 71 u8_keyedM Tryd.underlying69 rawV _ _ _ rfl hmap (by simp [maxLen]) _ _ (.int .u8 110) rfl rfl (Maps.keyOf_int_mk Tryd.underlying5 (by decide)) _ [] rfl ?_)
  intro v2 hmap2 hgm
  have hB2 := hB.grown hgm hB.size (fun g hg => by injection hg with hg; omega)
  clear hmap hgm hB
  have hmap := hmap2
  have hB := hB2
  clear hmap2 hB2
  generalize v2 = v1 at *
  go_wp2_with (first | (with_reducible refine hold_append ?_) | (with_reducible refine hold_make ?_) | (with_reducible refine hold_copy ?_) | (with_reducible refine hold_insert ?_) | (with_reducible refine hold_range ?_) | (with_reducible refine hold_next ?_))
  refine unhold (wpList_insert_own (H := Value) _ rfl _ _ _ 69 rfl 5 71 u8_keyedM Tryd.underlying69 rawV _ _ _ rfl hmap (by simp [maxLen]) _ _ (.int .u8 119) rfl rfl (Maps.keyOf_int_mk Tryd.underlying5 (by decide)) _ [] rfl ?_)
  intro v2 hmap2 hgm
  have hB2 := hB.grown hgm hB.size (fun g hg => by injection hg with hg; omega)
  clear hmap hgm hB
  have hmap := hmap2
  have hB := hB2
  clear hmap2 hB2
  generalize v2 = v1 at *
  go_wp2_with (first | (with_reducible refine hold_append ?_) | (with_reducible refine hold_make ?_) | (with_reducible refine hold_copy ?_) | (with_reducible refine hold_insert ?_) | (with_reducible refine hold_range ?_) | (with_reducible refine hold_next ?_))
  refine unhold (wpList_insert_own (H := Value) _ rfl _ _ _ 69 rfl 5 71 u8_keyedM Tryd.underlying69 rawV _ _ _ rfl hmap (by simp [maxLen]) _ _ (.int .u8 100) rfl rfl (Maps.keyOf_int_mk Tryd.underlying5 (by decide)) _ [] rfl ?_)
  intro v2 hmap2 hgm
  have hB2 := hB.grown hgm hB.size (fun g hg => by injection hg with hg; omega)
  clear hmap hgm hB
  have hmap := hmap2
  have hB := hB2
  clear hmap2 hB2
  generalize v2 = v1 at *
  go_wp2_with (first | (with_reducible refine hold_append ?_) | (with_reducible refine hold_make ?_) | (with_reducible refine hold_copy ?_) | (with_reducible refine hold_insert ?_) | (with_reducible refine hold_range ?_) | (with_reducible refine hold_next ?_))
  refine unhold (wpList_insert_own (H := Value) _ rfl _ _ _ 69 rfl 5 71 u8_keyedM Tryd.underlying69 rawV _ _ _ rfl hmap (by simp [maxLen]) _ _ (.int .u8 115) rfl rfl (Maps.keyOf_int_mk Tryd.underlying5 (by decide)) _ [] rfl ?_)
  intro v2 hmap2 hgm
  have hB2 := hB.grown hgm hB.size (fun g hg => by injection hg with hg; omega)
  clear hmap hgm hB
  have hmap := hmap2
  have hB := hB2
  clear hmap2 hB2
  generalize v2 = v1 at *
  go_wp2_with (first | (with_reducible refine hold_append ?_) | (with_reducible refine hold_make ?_) | (with_reducible refine hold_copy ?_) | (with_reducible refine hold_insert ?_) | (with_reducible refine hold_range ?_) | (with_reducible refine hold_next ?_))
  refine unhold (wpList_insert_own (H := Value) _ rfl _ _ _ 69 rfl 5 71 u8_keyedM Tryd.underlying69 rawV _ _ _ rfl hmap (by simp [maxLen]) _ _ (.int .u8 116) rfl rfl (Maps.keyOf_int_mk Tryd.underlying5 (by decide)) _ [] rfl ?_)
  intro v2 hmap2 hgm
  have hB2 := hB.grown hgm hB.size (fun g hg => by injection hg with hg; omega)
  clear hmap hgm hB
  have hmap := hmap2
  have hB := hB2
  clear hmap2 hB2
  generalize v2 = v1 at *
  go_wp2_with (first | (with_reducible refine hold_append ?_) | (with_reducible refine hold_make ?_) | (with_reducible refine hold_copy ?_) | (with_reducible refine hold_insert ?_) | (with_reducible refine hold_range ?_) | (with_reducible refine hold_next ?_))
  refine unhold (wpList_insert_own (H := Value) _ rfl _ _ _ 69 rfl 5 71 u8_keyedM Tryd.underlying69 rawV _ _ _ rfl hmap (by simp [maxLen]) _ _ (.int .u8 120) rfl rfl (Maps.keyOf_int_mk Tryd.underlying5 (by decide)) _ [] rfl ?_)
  intro v2 hmap2 hgm
  have hB2 := hB.grown hgm hB.size (fun g hg => by injection hg with hg; omega)
  clear hmap hgm hB
  have hmap := hmap2
  have hB := hB2
  clear hmap2 hB2
  generalize v2 = v1 at *
  go_wp2_with (first | (with_reducible refine hold_append ?_) | (with_reducible refine hold_make ?_) | (with_reducible refine hold_copy ?_) | (with_reducible refine hold_insert ?_) | (with_reducible refine hold_range ?_) | (with_reducible refine hold_next ?_))
  refine unhold (wpList_insert_own (H := Value) _ rfl _ _ _ 69 rfl 5 71 u8_keyedM Tryd.underlying69 rawV _ _ _ rfl hmap (by simp [maxLen]) _ _ (.int .u8 114) rfl rfl (Maps.keyOf_int_mk Tryd.underlying5 (by decide)) _ [] rfl ?_)
  intro v2 hmap2 hgm
  have hB2 := hB.grown hgm hB.size (fun g hg => by injection hg with hg; omega)
  clear hmap hgm hB
  have hmap := hmap2
  have hB := hB2
  clear hmap2 hB2
  generalize v2 = v1 at *
  go_wp2_with (first | (with_reducible refine hold_append ?_) | (with_reducible refine hold_make ?_) | (with_reducible refine hold_copy ?_) | (with_reducible refine hold_insert ?_) | (with_reducible refine hold_range ?_) | (with_reducible refine hold_next ?_))
  refine unhold (wpList_insert_own (H := Value) _ rfl _ _ _ 69 rfl 5 71 u8_keyedM Tryd.underlying69 rawV _ _ _ rfl hmap (by simp [maxLen]) _ _ (.int .u8 118) rfl rfl (Maps.keyOf_int_mk Tryd.underlying5 (by decide)) _ [] rfl ?_)
  intro v2 hmap2 hgm
  have hB2 := hB.grown hgm hB.size (fun g hg => by injection hg with hg; omega)
  clear hmap hgm hB
  have hmap := hmap2
  have hB := hB2
  clear hmap2 hB2
  generalize v2 = v1 at *
  go_wp2_with (first | (with_reducible refine hold_append ?_) | (with_reducible refine hold_make ?_) | (with_reducible refine hold_copy ?_) | (with_reducible refine hold_insert ?_) | (with_reducible refine hold_range ?_) | (with_reducible refine hold_next ?_))
  go_ret
  refine ⟨mb, rfl, hB, hmw, ?_, fun W hW kd hk => ?_⟩
  · obtain ⟨es, clock, hb, _⟩ := hmap
    exact (Array.getElem?_eq_some_iff.1 hb).1
  obtain ⟨es, clock, hb, F, hx, hy⟩ := hmap
  have hmapW : W.ownsMap Tryd.prog 5 rawV mb _ _ := ⟨es, clock, hW.trans hb, F, hx, hy⟩
  unfold kindL at hk
  simp only [List.mem_cons, List.not_mem_nil, or_false] at hk
  rcases hk with rfl | rfl | rfl | rfl | rfl | rfl | rfl | rfl | rfl
  · obtain ⟨v, ps, hrun, hv⟩ := hmapW.lookup (t := 69) u8_keyedM Tryd.underlying69 (z := .nilFunc) (by kernel_rfl) (zd := .held .nilFunc) (zp := []) rfl (key := .int .u8 98) (kl := .int .u8 98) (Maps.keyOf_int_mk Tryd.underlying5 (by decide))
    have h2 := congrArg Prod.fst (Option.some.inj hv)
    have h3 : DataW.held v = DataW.held (.func (.func 46) #[] #[]) := h2.trans (by kernel_rfl)
    have h4 : v = .func (.func 46) #[] #[] := by injection h3
    rw [h4] at hrun
    exact hrun
  · obtain ⟨v, ps, hrun, hv⟩ := hmapW.lookup (t := 69) u8_keyedM Tryd.underlying69 (z := .nilFunc) (by kernel_rfl) (zd := .held .nilFunc) (zp := []) rfl (key := .int .u8 110) (kl := .int .u8 110) (Maps.keyOf_int_mk Tryd.underlying5 (by decide))
    have h2 := congrArg Prod.fst (Option.some.inj hv)
    have h3 : DataW.held v = DataW.held (.func (.func 47) #[] #[]) := h2.trans (by kernel_rfl)
    have h4 : v = .func (.func 47) #[] #[] := by injection h3
    rw [h4] at hrun
    exact hrun
  · obtain ⟨v, ps, hrun, hv⟩ := hmapW.lookup (t := 69) u8_keyedM Tryd.underlying69 (z := .nilFunc) (by kernel_rfl) (zd := .held .nilFunc) (zp := []) rfl (key := .int .u8 119) (kl := .int .u8 119) (Maps.keyOf_int_mk Tryd.underlying5 (by decide))
    have h2 := congrArg Prod.fst (Option.some.inj hv)
    have h3 : DataW.held v = DataW.held (.func (.func 48) #[] #[]) := h2.trans (by kernel_rfl)
    have h4 : v = .func (.func 48) #[] #[] := by injection h3
    rw [h4] at hrun
    exact hrun
  · obtain ⟨v, ps, hrun, hv⟩ := hmapW.lookup (t := 69) u8_keyedM Tryd.underlying69 (z := .nilFunc) (by kernel_rfl) (zd := .held .nilFunc) (zp := []) rfl (key := .int .u8 100) (kl := .int .u8 100) (Maps.keyOf_int_mk Tryd.underlying5 (by decide))
    have h2 := congrArg Prod.fst (Option.some.inj hv)
    have h3 : DataW.held v = DataW.held (.func (.func 49) #[] #[]) := h2.trans (by kernel_rfl)
    have h4 : v = .func (.func 49) #[] #[] := by injection h3
    rw [h4] at hrun
    exact hrun
  · obtain ⟨v, ps, hrun, hv⟩ := hmapW.lookup (t := 69) u8_keyedM Tryd.underlying69 (z := .nilFunc) (by kernel_rfl) (zd := .held .nilFunc) (zp := []) rfl (key := .int .u8 115) (kl := .int .u8 115) (Maps.keyOf_int_mk Tryd.underlying5 (by decide))
    have h2 := congrArg Prod.fst (Option.some.inj hv)
    have h3 : DataW.held v = DataW.held (.func (.func 50) #[] #[]) := h2.trans (by kernel_rfl)
    have h4 : v = .func (.func 50) #[] #[] := by injection h3
    rw [h4] at hrun
    exact hrun
  · obtain ⟨v, ps, hrun, hv⟩ := hmapW.lookup (t := 69) u8_keyedM Tryd.underlying69 (z := .nilFunc) (by kernel_rfl) (zd := .held .nilFunc) (zp := []) rfl (key := .int .u8 116) (kl := .int .u8 116) (Maps.keyOf_int_mk Tryd.underlying5 (by decide))
    have h2 := congrArg Prod.fst (Option.some.inj hv)
    have h3 : DataW.held v = DataW.held (.func (.func 51) #[] #[]) := h2.trans (by kernel_rfl)
    have h4 : v = .func (.func 51) #[] #[] := by injection h3
    rw [h4] at hrun
    exact hrun
  · obtain ⟨v, ps, hrun, hv⟩ := hmapW.lookup (t := 69) u8_keyedM Tryd.underlying69 (z := .nilFunc) (by kernel_rfl) (zd := .held .nilFunc) (zp := []) rfl (key := .int .u8 120) (kl := .int .u8 120) (Maps.keyOf_int_mk Tryd.underlying5 (by decide))
    have h2 := congrArg Prod.fst (Option.some.inj hv)
    have h3 : DataW.held v = DataW.held (.func (.func 52) #[] #[]) := h2.trans (by kernel_rfl)
    have h4 : v = .func (.func 52) #[] #[] := by injection h3
    rw [h4] at hrun
    exact hrun
  · obtain ⟨v, ps, hrun, hv⟩ := hmapW.lookup (t := 69) u8_keyedM Tryd.underlying69 (z := .nilFunc) (by kernel_rfl) (zd := .held .nilFunc) (zp := []) rfl (key := .int .u8 114) (kl := .int .u8 114) (Maps.keyOf_int_mk Tryd.underlying5 (by decide))
    have h2 := congrArg Prod.fst (Option.some.inj hv)
    have h3 : DataW.held v = DataW.held (.func (.func 53) #[] #[]) := h2.trans (by kernel_rfl)
    have h4 : v = .func (.func 53) #[] #[] := by injection h3
    rw [h4] at hrun
    exact hrun
  · obtain ⟨v, ps, hrun, hv⟩ := hmapW.lookup (t := 69) u8_keyedM Tryd.underlying69 (z := .nilFunc) (by kernel_rfl) (zd := .held .nilFunc) (zp := []) rfl (key := .int .u8 118) (kl := .int .u8 118) (Maps.keyOf_int_mk Tryd.underlying5 (by decide))
    have h2 := congrArg Prod.fst (Option.some.inj hv)
    have h3 : DataW.held v = DataW.held (.func (.func 54) #[] #[]) := h2.trans (by kernel_rfl)
    have h4 : v = .func (.func 54) #[] #[] := by injection h3
    rw [h4] at hrun
    exact hrun
end Go.PH
end

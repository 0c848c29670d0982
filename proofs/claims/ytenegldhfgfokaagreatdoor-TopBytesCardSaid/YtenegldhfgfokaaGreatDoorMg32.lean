/- Texts laid together: MdMap0. -/
import Derived.Test.YtenegldhfgfokaaGreatDoorMg18
import Derived.Test.YtenegldhfgfokaaGreatDoorMg31
set_option linter.all false
set_option linter.unusedSimpArgs false
set_option linter.unusedVariables false
section
/- The readers' map: what lies in it. -/
namespace Go.PH
open Go.RowKit Go.Proofs

set_option maxRecDepth 20000 in
theorem readers_map (w : World) : Calls Tryz.prog 29 #[] w fun e w' => ∃ mb, e = .returned (.map (some mb)) ∧ Below w.heap.size w w' ∧ w.heap.size ≤ mb ∧ mb < w'.heap.size ∧ ∀ W : World, W.heap[mb]? = w'.heap[mb]? → ∀ kd ∈ kindL, (Instr.lookup 95 (.map (some mb)) (.int .u8 (kd.toNat : Int)) false).run Tryz.prog W = .ok (.func (.func (rdFn kd)) #[] #[]) W := by
 have hmk := fun W => run_makeMap (P := Tryz.prog) 95 W
 have hmap := World.ownsMap_made w Tryz.prog 5 rawV
 have hB := (Below.refl w.heap.size w).alloc (Nat.le_refl _) (.map #[] 0)
 go_enter Tryz.func29, Tryz.ntmps29
 go_wp2_with (with_reducible refine h_M ?_)
 obtain ⟨mb, hmb⟩ : ∃ m, m = w.heap.size := ⟨_, rfl⟩
 rw [← hmb] at hmap ⊢
 have hmw : w.heap.size ≤ mb := by omega
 clear hmb hmk
 generalize (w.alloc (.map #[] 0)) = v1 at *
 refine unhold (wpList_insert_own (H := Value) _ rfl _ _ _ 95 rfl 5 97 u8_keyedM Tryz.underlying95 rawV _ _ _ rfl hmap (by simp [maxLen]) _ _ (.int .u8 98) rfl rfl (Maps.keyOf_int_mk Tryz.underlying5 (by decide)) _ [] rfl ?_)
 intro v2 hmap2 hgm
 have hB2 := hB.grown hgm hB.size (fun g hg => by injection hg with hg; omega)
 clear hmap hgm hB
 have hmap := hmap2
 have hB := hB2
 clear hmap2 hB2
 generalize v2 = v1 at *
 go_wp2_with (with_reducible refine h_M ?_)
 refine unhold (wpList_insert_own (H := Value) _ rfl _ _ _ 95 rfl 5 97 u8_keyedM Tryz.underlying95 rawV _ _ _ rfl hmap (by simp [maxLen]) _ _ (.int .u8 110) rfl rfl (Maps.keyOf_int_mk Tryz.underlying5 (by decide)) _ [] rfl ?_)
 intro v2 hmap2 hgm
 have hB2 := hB.grown hgm hB.size (fun g hg => by injection hg with hg; omega)
 clear hmap hgm hB
 have hmap := hmap2
 have hB := hB2
 clear hmap2 hB2
 generalize v2 = v1 at *
 go_wp2_with (with_reducible refine h_M ?_)
 refine unhold (wpList_insert_own (H := Value) _ rfl _ _ _ 95 rfl 5 97 u8_keyedM Tryz.underlying95 rawV _ _ _ rfl hmap (by simp [maxLen]) _ _ (.int .u8 119) rfl rfl (Maps.keyOf_int_mk Tryz.underlying5 (by decide)) _ [] rfl ?_)
 intro v2 hmap2 hgm
 have hB2 := hB.grown hgm hB.size (fun g hg => by injection hg with hg; omega)
 clear hmap hgm hB
 have hmap := hmap2
 have hB := hB2
 clear hmap2 hB2
 generalize v2 = v1 at *
 go_wp2_with (with_reducible refine h_M ?_)
 refine unhold (wpList_insert_own (H := Value) _ rfl _ _ _ 95 rfl 5 97 u8_keyedM Tryz.underlying95 rawV _ _ _ rfl hmap (by simp [maxLen]) _ _ (.int .u8 100) rfl rfl (Maps.keyOf_int_mk Tryz.underlying5 (by decide)) _ [] rfl ?_)
 intro v2 hmap2 hgm
 have hB2 := hB.grown hgm hB.size (fun g hg => by injection hg with hg; omega)
 clear hmap hgm hB
 have hmap := hmap2
 have hB := hB2
 clear hmap2 hB2
 generalize v2 = v1 at *
 go_wp2_with (with_reducible refine h_M ?_)
 refine unhold (wpList_insert_own (H := Value) _ rfl _ _ _ 95 rfl 5 97 u8_keyedM Tryz.underlying95 rawV _ _ _ rfl hmap (by simp [maxLen]) _ _ (.int .u8 115) rfl rfl (Maps.keyOf_int_mk Tryz.underlying5 (by decide)) _ [] rfl ?_)
 intro v2 hmap2 hgm
 have hB2 := hB.grown hgm hB.size (fun g hg => by injection hg with hg; omega)
 clear hmap hgm hB
 have hmap := hmap2
 have hB := hB2
 clear hmap2 hB2
 generalize v2 = v1 at *
 go_wp2_with (with_reducible refine h_M ?_)
 refine unhold (wpList_insert_own (H := Value) _ rfl _ _ _ 95 rfl 5 97 u8_keyedM Tryz.underlying95 rawV _ _ _ rfl hmap (by simp [maxLen]) _ _ (.int .u8 116) rfl rfl (Maps.keyOf_int_mk Tryz.underlying5 (by decide)) _ [] rfl ?_)
 intro v2 hmap2 hgm
 have hB2 := hB.grown hgm hB.size (fun g hg => by injection hg with hg; omega)
 clear hmap hgm hB
 have hmap := hmap2
 have hB := hB2
 clear hmap2 hB2
 generalize v2 = v1 at *
 go_wp2_with (with_reducible refine h_M ?_)
 refine unhold (wpList_insert_own (H := Value) _ rfl _ _ _ 95 rfl 5 97 u8_keyedM Tryz.underlying95 rawV _ _ _ rfl hmap (by simp [maxLen]) _ _ (.int .u8 120) rfl rfl (Maps.keyOf_int_mk Tryz.underlying5 (by decide)) _ [] rfl ?_)
 intro v2 hmap2 hgm
 have hB2 := hB.grown hgm hB.size (fun g hg => by injection hg with hg; omega)
 clear hmap hgm hB
 have hmap := hmap2
 have hB := hB2
 clear hmap2 hB2
 generalize v2 = v1 at *
 go_wp2_with (with_reducible refine h_M ?_)
 refine unhold (wpList_insert_own (H := Value) _ rfl _ _ _ 95 rfl 5 97 u8_keyedM Tryz.underlying95 rawV _ _ _ rfl hmap (by simp [maxLen]) _ _ (.int .u8 114) rfl rfl (Maps.keyOf_int_mk Tryz.underlying5 (by decide)) _ [] rfl ?_)
 intro v2 hmap2 hgm
 have hB2 := hB.grown hgm hB.size (fun g hg => by injection hg with hg; omega)
 clear hmap hgm hB
 have hmap := hmap2
 have hB := hB2
 clear hmap2 hB2
 generalize v2 = v1 at *
 go_wp2_with (with_reducible refine h_M ?_)
 refine unhold (wpList_insert_own (H := Value) _ rfl _ _ _ 95 rfl 5 97 u8_keyedM Tryz.underlying95 rawV _ _ _ rfl hmap (by simp [maxLen]) _ _ (.int .u8 118) rfl rfl (Maps.keyOf_int_mk Tryz.underlying5 (by decide)) _ [] rfl ?_)
 intro v2 hmap2 hgm
 have hB2 := hB.grown hgm hB.size (fun g hg => by injection hg with hg; omega)
 clear hmap hgm hB
 have hmap := hmap2
 have hB := hB2
 clear hmap2 hB2
 generalize v2 = v1 at *
 go_wp2_with (with_reducible refine h_M ?_)
 go_ret
 refine ⟨mb, rfl, hB, hmw, ?_, fun W hW kd hk => ?_⟩
 ·obtain ⟨es, clock, hb, _⟩ := hmap
  exact (Array.getElem?_eq_some_iff.1 hb).1
 obtain ⟨es, clock, hb, F, hx, hy⟩ := hmap
 have hmapW : W.ownsMap Tryz.prog 5 rawV mb _ _ := ⟨es, clock, hW.trans hb, F, hx, hy⟩
 unfold kindL at hk
 simp only [List.mem_cons, List.not_mem_nil, or_false] at hk
 rcases hk with rfl | rfl | rfl | rfl | rfl | rfl | rfl | rfl | rfl
 ·obtain ⟨v, ps, hrun, hv⟩ := hmapW.lookup (t := 95) u8_keyedM Tryz.underlying95 (z := .nilFunc) (by kernel_rfl) (zd := .held .nilFunc) (zp := []) rfl (key := .int .u8 98) (kl := .int .u8 98) (Maps.keyOf_int_mk Tryz.underlying5 (by decide))
  have h2 := congrArg Prod.fst (Option.some.inj hv)
  have h3 : DataW.held v = DataW.held (.func (.func 53) #[] #[]) := h2.trans (by kernel_rfl)
  have h4 : v = .func (.func 53) #[] #[] := by injection h3
  rw [h4] at hrun
  exact hrun
 ·obtain ⟨v, ps, hrun, hv⟩ := hmapW.lookup (t := 95) u8_keyedM Tryz.underlying95 (z := .nilFunc) (by kernel_rfl) (zd := .held .nilFunc) (zp := []) rfl (key := .int .u8 110) (kl := .int .u8 110) (Maps.keyOf_int_mk Tryz.underlying5 (by decide))
  have h2 := congrArg Prod.fst (Option.some.inj hv)
  have h3 : DataW.held v = DataW.held (.func (.func 54) #[] #[]) := h2.trans (by kernel_rfl)
  have h4 : v = .func (.func 54) #[] #[] := by injection h3
  rw [h4] at hrun
  exact hrun
 ·obtain ⟨v, ps, hrun, hv⟩ := hmapW.lookup (t := 95) u8_keyedM Tryz.underlying95 (z := .nilFunc) (by kernel_rfl) (zd := .held .nilFunc) (zp := []) rfl (key := .int .u8 119) (kl := .int .u8 119) (Maps.keyOf_int_mk Tryz.underlying5 (by decide))
  have h2 := congrArg Prod.fst (Option.some.inj hv)
  have h3 : DataW.held v = DataW.held (.func (.func 55) #[] #[]) := h2.trans (by kernel_rfl)
  have h4 : v = .func (.func 55) #[] #[] := by injection h3
  rw [h4] at hrun
  exact hrun
 ·obtain ⟨v, ps, hrun, hv⟩ := hmapW.lookup (t := 95) u8_keyedM Tryz.underlying95 (z := .nilFunc) (by kernel_rfl) (zd := .held .nilFunc) (zp := []) rfl (key := .int .u8 100) (kl := .int .u8 100) (Maps.keyOf_int_mk Tryz.underlying5 (by decide))
  have h2 := congrArg Prod.fst (Option.some.inj hv)
  have h3 : DataW.held v = DataW.held (.func (.func 56) #[] #[]) := h2.trans (by kernel_rfl)
  have h4 : v = .func (.func 56) #[] #[] := by injection h3
  rw [h4] at hrun
  exact hrun
 ·obtain ⟨v, ps, hrun, hv⟩ := hmapW.lookup (t := 95) u8_keyedM Tryz.underlying95 (z := .nilFunc) (by kernel_rfl) (zd := .held .nilFunc) (zp := []) rfl (key := .int .u8 115) (kl := .int .u8 115) (Maps.keyOf_int_mk Tryz.underlying5 (by decide))
  have h2 := congrArg Prod.fst (Option.some.inj hv)
  have h3 : DataW.held v = DataW.held (.func (.func 57) #[] #[]) := h2.trans (by kernel_rfl)
  have h4 : v = .func (.func 57) #[] #[] := by injection h3
  rw [h4] at hrun
  exact hrun
 ·obtain ⟨v, ps, hrun, hv⟩ := hmapW.lookup (t := 95) u8_keyedM Tryz.underlying95 (z := .nilFunc) (by kernel_rfl) (zd := .held .nilFunc) (zp := []) rfl (key := .int .u8 116) (kl := .int .u8 116) (Maps.keyOf_int_mk Tryz.underlying5 (by decide))
  have h2 := congrArg Prod.fst (Option.some.inj hv)
  have h3 : DataW.held v = DataW.held (.func (.func 58) #[] #[]) := h2.trans (by kernel_rfl)
  have h4 : v = .func (.func 58) #[] #[] := by injection h3
  rw [h4] at hrun
  exact hrun
 ·obtain ⟨v, ps, hrun, hv⟩ := hmapW.lookup (t := 95) u8_keyedM Tryz.underlying95 (z := .nilFunc) (by kernel_rfl) (zd := .held .nilFunc) (zp := []) rfl (key := .int .u8 120) (kl := .int .u8 120) (Maps.keyOf_int_mk Tryz.underlying5 (by decide))
  have h2 := congrArg Prod.fst (Option.some.inj hv)
  have h3 : DataW.held v = DataW.held (.func (.func 59) #[] #[]) := h2.trans (by kernel_rfl)
  have h4 : v = .func (.func 59) #[] #[] := by injection h3
  rw [h4] at hrun
  exact hrun
 ·obtain ⟨v, ps, hrun, hv⟩ := hmapW.lookup (t := 95) u8_keyedM Tryz.underlying95 (z := .nilFunc) (by kernel_rfl) (zd := .held .nilFunc) (zp := []) rfl (key := .int .u8 114) (kl := .int .u8 114) (Maps.keyOf_int_mk Tryz.underlying5 (by decide))
  have h2 := congrArg Prod.fst (Option.some.inj hv)
  have h3 : DataW.held v = DataW.held (.func (.func 60) #[] #[]) := h2.trans (by kernel_rfl)
  have h4 : v = .func (.func 60) #[] #[] := by injection h3
  rw [h4] at hrun
  exact hrun
 ·obtain ⟨v, ps, hrun, hv⟩ := hmapW.lookup (t := 95) u8_keyedM Tryz.underlying95 (z := .nilFunc) (by kernel_rfl) (zd := .held .nilFunc) (zp := []) rfl (key := .int .u8 118) (kl := .int .u8 118) (Maps.keyOf_int_mk Tryz.underlying5 (by decide))
  have h2 := congrArg Prod.fst (Option.some.inj hv)
  have h3 : DataW.held v = DataW.held (.func (.func 61) #[] #[]) := h2.trans (by kernel_rfl)
  have h4 : v = .func (.func 61) #[] #[] := by injection h3
  rw [h4] at hrun
  exact hrun
end Go.PH
end

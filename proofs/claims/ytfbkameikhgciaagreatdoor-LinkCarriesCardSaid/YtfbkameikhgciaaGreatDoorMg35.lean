/- Texts laid together: MdRd6, MdRd7, MdMap0. -/
import Derived.Test.YtfbkameikhgciaaGreatDoorMg11
import Derived.Test.YtfbkameikhgciaaGreatDoorMg24
import Derived.Test.YtfbkameikhgciaaGreatDoorMg34
set_option linter.all false
set_option linter.unusedSimpArgs false
set_option linter.unusedVariables false
section
/- What the method reader's reader of sets answers; all nine in one form. -/
namespace Go.PH
open Go.RowKit Go.Proofs

end Go.PH
end
section
/- All of the method reader's readers in one form. -/
namespace Go.PH
open Go.RowKit Go.Proofs

/-- the reader of a kind -/
def rdFn (kd : UInt8) : FuncId :=
 if kd = 98 then 127 else if kd = 110 then 128 else if kd = 119 then 129 else if kd = 100 then 130
 else if kd = 115 then 131 else if kd = 116 then 132 else if kd = 120 then 133 else if kd = 114 then 134 else 135
theorem num_ok {a : Ag} {k : Nat} (h : (decide (a.n < k) && sameA a (agN a)) = true) : a.n < k ∧ sameA a (agN a) = true := by
 rw [Bool.and_eq_true, decide_eq_true_eq] at h; exact h
theorem txt_ok {a : Ag} {k : Int} (h : (decide (textErr a.s.length k = 0) && sameA a (agS a)) = true) : textErr a.s.length k = 0 ∧ sameA a (agS a) = true := by
 rw [Bool.and_eq_true, decide_eq_true_eq] at h; exact h
end Go.PH
end
section
/- The readers' map: what lies in it. -/
namespace Go.PH
open Go.RowKit Go.Proofs

set_option maxRecDepth 20000 in
theorem readers_map (w : World) : Calls Tryz.prog 109 #[] w fun e w' => ∃ mb, e = .returned (.map (some mb)) ∧ Below w.heap.size w w' ∧ w.heap.size ≤ mb ∧ mb < w'.heap.size ∧ ∀ W : World, W.heap[mb]? = w'.heap[mb]? → ∀ kd ∈ kindL, (Instr.lookup 195 (.map (some mb)) (.int .u8 (kd.toNat : Int)) false).run Tryz.prog W = .ok (.func (.func (rdFn kd)) #[] #[]) W := by
 have hmk := fun W => run_makeMap (P := Tryz.prog) 195 W
 have hmap := World.ownsMap_made w Tryz.prog 5 rawV
 have hB := (Below.refl w.heap.size w).alloc (Nat.le_refl _) (.map #[] 0)
 go_enter Tryz.func109, Tryz.ntmps109
 go_wp2_with (with_reducible refine h_M ?_)
 obtain ⟨mb, hmb⟩ : ∃ m, m = w.heap.size := ⟨_, rfl⟩
 rw [← hmb] at hmap ⊢
 have hmw : w.heap.size ≤ mb := by omega
 clear hmb hmk
 generalize (w.alloc (.map #[] 0)) = v1 at *
 refine unhold (wpList_insert_own (H := Value) _ rfl _ _ _ 195 rfl 5 197 u8_keyedM Tryz.underlying195 rawV _ _ _ rfl hmap (by simp [maxLen]) _ _ (.int .u8 98) rfl rfl (Maps.keyOf_int_mk Tryz.underlying5 (by decide)) _ [] rfl ?_)
 intro v2 hmap2 hgm
 have hB2 := hB.grown hgm hB.size (fun g hg => by injection hg with hg; omega)
 clear hmap hgm hB
 have hmap := hmap2
 have hB := hB2
 clear hmap2 hB2
 generalize v2 = v1 at *
 go_wp2_with (with_reducible refine h_M ?_)
 refine unhold (wpList_insert_own (H := Value) _ rfl _ _ _ 195 rfl 5 197 u8_keyedM Tryz.underlying195 rawV _ _ _ rfl hmap (by simp [maxLen]) _ _ (.int .u8 110) rfl rfl (Maps.keyOf_int_mk Tryz.underlying5 (by decide)) _ [] rfl ?_)
 intro v2 hmap2 hgm
 have hB2 := hB.grown hgm hB.size (fun g hg => by injection hg with hg; omega)
 clear hmap hgm hB
 have hmap := hmap2
 have hB := hB2
 clear hmap2 hB2
 generalize v2 = v1 at *
 go_wp2_with (with_reducible refine h_M ?_)
 refine unhold (wpList_insert_own (H := Value) _ rfl _ _ _ 195 rfl 5 197 u8_keyedM Tryz.underlying195 rawV _ _ _ rfl hmap (by simp [maxLen]) _ _ (.int .u8 119) rfl rfl (Maps.keyOf_int_mk Tryz.underlying5 (by decide)) _ [] rfl ?_)
 intro v2 hmap2 hgm
 have hB2 := hB.grown hgm hB.size (fun g hg => by injection hg with hg; omega)
 clear hmap hgm hB
 have hmap := hmap2
 have hB := hB2
 clear hmap2 hB2
 generalize v2 = v1 at *
 go_wp2_with (with_reducible refine h_M ?_)
 refine unhold (wpList_insert_own (H := Value) _ rfl _ _ _ 195 rfl 5 197 u8_keyedM Tryz.underlying195 rawV _ _ _ rfl hmap (by simp [maxLen]) _ _ (.int .u8 100) rfl rfl (Maps.keyOf_int_mk Tryz.underlying5 (by decide)) _ [] rfl ?_)
 intro v2 hmap2 hgm
 have hB2 := hB.grown hgm hB.size (fun g hg => by injection hg with hg; omega)
 clear hmap hgm hB
 have hmap := hmap2
 have hB := hB2
 clear hmap2 hB2
 generalize v2 = v1 at *
 go_wp2_with (with_reducible refine h_M ?_)
 refine unhold (wpList_insert_own (H := Value) _ rfl _ _ _ 195 rfl 5 197 u8_keyedM Tryz.underlying195 rawV _ _ _ rfl hmap (by simp [maxLen]) _ _ (.int .u8 115) rfl rfl (Maps.keyOf_int_mk Tryz.underlying5 (by decide)) _ [] rfl ?_)
 intro v2 hmap2 hgm
 have hB2 := hB.grown hgm hB.size (fun g hg => by injection hg with hg; omega)
 clear hmap hgm hB
 have hmap := hmap2
 have hB := hB2
 clear hmap2 hB2
 generalize v2 = v1 at *
 go_wp2_with (with_reducible refine h_M ?_)
 refine unhold (wpList_insert_own (H := Value) _ rfl _ _ _ 195 rfl 5 197 u8_keyedM Tryz.underlying195 rawV _ _ _ rfl hmap (by simp [maxLen]) _ _ (.int .u8 116) rfl rfl (Maps.keyOf_int_mk Tryz.underlying5 (by decide)) _ [] rfl ?_)
 intro v2 hmap2 hgm
 have hB2 := hB.grown hgm hB.size (fun g hg => by injection hg with hg; omega)
 clear hmap hgm hB
 have hmap := hmap2
 have hB := hB2
 clear hmap2 hB2
 generalize v2 = v1 at *
 go_wp2_with (with_reducible refine h_M ?_)
 refine unhold (wpList_insert_own (H := Value) _ rfl _ _ _ 195 rfl 5 197 u8_keyedM Tryz.underlying195 rawV _ _ _ rfl hmap (by simp [maxLen]) _ _ (.int .u8 120) rfl rfl (Maps.keyOf_int_mk Tryz.underlying5 (by decide)) _ [] rfl ?_)
 intro v2 hmap2 hgm
 have hB2 := hB.grown hgm hB.size (fun g hg => by injection hg with hg; omega)
 clear hmap hgm hB
 have hmap := hmap2
 have hB := hB2
 clear hmap2 hB2
 generalize v2 = v1 at *
 go_wp2_with (with_reducible refine h_M ?_)
 refine unhold (wpList_insert_own (H := Value) _ rfl _ _ _ 195 rfl 5 197 u8_keyedM Tryz.underlying195 rawV _ _ _ rfl hmap (by simp [maxLen]) _ _ (.int .u8 114) rfl rfl (Maps.keyOf_int_mk Tryz.underlying5 (by decide)) _ [] rfl ?_)
 intro v2 hmap2 hgm
 have hB2 := hB.grown hgm hB.size (fun g hg => by injection hg with hg; omega)
 clear hmap hgm hB
 have hmap := hmap2
 have hB := hB2
 clear hmap2 hB2
 generalize v2 = v1 at *
 go_wp2_with (with_reducible refine h_M ?_)
 refine unhold (wpList_insert_own (H := Value) _ rfl _ _ _ 195 rfl 5 197 u8_keyedM Tryz.underlying195 rawV _ _ _ rfl hmap (by simp [maxLen]) _ _ (.int .u8 118) rfl rfl (Maps.keyOf_int_mk Tryz.underlying5 (by decide)) _ [] rfl ?_)
 intro v2 hmap2 hgm
 have hB2 := hB.grown hgm hB.size (fun g hg => by injection hg with hg; omega)
 clear hmap hgm hB
 have hmap := hmap2
 have hB := hB2
 clear hmap2 hB2
 generalize v2 = v1 at *
 go_wp2_with (with_reducible refine h_M ?_)
 go_ret
 refine ⟨mb, rfl, hB, hmw, ?_, fun W hW kd hk => ?_⟩
 ·obtain ⟨es, clock, hb, _⟩ := hmap
  exact (Array.getElem?_eq_some_iff.1 hb).1
 obtain ⟨es, clock, hb, F, hx, hy⟩ := hmap
 have hmapW : W.ownsMap Tryz.prog 5 rawV mb _ _ := ⟨es, clock, hW.trans hb, F, hx, hy⟩
 unfold kindL at hk
 simp only [List.mem_cons, List.not_mem_nil, or_false] at hk
 rcases hk with rfl | rfl | rfl | rfl | rfl | rfl | rfl | rfl | rfl
 ·obtain ⟨v, ps, hrun, hv⟩ := hmapW.lookup (t := 195) u8_keyedM Tryz.underlying195 (z := .nilFunc) (by kernel_rfl) (zd := .held .nilFunc) (zp := []) rfl (key := .int .u8 98) (kl := .int .u8 98) (Maps.keyOf_int_mk Tryz.underlying5 (by decide))
  have h2 := congrArg Prod.fst (Option.some.inj hv)
  have h3 : DataW.held v = DataW.held (.func (.func 127) #[] #[]) := h2.trans (by kernel_rfl)
  have h4 : v = .func (.func 127) #[] #[] := by injection h3
  rw [h4] at hrun
  exact hrun
 ·obtain ⟨v, ps, hrun, hv⟩ := hmapW.lookup (t := 195) u8_keyedM Tryz.underlying195 (z := .nilFunc) (by kernel_rfl) (zd := .held .nilFunc) (zp := []) rfl (key := .int .u8 110) (kl := .int .u8 110) (Maps.keyOf_int_mk Tryz.underlying5 (by decide))
  have h2 := congrArg Prod.fst (Option.some.inj hv)
  have h3 : DataW.held v = DataW.held (.func (.func 128) #[] #[]) := h2.trans (by kernel_rfl)
  have h4 : v = .func (.func 128) #[] #[] := by injection h3
  rw [h4] at hrun
  exact hrun
 ·obtain ⟨v, ps, hrun, hv⟩ := hmapW.lookup (t := 195) u8_keyedM Tryz.underlying195 (z := .nilFunc) (by kernel_rfl) (zd := .held .nilFunc) (zp := []) rfl (key := .int .u8 119) (kl := .int .u8 119) (Maps.keyOf_int_mk Tryz.underlying5 (by decide))
  have h2 := congrArg Prod.fst (Option.some.inj hv)
  have h3 : DataW.held v = DataW.held (.func (.func 129) #[] #[]) := h2.trans (by kernel_rfl)
  have h4 : v = .func (.func 129) #[] #[] := by injection h3
  rw [h4] at hrun
  exact hrun
 ·obtain ⟨v, ps, hrun, hv⟩ := hmapW.lookup (t := 195) u8_keyedM Tryz.underlying195 (z := .nilFunc) (by kernel_rfl) (zd := .held .nilFunc) (zp := []) rfl (key := .int .u8 100) (kl := .int .u8 100) (Maps.keyOf_int_mk Tryz.underlying5 (by decide))
  have h2 := congrArg Prod.fst (Option.some.inj hv)
  have h3 : DataW.held v = DataW.held (.func (.func 130) #[] #[]) := h2.trans (by kernel_rfl)
  have h4 : v = .func (.func 130) #[] #[] := by injection h3
  rw [h4] at hrun
  exact hrun
 ·obtain ⟨v, ps, hrun, hv⟩ := hmapW.lookup (t := 195) u8_keyedM Tryz.underlying195 (z := .nilFunc) (by kernel_rfl) (zd := .held .nilFunc) (zp := []) rfl (key := .int .u8 115) (kl := .int .u8 115) (Maps.keyOf_int_mk Tryz.underlying5 (by decide))
  have h2 := congrArg Prod.fst (Option.some.inj hv)
  have h3 : DataW.held v = DataW.held (.func (.func 131) #[] #[]) := h2.trans (by kernel_rfl)
  have h4 : v = .func (.func 131) #[] #[] := by injection h3
  rw [h4] at hrun
  exact hrun
 ·obtain ⟨v, ps, hrun, hv⟩ := hmapW.lookup (t := 195) u8_keyedM Tryz.underlying195 (z := .nilFunc) (by kernel_rfl) (zd := .held .nilFunc) (zp := []) rfl (key := .int .u8 116) (kl := .int .u8 116) (Maps.keyOf_int_mk Tryz.underlying5 (by decide))
  have h2 := congrArg Prod.fst (Option.some.inj hv)
  have h3 : DataW.held v = DataW.held (.func (.func 132) #[] #[]) := h2.trans (by kernel_rfl)
  have h4 : v = .func (.func 132) #[] #[] := by injection h3
  rw [h4] at hrun
  exact hrun
 ·obtain ⟨v, ps, hrun, hv⟩ := hmapW.lookup (t := 195) u8_keyedM Tryz.underlying195 (z := .nilFunc) (by kernel_rfl) (zd := .held .nilFunc) (zp := []) rfl (key := .int .u8 120) (kl := .int .u8 120) (Maps.keyOf_int_mk Tryz.underlying5 (by decide))
  have h2 := congrArg Prod.fst (Option.some.inj hv)
  have h3 : DataW.held v = DataW.held (.func (.func 133) #[] #[]) := h2.trans (by kernel_rfl)
  have h4 : v = .func (.func 133) #[] #[] := by injection h3
  rw [h4] at hrun
  exact hrun
 ·obtain ⟨v, ps, hrun, hv⟩ := hmapW.lookup (t := 195) u8_keyedM Tryz.underlying195 (z := .nilFunc) (by kernel_rfl) (zd := .held .nilFunc) (zp := []) rfl (key := .int .u8 114) (kl := .int .u8 114) (Maps.keyOf_int_mk Tryz.underlying5 (by decide))
  have h2 := congrArg Prod.fst (Option.some.inj hv)
  have h3 : DataW.held v = DataW.held (.func (.func 134) #[] #[]) := h2.trans (by kernel_rfl)
  have h4 : v = .func (.func 134) #[] #[] := by injection h3
  rw [h4] at hrun
  exact hrun
 ·obtain ⟨v, ps, hrun, hv⟩ := hmapW.lookup (t := 195) u8_keyedM Tryz.underlying195 (z := .nilFunc) (by kernel_rfl) (zd := .held .nilFunc) (zp := []) rfl (key := .int .u8 118) (kl := .int .u8 118) (Maps.keyOf_int_mk Tryz.underlying5 (by decide))
  have h2 := congrArg Prod.fst (Option.some.inj hv)
  have h3 : DataW.held v = DataW.held (.func (.func 135) #[] #[]) := h2.trans (by kernel_rfl)
  have h4 : v = .func (.func 135) #[] #[] := by injection h3
  rw [h4] at hrun
  exact hrun
end Go.PH
end

/- The walks of slices.Clone at spans, and of the reference's Copy and Same. -/
import Derived.Test.YtjlfjlafpgjhbaaSpMem
import Derived.Test.YtjlfjlafpgjhbaaOctRead
import Derived.Deep.QuietTactic
import Derived.BigQuiet
import Derived.Laws.StructEq
namespace Go.PH
open Go.RowKit Go.Proofs

theorem sclone_any (A : Option Addr) (n c : Nat) (l : List Sp) (w : World) (hb : RdS w w.heap.size A n c l) (hn : n ≤ 1000000000) :
    Calls Try.prog 30 #[.slice A n c] w fun e w' => ∃ A2 c2, e = .returned (.slice A2 n c2) ∧ OwnS w' w.heap.size A2 n c2 l ∧ Below w.heap.size w w' := by
  have hl := hb.length
  have hnil := run_eql_slice_nil (P := Try.prog) w 22 _ A n c Try.underlying22
  rcases A with _ | ad
  · have hn0 : n = 0 := by
      rcases Nat.eq_zero_or_pos n with h0 | h0
      · exact h0
      · obtain ⟨b, off, e, _⟩ := hb.at_ h0; cases e
    subst hn0
    obtain rfl := List.eq_nil_of_length_eq_zero hl
    go_enter Try.func30, Try.ntmps30
    go_wp2_with (first | (with_reducible refine hold_append ?_) | (with_reducible refine hold_make ?_) | (with_reducible refine hold_copy ?_))
    go_ret
    exact ⟨none, 0, rfl, Own.none_ _ _ _ _, Below.refl _ _⟩
  · go_enter Try.func30, Try.ntmps30
    go_wp2_with (first | (with_reducible refine hold_append ?_) | (with_reducible refine hold_make ?_) | (with_reducible refine hold_copy ?_))
    have hlit := own_lit (w := w) w.heap.size #[] 33 0 (Nat.le_refl _) (by simp [maxLen]) rfl (size := 2) (by omega)
    have hB1 : Below w.heap.size w (w.alloc (.cells #[] 33)) := (Below.refl _ _).alloc (Nat.le_refl _) _
    refine unhold (wp_app (base := w.heap.size) slS rfl rfl rfl rfl hlit (hb.below hB1) (spCells_one l) (by omega) (by simp [maxLen]; omega) (by simp) ?_)
    intro A2 c2 w2 ho2 hg2 _
    have hB2 : Below w.heap.size w w2 := hB1.grown hg2 (by simp) (fun g hg => (hlit.blk_lt hg).1)
    simp only [Nat.zero_add, List.nil_append] at ho2
    go_wp2_with (first | (with_reducible refine hold_append ?_) | (with_reducible refine hold_make ?_) | (with_reducible refine hold_copy ?_))
    go_ret
    exact ⟨A2, c2, by first | rfl | simp, ho2, hB2⟩
theorem scopy_any (A : Option Addr) (n c : Nat) (l : List Sp) (w : World) (hb : RdS w w.heap.size A n c l) (hn : n ≤ 1000000000) :
    Calls Try.prog 11 #[.slice A n c] w fun e w' => ∃ A2 c2, e = .returned (.slice A2 n c2) ∧ OwnS w' w.heap.size A2 n c2 l ∧ Below w.heap.size w w' := by
  have hl := hb.length
  go_enter Try.func11, Try.ntmps11
  go_wp2_with (first | (with_reducible refine hold_append ?_) | (with_reducible refine hold_make ?_) | (with_reducible refine hold_copy ?_))
  refine unhold (wp_app (base := w.heap.size) slS rfl rfl rfl rfl (Own.none_ w w.heap.size _ _) hb (spCells_one l) (by omega) (by simp [maxLen]; omega) (Nat.le_refl _) ?_)
  intro A2 c2 w2 ho2 hg2 _
  have hB2 : Below w.heap.size w w2 := (Below.refl _ _).grown hg2 (Nat.le_refl _) (by simp [blk])
  simp only [Nat.zero_add, List.nil_append] at ho2
  go_wp2_with (first | (with_reducible refine hold_append ?_) | (with_reducible refine hold_make ?_) | (with_reducible refine hold_copy ?_))
  go_ret
  exact ⟨A2, c2, by first | rfl | simp, ho2, hB2⟩

theorem span_fields : Try.prog.underlying 33 = some (.struct (Try.prog.fieldsOf 33)) := by kernel_rfl
theorem span_stood : Try.prog.stoodInHeld 33 = false := by kernel_rfl
theorem span_guard : Try.prog.eqGuardType Try.prog.depth 33 = false := by kernel_rfl
theorem span_neq (f t f' t' : Nat) (w : World) : (binOp .neq 33 (.agg #[.int .u32 f, .int .u32 t]) (.agg #[.int .u32 f', .int .u32 t'])).run Try.prog w = .ok (.bool (!decide ((f, t) = (f', t')))) w := by
  rw [run_neq_struct, run_equalIn_struct w 9999 33 _ _ span_fields span_stood]
  simp only [Program.fieldsOf, Try.underlying33]
  have hb : (f, t) = (f', t') ↔ f = f' ∧ t = t' := by simp
  have hd : decide ((f, t) = (f', t')) = (((f : Int) == (f' : Int)) && ((t : Int) == (t' : Int))) := by
    rw [Bool.eq_iff_iff]; simp; omega
  rw [hd]
  cases h1 : ((f : Int) == (f' : Int)) <;> cases h2 : ((t : Int) == (t' : Int)) <;> simp [Op.eqFields, part, run_equalIn_int _ 9998 23 .u32 .u32 _ _ Try.underlying23, h1, h2, beq_iff_eq, Result.andThen, typeInfo, sizeOf]

set_option maxRecDepth 20000 in
theorem ssame_any (A : Option Addr) (n c : Nat) (l : List Sp) (A' : Option Addr) (n' c' : Nat) (l' : List Sp) (B : Nat) (w : World) (hr : RdS w B A n c l) (hr' : RdS w B A' n' c' l') (hB : B ≤ w.heap.size) (hn : n ≤ 140737488355328) (hn' : n' ≤ 140737488355328) :
    Calls Try.prog 15 #[.slice A n c, .slice A' n' c'] w fun e w' => e = .returned (.bool (decide (l = l'))) ∧ Below w.heap.size w w' := by
  have hl := hr.length
  have hl' := hr'.length
  by_cases hnn : n = n'
  · subst hnn
    have h0 : (((n : Nat) : Int) != ((n : Nat) : Int)) = false := by simp
    go_enter Try.func15, Try.ntmps15
    go_wp2_with (first | (with_reducible refine hold_append ?_) | (with_reducible refine hold_make ?_) | (with_reducible refine hold_copy ?_))
    go_loopw [5] (fun s wr => ∃ (k : Nat), k ≤ n ∧ s = .int .i64 k ∧ l.take k = l'.take k ∧ Below w.heap.size w wr) (fun s _ => n - (intOf s).toNat)
    case atStart => exact ⟨0, by omega, rfl, by simp, Below.refl _ _⟩
    case round =>
      obtain ⟨k, hk, rfl, hrk, hBr⟩ := hrel
      by_cases hlt : k < n
      · obtain ⟨b, off, rfl, hbB, hkl, hc0, hc1⟩ := RdS.at_k (hr.below (hBr.mono hB)) hlt
        obtain ⟨b', off', rfl, hbB', hkl', hc0', hc1'⟩ := RdS.at_k (hr'.below (hBr.mono hB)) hlt
        have HT := Lib.hid (List.take_succ_eq_append_getElem hkl)
        have HT' := Lib.hid (List.take_succ_eq_append_getElem hkl')
        have HE : Hid (l = l' → l[k] = l'[k]) := Lib.hid (fun h => by subst h; rfl)
        have HK := Lib.hid hrk
        clear hrk
        generalize l[k] = x at *
        generalize l'[k] = x' at *
        obtain ⟨f, t⟩ := x
        obtain ⟨f', t'⟩ := x'
        have hgd := fun x y => run_eqGuard_agg (P := Try.prog) wr .neq 33 x y #[.int .u32 f, .int .u32 t] #[.int .u32 f', .int .u32 t'] span_guard
        by_cases hxx : (f, t) = (f', t')
        · have hne : ∀ w, (binOp .neq 33 (.agg #[.int .u32 f, .int .u32 t]) (.agg #[.int .u32 f', .int .u32 t'])).run Try.prog w = .ok (.bool false) w := fun w => by rw [span_neq, decide_eq_true hxx]; rfl
          have hy : l.take (k + 1) = l'.take (k + 1) := by rw [HT.out, HT'.out, HK.out, hxx]
          clear hxx
          go_wp2_with (first | (with_reducible refine hold_append ?_) | (with_reducible refine hold_make ?_) | (with_reducible refine hold_copy ?_))
          go_quiet (fail)
          go_wp2_with (first | (with_reducible refine hold_append ?_) | (with_reducible refine hold_make ?_) | (with_reducible refine hold_copy ?_))
          exact ⟨⟨k + 1, by omega, by go_num, hy, below_drewN hBr _⟩, by simp [intOf]; omega⟩
        · have hne : ∀ w, (binOp .neq 33 (.agg #[.int .u32 f, .int .u32 t]) (.agg #[.int .u32 f', .int .u32 t'])).run Try.prog w = .ok (.bool true) w := fun w => by rw [span_neq, decide_eq_false hxx]; rfl
          have hno : decide (l = l') = false := by
            have := HE.out
            simp only [decide_eq_false_iff_not]
            exact fun h => hxx (this h)
          clear hxx
          go_wp2_with (first | (with_reducible refine hold_append ?_) | (with_reducible refine hold_make ?_) | (with_reducible refine hold_copy ?_))
          go_quiet (fail)
          go_wp2_with (first | (with_reducible refine hold_append ?_) | (with_reducible refine hold_make ?_) | (with_reducible refine hold_copy ?_))
          go_ret
          rw [hno]
          exact ⟨rfl, below_drewN hBr _⟩
      · obtain rfl : k = n := by omega
        rw [← hl, List.take_length, hl, ← hl', List.take_length] at hrk
        subst hrk
        go_wp2_with (first | (with_reducible refine hold_append ?_) | (with_reducible refine hold_make ?_) | (with_reducible refine hold_copy ?_))
        go_ret
        exact ⟨by simp, hBr⟩
  · have h0 : (((n : Nat) : Int) != ((n' : Nat) : Int)) = true := by simp; omega
    have hne : decide (l = l') = false := by
      simp; rintro rfl; omega
    go_enter Try.func15, Try.ntmps15
    go_wp2_with (first | (with_reducible refine hold_append ?_) | (with_reducible refine hold_make ?_) | (with_reducible refine hold_copy ?_))
    go_ret
    rw [hne]
    exact ⟨rfl, Below.refl _ _⟩
end Go.PH

/- Texts laid together: OctRead, OctRead2, OctReadText. -/
import Derived.Lib.LazyBuf
import Derived.Laws.BitsAllLaws
import Derived.Laws.Bits64
import Derived.Test.YtidpbbleneekgaaDoorMg01
import Derived.Test.YtidpbbleneekgaaDoorMg02
section
/- The walks of octet's reader and of its reference's. -/
set_option linter.all false
set_option linter.unusedSimpArgs false
set_option linter.unusedVariables false
namespace Go.PH
open Go.RowKit Go.Proofs

theorem grownOf {w w' : World} (h : Below w.heap.size w w') (row : Option Nat) : w.grownBy w' row := ⟨h.os, h.tape, h.output, h.size, fun k hk _ => h.block k hk⟩
theorem grownDrew (w : World) (row : Option Nat) : w.grownBy w.drew row := ⟨rfl, rfl, rfl, Nat.le_refl _, fun _ _ _ => rfl⟩
theorem grownSet (w : World) (a : Addr) (u : Value) : w.grownBy (w.setCell a u) (some a.block) :=
  ⟨rfl, rfl, rfl, by simp, fun k _ hk => Below.heap_setCell _ _ _ k (fun e => hk (by rw [e]))⟩

/-- bytes.Clone: nil stays nil -/
theorem clone_any (A : Option Addr) (n c : Nat) (l : List UInt8) (w : World) (hb : RdB w w.heap.size A n c l) (hn : n ≤ 140737488351240) :
    Calls Tryd.prog 42 #[.slice A n c] w fun e w' => ∃ A2 c2, e = .returned (.slice A2 n c2) ∧ Own w' w.heap.size 5 1 A2 n c2 (l.map u8v) ∧ Below w.heap.size w w' := by
  have hl := hb.length
  have hnil := run_eql_slice_nil (P := Tryd.prog) w 25 _ A n c Tryd.underlying25
  rcases A with _ | ad
  · have hn0 : n = 0 := by
      rcases Nat.eq_zero_or_pos n with h0 | h0
      · exact h0
      · obtain ⟨b, off, e, _⟩ := hb.at_ h0; cases e
    subst hn0
    obtain rfl := List.eq_nil_of_length_eq_zero hl
    go_enter Tryd.func42, Tryd.ntmps42
    go_wp2_with (first | (with_reducible refine hold_append ?_) | (with_reducible refine hold_make ?_) | (with_reducible refine hold_copy ?_))
    go_ret
    exact ⟨none, 0, rfl, Own.none_ _ _ _ _, Below.refl _ _⟩
  · go_enter Tryd.func42, Tryd.ntmps42
    go_wp2_with (first | (with_reducible refine hold_append ?_) | (with_reducible refine hold_make ?_) | (with_reducible refine hold_copy ?_))
    have hlit := own_lit (w := w) w.heap.size #[] 5 0 (Nat.le_refl _) (by simp [maxLen]) rfl (size := 1) (by omega)
    have hB1 : Below w.heap.size w (w.alloc (.cells #[] 5)) := (Below.refl _ _).alloc (Nat.le_refl _) _
    refine unhold (wp_app (base := w.heap.size) slB rfl rfl rfl rfl hlit (hb.below hB1) (map_one l) (by omega) (by simp [maxLen]; omega) (by simp) ?_)
    intro A2 c2 w2 ho2 hg2 _
    have hB2 : Below w.heap.size w w2 := hB1.grown hg2 (by simp) (fun g hg => (hlit.blk_lt hg).1)
    simp only [Nat.zero_add, List.nil_append] at ho2
    go_wp2_with (first | (with_reducible refine hold_append ?_) | (with_reducible refine hold_make ?_) | (with_reducible refine hold_copy ?_))
    go_ret
    exact ⟨A2, c2, by first | rfl | simp, ho2, hB2⟩

/-- a reader: none, one without a view, one with its view in block b -/
def Rdr (F : Nat → Prop) (w : World) (v : Value) (vb : Option Nat) (l : List UInt8) (bad : Bool) : Prop :=
  (v = .pointer none ∧ vb = none ∧ l = [] ∧ bad = true) ∨
  (∃ rb, v = .pointer (some ⟨rb, 0, none⟩) ∧ vb = none ∧ l = [] ∧ bad = true ∧ w.cell? ⟨rb, 0, none⟩ = some (.pointer none) ∧ F rb) ∨
  (∃ rb b A n c, v = .pointer (some ⟨rb, 0, none⟩) ∧ vb = some b ∧ rb ≠ b ∧ w.cell? ⟨rb, 0, none⟩ = some (.pointer (some ⟨b, 0, none⟩)) ∧ w.cell? ⟨b, 0, none⟩ = some (.slice A n c) ∧
    w.cell? ⟨b, 1, none⟩ = some (.bool true) ∧ w.cell? ⟨b, 2, none⟩ = some (.bool bad) ∧ w.frozen? ⟨b, 0, none⟩ = false ∧ w.frozen? ⟨b, 2, none⟩ = false ∧ RdB w w.heap.size A n c l ∧ blk A ≠ some b ∧ n ≤ 140737488351240 ∧ F rb ∧ F b ∧ ∀ g, blk A = some g → F g)

theorem vbad_none (w : World) : Calls Tryd.prog 45 #[.pointer none] w fun e w' => e = .returned (.bool true) ∧ w' = w := by
  go_enter Tryd.func45, Tryd.ntmps45
  go_wp2_with (first | (with_reducible refine hold_append ?_) | (with_reducible refine hold_make ?_) | (with_reducible refine hold_copy ?_))
  go_ret
  exact ⟨rfl, rfl⟩
theorem vbad_some (w : World) (b : Nat) (bad : Bool) (h1 : w.cell? ⟨b, 1, none⟩ = some (.bool true)) (h2 : w.cell? ⟨b, 2, none⟩ = some (.bool bad)) :
    Calls Tryd.prog 45 #[.pointer (some ⟨b, 0, none⟩)] w fun e w' => e = .returned (.bool bad) ∧ w' = w := by
  cases bad
  all_goals
    go_enter Tryd.func45, Tryd.ntmps45
    go_wp2_with (first | (with_reducible refine hold_append ?_) | (with_reducible refine hold_make ?_) | (with_reducible refine hold_copy ?_))
    go_ret
    exact ⟨rfl, rfl⟩
theorem vleft_none (w : World) : Calls Tryd.prog 81 #[.pointer none] w fun e w' => e = .returned (.int .i64 0) ∧ w' = w := by
  go_enter Tryd.func81, Tryd.ntmps81
  go_wp2_with (first | (with_reducible refine hold_append ?_) | (with_reducible refine hold_make ?_) | (with_reducible refine hold_copy ?_))
  go_ret
  exact ⟨rfl, rfl⟩
theorem vleft_some (w : World) (b : Nat) {A : Option Addr} {n c : Nat} (h0 : w.cell? ⟨b, 0, none⟩ = some (.slice A n c)) :
    Calls Tryd.prog 81 #[.pointer (some ⟨b, 0, none⟩)] w fun e w' => e = .returned (.int .i64 n) ∧ w' = w := by
  go_enter Tryd.func81, Tryd.ntmps81
  go_wp2_with (first | (with_reducible refine hold_append ?_) | (with_reducible refine hold_make ?_) | (with_reducible refine hold_copy ?_))
  go_ret
  exact ⟨rfl, rfl⟩

theorem Rdr.kept {F : Nat → Prop} {w w' : World} {v : Value} {vb : Option Nat} {l : List UInt8} {bad : Bool} {row : Option Nat} (h : Rdr F w v vb l bad) (hg : w.grownBy w' row) (hne : ∀ g, row = some g → ¬ F g) : Rdr F w' v vb l bad := by
  rcases h with h | ⟨rb, h1, h2, h3, h4, h5, hF⟩ | ⟨rb, b, A, n, c, h1, h2, h3, h4, h5, h6, h7, h8, h9, hr, h10, h11, hF1, hF2, hF3⟩
  · exact .inl h
  · exact .inr (.inl ⟨rb, h1, h2, h3, h4, hg.cell h5 (fun e => hne _ e.symm hF), hF⟩)
  · have hb : b < w.heap.size := World.block_lt_of_cell? w _ h5
    refine .inr (.inr ⟨rb, b, A, n, c, h1, h2, h3, hg.cell h4 (fun e => hne _ e.symm hF1), hg.cell h5 (fun e => hne _ e.symm hF2), hg.cell h6 (fun e => hne _ e.symm hF2), hg.cell h7 (fun e => hne _ e.symm hF2),
      (hg.frozen_far ⟨b, 0, none⟩ hb (fun e => hne _ e.symm hF2)).trans h8, (hg.frozen_far ⟨b, 2, none⟩ hb (fun e => hne _ e.symm hF2)).trans h9, (hr.grown_ne hg (Nat.le_refl _) ?_).more hg.size, h10, h11, hF1, hF2, hF3⟩)
    rcases hA : blk A with _ | g
    · exact .inl rfl
    · exact .inr fun e => hne g e.symm (hF3 g hA)
theorem Rdr.below {F : Nat → Prop} {w w' : World} {v : Value} {vb : Option Nat} {l : List UInt8} {bad : Bool} (h : Rdr F w v vb l bad) (hB : Below w.heap.size w w') : Rdr F w' v vb l bad := h.kept (grownOf hB none) (by simp)
theorem Rdr.drew {F : Nat → Prop} {w : World} {v : Value} {vb : Option Nat} {l : List UInt8} {bad : Bool} (h : Rdr F w v vb l bad) : Rdr F w.drew v vb l bad := h.kept (grownDrew w none) (by simp)
theorem Rdr.inF {F : Nat → Prop} {w : World} {v : Value} {vb : Option Nat} {l : List UInt8} {bad : Bool} (h : Rdr F w v vb l bad) {g : Nat} (hg : vb = some g) : F g := by
  rcases h with ⟨_, rfl, _⟩ | ⟨_, _, rfl, _⟩ | ⟨rb, b, A, n, c, _, rfl, _, _, _, _, _, _, _, _, _, _, _, hF, _⟩
  · cases hg
  · cases hg
  · cases hg; exact hF
theorem Rdr.len {F : Nat → Prop} {w : World} {v : Value} {vb : Option Nat} {l : List UInt8} {bad : Bool} (h : Rdr F w v vb l bad) : l.length ≤ 140737488351240 := by
  rcases h with ⟨_, _, rfl, _⟩ | ⟨_, _, _, rfl, _⟩ | ⟨rb, b, A, n, c, _, _, _, _, _, _, _, _, _, hr, _, hn, _⟩
  · simp
  · simp
  · rw [hr.length]; exact hn
theorem rdbad_any {F : Nat → Prop} {w : World} {v : Value} {vb : Option Nat} {l : List UInt8} {bad : Bool} (h : Rdr F w v vb l bad) :
    Calls Tryd.prog 24 #[v] w fun e w' => e = .returned (.bool bad) ∧ w' = w := by
  rcases h with ⟨rfl, rfl, rfl, rfl⟩ | ⟨rb, rfl, rfl, rfl, rfl, hc, hF⟩ | ⟨rb, b, A, n, c, rfl, rfl, hne, hc, h0, h1, h2, _⟩
  · go_enter Tryd.func24, Tryd.ntmps24
    go_wp2_with (first | (with_reducible refine hold_append ?_) | (with_reducible refine hold_make ?_) | (with_reducible refine hold_copy ?_))
    go_ret
    exact ⟨rfl, rfl⟩
  · go_enter Tryd.func24, Tryd.ntmps24
    go_wp2_with (first | (with_reducible refine hold_append ?_) | (with_reducible refine hold_make ?_) | (with_reducible refine hold_copy ?_))
    refine (vbad_none w).mono ?_
    rintro e w' ⟨rfl, rfl⟩
    go_wp2_with (first | (with_reducible refine hold_append ?_) | (with_reducible refine hold_make ?_) | (with_reducible refine hold_copy ?_))
    go_ret
    exact ⟨rfl, rfl⟩
  · go_enter Tryd.func24, Tryd.ntmps24
    go_wp2_with (first | (with_reducible refine hold_append ?_) | (with_reducible refine hold_make ?_) | (with_reducible refine hold_copy ?_))
    refine (vbad_some w b bad h1 h2).mono ?_
    rintro e w' ⟨rfl, rfl⟩
    go_wp2_with (first | (with_reducible refine hold_append ?_) | (with_reducible refine hold_make ?_) | (with_reducible refine hold_copy ?_))
    go_ret
    exact ⟨rfl, rfl⟩
theorem rdleft_any {F : Nat → Prop} {w : World} {v : Value} {vb : Option Nat} {l : List UInt8} {bad : Bool} (h : Rdr F w v vb l bad) :
    Calls Tryd.prog 63 #[v] w fun e w' => e = .returned (.int .i64 l.length) ∧ w' = w := by
  rcases h with ⟨rfl, rfl, rfl, rfl⟩ | ⟨rb, rfl, rfl, rfl, rfl, hc, hF⟩ | ⟨rb, b, A, n, c, rfl, rfl, hne, hc, h0, h1, h2, _, _, hr, _⟩
  · go_enter Tryd.func63, Tryd.ntmps63
    go_wp2_with (first | (with_reducible refine hold_append ?_) | (with_reducible refine hold_make ?_) | (with_reducible refine hold_copy ?_))
    go_ret
    exact ⟨rfl, rfl⟩
  · go_enter Tryd.func63, Tryd.ntmps63
    go_wp2_with (first | (with_reducible refine hold_append ?_) | (with_reducible refine hold_make ?_) | (with_reducible refine hold_copy ?_))
    refine (vleft_none w).mono ?_
    rintro e w' ⟨rfl, rfl⟩
    go_wp2_with (first | (with_reducible refine hold_append ?_) | (with_reducible refine hold_make ?_) | (with_reducible refine hold_copy ?_))
    go_ret
    exact ⟨rfl, rfl⟩
  · have hl := hr.length
    go_enter Tryd.func63, Tryd.ntmps63
    go_wp2_with (first | (with_reducible refine hold_append ?_) | (with_reducible refine hold_make ?_) | (with_reducible refine hold_copy ?_))
    refine (vleft_some w b h0).mono ?_
    rintro e w' ⟨rfl, rfl⟩
    go_wp2_with (first | (with_reducible refine hold_append ?_) | (with_reducible refine hold_make ?_) | (with_reducible refine hold_copy ?_))
    go_ret
    rw [hl]
    exact ⟨rfl, rfl⟩
theorem rdspoil_any {F : Nat → Prop} {w : World} {v : Value} {vb : Option Nat} {l : List UInt8} {bad : Bool} (h : Rdr F w v vb l bad) :
    Calls Tryd.prog 43 #[v] w fun e w' => e = .returned (.tuple #[]) ∧ Rdr F w' v vb [] true ∧ w.grownBy w' vb := by
  rcases h with ⟨rfl, rfl, rfl, rfl⟩ | ⟨rb, rfl, rfl, rfl, rfl, hc, hF⟩ | ⟨rb, b, A, n, c, rfl, rfl, hne, hc, h0, h1, h2, hf0, hf2, hr, hA, hn, hF⟩
  · go_enter Tryd.func43, Tryd.ntmps43
    go_wp2_with (first | (with_reducible refine hold_append ?_) | (with_reducible refine hold_make ?_) | (with_reducible refine hold_copy ?_))
    go_end0
    exact ⟨rfl, .inl ⟨rfl, rfl, rfl, rfl⟩, World.grownBy.refl _ _⟩
  · go_enter Tryd.func43, Tryd.ntmps43
    go_wp2_with (first | (with_reducible refine hold_append ?_) | (with_reducible refine hold_make ?_) | (with_reducible refine hold_copy ?_))
    go_end0
    exact ⟨rfl, .inr (.inl ⟨rb, rfl, rfl, rfl, rfl, hc, hF⟩), World.grownBy.refl _ _⟩
  · go_enter Tryd.func43, Tryd.ntmps43
    go_wp2_with (first | (with_reducible refine hold_append ?_) | (with_reducible refine hold_make ?_) | (with_reducible refine hold_copy ?_))
    have hS : w.drew.cell? ⟨rb, 0, none⟩ = some (.pointer (some ⟨b, 0, none⟩)) := hc
    have hf0' : w.drew.frozen? ⟨b, 0, none⟩ = false := hf0
    have h0' : w.drew.cell? ⟨b, 0, none⟩ = some (.slice A n c) := h0
    refine rg_start (fun wx => wx.cell? ⟨rb, 0, none⟩ = some (.pointer (some ⟨b, 0, none⟩))) (by kernel_rfl) ?_
    refine rg_take 0 (v := ?_) rfl (by kernel_rfl) (by kernel_rfl) (by kernel_rfl) hS rfl ?_ ?_
    rotate_left
    · intro wS hSw; go_simp; (with_reducible rfl)
    simp only [List.getElem_toArray, List.getElem_cons_zero, Act.put, List.setIfInBounds_toArray, List.set_cons_zero, List.set_cons_succ]
    refine rg_take 1 (v := ?_) rfl (by kernel_rfl) (by kernel_rfl) (by kernel_rfl) hS rfl ?_ ?_
    rotate_left
    · intro wS hSw; go_simp; (with_reducible rfl)
    simp only [List.getElem_toArray, List.getElem_cons_succ, List.getElem_cons_zero, Act.put, List.setIfInBounds_toArray, List.set_cons_zero, List.set_cons_succ]
    refine rg_take 2 (v := ?_) rfl (by kernel_rfl) (by kernel_rfl) (by kernel_rfl) hS rfl ?_ ?_
    rotate_left
    · intro wS hSw; go_simp; (with_reducible rfl)
    simp only [List.getElem_toArray, List.getElem_cons_succ, List.getElem_cons_zero, Act.put, List.setIfInBounds_toArray, List.set_cons_zero, List.set_cons_succ]
    refine rg_take 3 (v := ?_) rfl (by kernel_rfl) (by kernel_rfl) (by kernel_rfl) hS rfl ?_ ?_
    rotate_left
    · intro wS hSw; go_simp; (with_reducible rfl)
    simp only [List.getElem_toArray, List.getElem_cons_succ, List.getElem_cons_zero, Act.put, List.setIfInBounds_toArray, List.set_cons_zero, List.set_cons_succ]
    refine rg_take 4 (v := ?_) rfl (by kernel_rfl) (by kernel_rfl) (by kernel_rfl) hS rfl ?_ ?_
    rotate_left
    · intro wS hSw; go_simp; (with_reducible rfl)
    simp only [List.getElem_toArray, List.getElem_cons_succ, List.getElem_cons_zero, Act.put, List.setIfInBounds_toArray, List.set_cons_zero, List.set_cons_succ]
    refine rg_take 5 (v := ?_) rfl (by kernel_rfl) (by kernel_rfl) (by kernel_rfl) hS rfl ?_ ?_
    rotate_left
    · intro wS hSw; go_simp; (with_reducible rfl)
    simp only [List.getElem_toArray, List.getElem_cons_succ, List.getElem_cons_zero, Act.put, List.setIfInBounds_toArray, List.set_cons_zero, List.set_cons_succ]
    refine rg_take 6 (v := ?_) rfl (by kernel_rfl) (by kernel_rfl) (by kernel_rfl) hS rfl ?_ ?_
    rotate_left
    · intro wS hSw; go_simp; (with_reducible rfl)
    simp only [List.getElem_toArray, List.getElem_cons_succ, List.getElem_cons_zero, Act.put, List.setIfInBounds_toArray, List.set_cons_zero, List.set_cons_succ]
    refine rg_take 7 (v := ?_) rfl (by kernel_rfl) (by kernel_rfl) (by kernel_rfl) hS rfl ?_ ?_
    rotate_left
    · intro wS hSw; go_simp; (with_reducible rfl)
    simp only [List.getElem_toArray, List.getElem_cons_succ, List.getElem_cons_zero, Act.put, List.setIfInBounds_toArray, List.set_cons_zero, List.set_cons_succ]
    refine rg_take 8 (v := ?_) rfl (by kernel_rfl) (by kernel_rfl) (by kernel_rfl) hS rfl ?_ ?_
    rotate_left
    · intro wS hSw; go_simp; (with_reducible rfl)
    simp only [List.getElem_toArray, List.getElem_cons_succ, List.getElem_cons_zero, Act.put, List.setIfInBounds_toArray, List.set_cons_zero, List.set_cons_succ]
    refine rg_take 9 (v := ?_) rfl (by kernel_rfl) (by kernel_rfl) (by kernel_rfl) hS rfl ?_ ?_
    rotate_left
    · intro wS hSw; go_simp; (with_reducible rfl)
    simp only [List.getElem_toArray, List.getElem_cons_succ, List.getElem_cons_zero, Act.put, List.setIfInBounds_toArray, List.set_cons_zero, List.set_cons_succ]
    refine rg_one 10 rfl (by kernel_rfl) rfl (fun K hK => ?_)
    go_simp
    have hS1 : (w.drew.setCell ⟨b, 0, none⟩ (.slice none 0 0)).cell? ⟨rb, 0, none⟩ = some (.pointer (some ⟨b, 0, none⟩)) := (World.cell?_setCell_far _ _ _ _ (fun e => hne e.symm)).trans hS
    have hf2' : (w.drew.setCell ⟨b, 0, none⟩ (.slice none 0 0)).frozen? ⟨b, 2, none⟩ = false := by simp [hf2]
    refine hK _ _ hS1 ?_; clear hK K
    refine rg_take 11 (v := ?_) rfl (by kernel_rfl) (by kernel_rfl) (by kernel_rfl) hS1 rfl ?_ ?_
    rotate_left
    · intro wS hSw; go_simp; (with_reducible rfl)
    simp only [List.getElem_toArray, List.getElem_cons_succ, List.getElem_cons_zero, Act.put, List.setIfInBounds_toArray, List.set_cons_zero, List.set_cons_succ]
    refine rg_take 12 (v := ?_) rfl (by kernel_rfl) (by kernel_rfl) (by kernel_rfl) hS1 rfl ?_ ?_
    rotate_left
    · intro wS hSw; go_simp; (with_reducible rfl)
    simp only [List.getElem_toArray, List.getElem_cons_succ, List.getElem_cons_zero, Act.put, List.setIfInBounds_toArray, List.set_cons_zero, List.set_cons_succ]
    refine rg_one 13 rfl (by kernel_rfl) rfl (fun K hK => ?_)
    go_simp
    refine hK _ _ ((World.cell?_setCell_far _ _ _ _ (fun e => hne e.symm)).trans hS1) ?_
    clear hK K
    refine rg_end (by kernel_rfl) ?_
    go_end0
    refine ⟨rfl, .inr (.inr ⟨rb, b, none, 0, 0, rfl, rfl, hne, ?_, ?_, ?_, ?_, ?_, ?_, Rd.nil _ _ _ _ (by simp [maxLen]) _, by simp [blk], by omega, hF.1, hF.2.1, by simp [blk]⟩), ?_⟩
    · exact (World.cell?_setCell_far _ _ _ _ (fun e => hne e.symm)).trans hS1
    · change World.cell? ((w.setCell ⟨b, 0, none⟩ (.slice none 0 0)).setCell ⟨b, 2, none⟩ (.bool true)) _ = _
      rw [World.cell?_setCell_other _ _ _ _ (by simp)]
      exact World.cell?_setCell_same _ _ _ h0
    · change World.cell? ((w.setCell ⟨b, 0, none⟩ (.slice none 0 0)).setCell ⟨b, 2, none⟩ (.bool true)) _ = _
      rw [World.cell?_setCell_other _ _ _ _ (by simp), World.cell?_setCell_other _ _ _ _ (by simp)]
      exact h1
    · change World.cell? ((w.setCell ⟨b, 0, none⟩ (.slice none 0 0)).setCell ⟨b, 2, none⟩ (.bool true)) _ = _
      refine World.cell?_setCell_same _ _ _ (u := .bool bad) ?_
      rw [World.cell?_setCell_other _ _ _ _ (by simp)]
      exact h2
    · simp [hf0]
    · simp [hf2]
    · exact ((grownSet w ⟨b, 0, none⟩ (.slice none 0 0)).trans (grownSet _ ⟨b, 2, none⟩ (.bool true))).trans ⟨rfl, rfl, rfl, Nat.le_refl _, fun _ _ _ => rfl⟩

set_option maxHeartbeats 1000000 in
theorem rdtake_any {F : Nat → Prop} {w : World} {v : Value} {vb : Option Nat} {l : List UInt8} {bad : Bool} (h : Rdr F w v vb l bad) (x : Int) (hx : -9223372036854775808 ≤ x) (hx' : x ≤ 9223372036854775807) :
    Calls Tryd.prog 44 #[v, .int .i64 x] w fun e w' => ∃ A2 c2, e = .returned (.slice A2 (mtake l bad x).1.length c2) ∧ Own w' w.heap.size 5 1 A2 (mtake l bad x).1.length c2 ((mtake l bad x).1.map u8v) ∧
      Rdr F w' v vb (mtake l bad x).2.1 (mtake l bad x).2.2 ∧ w.grownBy w' vb := by
  by_cases hbad : bad = true
  · subst hbad
    rw [mtake_no (.inl rfl)]
    go_enter Tryd.func44, Tryd.ntmps44
    go_wp2_with (first | (with_reducible refine hold_append ?_) | (with_reducible refine hold_make ?_) | (with_reducible refine hold_copy ?_))
    refine (rdbad_any h).mono ?_
    rintro e w' ⟨rfl, rfl⟩
    go_wp2_with (first | (with_reducible refine hold_append ?_) | (with_reducible refine hold_make ?_) | (with_reducible refine hold_copy ?_))
    refine (rdspoil_any h).mono ?_
    rintro e w1 ⟨rfl, h1, hg1⟩
    go_wp2_with (first | (with_reducible refine hold_append ?_) | (with_reducible refine hold_make ?_) | (with_reducible refine hold_copy ?_))
    go_ret
    exact ⟨none, 0, rfl, Own.none_ _ _ _ _, h1, hg1⟩
  obtain rfl : bad = false := by simpa using hbad
  by_cases hneg : x < 0
  · rw [mtake_no (.inr (.inl hneg))]
    go_enter Tryd.func44, Tryd.ntmps44
    go_wp2_with (first | (with_reducible refine hold_append ?_) | (with_reducible refine hold_make ?_) | (with_reducible refine hold_copy ?_))
    refine (rdbad_any h).mono ?_
    rintro e w' ⟨rfl, rfl⟩
    go_wp2_with (first | (with_reducible refine hold_append ?_) | (with_reducible refine hold_make ?_) | (with_reducible refine hold_copy ?_))
    refine (rdspoil_any h).mono ?_
    rintro e w1 ⟨rfl, h1, hg1⟩
    go_wp2_with (first | (with_reducible refine hold_append ?_) | (with_reducible refine hold_make ?_) | (with_reducible refine hold_copy ?_))
    go_ret
    exact ⟨none, 0, rfl, Own.none_ _ _ _ _, h1, hg1⟩
  by_cases hlen : (l.length : Int) < x
  · rw [mtake_no (.inr (.inr hlen))]
    go_enter Tryd.func44, Tryd.ntmps44
    go_wp2_with (first | (with_reducible refine hold_append ?_) | (with_reducible refine hold_make ?_) | (with_reducible refine hold_copy ?_))
    refine (rdbad_any h).mono ?_
    rintro e w' ⟨rfl, rfl⟩
    go_wp2_with (first | (with_reducible refine hold_append ?_) | (with_reducible refine hold_make ?_) | (with_reducible refine hold_copy ?_))
    refine (rdleft_any h).mono ?_
    rintro e w' ⟨rfl, rfl⟩
    go_wp2_with (first | (with_reducible refine hold_append ?_) | (with_reducible refine hold_make ?_) | (with_reducible refine hold_copy ?_))
    refine (rdspoil_any h).mono ?_
    rintro e w1 ⟨rfl, h1, hg1⟩
    go_wp2_with (first | (with_reducible refine hold_append ?_) | (with_reducible refine hold_make ?_) | (with_reducible refine hold_copy ?_))
    go_ret
    exact ⟨none, 0, rfl, Own.none_ _ _ _ _, h1, hg1⟩
  obtain ⟨m, rfl⟩ : ∃ m : Nat, x = m := ⟨x.toNat, by omega⟩
  have hm : m ≤ l.length := by omega
  rw [mtake_yes hm]
  have h' := h
  rcases h with ⟨_, _, _, hb⟩ | ⟨_, _, _, _, hb, _⟩ | ⟨rb, b, A, n, c, rfl, rfl, hne, hc, h0, h1, h2, hf0, hf2, hr, hA, hn, hF⟩
  · cases hb
  · cases hb
  have hl := hr.length
  have hcap := hr.cap
  go_enter Tryd.func44, Tryd.ntmps44
  go_wp2_with (first | (with_reducible refine hold_append ?_) | (with_reducible refine hold_make ?_) | (with_reducible refine hold_copy ?_))
  refine (rdbad_any h').mono ?_
  rintro e w' ⟨rfl, rfl⟩
  go_wp2_with (first | (with_reducible refine hold_append ?_) | (with_reducible refine hold_make ?_) | (with_reducible refine hold_copy ?_))
  refine (rdleft_any h').mono ?_
  rintro e w' ⟨rfl, rfl⟩
  go_wp2_with (first | (with_reducible refine hold_append ?_) | (with_reducible refine hold_make ?_) | (with_reducible refine hold_copy ?_) | (with_reducible refine hold_slice ?_))
  refine unhold (wp_cut slB rfl rfl rfl hr 0 m c (.inl ⟨rfl, rfl⟩) (.inr ⟨_, _, rfl, rfl⟩) (.inl ⟨rfl, rfl⟩) (by intro h; cases h) (by omega) (by omega) (Nat.le_refl _) (by omega) ?_)
  intro A1 hr1
  simp only [Nat.zero_mul, Nat.mul_one, List.drop_zero, ← List.map_take, Nat.sub_zero] at hr1
  go_wp2_with (first | (with_reducible refine hold_append ?_) | (with_reducible refine hold_make ?_) | (with_reducible refine hold_copy ?_) | (with_reducible refine hold_slice ?_))
  refine (clone_any A1 m c (l.take m) _ hr1 (by omega)).mono ?_
  rintro e w1 ⟨A2, c2, rfl, ho2, hB⟩
  go_wp2_with (first | (with_reducible refine hold_append ?_) | (with_reducible refine hold_make ?_) | (with_reducible refine hold_copy ?_))
  have hbw : b < w'.heap.size := World.block_lt_of_cell? w' _ h0
  have hrw : rb < w'.heap.size := World.block_lt_of_cell? w' _ hc
  have hc1 : w1.drew.cell? ⟨rb, 0, none⟩ = some (.pointer (some ⟨b, 0, none⟩)) := (hB.cell hrw).trans hc
  have h01 : w1.drew.cell? ⟨b, 0, none⟩ = some (.slice A n c) := (hB.cell hbw).trans h0
  have h11 : w1.cell? ⟨b, 1, none⟩ = some (.bool true) := (hB.cell (p := ⟨b, 1, none⟩) hbw).trans h1
  have h21 : w1.cell? ⟨b, 2, none⟩ = some (.bool false) := (hB.cell (p := ⟨b, 2, none⟩) hbw).trans h2
  have hf01 : w1.drew.frozen? ⟨b, 0, none⟩ = false := (World.frozen?_of_block (w := w') (w' := w1.drew) (hB.block b hbw)).trans hf0
  have hf21 : w1.drew.frozen? ⟨b, 2, none⟩ = false := (World.frozen?_of_block (w := w') (w' := w1.drew) (hB.block b hbw)).trans hf2
  have hrr : RdB w1 w'.heap.size A n c l := hr.below hB
  have hcutA := fun wS : World => run_cutA (A := A) slB wS hr.max hr.cap (lo := some (.int .i64 (m : Int))) (hi := none) (mx := none) m n c (.inr ⟨_, _, rfl, rfl⟩) (.inl ⟨rfl, rfl⟩) (.inl ⟨rfl, rfl⟩) (by intro h; cases h) (by omega) (by omega) (Nat.le_refl _) (Nat.le_refl _)
  have hq := hcutA w1.drew
  refine rg_start (fun wx => wx.cell? ⟨rb, 0, none⟩ = some (.pointer (some ⟨b, 0, none⟩))) (by kernel_rfl) ?_
  refine rg_take 0 (v := ?_) rfl (by kernel_rfl) (by kernel_rfl) (by kernel_rfl) hc1 rfl ?_ ?_
  rotate_left
  · intro wS hSw; go_simp; (with_reducible rfl)
  simp only [List.getElem_toArray, List.getElem_cons_zero, Act.put, List.setIfInBounds_toArray, List.set_cons_zero, List.set_cons_succ]
  refine rg_take 1 (v := ?_) rfl (by kernel_rfl) (by kernel_rfl) (by kernel_rfl) hc1 rfl ?_ ?_
  rotate_left
  · intro wS hSw; go_simp; (with_reducible rfl)
  simp only [List.getElem_toArray, List.getElem_cons_succ, List.getElem_cons_zero, Act.put, List.setIfInBounds_toArray, List.set_cons_zero, List.set_cons_succ]
  refine rg_take 2 (v := ?_) rfl (by kernel_rfl) (by kernel_rfl) (by kernel_rfl) hc1 rfl ?_ ?_
  rotate_left
  · intro wS hSw; go_simp; (with_reducible rfl)
  simp only [List.getElem_toArray, List.getElem_cons_succ, List.getElem_cons_zero, Act.put, List.setIfInBounds_toArray, List.set_cons_zero, List.set_cons_succ]
  refine rg_take 3 (v := ?_) rfl (by kernel_rfl) (by kernel_rfl) (by kernel_rfl) hc1 rfl ?_ ?_
  rotate_left
  · intro wS hSw; go_simp; (with_reducible rfl)
  simp only [List.getElem_toArray, List.getElem_cons_succ, List.getElem_cons_zero, Act.put, List.setIfInBounds_toArray, List.set_cons_zero, List.set_cons_succ]
  refine rg_take 4 (v := ?_) rfl (by kernel_rfl) (by kernel_rfl) (by kernel_rfl) hc1 rfl ?_ ?_
  rotate_left
  · intro wS hSw; go_simp; (with_reducible rfl)
  simp only [List.getElem_toArray, List.getElem_cons_succ, List.getElem_cons_zero, Act.put, List.setIfInBounds_toArray, List.set_cons_zero, List.set_cons_succ]
  refine rg_take 5 (v := ?_) rfl (by kernel_rfl) (by kernel_rfl) (by kernel_rfl) hc1 rfl ?_ ?_
  rotate_left
  · intro wS hSw; go_simp; (with_reducible rfl)
  simp only [List.getElem_toArray, List.getElem_cons_succ, List.getElem_cons_zero, Act.put, List.setIfInBounds_toArray, List.set_cons_zero, List.set_cons_succ]
  refine rg_take 6 (v := ?_) rfl (by kernel_rfl) (by kernel_rfl) (by kernel_rfl) hc1 rfl ?_ ?_
  rotate_left
  · intro wS hSw; go_simp; (with_reducible rfl)
  simp only [List.getElem_toArray, List.getElem_cons_succ, List.getElem_cons_zero, Act.put, List.setIfInBounds_toArray, List.set_cons_zero, List.set_cons_succ]
  refine rg_take 7 (v := ?_) rfl (by kernel_rfl) (by kernel_rfl) (by kernel_rfl) hc1 rfl ?_ ?_
  rotate_left
  · intro wS hSw; go_simp; (with_reducible rfl)
  simp only [List.getElem_toArray, List.getElem_cons_succ, List.getElem_cons_zero, Act.put, List.setIfInBounds_toArray, List.set_cons_zero, List.set_cons_succ]
  refine rg_take 8 (v := ?_) rfl (by kernel_rfl) (by kernel_rfl) (by kernel_rfl) hc1 rfl ?_ ?_
  rotate_left
  · intro wS hSw; go_simp; (with_reducible rfl)
  simp only [List.getElem_toArray, List.getElem_cons_succ, List.getElem_cons_zero, Act.put, List.setIfInBounds_toArray, List.set_cons_zero, List.set_cons_succ]
  refine rg_take 9 (v := ?_) rfl (by kernel_rfl) (by kernel_rfl) (by kernel_rfl) hc1 rfl ?_ ?_
  rotate_left
  · intro wS hSw; go_simp; (with_reducible rfl)
  simp only [List.getElem_toArray, List.getElem_cons_succ, List.getElem_cons_zero, Act.put, List.setIfInBounds_toArray, List.set_cons_zero, List.set_cons_succ]
  refine rg_take 11 (v := ?_) rfl (by kernel_rfl) (by kernel_rfl) (by kernel_rfl) hc1 rfl ?_ ?_
  rotate_left
  · intro wS hSw; go_simp; (with_reducible rfl)
  simp only [List.getElem_toArray, List.getElem_cons_succ, List.getElem_cons_zero, Act.put, List.setIfInBounds_toArray, List.set_cons_zero, List.set_cons_succ]
  refine rg_one 10 rfl (by kernel_rfl) rfl (fun K hK => ?_)
  go_simp
  refine hK _ _ hc1 ?_; clear hK K
  refine rg_one 12 rfl (by kernel_rfl) rfl (fun K hK => ?_)
  go_simp
  refine hK _ _ hc1 ?_; clear hK K
  refine rg_take 13 (v := ?_) rfl (by kernel_rfl) (by kernel_rfl) (by kernel_rfl) hc1 rfl ?_ ?_
  rotate_left
  · intro wS hSw; go_simp; (with_reducible rfl)
  simp only [List.getElem_toArray, List.getElem_cons_succ, List.getElem_cons_zero, Act.put, List.setIfInBounds_toArray, List.set_cons_zero, List.set_cons_succ]
  refine rg_take 14 (v := ?_) rfl (by kernel_rfl) (by kernel_rfl) (by kernel_rfl) hc1 rfl ?_ ?_
  rotate_left
  · intro wS hSw; go_simp; (with_reducible rfl)
  simp only [List.getElem_toArray, List.getElem_cons_succ, List.getElem_cons_zero, Act.put, List.setIfInBounds_toArray, List.set_cons_zero, List.set_cons_succ]
  refine rg_one 15 rfl (by kernel_rfl) rfl (fun K hK => ?_)
  go_simp
  refine hK _ _ ((World.cell?_setCell_far _ _ _ _ (fun e => hne e.symm)).trans hc1) ?_
  clear hK K
  refine rg_end (by kernel_rfl) ?_
  go_wp2_with (first | (with_reducible refine hold_append ?_) | (with_reducible refine hold_make ?_) | (with_reducible refine hold_copy ?_))
  go_ret
  have hge : ∀ g, blk A2 = some g → w'.heap.size ≤ g := fun g hg => (ho2.blk_lt hg).1
  have hg0 := (grownSet w1 ⟨b, 0, none⟩ (.slice (cutA A 1 m c) (n - m) (c - m))).trans (grownDrew _ _)
  refine ⟨A2, c2, by simp [Array.getD, Nat.min_eq_left hm], ?_, ?_, ?_⟩
  · rw [List.length_take, Nat.min_eq_left hm]
    refine ho2.kept hg0 (.inr fun e => ?_)
    rw [ownBlock_eq] at e
    have : w'.heap.size ≤ b := hge _ e
    omega
  · refine .inr (.inr ⟨rb, b, cutA A 1 m c, n - m, c - m, rfl, rfl, hne, ?_, ?_, ?_, ?_, ?_, ?_, ?_, ?_, by omega, hF.1, hF.2.1, fun g hg => hF.2.2 g (by rwa [cutA_blk] at hg)⟩)
    · exact (World.cell?_setCell_far _ _ _ _ (fun e => hne e.symm)).trans hc1
    · exact World.cell?_setCell_same _ _ _ h01
    · exact (World.cell?_setCell_other _ _ _ _ (by simp)).trans h11
    · exact (World.cell?_setCell_other _ _ _ _ (by simp)).trans h21
    · simpa using hf01
    · simpa using hf21
    · have h3 := rd_cut hrr m n c (by omega) (by omega) (Nat.le_refl _) (Nat.le_refl _)
      have e3 : (((l.map u8v).take (n * 1)).drop (m * 1)) = (l.drop m).map u8v := by
        rw [Nat.mul_one, Nat.mul_one, List.take_of_length_le (by simp; omega), List.map_drop]
      rw [e3] at h3
      have h4 : RdB w1 w1.heap.size (cutA A 1 m c) (n - m) (c - m) (l.drop m) := h3.more hB.size
      exact (h4.grown_ne hg0 (Nat.le_refl _) (.inr (by rw [cutA_blk]; exact hA))).more hg0.size
    · rw [cutA_blk]; exact hA
  · exact (grownOf hB (some b)).trans hg0
end Go.PH
end
section
/- The walks of octet's reader: making one, reading numbers and texts. -/
set_option linter.all false
set_option linter.unusedSimpArgs false
set_option linter.unusedVariables false
namespace Go.PH
open Go.RowKit Go.Proofs

theorem rdopen_any (A : Option Addr) (n c : Nat) (l : List UInt8) (w : World) (hb : RdB w w.heap.size A n c l) (hn : n ≤ 140737488351240) :
    Calls Tryd.prog 22 #[.slice A n c] w fun e w' => ∃ rb b, e = .returned (.pointer (some ⟨rb, 0, none⟩)) ∧ w.heap.size ≤ rb ∧ w.heap.size ≤ b ∧ Rdr (fun g => w.heap.size ≤ g ∧ g < w'.heap.size) w' (.pointer (some ⟨rb, 0, none⟩)) (some b) l false ∧ Below w.heap.size w w' := by
  go_enter Tryd.func22, Tryd.ntmps22
  go_wp2_with (first | (with_reducible refine hold_append ?_) | (with_reducible refine hold_make ?_) | (with_reducible refine hold_copy ?_))
  refine (clone_any A n c l w hb hn).mono ?_
  rintro e w1 ⟨A2, c2, rfl, ho2, hB⟩
  go_wp2_with (first | (with_reducible refine hold_append ?_) | (with_reducible refine hold_make ?_) | (with_reducible refine hold_copy ?_))
  go_ret
  have hB1 : Below w.heap.size w (w1.alloc (.cells #[.slice A2 n c2, .bool true, .bool false] 95)) := hB.alloc hB.size _
  refine ⟨w1.heap.size + 1, w1.heap.size, rfl, by have := hB.size; omega, hB.size, .inr (.inr ⟨_, _, A2, n, c2, rfl, rfl, by omega, ?_, ?_, ?_, ?_, ?_, ?_, ?_, ?_, hn, ?_, ?_, ?_⟩), hB1.alloc (by have := hB1.size; omega) _⟩
  · simp
  · simp
  · simp
  · simp
  · simp
  · simp
  · exact Own.rd (base := w.heap.size) (e := 5) ((ho2.alloc _).alloc _)
  · intro e
    have := (ho2.blk_lt e).2
    omega
  · have := hB.size; simp; omega
  · have := hB.size; simp; omega
  · intro g hg
    have h1 := (ho2.blk_lt hg).1
    have h2 := (ho2.blk_lt hg).2
    simp; omega

theorem be_push (k x : Nat) (hk : k < 72057594037927936) (hx : x < 256) : bits .or .u64 (IntKind.u64.wrap ((k : Int) * 256)) (x : Int) = ((256 * k + x : Nat) : Int) := by
  have h1 : IntKind.u64.wrap ((k : Int) * 256) = ((256 * k : Nat) : Int) := by rw [IntKind.wrap_u64]; omega
  rw [h1, u64_or_nat _ _ (by omega) (by omega)]
  have := Nat.two_pow_add_eq_or_of_lt (i := 8) (b := x) (by omega) k
  rw [← this]

set_option maxHeartbeats 1000000 in
theorem rdnum_any {F : Nat → Prop} {w : World} {v : Value} {vb : Option Nat} {l : List UInt8} {bad : Bool} (h : Rdr F w v vb l bad) (x : Int) (hx : -9223372036854775808 ≤ x) (hx' : x ≤ 9223372036854775807) :
    Calls Tryd.prog 23 #[v, .int .i64 x] w fun e w' => e = .returned (.int .u64 ((mnum l bad x).1 : Nat)) ∧ Rdr F w' v vb (mnum l bad x).2.1 (mnum l bad x).2.2 ∧ w.grownBy w' vb := by
  by_cases hw : wideB x = true
  · rw [mnum_yes hw]
    have hlo : (mtake l bad x).1.length ≤ 8 := by
      have := wideB_le hw
      unfold mtake
      split
      · simp
      · simp only [List.length_take]; omega
    have hT := rdtake_any h x hx hx'
    generalize mtake l bad x = r at hT hlo ⊢
    obtain ⟨o, l', bad'⟩ := r
    simp only at hT hlo ⊢
    go_enter Tryd.func23, Tryd.ntmps23
    go_wp2_with (first | (with_reducible refine hold_append ?_) | (with_reducible refine hold_make ?_) | (with_reducible refine hold_copy ?_))
    refine (wide_any x w).mono ?_
    rw [hw]
    rintro e w' ⟨rfl, rfl⟩
    go_wp2_with (first | (with_reducible refine hold_append ?_) | (with_reducible refine hold_make ?_) | (with_reducible refine hold_copy ?_))
    refine hT.mono ?_
    rintro e w1 ⟨A2, c2, rfl, ho, hR, hg⟩
    go_wp2_with (first | (with_reducible refine hold_append ?_) | (with_reducible refine hold_make ?_) | (with_reducible refine hold_copy ?_))
    go_loopw [17, 5] (fun i s wr => wr = w1 ∧ ∃ k : Nat, k ≤ o.length ∧ i = .int .i64 k ∧ s = .int .u64 (unbe (o.take k) : Nat)) (fun i _ _ => o.length - (RowKit.intOf i).toNat)
    case atStart => exact ⟨rfl, 0, by omega, rfl, by simp [unbe_nil]⟩
    case round =>
      obtain ⟨rfl, k, hk, rfl, rfl⟩ := hrel
      by_cases hlt : k < o.length
      · obtain ⟨b, off, rfl, hbB, hkl, hcell⟩ := RdB.at_k ho.rd (k := k) hlt
        have hby := o[k].toNat_lt
        go_wp2_with (first | (with_reducible refine hold_append ?_) | (with_reducible refine hold_make ?_) | (with_reducible refine hold_copy ?_))
        have hsn : unbe (o.take (k + 1)) = 256 * unbe (o.take k) + o[k].toNat := by
          rw [List.take_succ_eq_append_getElem hkl]; exact unbe_snoc _ _
        have hlt7 : unbe (o.take k) < 72057594037927936 := by
          refine Nat.lt_of_lt_of_le (unbe_lt _) ?_
          refine Nat.le_trans (Nat.pow_le_pow_right (by omega) (show (o.take k).length ≤ 7 by rw [List.length_take]; omega)) (by decide)
        exact ⟨⟨trivial, k + 1, by omega, by go_num, by rw [be_push _ _ hlt7 hby, hsn]⟩, by simp [RowKit.intOf]; omega⟩
      · obtain rfl : k = o.length := by omega
        rw [List.take_length]
        go_wp2_with (first | (with_reducible refine hold_append ?_) | (with_reducible refine hold_make ?_) | (with_reducible refine hold_copy ?_))
        go_ret
        exact ⟨rfl, hR, hg⟩
  · have hw' : wideB x = false := by simpa using hw
    rw [mnum_no hw']
    go_enter Tryd.func23, Tryd.ntmps23
    go_wp2_with (first | (with_reducible refine hold_append ?_) | (with_reducible refine hold_make ?_) | (with_reducible refine hold_copy ?_))
    refine (wide_any x w).mono ?_
    rw [hw']
    rintro e w' ⟨rfl, rfl⟩
    go_wp2_with (first | (with_reducible refine hold_append ?_) | (with_reducible refine hold_make ?_) | (with_reducible refine hold_copy ?_))
    refine (rdspoil_any h).mono ?_
    rintro e w1 ⟨rfl, h1, hg1⟩
    go_wp2_with (first | (with_reducible refine hold_append ?_) | (with_reducible refine hold_make ?_) | (with_reducible refine hold_copy ?_))
    go_ret
    exact ⟨rfl, h1, hg1⟩

end Go.PH
end
section
/- The walk of octet's Text. -/
set_option linter.all false
set_option linter.unusedSimpArgs false
set_option linter.unusedVariables false
namespace Go.PH
open Go.RowKit Go.Proofs

set_option maxHeartbeats 1000000 in
theorem rdtext_any {F : Nat → Prop} {w : World} {v : Value} {vb : Option Nat} {l : List UInt8} {bad : Bool} (h : Rdr F w v vb l bad) (x most : Int) (hx : -9223372036854775808 ≤ x) (hx' : x ≤ 9223372036854775807) (hm : -9223372036854775808 ≤ most) (hm' : most ≤ 9223372036854775807) :
    Calls Tryd.prog 69 #[v, .int .i64 x, .int .i64 most] w fun e w' => e = .returned (.string (str (mtext l bad x most).1)) ∧ Rdr F w' v vb (mtext l bad x most).2.1 (mtext l bad x most).2.2 ∧ w.grownBy w' vb := by
  by_cases h8 : x = 8
  · subst h8
    rw [mtext_no (by omega)]
    go_enter Tryd.func69, Tryd.ntmps69
    go_wp2_with (first | (with_reducible refine hold_append ?_) | (with_reducible refine hold_make ?_) | (with_reducible refine hold_copy ?_))
    refine (rdspoil_any h).mono ?_
    rintro e w1 ⟨rfl, h1, hg1⟩
    go_wp2_with (first | (with_reducible refine hold_append ?_) | (with_reducible refine hold_make ?_) | (with_reducible refine hold_copy ?_))
    go_ret
    exact ⟨rfl, h1, hg1⟩
  have hN := rdnum_any h x hx hx'
  have hlt := mnum_lt l bad x
  rw [mtext_eq h8]
  generalize mnum l bad x = r at hN hlt ⊢
  obtain ⟨n, l', bad'⟩ := r
  simp only at hN hlt ⊢
  by_cases hb : bad' = true
  · subst hb
    rw [if_pos (.inl rfl)]
    go_enter Tryd.func69, Tryd.ntmps69
    go_wp2_with (first | (with_reducible refine hold_append ?_) | (with_reducible refine hold_make ?_) | (with_reducible refine hold_copy ?_))
    refine hN.mono ?_
    rintro e w1 ⟨rfl, h1, hg1⟩
    go_wp2_with (first | (with_reducible refine hold_append ?_) | (with_reducible refine hold_make ?_) | (with_reducible refine hold_copy ?_))
    refine (rdbad_any h1).mono ?_
    rintro e w2 ⟨rfl, rfl⟩
    go_wp2_with (first | (with_reducible refine hold_append ?_) | (with_reducible refine hold_make ?_) | (with_reducible refine hold_copy ?_))
    refine (rdspoil_any h1).mono ?_
    rintro e w3 ⟨rfl, h3, hg3⟩
    go_wp2_with (first | (with_reducible refine hold_append ?_) | (with_reducible refine hold_make ?_) | (with_reducible refine hold_copy ?_))
    go_ret
    exact ⟨rfl, h3, hg1.trans hg3⟩
  obtain rfl : bad' = false := by simpa using hb
  by_cases hneg : most < 0
  · rw [if_pos (.inr (.inl hneg))]
    go_enter Tryd.func69, Tryd.ntmps69
    go_wp2_with (first | (with_reducible refine hold_append ?_) | (with_reducible refine hold_make ?_) | (with_reducible refine hold_copy ?_))
    refine hN.mono ?_
    rintro e w1 ⟨rfl, h1, hg1⟩
    go_wp2_with (first | (with_reducible refine hold_append ?_) | (with_reducible refine hold_make ?_) | (with_reducible refine hold_copy ?_))
    refine (rdbad_any h1).mono ?_
    rintro e w2 ⟨rfl, rfl⟩
    go_wp2_with (first | (with_reducible refine hold_append ?_) | (with_reducible refine hold_make ?_) | (with_reducible refine hold_copy ?_))
    refine (rdspoil_any h1).mono ?_
    rintro e w3 ⟨rfl, h3, hg3⟩
    go_wp2_with (first | (with_reducible refine hold_append ?_) | (with_reducible refine hold_make ?_) | (with_reducible refine hold_copy ?_))
    go_ret
    exact ⟨rfl, h3, hg1.trans hg3⟩
  by_cases hmore : most < (n : Int)
  · rw [if_pos (.inr (.inr (.inl hmore)))]
    go_enter Tryd.func69, Tryd.ntmps69
    go_wp2_with (first | (with_reducible refine hold_append ?_) | (with_reducible refine hold_make ?_) | (with_reducible refine hold_copy ?_))
    refine hN.mono ?_
    rintro e w1 ⟨rfl, h1, hg1⟩
    go_wp2_with (first | (with_reducible refine hold_append ?_) | (with_reducible refine hold_make ?_) | (with_reducible refine hold_copy ?_))
    refine (rdbad_any h1).mono ?_
    rintro e w2 ⟨rfl, rfl⟩
    go_wp2_with (first | (with_reducible refine hold_append ?_) | (with_reducible refine hold_make ?_) | (with_reducible refine hold_copy ?_))
    refine (rdspoil_any h1).mono ?_
    rintro e w3 ⟨rfl, h3, hg3⟩
    go_wp2_with (first | (with_reducible refine hold_append ?_) | (with_reducible refine hold_make ?_) | (with_reducible refine hold_copy ?_))
    go_ret
    exact ⟨rfl, h3, hg1.trans hg3⟩
  by_cases hleft : l'.length < n
  · rw [if_pos (.inr (.inr (.inr hleft)))]
    go_enter Tryd.func69, Tryd.ntmps69
    go_wp2_with (first | (with_reducible refine hold_append ?_) | (with_reducible refine hold_make ?_) | (with_reducible refine hold_copy ?_))
    refine hN.mono ?_
    rintro e w1 ⟨rfl, h1, hg1⟩
    have hll := h1.len
    go_wp2_with (first | (with_reducible refine hold_append ?_) | (with_reducible refine hold_make ?_) | (with_reducible refine hold_copy ?_))
    refine (rdbad_any h1).mono ?_
    rintro e w2 ⟨rfl, rfl⟩
    go_wp2_with (first | (with_reducible refine hold_append ?_) | (with_reducible refine hold_make ?_) | (with_reducible refine hold_copy ?_))
    refine (rdleft_any h1).mono ?_
    rintro e w2 ⟨rfl, rfl⟩
    go_wp2_with (first | (with_reducible refine hold_append ?_) | (with_reducible refine hold_make ?_) | (with_reducible refine hold_copy ?_))
    refine (rdspoil_any h1).mono ?_
    rintro e w3 ⟨rfl, h3, hg3⟩
    go_wp2_with (first | (with_reducible refine hold_append ?_) | (with_reducible refine hold_make ?_) | (with_reducible refine hold_copy ?_))
    go_ret
    exact ⟨rfl, h3, hg1.trans hg3⟩
  rw [if_neg (by simp; omega), mtake_yes (by omega)]
  have hn63 : (n : Int) ≤ 9223372036854775807 := by omega
  have hleft' : ¬ ((l'.length : Int) < (n : Int)) := by omega
  have hneg' : 0 ≤ most := by omega
  have hmore' : (n : Int) ≤ most := by omega
  go_enter Tryd.func69, Tryd.ntmps69
  go_wp2_with (first | (with_reducible refine hold_append ?_) | (with_reducible refine hold_make ?_) | (with_reducible refine hold_copy ?_))
  refine hN.mono ?_
  rintro e w1 ⟨rfl, h1, hg1⟩
  have hll := h1.len
  go_wp2_with (first | (with_reducible refine hold_append ?_) | (with_reducible refine hold_make ?_) | (with_reducible refine hold_copy ?_))
  refine (rdbad_any h1).mono ?_
  rintro e w2 ⟨rfl, rfl⟩
  go_wp2_with (first | (with_reducible refine hold_append ?_) | (with_reducible refine hold_make ?_) | (with_reducible refine hold_copy ?_))
  refine (rdleft_any h1).mono ?_
  rintro e w2 ⟨rfl, rfl⟩
  go_wp2_with (first | (with_reducible refine hold_append ?_) | (with_reducible refine hold_make ?_) | (with_reducible refine hold_copy ?_))
  have hT := rdtake_any h1 (n : Int) (by omega) (by omega)
  rw [mtake_yes (by omega)] at hT
  simp only [List.length_take, Nat.min_eq_left (Nat.le_of_not_lt hleft)] at hT
  refine hT.mono ?_
  rintro e w3 ⟨A3, c3, rfl, ho3, h3, hg3⟩
  have hcv := run_strB ho3.rd
  go_wp2_with (first | (with_reducible refine hold_append ?_) | (with_reducible refine hold_make ?_) | (with_reducible refine hold_copy ?_))
  go_ret
  exact ⟨rfl, h3, hg1.trans hg3⟩
end Go.PH
end

/- Texts laid together: OctRead, OctRead2, FrScan, FrBytes, FrSame, FrScanMath2. -/
import Derived.Lib.LazyBuf
import Derived.Laws.BitsAllLaws
import Derived.Laws.Bits64
import Derived.Test.YtfbkameikhgciaaGreatDoorMg03
import Derived.Test.YtfbkameikhgciaaGreatDoorMg04
import Derived.Test.YtfbkameikhgciaaGreatDoorMg05
import Derived.Test.YtfbkameikhgciaaGreatDoorMg06
set_option linter.all false
set_option linter.unusedSimpArgs false
set_option linter.unusedVariables false
section
/- The walks of octet's reader and of its reference's. -/
namespace Go.PH
open Go.RowKit Go.Proofs

theorem grownOf {w w' : World} (h : Below w.heap.size w w') (row : Option Nat) : w.grownBy w' row := ⟨h.os, h.tape, h.output, h.size, fun k hk _ => h.block k hk⟩
theorem grownDrew (w : World) (row : Option Nat) : w.grownBy w.drew row := ⟨rfl, rfl, rfl, Nat.le_refl _, fun _ _ _ => rfl⟩
theorem grownSet (w : World) (a : Addr) (u : Value) : w.grownBy (w.setCell a u) (some a.block) :=
 ⟨rfl, rfl, rfl, by simp, fun k _ hk => Below.heap_setCell _ _ _ k (fun e => hk (by rw [e]))⟩

/-- bytes.Clone: nil stays nil -/
theorem clone_any (A : Option Addr) (n c : Nat) (l : List UInt8) (w : World) (hb : RdB w w.heap.size A n c l) (hn : n ≤ 140737488351240) :
  Calls Tryz.prog 76 #[.slice A n c] w fun e w' => ∃ A2 c2, e = .returned (.slice A2 n c2) ∧ Own w' w.heap.size 5 1 A2 n c2 (l.map u8v) ∧ Below w.heap.size w w' := by
 have hl := hb.length
 have hnil := run_eql_slice_nil (P := Tryz.prog) w 55 _ A n c Tryz.underlying55
 rcases A with _ | ad
 ·have hn0 : n = 0 := by
   rcases Nat.eq_zero_or_pos n with h0 | h0
   ·exact h0
   ·obtain ⟨b, off, e, _⟩ := hb.at_ h0; cases e
  subst hn0
  obtain rfl := List.eq_nil_of_length_eq_zero hl
  go_enter Tryz.func76, Tryz.ntmps76
  go_wp2_with (with_reducible refine h_A ?_)
  go_ret
  exact ⟨none, 0, rfl, Own.none_ _ _ _ _, Below.refl _ _⟩
 ·go_enter Tryz.func76, Tryz.ntmps76
  go_wp2_with (with_reducible refine h_A ?_)
  have hlit := own_lit (w := w) w.heap.size #[] 5 0 (Nat.le_refl _) (by simp [maxLen]) rfl (size := 1) (by omega)
  have hB1 : Below w.heap.size w (w.alloc (.cells #[] 5)) := (Below.refl _ _).alloc (Nat.le_refl _) _
  refine unhold (wp_app (base := w.heap.size) slB rfl rfl rfl rfl hlit (hb.below hB1) (map_one l) (by omega) (by simp [maxLen]; omega) (by simp) ?_)
  intro A2 c2 w2 ho2 hg2 _
  have hB2 : Below w.heap.size w w2 := hB1.grown hg2 (by simp) (fun g hg => (hlit.blk_lt hg).1)
  simp only [Nat.zero_add, List.nil_append] at ho2
  go_wp2_with (with_reducible refine h_A ?_)
  go_ret
  exact ⟨A2, c2, by first | rfl | simp, ho2, hB2⟩

/-- a reader: none, one without a view, one with its view in block b -/
def Rdr (F : Nat → Prop) (w : World) (v : Value) (vb : Option Nat) (l : List UInt8) (bad : Bool) : Prop :=
 (v = .pointer none ∧ vb = none ∧ l = [] ∧ bad = true) ∨
 (∃ rb, v = .pointer (some ⟨rb, 0, none⟩) ∧ vb = none ∧ l = [] ∧ bad = true ∧ w.cell? ⟨rb, 0, none⟩ = some (.pointer none) ∧ F rb) ∨
 (∃ rb b A n c, v = .pointer (some ⟨rb, 0, none⟩) ∧ vb = some b ∧ rb ≠ b ∧ w.cell? ⟨rb, 0, none⟩ = some (.pointer (some ⟨b, 0, none⟩)) ∧ w.cell? ⟨b, 0, none⟩ = some (.slice A n c) ∧
  w.cell? ⟨b, 1, none⟩ = some (.bool true) ∧ w.cell? ⟨b, 2, none⟩ = some (.bool bad) ∧ w.frozen? ⟨b, 0, none⟩ = false ∧ w.frozen? ⟨b, 2, none⟩ = false ∧ RdB w w.heap.size A n c l ∧ blk A ≠ some b ∧ n ≤ 140737488351240 ∧ F rb ∧ F b ∧ ∀ g, blk A = some g → F g)

theorem vbad_none (w : World) : Calls Tryz.prog 107 #[.pointer none] w fun e w' => e = .returned (.bool true) ∧ w' = w := by
 go_enter Tryz.func107, Tryz.ntmps107
 go_wp2_with (with_reducible refine h_A ?_)
 go_ret
 exact ⟨rfl, rfl⟩
theorem vbad_some (w : World) (b : Nat) (bad : Bool) (h1 : w.cell? ⟨b, 1, none⟩ = some (.bool true)) (h2 : w.cell? ⟨b, 2, none⟩ = some (.bool bad)) :
  Calls Tryz.prog 107 #[.pointer (some ⟨b, 0, none⟩)] w fun e w' => e = .returned (.bool bad) ∧ w' = w := by
 cases bad
 all_goals
  go_enter Tryz.func107, Tryz.ntmps107
  go_wp2_with (with_reducible refine h_A ?_)
  go_ret
  exact ⟨rfl, rfl⟩
theorem vleft_none (w : World) : Calls Tryz.prog 108 #[.pointer none] w fun e w' => e = .returned (.int .i64 0) ∧ w' = w := by
 go_enter Tryz.func108, Tryz.ntmps108
 go_wp2_with (with_reducible refine h_A ?_)
 go_ret
 exact ⟨rfl, rfl⟩
theorem vleft_some (w : World) (b : Nat) {A : Option Addr} {n c : Nat} (h0 : w.cell? ⟨b, 0, none⟩ = some (.slice A n c)) :
  Calls Tryz.prog 108 #[.pointer (some ⟨b, 0, none⟩)] w fun e w' => e = .returned (.int .i64 n) ∧ w' = w := by
 go_enter Tryz.func108, Tryz.ntmps108
 go_wp2_with (with_reducible refine h_A ?_)
 go_ret
 exact ⟨rfl, rfl⟩

theorem Rdr.kept {F : Nat → Prop} {w w' : World} {v : Value} {vb : Option Nat} {l : List UInt8} {bad : Bool} {row : Option Nat} (h : Rdr F w v vb l bad) (hg : w.grownBy w' row) (hne : ∀ g, row = some g → ¬ F g) : Rdr F w' v vb l bad := by
 rcases h with h | ⟨rb, h1, h2, h3, h4, h5, hF⟩ | ⟨rb, b, A, n, c, h1, h2, h3, h4, h5, h6, h7, h8, h9, hr, h10, h11, hF1, hF2, hF3⟩
 ·exact .inl h
 ·exact .inr (.inl ⟨rb, h1, h2, h3, h4, hg.cell h5 (fun e => hne _ e.symm hF), hF⟩)
 ·have hb : b < w.heap.size := World.block_lt_of_cell? w _ h5
  refine .inr (.inr ⟨rb, b, A, n, c, h1, h2, h3, hg.cell h4 (fun e => hne _ e.symm hF1), hg.cell h5 (fun e => hne _ e.symm hF2), hg.cell h6 (fun e => hne _ e.symm hF2), hg.cell h7 (fun e => hne _ e.symm hF2),
   (hg.frozen_far ⟨b, 0, none⟩ hb (fun e => hne _ e.symm hF2)).trans h8, (hg.frozen_far ⟨b, 2, none⟩ hb (fun e => hne _ e.symm hF2)).trans h9, (hr.grown_ne hg (Nat.le_refl _) ?_).more hg.size, h10, h11, hF1, hF2, hF3⟩)
  rcases hA : blk A with _ | g
  ·exact .inl rfl
  ·exact .inr fun e => hne g e.symm (hF3 g hA)
theorem Rdr.below {F : Nat → Prop} {w w' : World} {v : Value} {vb : Option Nat} {l : List UInt8} {bad : Bool} (h : Rdr F w v vb l bad) (hB : Below w.heap.size w w') : Rdr F w' v vb l bad := h.kept (grownOf hB none) (by simp)
theorem Rdr.drew {F : Nat → Prop} {w : World} {v : Value} {vb : Option Nat} {l : List UInt8} {bad : Bool} (h : Rdr F w v vb l bad) : Rdr F w.drew v vb l bad := h.kept (grownDrew w none) (by simp)
theorem Rdr.inF {F : Nat → Prop} {w : World} {v : Value} {vb : Option Nat} {l : List UInt8} {bad : Bool} (h : Rdr F w v vb l bad) {g : Nat} (hg : vb = some g) : F g := by
 rcases h with ⟨_, rfl, _⟩ | ⟨_, _, rfl, _⟩ | ⟨rb, b, A, n, c, _, rfl, _, _, _, _, _, _, _, _, _, _, _, hF, _⟩
 ·cases hg
 ·cases hg
 ·cases hg; exact hF
theorem Rdr.len {F : Nat → Prop} {w : World} {v : Value} {vb : Option Nat} {l : List UInt8} {bad : Bool} (h : Rdr F w v vb l bad) : l.length ≤ 140737488351240 := by
 rcases h with ⟨_, _, rfl, _⟩ | ⟨_, _, _, rfl, _⟩ | ⟨rb, b, A, n, c, _, _, _, _, _, _, _, _, _, hr, _, hn, _⟩
 ·simp
 ·simp
 ·rw [hr.length]; exact hn
theorem rdbad_any {F : Nat → Prop} {w : World} {v : Value} {vb : Option Nat} {l : List UInt8} {bad : Bool} (h : Rdr F w v vb l bad) :
  Calls Tryz.prog 77 #[v] w fun e w' => e = .returned (.bool bad) ∧ w' = w := by
 rcases h with ⟨rfl, rfl, rfl, rfl⟩ | ⟨rb, rfl, rfl, rfl, rfl, hc, hF⟩ | ⟨rb, b, A, n, c, rfl, rfl, hne, hc, h0, h1, h2, _⟩
 ·go_enter Tryz.func77, Tryz.ntmps77
  go_wp2_with (with_reducible refine h_A ?_)
  go_ret
  exact ⟨rfl, rfl⟩
 ·go_enter Tryz.func77, Tryz.ntmps77
  go_wp2_with (with_reducible refine h_A ?_)
  refine (vbad_none w).mono ?_
  rintro e w' ⟨rfl, rfl⟩
  go_wp2_with (with_reducible refine h_A ?_)
  go_ret
  exact ⟨rfl, rfl⟩
 ·go_enter Tryz.func77, Tryz.ntmps77
  go_wp2_with (with_reducible refine h_A ?_)
  refine (vbad_some w b bad h1 h2).mono ?_
  rintro e w' ⟨rfl, rfl⟩
  go_wp2_with (with_reducible refine h_A ?_)
  go_ret
  exact ⟨rfl, rfl⟩
theorem rdleft_any {F : Nat → Prop} {w : World} {v : Value} {vb : Option Nat} {l : List UInt8} {bad : Bool} (h : Rdr F w v vb l bad) :
  Calls Tryz.prog 78 #[v] w fun e w' => e = .returned (.int .i64 l.length) ∧ w' = w := by
 rcases h with ⟨rfl, rfl, rfl, rfl⟩ | ⟨rb, rfl, rfl, rfl, rfl, hc, hF⟩ | ⟨rb, b, A, n, c, rfl, rfl, hne, hc, h0, h1, h2, _, _, hr, _⟩
 ·go_enter Tryz.func78, Tryz.ntmps78
  go_wp2_with (with_reducible refine h_A ?_)
  go_ret
  exact ⟨rfl, rfl⟩
 ·go_enter Tryz.func78, Tryz.ntmps78
  go_wp2_with (with_reducible refine h_A ?_)
  refine (vleft_none w).mono ?_
  rintro e w' ⟨rfl, rfl⟩
  go_wp2_with (with_reducible refine h_A ?_)
  go_ret
  exact ⟨rfl, rfl⟩
 ·have hl := hr.length
  go_enter Tryz.func78, Tryz.ntmps78
  go_wp2_with (with_reducible refine h_A ?_)
  refine (vleft_some w b h0).mono ?_
  rintro e w' ⟨rfl, rfl⟩
  go_wp2_with (with_reducible refine h_A ?_)
  go_ret
  rw [hl]
  exact ⟨rfl, rfl⟩
theorem rdspoil_any {F : Nat → Prop} {w : World} {v : Value} {vb : Option Nat} {l : List UInt8} {bad : Bool} (h : Rdr F w v vb l bad) :
  Calls Tryz.prog 79 #[v] w fun e w' => e = .returned (.tuple #[]) ∧ Rdr F w' v vb [] true ∧ w.grownBy w' vb := by
 rcases h with ⟨rfl, rfl, rfl, rfl⟩ | ⟨rb, rfl, rfl, rfl, rfl, hc, hF⟩ | ⟨rb, b, A, n, c, rfl, rfl, hne, hc, h0, h1, h2, hf0, hf2, hr, hA, hn, hF⟩
 ·go_enter Tryz.func79, Tryz.ntmps79
  go_wp2_with (with_reducible refine h_A ?_)
  go_end0
  exact ⟨rfl, .inl ⟨rfl, rfl, rfl, rfl⟩, World.grownBy.refl _ _⟩
 ·go_enter Tryz.func79, Tryz.ntmps79
  go_wp2_with (with_reducible refine h_A ?_)
  go_end0
  exact ⟨rfl, .inr (.inl ⟨rb, rfl, rfl, rfl, rfl, hc, hF⟩), World.grownBy.refl _ _⟩
 ·go_enter Tryz.func79, Tryz.ntmps79
  go_wp2_with (with_reducible refine h_A ?_)
  have hS : w.drew.cell? ⟨rb, 0, none⟩ = some (.pointer (some ⟨b, 0, none⟩)) := hc
  have hf0' : w.drew.frozen? ⟨b, 0, none⟩ = false := hf0
  have h0' : w.drew.cell? ⟨b, 0, none⟩ = some (.slice A n c) := h0
  refine rg_start (fun wx => wx.cell? ⟨rb, 0, none⟩ = some (.pointer (some ⟨b, 0, none⟩))) (by kernel_rfl) ?_
  refine rg_t 0 hS ?_
  simp only [List.getElem_toArray, List.getElem_cons_zero, Act.put, List.setIfInBounds_toArray, List.set_cons_zero, List.set_cons_succ]
  refine rg_t 1 hS ?_
  simp only [g_S, Act.put]
  refine rg_t 2 hS ?_
  simp only [g_S, Act.put]
  refine rg_t 3 hS ?_
  simp only [g_S, Act.put]
  refine rg_t 4 hS ?_
  simp only [g_S, Act.put]
  refine rg_t 5 hS ?_
  simp only [g_S, Act.put]
  refine rg_t 6 hS ?_
  simp only [g_S, Act.put]
  refine rg_t 7 hS ?_
  simp only [g_S, Act.put]
  refine rg_t 8 hS ?_
  simp only [g_S, Act.put]
  refine rg_t 9 hS ?_
  simp only [g_S, Act.put]
  refine rg_one 10 rfl (by kernel_rfl) rfl (fun K hK => ?_)
  go_simp
  have hS1 : (w.drew.setCell ⟨b, 0, none⟩ (.slice none 0 0)).cell? ⟨rb, 0, none⟩ = some (.pointer (some ⟨b, 0, none⟩)) := (World.cell?_setCell_far _ _ _ _ (fun e => hne e.symm)).trans hS
  have hf2' : (w.drew.setCell ⟨b, 0, none⟩ (.slice none 0 0)).frozen? ⟨b, 2, none⟩ = false := by simp [hf2]
  refine hK _ _ hS1 ?_; clear hK K
  refine rg_t 11 hS1 ?_
  simp only [g_S, Act.put]
  refine rg_t 12 hS1 ?_
  simp only [g_S, Act.put]
  refine rg_one 13 rfl (by kernel_rfl) rfl (fun K hK => ?_)
  go_simp
  refine hK _ _ ((World.cell?_setCell_far _ _ _ _ (fun e => hne e.symm)).trans hS1) ?_
  clear hK K
  refine rg_end (by kernel_rfl) ?_
  go_end0
  refine ⟨rfl, .inr (.inr ⟨rb, b, none, 0, 0, rfl, rfl, hne, ?_, ?_, ?_, ?_, ?_, ?_, Rd.nil _ _ _ _ (by simp [maxLen]) _, by simp [blk], by omega, hF.1, hF.2.1, by simp [blk]⟩), ?_⟩
  ·exact (World.cell?_setCell_far _ _ _ _ (fun e => hne e.symm)).trans hS1
  ·change World.cell? ((w.setCell ⟨b, 0, none⟩ (.slice none 0 0)).setCell ⟨b, 2, none⟩ (.bool true)) _ = _
   rw [World.cell?_setCell_other _ _ _ _ (by simp)]
   exact World.cell?_setCell_same _ _ _ h0
  ·change World.cell? ((w.setCell ⟨b, 0, none⟩ (.slice none 0 0)).setCell ⟨b, 2, none⟩ (.bool true)) _ = _
   rw [World.cell?_setCell_other _ _ _ _ (by simp), World.cell?_setCell_other _ _ _ _ (by simp)]
   exact h1
  ·change World.cell? ((w.setCell ⟨b, 0, none⟩ (.slice none 0 0)).setCell ⟨b, 2, none⟩ (.bool true)) _ = _
   refine World.cell?_setCell_same _ _ _ (u := .bool bad) ?_
   rw [World.cell?_setCell_other _ _ _ _ (by simp)]
   exact h2
  ·simp [hf0]
  ·simp [hf2]
  ·exact ((grownSet w ⟨b, 0, none⟩ (.slice none 0 0)).trans (grownSet _ ⟨b, 2, none⟩ (.bool true))).trans ⟨rfl, rfl, rfl, Nat.le_refl _, fun _ _ _ => rfl⟩

set_option maxHeartbeats 1000000 in
theorem rdtake_any {F : Nat → Prop} {w : World} {v : Value} {vb : Option Nat} {l : List UInt8} {bad : Bool} (h : Rdr F w v vb l bad) (x : Int) (hx : -9223372036854775808 ≤ x) (hx' : x ≤ 9223372036854775807) :
  Calls Tryz.prog 53 #[v, .int .i64 x] w fun e w' => ∃ A2 c2, e = .returned (.slice A2 (mtake l bad x).1.length c2) ∧ Own w' w.heap.size 5 1 A2 (mtake l bad x).1.length c2 ((mtake l bad x).1.map u8v) ∧
   Rdr F w' v vb (mtake l bad x).2.1 (mtake l bad x).2.2 ∧ w.grownBy w' vb := by
 by_cases hbad : bad = true
 ·subst hbad
  rw [mtake_no (.inl rfl)]
  go_enter Tryz.func53, Tryz.ntmps53
  go_wp2_with (with_reducible refine h_A ?_)
  refine (rdbad_any h).mono ?_
  rintro e w' ⟨rfl, rfl⟩
  go_wp2_with (with_reducible refine h_A ?_)
  refine (rdspoil_any h).mono ?_
  rintro e w1 ⟨rfl, h1, hg1⟩
  go_wp2_with (with_reducible refine h_A ?_)
  go_ret
  exact ⟨none, 0, rfl, Own.none_ _ _ _ _, h1, hg1⟩
 obtain rfl : bad = false := by simpa using hbad
 by_cases hneg : x < 0
 ·rw [mtake_no (.inr (.inl hneg))]
  go_enter Tryz.func53, Tryz.ntmps53
  go_wp2_with (with_reducible refine h_A ?_)
  refine (rdbad_any h).mono ?_
  rintro e w' ⟨rfl, rfl⟩
  go_wp2_with (with_reducible refine h_A ?_)
  refine (rdspoil_any h).mono ?_
  rintro e w1 ⟨rfl, h1, hg1⟩
  go_wp2_with (with_reducible refine h_A ?_)
  go_ret
  exact ⟨none, 0, rfl, Own.none_ _ _ _ _, h1, hg1⟩
 by_cases hlen : (l.length : Int) < x
 ·rw [mtake_no (.inr (.inr hlen))]
  go_enter Tryz.func53, Tryz.ntmps53
  go_wp2_with (with_reducible refine h_A ?_)
  refine (rdbad_any h).mono ?_
  rintro e w' ⟨rfl, rfl⟩
  go_wp2_with (with_reducible refine h_A ?_)
  refine (rdleft_any h).mono ?_
  rintro e w' ⟨rfl, rfl⟩
  go_wp2_with (with_reducible refine h_A ?_)
  refine (rdspoil_any h).mono ?_
  rintro e w1 ⟨rfl, h1, hg1⟩
  go_wp2_with (with_reducible refine h_A ?_)
  go_ret
  exact ⟨none, 0, rfl, Own.none_ _ _ _ _, h1, hg1⟩
 obtain ⟨m, rfl⟩ : ∃ m : Nat, x = m := ⟨x.toNat, by omega⟩
 have hm : m ≤ l.length := by omega
 rw [mtake_yes hm]
 have h' := h
 rcases h with ⟨_, _, _, hb⟩ | ⟨_, _, _, _, hb, _⟩ | ⟨rb, b, A, n, c, rfl, rfl, hne, hc, h0, h1, h2, hf0, hf2, hr, hA, hn, hF⟩
 ·cases hb
 ·cases hb
 have hl := hr.length
 have hcap := hr.cap
 go_enter Tryz.func53, Tryz.ntmps53
 go_wp2_with (with_reducible refine h_A ?_)
 refine (rdbad_any h').mono ?_
 rintro e w' ⟨rfl, rfl⟩
 go_wp2_with (with_reducible refine h_A ?_)
 refine (rdleft_any h').mono ?_
 rintro e w' ⟨rfl, rfl⟩
 go_wp2_with (with_reducible refine h_S ?_)
 refine unhold (wp_cut slB rfl rfl rfl hr 0 m c (.inl ⟨rfl, rfl⟩) (.inr ⟨_, _, rfl, rfl⟩) (.inl ⟨rfl, rfl⟩) (by intro h; cases h) (by omega) (by omega) (Nat.le_refl _) (by omega) ?_)
 intro A1 hr1
 simp only [Nat.zero_mul, Nat.mul_one, List.drop_zero, ← List.map_take, Nat.sub_zero] at hr1
 go_wp2_with (with_reducible refine h_S ?_)
 refine (clone_any A1 m c (l.take m) _ hr1 (by omega)).mono ?_
 rintro e w1 ⟨A2, c2, rfl, ho2, hB⟩
 go_wp2_with (with_reducible refine h_A ?_)
 have hbw : b < w'.heap.size := World.block_lt_of_cell? w' _ h0
 have hrw : rb < w'.heap.size := World.block_lt_of_cell? w' _ hc
 have hc1 : w1.drew.cell? ⟨rb, 0, none⟩ = some (.pointer (some ⟨b, 0, none⟩)) := (hB.cell hrw).trans hc
 have h01 : w1.drew.cell? ⟨b, 0, none⟩ = some (.slice A n c) := (hB.cell hbw).trans h0
 have h11 : w1.cell? ⟨b, 1, none⟩ = some (.bool true) := (hB.cell (p := ⟨b, 1, none⟩) hbw).trans h1
 have h21 : w1.cell? ⟨b, 2, none⟩ = some (.bool false) := (hB.cell (p := ⟨b, 2, none⟩) hbw).trans h2
 have hf01 : w1.drew.frozen? ⟨b, 0, none⟩ = false := (World.frozen?_of_block (w := w') (w' := w1.drew) (hB.block b hbw)).trans hf0
 have hf21 : w1.drew.frozen? ⟨b, 2, none⟩ = false := (World.frozen?_of_block (w := w') (w' := w1.drew) (hB.block b hbw)).trans hf2
 have hrr : RdB w1 w'.heap.size A n c l := hr.below hB
 have hcutA := fun wS : World => run_cutA (A := A) slB wS hr.max hr.cap (lo := some (.int .i64 (m : Int))) (hi := none) (mx := none) m n c (.inr ⟨_, _, rfl, rfl⟩) (.inl ⟨rfl, rfl⟩) (.inl ⟨rfl, rfl⟩) (by intro h; cases h) (by omega) (by omega) (Nat.le_refl _) (Nat.le_refl _)
 have hq := hcutA w1.drew
 refine rg_start (fun wx => wx.cell? ⟨rb, 0, none⟩ = some (.pointer (some ⟨b, 0, none⟩))) (by kernel_rfl) ?_
 refine rg_t 0 hc1 ?_
 simp only [List.getElem_toArray, List.getElem_cons_zero, Act.put, List.setIfInBounds_toArray, List.set_cons_zero, List.set_cons_succ]
 refine rg_t 1 hc1 ?_
 simp only [g_S, Act.put]
 refine rg_t 2 hc1 ?_
 simp only [g_S, Act.put]
 refine rg_t 3 hc1 ?_
 simp only [g_S, Act.put]
 refine rg_t 4 hc1 ?_
 simp only [g_S, Act.put]
 refine rg_t 5 hc1 ?_
 simp only [g_S, Act.put]
 refine rg_t 6 hc1 ?_
 simp only [g_S, Act.put]
 refine rg_t 7 hc1 ?_
 simp only [g_S, Act.put]
 refine rg_t 8 hc1 ?_
 simp only [g_S, Act.put]
 refine rg_t 9 hc1 ?_
 simp only [g_S, Act.put]
 refine rg_t 11 hc1 ?_
 simp only [g_S, Act.put]
 refine rg_one 10 rfl (by kernel_rfl) rfl (fun K hK => ?_)
 go_simp
 refine hK _ _ hc1 ?_; clear hK K
 refine rg_one 12 rfl (by kernel_rfl) rfl (fun K hK => ?_)
 go_simp
 refine hK _ _ hc1 ?_; clear hK K
 refine rg_t 13 hc1 ?_
 simp only [g_S, Act.put]
 refine rg_t 14 hc1 ?_
 simp only [g_S, Act.put]
 refine rg_one 15 rfl (by kernel_rfl) rfl (fun K hK => ?_)
 go_simp
 refine hK _ _ ((World.cell?_setCell_far _ _ _ _ (fun e => hne e.symm)).trans hc1) ?_
 clear hK K
 refine rg_end (by kernel_rfl) ?_
 go_wp2_with (with_reducible refine h_A ?_)
 go_ret
 have hge : ∀ g, blk A2 = some g → w'.heap.size ≤ g := fun g hg => (ho2.blk_lt hg).1
 have hg0 := (grownSet w1 ⟨b, 0, none⟩ (.slice (cutA A 1 m c) (n - m) (c - m))).trans (grownDrew _ _)
 refine ⟨A2, c2, by simp [Array.getD, Nat.min_eq_left hm], ?_, ?_, ?_⟩
 ·rw [List.length_take, Nat.min_eq_left hm]
  refine ho2.kept hg0 (.inr fun e => ?_)
  rw [ownBlock_eq] at e
  have : w'.heap.size ≤ b := hge _ e
  omega
 ·refine .inr (.inr ⟨rb, b, cutA A 1 m c, n - m, c - m, rfl, rfl, hne, ?_, ?_, ?_, ?_, ?_, ?_, ?_, ?_, by omega, hF.1, hF.2.1, fun g hg => hF.2.2 g (by rwa [cutA_blk] at hg)⟩)
  ·exact (World.cell?_setCell_far _ _ _ _ (fun e => hne e.symm)).trans hc1
  ·exact World.cell?_setCell_same _ _ _ h01
  ·exact (World.cell?_setCell_other _ _ _ _ (by simp)).trans h11
  ·exact (World.cell?_setCell_other _ _ _ _ (by simp)).trans h21
  ·simpa using hf01
  ·simpa using hf21
  ·have h3 := rd_cut hrr m n c (by omega) (by omega) (Nat.le_refl _) (Nat.le_refl _)
   have e3 : (((l.map u8v).take (n * 1)).drop (m * 1)) = (l.drop m).map u8v := by
    rw [Nat.mul_one, Nat.mul_one, List.take_of_length_le (by simp; omega), List.map_drop]
   rw [e3] at h3
   have h4 : RdB w1 w1.heap.size (cutA A 1 m c) (n - m) (c - m) (l.drop m) := h3.more hB.size
   exact (h4.grown_ne hg0 (Nat.le_refl _) (.inr (by rw [cutA_blk]; exact hA))).more hg0.size
  ·rw [cutA_blk]; exact hA
 ·exact (grownOf hB (some b)).trans hg0
end Go.PH
end
section
/- The walks of octet's reader: making one, reading numbers and texts. -/
namespace Go.PH
open Go.RowKit Go.Proofs

theorem rdopen_any (A : Option Addr) (n c : Nat) (l : List UInt8) (w : World) (hb : RdB w w.heap.size A n c l) (hn : n ≤ 140737488351240) :
  Calls Tryz.prog 52 #[.slice A n c] w fun e w' => ∃ rb b, e = .returned (.pointer (some ⟨rb, 0, none⟩)) ∧ w.heap.size ≤ rb ∧ w.heap.size ≤ b ∧ Rdr (fun g => w.heap.size ≤ g ∧ g < w'.heap.size) w' (.pointer (some ⟨rb, 0, none⟩)) (some b) l false ∧ Below w.heap.size w w' := by
 go_enter Tryz.func52, Tryz.ntmps52
 go_wp2_with (with_reducible refine h_A ?_)
 refine (clone_any A n c l w hb hn).mono ?_
 rintro e w1 ⟨A2, c2, rfl, ho2, hB⟩
 go_wp2_with (with_reducible refine h_A ?_)
 go_ret
 have hB1 : Below w.heap.size w (w1.alloc (.cells #[.slice A2 n c2, .bool true, .bool false] 151)) := hB.alloc hB.size _
 refine ⟨w1.heap.size + 1, w1.heap.size, rfl, by have := hB.size; omega, hB.size, .inr (.inr ⟨_, _, A2, n, c2, rfl, rfl, by omega, ?_, ?_, ?_, ?_, ?_, ?_, ?_, ?_, hn, ?_, ?_, ?_⟩), hB1.alloc (by have := hB1.size; omega) _⟩
 ·simp
 ·simp
 ·simp
 ·simp
 ·simp
 ·simp
 ·exact Own.rd (base := w.heap.size) (e := 5) ((ho2.alloc _).alloc _)
 ·intro e
  have := (ho2.blk_lt e).2
  omega
 ·have := hB.size; simp; omega
 ·have := hB.size; simp; omega
 ·intro g hg
  have h1 := (ho2.blk_lt hg).1
  have h2 := (ho2.blk_lt hg).2
  simp; omega

theorem be_push (k x : Nat) (hk : k < 72057594037927936) (hx : x < 256) : bits .or .u64 (IntKind.u64.wrap ((k : Int) * 256)) (x : Int) = ((256 * k + x : Nat) : Int) := by
 have h1 : IntKind.u64.wrap ((k : Int) * 256) = ((256 * k : Nat) : Int) := by rw [IntKind.wrap_u64]; omega
 rw [h1, u64_or_nat _ _ (by omega) (by omega)]
 have := Nat.two_pow_add_eq_or_of_lt (i := 8) (b := x) (by omega) k
 rw [← this]

set_option maxHeartbeats 1000000 in
theorem rdnum_any {F : Nat → Prop} {w : World} {v : Value} {vb : Option Nat} {l : List UInt8} {bad : Bool} (h : Rdr F w v vb l bad) (x : Int) (hx : -9223372036854775808 ≤ x) (hx' : x ≤ 9223372036854775807) :
  Calls Tryz.prog 54 #[v, .int .i64 x] w fun e w' => e = .returned (.int .u64 ((mnum l bad x).1 : Nat)) ∧ Rdr F w' v vb (mnum l bad x).2.1 (mnum l bad x).2.2 ∧ w.grownBy w' vb := by
 by_cases hw : wideB x = true
 ·rw [mnum_yes hw]
  have hlo : (mtake l bad x).1.length ≤ 8 := by
   have := wideB_le hw
   unfold mtake
   split
   ·simp
   ·simp only [List.length_take]; omega
  have hT := rdtake_any h x hx hx'
  generalize mtake l bad x = r at hT hlo ⊢
  obtain ⟨o, l', bad'⟩ := r
  simp only at hT hlo ⊢
  go_enter Tryz.func54, Tryz.ntmps54
  go_wp2_with (with_reducible refine h_A ?_)
  refine (wide_any x w).mono ?_
  rw [hw]
  rintro e w' ⟨rfl, rfl⟩
  go_wp2_with (with_reducible refine h_A ?_)
  refine hT.mono ?_
  rintro e w1 ⟨A2, c2, rfl, ho, hR, hg⟩
  go_wp2_with (with_reducible refine h_A ?_)
  go_loopw [17, 5] (fun i s wr => wr = w1 ∧ ∃ k : Nat, k ≤ o.length ∧ i = .int .i64 k ∧ s = .int .u64 (unbe (o.take k) : Nat)) (fun i _ _ => o.length - (RowKit.intOf i).toNat)
  case atStart => exact ⟨rfl, 0, by omega, rfl, by simp [unbe_nil]⟩
  case round =>
   obtain ⟨rfl, k, hk, rfl, rfl⟩ := hrel
   by_cases hlt : k < o.length
   ·obtain ⟨b, off, rfl, hbB, hkl, hcell⟩ := RdB.at_k ho.rd (k := k) hlt
    have hby := o[k].toNat_lt
    go_wp2_with (with_reducible refine h_A ?_)
    have hsn : unbe (o.take (k + 1)) = 256 * unbe (o.take k) + o[k].toNat := by
     rw [List.take_succ_eq_append_getElem hkl]; exact unbe_snoc _ _
    have hlt7 : unbe (o.take k) < 72057594037927936 := by
     refine Nat.lt_of_lt_of_le (unbe_lt _) ?_
     refine Nat.le_trans (Nat.pow_le_pow_right (by omega) (show (o.take k).length ≤ 7 by rw [List.length_take]; omega)) (by decide)
    exact ⟨⟨trivial, k + 1, by omega, by go_num, by rw [be_push _ _ hlt7 hby, hsn]⟩, by simp [RowKit.intOf]; omega⟩
   ·obtain rfl : k = o.length := by omega
    rw [List.take_length]
    go_wp2_with (with_reducible refine h_A ?_)
    go_ret
    exact ⟨rfl, hR, hg⟩
 ·have hw' : wideB x = false := by simpa using hw
  rw [mnum_no hw']
  go_enter Tryz.func54, Tryz.ntmps54
  go_wp2_with (with_reducible refine h_A ?_)
  refine (wide_any x w).mono ?_
  rw [hw']
  rintro e w' ⟨rfl, rfl⟩
  go_wp2_with (with_reducible refine h_A ?_)
  refine (rdspoil_any h).mono ?_
  rintro e w1 ⟨rfl, h1, hg1⟩
  go_wp2_with (with_reducible refine h_A ?_)
  go_ret
  exact ⟨rfl, h1, hg1⟩

end Go.PH
end
section
/- The walk of frame's Scan. -/
namespace Go.PH
open Go.RowKit Go.Proofs

theorem fnum_ok {l : List UInt8} {x : Nat} (hx : x = 1 ∨ x = 2 ∨ x = 4 ∨ x = 8) (h : x ≤ l.length) : mnum l false (x : Int) = (unbe (l.take x), l.drop x, false) := by
 rw [mnum_yes (wideB_yes (by omega)), mtake_yes h]
theorem byteF_eq {l : List UInt8} {i : Nat} (h : i < l.length) : byteF l i = l[i].toNat := by simp [byteF, List.getD, List.getElem?_eq_getElem h]
theorem byteF_lt (l : List UInt8) (i : Nat) : byteF l i < 256 := (l.getD i 0).toNat_lt
theorem unbe_two (l : List UInt8) (i : Nat) (h : i + 2 ≤ l.length) : unbe ((l.drop i).take 2) = 256 * byteF l i + byteF l (i + 1) := by
 rw [List.drop_eq_getElem_cons (by omega), List.drop_eq_getElem_cons (show i + 1 < l.length by omega), byteF_eq (show i < l.length by omega), byteF_eq (show i + 1 < l.length by omega), List.take_succ_cons, List.take_succ_cons, List.take_zero]
 unfold unbe
 simp only [List.foldl_cons, List.foldl_nil]
 omega
theorem byteF_take (l : List UInt8) (i k : Nat) (h : i < k) : byteF (l.take k) i = byteF l i := by
 simp [byteF, List.getD, List.getElem?_take, h]
theorem frN_eq (l : List UInt8) : frN l = 256 * byteF l 2 + byteF l 3 := rfl
theorem frScan_at {rest : List UInt8} {l : List Fr} {u : Nat} {fs r : List Fr × Nat × Nat} (h : fs = (l ++ (frScan rest).1, u + (frScan rest).2.1, (frScan rest).2.2)) (hr : frScan rest = r) : fs = (l ++ r.1, u + r.2.1, r.2.2) := by rw [h, hr]

set_option maxRecDepth 20000 in
set_option maxHeartbeats 4000000 in
theorem scan_any (A : Option Addr) (n c : Nat) (b : List UInt8) (w : World) (hr : RdB w w.heap.size A n c b) (hn : n ≤ 1000000000) :
  Calls Tryz.prog 38 #[.slice A n c] w fun e w' => ∃ A2 c2, e = .returned (.tuple #[.slice A2 (frScan b).1.length c2, .int .i64 (frScan b).2.1, .int .i64 (frScan b).2.2]) ∧ OwnF w' w.heap.size A2 (frScan b).1.length c2 (frScan b).1 ∧ Below w.heap.size w w' := by
 have hl := RdB.length hr
 have hcap := hr.cap
 obtain ⟨fs, hfs⟩ : ∃ fs, fs = frScan b := ⟨_, rfl⟩
 rw [← hfs]
 go_enter Tryz.func38, Tryz.ntmps38
 go_wp2_with (with_reducible refine h_A ?_)
 go_loopw [6, 5] (fun s v wr => ∃ (u N c2 : Nat) (A2 : Option Addr) (l : List Fr), u ≤ n ∧ s = .int .i64 u ∧ v = .slice A2 N c2 ∧ l.length = N ∧ N ≤ u ∧ fs = (l ++ (frScan (b.drop u)).1, u + (frScan (b.drop u)).2.1, (frScan (b.drop u)).2.2) ∧ OwnF wr w.heap.size A2 N c2 l ∧ Below w.heap.size w wr) (fun s _ _ => n - (RowKit.intOf s).toNat)
 case atStart => exact ⟨0, 0, 0, none, [], by omega, rfl, rfl, rfl, by omega, by rw [hfs]; simp, Own.none_ _ _ _ _, Below.refl _ _⟩
 case round =>
  obtain ⟨u, N, c2, A2, l, hu, rfl, rfl, hlN, hNu, hsc, ho, hBr⟩ := hrel
  have HSC := Lib.hid hsc
  have HLN := Lib.hid hlN
  clear hsc hfs hlN
  have hz := hBr.size
  go_wp2_with (with_reducible refine h_S ?_)
  refine unhold (wp_cutB slB rfl rfl rfl (hr.below hBr) u n c (.inr ⟨_, _, rfl, rfl⟩) (.inl ⟨rfl, rfl⟩) (.inl ⟨rfl, rfl⟩) (by intro h; cases h) (by omega) (by omega) (Nat.le_refl _) (Nat.le_refl _) ?_)
  intro A3 hr3 _
  simp only [Nat.mul_one] at hr3
  rw [List.take_of_length_le (by simp; omega), ← List.map_drop] at hr3
  have hrl : (b.drop u).length = n - u := by simp; omega
  generalize hrest : b.drop u = rest at *
  have HREST := Lib.hid hrest
  clear hrest
  obtain ⟨R, hR⟩ : ∃ R, R = n - u := ⟨_, rfl⟩
  obtain ⟨D, hD⟩ : ∃ D, D = c - u := ⟨_, rfl⟩
  rw [← hR, ← hD] at hr3 ⊢
  rw [← hR] at hrl
  have hRn : R ≤ 1000000000 := by omega
  have HRU := Lib.hid (show R + u = n by omega)
  clear hR hD
  have hback : Rd w w.heap.size 1 A3 R D (rest.map u8v) := Rd.keep hr3 (fun p hp => (hBr.cell hp).symm)
  have hwl := well_any A3 R D rest w.heap.size wr hr3 hz (by omega)
  cases hwell : frWell rest
  ·rw [hwell] at hwl
   have HF := Lib.hid (frScan_at HSC.out (frScan_bad hwell))
   clear hwell
   go_wp2_with (with_reducible refine h_A ?_)
   refine hwl.mono ?_
   rintro e w1 ⟨rfl, hB1⟩
   have hB2 := hBr.trans (hB1.mono hz)
   have ho2 := own_below ho hB1
   go_wp2_with (with_reducible refine h_A ?_)
   go_ret3
   rw [HF.out]
   simp only [List.append_nil, Nat.add_zero]
   rw [HLN.out]
   exact ⟨A2, c2, rfl, ho2, hB2⟩
  ·rw [hwell] at hwl
   by_cases h12 : rest.length < 12
   ·have hd12 : (R : Int) < 12 := by omega
    have HF := Lib.hid (frScan_at HSC.out (frScan_short hwell h12))
    clear hwell h12
    go_wp2_with (with_reducible refine h_A ?_)
    refine hwl.mono ?_
    rintro e w1 ⟨rfl, hB1⟩
    have hB2 := hBr.trans (hB1.mono hz)
    have ho2 := own_below ho hB1
    go_wp2_with (with_reducible refine h_A ?_)
    go_ret3
    rw [HF.out]
    simp only [List.append_nil, Nat.add_zero]
    rw [HLN.out]
    exact ⟨A2, c2, rfl, ho2, hB2⟩
   ·have hd12 : ¬ (R : Int) < 12 := by omega
    have hNb := frWell_n hwell (by omega)
    have hb0 := frWell_at hwell (k := 0) (by omega) (by omega) (by omega)
    have HW := Lib.hid hwell
    clear hwell
    have hxl : (rest.take 12).length = 12 := by simp; omega
    have hm0 : mtake (rest.take 12) false 2 = ((rest.take 12).take 2, (rest.take 12).drop 2, false) := mtake_yes (n := 2) (by omega)
    have hm1 : mnum ((rest.take 12).drop 2) false 2 = (frN rest, (rest.take 12).drop 4, false) := by
     refine (fnum_ok (x := 2) (by omega) (by simp; omega)).trans ?_
     rw [unbe_two _ 2 (by omega), byteF_take _ _ _ (by omega), byteF_take _ _ _ (by omega), frN_eq, List.drop_drop]
    have hm2 : mtake ((rest.take 12).drop 4) false 2 = (((rest.take 12).drop 4).take 2, (rest.take 12).drop 6, false) := (mtake_yes (n := 2) (by simp; omega)).trans (by rw [List.drop_drop])
    have hm3 : mnum ((rest.take 12).drop 6) false 2 = (256 * byteF rest 6 + byteF rest 7, (rest.take 12).drop 8, false) := by
     refine (fnum_ok (x := 2) (by omega) (by simp; omega)).trans ?_
     rw [unbe_two _ 6 (by omega), byteF_take _ _ _ (by omega), byteF_take _ _ _ (by omega), List.drop_drop]
    go_wp2_with (with_reducible refine h_A ?_)
    refine hwl.mono ?_
    rintro e w1 ⟨rfl, hB1⟩
    have hB2 := hBr.trans (hB1.mono hz)
    have ho2 := own_below ho hB1
    have hr31 := hr3.below (hB1.mono hz)
    have hz1 := hB2.size
    clear ho hBr hB1
    go_wp2_with (with_reducible refine h_S ?_)
    refine unhold (wp_cutB slB rfl rfl rfl hr31 0 12 D (.inl ⟨rfl, rfl⟩) (.inr ⟨_, _, rfl, rfl⟩) (.inl ⟨rfl, rfl⟩) (by intro h; cases h) (by omega) (by have := hr31.cap; omega) (Nat.le_refl _) (by omega) ?_)
    intro A4 hr4 _
    simp only [Nat.mul_one, Nat.zero_mul, List.drop_zero, ← List.map_take, Nat.sub_zero] at hr4 ⊢
    go_wp2_with (with_reducible refine h_A ?_)
    refine (rdopen_any A4 12 D (rest.take 12) w1 (hr4.more hz1) (by omega)).mono ?_
    rintro e w2 ⟨rb, vb, rfl, hrb, hvb, hRd, hB3⟩
    have hB4 := hB2.trans (hB3.mono hz1)
    have ho3 := own_below ho2 hB3
    have hz2 : w1.heap.size ≤ w2.heap.size := hB3.size
    have hA2 : ∀ g, blk A2 = some g → g < w1.heap.size := fun g hg => (ho2.blk_lt hg).2
    clear ho2 hB3
    have hFv : w1.heap.size ≤ vb ∧ vb < w2.heap.size := hRd.inF rfl
    have hAF : ∀ g, blk A2 = some g → some vb ≠ some g := by
     intro g hg e
     injection e with e
     have := hA2 g hg
     omega
    have hvw : ∀ g, some vb = some g → w.heap.size ≤ g := fun g hg => by injection hg with hg; omega
    have ht1 := rdtake_any hRd 2 (by omega) (by omega)
    rw [hm0] at ht1
    go_wp2_with (with_reducible refine h_A ?_)
    refine ht1.mono ?_
    rintro e w3 ⟨A5, c5, rfl, _, hRd3, hg3⟩
    have hB5 := hB4.grown hg3 hB4.size hvw
    have ho4 := own_stays ho3 hg3 hAF
    have hn1 := rdnum_any hRd3 2 (by omega) (by omega)
    rw [hm1] at hn1
    obtain ⟨Nn, hNn⟩ : ∃ Nn, Nn = frN rest := ⟨_, rfl⟩
    rw [← hNn] at hn1 hNb
    have HNN := Lib.hid hNn
    clear hNn ht1 hm0 hm1 hRd hg3 ho3 hB4
    have hwn : IntKind.i64.wrap ((Nn : Nat) : Int) = (Nn : Int) := IntWalk.i64_in _ ⟨by omega, by omega⟩
    go_wp2_with (with_reducible refine h_A ?_)
    refine hn1.mono ?_
    rintro e w4 ⟨rfl, hRd4, hg4⟩
    have hB6 := hB5.grown hg4 hB5.size hvw
    have ho5 := own_stays ho4 hg4 hAF
    clear hn1 hg4 hRd3 ho4 hB5
    by_cases hwait : R < Nn
    ·have hdw : (R : Int) < (Nn : Int) := by omega
     have HF := Lib.hid (frScan_at HSC.out (frScan_wait HW.out (by omega) (by rw [← HNN.out]; omega)))
     go_wp2_with (with_reducible refine h_A ?_)
     go_ret3
     rw [HF.out]
     simp only [List.append_nil, Nat.add_zero]
     rw [HLN.out]
     exact ⟨A2, c2, rfl, ho5, hB6⟩
    ·have hdw : ¬ (R : Int) < (Nn : Int) := by omega
     have HF := Lib.hid (frScan_at HSC.out (frScan_more HW.out (by omega) (by rw [← HNN.out]; omega)))
     have ht2 := rdtake_any hRd4 2 (by omega) (by omega)
     rw [hm2] at ht2
     go_wp2_with (with_reducible refine h_A ?_)
     refine ht2.mono ?_
     rintro e w5 ⟨A6, c6, rfl, _, hRd5, hg5⟩
     have hB7 := hB6.grown hg5 hB6.size hvw
     have ho6 := own_stays ho5 hg5 hAF
     have hn2 := rdnum_any (Rdr.drew hRd5) 2 (by omega) (by omega)
     rw [hm3] at hn2
     clear ht2 hm2 hm3 hRd4 hg5 ho5 hB6
     have hr35 : RdB w5 w.heap.size A3 R D rest := Rd.below hback hB7
     obtain ⟨xb, xo, rfl, hxb, hx0l, hx0⟩ := RdB.at_k hr35 (k := 0) (by omega)
     obtain ⟨xb1, xo1, e1, _, hx1l, hx1⟩ := RdB.at_k hr35 (k := 1) (by omega)
     obtain ⟨xb5, xo5, e5, _, hx5l, hx5⟩ := RdB.at_k hr35 (k := 5) (by omega)
     obtain ⟨rfl, rfl⟩ : xb = xb1 ∧ xo = xo1 := by simpa using e1
     obtain ⟨rfl, rfl⟩ : xb = xb5 ∧ xo = xo5 := by simpa using e5
     clear e1 e5
     rw [← byteF_eq hx0l] at hx0
     rw [← byteF_eq hx1l] at hx1
     rw [← byteF_eq hx5l] at hx5
     have hy0 := byteF_lt rest 0
     have hy6 := byteF_lt rest 6
     have hy7 := byteF_lt rest 7
     have hcut := rd_cut hr35 12 Nn D (by omega) (by have := hr35.cap; omega) (Nat.le_refl _) (by omega)
     simp only [Nat.mul_one, ← List.map_take, ← List.map_drop] at hcut
     have hfr : Hid (frAt rest Nn = ⟨byteF rest 0 / 8 % 2 == 1, byteF rest 0 / 4 % 2 == 1, byteF rest 0 / 2 % 2 == 1, byteF rest 0 % 2 == 1, byteF rest 1, byteF rest 5, 256 * byteF rest 6 + byteF rest 7, (rest.take Nn).drop 12⟩) := Lib.hid rfl
     have hb15 : byteF rest 0 < 16 := by have : frMost 0 = 15 := rfl; omega
     have hand := and_bit ⟨byteF rest 0, hb15⟩
     simp only at hand
     obtain ⟨ha8, ha4, ha2, ha1⟩ := hand
     obtain ⟨ch, hch⟩ : ∃ ch, ch = 256 * byteF rest 6 + byteF rest 7 := ⟨_, rfl⟩
     rw [← hch] at hn2 hfr
     have hchb : ch < 65536 := by omega
     generalize byteF rest 0 = x0 at *
     generalize byteF rest 1 = x1 at *
     generalize byteF rest 5 = x5 at *
     generalize (x0 / 8 % 2 == 1) = f1 at *
     generalize (x0 / 4 % 2 == 1) = f2 at *
     generalize (x0 / 2 % 2 == 1) = f3 at *
     generalize (x0 % 2 == 1) = f4 at *
     clear hch hy6 hy7
     have hwch : IntKind.u16.wrap ((ch : Nat) : Int) = (ch : Int) := IntWalk.u16_in _ ⟨by omega, by omega⟩
     generalize (rest.take Nn).drop 12 = ld at *
     have hkeep : ∀ w' : World, Below w.heap.size w5 w' → (fun wx : World => wx.cell? ⟨xb, xo, none⟩ = some (.int .u8 (x0 : Int)) ∧ wx.cell? ⟨xb, xo + 1, none⟩ = some (.int .u8 (x1 : Int)) ∧ wx.cell? ⟨xb, xo + 5, none⟩ = some (.int .u8 (x5 : Int)) ∧ RdB wx w.heap.size (cutA (some ⟨xb, xo, none⟩) 1 12 D) (Nn - 12) (D - 12) ld) w' := fun w' h =>
      ⟨(h.cell (p := ⟨xb, xo + 0, none⟩) hxb).trans hx0, (h.cell (p := ⟨xb, xo + 1, none⟩) hxb).trans hx1, (h.cell (p := ⟨xb, xo + 5, none⟩) hxb).trans hx5, Rd.below hcut h⟩
     have hS := hkeep w5.drew (below_drewN (Below.refl _ _) 1)
     simp only at hS hkeep
     have hz5 := hB7.size
     have hR0 : 0 < R := by omega
     have hR1 : (1 : Int) < (R : Int) := by omega
     have hR5 : (5 : Int) < (R : Int) := by omega
     go_wp2_with (with_reducible refine h_A ?_)
     refine rg_start (fun wx : World => wx.cell? ⟨xb, xo, none⟩ = some (.int .u8 (x0 : Int)) ∧ wx.cell? ⟨xb, xo + 1, none⟩ = some (.int .u8 (x1 : Int)) ∧ wx.cell? ⟨xb, xo + 5, none⟩ = some (.int .u8 (x5 : Int)) ∧ RdB wx w.heap.size (cutA (some ⟨xb, xo, none⟩) 1 12 D) (Nn - 12) (D - 12) ld) (by kernel_rfl) ?_
     refine rg_t 0 hS ?_
     simp only [List.getElem_toArray, List.getElem_cons_zero, Act.put, List.setIfInBounds_toArray, List.set_cons_zero, List.set_cons_succ]
     refine rg_t 1 hS ?_
     simp only [g_S, Act.put]
     refine rg_t 2 hS ?_
     simp only [g_S, Act.put]
     refine rg_t 3 hS ?_
     simp only [g_S, Act.put]
     refine rg_t 4 hS ?_
     simp only [g_S, Act.put]
     refine rg_t 5 hS ?_
     simp only [g_S, Act.put]
     refine rg_t 6 hS ?_
     simp only [g_S, Act.put]
     refine rg_t 7 hS ?_
     simp only [g_S, Act.put]
     refine rg_t 8 hS ?_
     simp only [g_S, Act.put]
     refine rg_t 9 hS ?_
     simp only [g_S, Act.put]
     refine rg_t 10 hS ?_
     simp only [g_S, Act.put]
     refine rg_t 11 hS ?_
     simp only [g_S, Act.put]
     refine rg_t 12 hS ?_
     simp only [g_S, Act.put]
     refine rg_t 13 hS ?_
     simp only [g_S, Act.put]
     refine rg_t 14 hS ?_
     simp only [g_S, Act.put]
     refine rg_t 15 hS ?_
     simp only [g_S, Act.put]
     refine rg_t 16 hS ?_
     simp only [g_S, Act.put]
     refine rg_t 17 hS ?_
     simp only [g_S, Act.put]
     refine rg_t 18 hS ?_
     simp only [g_S, Act.put]
     refine rg_t 19 hS ?_
     simp only [g_S, Act.put]
     refine rg_t 20 hS ?_
     simp only [g_S, Act.put]
     refine rg_t 21 hS ?_
     simp only [g_S, Act.put]
     refine rg_t 22 hS ?_
     simp only [g_S, Act.put]
     refine rg_t 23 hS ?_
     simp only [g_S, Act.put]
     refine rg_t 24 hS ?_
     simp only [g_S, Act.put]
     refine rg_t 25 hS ?_
     simp only [g_S, Act.put]
     refine rg_t 26 hS ?_
     simp only [g_S, Act.put]
     refine rg_t 27 hS ?_
     simp only [g_S, Act.put]
     refine rg_t 30 hS ?_
     simp only [g_S, Act.put]
     refine rg_t 31 hS ?_
     simp only [g_S, Act.put]
     have hc1 : Bd (some (Value.int .i64 12)) 0 12 := .inr ⟨_, _, rfl, rfl⟩
     have hc2 : Bd (some (Value.int .i64 (Nn : Int))) R Nn := .inr ⟨_, _, rfl, rfl⟩
     refine rg_slice 32 slB rfl (by kernel_rfl) (by kernel_rfl) (by kernel_rfl) hS rfl rfl rfl hr35.max hr35.cap 12 Nn D hc1 hc2 (.inl ⟨rfl, rfl⟩) (fun h => by cases h) (by omega) (by have := hr35.cap; omega) (Nat.le_refl _) (by omega) ?_
     simp only [g_S, Act.put]
     refine rg_take 33 (v := ?_) rfl (by kernel_rfl) (by kernel_rfl) (by kernel_rfl) hS rfl ?_ ?_
     rotate_left
     ·intro wS hSw; have hv := run_strB (w := wS) hSw.2.2.2; go_simp; (with_reducible rfl)
     simp only [g_S, Act.put]
     refine rg_one 28 rfl (by kernel_rfl) rfl (fun K hK => ?_)
     go_simp
     refine hn2.mono ?_
     rintro e w6 ⟨rfl, _, hg6⟩
     have hB56 : Below w.heap.size w5 w6 := (below_drewN (Below.refl w.heap.size w5) 1).grown hg6 hz5 hvw
     have hB8 := hB7.trans hB56
     have hS6 := hkeep w6 hB56
     have ho7 : OwnF w6 w.heap.size A2 N c2 l := own_stays (w := w5.drew) ho6 hg6 hAF
     have hz6 := hB8.size
     clear hn2 hg6 ho6
     refine hK _ _ hS6 ?_; clear hK K
     refine rg_t 29 hS6 ?_
     simp only [g_S, Act.put]
     refine rg_t 34 hS6 ?_
     simp only [g_S, Act.put]
     have hS7 := hkeep (w6.alloc (.cells #[.bool f1, .bool f2, .bool f3, .bool f4, .int .u8 (x1 : Int), .int .u8 (x5 : Int), .int .u16 (ch : Int), .string (str ld)] 97)) (hB56.alloc hz6 _)
     refine rg_one 35 rfl (by kernel_rfl) rfl (fun K hK => ?_)
     go_simp
     refine hK _ _ hS7 ?_
     clear hK K
     refine rg_one 36 rfl (by kernel_rfl) rfl (fun K hK => ?_)
     refine op_rec (W := w6) frShape slF Tryz.underlying65 rfl rfl rfl rfl ⟨f1, f2, f3, f4, x1, x5, ch, ld⟩ rfl ho7 (by omega) (by omega) hz6 ?_
     intro A8 c8 w8 ho8 hg8 _ hB68
     have hB58 := hB56.trans hB68
     have hS8 := hkeep w8 hB58
     have hB9 := hB7.trans hB58
     simp only [g_S, Act.put]
     refine hK _ _ hS8 ?_
     clear hK K
     refine rg_t 37 hS8 ?_
     simp only [g_S, Act.put]
     refine rg_end (by kernel_rfl) ?_
     have hwu : IntKind.i64.wrap ((u : Int) + (Nn : Int)) = ((u + Nn : Nat) : Int) := by rw [IntWalk.i64_in _ ⟨by omega, by omega⟩]; omega
     have hdr : rest.drop Nn = b.drop (u + Nn) := by rw [← HREST.out, List.drop_drop]
     have hfs2 : fs = ((l ++ [⟨f1, f2, f3, f4, x1, x5, ch, ld⟩]) ++ (frScan (b.drop (u + Nn))).1, (u + Nn) + (frScan (b.drop (u + Nn))).2.1, (frScan (b.drop (u + Nn))).2.2) := by
      rw [HF.out, ← HNN.out, hfr.out, hdr]; simp [Nat.add_assoc]
     have HFS := Lib.hid hfs2
     clear hdr hfs2
     go_wp2_with (with_reducible refine h_A ?_)
     have hRU := HRU.out
     exact ⟨⟨u + Nn, N + 1, c8, A8, l ++ [⟨f1, f2, f3, f4, x1, x5, ch, ld⟩], by omega, by first | rfl | go_num, rfl, by simp [HLN.out], by omega, HFS.out, ho8, hB9⟩, by simp [RowKit.intOf]; omega⟩
end Go.PH
end
section
/- The walk of the laws' bytes: the frames that may be, and their bytes one behind the other. -/
namespace Go.PH
open Go.RowKit Go.Proofs

def frOks (l : List Fr) : List Fr := l.filter Fr.ok
def frBytes (l : List Fr) : List UInt8 := (frOks l).flatMap Fr.bytes
theorem Fr.bytes_length (f : Fr) : f.bytes.length = 12 + f.load.length := by simp [Fr.bytes, be_length]; omega
end Go.PH
end
section
/- The walk of the reference's Same: frames as structs are the same, or not. -/
namespace Go.PH
open Go.RowKit Go.Proofs

end Go.PH
end
section
/- More about scanning: lengths; frames' bytes scanned; what is scanned, put again; pieces. -/
namespace Go.PH

theorem frScan_le (b : List UInt8) : (frScan b).1.length * 12 ≤ (frScan b).2.1 ∧ (frScan b).2.1 ≤ b.length := by
 induction hn : b.length using Nat.strongRecOn generalizing b with
 | ind n ih =>
  subst hn
  by_cases hw : frWell b = false
  ·rw [frScan_bad hw]; simp
  ·have hw1 : frWell b = true := by simpa using hw
   by_cases h12 : b.length < 12
   ·rw [frScan_short hw1 h12]; simp
   ·by_cases hl : b.length < frN b
    ·rw [frScan_wait hw1 (by omega) hl]; simp
    ·have hN := (frWell_n hw1 (by omega)).1
     rw [frScan_more hw1 (by omega) (by omega)]
     have := ih _ (by rw [List.length_drop]; omega) (b.drop (frN b)) rfl
     rw [List.length_drop] at this
     simp only [List.length_cons]
     omega
end Go.PH
end

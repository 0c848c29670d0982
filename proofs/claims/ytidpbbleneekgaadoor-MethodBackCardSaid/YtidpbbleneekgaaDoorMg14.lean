/- Texts laid together: MdGet0, MdHead. -/
import Derived.Test.YtidpbbleneekgaaDoorMg03
import Derived.Test.YtidpbbleneekgaaDoorMg13
section
/- The walk of method's Get at bytes of a method that has no arguments; bytes.Equal; the readers' map. -/
set_option linter.all false
set_option linter.unusedSimpArgs false
set_option linter.unusedVariables false
namespace Go.PH
open Go.RowKit Go.Proofs

theorem bytesequal_any (A : Option Addr) (n c : Nat) (l : List UInt8) (A' : Option Addr) (n' c' : Nat) (l' : List UInt8) (B B' : Nat) (w : World) (hr : RdB w B A n c l) (hr' : RdB w B' A' n' c' l') (hn : n ≤ 140737488351240) (hn' : n' ≤ 140737488351240) :
    Calls Tryd.prog 26 #[.slice A n c, .slice A' n' c'] w fun e w' => e = .returned (.bool (decide (l = l'))) ∧ w = w' := by
  have h1 := run_str (P := Tryd.prog) Tryd.underlying25 Tryd.underlying9 Tryd.underlying5 hr
  have h2 := run_str (P := Tryd.prog) Tryd.underlying25 Tryd.underlying9 Tryd.underlying5 hr'
  by_cases h : l = l'
  · have hq : ((str l).toList == (str l').toList) = true := by rw [str_toList, str_toList]; simpa using h
    rw [decide_eq_true h]
    clear h
    go_enter Tryd.func26, Tryd.ntmps26
    go_wp2_with (first | (with_reducible refine hold_append ?_) | (with_reducible refine hold_make ?_) | (with_reducible refine hold_copy ?_))
    go_ret
    exact ⟨rfl, rfl⟩
  · have hq : ((str l).toList == (str l').toList) = false := by rw [str_toList, str_toList]; simpa using h
    rw [decide_eq_false h]
    clear h
    go_enter Tryd.func26, Tryd.ntmps26
    go_wp2_with (first | (with_reducible refine hold_append ?_) | (with_reducible refine hold_make ?_) | (with_reducible refine hold_copy ?_))
    go_ret
    exact ⟨rfl, rfl⟩
def rawV : Value → Option (DataW Value × List MemPlace) := fun v => some (.held v, [])
theorem readers_any (w : World) : Calls Tryd.prog 25 #[] w fun e w' => ∃ mb, e = .returned (.map (some mb)) ∧ Below w.heap.size w w' := by
  have hmk := fun W => run_makeMap (P := Tryd.prog) 69 W
  have hmap := World.ownsMap_made w Tryd.prog 5 rawV
  have hB := (Below.refl w.heap.size w).alloc (Nat.le_refl _) (.map #[] 0)
  go_enter Tryd.func25, Tryd.ntmps25
  go_wp2_with (first | (with_reducible refine hold_append ?_) | (with_reducible refine hold_make ?_) | (with_reducible refine hold_copy ?_) | (with_reducible refine hold_insert ?_) | (with_reducible refine hold_range ?_) | (with_reducible refine hold_next ?_))
  obtain ⟨mb, hmb⟩ : ∃ m, m = w.heap.size := ⟨_, rfl⟩
  rw [← hmb] at hmap ⊢
  have hmw : w.heap.size ≤ mb := by omega
  clear hmb hmk
  generalize (w.alloc (.map #[] 0)) = v1 at *
  refine unhold (wpList_insert_own (H := Value) _ rfl _ _ _ 69 rfl 5 71 u8_keyedM Tryd.underlying69 rawV _ _ _ rfl hmap (by simp [maxLen]) _ _ (.int .u8 98) rfl rfl (Maps.keyOf_int_mk Tryd.underlying5 (by decide)) _ [] rfl ?_)
  intro v2 hmap2 hgm
  have hB2 := hB.grown hgm hB.size (fun g hg => by injection hg with hg; omega)
  clear hmap hgm hB
  have hmap := hmap2
  have hB := hB2
  clear hmap2 hB2
  generalize v2 = v1 at *
  go_wp2_with (first | (with_reducible refine hold_append ?_) | (with_reducible refine hold_make ?_) | (with_reducible refine hold_copy ?_) | (with_reducible refine hold_insert ?_) | (with_reducible refine hold_range ?_) | (with_reducible refine hold_next ?_))
  refine unhold (wpList_insert_own (H := Value) _ rfl _ _ _ 69 rfl 5 71 u8_keyedM Tryd.underlying69 rawV _ _ _ rfl hmap (by simp [maxLen]) _ _ (.int .u8 110) rfl rfl (Maps.keyOf_int_mk Tryd.underlying5 (by decide)) _ [] rfl ?_)
  intro v2 hmap2 hgm
  have hB2 := hB.grown hgm hB.size (fun g hg => by injection hg with hg; omega)
  clear hmap hgm hB
  have hmap := hmap2
  have hB := hB2
  clear hmap2 hB2
  generalize v2 = v1 at *
  go_wp2_with (first | (with_reducible refine hold_append ?_) | (with_reducible refine hold_make ?_) | (with_reducible refine hold_copy ?_) | (with_reducible refine hold_insert ?_) | (with_reducible refine hold_range ?_) | (with_reducible refine hold_next ?_))
  refine unhold (wpList_insert_own (H := Value) _ rfl _ _ _ 69 rfl 5 71 u8_keyedM Tryd.underlying69 rawV _ _ _ rfl hmap (by simp [maxLen]) _ _ (.int .u8 119) rfl rfl (Maps.keyOf_int_mk Tryd.underlying5 (by decide)) _ [] rfl ?_)
  intro v2 hmap2 hgm
  have hB2 := hB.grown hgm hB.size (fun g hg => by injection hg with hg; omega)
  clear hmap hgm hB
  have hmap := hmap2
  have hB := hB2
  clear hmap2 hB2
  generalize v2 = v1 at *
  go_wp2_with (first | (with_reducible refine hold_append ?_) | (with_reducible refine hold_make ?_) | (with_reducible refine hold_copy ?_) | (with_reducible refine hold_insert ?_) | (with_reducible refine hold_range ?_) | (with_reducible refine hold_next ?_))
  refine unhold (wpList_insert_own (H := Value) _ rfl _ _ _ 69 rfl 5 71 u8_keyedM Tryd.underlying69 rawV _ _ _ rfl hmap (by simp [maxLen]) _ _ (.int .u8 100) rfl rfl (Maps.keyOf_int_mk Tryd.underlying5 (by decide)) _ [] rfl ?_)
  intro v2 hmap2 hgm
  have hB2 := hB.grown hgm hB.size (fun g hg => by injection hg with hg; omega)
  clear hmap hgm hB
  have hmap := hmap2
  have hB := hB2
  clear hmap2 hB2
  generalize v2 = v1 at *
  go_wp2_with (first | (with_reducible refine hold_append ?_) | (with_reducible refine hold_make ?_) | (with_reducible refine hold_copy ?_) | (with_reducible refine hold_insert ?_) | (with_reducible refine hold_range ?_) | (with_reducible refine hold_next ?_))
  refine unhold (wpList_insert_own (H := Value) _ rfl _ _ _ 69 rfl 5 71 u8_keyedM Tryd.underlying69 rawV _ _ _ rfl hmap (by simp [maxLen]) _ _ (.int .u8 115) rfl rfl (Maps.keyOf_int_mk Tryd.underlying5 (by decide)) _ [] rfl ?_)
  intro v2 hmap2 hgm
  have hB2 := hB.grown hgm hB.size (fun g hg => by injection hg with hg; omega)
  clear hmap hgm hB
  have hmap := hmap2
  have hB := hB2
  clear hmap2 hB2
  generalize v2 = v1 at *
  go_wp2_with (first | (with_reducible refine hold_append ?_) | (with_reducible refine hold_make ?_) | (with_reducible refine hold_copy ?_) | (with_reducible refine hold_insert ?_) | (with_reducible refine hold_range ?_) | (with_reducible refine hold_next ?_))
  refine unhold (wpList_insert_own (H := Value) _ rfl _ _ _ 69 rfl 5 71 u8_keyedM Tryd.underlying69 rawV _ _ _ rfl hmap (by simp [maxLen]) _ _ (.int .u8 116) rfl rfl (Maps.keyOf_int_mk Tryd.underlying5 (by decide)) _ [] rfl ?_)
  intro v2 hmap2 hgm
  have hB2 := hB.grown hgm hB.size (fun g hg => by injection hg with hg; omega)
  clear hmap hgm hB
  have hmap := hmap2
  have hB := hB2
  clear hmap2 hB2
  generalize v2 = v1 at *
  go_wp2_with (first | (with_reducible refine hold_append ?_) | (with_reducible refine hold_make ?_) | (with_reducible refine hold_copy ?_) | (with_reducible refine hold_insert ?_) | (with_reducible refine hold_range ?_) | (with_reducible refine hold_next ?_))
  refine unhold (wpList_insert_own (H := Value) _ rfl _ _ _ 69 rfl 5 71 u8_keyedM Tryd.underlying69 rawV _ _ _ rfl hmap (by simp [maxLen]) _ _ (.int .u8 120) rfl rfl (Maps.keyOf_int_mk Tryd.underlying5 (by decide)) _ [] rfl ?_)
  intro v2 hmap2 hgm
  have hB2 := hB.grown hgm hB.size (fun g hg => by injection hg with hg; omega)
  clear hmap hgm hB
  have hmap := hmap2
  have hB := hB2
  clear hmap2 hB2
  generalize v2 = v1 at *
  go_wp2_with (first | (with_reducible refine hold_append ?_) | (with_reducible refine hold_make ?_) | (with_reducible refine hold_copy ?_) | (with_reducible refine hold_insert ?_) | (with_reducible refine hold_range ?_) | (with_reducible refine hold_next ?_))
  refine unhold (wpList_insert_own (H := Value) _ rfl _ _ _ 69 rfl 5 71 u8_keyedM Tryd.underlying69 rawV _ _ _ rfl hmap (by simp [maxLen]) _ _ (.int .u8 114) rfl rfl (Maps.keyOf_int_mk Tryd.underlying5 (by decide)) _ [] rfl ?_)
  intro v2 hmap2 hgm
  have hB2 := hB.grown hgm hB.size (fun g hg => by injection hg with hg; omega)
  clear hmap hgm hB
  have hmap := hmap2
  have hB := hB2
  clear hmap2 hB2
  generalize v2 = v1 at *
  go_wp2_with (first | (with_reducible refine hold_append ?_) | (with_reducible refine hold_make ?_) | (with_reducible refine hold_copy ?_) | (with_reducible refine hold_insert ?_) | (with_reducible refine hold_range ?_) | (with_reducible refine hold_next ?_))
  refine unhold (wpList_insert_own (H := Value) _ rfl _ _ _ 69 rfl 5 71 u8_keyedM Tryd.underlying69 rawV _ _ _ rfl hmap (by simp [maxLen]) _ _ (.int .u8 118) rfl rfl (Maps.keyOf_int_mk Tryd.underlying5 (by decide)) _ [] rfl ?_)
  intro v2 hmap2 hgm
  have hB2 := hB.grown hgm hB.size (fun g hg => by injection hg with hg; omega)
  clear hmap hgm hB
  have hmap := hmap2
  have hB := hB2
  clear hmap2 hB2
  generalize v2 = v1 at *
  go_wp2_with (first | (with_reducible refine hold_append ?_) | (with_reducible refine hold_make ?_) | (with_reducible refine hold_copy ?_) | (with_reducible refine hold_insert ?_) | (with_reducible refine hold_range ?_) | (with_reducible refine hold_next ?_))
  go_ret
  exact ⟨mb, rfl, hB⟩
theorem alloc_stepM (w : World) (cs : Array Value) (t : TypeId) : ∃ (b : Nat) (v : World), b = w.heap.size ∧ v = w.alloc (.cells cs t) ∧ Box v b t cs ∧ Below w.heap.size w v :=
  ⟨_, _, rfl, rfl, Box.new w cs t, (Below.refl _ _).alloc (Nat.le_refl _) _⟩
theorem me_one {a b : Int} {s : Bool} {A : Option Addr} {n c : Nat} : ∀ u ∈ [Value.int .u8 a, .int .u8 b, .bool s, .slice A n c], u.oneCell' = true := by
  intro u hu
  simp at hu; rcases hu with rfl | rfl | rfl | rfl <;> rfl
theorem rdb_cell {w : World} {B g n c : Nat} {l : List UInt8} (hr : RdB w B (some ⟨g, 0, none⟩) n c l) {j : Nat} {x : UInt8} (hj : l[j]? = some x) : w.cell? ⟨g, j, none⟩ = some (.int .u8 (x.toNat : Int)) := by
  have hl := hr.length
  have hjl : j < l.length := (List.getElem?_eq_some_iff.1 hj).1
  obtain ⟨b, off, e, _, hc⟩ := hr.at_ (by omega)
  injection e with e
  injection e with e1 e2
  subst e1 e2
  have := hc j (u8v x) (by rw [List.getElem?_map, hj]; rfl)
  rwa [Nat.zero_add] at this
set_option maxRecDepth 20000 in
set_option maxHeartbeats 4000000 in
theorem mget51_any (g : Nat) (w : World) (he : MEnv w) (hr : RdB w w.heap.size (some ⟨g, 0, none⟩) 6 6 [5, 1, 1, 1, 0, 0]) :
    Calls Tryd.prog 11 #[.slice (some ⟨g, 0, none⟩) 6 6] w fun e w' => e = .returned (.tuple #[.agg #[.int .u8 5, .int .u8 1, .bool true, .slice none 0 0], .int .i64 0]) ∧ Below w.heap.size w w' := by
  obtain ⟨zb, w0, hqb, hqv, hz, hB0⟩ := alloc_stepM w #[.int .u8 0, .int .u8 0, .bool false, .slice none 0 0] 24
  have hzw : w.heap.size ≤ zb := by omega
  have hr0 := fun W (hW : Below w.heap.size w W) => hr.below hW
  go_enter Tryd.func11, Tryd.ntmps11
  go_upto_region 3 with fail
  rw [← hqb, ← hqv]
  clear hqb hqv
  refine rg_start (fun W : World => Below w0.heap.size w0 W) (by kernel_rfl) ?_
  have hS : Below w0.heap.size w0 w0.drew := below_drewN (Below.refl _ _) 1
  generalize w0.drew = wd at *
  have TK0 : ∀ W, Below w0.heap.size w0 W → W.cell? ⟨g, 0, none⟩ = some (.int .u8 5) ∧ W.cell? ⟨g, 1, none⟩ = some (.int .u8 1) := fun W hW => ⟨rdb_cell (hr0 W (hB0.trans (hW.mono hB0.size))) (j := 0) rfl, rdb_cell (hr0 W (hB0.trans (hW.mono hB0.size))) (j := 1) rfl⟩
  refine rg_take 0 (v := ?_) rfl (by kernel_rfl) (by kernel_rfl) (by kernel_rfl) hS rfl ?_ ?_
  rotate_left
  · intro wS hSw; go_simp; (with_reducible rfl)
  simp only [List.getElem_toArray, List.getElem_cons_zero, Act.put, List.setIfInBounds_toArray, List.set_cons_zero, List.set_cons_succ]
  refine rg_take 1 (v := ?_) rfl (by kernel_rfl) (by kernel_rfl) (by kernel_rfl) hS rfl ?_ ?_
  rotate_left
  · intro wS hSw; go_simp; (with_reducible rfl)
  simp only [List.getElem_toArray, List.getElem_cons_succ, List.getElem_cons_zero, Act.put, List.setIfInBounds_toArray, List.set_cons_zero, List.set_cons_succ]
  refine rg_take 2 (v := ?_) rfl (by kernel_rfl) (by kernel_rfl) (by kernel_rfl) hS rfl ?_ ?_
  rotate_left
  · intro wS hSw; have k0 := (TK0 wS hSw).1; go_simp; (with_reducible rfl)
  simp only [List.getElem_toArray, List.getElem_cons_succ, List.getElem_cons_zero, Act.put, List.setIfInBounds_toArray, List.set_cons_zero, List.set_cons_succ]
  refine rg_take 3 (v := ?_) rfl (by kernel_rfl) (by kernel_rfl) (by kernel_rfl) hS rfl ?_ ?_
  rotate_left
  · intro wS hSw; go_simp; (with_reducible rfl)
  simp only [List.getElem_toArray, List.getElem_cons_succ, List.getElem_cons_zero, Act.put, List.setIfInBounds_toArray, List.set_cons_zero, List.set_cons_succ]
  refine rg_take 4 (v := ?_) rfl (by kernel_rfl) (by kernel_rfl) (by kernel_rfl) hS rfl ?_ ?_
  rotate_left
  · intro wS hSw; go_simp; (with_reducible rfl)
  simp only [List.getElem_toArray, List.getElem_cons_succ, List.getElem_cons_zero, Act.put, List.setIfInBounds_toArray, List.set_cons_zero, List.set_cons_succ]
  refine rg_take 5 (v := ?_) rfl (by kernel_rfl) (by kernel_rfl) (by kernel_rfl) hS rfl ?_ ?_
  rotate_left
  · intro wS hSw; have k0 := (TK0 wS hSw).2; go_simp; (with_reducible rfl)
  simp only [List.getElem_toArray, List.getElem_cons_succ, List.getElem_cons_zero, Act.put, List.setIfInBounds_toArray, List.set_cons_zero, List.set_cons_succ]
  refine rg_take 6 (v := ?_) rfl (by kernel_rfl) (by kernel_rfl) (by kernel_rfl) hS rfl ?_ ?_
  rotate_left
  · intro wS hSw; go_simp; (with_reducible rfl)
  simp only [List.getElem_toArray, List.getElem_cons_succ, List.getElem_cons_zero, Act.put, List.setIfInBounds_toArray, List.set_cons_zero, List.set_cons_succ]
  refine rg_one 7 rfl (by kernel_rfl) rfl (fun K hK => ?_)
  obtain ⟨mb, w1, hqb, hqv, hm, hbel⟩ := alloc_stepM wd #[.int .u8 0, .int .u8 0, .bool false, .slice none 0 0] 24
  have hS1 := hS.trans (hbel.mono hS.size)
  have hmz : zb < mb ∧ w0.heap.size ≤ mb := ⟨by rw [hqb]; exact Nat.lt_of_lt_of_le hz.lt hS.size, by rw [hqb]; exact hS.size⟩
  go_simp
  rw [← hqb, ← hqv]
  clear hqb hqv hbel
  refine hK _ _ hS1 ?_; clear hK K
  try simp only [List.getElem_toArray, List.getElem_cons_succ, List.getElem_cons_zero, Act.put, List.setIfInBounds_toArray, List.set_cons_zero, List.set_cons_succ]
  refine rg_one 8 rfl (by kernel_rfl) rfl (fun K hK => ?_)
  refine op_box (v := .agg #[.int .u8 5, .int .u8 1, .bool false, .slice none 0 0]) (vs := [.int .u8 5, .int .u8 1, .bool false, .slice none 0 0]) rfl rfl rfl hm rfl (by kernel_rfl) (by simp) me_one #[.int .u8 5, .int .u8 1, .bool false, .slice none 0 0] (by simp) ?_
  intro w2 hm2 hg2 _
  have hS2 : Below w0.heap.size w0 w2 := hS1.grown hg2 hS1.size (fun g hg => by injection hg with hg; omega)
  refine hK _ _ hS2 ?_
  clear hK K
  refine rg_end (by kernel_rfl) ?_
  have hz2 := hz.below hS2
  have hB2 := hB0.trans (hS2.mono hB0.size)
  clear hS hS1 hS2 hg2 hm hz TK0
  have hkn := kinds_any 5 1 w2 (he.on hB2)
  have hf : findM 5 1 = some ⟨1, [115, 101, 108, 101, 99, 116], []⟩ := by decide
  rw [hf] at hkn
  simp only [kindsO, Option.map_some, Option.getD_some, Option.isSome_some] at hkn
  clear hf
  have x0 := hm2.cell (j := 0) rfl
  have x1 := hm2.cell (j := 1) rfl
  have x2 := hm2.cell (j := 2) rfl
  have x3 := hm2.cell (j := 3) rfl
  go_wp2_with (first | (with_reducible refine hold_append ?_) | (with_reducible refine hold_make ?_) | (with_reducible refine hold_copy ?_))
  refine hkn.mono ?_
  rintro e w3 ⟨rfl, hB3⟩
  have hm3 := hm2.below hB3
  have hz3 := hz2.below hB3
  have hB3 := hB2.trans (hB3.mono hB2.size)
  clear x0 x1 x2 x3 hm2 hz2 hB2 hkn
  have hc5 := control_any 5 w3
  have hd : decide (5 ≤ 2) = false := rfl
  rw [hd] at hc5
  clear hd
  have x0 := hm3.cell (j := 0) rfl
  have x1 := hm3.cell (j := 1) rfl
  have x2 := hm3.cell (j := 2) rfl
  have x3 := hm3.cell (j := 3) rfl
  have k3 := rdb_cell (hr0 w3 hB3) (j := 3) rfl
  go_wp2_with (first | (with_reducible refine hold_append ?_) | (with_reducible refine hold_make ?_) | (with_reducible refine hold_copy ?_))
  refine hc5.mono ?_
  rintro e w4 ⟨rfl, rfl⟩
  go_wp2_with (first | (with_reducible refine hold_append ?_) | (with_reducible refine hold_make ?_) | (with_reducible refine hold_copy ?_) | (with_reducible refine hold_store ?_))
  refine unhold (wp_box (v := .bool true) (vs := [.bool true]) rfl rfl rfl rfl hm3 rfl (by kernel_rfl) (by simp) (by intro u hu; simp at hu; subst hu; rfl) #[.int .u8 5, .int .u8 1, .bool true, .slice none 0 0] (by simp) ?_)
  intro w4 hm4 hg4 _
  have hz4 := hz3.grown hg4 (by intro e; injection e with e; omega)
  have hB4 := hB3.grown hg4 hB3.size (fun g hg => by injection hg with hg; omega)
  clear x0 x1 x2 x3 k3 hm3 hz3 hB3 hg4 hc5
  have hrc : RdB w4 w4.heap.size (some ⟨g, 4, none⟩) 2 2 [0, 0] := Rd.more (rd_cut (hr0 w4 hB4) 4 6 6 (by omega) (by omega) (by omega) (by omega)) hB4.size
  have hop := rdopen_any (some ⟨g, 4, none⟩) 2 2 [0, 0] w4 hrc (by omega)
  have hlt4 := hm4.lt
  go_wp2_with (first | (with_reducible refine hold_append ?_) | (with_reducible refine hold_make ?_) | (with_reducible refine hold_copy ?_))
  refine hop.mono ?_
  rintro e w5 ⟨rb, b, rfl, hrbw, hbw, hR, hB5⟩
  have hm5 := hm4.below hB5
  have hz5 := hz4.below hB5
  have hB5 := hB4.trans (hB5.mono hB4.size)
  clear hop hrc hm4 hz4 hB4
  have hmn : mnum [0, 0] false 2 = (0, [], false) := by decide
  have hnum := rdnum_any hR 2 (by omega) (by omega)
  rw [hmn] at hnum
  clear hmn
  go_wp2_with (first | (with_reducible refine hold_append ?_) | (with_reducible refine hold_make ?_) | (with_reducible refine hold_copy ?_))
  refine hnum.mono ?_
  rintro e w6 ⟨rfl, hR6, hg6⟩
  have hm6 := hm5.grown hg6 (by intro e; injection e with e; omega)
  have hz6 := hz5.grown hg6 (by intro e; injection e with e; omega)
  have hB6 := hB5.grown hg6 hB5.size (fun g hg => by injection hg with hg; omega)
  clear hnum hm5 hz5 hB5 hg6 hR
  try simp only at hR6
  go_wp2_with (first | (with_reducible refine hold_append ?_) | (with_reducible refine hold_make ?_) | (with_reducible refine hold_copy ?_))
  refine (rdbad_any hR6).mono ?_
  rintro e w7 ⟨rfl, hw7⟩
  subst hw7
  clear hR6
  go_upto_region 16 with fail
  obtain ⟨qb, w8, hqb, hqv, hq, hbel⟩ := alloc_stepM w7 #[.slice (some ⟨g, 0, none⟩) 0 0, .bool false] 68
  rw [← hqb, ← hqv]
  have hm8 := hm6.below hbel
  have hz8 := hz6.below hbel
  have hB8 := hB6.trans (hbel.mono hB6.size)
  clear hqb hqv hbel hm6 hz6 hB6
  go_wp2_with (first | (with_reducible refine hold_append ?_) | (with_reducible refine hold_make ?_) | (with_reducible refine hold_copy ?_))
  refine (readers_any w8).mono ?_
  rintro e w9 ⟨rm, rfl, hB9⟩
  have hm9 := hm8.below hB9
  have hz9 := hz8.below hB9
  have hq9 := hq.below hB9
  have hB9 := hB8.trans (hB9.mono hB8.size)
  clear hq hm8 hz8 hB8
  have hs0 : (str []).size = 0 := rfl
  go_wp2_with (first | (with_reducible refine hold_append ?_) | (with_reducible refine hold_make ?_) | (with_reducible refine hold_copy ?_))
  go_loopw [73] (fun s wr => s = .int .i64 0 ∧ w9 = wr) (fun _ _ => 0)
  case atStart => exact ⟨rfl, rfl⟩
  case round =>
    obtain ⟨rfl, rfl⟩ := hrel
    have hpm := mput_any 5 1 true [] [] (fun _ => []) none 0 0 w9 (he.on hB9) (Rd.nil _ _ _ _ (by simp [maxLen]) _) (by decide) (by decide) rfl (by omega) (by omega) (by omega) (by omega) (by intro i h; omega) (by intro i h; simp at h)
    have hM : headM 5 1 true (flagsM []) ++ (List.range 0).flatMap (fun _ => ([] : List UInt8)) = [5, 1, 1, 1, 0, 0] := by decide
    rw [hM] at hpm
    clear hM
    have x0 := hm9.cell (j := 0) rfl
    have x1 := hm9.cell (j := 1) rfl
    have x2 := hm9.cell (j := 2) rfl
    have x3 := hm9.cell (j := 3) rfl
    go_wp2_with (first | (with_reducible refine hold_append ?_) | (with_reducible refine hold_make ?_) | (with_reducible refine hold_copy ?_))
    refine hpm.mono ?_
    rintro e w10 ⟨A2, c2, rfl, ho, hB10⟩
    have hm10 := hm9.below hB10
    have hz10 := hz9.below hB10
    have hq10 := hq9.below hB10
    have hB10 := hB9.trans (hB10.mono hB9.size)
    clear x0 x1 x2 x3 hpm hm9 hz9 hq9 hB9
    have hbe := bytesequal_any (some ⟨g, 0, none⟩) 6 6 [5, 1, 1, 1, 0, 0] A2 6 c2 [5, 1, 1, 1, 0, 0] _ _ w10 (hr0 w10 hB10) ho.rd (by omega) (by omega)
    have hdt : decide (([5, 1, 1, 1, 0, 0] : List UInt8) = [5, 1, 1, 1, 0, 0]) = true := by simp
    rw [hdt] at hbe
    clear hdt
    have q1 := hq10.cell (j := 1) rfl
    go_wp2_with (first | (with_reducible refine hold_append ?_) | (with_reducible refine hold_make ?_) | (with_reducible refine hold_copy ?_))
    refine hbe.mono ?_
    rintro e w11 ⟨rfl, rfl⟩
    clear hbe q1
    have x0 := hm10.cell (j := 0) rfl
    have x1 := hm10.cell (j := 1) rfl
    have x2 := hm10.cell (j := 2) rfl
    have x3 := hm10.cell (j := 3) rfl
    go_wp2_with (first | (with_reducible refine hold_append ?_) | (with_reducible refine hold_make ?_) | (with_reducible refine hold_copy ?_) | (with_reducible refine hold_store ?_))
    refine unhold (wp_box (v := .agg #[.int .u8 5, .int .u8 1, .bool true, .slice none 0 0]) (vs := [.int .u8 5, .int .u8 1, .bool true, .slice none 0 0]) rfl rfl rfl rfl hz10 rfl (by kernel_rfl) (by simp) me_one #[.int .u8 5, .int .u8 1, .bool true, .slice none 0 0] (by simp) ?_)
    intro w12 hz12 hg12 _
    have hB12 := hB10.grown hg12 hB10.size (fun g hg => by injection hg with hg; omega)
    clear x0 x1 x2 x3
    go_wp2_with (first | (with_reducible refine hold_append ?_) | (with_reducible refine hold_make ?_) | (with_reducible refine hold_copy ?_))
    refine ret_box_tmp rfl hz12 rfl rfl Tryd.underlying24 rfl (by kernel_rfl) rfl ?_
    exact ⟨rfl, hB12⟩
set_option maxRecDepth 20000 in
set_option maxHeartbeats 4000000 in
theorem mget71_any (g : Nat) (w : World) (he : MEnv w) (hr : RdB w w.heap.size (some ⟨g, 0, none⟩) 2 2 [7, 1]) :
    Calls Tryd.prog 11 #[.slice (some ⟨g, 0, none⟩) 2 2] w fun e w' => e = .returned (.tuple #[.agg #[.int .u8 0, .int .u8 0, .bool false, .slice none 0 0], .int .i64 80]) ∧ Below w.heap.size w w' := by
  obtain ⟨zb, w0, hqb, hqv, hz, hB0⟩ := alloc_stepM w #[.int .u8 0, .int .u8 0, .bool false, .slice none 0 0] 24
  have hzw : w.heap.size ≤ zb := by omega
  have hr0 := fun W (hW : Below w.heap.size w W) => hr.below hW
  go_enter Tryd.func11, Tryd.ntmps11
  go_upto_region 3 with fail
  rw [← hqb, ← hqv]
  clear hqb hqv
  refine rg_start (fun W : World => Below w0.heap.size w0 W) (by kernel_rfl) ?_
  have hS : Below w0.heap.size w0 w0.drew := below_drewN (Below.refl _ _) 1
  generalize w0.drew = wd at *
  have TK0 : ∀ W, Below w0.heap.size w0 W → W.cell? ⟨g, 0, none⟩ = some (.int .u8 7) ∧ W.cell? ⟨g, 1, none⟩ = some (.int .u8 1) := fun W hW => ⟨rdb_cell (hr0 W (hB0.trans (hW.mono hB0.size))) (j := 0) rfl, rdb_cell (hr0 W (hB0.trans (hW.mono hB0.size))) (j := 1) rfl⟩
  refine rg_take 0 (v := ?_) rfl (by kernel_rfl) (by kernel_rfl) (by kernel_rfl) hS rfl ?_ ?_
  rotate_left
  · intro wS hSw; go_simp; (with_reducible rfl)
  simp only [List.getElem_toArray, List.getElem_cons_zero, Act.put, List.setIfInBounds_toArray, List.set_cons_zero, List.set_cons_succ]
  refine rg_take 1 (v := ?_) rfl (by kernel_rfl) (by kernel_rfl) (by kernel_rfl) hS rfl ?_ ?_
  rotate_left
  · intro wS hSw; go_simp; (with_reducible rfl)
  simp only [List.getElem_toArray, List.getElem_cons_succ, List.getElem_cons_zero, Act.put, List.setIfInBounds_toArray, List.set_cons_zero, List.set_cons_succ]
  refine rg_take 2 (v := ?_) rfl (by kernel_rfl) (by kernel_rfl) (by kernel_rfl) hS rfl ?_ ?_
  rotate_left
  · intro wS hSw; have k0 := (TK0 wS hSw).1; go_simp; (with_reducible rfl)
  simp only [List.getElem_toArray, List.getElem_cons_succ, List.getElem_cons_zero, Act.put, List.setIfInBounds_toArray, List.set_cons_zero, List.set_cons_succ]
  refine rg_take 3 (v := ?_) rfl (by kernel_rfl) (by kernel_rfl) (by kernel_rfl) hS rfl ?_ ?_
  rotate_left
  · intro wS hSw; go_simp; (with_reducible rfl)
  simp only [List.getElem_toArray, List.getElem_cons_succ, List.getElem_cons_zero, Act.put, List.setIfInBounds_toArray, List.set_cons_zero, List.set_cons_succ]
  refine rg_take 4 (v := ?_) rfl (by kernel_rfl) (by kernel_rfl) (by kernel_rfl) hS rfl ?_ ?_
  rotate_left
  · intro wS hSw; go_simp; (with_reducible rfl)
  simp only [List.getElem_toArray, List.getElem_cons_succ, List.getElem_cons_zero, Act.put, List.setIfInBounds_toArray, List.set_cons_zero, List.set_cons_succ]
  refine rg_take 5 (v := ?_) rfl (by kernel_rfl) (by kernel_rfl) (by kernel_rfl) hS rfl ?_ ?_
  rotate_left
  · intro wS hSw; have k0 := (TK0 wS hSw).2; go_simp; (with_reducible rfl)
  simp only [List.getElem_toArray, List.getElem_cons_succ, List.getElem_cons_zero, Act.put, List.setIfInBounds_toArray, List.set_cons_zero, List.set_cons_succ]
  refine rg_take 6 (v := ?_) rfl (by kernel_rfl) (by kernel_rfl) (by kernel_rfl) hS rfl ?_ ?_
  rotate_left
  · intro wS hSw; go_simp; (with_reducible rfl)
  simp only [List.getElem_toArray, List.getElem_cons_succ, List.getElem_cons_zero, Act.put, List.setIfInBounds_toArray, List.set_cons_zero, List.set_cons_succ]
  refine rg_one 7 rfl (by kernel_rfl) rfl (fun K hK => ?_)
  obtain ⟨mb, w1, hqb, hqv, hm, hbel⟩ := alloc_stepM wd #[.int .u8 0, .int .u8 0, .bool false, .slice none 0 0] 24
  have hS1 := hS.trans (hbel.mono hS.size)
  have hmz : zb < mb ∧ w0.heap.size ≤ mb := ⟨by rw [hqb]; exact Nat.lt_of_lt_of_le hz.lt hS.size, by rw [hqb]; exact hS.size⟩
  go_simp
  rw [← hqb, ← hqv]
  clear hqb hqv hbel
  refine hK _ _ hS1 ?_; clear hK K
  try simp only [List.getElem_toArray, List.getElem_cons_succ, List.getElem_cons_zero, Act.put, List.setIfInBounds_toArray, List.set_cons_zero, List.set_cons_succ]
  refine rg_one 8 rfl (by kernel_rfl) rfl (fun K hK => ?_)
  refine op_box (v := .agg #[.int .u8 7, .int .u8 1, .bool false, .slice none 0 0]) (vs := [.int .u8 7, .int .u8 1, .bool false, .slice none 0 0]) rfl rfl rfl hm rfl (by kernel_rfl) (by simp) me_one #[.int .u8 7, .int .u8 1, .bool false, .slice none 0 0] (by simp) ?_
  intro w2 hm2 hg2 _
  have hS2 : Below w0.heap.size w0 w2 := hS1.grown hg2 hS1.size (fun g hg => by injection hg with hg; omega)
  refine hK _ _ hS2 ?_
  clear hK K
  refine rg_end (by kernel_rfl) ?_
  have hz2 := hz.below hS2
  have hB2 := hB0.trans (hS2.mono hB0.size)
  clear hS hS1 hS2 hg2 hm hz TK0
  have hkn := kinds_any 7 1 w2 (he.on hB2)
  have hf : findM 7 1 = none := by decide
  rw [hf] at hkn
  simp only [kindsO, Option.map_none, Option.getD_none, Option.isSome_none] at hkn
  clear hf
  have x0 := hm2.cell (j := 0) rfl
  have x1 := hm2.cell (j := 1) rfl
  have x2 := hm2.cell (j := 2) rfl
  have x3 := hm2.cell (j := 3) rfl
  go_wp2_with (first | (with_reducible refine hold_append ?_) | (with_reducible refine hold_make ?_) | (with_reducible refine hold_copy ?_))
  refine hkn.mono ?_
  rintro e w3 ⟨rfl, hB3⟩
  have hz3 := hz2.below hB3
  have hB3 := hB2.trans (hB3.mono hB2.size)
  clear x0 x1 x2 x3 hm2 hz2 hB2 hkn
  go_wp2_with (first | (with_reducible refine hold_append ?_) | (with_reducible refine hold_make ?_) | (with_reducible refine hold_copy ?_) | (with_reducible refine hold_store ?_))
  refine unhold (wp_box (v := .agg #[.int .u8 0, .int .u8 0, .bool false, .slice none 0 0]) (vs := [.int .u8 0, .int .u8 0, .bool false, .slice none 0 0]) rfl rfl rfl rfl hz3 rfl (by kernel_rfl) (by simp) me_one #[.int .u8 0, .int .u8 0, .bool false, .slice none 0 0] (by simp) ?_)
  intro w12 hz12 hg12 _
  have hB12 := hB3.grown hg12 hB3.size (fun g hg => by injection hg with hg; omega)
  go_wp2_with (first | (with_reducible refine hold_append ?_) | (with_reducible refine hold_make ?_) | (with_reducible refine hold_copy ?_))
  refine ret_box_tmp rfl hz12 rfl rfl Tryd.underlying24 rfl (by kernel_rfl) rfl ?_
  exact ⟨rfl, hB12⟩
end Go.PH
end
section
/- The laws' head of methods. -/
set_option linter.all false
set_option linter.unusedSimpArgs false
set_option linter.unusedVariables false
namespace Go.PH
open Go.RowKit Go.Proofs

def hdL : List SA := [⟨true, 0, [113]⟩, ⟨true, 0, []⟩, ⟨true, 9, []⟩]
def hdP (i : Nat) : List UInt8 := if i = 0 then [1, 113] else if i = 1 then [] else [0, 0, 0, 9]
def HdPut (w : World) (e : Ending) (w' : World) : Prop := ∃ A2 c2, e = .returned (.tuple #[.slice A2 12 c2, .int .i64 0]) ∧ OwnB w' w.heap.size A2 12 c2 [8, 1, 1, 0, 0, 7, 1, 113, 0, 0, 0, 9] ∧ Below w.heap.size w w'
theorem hdput_any (g : Nat) (w : World) (he : MEnv w) (hr : Rd w w.heap.size 12 (some ⟨g, 0, none⟩) 3 3 (rowC saC hdL)) :
    Calls Tryd.prog 10 #[.agg #[.int .u8 8, .int .u8 1, .bool false, .slice (some ⟨g, 0, none⟩) 3 3]] w (HdPut w) := by
  have h := mput_any 8 1 false hdL [115, 98, 100] hdP (some ⟨g, 0, none⟩) 3 3 w he hr (by decide) (by decide) rfl (by omega) (by simp) (by omega) (by omega) (by
    intro i h
    unfold hdP
    repeat' split
    all_goals simp) (by
    intro i h h' base W A' n' c' l ho hb hn
    have hi : i = 0 ∨ i = 1 ∨ i = 2 := by simp [hdL] at h; omega
    rcases hi with rfl | rfl | rfl
    · exact put_s [113] base A' n' c' l W ho hb hn (by simp)
    · exact put_b true base A' n' c' l W ho hb hn
    · exact put_d 9 base A' n' c' l W ho hb hn (by omega))
  have hM : headM 8 1 false (flagsM hdL) ++ (List.range 3).flatMap hdP = [8, 1, 1, 0, 0, 7, 1, 113, 0, 0, 0, 9] := by decide
  rw [hM] at h
  exact h
set_option maxRecDepth 20000 in
set_option maxHeartbeats 4000000 in
theorem mdhead_any (w : World) (he : MEnv w) : Calls Tryd.prog 9 #[] w fun e w' => e = .returned (.bool true) ∧ Below w.heap.size w w' := by
  have hl := own_lit (w := w) w.heap.size #[.bool true, .int .u64 0, .string ⟨#[113]⟩, .int .u32 0, .string ⟨#[]⟩, .string ⟨#[]⟩, .slice none 0 0, .int .u8 0, .int .u64 0, .string ⟨#[]⟩, .slice none 0 0, .slice none 0 0, .bool true, .int .u64 0, .string ⟨#[]⟩, .int .u32 0, .string ⟨#[]⟩, .string ⟨#[]⟩, .slice none 0 0, .int .u8 0, .int .u64 0, .string ⟨#[]⟩, .slice none 0 0, .slice none 0 0, .bool true, .int .u64 9, .string ⟨#[]⟩, .int .u32 0, .string ⟨#[]⟩, .string ⟨#[]⟩, .slice none 0 0, .int .u8 0, .int .u64 0, .string ⟨#[]⟩, .slice none 0 0, .slice none 0 0] 57 3 (Nat.le_refl _) (by simp [maxLen]) (size := 12) rfl (by omega)
  have hr : Rd (w.alloc (.cells #[.bool true, .int .u64 0, .string ⟨#[113]⟩, .int .u32 0, .string ⟨#[]⟩, .string ⟨#[]⟩, .slice none 0 0, .int .u8 0, .int .u64 0, .string ⟨#[]⟩, .slice none 0 0, .slice none 0 0, .bool true, .int .u64 0, .string ⟨#[]⟩, .int .u32 0, .string ⟨#[]⟩, .string ⟨#[]⟩, .slice none 0 0, .int .u8 0, .int .u64 0, .string ⟨#[]⟩, .slice none 0 0, .slice none 0 0, .bool true, .int .u64 9, .string ⟨#[]⟩, .int .u32 0, .string ⟨#[]⟩, .string ⟨#[]⟩, .slice none 0 0, .int .u8 0, .int .u64 0, .string ⟨#[]⟩, .slice none 0 0, .slice none 0 0] 57)) (w.alloc (.cells #[.bool true, .int .u64 0, .string ⟨#[113]⟩, .int .u32 0, .string ⟨#[]⟩, .string ⟨#[]⟩, .slice none 0 0, .int .u8 0, .int .u64 0, .string ⟨#[]⟩, .slice none 0 0, .slice none 0 0, .bool true, .int .u64 0, .string ⟨#[]⟩, .int .u32 0, .string ⟨#[]⟩, .string ⟨#[]⟩, .slice none 0 0, .int .u8 0, .int .u64 0, .string ⟨#[]⟩, .slice none 0 0, .slice none 0 0, .bool true, .int .u64 9, .string ⟨#[]⟩, .int .u32 0, .string ⟨#[]⟩, .string ⟨#[]⟩, .slice none 0 0, .int .u8 0, .int .u64 0, .string ⟨#[]⟩, .slice none 0 0, .slice none 0 0] 57)).heap.size 12 (some ⟨w.heap.size, 0, none⟩) 3 3 (rowC saC hdL) := hl.rd
  have hB1 := (Below.refl w.heap.size w).alloc (Nat.le_refl _) (.cells #[.bool true, .int .u64 0, .string ⟨#[113]⟩, .int .u32 0, .string ⟨#[]⟩, .string ⟨#[]⟩, .slice none 0 0, .int .u8 0, .int .u64 0, .string ⟨#[]⟩, .slice none 0 0, .slice none 0 0, .bool true, .int .u64 0, .string ⟨#[]⟩, .int .u32 0, .string ⟨#[]⟩, .string ⟨#[]⟩, .slice none 0 0, .int .u8 0, .int .u64 0, .string ⟨#[]⟩, .slice none 0 0, .slice none 0 0, .bool true, .int .u64 9, .string ⟨#[]⟩, .int .u32 0, .string ⟨#[]⟩, .string ⟨#[]⟩, .slice none 0 0, .int .u8 0, .int .u64 0, .string ⟨#[]⟩, .slice none 0 0, .slice none 0 0] 57)
  clear hl
  have hp := hdput_any w.heap.size (w.alloc (.cells #[.bool true, .int .u64 0, .string ⟨#[113]⟩, .int .u32 0, .string ⟨#[]⟩, .string ⟨#[]⟩, .slice none 0 0, .int .u8 0, .int .u64 0, .string ⟨#[]⟩, .slice none 0 0, .slice none 0 0, .bool true, .int .u64 0, .string ⟨#[]⟩, .int .u32 0, .string ⟨#[]⟩, .string ⟨#[]⟩, .slice none 0 0, .int .u8 0, .int .u64 0, .string ⟨#[]⟩, .slice none 0 0, .slice none 0 0, .bool true, .int .u64 9, .string ⟨#[]⟩, .int .u32 0, .string ⟨#[]⟩, .string ⟨#[]⟩, .slice none 0 0, .int .u8 0, .int .u64 0, .string ⟨#[]⟩, .slice none 0 0, .slice none 0 0] 57)) (he.on hB1) hr
  clear hr
  go_enter Tryd.func9, Tryd.ntmps9
  go_wp2_with (first | (with_reducible refine hold_append ?_) | (with_reducible refine hold_make ?_) | (with_reducible refine hold_copy ?_))
  refine hp.mono ?_
  rintro e w2 ⟨A2, c2, rfl, ho2, hB2⟩
  have hB2 := hB1.trans (hB2.mono hB1.size)
  clear hp hB1
  have hl := own_lit (w := w2) w2.heap.size #[.int .u8 5, .int .u8 1, .int .u8 1, .int .u8 1, .int .u8 0, .int .u8 0] 5 6 (Nat.le_refl _) (by simp [maxLen]) (size := 1) rfl (by omega)
  have hr : RdB (w2.alloc (.cells #[.int .u8 5, .int .u8 1, .int .u8 1, .int .u8 1, .int .u8 0, .int .u8 0] 5)) (w2.alloc (.cells #[.int .u8 5, .int .u8 1, .int .u8 1, .int .u8 1, .int .u8 0, .int .u8 0] 5)).heap.size (some ⟨w2.heap.size, 0, none⟩) 6 6 [5, 1, 1, 1, 0, 0] := hl.rd
  have hB3 := hB2.alloc hB2.size (.cells #[.int .u8 5, .int .u8 1, .int .u8 1, .int .u8 1, .int .u8 0, .int .u8 0] 5)
  have ho3 : OwnB (w2.alloc (.cells #[.int .u8 5, .int .u8 1, .int .u8 1, .int .u8 1, .int .u8 0, .int .u8 0] 5)) _ A2 12 c2 [8, 1, 1, 0, 0, 7, 1, 113, 0, 0, 0, 9] := ho2.alloc _
  clear hl
  have hp := mget51_any w2.heap.size _ (he.on hB3) hr
  clear hr hB2 ho2
  go_wp2_with (first | (with_reducible refine hold_append ?_) | (with_reducible refine hold_make ?_) | (with_reducible refine hold_copy ?_))
  refine hp.mono ?_
  rintro e w4 ⟨rfl, hB4⟩
  have ho4 := own_below ho3 hB4
  have hB4 := hB3.trans (hB4.mono hB3.size)
  clear hp ho3 hB3
  have hm := Box.new w4 #[.int .u8 5, .int .u8 1, .bool true, .slice none 0 0] 24
  have ho5 : OwnB (w4.alloc (.cells #[.int .u8 5, .int .u8 1, .bool true, .slice none 0 0] 24)) _ A2 12 c2 [8, 1, 1, 0, 0, 7, 1, 113, 0, 0, 0, 9] := ho4.alloc _
  have hB5 := hB4.alloc hB4.size (.cells #[.int .u8 5, .int .u8 1, .bool true, .slice none 0 0] 24)
  clear ho4 hB4
  go_upto_region 3 with fail
  obtain ⟨mb, hmb⟩ : ∃ m, m = w4.heap.size := ⟨_, rfl⟩
  rw [← hmb] at hm ⊢
  clear hmb
  generalize (w4.alloc (.cells #[.int .u8 5, .int .u8 1, .bool true, .slice none 0 0] 24)) = w5 at *
  have hl := own_lit (w := w5) w5.heap.size #[.int .u8 7, .int .u8 1] 5 2 (Nat.le_refl _) (by simp [maxLen]) (size := 1) rfl (by omega)
  have hr : RdB (w5.alloc (.cells #[.int .u8 7, .int .u8 1] 5)) (w5.alloc (.cells #[.int .u8 7, .int .u8 1] 5)).heap.size (some ⟨w5.heap.size, 0, none⟩) 2 2 [7, 1] := hl.rd
  have hB6 := hB5.alloc hB5.size (.cells #[.int .u8 7, .int .u8 1] 5)
  have ho6 : OwnB (w5.alloc (.cells #[.int .u8 7, .int .u8 1] 5)) _ A2 12 c2 [8, 1, 1, 0, 0, 7, 1, 113, 0, 0, 0, 9] := ho5.alloc _
  have hm6 := hm.alloc (.cells #[.int .u8 7, .int .u8 1] 5)
  have hp := mget71_any w5.heap.size _ (he.on hB6) hr
  clear hl hr ho5 hB5 hm
  go_wp2_with (first | (with_reducible refine hold_append ?_) | (with_reducible refine hold_make ?_) | (with_reducible refine hold_copy ?_))
  refine hp.mono ?_
  rintro e w7 ⟨rfl, hB7⟩
  have ho7 := own_below ho6 hB7
  have hm7 := hm6.below hB7
  have hB7 := hB6.trans (hB7.mono hB6.size)
  clear hp ho6 hB6 hm6
  have hm8 := hm7.alloc (.cells #[.int .u8 0, .int .u8 0, .bool false, .slice none 0 0] 24)
  have ho8 : OwnB (w7.alloc (.cells #[.int .u8 0, .int .u8 0, .bool false, .slice none 0 0] 24)) _ A2 12 c2 [8, 1, 1, 0, 0, 7, 1, 113, 0, 0, 0, 9] := ho7.alloc _
  have hB8 := hB7.alloc hB7.size (.cells #[.int .u8 0, .int .u8 0, .bool false, .slice none 0 0] 24)
  clear ho7 hB7 hm7
  go_upto_region 4 with fail
  generalize (w7.alloc (.cells #[.int .u8 0, .int .u8 0, .bool false, .slice none 0 0] 24)) = w8 at *
  have hkn := kinds_any 6 2 w8 (he.on hB8)
  have hf : findM 6 2 = some ⟨2, [115, 116, 97, 114, 116], [120, 98, 98]⟩ := by decide
  rw [hf] at hkn
  simp only [kindsO, Option.map_some, Option.getD_some, Option.isSome_some] at hkn
  clear hf
  go_wp2_with (first | (with_reducible refine hold_append ?_) | (with_reducible refine hold_make ?_) | (with_reducible refine hold_copy ?_))
  refine hkn.mono ?_
  rintro e w9 ⟨rfl, hB9⟩
  have ho9 := own_below ho8 hB9
  have hm9 := hm8.below hB9
  have hB9 := hB8.trans (hB9.mono hB8.size)
  clear ho8 hB8 hm8 hkn
  have hcv := run_str (P := Tryd.prog) Tryd.underlying25 Tryd.underlying9 Tryd.underlying5 ho9.rd
  have hq1 : ((str [8, 1, 1, 0, 0, 7, 1, 113, 0, 0, 0, 9]).toList == [8, 1, 1, 0, 0, 7, 1, 113, 0, 0, 0, 9]) = true := by rw [str_toList]; decide
  have hq2 : ((str [120, 98, 98]).toList == [120, 98, 98]) = true := by rw [str_toList]; decide
  have x0 := hm9.cell (j := 0) rfl
  have x2 := hm9.cell (j := 2) rfl
  clear ho9
  go_wp2_with (first | (with_reducible refine hold_append ?_) | (with_reducible refine hold_make ?_) | (with_reducible refine hold_copy ?_))
  go_ret
  exact ⟨rfl, hB9⟩
end Go.PH
end

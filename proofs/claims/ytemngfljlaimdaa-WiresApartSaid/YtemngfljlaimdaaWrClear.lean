/- The walk of Clear. -/
import Derived.Test.YtemngfljlaimdaaWrClearMath
set_option linter.all false
set_option linter.unusedSimpArgs false
set_option linter.unusedVariables false
namespace Go.PH
open Go.RowKit Go.Proofs Go.ChangeMaps

def ClearR (w : World) (F : Nat → Prop) (pb n : Nat) (R : List Wl) (nd : Int) (e : Ending) (w' : World) : Prop :=
  e = .returned (.tuple #[]) ∧ Wr w' F pb n (clearW R nd) ∧ KeepF F w w'
/-- what a round keeps -/
def ClRound (w : World) (F : Nat → Prop) (pb mb n : Nat) (hd : Int → Int → Hd) (R : List Wl) (nd : Int) (r : Nat) (wr : World) : Prop :=
  ∃ D left cnt, WrMap wr F mb n D hd (cl left nd R) ∧ wr.ranges Try.prog 54 rawW mb r n D left cnt ∧ Box wr pb 50 #[.map (some mb)] ∧ KeepF (· = mb) w wr
theorem KeepF.alloc {F : Nat → Prop} {w w' : World} (h : KeepF F w w') {w2 : World} (hB : Below w'.heap.size w' w2) : KeepF F w w2 := ⟨Nat.le_trans h.1 hB.size, fun g hg hn => (hB.block g (Nat.lt_of_lt_of_le hg h.1)).trans (h.2.1 g hg hn), h.2.2.trans (.below hB)⟩
set_option maxRecDepth 20000 in
set_option maxHeartbeats 4000000 in
theorem clear_any (F : Nat → Prop) (pb n : Nat) (R : List Wl) (nd : Int) (w : World) (h : Wr w F pb n R) :
    Calls Try.prog 17 #[.pointer (some ⟨pb, 0, none⟩), .int .i64 nd] w (ClearR w F pb n R nd) := by
  have HW := Lib.hid h
  obtain ⟨⟨mb, D, hd, hx, hpF, hpm, hpr, hm⟩, hwf, hmost⟩ := h
  have hth := there_any pb mb w hx
  have HWF := Lib.hid (show ∀ x ∈ R, i64ok x.fr ∧ i64ok x.to from fun x hx => ⟨(hwf x hx).1, (hwf x hx).2.1⟩)
  have HPR := Lib.hid hpr
  have HFL := Lib.hid (show ∀ g, F g → g < w.heap.size from hm.lt)
  clear hpr hmost hwf
  go_enter Try.func17, Try.ntmps17
  go_wp2_with (first | (with_reducible refine hold_append ?_) | (with_reducible refine hold_make ?_) | (with_reducible refine hold_copy ?_))
  refine hth.mono ?_
  rintro e w1 ⟨rfl, e1⟩
  subst w1
  clear hth
  have k0 := hx.cell (j := 0) rfl
  go_wp2_with (first | (with_reducible refine hold_append ?_) | (with_reducible refine hold_make ?_) | (with_reducible refine hold_copy ?_) | (with_reducible refine hold_insert ?_) | (with_reducible refine hold_range ?_) | (with_reducible refine hold_next ?_))
  refine unhold (wpList_range_own (H := Value) _ rfl _ 48 rfl 54 22 way_keyed Try.underlying48 rawW _ _ _ rfl hm.owns ?_)
  intro w2 hrg2 hg2 hs2
  clear k0
  have hB2 : Below w.heap.size w w2 := (Below.refl _ _).grown hg2 (Nat.le_refl _) (fun g hg => by cases hg)
  have hstart : ClRound w F pb mb n hd R nd w.heap.size w2 := ⟨D, _, _, by rw [cl_start hm HWF.out]; exact hm.keep (fun g hg => hB2.block g (hm.lt g hg)) hB2.size, hrg2, hx.below hB2, KeepF.below hB2⟩
  have hmw : mb < w.heap.size := hm.lt _ hm.inF
  have hpw : pb < w.heap.size := hx.lt
  generalize hrb : w.heap.size = rb at *
  clear hrg2 hg2 hs2 hB2 hm hx
  go_frame
  go_wp2_with (first | (with_reducible refine hold_append ?_) | (with_reducible refine hold_make ?_) | (with_reducible refine hold_copy ?_))
  try go_frame
  go_loopw [] (fun wr => ClRound w F pb mb n hd R nd rb wr) (fun wr => wr.rangeLeft mb rb)
  case atStart => exact hstart
  case round =>
    obtain ⟨D3, left, cnt, hm3, hrg3, hx3, hK3⟩ := hrel
    have hmu : wr.rangeLeft mb rb = cnt := hrg3.left_eq
    rw [hmu]
    clear hmu
    go_wp2_with (first | (with_reducible refine hold_append ?_) | (with_reducible refine hold_make ?_) | (with_reducible refine hold_copy ?_) | (with_reducible refine hold_insert ?_) | (with_reducible refine hold_range ?_) | (with_reducible refine hold_next ?_))
    refine unhold (wpList_next_ranges (H := Value) (α := Int × Int) (β := Value) _ rfl _ rfl 54 way_keyed rawW (fun p => .agg #[.int .i64 p.1, .int .i64 p.2]) (fun v => v) (fun key kl hk => by obtain ⟨a, b, rfl, _⟩ := way_inv key kl hk; exact ⟨(a, b), rfl⟩) (fun v y hv => ⟨v, rfl⟩) _ _ _ _ _ _ rfl hrg3 ?_ ?_)
    · intro _ hl0
      rw [cl_none hl0] at hm3
      have HM3 := Lib.hid hm3
      have HK3 := Lib.hid hK3
      clear hm3 hrg3 hK3 hl0
      go_wp2_with (first | (with_reducible refine hold_append ?_) | (with_reducible refine hold_make ?_) | (with_reducible refine hold_copy ?_))
      first | go_ret | go_end0 | skip
      refine ⟨rfl, ⟨⟨mb, D3, hd, hx3, hpF, hpm, fun x y hx hy hne => HPR.out x y hx hy (fun e => hne (by rw [bag_clear, e]; split <;> rfl)), HM3.out⟩, fun x hx => ?_, fun x y => ?_⟩, ?_⟩
      · have h := HW.out.wf
        exact h x (List.mem_filter.1 hx).1
      · have h := HW.out.most x y
        rw [bag_clear]
        split
        · simp
        · exact h
      · exact ⟨by have := HK3.out.1; omega, fun g hg hF => HK3.out.2.1 g (by omega) (fun e => hF (by rw [e]; exact HM3.out.inF)), HK3.out.2.2⟩
    · rintro ⟨a, b⟩ c kl y w7 cnt7 hkey hlk hv hat hrg7 hlt7 hg7 hs7 hen
      simp only at hkey hen ⊢
      obtain ⟨a', b', e1, ha, hb, e2⟩ := way_inv _ kl hkey
      obtain ⟨rfl, rfl⟩ : a = a' ∧ b = b' := by simpa [wayV] using e1
      subst e2
      have hne := at_bag hm3 ha hb hat
      have hrb3 : rb < wr.heap.size := hrg3.lt
      have hm7 : WrMap w7 F mb n D3 hd (cl left nd R) := hm3.keep (fun g hg => hg7.block g (hm3.lt g hg) (fun e => by have := HFL.out g hg; injection e with e; omega)) hg7.size
      have hx7 : Box w7 pb 50 #[.map (some mb)] := hx3.grown hg7 (fun e => by injection e with e; omega)
      have hK7 : KeepF (· = mb) w w7 := ⟨by have := hK3.1; omega, fun g hg hne => (hg7.block g (by have := hK3.1; omega) (fun e => by injection e with e; omega)).trans (hK3.2.1 g hg hne), hK3.2.2.trans (.grown hg7)⟩
      clear hm3 hrg3 hx3 hK3 hg7 hat hv hkey e1
      have HS7 := Lib.hid hs7
      clear hs7
      obtain ⟨kb, w8, hqb, hqv, hk8, hB8⟩ := alloc_stepW w7 #[.int .i64 0, .int .i64 0] 54
      have hs8 : w8.heap.size = w7.heap.size + 1 := by rw [hqv]; simp
      go_wp2_with (first | (with_reducible refine hold_append ?_) | (with_reducible refine hold_make ?_) | (with_reducible refine hold_copy ?_) | (with_reducible refine hold_store ?_))
      rw [← hqb, ← hqv]
      refine unhold (wp_box (v := .agg #[.int .i64 a, .int .i64 b]) (vs := [.int .i64 a, .int .i64 b]) rfl rfl rfl rfl hk8 rfl (by kernel_rfl) (by simp) (by simp [Value.oneCell']) #[.int .i64 a, .int .i64 b] (by simp) ?_)
      intro w9 hk9 hg9 hz9
      have hB9 : Below w7.heap.size w7 w9 := hB8.grown hg9 hB8.size (fun g hg => by injection hg with hg; omega)
      have hm9 : WrMap w9 F mb n D3 hd (cl left nd R) := hm7.keep (fun g hg => hB9.block g (hm7.lt g hg)) hB9.size
      have hx9 := hx7.below hB9
      have hK9 : KeepF (· = mb) w w9 := hK7.alloc hB9
      have hrg9 := (hrg7.kept (row := none) ⟨hB9.os, hB9.tape, hB9.output, hB9.size, fun k hk _ => hB9.block k hk⟩ (by simp) (by simp))
      have hkm : kb ≠ mb := fun e => by have := hm7.lt _ hm7.inF; omega
      have hkp : kb ≠ pb := fun e => by have := hx7.lt; omega
      have hHL := Lib.hid hlk
      clear hm7 hx7 hK7 hB9 hk8 hg9 hz9 hqb hqv hB8 hrg7 hs8 hen hlk
      have k0 := hk9.cell (j := 0) rfl
      have k1 := hk9.cell (j := 1) rfl
      by_cases hab : a = nd ∨ b = nd
      · have hcl : Hid (∀ x y, bag (cl (fun z => (left z && !z.sameKey (wayL a b)) && !z.sameKey (wayL a b)) nd R) x y = if x = a ∧ y = b then [] else bag (cl left nd R) x y) := Lib.hid (cl_out HWF.out ha hb hab)
        have HNE := Lib.hid hne
        clear hne
        by_cases ha2 : a = nd
        · have he1 : ∀ W, (binOp .eql 54 (.agg #[.int .i64 a, .int .i64 b]) (.agg #[.int .i64 nd, .int .i64 b])).run Try.prog W = .ok (.bool true) W := fun W => by rw [eql_way]; simp [ha2]
          clear ha2 hab
          go_upto_region 5 with fail
          clear he1 k0 k1
          try clear he2
          refine rg_start (fun W : World => Box W pb 50 #[.map (some mb)] ∧ Box W kb 54 #[.int .i64 a, .int .i64 b]) (by kernel_rfl) ?_
          have hS : Box w9.drew pb 50 #[.map (some mb)] ∧ Box w9.drew kb 54 #[.int .i64 a, .int .i64 b] := ⟨hx9, hk9⟩
          have hrgd : w9.drew.ranges Try.prog 54 rawW mb rb n D3 (fun z => left z && !z.sameKey (wayL a b)) cnt7 := hrg9
          have hmd : WrMap w9.drew F mb n D3 hd (cl left nd R) := hm9.keep (fun g hg => rfl) (Nat.le_refl _)
          have hKd : KeepF (· = mb) w w9.drew := hK9
          clear hx9 hk9 hrg9 hm9 hK9
          generalize w9.drew = v1 at *
          obtain ⟨v2, cnt8, hrun, hrg2, hle2, ht2⟩ := hrgd.drop way_keyed Try.underlying48 (way_key ha hb) 0
          have hg2 := ht2.grown
          refine rg_take 0 (v := ?_) rfl (by kernel_rfl) (by kernel_rfl) (by kernel_rfl) hS rfl ?_ ?_
          rotate_left
          · intro wS hSw; go_simp; (with_reducible rfl)
          simp only [List.getElem_toArray, List.getElem_cons_zero, Act.put, List.setIfInBounds_toArray, List.set_cons_zero, List.set_cons_succ]
          refine rg_take 1 (v := ?_) rfl (by kernel_rfl) (by kernel_rfl) (by kernel_rfl) hS rfl ?_ ?_
          rotate_left
          · intro wS hSw; have k0 := hSw.1.cell (j := 0) rfl; go_simp; (with_reducible rfl)
          simp only [List.getElem_toArray, List.getElem_cons_succ, List.getElem_cons_zero, Act.put, List.setIfInBounds_toArray, List.set_cons_zero, List.set_cons_succ]
          refine rg_take 2 (v := ?_) rfl (by kernel_rfl) (by kernel_rfl) (by kernel_rfl) hS rfl ?_ ?_
          rotate_left
          · intro wS hSw; go_simp; (with_reducible rfl)
          simp only [List.getElem_toArray, List.getElem_cons_succ, List.getElem_cons_zero, Act.put, List.setIfInBounds_toArray, List.set_cons_zero, List.set_cons_succ]
          refine rg_take 3 (v := ?_) rfl (by kernel_rfl) (by kernel_rfl) (by kernel_rfl) hS rfl ?_ ?_
          rotate_left
          · intro wS hSw; have k0 := hSw.1.cell (j := 0) rfl; go_simp; (with_reducible rfl)
          simp only [List.getElem_toArray, List.getElem_cons_succ, List.getElem_cons_zero, Act.put, List.setIfInBounds_toArray, List.set_cons_zero, List.set_cons_succ]
          refine rg_take 4 (v := ?_) rfl (by kernel_rfl) (by kernel_rfl) (by kernel_rfl) hS rfl ?_ ?_
          rotate_left
          · intro wS hSw; have k0 := hSw.2.cell (j := 0) rfl; have k1 := hSw.2.cell (j := 1) rfl; go_simp; (with_reducible rfl)
          simp only [List.getElem_toArray, List.getElem_cons_succ, List.getElem_cons_zero, Act.put, List.setIfInBounds_toArray, List.set_cons_zero, List.set_cons_succ]
          refine rg_one 5 rfl (by kernel_rfl) rfl (fun K hK => ?_)
          refine op_delete rfl rfl rfl rfl hrun ?_
          have hS5 : Box v2 pb 50 #[.map (some mb)] ∧ Box v2 kb 54 #[.int .i64 a, .int .i64 b] := ⟨hS.1.grown hg2 (fun e => hpm (by injection e)), hS.2.grown hg2 (fun e => hkm (by injection e))⟩
          refine hK _ _ hS5 ?_; clear hK K
          try simp only [List.getElem_toArray, List.getElem_cons_succ, List.getElem_cons_zero, Act.put, List.setIfInBounds_toArray, List.set_cons_zero, List.set_cons_succ]
          refine rg_end (by kernel_rfl) ?_
          have hend : ClRound w F pb mb n hd R nd rb v2 := ⟨_, _, cnt8, hmd.gone ha hb hcl.out hrg2.owns HNE.out (fun g h1 h2 h3 => hg2.block g h1 (fun e => h2 (by injection e))) hg2.size, hrg2, hS5.1, ⟨by have := hKd.1; have := hg2.size; omega, fun g hg hne => (hg2.block g (by have := hKd.1; omega) (fun e => hne (by injection e))).trans (hKd.2.1 g hg hne), hKd.2.2.trans (.grown hg2)⟩⟩
          have hmu : v2.rangeLeft mb rb < cnt := by rw [hrg2.left_eq]; omega
          clear hS hS5 hrg2 hg2 ht2 hrun hmd hKd hrgd
          go_wp2_with (first | (with_reducible refine hold_append ?_) | (with_reducible refine hold_make ?_) | (with_reducible refine hold_copy ?_))
          exact ⟨hend, hmu⟩
        · have he1 : ∀ W, (binOp .eql 54 (.agg #[.int .i64 a, .int .i64 b]) (.agg #[.int .i64 nd, .int .i64 b])).run Try.prog W = .ok (.bool false) W := fun W => by rw [eql_way]; simp [ha2]
          have he2 : ∀ W, (binOp .eql 54 (.agg #[.int .i64 a, .int .i64 b]) (.agg #[.int .i64 a, .int .i64 nd])).run Try.prog W = .ok (.bool true) W := fun W => by
            have hb2 : b = nd := by rcases hab with h | h; exact absurd h ha2; exact h
            rw [eql_way]; simp [hb2]
          clear ha2 hab
          go_upto_region 5 with fail
          clear he1 k0 k1
          try clear he2
          refine rg_start (fun W : World => Box W pb 50 #[.map (some mb)] ∧ Box W kb 54 #[.int .i64 a, .int .i64 b]) (by kernel_rfl) ?_
          have hS : Box w9.drew pb 50 #[.map (some mb)] ∧ Box w9.drew kb 54 #[.int .i64 a, .int .i64 b] := ⟨hx9, hk9⟩
          have hrgd : w9.drew.ranges Try.prog 54 rawW mb rb n D3 (fun z => left z && !z.sameKey (wayL a b)) cnt7 := hrg9
          have hmd : WrMap w9.drew F mb n D3 hd (cl left nd R) := hm9.keep (fun g hg => rfl) (Nat.le_refl _)
          have hKd : KeepF (· = mb) w w9.drew := hK9
          clear hx9 hk9 hrg9 hm9 hK9
          generalize w9.drew = v1 at *
          obtain ⟨v2, cnt8, hrun, hrg2, hle2, ht2⟩ := hrgd.drop way_keyed Try.underlying48 (way_key ha hb) 0
          have hg2 := ht2.grown
          refine rg_take 0 (v := ?_) rfl (by kernel_rfl) (by kernel_rfl) (by kernel_rfl) hS rfl ?_ ?_
          rotate_left
          · intro wS hSw; go_simp; (with_reducible rfl)
          simp only [List.getElem_toArray, List.getElem_cons_zero, Act.put, List.setIfInBounds_toArray, List.set_cons_zero, List.set_cons_succ]
          refine rg_take 1 (v := ?_) rfl (by kernel_rfl) (by kernel_rfl) (by kernel_rfl) hS rfl ?_ ?_
          rotate_left
          · intro wS hSw; have k0 := hSw.1.cell (j := 0) rfl; go_simp; (with_reducible rfl)
          simp only [List.getElem_toArray, List.getElem_cons_succ, List.getElem_cons_zero, Act.put, List.setIfInBounds_toArray, List.set_cons_zero, List.set_cons_succ]
          refine rg_take 2 (v := ?_) rfl (by kernel_rfl) (by kernel_rfl) (by kernel_rfl) hS rfl ?_ ?_
          rotate_left
          · intro wS hSw; go_simp; (with_reducible rfl)
          simp only [List.getElem_toArray, List.getElem_cons_succ, List.getElem_cons_zero, Act.put, List.setIfInBounds_toArray, List.set_cons_zero, List.set_cons_succ]
          refine rg_take 3 (v := ?_) rfl (by kernel_rfl) (by kernel_rfl) (by kernel_rfl) hS rfl ?_ ?_
          rotate_left
          · intro wS hSw; have k0 := hSw.1.cell (j := 0) rfl; go_simp; (with_reducible rfl)
          simp only [List.getElem_toArray, List.getElem_cons_succ, List.getElem_cons_zero, Act.put, List.setIfInBounds_toArray, List.set_cons_zero, List.set_cons_succ]
          refine rg_take 4 (v := ?_) rfl (by kernel_rfl) (by kernel_rfl) (by kernel_rfl) hS rfl ?_ ?_
          rotate_left
          · intro wS hSw; have k0 := hSw.2.cell (j := 0) rfl; have k1 := hSw.2.cell (j := 1) rfl; go_simp; (with_reducible rfl)
          simp only [List.getElem_toArray, List.getElem_cons_succ, List.getElem_cons_zero, Act.put, List.setIfInBounds_toArray, List.set_cons_zero, List.set_cons_succ]
          refine rg_one 5 rfl (by kernel_rfl) rfl (fun K hK => ?_)
          refine op_delete rfl rfl rfl rfl hrun ?_
          have hS5 : Box v2 pb 50 #[.map (some mb)] ∧ Box v2 kb 54 #[.int .i64 a, .int .i64 b] := ⟨hS.1.grown hg2 (fun e => hpm (by injection e)), hS.2.grown hg2 (fun e => hkm (by injection e))⟩
          refine hK _ _ hS5 ?_; clear hK K
          try simp only [List.getElem_toArray, List.getElem_cons_succ, List.getElem_cons_zero, Act.put, List.setIfInBounds_toArray, List.set_cons_zero, List.set_cons_succ]
          refine rg_end (by kernel_rfl) ?_
          have hend : ClRound w F pb mb n hd R nd rb v2 := ⟨_, _, cnt8, hmd.gone ha hb hcl.out hrg2.owns HNE.out (fun g h1 h2 h3 => hg2.block g h1 (fun e => h2 (by injection e))) hg2.size, hrg2, hS5.1, ⟨by have := hKd.1; have := hg2.size; omega, fun g hg hne => (hg2.block g (by have := hKd.1; omega) (fun e => hne (by injection e))).trans (hKd.2.1 g hg hne), hKd.2.2.trans (.grown hg2)⟩⟩
          have hmu : v2.rangeLeft mb rb < cnt := by rw [hrg2.left_eq]; omega
          clear hS hS5 hrg2 hg2 ht2 hrun hmd hKd hrgd
          go_wp2_with (first | (with_reducible refine hold_append ?_) | (with_reducible refine hold_make ?_) | (with_reducible refine hold_copy ?_))
          exact ⟨hend, hmu⟩
      · have hcl : Hid (∀ x y, bag (cl (fun z => left z && !z.sameKey (wayL a b)) nd R) x y = bag (cl left nd R) x y) := Lib.hid (cl_in HWF.out ha hb hHL.out hab)
        have he1 : ∀ W, (binOp .eql 54 (.agg #[.int .i64 a, .int .i64 b]) (.agg #[.int .i64 nd, .int .i64 b])).run Try.prog W = .ok (.bool false) W := fun W => by rw [eql_way]; simp; omega
        have he2 : ∀ W, (binOp .eql 54 (.agg #[.int .i64 a, .int .i64 b]) (.agg #[.int .i64 a, .int .i64 nd])).run Try.prog W = .ok (.bool false) W := fun W => by rw [eql_way]; simp; omega
        have hend : ClRound w F pb mb n hd R nd rb w9 := ⟨D3, _, cnt7, hm9.bags hcl.out, hrg9, hx9, hK9⟩
        have hmu : w9.rangeLeft mb rb < cnt := by rw [hrg9.left_eq]; exact hlt7
        clear hab hm9 hrg9 hx9 hK9 hne
        go_wp2_with (first | (with_reducible refine hold_append ?_) | (with_reducible refine hold_make ?_) | (with_reducible refine hold_copy ?_))
        exact ⟨hend, hmu⟩
end Go.PH

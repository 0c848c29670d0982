/- The walk of Ways. -/
import Derived.Test.YtemngfljlaimdaaWrSort
import Derived.Test.YtemngfljlaimdaaWrClearMath
set_option linter.all false
set_option linter.unusedSimpArgs false
set_option linter.unusedVariables false
namespace Go.PH
open Go.RowKit Go.Proofs Go.ChangeMaps

def WaysR (w : World) (R : List Wl) (e : Ending) (w' : World) : Prop :=
  ∃ A c, e = .returned (.slice A (waysW R).length c) ∧ Own w' w.heap.size 45 2 A (waysW R).length c (rowC wayC (waysW R)) ∧ Below w.heap.size w w'
/-- what a round keeps -/
def WyRound (w : World) (mb n : Nat) (D : DataW Value) (R : List Wl) (r : Nat) (s : Value) (wr : World) : Prop :=
  ∃ (l : List (Int × Int)) (A : Option Addr) (c : Nat) (left : Lit → Bool) (cnt : Nat), s = .slice A l.length c ∧ Own wr w.heap.size 45 2 A l.length c (rowC wayC l) ∧ wr.ranges Try.prog 54 rawW mb r n D left cnt ∧ l.length + cnt ≤ n ∧ Below w.heap.size w wr ∧
    l.Nodup ∧ (∀ p ∈ l, bag R p.1 p.2 ≠ [] ∧ left (wayL p.1 p.2) = false) ∧ (∀ a b, i64ok a → i64ok b → bag R a b ≠ [] → left (wayL a b) = true ∨ (a, b) ∈ l)
set_option maxRecDepth 20000 in
set_option maxHeartbeats 4000000 in
theorem ways_any (F : Nat → Prop) (pb n : Nat) (R : List Wl) (w : World) (h : Wr w F pb n R) (hn : n ≤ 1000000) :
    Calls Try.prog 15 #[.pointer (some ⟨pb, 0, none⟩)] w (WaysR w R) := by
  obtain ⟨⟨mb, D, hd, hx, hpF, hpm, hpr, hm⟩, hwf, hmost⟩ := h
  have hth := there_any pb mb w hx
  have HWF := Lib.hid (show ∀ x ∈ R, i64ok x.fr ∧ i64ok x.to from fun x hx => ⟨(hwf x hx).1, (hwf x hx).2.1⟩)
  clear hpr hmost hwf
  go_enter Try.func15, Try.ntmps15
  go_wp2_with (first | (with_reducible refine hold_append ?_) | (with_reducible refine hold_make ?_) | (with_reducible refine hold_copy ?_))
  refine hth.mono ?_
  rintro e w1 ⟨rfl, e1⟩
  subst w1
  clear hth
  have k0 := hx.cell (j := 0) rfl
  go_wp2_with (first | (with_reducible refine hold_append ?_) | (with_reducible refine hold_make ?_) | (with_reducible refine hold_copy ?_) | (with_reducible refine hold_insert ?_) | (with_reducible refine hold_range ?_) | (with_reducible refine hold_next ?_))
  refine unhold (wpList_range_own (H := Value) _ rfl _ 48 rfl 54 22 way_keyed Try.underlying48 rawW _ _ _ rfl hm.owns ?_)
  intro w2 hrg2 hg2 hs2
  clear k0
  have hB2 : Below w.heap.size w w2 := (Below.refl _ _).grown hg2 (Nat.le_refl _) (fun g hg => by cases hg)
  have hsz : Maps.size D ≤ n := hm.owns.size_le
  have hstart : WyRound w mb n D R w.heap.size (.slice none 0 0) w2 := ⟨[], none, 0, _, _, rfl, Own.none_ _ _ _ _, hrg2, by simpa using hsz, hB2, List.nodup_nil, by simp, fun a b ha hb hne => .inl (hm.has a b ha hb hne).1⟩
  have hmw : mb < w.heap.size := hm.lt _ hm.inF
  have HM := Lib.hid hm
  clear hrg2 hg2 hs2 hB2 hx hsz hm
  go_frame
  go_wp2_with (first | (with_reducible refine hold_append ?_) | (with_reducible refine hold_make ?_) | (with_reducible refine hold_copy ?_))
  try go_frame
  go_loopw [3] (fun s wr => WyRound w mb n D R w.heap.size s wr) (fun _ wr => wr.rangeLeft mb w.heap.size)
  case atStart => exact hstart
  case round =>
    obtain ⟨l, A, c, left, cnt, rfl, ho3, hrg3, hln, hB3, hnd, hin, hall⟩ := hrel
    have hmu : wr.rangeLeft mb w.heap.size = cnt := hrg3.left_eq
    rw [hmu]
    clear hmu hstart
    go_wp2_with (first | (with_reducible refine hold_append ?_) | (with_reducible refine hold_make ?_) | (with_reducible refine hold_copy ?_) | (with_reducible refine hold_insert ?_) | (with_reducible refine hold_range ?_) | (with_reducible refine hold_next ?_))
    refine unhold (wpList_next_ranges (H := Value) (α := Int × Int) (β := Value) _ rfl _ rfl 54 way_keyed rawW (fun p => .agg #[.int .i64 p.1, .int .i64 p.2]) (fun v => v) (fun key kl hk => by obtain ⟨a, b, rfl, _⟩ := way_inv key kl hk; exact ⟨(a, b), rfl⟩) (fun v y hv => ⟨v, rfl⟩) _ _ _ _ _ _ rfl hrg3 ?_ ?_)
    · intro _ hl0
      have hso := fun W (h : Own W w.heap.size 45 2 A l.length c (rowC wayC l)) (hb : w.heap.size ≤ W.heap.size) => sortp_any A l.length c l w.heap.size W h hb (by omega)
      have HL : Hid ((l.mergeSort fun x y => !(ltOf cmpP) y x) = waysW R) := Lib.hid (ways_sorted hnd (fun p => ⟨fun hp => (hin p hp).1, fun hp => by
        have hok : i64ok p.1 ∧ i64ok p.2 := by
          by_cases he : ∃ z ∈ R, z.on p.1 p.2 = true
          · obtain ⟨z, hz, ho⟩ := he
            simp only [Wl.on, decide_eq_true_eq] at ho
            rw [← ho.1, ← ho.2]
            exact HWF.out z hz
          · refine absurd ?_ hp
            unfold bag
            rw [List.map_eq_nil_iff, List.filter_eq_nil_iff]
            exact fun z hz ho => he ⟨z, hz, ho⟩
        rcases hall p.1 p.2 hok.1 hok.2 hp with h | h
        · rw [hl0] at h; cases h
        · exact h⟩))
      have HLN : Hid (l.length = (waysW R).length) := Lib.hid (by rw [← HL.out, List.length_mergeSort])
      have hso' := hso wr ho3 hB3.size
      generalize l.length = N at *
      clear hall hin hnd hrg3 hso hl0
      have HB3 := Lib.hid hB3
      clear hB3
      go_wp2_with (first | (with_reducible refine hold_append ?_) | (with_reducible refine hold_make ?_) | (with_reducible refine hold_copy ?_))
      refine hso'.mono ?_
      rintro e w4 ⟨rfl, ho4, hg4⟩
      go_wp2_with (first | (with_reducible refine hold_append ?_) | (with_reducible refine hold_make ?_) | (with_reducible refine hold_copy ?_))
      go_ret
      rw [HL.out] at ho4
      refine ⟨A, c, by rw [HLN.out]; rfl, by rw [← HLN.out]; exact ho4, HB3.out.grown hg4 HB3.out.size (fun g hg => (ho3.blk_lt hg).1)⟩
    · rintro ⟨a, b⟩ cv kl y w7 cnt7 hkey hlk hv hat hrg7 hlt7 hg7 hs7 hen
      simp only at hkey hen ⊢
      obtain ⟨a', b', e1, ha, hb, e2⟩ := way_inv _ kl hkey
      obtain ⟨rfl, rfl⟩ : a = a' ∧ b = b' := by simpa [wayV] using e1
      subst e2
      have hne := at_bag HM.out ha hb hat
      have hrb3 : w.heap.size < wr.heap.size := hrg3.lt
      have hrA : blk A ≠ some w.heap.size := fun e => Go.row_ne_iter ho3 hrg3 (by rw [ownBlock_eq, e])
      have ho7 : Own w7 w.heap.size 45 2 A l.length c (rowC wayC l) := own_stays ho3 hg7 (fun g hg e => hrA (by rw [hg, e]))
      have hB7 : Below w.heap.size w w7 := hB3.grown hg7 hB3.size (fun g hg => by injection hg with hg; omega)
      have HS : Hid (Below w.heap.size w wr) := Lib.hid hB3
      clear hrg3 ho3 hB3 hg7 hat hv hkey e1 hs7
      obtain ⟨kb, w8, hqb, hqv, hk8, hB8⟩ := alloc_stepW w7 #[.int .i64 0, .int .i64 0] 54
      have hs8 : w8.heap.size = w7.heap.size + 1 := by rw [hqv]; simp
      go_wp2_with (first | (with_reducible refine hold_append ?_) | (with_reducible refine hold_make ?_) | (with_reducible refine hold_copy ?_) | (with_reducible refine hold_store ?_))
      rw [← hqb, ← hqv]
      refine unhold (wp_box (v := .agg #[.int .i64 a, .int .i64 b]) (vs := [.int .i64 a, .int .i64 b]) rfl rfl rfl rfl hk8 rfl (by kernel_rfl) (by simp) (by simp [Value.oneCell']) #[.int .i64 a, .int .i64 b] (by simp) ?_)
      intro w9 hk9 hg9 hz9
      have hB9 : Below w7.heap.size w7 w9 := hB8.grown hg9 hB8.size (fun g hg => by injection hg with hg; omega)
      have ho9 := own_below ho7 hB9
      have hBw9 := hB7.trans (hB9.mono hB7.size)
      have hrg9 := (hrg7.kept (row := none) ⟨hB9.os, hB9.tape, hB9.output, hB9.size, fun k hk _ => hB9.block k hk⟩ (by simp) (by simp))
      have hAl : ∀ g, blk A = some g → g < w7.heap.size ∧ w.heap.size ≤ g := fun g hg => ⟨(ho7.blk_lt hg).2, (ho7.blk_lt hg).1⟩
      have hs9 := hB9.size
      clear ho7 hB7 hB9 hk8 hg9 hz9 hqb hqv hB8 hrg7 hs8 hen
      have k0 := hk9.cell (j := 0) rfl
      have k1 := hk9.cell (j := 1) rfl
      have hwb := hBw9.size
      have HAll := Lib.hid hall
      have HIn := Lib.hid hin
      have HND := Lib.hid hnd
      have HLK := Lib.hid hlk
      have HNE := Lib.hid hne
      clear hall hin hnd hlk hne
      go_wp2_with (first | (with_reducible refine hold_append ?_) | (with_reducible refine hold_make ?_) | (with_reducible refine hold_copy ?_))
      refine unhold (wp_rec wayShape slPair Try.underlying43 rfl rfl rfl rfl rfl ((a, b) : Int × Int) rfl ho9 (by omega) (by omega) (by omega) ?_)
      intro A2 c2 w10 ho10 hg10 hbA hB10
      have hrA9 : blk A ≠ some w.heap.size := fun e => Go.row_ne_iter ho9 hrg9 (by rw [ownBlock_eq, e])
      have hrg10 := hrg9.kept hg10 (fun e => by have := (hAl _ e.symm).2; omega) (fun e => hrA9 e.symm)
      have hend : WyRound w mb n D R w.heap.size (.slice A2 (l.length + 1) c2) w10 := ⟨l ++ [(a, b)], A2, c2, _, cnt7, by simp, by rw [List.length_append]; exact ho10, hrg10, by rw [List.length_append]; simp; omega, hBw9.grown hg10 hBw9.size (fun g hg => (hAl g hg).2), List.nodup_append.2 ⟨HND.out, by simp, fun x hx y hy e => by
          obtain rfl := List.mem_singleton.1 hy
          subst e
          have := (HIn.out _ hx).2
          rw [HLK.out] at this; cases this⟩, fun p hp => by
          rcases List.mem_append.1 hp with hp | hp
          · exact ⟨(HIn.out p hp).1, by rw [(HIn.out p hp).2]; rfl⟩
          · obtain rfl := List.mem_singleton.1 hp
            exact ⟨HNE.out, by rw [WideAt.sameKey_self (way_keyed.key (way_key ha hb))]; simp⟩, fun x y hx hy hne => by
          rcases HAll.out x y hx hy hne with h | h
          · by_cases hxy : x = a ∧ y = b
            · right; simp [hxy.1, hxy.2]
            · left
              rw [h, Maps.sameKey_ne (fun e => hxy (wayL_inj hx hy ha hb e))]; rfl
          · right; simp [h]⟩
      have hmu : w10.rangeLeft mb w.heap.size < cnt := by rw [hrg10.left_eq]; exact hlt7
      clear ho9 hrg9 hrg10 ho10 hg10 hB10 hBw9 hAl hbA hrA hrA9
      go_wp2_with (first | (with_reducible refine hold_append ?_) | (with_reducible refine hold_make ?_) | (with_reducible refine hold_copy ?_))
      exact ⟨hend, hmu⟩
end Go.PH

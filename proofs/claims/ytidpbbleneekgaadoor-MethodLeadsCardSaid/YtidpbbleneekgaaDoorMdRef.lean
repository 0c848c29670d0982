/- The walks of the document's Find, Named. -/
import Derived.Test.YtidpbbleneekgaaDoorMdTab
set_option linter.all false
set_option linter.unusedSimpArgs false
set_option linter.unusedVariables false
namespace Go.PH
open Go.RowKit Go.Proofs

theorem rr_one {a b : Int} {g h : ByteArray} : ∀ u ∈ [Value.int .u8 a, .int .u8 b, .string g, .string h], u.oneCell' = true := by
  intro u hu
  simp at hu; rcases hu with rfl | rfl | rfl | rfl <;> rfl
def RFindR (w : World) (r : Option RRow) (e : Ending) (w' : World) : Prop := e = .returned (.tuple #[.agg (rrV (r.getD rr0)), .bool r.isSome]) ∧ Below w.heap.size w w'
theorem find_take {α : Type} {p : α → Bool} {l : List α} {j : Nat} (hj : j < l.length) (h : (l.take j).find? p = none) : (p l[j] = true → l.find? p = some l[j]) ∧ (p l[j] = false → (l.take (j + 1)).find? p = none) := by
  constructor
  · intro hp
    have e : l.find? p = (l.take j ++ l.drop j).find? p := by rw [List.take_append_drop]
    rw [e, List.find?_append, h, Option.none_or, List.drop_eq_getElem_cons hj, List.find?_cons, hp]
  · intro hp
    rw [List.take_succ_eq_append_getElem hj, List.find?_append, h]
    simp [hp]
set_option maxRecDepth 20000 in
set_option maxHeartbeats 2000000 in
theorem rfind_any (c k : Nat) (w : World) : Calls Tryd.prog 13 #[.int .u8 (c : Int), .int .u8 (k : Int)] w (RFindR w (refFind c k)) := by
  obtain ⟨RS, hRS⟩ : ∃ RS, RS = refFind c k := ⟨_, rfl⟩
  rw [← hRS]
  have HRS : Hid (RS = refTab.find? fun r => decide (r.cls = c ∧ r.code = k)) := Lib.hid hRS
  clear hRS
  have hB0 := ((Below.refl w.heap.size w).alloc (Nat.le_refl _) (.cells (rrV rr0) 36)).alloc (by simp) (.cells tabCells 36)
  have hz0 := (Box.new w (rrV rr0) 36).alloc (.cells tabCells 36)
  have hb0 := Box.new (w.alloc (.cells (rrV rr0) 36)) tabCells 36
  have htb := table_any (w.alloc (.cells (rrV rr0) 36))
  have hs1 : (w.alloc (.cells (rrV rr0) 36)).heap.size = w.heap.size + 1 := by simp
  have hl44 : refTab.length = 44 := by decide
  have HL := Lib.hid hl44
  clear hl44
  rw [hs1] at hb0 htb
  unfold rrV rr0 at hz0 htb hb0 hB0
  simp only at hz0 htb hb0 hB0
  clear hs1
  go_enter Tryd.func13, Tryd.ntmps13
  go_wp2_with (first | (with_reducible refine hold_append ?_) | (with_reducible refine hold_make ?_) | (with_reducible refine hold_copy ?_))
  refine htb.mono ?_
  rintro e w1 ⟨rfl, rfl⟩
  clear htb
  generalize ((w.alloc (.cells #[.int .u8 ((0 : Nat) : Int), .int .u8 ((0 : Nat) : Int), .string (str []), .string (str [])] 36)).alloc (.cells tabCells 36)) = w1 at *
  go_wp2_with (first | (with_reducible refine hold_append ?_) | (with_reducible refine hold_make ?_) | (with_reducible refine hold_copy ?_))
  go_loopw [7] (fun s wr => ∃ (j : Nat), j ≤ 44 ∧ s = .int .i64 j ∧ Hid ((refTab.take j).find? (fun r => decide (r.cls = c ∧ r.code = k)) = none) ∧ Box wr w.heap.size 36 #[.int .u8 ((0 : Nat) : Int), .int .u8 ((0 : Nat) : Int), .string (str []), .string (str [])] ∧ Box wr (w.heap.size + 1) 36 tabCells ∧ Below w.heap.size w wr) (fun s _ => 44 - (RowKit.intOf s).toNat)
  case atStart => exact ⟨0, by omega, rfl, Lib.hid rfl, hz0, hb0, hB0⟩
  case round =>
    obtain ⟨j, hj, rfl, HN, hz, hb, hB⟩ := hrel
    clear hz0 hb0 hB0
    by_cases hlt : j < 44
    · have hjl : j < refTab.length := by rw [HL.out]; exact hlt
      have hjn : (j : Int) < 44 := by omega
      have hc := tab_cell hb hjl
      have HT := Lib.hid (find_take hjl HN.out)
      have hsm := row_len _ (List.getElem_mem hjl)
      generalize refTab[j] = r at *
      obtain ⟨rc, rk, rn, rd⟩ := r
      have k0 : wr.cell? ⟨w.heap.size + 1, j * 4, none⟩ = _ := hc 0 _ rfl
      have k1 := hc 1 _ rfl
      have k2 := hc 2 _ rfl
      have k3 := hc 3 _ rfl
      clear hc hsm
      by_cases h1 : rc = c
      · subst h1
        by_cases h2 : rk = k
        · subst h2
          have HR : Hid (RS = some ⟨rc, rk, rn, rd⟩) := Lib.hid (by rw [HRS.out]; exact HT.out.1 (by simp))
          clear HT HN HRS
          go_wp2_with (first | (with_reducible refine hold_append ?_) | (with_reducible refine hold_make ?_) | (with_reducible refine hold_copy ?_) | (with_reducible refine hold_store ?_))
          refine unhold (wp_box (v := .agg #[.int .u8 (rc : Int), .int .u8 (rk : Int), .string (str rn), .string (str rd)]) (vs := [.int .u8 (rc : Int), .int .u8 (rk : Int), .string (str rn), .string (str rd)]) rfl rfl rfl rfl hz rfl (by kernel_rfl) (by simp) rr_one #[.int .u8 (rc : Int), .int .u8 (rk : Int), .string (str rn), .string (str rd)] (by simp) ?_)
          intro w5 hz5 hg5 _
          have hB5 := hB.grown hg5 hB.size (fun g hg => by injection hg with hg; omega)
          clear k0 k1 k2 k3 hz hb hB
          go_wp2_with (first | (with_reducible refine hold_append ?_) | (with_reducible refine hold_make ?_) | (with_reducible refine hold_copy ?_))
          refine ret_box_tmp rfl hz5 rfl rfl Tryd.underlying36 rfl (by kernel_rfl) rfl ?_
          rw [HR.out]
          exact ⟨rfl, hB5⟩
        · have HN2 : Hid ((refTab.take (j + 1)).find? (fun r => decide (r.cls = rc ∧ r.code = k)) = none) := Lib.hid (HT.out.2 (by simp [h2]))
          have e2 : ((rk : Int) == (k : Int)) = false := by simp; omega
          clear HT HN h2
          go_wp2_with (first | (with_reducible refine hold_append ?_) | (with_reducible refine hold_make ?_) | (with_reducible refine hold_copy ?_))
          exact ⟨⟨j + 1, by omega, by go_num, HN2, hz, hb, hB⟩, by simp [RowKit.intOf]; omega⟩
      · have HN2 : Hid ((refTab.take (j + 1)).find? (fun r => decide (r.cls = c ∧ r.code = k)) = none) := Lib.hid (HT.out.2 (by simp [h1]))
        have e1 : ((rc : Int) == (c : Int)) = false := by simp; omega
        clear HT HN h1
        go_wp2_with (first | (with_reducible refine hold_append ?_) | (with_reducible refine hold_make ?_) | (with_reducible refine hold_copy ?_))
        exact ⟨⟨j + 1, by omega, by go_num, HN2, hz, hb, hB⟩, by simp [RowKit.intOf]; omega⟩
    · obtain rfl : j = 44 := by omega
      have HR : Hid (RS = none) := Lib.hid (by
        rw [HRS.out]
        have := HN.out
        rwa [List.take_of_length_le (by rw [HL.out]; omega)] at this)
      clear HN HRS
      go_wp2_with (first | (with_reducible refine hold_append ?_) | (with_reducible refine hold_make ?_) | (with_reducible refine hold_copy ?_) | (with_reducible refine hold_store ?_))
      refine unhold (wp_box (v := .agg #[.int .u8 0, .int .u8 0, .string ⟨#[]⟩, .string ⟨#[]⟩]) (vs := [.int .u8 0, .int .u8 0, .string ⟨#[]⟩, .string ⟨#[]⟩]) rfl rfl rfl rfl hz rfl (by kernel_rfl) (by simp) rr_one #[.int .u8 0, .int .u8 0, .string ⟨#[]⟩, .string ⟨#[]⟩] (by simp) ?_)
      intro w5 hz5 hg5 _
      have hB5 := hB.grown hg5 hB.size (fun g hg => by injection hg with hg; omega)
      clear hz hb hB
      go_wp2_with (first | (with_reducible refine hold_append ?_) | (with_reducible refine hold_make ?_) | (with_reducible refine hold_copy ?_))
      refine ret_box_tmp rfl hz5 rfl rfl Tryd.underlying36 rfl (by kernel_rfl) rfl ?_
      rw [HR.out]
      exact ⟨rfl, hB5⟩
set_option maxRecDepth 20000 in
set_option maxHeartbeats 2000000 in
theorem rnamed_any (s : List UInt8) (w : World) : Calls Tryd.prog 16 #[.string (str s)] w (RFindR w (refNamed s)) := by
  obtain ⟨RS, hRS⟩ : ∃ RS, RS = refNamed s := ⟨_, rfl⟩
  rw [← hRS]
  have HRS : Hid (RS = refTab.find? fun r => decide (r.name = s)) := Lib.hid hRS
  clear hRS
  have hB0 := ((Below.refl w.heap.size w).alloc (Nat.le_refl _) (.cells (rrV rr0) 36)).alloc (by simp) (.cells tabCells 36)
  have hz0 := (Box.new w (rrV rr0) 36).alloc (.cells tabCells 36)
  have hb0 := Box.new (w.alloc (.cells (rrV rr0) 36)) tabCells 36
  have htb := table_any (w.alloc (.cells (rrV rr0) 36))
  have hs1 : (w.alloc (.cells (rrV rr0) 36)).heap.size = w.heap.size + 1 := by simp
  have hl44 : refTab.length = 44 := by decide
  have HL := Lib.hid hl44
  clear hl44
  rw [hs1] at hb0 htb
  unfold rrV rr0 at hz0 htb hb0 hB0
  simp only at hz0 htb hb0 hB0
  clear hs1
  go_enter Tryd.func16, Tryd.ntmps16
  go_wp2_with (first | (with_reducible refine hold_append ?_) | (with_reducible refine hold_make ?_) | (with_reducible refine hold_copy ?_))
  refine htb.mono ?_
  rintro e w1 ⟨rfl, rfl⟩
  clear htb
  generalize ((w.alloc (.cells #[.int .u8 ((0 : Nat) : Int), .int .u8 ((0 : Nat) : Int), .string (str []), .string (str [])] 36)).alloc (.cells tabCells 36)) = w1 at *
  go_wp2_with (first | (with_reducible refine hold_append ?_) | (with_reducible refine hold_make ?_) | (with_reducible refine hold_copy ?_))
  go_loopw [5] (fun x wr => ∃ (j : Nat), j ≤ 44 ∧ x = .int .i64 j ∧ Hid ((refTab.take j).find? (fun r => decide (r.name = s)) = none) ∧ Box wr w.heap.size 36 #[.int .u8 ((0 : Nat) : Int), .int .u8 ((0 : Nat) : Int), .string (str []), .string (str [])] ∧ Box wr (w.heap.size + 1) 36 tabCells ∧ Below w.heap.size w wr) (fun x _ => 44 - (RowKit.intOf x).toNat)
  case atStart => exact ⟨0, by omega, rfl, Lib.hid rfl, hz0, hb0, hB0⟩
  case round =>
    obtain ⟨j, hj, rfl, HN, hz, hb, hB⟩ := hrel
    clear hz0 hb0 hB0
    by_cases hlt : j < 44
    · have hjl : j < refTab.length := by rw [HL.out]; exact hlt
      have hjn : (j : Int) < 44 := by omega
      have hc := tab_cell hb hjl
      have HT := Lib.hid (find_take hjl HN.out)
      generalize refTab[j] = r at *
      obtain ⟨rc, rk, rn, rd⟩ := r
      have k0 : wr.cell? ⟨w.heap.size + 1, j * 4, none⟩ = _ := hc 0 _ rfl
      have k1 := hc 1 _ rfl
      have k2 := hc 2 _ rfl
      have k3 := hc 3 _ rfl
      clear hc
      by_cases h1 : rn = s
      · subst h1
        have HR : Hid (RS = some ⟨rc, rk, rn, rd⟩) := Lib.hid (by rw [HRS.out]; exact HT.out.1 (by simp))
        have hq : ((str rn).toList == (str rn).toList) = true := by simp
        clear HT HN HRS
        go_wp2_with (first | (with_reducible refine hold_append ?_) | (with_reducible refine hold_make ?_) | (with_reducible refine hold_copy ?_) | (with_reducible refine hold_store ?_))
        refine unhold (wp_box (v := .agg #[.int .u8 (rc : Int), .int .u8 (rk : Int), .string (str rn), .string (str rd)]) (vs := [.int .u8 (rc : Int), .int .u8 (rk : Int), .string (str rn), .string (str rd)]) rfl rfl rfl rfl hz rfl (by kernel_rfl) (by simp) rr_one #[.int .u8 (rc : Int), .int .u8 (rk : Int), .string (str rn), .string (str rd)] (by simp) ?_)
        intro w5 hz5 hg5 _
        have hB5 := hB.grown hg5 hB.size (fun g hg => by injection hg with hg; omega)
        clear k0 k1 k2 k3 hz hb hB
        go_wp2_with (first | (with_reducible refine hold_append ?_) | (with_reducible refine hold_make ?_) | (with_reducible refine hold_copy ?_))
        refine ret_box_tmp rfl hz5 rfl rfl Tryd.underlying36 rfl (by kernel_rfl) rfl ?_
        rw [HR.out]
        exact ⟨rfl, hB5⟩
      · have HN2 : Hid ((refTab.take (j + 1)).find? (fun r => decide (r.name = s)) = none) := Lib.hid (HT.out.2 (by simp [h1]))
        have hq : ((str rn).toList == (str s).toList) = false := by rw [str_toList, str_toList]; simpa using h1
        clear HT HN h1
        go_wp2_with (first | (with_reducible refine hold_append ?_) | (with_reducible refine hold_make ?_) | (with_reducible refine hold_copy ?_))
        exact ⟨⟨j + 1, by omega, by go_num, HN2, hz, hb, hB⟩, by simp [RowKit.intOf]; omega⟩
    · obtain rfl : j = 44 := by omega
      have HR : Hid (RS = none) := Lib.hid (by
        rw [HRS.out]
        have := HN.out
        rwa [List.take_of_length_le (by rw [HL.out]; omega)] at this)
      clear HN HRS
      go_wp2_with (first | (with_reducible refine hold_append ?_) | (with_reducible refine hold_make ?_) | (with_reducible refine hold_copy ?_) | (with_reducible refine hold_store ?_))
      refine unhold (wp_box (v := .agg #[.int .u8 0, .int .u8 0, .string ⟨#[]⟩, .string ⟨#[]⟩]) (vs := [.int .u8 0, .int .u8 0, .string ⟨#[]⟩, .string ⟨#[]⟩]) rfl rfl rfl rfl hz rfl (by kernel_rfl) (by simp) rr_one #[.int .u8 0, .int .u8 0, .string ⟨#[]⟩, .string ⟨#[]⟩] (by simp) ?_)
      intro w5 hz5 hg5 _
      have hB5 := hB.grown hg5 hB.size (fun g hg => by injection hg with hg; omega)
      clear hz hb hB
      go_wp2_with (first | (with_reducible refine hold_append ?_) | (with_reducible refine hold_make ?_) | (with_reducible refine hold_copy ?_))
      refine ret_box_tmp rfl hz5 rfl rfl Tryd.underlying36 rfl (by kernel_rfl) rfl ?_
      rw [HR.out]
      exact ⟨rfl, hB5⟩
end Go.PH

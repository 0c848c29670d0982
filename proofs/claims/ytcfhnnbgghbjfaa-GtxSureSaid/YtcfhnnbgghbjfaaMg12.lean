/- Texts laid together: GtCheck. -/
import Derived.Deep.CutBlock
import Derived.Deep.DeepCutAuto
import Derived.Test.YtcfhnnbgghbjfaaMg11
section
/- The walk of gtx's Check. -/
set_option linter.all false
set_option linter.unusedSimpArgs false
set_option linter.unusedVariables false
namespace Go.PH
open Go.RowKit Go.Proofs

theorem lit_st (w : World) (S : List Nat) (hS : 0 < S.length) (h9 : S.length ≤ 100) : RdSt (w.alloc (.cells (S.map stv).toArray 43)) (w.heap.size + 1) (some ⟨w.heap.size, 0, none⟩) S.length S.length S := by
  have h := (own_lit (w := w) w.heap.size (S.map stv).toArray 43 S.length (Nat.le_refl _) (by simp [maxLen]; omega) (by simp) (size := 1) (by omega)).rd
  have e : (w.alloc (.cells (S.map stv).toArray 43)).heap.size = w.heap.size + 1 := by simp
  rw [e] at h
  exact h
theorem within_lit (S : List Nat) (A : Option Addr) (n c : Nat) (l : List Pt) (B : Nat) (w : World) (hr : RdP w B A n c l) (hB : B ≤ w.heap.size) (h0 : 0 < n) (hn : n ≤ 1000000000) (hS : 0 < S.length) (h9 : S.length ≤ 100) :
    Calls Try.prog 56 #[.slice A n c, .slice (some ⟨w.heap.size, 0, none⟩) S.length S.length] (w.alloc (.cells (S.map stv).toArray 43)) fun e w' => e = .returned (.bool (onlySt S l)) ∧ Below w.heap.size w w' := by
  have hB1 := (Below.refl w.heap.size w).alloc (Nat.le_refl _) (.cells (S.map stv).toArray 43)
  refine (within_any A n c l _ _ _ S (w.heap.size + 1) _ ((hr.below' hB1 hB).more (by omega)) (lit_st w S hS h9) (by simp) h0 hn (by omega)).mono ?_
  rintro e w' ⟨he, hB2⟩
  exact ⟨he, hB1.trans (hB2.mono hB1.size)⟩
theorem some_lit (S : List Nat) (A : Option Addr) (n c : Nat) (l : List Pt) (B : Nat) (w : World) (hr : RdP w B A n c l) (hB : B ≤ w.heap.size) (h0 : 0 < n) (hn : n ≤ 1000000000) (hS : 0 < S.length) (h9 : S.length ≤ 100) :
    Calls Try.prog 57 #[.slice A n c, .slice (some ⟨w.heap.size, 0, none⟩) S.length S.length] (w.alloc (.cells (S.map stv).toArray 43)) fun e w' => e = .returned (.bool (hasSt S l)) ∧ Below w.heap.size w w' := by
  have hB1 := (Below.refl w.heap.size w).alloc (Nat.le_refl _) (.cells (S.map stv).toArray 43)
  refine (some_any A n c l _ _ _ S (w.heap.size + 1) _ ((hr.below' hB1 hB).more (by omega)) (lit_st w S hS h9) (by simp) h0 hn (by omega)).mono ?_
  rintro e w' ⟨he, hB2⟩
  exact ⟨he, hB1.trans (hB2.mono hB1.size)⟩
theorem box_below (w : World) {W W' : World} {T : TypeId} {cs : Array Value} (h : Box W w.heap.size T cs) (hB : Below W.heap.size W W') : Box W' w.heap.size T cs := h.below hB
set_option maxRecDepth 20000 in
set_option maxHeartbeats 8000000 in
theorem gcheck_any (G : Gl) (A : Option Addr) (n c : Nat) (B : Nat) (w : World) (hG : G.wf) (hr : RdP w B A n c G.parts) (hB : B ≤ w.heap.size) (hn : n ≤ 1000000000) :
    Calls Try.prog 21 #[.agg (glV G A n c)] w fun e w' => e = .returned (.int .i64 (G.err)) ∧ Below w.heap.size w w' := by
  have hl := rec_length ptShape hr
  have hpl := fun W B' h1 h2 => plain_any A n c G.parts B' W h1 h2 hn
  have hdc := fun A' c' B' W h1 h2 => dcheck_any G.x A' n c' (allTo 0 G.parts) B' W hG.1 h1 h2 (fun p hp => by
    simp only [allTo, List.mem_map] at hp
    obtain ⟨q, hq, rfl⟩ := hp
    have := hG.2.2.1 q hq
    exact ⟨this.1, this.2.1, by simp [Pt.to]⟩) hn
  have hwi := fun S W h0 hW => within_lit S A n c G.parts B W (hr.below' hW hB) (Nat.le_trans hB hW.size) h0 hn
  have hso := fun S W h0 hW => some_lit S A n c G.parts B W (hr.below' hW hB) (Nat.le_trans hB hW.size) h0 hn
  have HDC : Hid (dcErr G.x (allTo 0 G.parts) = if dcOk G.x (allTo 0 G.parts) then 0 else 260) := Lib.hid rfl
  have HR : Hid (G.err = if dcOk G.x (allTo 0 G.parts) && onlySt [0, 1, 2, 3, 4] G.parts && decide (G.wait ≤ 3) && decide (G.tries ≤ 5) && stateOk G then 0 else 270) := Lib.hid rfl
  have HN : Hid (dcOk G.x (allTo 0 G.parts) = true → 0 < n) := Lib.hid fun h => by
    simp only [dcOk, Bool.and_eq_true, decide_eq_true_eq] at h
    have := h.1.1.2
    simp [allTo] at this
    omega
  have HST : Hid (stateOk G = if G.st = 1 then !G.com && onlySt [0] G.parts else if G.st = 2 then !G.com && onlySt [0, 1, 2] G.parts else if G.st = 3 then G.com && !hasSt [0] G.parts && hasSt [1] G.parts else if G.st = 4 then !G.com && hasSt [0, 1] G.parts else if G.st = 5 then !hasSt [0, 1] G.parts else false) := Lib.hid rfl
  have hb := hG.2.1
  have hwt := hG.2.2.2.1
  have htr := hG.2.2.2.2
  generalize G.err = R at *
  generalize stateOk G = sok at *
  generalize dcOk G.x (allTo 0 G.parts) = dok at *
  generalize dcErr G.x (allTo 0 G.parts) = der at *
  obtain ⟨o5, ho5⟩ : ∃ o5, o5 = onlySt [0, 1, 2, 3, 4] G.parts := ⟨_, rfl⟩
  rw [← ho5] at HR
  have HO5 := Lib.hid ho5
  clear ho5
  obtain ⟨⟨f, g, h⟩, st, com, l, wt, tr⟩ := G
  simp only [dcV, glV] at *
  have hr0 := hr
  clear hG hr
  obtain ⟨w0, hw0⟩ : ∃ w0, w0 = w.alloc (.cells #[.int .u32 (f : Int), .string (str g), .string (str h), .int .u8 (st : Int), .bool com, .slice A n c, .int .u32 (wt : Int), .int .u32 (tr : Int)] 28) := ⟨_, rfl⟩
  have hB0 : Below w.heap.size w w0 := by rw [hw0]; exact (Below.refl _ _).alloc (Nat.le_refl _) _
  have hb0 : Box w0 w.heap.size 28 #[.int .u32 (f : Int), .string (str g), .string (str h), .int .u8 (st : Int), .bool com, .slice A n c, .int .u32 (wt : Int), .int .u32 (tr : Int)] := by rw [hw0]; exact Box.new _ _ _
  go_enter Try.func21, Try.ntmps21
  go_upto_region 1 with fail
  rw [← hw0]
  clear hw0
  go_cut [3] from 4 to 27 (fun s3 wx => ∃ is1 : Bool, s3 = .bool is1 ∧ Hid (R = if is1 && sok then 0 else 270) ∧ Hid (is1 = true → 0 < n) ∧ Box wx w.heap.size 28 #[.int .u32 (f : Int), .string (str g), .string (str h), .int .u8 (st : Int), .bool com, .slice A n c, .int .u32 (wt : Int), .int .u32 (tr : Int)] ∧ Below w.heap.size w wx)
  case first =>
    refine rg_start (fun W : World => Box W w.heap.size 28 #[.int .u32 (f : Int), .string (str g), .string (str h), .int .u8 (st : Int), .bool com, .slice A n c, .int .u32 (wt : Int), .int .u32 (tr : Int)]) (by kernel_rfl) ?_
    have hS : Box w0.drew w.heap.size 28 #[.int .u32 (f : Int), .string (str g), .string (str h), .int .u8 (st : Int), .bool com, .slice A n c, .int .u32 (wt : Int), .int .u32 (tr : Int)] := hb0
    have hBd : Below w.heap.size w w0.drew := below_drewN hB0 1
    generalize w0.drew = w1 at *
    refine rg_take 0 (v := ?_) rfl (by kernel_rfl) (by kernel_rfl) (by kernel_rfl) hS rfl ?_ ?_
    rotate_left
    · intro wS hSw; go_simp; (with_reducible rfl)
    simp only [List.getElem_toArray, List.getElem_cons_zero, Act.put, List.setIfInBounds_toArray, List.set_cons_zero, List.set_cons_succ]
    refine rg_take 1 (v := ?_) rfl (by kernel_rfl) (by kernel_rfl) (by kernel_rfl) hS rfl ?_ ?_
    rotate_left
    · intro wS hSw
      have x0 := hSw.cell (j := 0) rfl
      have x1 := hSw.cell (j := 1) rfl
      have x2 := hSw.cell (j := 2) rfl
      have x3 := hSw.cell (j := 3) rfl
      have x4 := hSw.cell (j := 4) rfl
      have x5 := hSw.cell (j := 5) rfl
      have x6 := hSw.cell (j := 6) rfl
      have x7 := hSw.cell (j := 7) rfl
      go_simp; (with_reducible rfl)
    simp only [List.getElem_toArray, List.getElem_cons_succ, List.getElem_cons_zero, Act.put, List.setIfInBounds_toArray, List.set_cons_zero, List.set_cons_succ]
    refine rg_take 2 (v := ?_) rfl (by kernel_rfl) (by kernel_rfl) (by kernel_rfl) hS rfl ?_ ?_
    rotate_left
    · intro wS hSw; go_simp; (with_reducible rfl)
    simp only [List.getElem_toArray, List.getElem_cons_succ, List.getElem_cons_zero, Act.put, List.setIfInBounds_toArray, List.set_cons_zero, List.set_cons_succ]
    refine rg_take 3 (v := ?_) rfl (by kernel_rfl) (by kernel_rfl) (by kernel_rfl) hS rfl ?_ ?_
    rotate_left
    · intro wS hSw
      have x0 := hSw.cell (j := 0) rfl
      have x1 := hSw.cell (j := 1) rfl
      have x2 := hSw.cell (j := 2) rfl
      have x3 := hSw.cell (j := 3) rfl
      have x4 := hSw.cell (j := 4) rfl
      have x5 := hSw.cell (j := 5) rfl
      have x6 := hSw.cell (j := 6) rfl
      have x7 := hSw.cell (j := 7) rfl
      go_simp; (with_reducible rfl)
    simp only [List.getElem_toArray, List.getElem_cons_succ, List.getElem_cons_zero, Act.put, List.setIfInBounds_toArray, List.set_cons_zero, List.set_cons_succ]
    refine rg_one 4 rfl (by kernel_rfl) rfl (fun K hK => ?_)
    go_simp
    refine (hpl w1 w.heap.size ((hr0.below' hBd hB).more hB) hBd.size).mono ?_
    rintro e w2 ⟨A2, c2, rfl, ho2, hB2⟩
    have hS2 := hS.below hB2
    have hB02 := hBd.trans (hB2.mono hBd.size)
    refine hK _ _ hS2 ?_
    clear hK K hS hBd
    refine rg_take 5 (v := ?_) rfl (by kernel_rfl) (by kernel_rfl) (by kernel_rfl) hS2 rfl ?_ ?_
    rotate_left
    · intro wS hSw; go_simp; (with_reducible rfl)
    simp only [List.getElem_toArray, List.getElem_cons_succ, List.getElem_cons_zero, Act.put, List.setIfInBounds_toArray, List.set_cons_zero, List.set_cons_succ]
    refine rg_one 6 rfl (by kernel_rfl) rfl (fun K hK => ?_)
    go_simp
    refine (hdc A2 c2 _ w2 ho2.rd (Nat.le_refl _)).mono ?_
    rintro e w3 ⟨rfl, hB3⟩
    have hS3 := hS2.below hB3
    have hB03 := hB02.trans (hB3.mono hB02.size)
    refine hK _ _ hS3 ?_
    clear hK K hS2 hB02 ho2
    cases dok
    · obtain rfl : der = 260 := by have := HDC.out; simpa using this
      have HRES : Hid (R = if false && sok then 0 else 270) := Lib.hid (by rw [HR.out]; simp)
      have HP : Hid (false = true → 0 < n) := Lib.hid (by simp)
      refine rg_take 7 (v := ?_) rfl (by kernel_rfl) (by kernel_rfl) (by kernel_rfl) hS3 rfl ?_ ?_
      rotate_left
      · intro wS hSw; go_simp; (with_reducible rfl)
      simp only [List.getElem_toArray, List.getElem_cons_succ, List.getElem_cons_zero, Act.put, List.setIfInBounds_toArray, List.set_cons_zero, List.set_cons_succ]
      refine rg_take 8 (v := ?_) rfl (by kernel_rfl) (by kernel_rfl) (by kernel_rfl) hS3 rfl ?_ ?_
      rotate_left
      · intro wS hSw; go_simp; (with_reducible rfl)
      simp only [List.getElem_toArray, List.getElem_cons_succ, List.getElem_cons_zero, Act.put, List.setIfInBounds_toArray, List.set_cons_zero, List.set_cons_succ]
      refine rg_pass 9 rfl (by kernel_rfl) (by kernel_rfl) (by kernel_rfl) hS3 rfl ?_
      simp only [List.getElem_toArray, List.getElem_cons_succ, List.getElem_cons_zero, Act.put, List.setIfInBounds_toArray, List.set_cons_zero, List.set_cons_succ]
      refine rg_pass 10 rfl (by kernel_rfl) (by kernel_rfl) (by kernel_rfl) hS3 rfl ?_
      simp only [List.getElem_toArray, List.getElem_cons_succ, List.getElem_cons_zero, Act.put, List.setIfInBounds_toArray, List.set_cons_zero, List.set_cons_succ]
      refine rg_pass 11 rfl (by kernel_rfl) (by kernel_rfl) (by kernel_rfl) hS3 rfl ?_
      simp only [List.getElem_toArray, List.getElem_cons_succ, List.getElem_cons_zero, Act.put, List.setIfInBounds_toArray, List.set_cons_zero, List.set_cons_succ]
      refine rg_pass 12 rfl (by kernel_rfl) (by kernel_rfl) (by kernel_rfl) hS3 rfl ?_
      simp only [List.getElem_toArray, List.getElem_cons_succ, List.getElem_cons_zero, Act.put, List.setIfInBounds_toArray, List.set_cons_zero, List.set_cons_succ]
      refine rg_take 13 (v := ?_) rfl (by kernel_rfl) (by kernel_rfl) (by kernel_rfl) hS3 rfl ?_ ?_
      rotate_left
      · intro wS hSw; go_simp; (with_reducible rfl)
      simp only [List.getElem_toArray, List.getElem_cons_succ, List.getElem_cons_zero, Act.put, List.setIfInBounds_toArray, List.set_cons_zero, List.set_cons_succ]
      refine rg_take 14 (v := ?_) rfl (by kernel_rfl) (by kernel_rfl) (by kernel_rfl) hS3 rfl ?_ ?_
      rotate_left
      · intro wS hSw; go_simp; (with_reducible rfl)
      simp only [List.getElem_toArray, List.getElem_cons_succ, List.getElem_cons_zero, Act.put, List.setIfInBounds_toArray, List.set_cons_zero, List.set_cons_succ]
      refine rg_pass 15 rfl (by kernel_rfl) (by kernel_rfl) (by kernel_rfl) hS3 rfl ?_
      simp only [List.getElem_toArray, List.getElem_cons_succ, List.getElem_cons_zero, Act.put, List.setIfInBounds_toArray, List.set_cons_zero, List.set_cons_succ]
      refine rg_pass 16 rfl (by kernel_rfl) (by kernel_rfl) (by kernel_rfl) hS3 rfl ?_
      simp only [List.getElem_toArray, List.getElem_cons_succ, List.getElem_cons_zero, Act.put, List.setIfInBounds_toArray, List.set_cons_zero, List.set_cons_succ]
      refine rg_pass 17 rfl (by kernel_rfl) (by kernel_rfl) (by kernel_rfl) hS3 rfl ?_
      simp only [List.getElem_toArray, List.getElem_cons_succ, List.getElem_cons_zero, Act.put, List.setIfInBounds_toArray, List.set_cons_zero, List.set_cons_succ]
      refine rg_take 18 (v := ?_) rfl (by kernel_rfl) (by kernel_rfl) (by kernel_rfl) hS3 rfl ?_ ?_
      rotate_left
      · intro wS hSw; go_simp; (with_reducible rfl)
      simp only [List.getElem_toArray, List.getElem_cons_succ, List.getElem_cons_zero, Act.put, List.setIfInBounds_toArray, List.set_cons_zero, List.set_cons_succ]
      refine rg_take 19 (v := ?_) rfl (by kernel_rfl) (by kernel_rfl) (by kernel_rfl) hS3 rfl ?_ ?_
      rotate_left
      · intro wS hSw; go_simp; (with_reducible rfl)
      simp only [List.getElem_toArray, List.getElem_cons_succ, List.getElem_cons_zero, Act.put, List.setIfInBounds_toArray, List.set_cons_zero, List.set_cons_succ]
      refine rg_pass 20 rfl (by kernel_rfl) (by kernel_rfl) (by kernel_rfl) hS3 rfl ?_
      simp only [List.getElem_toArray, List.getElem_cons_succ, List.getElem_cons_zero, Act.put, List.setIfInBounds_toArray, List.set_cons_zero, List.set_cons_succ]
      refine rg_pass 21 rfl (by kernel_rfl) (by kernel_rfl) (by kernel_rfl) hS3 rfl ?_
      simp only [List.getElem_toArray, List.getElem_cons_succ, List.getElem_cons_zero, Act.put, List.setIfInBounds_toArray, List.set_cons_zero, List.set_cons_succ]
      refine rg_pass 22 rfl (by kernel_rfl) (by kernel_rfl) (by kernel_rfl) hS3 rfl ?_
      simp only [List.getElem_toArray, List.getElem_cons_succ, List.getElem_cons_zero, Act.put, List.setIfInBounds_toArray, List.set_cons_zero, List.set_cons_succ]
      refine rg_take 23 (v := ?_) rfl (by kernel_rfl) (by kernel_rfl) (by kernel_rfl) hS3 rfl ?_ ?_
      rotate_left
      · intro wS hSw; go_simp; (with_reducible rfl)
      simp only [List.getElem_toArray, List.getElem_cons_succ, List.getElem_cons_zero, Act.put, List.setIfInBounds_toArray, List.set_cons_zero, List.set_cons_succ]
      refine rg_take 24 (v := ?_) rfl (by kernel_rfl) (by kernel_rfl) (by kernel_rfl) hS3 rfl ?_ ?_
      rotate_left
      · intro wS hSw; go_simp; (with_reducible rfl)
      simp only [List.getElem_toArray, List.getElem_cons_succ, List.getElem_cons_zero, Act.put, List.setIfInBounds_toArray, List.set_cons_zero, List.set_cons_succ]
      refine rg_end (by kernel_rfl) ?_
      go_wp2_with fail
      go_meet
      exact ⟨_, rfl, HRES, HP, hS3, hB03⟩
    · obtain rfl : der = 0 := by have := HDC.out; simpa using this
      have hn0 := HN.out rfl
      have HR0 := hn0
      refine rg_take 7 (v := ?_) rfl (by kernel_rfl) (by kernel_rfl) (by kernel_rfl) hS3 rfl ?_ ?_
      rotate_left
      · intro wS hSw; go_simp; (with_reducible rfl)
      simp only [List.getElem_toArray, List.getElem_cons_succ, List.getElem_cons_zero, Act.put, List.setIfInBounds_toArray, List.set_cons_zero, List.set_cons_succ]
      refine rg_take 8 (v := ?_) rfl (by kernel_rfl) (by kernel_rfl) (by kernel_rfl) hS3 rfl ?_ ?_
      rotate_left
      · intro wS hSw; go_simp; (with_reducible rfl)
      simp only [List.getElem_toArray, List.getElem_cons_succ, List.getElem_cons_zero, Act.put, List.setIfInBounds_toArray, List.set_cons_zero, List.set_cons_succ]
      refine rg_take 9 (v := ?_) rfl (by kernel_rfl) (by kernel_rfl) (by kernel_rfl) hS3 rfl ?_ ?_
      rotate_left
      · intro wS hSw; go_simp; (with_reducible rfl)
      simp only [List.getElem_toArray, List.getElem_cons_succ, List.getElem_cons_zero, Act.put, List.setIfInBounds_toArray, List.set_cons_zero, List.set_cons_succ]
      refine rg_take 10 (v := ?_) rfl (by kernel_rfl) (by kernel_rfl) (by kernel_rfl) hS3 rfl ?_ ?_
      rotate_left
      · intro wS hSw
        have x0 := hSw.cell (j := 0) rfl
        have x1 := hSw.cell (j := 1) rfl
        have x2 := hSw.cell (j := 2) rfl
        have x3 := hSw.cell (j := 3) rfl
        have x4 := hSw.cell (j := 4) rfl
        have x5 := hSw.cell (j := 5) rfl
        have x6 := hSw.cell (j := 6) rfl
        have x7 := hSw.cell (j := 7) rfl
        go_simp; (with_reducible rfl)
      simp only [List.getElem_toArray, List.getElem_cons_succ, List.getElem_cons_zero, Act.put, List.setIfInBounds_toArray, List.set_cons_zero, List.set_cons_succ]
      have hSl := hS3.alloc (.cells #[.int .u8 0, .int .u8 1, .int .u8 2, .int .u8 3, .int .u8 4] 43)
      refine rg_one 11 rfl (by kernel_rfl) rfl (fun K hK => ?_)
      go_simp
      refine hK _ _ hSl ?_
      clear hK K
      refine rg_one 12 rfl (by kernel_rfl) rfl (fun K hK => ?_)
      go_simp
      refine (hwi [0, 1, 2, 3, 4] w3 hn0 hB03 (by simp) (by simp)).mono ?_
      rw [← HO5.out]
      rintro e w4 ⟨rfl, hB4⟩
      have hS4 : Box w4 w.heap.size 28 #[.int .u32 (f : Int), .string (str g), .string (str h), .int .u8 (st : Int), .bool com, .slice A n c, .int .u32 (wt : Int), .int .u32 (tr : Int)] := hS3.below hB4
      have hB04 := hB03.trans (hB4.mono hB03.size)
      refine hK _ _ hS4 ?_
      clear hK K hSl hS3
      cases o5
      · have HRES : Hid (R = if false && sok then 0 else 270) := Lib.hid (by rw [HR.out]; simp)
        have HP : Hid (false = true → 0 < n) := Lib.hid (by simp)
        refine rg_take 13 (v := ?_) rfl (by kernel_rfl) (by kernel_rfl) (by kernel_rfl) hS4 rfl ?_ ?_
        rotate_left
        · intro wS hSw; go_simp; (with_reducible rfl)
        simp only [List.getElem_toArray, List.getElem_cons_succ, List.getElem_cons_zero, Act.put, List.setIfInBounds_toArray, List.set_cons_zero, List.set_cons_succ]
        refine rg_take 14 (v := ?_) rfl (by kernel_rfl) (by kernel_rfl) (by kernel_rfl) hS4 rfl ?_ ?_
        rotate_left
        · intro wS hSw; go_simp; (with_reducible rfl)
        simp only [List.getElem_toArray, List.getElem_cons_succ, List.getElem_cons_zero, Act.put, List.setIfInBounds_toArray, List.set_cons_zero, List.set_cons_succ]
        refine rg_pass 15 rfl (by kernel_rfl) (by kernel_rfl) (by kernel_rfl) hS4 rfl ?_
        simp only [List.getElem_toArray, List.getElem_cons_succ, List.getElem_cons_zero, Act.put, List.setIfInBounds_toArray, List.set_cons_zero, List.set_cons_succ]
        refine rg_pass 16 rfl (by kernel_rfl) (by kernel_rfl) (by kernel_rfl) hS4 rfl ?_
        simp only [List.getElem_toArray, List.getElem_cons_succ, List.getElem_cons_zero, Act.put, List.setIfInBounds_toArray, List.set_cons_zero, List.set_cons_succ]
        refine rg_pass 17 rfl (by kernel_rfl) (by kernel_rfl) (by kernel_rfl) hS4 rfl ?_
        simp only [List.getElem_toArray, List.getElem_cons_succ, List.getElem_cons_zero, Act.put, List.setIfInBounds_toArray, List.set_cons_zero, List.set_cons_succ]
        refine rg_take 18 (v := ?_) rfl (by kernel_rfl) (by kernel_rfl) (by kernel_rfl) hS4 rfl ?_ ?_
        rotate_left
        · intro wS hSw; go_simp; (with_reducible rfl)
        simp only [List.getElem_toArray, List.getElem_cons_succ, List.getElem_cons_zero, Act.put, List.setIfInBounds_toArray, List.set_cons_zero, List.set_cons_succ]
        refine rg_take 19 (v := ?_) rfl (by kernel_rfl) (by kernel_rfl) (by kernel_rfl) hS4 rfl ?_ ?_
        rotate_left
        · intro wS hSw; go_simp; (with_reducible rfl)
        simp only [List.getElem_toArray, List.getElem_cons_succ, List.getElem_cons_zero, Act.put, List.setIfInBounds_toArray, List.set_cons_zero, List.set_cons_succ]
        refine rg_pass 20 rfl (by kernel_rfl) (by kernel_rfl) (by kernel_rfl) hS4 rfl ?_
        simp only [List.getElem_toArray, List.getElem_cons_succ, List.getElem_cons_zero, Act.put, List.setIfInBounds_toArray, List.set_cons_zero, List.set_cons_succ]
        refine rg_pass 21 rfl (by kernel_rfl) (by kernel_rfl) (by kernel_rfl) hS4 rfl ?_
        simp only [List.getElem_toArray, List.getElem_cons_succ, List.getElem_cons_zero, Act.put, List.setIfInBounds_toArray, List.set_cons_zero, List.set_cons_succ]
        refine rg_pass 22 rfl (by kernel_rfl) (by kernel_rfl) (by kernel_rfl) hS4 rfl ?_
        simp only [List.getElem_toArray, List.getElem_cons_succ, List.getElem_cons_zero, Act.put, List.setIfInBounds_toArray, List.set_cons_zero, List.set_cons_succ]
        refine rg_take 23 (v := ?_) rfl (by kernel_rfl) (by kernel_rfl) (by kernel_rfl) hS4 rfl ?_ ?_
        rotate_left
        · intro wS hSw; go_simp; (with_reducible rfl)
        simp only [List.getElem_toArray, List.getElem_cons_succ, List.getElem_cons_zero, Act.put, List.setIfInBounds_toArray, List.set_cons_zero, List.set_cons_succ]
        refine rg_take 24 (v := ?_) rfl (by kernel_rfl) (by kernel_rfl) (by kernel_rfl) hS4 rfl ?_ ?_
        rotate_left
        · intro wS hSw; go_simp; (with_reducible rfl)
        simp only [List.getElem_toArray, List.getElem_cons_succ, List.getElem_cons_zero, Act.put, List.setIfInBounds_toArray, List.set_cons_zero, List.set_cons_succ]
        refine rg_end (by kernel_rfl) ?_
        go_wp2_with fail
        go_meet
        exact ⟨_, rfl, HRES, HP, hS4, hB04⟩
      · clear HR0
        refine rg_take 13 (v := ?_) rfl (by kernel_rfl) (by kernel_rfl) (by kernel_rfl) hS4 rfl ?_ ?_
        rotate_left
        · intro wS hSw; go_simp; (with_reducible rfl)
        simp only [List.getElem_toArray, List.getElem_cons_succ, List.getElem_cons_zero, Act.put, List.setIfInBounds_toArray, List.set_cons_zero, List.set_cons_succ]
        refine rg_take 14 (v := ?_) rfl (by kernel_rfl) (by kernel_rfl) (by kernel_rfl) hS4 rfl ?_ ?_
        rotate_left
        · intro wS hSw; go_simp; (with_reducible rfl)
        simp only [List.getElem_toArray, List.getElem_cons_succ, List.getElem_cons_zero, Act.put, List.setIfInBounds_toArray, List.set_cons_zero, List.set_cons_succ]
        refine rg_take 15 (v := ?_) rfl (by kernel_rfl) (by kernel_rfl) (by kernel_rfl) hS4 rfl ?_ ?_
        rotate_left
        · intro wS hSw; go_simp; (with_reducible rfl)
        simp only [List.getElem_toArray, List.getElem_cons_succ, List.getElem_cons_zero, Act.put, List.setIfInBounds_toArray, List.set_cons_zero, List.set_cons_succ]
        refine rg_take 16 (v := ?_) rfl (by kernel_rfl) (by kernel_rfl) (by kernel_rfl) hS4 rfl ?_ ?_
        rotate_left
        · intro wS hSw
          have x0 := hSw.cell (j := 0) rfl
          have x1 := hSw.cell (j := 1) rfl
          have x2 := hSw.cell (j := 2) rfl
          have x3 := hSw.cell (j := 3) rfl
          have x4 := hSw.cell (j := 4) rfl
          have x5 := hSw.cell (j := 5) rfl
          have x6 := hSw.cell (j := 6) rfl
          have x7 := hSw.cell (j := 7) rfl
          go_simp; (with_reducible rfl)
        simp only [List.getElem_toArray, List.getElem_cons_succ, List.getElem_cons_zero, Act.put, List.setIfInBounds_toArray, List.set_cons_zero, List.set_cons_succ]
        by_cases c1 : wt ≤ 3
        · have d1 : (wt : Int) ≤ 3 := by omega
          refine rg_take 17 (v := ?_) rfl (by kernel_rfl) (by kernel_rfl) (by kernel_rfl) hS4 rfl ?_ ?_
          rotate_left
          · intro wS hSw; go_simp; (with_reducible rfl)
          simp only [List.getElem_toArray, List.getElem_cons_succ, List.getElem_cons_zero, Act.put, List.setIfInBounds_toArray, List.set_cons_zero, List.set_cons_succ]
          refine rg_take 18 (v := ?_) rfl (by kernel_rfl) (by kernel_rfl) (by kernel_rfl) hS4 rfl ?_ ?_
          rotate_left
          · intro wS hSw; go_simp; (with_reducible rfl)
          simp only [List.getElem_toArray, List.getElem_cons_succ, List.getElem_cons_zero, Act.put, List.setIfInBounds_toArray, List.set_cons_zero, List.set_cons_succ]
          refine rg_take 19 (v := ?_) rfl (by kernel_rfl) (by kernel_rfl) (by kernel_rfl) hS4 rfl ?_ ?_
          rotate_left
          · intro wS hSw; go_simp; (with_reducible rfl)
          simp only [List.getElem_toArray, List.getElem_cons_succ, List.getElem_cons_zero, Act.put, List.setIfInBounds_toArray, List.set_cons_zero, List.set_cons_succ]
          refine rg_take 20 (v := ?_) rfl (by kernel_rfl) (by kernel_rfl) (by kernel_rfl) hS4 rfl ?_ ?_
          rotate_left
          · intro wS hSw; go_simp; (with_reducible rfl)
          simp only [List.getElem_toArray, List.getElem_cons_succ, List.getElem_cons_zero, Act.put, List.setIfInBounds_toArray, List.set_cons_zero, List.set_cons_succ]
          refine rg_take 21 (v := ?_) rfl (by kernel_rfl) (by kernel_rfl) (by kernel_rfl) hS4 rfl ?_ ?_
          rotate_left
          · intro wS hSw
            have x0 := hSw.cell (j := 0) rfl
            have x1 := hSw.cell (j := 1) rfl
            have x2 := hSw.cell (j := 2) rfl
            have x3 := hSw.cell (j := 3) rfl
            have x4 := hSw.cell (j := 4) rfl
            have x5 := hSw.cell (j := 5) rfl
            have x6 := hSw.cell (j := 6) rfl
            have x7 := hSw.cell (j := 7) rfl
            go_simp; (with_reducible rfl)
          simp only [List.getElem_toArray, List.getElem_cons_succ, List.getElem_cons_zero, Act.put, List.setIfInBounds_toArray, List.set_cons_zero, List.set_cons_succ]
          by_cases c2 : tr ≤ 5
          · have d2 : (tr : Int) ≤ 5 := by omega
            have HRES : Hid (R = if true && sok then 0 else 270) := Lib.hid (by rw [HR.out]; simp [c1, c2])
            refine rg_take 22 (v := ?_) rfl (by kernel_rfl) (by kernel_rfl) (by kernel_rfl) hS4 rfl ?_ ?_
            rotate_left
            · intro wS hSw; go_simp; (with_reducible rfl)
            simp only [List.getElem_toArray, List.getElem_cons_succ, List.getElem_cons_zero, Act.put, List.setIfInBounds_toArray, List.set_cons_zero, List.set_cons_succ]
            refine rg_take 23 (v := ?_) rfl (by kernel_rfl) (by kernel_rfl) (by kernel_rfl) hS4 rfl ?_ ?_
            rotate_left
            · intro wS hSw; go_simp; (with_reducible rfl)
            simp only [List.getElem_toArray, List.getElem_cons_succ, List.getElem_cons_zero, Act.put, List.setIfInBounds_toArray, List.set_cons_zero, List.set_cons_succ]
            refine rg_take 24 (v := ?_) rfl (by kernel_rfl) (by kernel_rfl) (by kernel_rfl) hS4 rfl ?_ ?_
            rotate_left
            · intro wS hSw; go_simp; (with_reducible rfl)
            simp only [List.getElem_toArray, List.getElem_cons_succ, List.getElem_cons_zero, Act.put, List.setIfInBounds_toArray, List.set_cons_zero, List.set_cons_succ]
            refine rg_end (by kernel_rfl) ?_
            go_wp2_with fail
            go_meet
            exact ⟨_, rfl, HRES, Lib.hid (fun _ => hn0), hS4, hB04⟩
          · have d2 : decide ((tr : Int) ≤ 5) = false := by simp; omega
            have HRES : Hid (R = if false && sok then 0 else 270) := Lib.hid (by rw [HR.out]; simp [c1, c2])
            have HP : Hid (false = true → 0 < n) := Lib.hid (by simp)
            refine rg_take 22 (v := ?_) rfl (by kernel_rfl) (by kernel_rfl) (by kernel_rfl) hS4 rfl ?_ ?_
            rotate_left
            · intro wS hSw; go_simp; (with_reducible rfl)
            simp only [List.getElem_toArray, List.getElem_cons_succ, List.getElem_cons_zero, Act.put, List.setIfInBounds_toArray, List.set_cons_zero, List.set_cons_succ]
            refine rg_take 23 (v := ?_) rfl (by kernel_rfl) (by kernel_rfl) (by kernel_rfl) hS4 rfl ?_ ?_
            rotate_left
            · intro wS hSw; go_simp; (with_reducible rfl)
            simp only [List.getElem_toArray, List.getElem_cons_succ, List.getElem_cons_zero, Act.put, List.setIfInBounds_toArray, List.set_cons_zero, List.set_cons_succ]
            refine rg_take 24 (v := ?_) rfl (by kernel_rfl) (by kernel_rfl) (by kernel_rfl) hS4 rfl ?_ ?_
            rotate_left
            · intro wS hSw; go_simp; (with_reducible rfl)
            simp only [List.getElem_toArray, List.getElem_cons_succ, List.getElem_cons_zero, Act.put, List.setIfInBounds_toArray, List.set_cons_zero, List.set_cons_succ]
            refine rg_end (by kernel_rfl) ?_
            go_wp2_with fail
            go_meet
            exact ⟨_, rfl, HRES, HP, hS4, hB04⟩
        · have d1 : decide ((wt : Int) ≤ 3) = false := by simp; omega
          have HRES : Hid (R = if false && sok then 0 else 270) := Lib.hid (by rw [HR.out]; simp [c1])
          have HP : Hid (false = true → 0 < n) := Lib.hid (by simp)
          refine rg_take 17 (v := ?_) rfl (by kernel_rfl) (by kernel_rfl) (by kernel_rfl) hS4 rfl ?_ ?_
          rotate_left
          · intro wS hSw; go_simp; (with_reducible rfl)
          simp only [List.getElem_toArray, List.getElem_cons_succ, List.getElem_cons_zero, Act.put, List.setIfInBounds_toArray, List.set_cons_zero, List.set_cons_succ]
          refine rg_take 18 (v := ?_) rfl (by kernel_rfl) (by kernel_rfl) (by kernel_rfl) hS4 rfl ?_ ?_
          rotate_left
          · intro wS hSw; go_simp; (with_reducible rfl)
          simp only [List.getElem_toArray, List.getElem_cons_succ, List.getElem_cons_zero, Act.put, List.setIfInBounds_toArray, List.set_cons_zero, List.set_cons_succ]
          refine rg_take 19 (v := ?_) rfl (by kernel_rfl) (by kernel_rfl) (by kernel_rfl) hS4 rfl ?_ ?_
          rotate_left
          · intro wS hSw; go_simp; (with_reducible rfl)
          simp only [List.getElem_toArray, List.getElem_cons_succ, List.getElem_cons_zero, Act.put, List.setIfInBounds_toArray, List.set_cons_zero, List.set_cons_succ]
          refine rg_pass 20 rfl (by kernel_rfl) (by kernel_rfl) (by kernel_rfl) hS4 rfl ?_
          simp only [List.getElem_toArray, List.getElem_cons_succ, List.getElem_cons_zero, Act.put, List.setIfInBounds_toArray, List.set_cons_zero, List.set_cons_succ]
          refine rg_pass 21 rfl (by kernel_rfl) (by kernel_rfl) (by kernel_rfl) hS4 rfl ?_
          simp only [List.getElem_toArray, List.getElem_cons_succ, List.getElem_cons_zero, Act.put, List.setIfInBounds_toArray, List.set_cons_zero, List.set_cons_succ]
          refine rg_pass 22 rfl (by kernel_rfl) (by kernel_rfl) (by kernel_rfl) hS4 rfl ?_
          simp only [List.getElem_toArray, List.getElem_cons_succ, List.getElem_cons_zero, Act.put, List.setIfInBounds_toArray, List.set_cons_zero, List.set_cons_succ]
          refine rg_take 23 (v := ?_) rfl (by kernel_rfl) (by kernel_rfl) (by kernel_rfl) hS4 rfl ?_ ?_
          rotate_left
          · intro wS hSw; go_simp; (with_reducible rfl)
          simp only [List.getElem_toArray, List.getElem_cons_succ, List.getElem_cons_zero, Act.put, List.setIfInBounds_toArray, List.set_cons_zero, List.set_cons_succ]
          refine rg_take 24 (v := ?_) rfl (by kernel_rfl) (by kernel_rfl) (by kernel_rfl) hS4 rfl ?_ ?_
          rotate_left
          · intro wS hSw; go_simp; (with_reducible rfl)
          simp only [List.getElem_toArray, List.getElem_cons_succ, List.getElem_cons_zero, Act.put, List.setIfInBounds_toArray, List.set_cons_zero, List.set_cons_succ]
          refine rg_end (by kernel_rfl) ?_
          go_wp2_with fail
          go_meet
          exact ⟨_, rfl, HRES, HP, hS4, hB04⟩
  case rest =>
    obtain ⟨is1, rfl, HR1, HP, hb1, hB1⟩ := hcut
    clear hb0 hB0 hpl hdc
    cases is1
    · have HRES : Hid (R = 270) := Lib.hid (by rw [HR1.out]; rfl)
      have x0 := hb1.cell (j := 0) rfl
      have x1 := hb1.cell (j := 1) rfl
      have x2 := hb1.cell (j := 2) rfl
      have x3 := hb1.cell (j := 3) rfl
      have x4 := hb1.cell (j := 4) rfl
      have x5 := hb1.cell (j := 5) rfl
      have x6 := hb1.cell (j := 6) rfl
      have x7 := hb1.cell (j := 7) rfl
      by_cases s1 : st = 1
      · subst s1
        go_wp2_with (first | (with_reducible refine hold_append ?_) | (with_reducible refine hold_make ?_) | (with_reducible refine hold_copy ?_))
        go_ret
        rw [HRES.out]
        exact ⟨rfl, hB1⟩
      · have q1 : ((st : Int) == 1) = false := by simp; omega
        by_cases s2 : st = 2
        · subst s2
          go_wp2_with (first | (with_reducible refine hold_append ?_) | (with_reducible refine hold_make ?_) | (with_reducible refine hold_copy ?_))
          go_ret
          rw [HRES.out]
          exact ⟨rfl, hB1⟩
        · have q2 : ((st : Int) == 2) = false := by simp; omega
          by_cases s3 : st = 3
          · subst s3
            go_wp2_with (first | (with_reducible refine hold_append ?_) | (with_reducible refine hold_make ?_) | (with_reducible refine hold_copy ?_))
            go_ret
            rw [HRES.out]
            exact ⟨rfl, hB1⟩
          · have q3 : ((st : Int) == 3) = false := by simp; omega
            by_cases s4 : st = 4
            · subst s4
              go_wp2_with (first | (with_reducible refine hold_append ?_) | (with_reducible refine hold_make ?_) | (with_reducible refine hold_copy ?_))
              go_ret
              rw [HRES.out]
              exact ⟨rfl, hB1⟩
            · have q4 : ((st : Int) == 4) = false := by simp; omega
              by_cases s5 : st = 5
              · subst s5
                go_wp2_with (first | (with_reducible refine hold_append ?_) | (with_reducible refine hold_make ?_) | (with_reducible refine hold_copy ?_))
                go_ret
                rw [HRES.out]
                exact ⟨rfl, hB1⟩
              · have q5 : ((st : Int) == 5) = false := by simp; omega
                go_wp2_with (first | (with_reducible refine hold_append ?_) | (with_reducible refine hold_make ?_) | (with_reducible refine hold_copy ?_))
                go_ret
                rw [HRES.out]
                exact ⟨rfl, hB1⟩
    · have HR2 : Hid (R = if sok then 0 else 270) := Lib.hid (by rw [HR1.out]; simp)
      have hn0 := HP.out rfl
      have x0 := hb1.cell (j := 0) rfl
      have x1 := hb1.cell (j := 1) rfl
      have x2 := hb1.cell (j := 2) rfl
      have x3 := hb1.cell (j := 3) rfl
      have x4 := hb1.cell (j := 4) rfl
      have x5 := hb1.cell (j := 5) rfl
      have x6 := hb1.cell (j := 6) rfl
      have x7 := hb1.cell (j := 7) rfl
      by_cases s1 : st = 1
      · subst s1
        cases com
        · have hw := hwi [0] wc hn0 hB1 (by simp) (by simp)
          have HS : Hid (sok = onlySt [0] l) := Lib.hid (by rw [HST.out]; simp)
          generalize onlySt [0] l = r at *
          go_wp2_with (first | (with_reducible refine hold_append ?_) | (with_reducible refine hold_make ?_) | (with_reducible refine hold_copy ?_))
          refine (hw).mono ?_
          rintro e w5 ⟨rfl, hB5⟩
          have hB05 := hB1.trans (hB5.mono hB1.size)
          cases r
          · have HRES : Hid (R = 270) := Lib.hid (by rw [HR2.out, HS.out]; simp)
            go_wp2_with (first | (with_reducible refine hold_append ?_) | (with_reducible refine hold_make ?_) | (with_reducible refine hold_copy ?_))
            go_ret
            rw [HRES.out]
            exact ⟨rfl, hB05⟩
          · have HRES : Hid (R = 0) := Lib.hid (by rw [HR2.out, HS.out]; simp)
            go_wp2_with (first | (with_reducible refine hold_append ?_) | (with_reducible refine hold_make ?_) | (with_reducible refine hold_copy ?_))
            go_ret
            rw [HRES.out]
            exact ⟨rfl, hB05⟩
        · have HRES : Hid (R = 270) := Lib.hid (by rw [HR2.out, HST.out]; simp)
          go_wp2_with (first | (with_reducible refine hold_append ?_) | (with_reducible refine hold_make ?_) | (with_reducible refine hold_copy ?_))
          go_ret
          rw [HRES.out]
          exact ⟨rfl, hB1⟩
      · have q1 : ((st : Int) == 1) = false := by simp; omega
        by_cases s2 : st = 2
        · subst s2
          cases com
          · have hw := hwi [0, 1, 2] wc hn0 hB1 (by simp) (by simp)
            have HS : Hid (sok = onlySt [0, 1, 2] l) := Lib.hid (by rw [HST.out]; simp)
            generalize onlySt [0, 1, 2] l = r at *
            go_wp2_with (first | (with_reducible refine hold_append ?_) | (with_reducible refine hold_make ?_) | (with_reducible refine hold_copy ?_))
            refine (hw).mono ?_
            rintro e w5 ⟨rfl, hB5⟩
            have hB05 := hB1.trans (hB5.mono hB1.size)
            cases r
            · have HRES : Hid (R = 270) := Lib.hid (by rw [HR2.out, HS.out]; simp)
              go_wp2_with (first | (with_reducible refine hold_append ?_) | (with_reducible refine hold_make ?_) | (with_reducible refine hold_copy ?_))
              go_ret
              rw [HRES.out]
              exact ⟨rfl, hB05⟩
            · have HRES : Hid (R = 0) := Lib.hid (by rw [HR2.out, HS.out]; simp)
              go_wp2_with (first | (with_reducible refine hold_append ?_) | (with_reducible refine hold_make ?_) | (with_reducible refine hold_copy ?_))
              go_ret
              rw [HRES.out]
              exact ⟨rfl, hB05⟩
          · have HRES : Hid (R = 270) := Lib.hid (by rw [HR2.out, HST.out]; simp)
            go_wp2_with (first | (with_reducible refine hold_append ?_) | (with_reducible refine hold_make ?_) | (with_reducible refine hold_copy ?_))
            go_ret
            rw [HRES.out]
            exact ⟨rfl, hB1⟩
        · have q2 : ((st : Int) == 2) = false := by simp; omega
          by_cases s3 : st = 3
          · subst s3
            cases com
            · have HRES : Hid (R = 270) := Lib.hid (by rw [HR2.out, HST.out]; simp)
              go_wp2_with (first | (with_reducible refine hold_append ?_) | (with_reducible refine hold_make ?_) | (with_reducible refine hold_copy ?_))
              go_ret
              rw [HRES.out]
              exact ⟨rfl, hB1⟩
            · have hw := hso [0] wc hn0 hB1 (by simp) (by simp)
              have HS : Hid (sok = (!hasSt [0] l && hasSt [1] l)) := Lib.hid (by rw [HST.out]; simp)
              obtain ⟨r0, hr0'⟩ : ∃ r0, r0 = hasSt [0] l := ⟨_, rfl⟩
              rw [← hr0'] at hw HS
              clear hr0'
              go_wp2_with (first | (with_reducible refine hold_append ?_) | (with_reducible refine hold_make ?_) | (with_reducible refine hold_copy ?_))
              refine hw.mono ?_
              rintro e w5 ⟨rfl, hB5⟩
              have hb5 := hb1.below (hB5.mono (Nat.le_refl _))
              have hB05 := hB1.trans (hB5.mono hB1.size)
              clear x0 x1 x2 x3 x4 x5 x6 x7
              have x0 := hb5.cell (j := 0) rfl
              have x1 := hb5.cell (j := 1) rfl
              have x2 := hb5.cell (j := 2) rfl
              have x3 := hb5.cell (j := 3) rfl
              have x4 := hb5.cell (j := 4) rfl
              have x5 := hb5.cell (j := 5) rfl
              have x6 := hb5.cell (j := 6) rfl
              have x7 := hb5.cell (j := 7) rfl
              cases r0
              · have hw2 := hso [1] w5 hn0 hB05 (by simp) (by simp)
                obtain ⟨r, hr0'⟩ : ∃ r, r = hasSt [1] l := ⟨_, rfl⟩
                rw [← hr0'] at hw2 HS
                clear hr0'
                go_wp2_with (first | (with_reducible refine hold_append ?_) | (with_reducible refine hold_make ?_) | (with_reducible refine hold_copy ?_))
                refine hw2.mono ?_
                rintro e w6 ⟨rfl, hB6⟩
                have hB06 := hB05.trans (hB6.mono hB05.size)
                cases r
                · have HRES : Hid (R = 270) := Lib.hid (by rw [HR2.out, HS.out]; simp)
                  go_wp2_with (first | (with_reducible refine hold_append ?_) | (with_reducible refine hold_make ?_) | (with_reducible refine hold_copy ?_))
                  go_ret
                  rw [HRES.out]
                  exact ⟨rfl, hB06⟩
                · have HRES : Hid (R = 0) := Lib.hid (by rw [HR2.out, HS.out]; simp)
                  go_wp2_with (first | (with_reducible refine hold_append ?_) | (with_reducible refine hold_make ?_) | (with_reducible refine hold_copy ?_))
                  go_ret
                  rw [HRES.out]
                  exact ⟨rfl, hB06⟩
              · have HRES : Hid (R = 270) := Lib.hid (by rw [HR2.out, HS.out]; simp)
                go_wp2_with (first | (with_reducible refine hold_append ?_) | (with_reducible refine hold_make ?_) | (with_reducible refine hold_copy ?_))
                go_ret
                rw [HRES.out]
                exact ⟨rfl, hB05⟩
          · have q3 : ((st : Int) == 3) = false := by simp; omega
            by_cases s4 : st = 4
            · subst s4
              cases com
              · have hw := hso [0, 1] wc hn0 hB1 (by simp) (by simp)
                have HS : Hid (sok = hasSt [0, 1] l) := Lib.hid (by rw [HST.out]; simp)
                generalize hasSt [0, 1] l = r at *
                go_wp2_with (first | (with_reducible refine hold_append ?_) | (with_reducible refine hold_make ?_) | (with_reducible refine hold_copy ?_))
                refine (hw).mono ?_
                rintro e w5 ⟨rfl, hB5⟩
                have hB05 := hB1.trans (hB5.mono hB1.size)
                cases r
                · have HRES : Hid (R = 270) := Lib.hid (by rw [HR2.out, HS.out]; simp)
                  go_wp2_with (first | (with_reducible refine hold_append ?_) | (with_reducible refine hold_make ?_) | (with_reducible refine hold_copy ?_))
                  go_ret
                  rw [HRES.out]
                  exact ⟨rfl, hB05⟩
                · have HRES : Hid (R = 0) := Lib.hid (by rw [HR2.out, HS.out]; simp)
                  go_wp2_with (first | (with_reducible refine hold_append ?_) | (with_reducible refine hold_make ?_) | (with_reducible refine hold_copy ?_))
                  go_ret
                  rw [HRES.out]
                  exact ⟨rfl, hB05⟩
              · have HRES : Hid (R = 270) := Lib.hid (by rw [HR2.out, HST.out]; simp)
                go_wp2_with (first | (with_reducible refine hold_append ?_) | (with_reducible refine hold_make ?_) | (with_reducible refine hold_copy ?_))
                go_ret
                rw [HRES.out]
                exact ⟨rfl, hB1⟩
            · have q4 : ((st : Int) == 4) = false := by simp; omega
              by_cases s5 : st = 5
              · subst s5
                have hw := hso [0, 1] wc hn0 hB1 (by simp) (by simp)
                obtain ⟨r, hr0'⟩ : ∃ r, r = !hasSt [0, 1] l := ⟨_, rfl⟩
                have HS : Hid (sok = r) := Lib.hid (by rw [HST.out, hr0']; simp)
                have hr1 : hasSt [0, 1] l = !r := by rw [hr0']; simp
                rw [hr1] at hw
                clear hr0' hr1
                go_wp2_with (first | (with_reducible refine hold_append ?_) | (with_reducible refine hold_make ?_) | (with_reducible refine hold_copy ?_))
                refine (hw).mono ?_
                rintro e w5 ⟨rfl, hB5⟩
                have hB05 := hB1.trans (hB5.mono hB1.size)
                cases r
                · have HRES : Hid (R = 270) := Lib.hid (by rw [HR2.out, HS.out]; simp)
                  go_wp2_with (first | (with_reducible refine hold_append ?_) | (with_reducible refine hold_make ?_) | (with_reducible refine hold_copy ?_))
                  go_ret
                  rw [HRES.out]
                  exact ⟨rfl, hB05⟩
                · have HRES : Hid (R = 0) := Lib.hid (by rw [HR2.out, HS.out]; simp)
                  go_wp2_with (first | (with_reducible refine hold_append ?_) | (with_reducible refine hold_make ?_) | (with_reducible refine hold_copy ?_))
                  go_ret
                  rw [HRES.out]
                  exact ⟨rfl, hB05⟩
              · have q5 : ((st : Int) == 5) = false := by simp; omega
                have HRES : Hid (R = 270) := Lib.hid (by rw [HR2.out, HST.out]; simp [s1, s2, s3, s4, s5])
                go_wp2_with (first | (with_reducible refine hold_append ?_) | (with_reducible refine hold_make ?_) | (with_reducible refine hold_copy ?_))
                go_ret
                rw [HRES.out]
                exact ⟨rfl, hB1⟩
end Go.PH
end

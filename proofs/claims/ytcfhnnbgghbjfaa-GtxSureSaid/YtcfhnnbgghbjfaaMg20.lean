/- Texts laid together: GtREnds, GtRAbort. -/
import Derived.Test.YtcfhnnbgghbjfaaMg14
section
/- The walks of the reference's ends and abort. -/
set_option linter.all false
set_option linter.unusedSimpArgs false
set_option linter.unusedVariables false
namespace Go.PH
open Go.RowKit Go.Proofs

set_option maxRecDepth 20000 in
set_option maxHeartbeats 2000000 in
theorem rends_any (G : Gl) (A : Option Addr) (n c : Nat) (B : Nat) (w : World) (hr : RdP w B A n c G.parts) (hB : B ≤ w.heap.size) (hn : n ≤ 1000000000) :
    Calls Try.prog 47 #[.agg (glV G A n c)] w fun e w' => e = .returned (.agg (glV G.ends A n c)) ∧ Below w.heap.size w w' := by
  have hl := rec_length ptShape hr
  have hcn := fun s W hW => count_any G s A n c B W (hr.below' hW hB) (Nat.le_trans hB hW.size) hn
  have hc0 := cnt_le 0 G.parts
  have hc1 := cnt_le 1 G.parts
  obtain ⟨V, hV⟩ : ∃ V, V = glV G.ends A n c := ⟨_, rfl⟩
  rw [← hV]
  have HV : Hid (V = if (G.st = 3 ∨ G.st = 4) ∧ hasSt [0, 1] G.parts = false then glV { G with st := 5, wait := 0, tries := 0 } A n c else glV G A n c) := Lib.hid (by rw [hV]; unfold Gl.ends; split <;> rfl)
  rw [cnt_two] at HV
  obtain ⟨q0, hq0⟩ : ∃ q0, q0 = cnt 0 G.parts := ⟨_, rfl⟩
  obtain ⟨q1, hq1⟩ : ∃ q1, q1 = cnt 1 G.parts := ⟨_, rfl⟩
  have hcn0 : ∀ W, Below w.heap.size w W → Calls Try.prog 58 #[.agg (glV G A n c), .int .u8 0] W (fun e w' => e = .returned (.int .i64 (q0 : Int)) ∧ Below W.heap.size W w') := fun W hW => by rw [hq0]; exact hcn 0 W hW
  have hcn1 : ∀ W, Below w.heap.size w W → Calls Try.prog 58 #[.agg (glV G A n c), .int .u8 1] W (fun e w' => e = .returned (.int .i64 (q1 : Int)) ∧ Below W.heap.size W w') := fun W hW => by rw [hq1]; exact hcn 1 W hW
  rw [← hq0] at hc0 HV
  rw [← hq1] at hc1 HV
  rw [hl] at hc0 hc1
  clear hV hr hcn hq0 hq1 hl
  obtain ⟨⟨f, g, h⟩, st, com, l, wt, tr⟩ := G
  simp only [glV] at HV hcn0 hcn1 ⊢
  obtain ⟨si, hsi⟩ : ∃ si : Int, si = (st : Int) := ⟨_, rfl⟩
  have HV2 : Hid (V = if (si = 3 ∨ si = 4) ∧ ((q0 : Int) + (q1 : Int)) = 0 then #[.int .u32 (f : Int), .string (str g), .string (str h), .int .u8 5, .bool com, .slice A n c, .int .u32 0, .int .u32 0] else #[.int .u32 (f : Int), .string (str g), .string (str h), .int .u8 si, .bool com, .slice A n c, .int .u32 (wt : Int), .int .u32 (tr : Int)]) := Lib.hid (by
    rw [HV.out, hsi]
    by_cases hz : (st = 3 ∨ st = 4) ∧ q0 + q1 = 0
    · rw [if_pos ⟨hz.1, by simp; omega⟩, if_pos ⟨by omega, by omega⟩]; rfl
    · rw [if_neg (by rintro ⟨h1, h2⟩; simp at h2; exact hz ⟨h1, by omega⟩), if_neg (by rintro ⟨h1, h2⟩; exact hz ⟨by omega, by omega⟩)])
  rw [← hsi] at hcn0 hcn1 ⊢
  have hwr : IntKind.i64.wrap ((q0 : Int) + (q1 : Int)) = (q0 : Int) + (q1 : Int) := IntWalk.i64_in _ ⟨by omega, by omega⟩
  clear HV hsi
  obtain ⟨hb0, hz0, hB0⟩ := box2_of w #[.int .u32 (f : Int), .string (str g), .string (str h), .int .u8 si, .bool com, .slice A n c, .int .u32 (wt : Int), .int .u32 (tr : Int)] #[.int .u32 0, .string ⟨#[]⟩, .string ⟨#[]⟩, .int .u8 0, .bool false, .slice none 0 0, .int .u32 0, .int .u32 0] 28 28
  obtain ⟨w0, hw0⟩ : ∃ w0, w0 = ((w.alloc (.cells #[.int .u32 (f : Int), .string (str g), .string (str h), .int .u8 si, .bool com, .slice A n c, .int .u32 (wt : Int), .int .u32 (tr : Int)] 28)).alloc (.cells #[.int .u32 0, .string ⟨#[]⟩, .string ⟨#[]⟩, .int .u8 0, .bool false, .slice none 0 0, .int .u32 0, .int .u32 0] 28)) := ⟨_, rfl⟩
  rw [← hw0] at hb0 hz0 hB0
  have hstep : ∀ (W W' : World), (Box W w.heap.size 28 #[.int .u32 (f : Int), .string (str g), .string (str h), .int .u8 si, .bool com, .slice A n c, .int .u32 (wt : Int), .int .u32 (tr : Int)] ∧ Box W (w.heap.size + 1) 28 #[.int .u32 0, .string ⟨#[]⟩, .string ⟨#[]⟩, .int .u8 0, .bool false, .slice none 0 0, .int .u32 0, .int .u32 0] ∧ Below w.heap.size w W) → Below W.heap.size W W' → Box W' w.heap.size 28 #[.int .u32 (f : Int), .string (str g), .string (str h), .int .u8 si, .bool com, .slice A n c, .int .u32 (wt : Int), .int .u32 (tr : Int)] ∧ Box W' (w.heap.size + 1) 28 #[.int .u32 0, .string ⟨#[]⟩, .string ⟨#[]⟩, .int .u8 0, .bool false, .slice none 0 0, .int .u32 0, .int .u32 0] ∧ Below w.heap.size w W' := fun W W' h h' => ⟨h.1.below h', h.2.1.below h', h.2.2.trans (h'.mono h.2.2.size)⟩
  go_enter Try.func47, Try.ntmps47
  go_upto_region 1 with fail
  rw [← hw0]
  clear hw0
  go_cut [18] from 3 to 18 (fun s18 wx => ∃ b : Bool, s18 = .bool b ∧ Hid (V = if b then #[.int .u32 (f : Int), .string (str g), .string (str h), .int .u8 5, .bool com, .slice A n c, .int .u32 0, .int .u32 0] else #[.int .u32 (f : Int), .string (str g), .string (str h), .int .u8 si, .bool com, .slice A n c, .int .u32 (wt : Int), .int .u32 (tr : Int)]) ∧ Box wx w.heap.size 28 #[.int .u32 (f : Int), .string (str g), .string (str h), .int .u8 si, .bool com, .slice A n c, .int .u32 (wt : Int), .int .u32 (tr : Int)] ∧ Box wx (w.heap.size + 1) 28 #[.int .u32 0, .string ⟨#[]⟩, .string ⟨#[]⟩, .int .u8 0, .bool false, .slice none 0 0, .int .u32 0, .int .u32 0] ∧ Below w.heap.size w wx)
  case first =>
    refine rg_start (fun W : World => Box W w.heap.size 28 #[.int .u32 (f : Int), .string (str g), .string (str h), .int .u8 si, .bool com, .slice A n c, .int .u32 (wt : Int), .int .u32 (tr : Int)] ∧ Box W (w.heap.size + 1) 28 #[.int .u32 0, .string ⟨#[]⟩, .string ⟨#[]⟩, .int .u8 0, .bool false, .slice none 0 0, .int .u32 0, .int .u32 0] ∧ Below w.heap.size w W) (by kernel_rfl) ?_
    have hS : Box w0.drew w.heap.size 28 #[.int .u32 (f : Int), .string (str g), .string (str h), .int .u8 si, .bool com, .slice A n c, .int .u32 (wt : Int), .int .u32 (tr : Int)] ∧ Box w0.drew (w.heap.size + 1) 28 #[.int .u32 0, .string ⟨#[]⟩, .string ⟨#[]⟩, .int .u8 0, .bool false, .slice none 0 0, .int .u32 0, .int .u32 0] ∧ Below w.heap.size w w0.drew := ⟨hb0, hz0, below_drewN hB0 1⟩
    generalize w0.drew = w1 at *
    clear hb0 hz0 hB0
    by_cases s3 : si = 3
    · subst s3
      have HB : Hid (V = if (((q0 : Int) + (q1 : Int)) == 0) then #[.int .u32 (f : Int), .string (str g), .string (str h), .int .u8 5, .bool com, .slice A n c, .int .u32 0, .int .u32 0] else #[.int .u32 (f : Int), .string (str g), .string (str h), .int .u8 3, .bool com, .slice A n c, .int .u32 (wt : Int), .int .u32 (tr : Int)]) := Lib.hid (by rw [HV2.out]; simp)
      refine rg_take 0 (v := ?_) rfl (by kernel_rfl) (by kernel_rfl) (by kernel_rfl) hS rfl ?_ ?_
      rotate_left
      · intro wS hSw
        have hq := hSw.1
        have z0 := hq.cell (j := 0) rfl
        have z1 := hq.cell (j := 1) rfl
        have z2 := hq.cell (j := 2) rfl
        have z3 := hq.cell (j := 3) rfl
        have z4 := hq.cell (j := 4) rfl
        have z5 := hq.cell (j := 5) rfl
        have z6 := hq.cell (j := 6) rfl
        have z7 := hq.cell (j := 7) rfl
        go_simp; (with_reducible rfl)
      simp only [List.getElem_toArray, List.getElem_cons_zero, Act.put, List.setIfInBounds_toArray, List.set_cons_zero, List.set_cons_succ]
      refine rg_take 1 (v := ?_) rfl (by kernel_rfl) (by kernel_rfl) (by kernel_rfl) hS rfl ?_ ?_
      rotate_left
      · intro wS hSw
        have hq := hSw.1
        have z0 := hq.cell (j := 0) rfl
        have z1 := hq.cell (j := 1) rfl
        have z2 := hq.cell (j := 2) rfl
        have z3 := hq.cell (j := 3) rfl
        have z4 := hq.cell (j := 4) rfl
        have z5 := hq.cell (j := 5) rfl
        have z6 := hq.cell (j := 6) rfl
        have z7 := hq.cell (j := 7) rfl
        go_simp; (with_reducible rfl)
      simp only [List.getElem_toArray, List.getElem_cons_succ, List.getElem_cons_zero, Act.put, List.setIfInBounds_toArray, List.set_cons_zero, List.set_cons_succ]
      refine rg_take 2 (v := ?_) rfl (by kernel_rfl) (by kernel_rfl) (by kernel_rfl) hS rfl ?_ ?_
      rotate_left
      · intro wS hSw; go_simp; (with_reducible rfl)
      simp only [List.getElem_toArray, List.getElem_cons_succ, List.getElem_cons_zero, Act.put, List.setIfInBounds_toArray, List.set_cons_zero, List.set_cons_succ]
      refine rg_take 3 (v := ?_) rfl (by kernel_rfl) (by kernel_rfl) (by kernel_rfl) hS rfl ?_ ?_
      rotate_left
      · intro wS hSw; go_simp; (with_reducible rfl)
      simp only [List.getElem_toArray, List.getElem_cons_succ, List.getElem_cons_zero, Act.put, List.setIfInBounds_toArray, List.set_cons_zero, List.set_cons_succ]
      refine rg_pass 4 rfl (by kernel_rfl) (by kernel_rfl) (by kernel_rfl) hS rfl ?_
      simp only [List.getElem_toArray, List.getElem_cons_succ, List.getElem_cons_zero, Act.put, List.setIfInBounds_toArray, List.set_cons_zero, List.set_cons_succ]
      refine rg_pass 5 rfl (by kernel_rfl) (by kernel_rfl) (by kernel_rfl) hS rfl ?_
      simp only [List.getElem_toArray, List.getElem_cons_succ, List.getElem_cons_zero, Act.put, List.setIfInBounds_toArray, List.set_cons_zero, List.set_cons_succ]
      refine rg_pass 6 rfl (by kernel_rfl) (by kernel_rfl) (by kernel_rfl) hS rfl ?_
      simp only [List.getElem_toArray, List.getElem_cons_succ, List.getElem_cons_zero, Act.put, List.setIfInBounds_toArray, List.set_cons_zero, List.set_cons_succ]
      refine rg_take 7 (v := ?_) rfl (by kernel_rfl) (by kernel_rfl) (by kernel_rfl) hS rfl ?_ ?_
      rotate_left
      · intro wS hSw; go_simp; (with_reducible rfl)
      simp only [List.getElem_toArray, List.getElem_cons_succ, List.getElem_cons_zero, Act.put, List.setIfInBounds_toArray, List.set_cons_zero, List.set_cons_succ]
      refine rg_take 8 (v := ?_) rfl (by kernel_rfl) (by kernel_rfl) (by kernel_rfl) hS rfl ?_ ?_
      rotate_left
      · intro wS hSw; go_simp; (with_reducible rfl)
      simp only [List.getElem_toArray, List.getElem_cons_succ, List.getElem_cons_zero, Act.put, List.setIfInBounds_toArray, List.set_cons_zero, List.set_cons_succ]
      refine rg_take 9 (v := ?_) rfl (by kernel_rfl) (by kernel_rfl) (by kernel_rfl) hS rfl ?_ ?_
      rotate_left
      · intro wS hSw
        have hq := hSw.1
        have z0 := hq.cell (j := 0) rfl
        have z1 := hq.cell (j := 1) rfl
        have z2 := hq.cell (j := 2) rfl
        have z3 := hq.cell (j := 3) rfl
        have z4 := hq.cell (j := 4) rfl
        have z5 := hq.cell (j := 5) rfl
        have z6 := hq.cell (j := 6) rfl
        have z7 := hq.cell (j := 7) rfl
        go_simp; (with_reducible rfl)
      simp only [List.getElem_toArray, List.getElem_cons_succ, List.getElem_cons_zero, Act.put, List.setIfInBounds_toArray, List.set_cons_zero, List.set_cons_succ]
      refine rg_take 11 (v := ?_) rfl (by kernel_rfl) (by kernel_rfl) (by kernel_rfl) hS rfl ?_ ?_
      rotate_left
      · intro wS hSw
        have hq := hSw.1
        have z0 := hq.cell (j := 0) rfl
        have z1 := hq.cell (j := 1) rfl
        have z2 := hq.cell (j := 2) rfl
        have z3 := hq.cell (j := 3) rfl
        have z4 := hq.cell (j := 4) rfl
        have z5 := hq.cell (j := 5) rfl
        have z6 := hq.cell (j := 6) rfl
        have z7 := hq.cell (j := 7) rfl
        go_simp; (with_reducible rfl)
      simp only [List.getElem_toArray, List.getElem_cons_succ, List.getElem_cons_zero, Act.put, List.setIfInBounds_toArray, List.set_cons_zero, List.set_cons_succ]
      refine rg_one 10 rfl (by kernel_rfl) rfl (fun K hK => ?_)
      go_simp
      refine (hcn0 _ (hS).2.2).mono ?_
      rintro e wn ⟨rfl, hBn⟩
      have hS2 := hstep _ wn hS hBn
      refine hK _ _ hS2 ?_
      clear hK K hBn hS
      refine rg_one 12 rfl (by kernel_rfl) rfl (fun K hK => ?_)
      go_simp
      refine (hcn1 _ (hS2).2.2).mono ?_
      rintro e wn ⟨rfl, hBn⟩
      have hS3 := hstep _ wn hS2 hBn
      refine hK _ _ hS3 ?_
      clear hK K hBn hS2
      refine rg_take 13 (v := ?_) rfl (by kernel_rfl) (by kernel_rfl) (by kernel_rfl) hS3 rfl ?_ ?_
      rotate_left
      · intro wS hSw; go_simp; (with_reducible rfl)
      simp only [List.getElem_toArray, List.getElem_cons_succ, List.getElem_cons_zero, Act.put, List.setIfInBounds_toArray, List.set_cons_zero, List.set_cons_succ]
      refine rg_take 14 (v := ?_) rfl (by kernel_rfl) (by kernel_rfl) (by kernel_rfl) hS3 rfl ?_ ?_
      rotate_left
      · intro wS hSw; go_simp; (with_reducible rfl)
      simp only [List.getElem_toArray, List.getElem_cons_succ, List.getElem_cons_zero, Act.put, List.setIfInBounds_toArray, List.set_cons_zero, List.set_cons_succ]
      refine rg_take 15 (v := ?_) rfl (by kernel_rfl) (by kernel_rfl) (by kernel_rfl) hS3 rfl ?_ ?_
      rotate_left
      · intro wS hSw; go_simp; (with_reducible rfl)
      simp only [List.getElem_toArray, List.getElem_cons_succ, List.getElem_cons_zero, Act.put, List.setIfInBounds_toArray, List.set_cons_zero, List.set_cons_succ]
      refine rg_end (by kernel_rfl) ?_
      go_wp2_with fail
      go_meet
      exact ⟨_, rfl, HB, hS3⟩
    · have q3 : (si == 3) = false := by simpa using s3
      by_cases s4 : si = 4
      · subst s4
        clear q3 s3
        have HB : Hid (V = if (((q0 : Int) + (q1 : Int)) == 0) then #[.int .u32 (f : Int), .string (str g), .string (str h), .int .u8 5, .bool com, .slice A n c, .int .u32 0, .int .u32 0] else #[.int .u32 (f : Int), .string (str g), .string (str h), .int .u8 4, .bool com, .slice A n c, .int .u32 (wt : Int), .int .u32 (tr : Int)]) := Lib.hid (by rw [HV2.out]; simp)
        refine rg_take 0 (v := ?_) rfl (by kernel_rfl) (by kernel_rfl) (by kernel_rfl) hS rfl ?_ ?_
        rotate_left
        · intro wS hSw
          have hq := hSw.1
          have z0 := hq.cell (j := 0) rfl
          have z1 := hq.cell (j := 1) rfl
          have z2 := hq.cell (j := 2) rfl
          have z3 := hq.cell (j := 3) rfl
          have z4 := hq.cell (j := 4) rfl
          have z5 := hq.cell (j := 5) rfl
          have z6 := hq.cell (j := 6) rfl
          have z7 := hq.cell (j := 7) rfl
          go_simp; (with_reducible rfl)
        simp only [List.getElem_toArray, List.getElem_cons_zero, Act.put, List.setIfInBounds_toArray, List.set_cons_zero, List.set_cons_succ]
        refine rg_take 1 (v := ?_) rfl (by kernel_rfl) (by kernel_rfl) (by kernel_rfl) hS rfl ?_ ?_
        rotate_left
        · intro wS hSw
          have hq := hSw.1
          have z0 := hq.cell (j := 0) rfl
          have z1 := hq.cell (j := 1) rfl
          have z2 := hq.cell (j := 2) rfl
          have z3 := hq.cell (j := 3) rfl
          have z4 := hq.cell (j := 4) rfl
          have z5 := hq.cell (j := 5) rfl
          have z6 := hq.cell (j := 6) rfl
          have z7 := hq.cell (j := 7) rfl
          go_simp; (with_reducible rfl)
        simp only [List.getElem_toArray, List.getElem_cons_succ, List.getElem_cons_zero, Act.put, List.setIfInBounds_toArray, List.set_cons_zero, List.set_cons_succ]
        refine rg_take 2 (v := ?_) rfl (by kernel_rfl) (by kernel_rfl) (by kernel_rfl) hS rfl ?_ ?_
        rotate_left
        · intro wS hSw; go_simp; (with_reducible rfl)
        simp only [List.getElem_toArray, List.getElem_cons_succ, List.getElem_cons_zero, Act.put, List.setIfInBounds_toArray, List.set_cons_zero, List.set_cons_succ]
        refine rg_take 3 (v := ?_) rfl (by kernel_rfl) (by kernel_rfl) (by kernel_rfl) hS rfl ?_ ?_
        rotate_left
        · intro wS hSw; go_simp; (with_reducible rfl)
        simp only [List.getElem_toArray, List.getElem_cons_succ, List.getElem_cons_zero, Act.put, List.setIfInBounds_toArray, List.set_cons_zero, List.set_cons_succ]
        refine rg_take 4 (v := ?_) rfl (by kernel_rfl) (by kernel_rfl) (by kernel_rfl) hS rfl ?_ ?_
        rotate_left
        · intro wS hSw; go_simp; (with_reducible rfl)
        simp only [List.getElem_toArray, List.getElem_cons_succ, List.getElem_cons_zero, Act.put, List.setIfInBounds_toArray, List.set_cons_zero, List.set_cons_succ]
        refine rg_take 5 (v := ?_) rfl (by kernel_rfl) (by kernel_rfl) (by kernel_rfl) hS rfl ?_ ?_
        rotate_left
        · intro wS hSw
          have hq := hSw.1
          have z0 := hq.cell (j := 0) rfl
          have z1 := hq.cell (j := 1) rfl
          have z2 := hq.cell (j := 2) rfl
          have z3 := hq.cell (j := 3) rfl
          have z4 := hq.cell (j := 4) rfl
          have z5 := hq.cell (j := 5) rfl
          have z6 := hq.cell (j := 6) rfl
          have z7 := hq.cell (j := 7) rfl
          go_simp; (with_reducible rfl)
        simp only [List.getElem_toArray, List.getElem_cons_succ, List.getElem_cons_zero, Act.put, List.setIfInBounds_toArray, List.set_cons_zero, List.set_cons_succ]
        refine rg_take 6 (v := ?_) rfl (by kernel_rfl) (by kernel_rfl) (by kernel_rfl) hS rfl ?_ ?_
        rotate_left
        · intro wS hSw; go_simp; (with_reducible rfl)
        simp only [List.getElem_toArray, List.getElem_cons_succ, List.getElem_cons_zero, Act.put, List.setIfInBounds_toArray, List.set_cons_zero, List.set_cons_succ]
        refine rg_take 7 (v := ?_) rfl (by kernel_rfl) (by kernel_rfl) (by kernel_rfl) hS rfl ?_ ?_
        rotate_left
        · intro wS hSw; go_simp; (with_reducible rfl)
        simp only [List.getElem_toArray, List.getElem_cons_succ, List.getElem_cons_zero, Act.put, List.setIfInBounds_toArray, List.set_cons_zero, List.set_cons_succ]
        refine rg_take 8 (v := ?_) rfl (by kernel_rfl) (by kernel_rfl) (by kernel_rfl) hS rfl ?_ ?_
        rotate_left
        · intro wS hSw; go_simp; (with_reducible rfl)
        simp only [List.getElem_toArray, List.getElem_cons_succ, List.getElem_cons_zero, Act.put, List.setIfInBounds_toArray, List.set_cons_zero, List.set_cons_succ]
        refine rg_take 9 (v := ?_) rfl (by kernel_rfl) (by kernel_rfl) (by kernel_rfl) hS rfl ?_ ?_
        rotate_left
        · intro wS hSw
          have hq := hSw.1
          have z0 := hq.cell (j := 0) rfl
          have z1 := hq.cell (j := 1) rfl
          have z2 := hq.cell (j := 2) rfl
          have z3 := hq.cell (j := 3) rfl
          have z4 := hq.cell (j := 4) rfl
          have z5 := hq.cell (j := 5) rfl
          have z6 := hq.cell (j := 6) rfl
          have z7 := hq.cell (j := 7) rfl
          go_simp; (with_reducible rfl)
        simp only [List.getElem_toArray, List.getElem_cons_succ, List.getElem_cons_zero, Act.put, List.setIfInBounds_toArray, List.set_cons_zero, List.set_cons_succ]
        refine rg_take 11 (v := ?_) rfl (by kernel_rfl) (by kernel_rfl) (by kernel_rfl) hS rfl ?_ ?_
        rotate_left
        · intro wS hSw
          have hq := hSw.1
          have z0 := hq.cell (j := 0) rfl
          have z1 := hq.cell (j := 1) rfl
          have z2 := hq.cell (j := 2) rfl
          have z3 := hq.cell (j := 3) rfl
          have z4 := hq.cell (j := 4) rfl
          have z5 := hq.cell (j := 5) rfl
          have z6 := hq.cell (j := 6) rfl
          have z7 := hq.cell (j := 7) rfl
          go_simp; (with_reducible rfl)
        simp only [List.getElem_toArray, List.getElem_cons_succ, List.getElem_cons_zero, Act.put, List.setIfInBounds_toArray, List.set_cons_zero, List.set_cons_succ]
        refine rg_one 10 rfl (by kernel_rfl) rfl (fun K hK => ?_)
        go_simp
        refine (hcn0 _ (hS).2.2).mono ?_
        rintro e wn ⟨rfl, hBn⟩
        have hS2 := hstep _ wn hS hBn
        refine hK _ _ hS2 ?_
        clear hK K hBn hS
        refine rg_one 12 rfl (by kernel_rfl) rfl (fun K hK => ?_)
        go_simp
        refine (hcn1 _ (hS2).2.2).mono ?_
        rintro e wn ⟨rfl, hBn⟩
        have hS3 := hstep _ wn hS2 hBn
        refine hK _ _ hS3 ?_
        clear hK K hBn hS2
        refine rg_take 13 (v := ?_) rfl (by kernel_rfl) (by kernel_rfl) (by kernel_rfl) hS3 rfl ?_ ?_
        rotate_left
        · intro wS hSw; go_simp; (with_reducible rfl)
        simp only [List.getElem_toArray, List.getElem_cons_succ, List.getElem_cons_zero, Act.put, List.setIfInBounds_toArray, List.set_cons_zero, List.set_cons_succ]
        refine rg_take 14 (v := ?_) rfl (by kernel_rfl) (by kernel_rfl) (by kernel_rfl) hS3 rfl ?_ ?_
        rotate_left
        · intro wS hSw; go_simp; (with_reducible rfl)
        simp only [List.getElem_toArray, List.getElem_cons_succ, List.getElem_cons_zero, Act.put, List.setIfInBounds_toArray, List.set_cons_zero, List.set_cons_succ]
        refine rg_take 15 (v := ?_) rfl (by kernel_rfl) (by kernel_rfl) (by kernel_rfl) hS3 rfl ?_ ?_
        rotate_left
        · intro wS hSw; go_simp; (with_reducible rfl)
        simp only [List.getElem_toArray, List.getElem_cons_succ, List.getElem_cons_zero, Act.put, List.setIfInBounds_toArray, List.set_cons_zero, List.set_cons_succ]
        refine rg_end (by kernel_rfl) ?_
        go_wp2_with fail
        go_meet
        exact ⟨_, rfl, HB, hS3⟩
      · have q4 : (si == 4) = false := by simpa using s4
        have HB : Hid (V = if false then #[.int .u32 (f : Int), .string (str g), .string (str h), .int .u8 5, .bool com, .slice A n c, .int .u32 0, .int .u32 0] else #[.int .u32 (f : Int), .string (str g), .string (str h), .int .u8 si, .bool com, .slice A n c, .int .u32 (wt : Int), .int .u32 (tr : Int)]) := Lib.hid (by rw [HV2.out]; simp [s3, s4])
        clear s3 s4
        refine rg_take 0 (v := ?_) rfl (by kernel_rfl) (by kernel_rfl) (by kernel_rfl) hS rfl ?_ ?_
        rotate_left
        · intro wS hSw
          have hq := hSw.1
          have z0 := hq.cell (j := 0) rfl
          have z1 := hq.cell (j := 1) rfl
          have z2 := hq.cell (j := 2) rfl
          have z3 := hq.cell (j := 3) rfl
          have z4 := hq.cell (j := 4) rfl
          have z5 := hq.cell (j := 5) rfl
          have z6 := hq.cell (j := 6) rfl
          have z7 := hq.cell (j := 7) rfl
          go_simp; (with_reducible rfl)
        simp only [List.getElem_toArray, List.getElem_cons_zero, Act.put, List.setIfInBounds_toArray, List.set_cons_zero, List.set_cons_succ]
        refine rg_take 1 (v := ?_) rfl (by kernel_rfl) (by kernel_rfl) (by kernel_rfl) hS rfl ?_ ?_
        rotate_left
        · intro wS hSw
          have hq := hSw.1
          have z0 := hq.cell (j := 0) rfl
          have z1 := hq.cell (j := 1) rfl
          have z2 := hq.cell (j := 2) rfl
          have z3 := hq.cell (j := 3) rfl
          have z4 := hq.cell (j := 4) rfl
          have z5 := hq.cell (j := 5) rfl
          have z6 := hq.cell (j := 6) rfl
          have z7 := hq.cell (j := 7) rfl
          go_simp; (with_reducible rfl)
        simp only [List.getElem_toArray, List.getElem_cons_succ, List.getElem_cons_zero, Act.put, List.setIfInBounds_toArray, List.set_cons_zero, List.set_cons_succ]
        refine rg_take 2 (v := ?_) rfl (by kernel_rfl) (by kernel_rfl) (by kernel_rfl) hS rfl ?_ ?_
        rotate_left
        · intro wS hSw; go_simp; (with_reducible rfl)
        simp only [List.getElem_toArray, List.getElem_cons_succ, List.getElem_cons_zero, Act.put, List.setIfInBounds_toArray, List.set_cons_zero, List.set_cons_succ]
        refine rg_take 3 (v := ?_) rfl (by kernel_rfl) (by kernel_rfl) (by kernel_rfl) hS rfl ?_ ?_
        rotate_left
        · intro wS hSw; go_simp; (with_reducible rfl)
        simp only [List.getElem_toArray, List.getElem_cons_succ, List.getElem_cons_zero, Act.put, List.setIfInBounds_toArray, List.set_cons_zero, List.set_cons_succ]
        refine rg_take 4 (v := ?_) rfl (by kernel_rfl) (by kernel_rfl) (by kernel_rfl) hS rfl ?_ ?_
        rotate_left
        · intro wS hSw; go_simp; (with_reducible rfl)
        simp only [List.getElem_toArray, List.getElem_cons_succ, List.getElem_cons_zero, Act.put, List.setIfInBounds_toArray, List.set_cons_zero, List.set_cons_succ]
        refine rg_take 5 (v := ?_) rfl (by kernel_rfl) (by kernel_rfl) (by kernel_rfl) hS rfl ?_ ?_
        rotate_left
        · intro wS hSw
          have hq := hSw.1
          have z0 := hq.cell (j := 0) rfl
          have z1 := hq.cell (j := 1) rfl
          have z2 := hq.cell (j := 2) rfl
          have z3 := hq.cell (j := 3) rfl
          have z4 := hq.cell (j := 4) rfl
          have z5 := hq.cell (j := 5) rfl
          have z6 := hq.cell (j := 6) rfl
          have z7 := hq.cell (j := 7) rfl
          go_simp; (with_reducible rfl)
        simp only [List.getElem_toArray, List.getElem_cons_succ, List.getElem_cons_zero, Act.put, List.setIfInBounds_toArray, List.set_cons_zero, List.set_cons_succ]
        refine rg_take 6 (v := ?_) rfl (by kernel_rfl) (by kernel_rfl) (by kernel_rfl) hS rfl ?_ ?_
        rotate_left
        · intro wS hSw; go_simp; (with_reducible rfl)
        simp only [List.getElem_toArray, List.getElem_cons_succ, List.getElem_cons_zero, Act.put, List.setIfInBounds_toArray, List.set_cons_zero, List.set_cons_succ]
        refine rg_take 7 (v := ?_) rfl (by kernel_rfl) (by kernel_rfl) (by kernel_rfl) hS rfl ?_ ?_
        rotate_left
        · intro wS hSw; go_simp; (with_reducible rfl)
        simp only [List.getElem_toArray, List.getElem_cons_succ, List.getElem_cons_zero, Act.put, List.setIfInBounds_toArray, List.set_cons_zero, List.set_cons_succ]
        refine rg_take 8 (v := ?_) rfl (by kernel_rfl) (by kernel_rfl) (by kernel_rfl) hS rfl ?_ ?_
        rotate_left
        · intro wS hSw; go_simp; (with_reducible rfl)
        simp only [List.getElem_toArray, List.getElem_cons_succ, List.getElem_cons_zero, Act.put, List.setIfInBounds_toArray, List.set_cons_zero, List.set_cons_succ]
        refine rg_pass 9 rfl (by kernel_rfl) (by kernel_rfl) (by kernel_rfl) hS rfl ?_
        simp only [List.getElem_toArray, List.getElem_cons_succ, List.getElem_cons_zero, Act.put, List.setIfInBounds_toArray, List.set_cons_zero, List.set_cons_succ]
        refine rg_pass 10 rfl (by kernel_rfl) (by kernel_rfl) (by kernel_rfl) hS rfl ?_
        simp only [List.getElem_toArray, List.getElem_cons_succ, List.getElem_cons_zero, Act.put, List.setIfInBounds_toArray, List.set_cons_zero, List.set_cons_succ]
        refine rg_pass 11 rfl (by kernel_rfl) (by kernel_rfl) (by kernel_rfl) hS rfl ?_
        simp only [List.getElem_toArray, List.getElem_cons_succ, List.getElem_cons_zero, Act.put, List.setIfInBounds_toArray, List.set_cons_zero, List.set_cons_succ]
        refine rg_pass 12 rfl (by kernel_rfl) (by kernel_rfl) (by kernel_rfl) hS rfl ?_
        simp only [List.getElem_toArray, List.getElem_cons_succ, List.getElem_cons_zero, Act.put, List.setIfInBounds_toArray, List.set_cons_zero, List.set_cons_succ]
        refine rg_pass 13 rfl (by kernel_rfl) (by kernel_rfl) (by kernel_rfl) hS rfl ?_
        simp only [List.getElem_toArray, List.getElem_cons_succ, List.getElem_cons_zero, Act.put, List.setIfInBounds_toArray, List.set_cons_zero, List.set_cons_succ]
        refine rg_pass 14 rfl (by kernel_rfl) (by kernel_rfl) (by kernel_rfl) hS rfl ?_
        simp only [List.getElem_toArray, List.getElem_cons_succ, List.getElem_cons_zero, Act.put, List.setIfInBounds_toArray, List.set_cons_zero, List.set_cons_succ]
        refine rg_take 15 (v := ?_) rfl (by kernel_rfl) (by kernel_rfl) (by kernel_rfl) hS rfl ?_ ?_
        rotate_left
        · intro wS hSw; go_simp; (with_reducible rfl)
        simp only [List.getElem_toArray, List.getElem_cons_succ, List.getElem_cons_zero, Act.put, List.setIfInBounds_toArray, List.set_cons_zero, List.set_cons_succ]
        refine rg_end (by kernel_rfl) ?_
        go_wp2_with fail
        go_meet
        exact ⟨_, rfl, HB, hS⟩
  case rest =>
    obtain ⟨b, rfl, HB, hb1, hz1, hB1⟩ := hcut
    clear hb0 hz0 hB0 hcn0 hcn1 hstep
    cases b
    · have HE : Hid (V = #[.int .u32 (f : Int), .string (str g), .string (str h), .int .u8 si, .bool com, .slice A n c, .int .u32 (wt : Int), .int .u32 (tr : Int)]) := Lib.hid (by rw [HB.out]; rfl)
      have y0 := hb1.cell (j := 0) rfl
      have y1 := hb1.cell (j := 1) rfl
      have y2 := hb1.cell (j := 2) rfl
      have y3 := hb1.cell (j := 3) rfl
      have y4 := hb1.cell (j := 4) rfl
      have y5 := hb1.cell (j := 5) rfl
      have y6 := hb1.cell (j := 6) rfl
      have y7 := hb1.cell (j := 7) rfl
      go_wp2_with (first | (with_reducible refine hold_append ?_) | (with_reducible refine hold_make ?_) | (with_reducible refine hold_copy ?_) | (with_reducible refine hold_store ?_))
      refine unhold (wp_box (v := .agg #[.int .u32 (f : Int), .string (str g), .string (str h), .int .u8 si, .bool com, .slice A n c, .int .u32 (wt : Int), .int .u32 (tr : Int)]) (vs := [.int .u32 (f : Int), .string (str g), .string (str h), .int .u8 si, .bool com, .slice A n c, .int .u32 (wt : Int), .int .u32 (tr : Int)]) rfl rfl rfl rfl hz1 rfl (by kernel_rfl) (by simp) gl_one #[.int .u32 (f : Int), .string (str g), .string (str h), .int .u8 si, .bool com, .slice A n c, .int .u32 (wt : Int), .int .u32 (tr : Int)] (by simp) ?_)
      intro w5 hb5 hg5 _
      have hB05 := below_box hB1 hg5 (by omega)
      go_wp2_with (first | (with_reducible refine hold_append ?_) | (with_reducible refine hold_make ?_) | (with_reducible refine hold_copy ?_))
      refine ret_box1 rfl hb5 rfl Try.underlying28 rfl (by kernel_rfl) rfl ?_
      rw [HE.out]
      exact ⟨rfl, hB05⟩
    · have HE : Hid (V = #[.int .u32 (f : Int), .string (str g), .string (str h), .int .u8 5, .bool com, .slice A n c, .int .u32 0, .int .u32 0]) := Lib.hid (by rw [HB.out]; rfl)
      go_wp2_with (first | (with_reducible refine hold_append ?_) | (with_reducible refine hold_make ?_) | (with_reducible refine hold_copy ?_) | (with_reducible refine hold_store ?_))
      refine unhold (wp_box (v := .int .u8 5) (vs := [.int .u8 5]) rfl rfl rfl rfl hb1 rfl (by kernel_rfl) (by simp) (by simp; rfl) #[.int .u32 (f : Int), .string (str g), .string (str h), .int .u8 5, .bool com, .slice A n c, .int .u32 (wt : Int), .int .u32 (tr : Int)] (by simp) ?_)
      intro w2 hb2 hg2 _
      have hz2 := (hz1).grown hg2 (by intro e; injection e with e; omega)
      have hB02 := below_box hB1 hg2 (Nat.le_refl _)
      go_wp2_with (first | (with_reducible refine hold_append ?_) | (with_reducible refine hold_make ?_) | (with_reducible refine hold_copy ?_) | (with_reducible refine hold_store ?_))
      refine unhold (wp_box (v := .int .u32 0) (vs := [.int .u32 0]) rfl rfl rfl rfl hb2 rfl (by kernel_rfl) (by simp) (by simp; rfl) #[.int .u32 (f : Int), .string (str g), .string (str h), .int .u8 5, .bool com, .slice A n c, .int .u32 0, .int .u32 (tr : Int)] (by simp) ?_)
      intro w3 hb3 hg3 _
      have hz3 := hz2.grown hg3 (by intro e; injection e with e; omega)
      have hB03 := below_box hB02 hg3 (Nat.le_refl _)
      go_wp2_with (first | (with_reducible refine hold_append ?_) | (with_reducible refine hold_make ?_) | (with_reducible refine hold_copy ?_) | (with_reducible refine hold_store ?_))
      refine unhold (wp_box (v := .int .u32 0) (vs := [.int .u32 0]) rfl rfl rfl rfl hb3 rfl (by kernel_rfl) (by simp) (by simp; rfl) #[.int .u32 (f : Int), .string (str g), .string (str h), .int .u8 5, .bool com, .slice A n c, .int .u32 0, .int .u32 0] (by simp) ?_)
      intro w4 hb4 hg4 _
      have hz4 := hz3.grown hg4 (by intro e; injection e with e; omega)
      have hB04 := below_box hB03 hg4 (Nat.le_refl _)
      clear hb2 hb3 hz2 hz3
      have y0 := hb4.cell (j := 0) rfl
      have y1 := hb4.cell (j := 1) rfl
      have y2 := hb4.cell (j := 2) rfl
      have y3 := hb4.cell (j := 3) rfl
      have y4 := hb4.cell (j := 4) rfl
      have y5 := hb4.cell (j := 5) rfl
      have y6 := hb4.cell (j := 6) rfl
      have y7 := hb4.cell (j := 7) rfl
      go_wp2_with (first | (with_reducible refine hold_append ?_) | (with_reducible refine hold_make ?_) | (with_reducible refine hold_copy ?_) | (with_reducible refine hold_store ?_))
      refine unhold (wp_box (v := .agg #[.int .u32 (f : Int), .string (str g), .string (str h), .int .u8 5, .bool com, .slice A n c, .int .u32 0, .int .u32 0]) (vs := [.int .u32 (f : Int), .string (str g), .string (str h), .int .u8 5, .bool com, .slice A n c, .int .u32 0, .int .u32 0]) rfl rfl rfl rfl hz4 rfl (by kernel_rfl) (by simp) gl_one #[.int .u32 (f : Int), .string (str g), .string (str h), .int .u8 5, .bool com, .slice A n c, .int .u32 0, .int .u32 0] (by simp) ?_)
      intro w5 hb5 hg5 _
      have hB05 := below_box hB04 hg5 (by omega)
      go_wp2_with (first | (with_reducible refine hold_append ?_) | (with_reducible refine hold_make ?_) | (with_reducible refine hold_copy ?_))
      refine ret_box1 rfl hb5 rfl Try.underlying28 rfl (by kernel_rfl) rfl ?_
      rw [HE.out]
      exact ⟨rfl, hB05⟩
end Go.PH
end
section
/- The walk of the reference's abort. -/
set_option linter.all false
set_option linter.unusedSimpArgs false
set_option linter.unusedVariables false
namespace Go.PH
open Go.RowKit Go.Proofs

set_option maxRecDepth 20000 in
set_option maxHeartbeats 1000000 in
theorem rabort_any (G : Gl) (A : Option Addr) (n c : Nat) (B : Nat) (w : World) (hr : RdP w B A n c G.parts) (hB : B ≤ w.heap.size) (hn : n ≤ 1000000000) :
    Calls Try.prog 46 #[.agg (glV G A n c)] w fun e w' => e = .returned (.agg (glV (Gl.ends { G with st := 4, wait := 0, tries := 0 }) A n c)) ∧ Below w.heap.size w w' := by
  have hen := fun W hW => rends_any { G with st := 4, wait := 0, tries := 0 } A n c B W (hr.below' hW hB) (Nat.le_trans hB hW.size) hn
  obtain ⟨E, hE⟩ : ∃ E, E = Gl.ends { G with st := 4, wait := 0, tries := 0 } := ⟨_, rfl⟩
  rw [← hE] at hen ⊢
  clear hE hr
  obtain ⟨⟨f, g, h⟩, st, com, l, wt, tr⟩ := G
  obtain ⟨⟨ef, eg, eh⟩, est, ecom, el, ewt, etr⟩ := E
  unfold glV at hen ⊢
  simp only at hen ⊢
  obtain ⟨hb0, hz0, hB0⟩ := box2_of w #[.int .u32 (f : Int), .string (str g), .string (str h), .int .u8 (st : Int), .bool com, .slice A n c, .int .u32 (wt : Int), .int .u32 (tr : Int)] #[.int .u32 0, .string ⟨#[]⟩, .string ⟨#[]⟩, .int .u8 0, .bool false, .slice none 0 0, .int .u32 0, .int .u32 0] 28 28
  obtain ⟨w0, hw0⟩ : ∃ w0, w0 = ((w.alloc (.cells #[.int .u32 (f : Int), .string (str g), .string (str h), .int .u8 (st : Int), .bool com, .slice A n c, .int .u32 (wt : Int), .int .u32 (tr : Int)] 28)).alloc (.cells #[.int .u32 0, .string ⟨#[]⟩, .string ⟨#[]⟩, .int .u8 0, .bool false, .slice none 0 0, .int .u32 0, .int .u32 0] 28)) := ⟨_, rfl⟩
  rw [← hw0] at hb0 hz0 hB0
  go_enter Try.func46, Try.ntmps46
  go_upto_region 1 with fail
  rw [← hw0]
  clear hw0
  go_wp2_with (first | (with_reducible refine hold_append ?_) | (with_reducible refine hold_make ?_) | (with_reducible refine hold_copy ?_) | (with_reducible refine hold_store ?_))
  refine unhold (wp_box (v := .int .u8 4) (vs := [.int .u8 4]) rfl rfl rfl rfl hb0 rfl (by kernel_rfl) (by simp) (by simp; rfl) #[.int .u32 (f : Int), .string (str g), .string (str h), .int .u8 4, .bool com, .slice A n c, .int .u32 (wt : Int), .int .u32 (tr : Int)] (by simp) ?_)
  intro w3 hb3 hg3 _
  have hz3 := hz0.grown hg3 (by intro e; injection e with e; omega)
  have hB03 := below_box hB0 hg3 (Nat.le_refl _)
  go_wp2_with (first | (with_reducible refine hold_append ?_) | (with_reducible refine hold_make ?_) | (with_reducible refine hold_copy ?_) | (with_reducible refine hold_store ?_))
  refine unhold (wp_box (v := .int .u32 0) (vs := [.int .u32 0]) rfl rfl rfl rfl hb3 rfl (by kernel_rfl) (by simp) (by simp; rfl) #[.int .u32 (f : Int), .string (str g), .string (str h), .int .u8 4, .bool com, .slice A n c, .int .u32 0, .int .u32 (tr : Int)] (by simp) ?_)
  intro w4 hb4 hg4 _
  have hz4 := hz3.grown hg4 (by intro e; injection e with e; omega)
  have hB04 := below_box hB03 hg4 (Nat.le_refl _)
  go_wp2_with (first | (with_reducible refine hold_append ?_) | (with_reducible refine hold_make ?_) | (with_reducible refine hold_copy ?_) | (with_reducible refine hold_store ?_))
  refine unhold (wp_box (v := .int .u32 0) (vs := [.int .u32 0]) rfl rfl rfl rfl hb4 rfl (by kernel_rfl) (by simp) (by simp; rfl) #[.int .u32 (f : Int), .string (str g), .string (str h), .int .u8 4, .bool com, .slice A n c, .int .u32 0, .int .u32 0] (by simp) ?_)
  intro w5 hb5 hg5 _
  have hz5 := hz4.grown hg5 (by intro e; injection e with e; omega)
  have hB05 := below_box hB04 hg5 (Nat.le_refl _)
  have hen5 := hen w5 hB05
  clear hb0 hb3 hb4 hz0 hz3 hz4 hen
  have y0 := hb5.cell (j := 0) rfl
  have y1 := hb5.cell (j := 1) rfl
  have y2 := hb5.cell (j := 2) rfl
  have y3 := hb5.cell (j := 3) rfl
  have y4 := hb5.cell (j := 4) rfl
  have y5 := hb5.cell (j := 5) rfl
  have y6 := hb5.cell (j := 6) rfl
  have y7 := hb5.cell (j := 7) rfl
  go_wp2_with (first | (with_reducible refine hold_append ?_) | (with_reducible refine hold_make ?_) | (with_reducible refine hold_copy ?_) | (with_reducible refine hold_store ?_))
  refine hen5.mono ?_
  rintro e w7 ⟨rfl, hB7⟩
  have hz7 := hz5.below hB7
  have hB07 := hB05.trans (hB7.mono hB05.size)
  clear hen5
  go_wp2_with (first | (with_reducible refine hold_append ?_) | (with_reducible refine hold_make ?_) | (with_reducible refine hold_copy ?_) | (with_reducible refine hold_store ?_))
  refine unhold (wp_box (v := .agg #[.int .u32 (ef : Int), .string (str eg), .string (str eh), .int .u8 (est : Int), .bool ecom, .slice A n c, .int .u32 (ewt : Int), .int .u32 (etr : Int)]) (vs := [.int .u32 (ef : Int), .string (str eg), .string (str eh), .int .u8 (est : Int), .bool ecom, .slice A n c, .int .u32 (ewt : Int), .int .u32 (etr : Int)]) rfl rfl rfl rfl hz7 rfl (by kernel_rfl) (by simp) gl_one #[.int .u32 (ef : Int), .string (str eg), .string (str eh), .int .u8 (est : Int), .bool ecom, .slice A n c, .int .u32 (ewt : Int), .int .u32 (etr : Int)] (by simp) ?_)
  intro w8 hb8 hg8 _
  have hB08 := below_box hB07 hg8 (by omega)
  go_wp2_with (first | (with_reducible refine hold_append ?_) | (with_reducible refine hold_make ?_) | (with_reducible refine hold_copy ?_))
  refine ret_box1 rfl hb8 rfl Try.underlying28 rfl (by kernel_rfl) rfl ?_
  exact ⟨rfl, hB08⟩
end Go.PH
end

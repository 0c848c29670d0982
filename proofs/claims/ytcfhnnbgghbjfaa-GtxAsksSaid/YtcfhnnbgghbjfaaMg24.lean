/- Texts laid together: GtRestore, GtNew. -/
import Derived.Test.YtcfhnnbgghbjfaaMg04
import Derived.Test.YtcfhnnbgghbjfaaMg09
import Derived.Test.YtcfhnnbgghbjfaaMg23
section
/- The walk of gtx's Restore. -/
set_option linter.all false
set_option linter.unusedSimpArgs false
set_option linter.unusedVariables false
namespace Go.PH
open Go.RowKit Go.Proofs

set_option maxRecDepth 20000 in
set_option maxHeartbeats 2000000 in
theorem restore_any (X : Xd) (l : List Pt) (A : Option Addr) (n c : Nat) (B : Nat) (w : World) (hX : X.wf) (hr : RdP w B A n c l) (hB : B ≤ w.heap.size) (hwf : ∀ p ∈ l, p.wf) (hn : n ≤ 1000000000) :
    Calls Try.prog 17 #[.agg (dcV X A n c)] w fun e w' => TurnR w (Gl.restore X l) e w' := by
  have hl := rec_length ptShape hr
  have HL := Lib.hid hl
  obtain ⟨RS, hRS⟩ : ∃ RS, RS = Gl.restore X l := ⟨_, rfl⟩
  rw [← hRS]
  have HRS : Hid (RS = if dcOk X l = false then (gl0, 260) else (⟨X, 3, true, allTo 1 l, 0, 0⟩, 0)) := Lib.hid (by rw [hRS]; rfl)
  have HE : Hid (dcErr X l = if dcOk X l then 0 else 260) := Lib.hid rfl
  have hck := fun W hW => dcheck_any X A n c l B W hX (hr.below' hW hB) (Nat.le_trans hB hW.size) hwf hn
  have hcp := fun W hW => clonep_any A n c l B W (hr.below' hW hB) hn
  clear hRS hr hl hwf
  generalize dcErr X l = er at *
  generalize dcOk X l = ok at *
  obtain ⟨f, g, h⟩ := X
  unfold dcV at *
  simp only at hck hcp ⊢
  obtain ⟨hb0, hz0, hB0⟩ := box2_of w #[.int .u32 (f : Int), .string (str g), .string (str h), .slice A n c] #[.int .u32 0, .string ⟨#[]⟩, .string ⟨#[]⟩, .int .u8 0, .bool false, .slice none 0 0, .int .u32 0, .int .u32 0] 49 28
  obtain ⟨w0, hw0⟩ : ∃ w0, w0 = ((w.alloc (.cells #[.int .u32 (f : Int), .string (str g), .string (str h), .slice A n c] 49)).alloc (.cells #[.int .u32 0, .string ⟨#[]⟩, .string ⟨#[]⟩, .int .u8 0, .bool false, .slice none 0 0, .int .u32 0, .int .u32 0] 28)) := ⟨_, rfl⟩
  rw [← hw0] at hb0 hz0 hB0
  have hck0 := hck w0 hB0
  clear hck
  have x0 := hb0.cell (j := 0) rfl
  have x1 := hb0.cell (j := 1) rfl
  have x2 := hb0.cell (j := 2) rfl
  have x3 := hb0.cell (j := 3) rfl
  go_enter Try.func17, Try.ntmps17
  go_upto_region 1 with fail
  rw [← hw0]
  clear hw0
  go_wp2_with (first | (with_reducible refine hold_append ?_) | (with_reducible refine hold_make ?_) | (with_reducible refine hold_copy ?_) | (with_reducible refine hold_store ?_))
  refine hck0.mono ?_
  rintro e w1 ⟨rfl, hB1⟩
  have hb1 := hb0.below hB1
  have hz1 := hz0.below hB1
  have hB01 := hB0.trans (hB1.mono hB0.size)
  clear hck0 hb0 hz0 hB0 hB1 x0 x1 x2 x3
  cases ok
  · obtain rfl : er = 260 := by have := HE.out; simpa using this
    have HRES : Hid (RS = (gl0, 260)) := Lib.hid (by rw [HRS.out]; simp)
    go_wp2_with (first | (with_reducible refine hold_append ?_) | (with_reducible refine hold_make ?_) | (with_reducible refine hold_copy ?_) | (with_reducible refine hold_store ?_))
    refine unhold (wp_box (v := .agg #[.int .u32 0, .string ⟨#[]⟩, .string ⟨#[]⟩, .int .u8 0, .bool false, .slice none 0 0, .int .u32 0, .int .u32 0]) (vs := [.int .u32 0, .string ⟨#[]⟩, .string ⟨#[]⟩, .int .u8 0, .bool false, .slice none 0 0, .int .u32 0, .int .u32 0]) rfl rfl rfl rfl hz1 rfl (by kernel_rfl) (by simp) gl_one #[.int .u32 0, .string ⟨#[]⟩, .string ⟨#[]⟩, .int .u8 0, .bool false, .slice none 0 0, .int .u32 0, .int .u32 0] (by simp) ?_)
    intro w9 hb9 hg9 _
    have hB9 := below_box hB01 hg9 (by omega)
    go_wp2_with (first | (with_reducible refine hold_append ?_) | (with_reducible refine hold_make ?_) | (with_reducible refine hold_copy ?_))
    refine ret_box_tmp rfl hb9 rfl rfl Try.underlying28 rfl (by kernel_rfl) rfl ?_
    rw [HRES.out]
    exact ⟨none, 0, 0, rfl, Own.none_ _ _ _ _, by omega, hB9⟩
  · obtain rfl : er = 0 := by have := HE.out; simpa using this
    have HRES : Hid (RS = (⟨⟨f, g, h⟩, 3, true, allTo 1 l, 0, 0⟩, 0)) := Lib.hid (by rw [HRS.out]; simp)
    clear HRS
    have hzr := hz1.lt
    have hsz2 := hB01.size
    go_upto_region 4 with fail
    go_cut [5] from 13 to 18 (fun s5 wx => ∃ (bc : Nat) (A2 : Option Addr) (c2 : Nat), s5 = .pointer (some ⟨bc, 0, none⟩) ∧ w.heap.size + 1 < bc ∧ (∀ g, blk A2 = some g → w.heap.size + 1 < g ∧ g ≠ bc) ∧ OwnP wx w1.heap.size A2 n c2 l ∧ Box wx bc 28 #[.int .u32 (f : Int), .string (str g), .string (str h), .int .u8 3, .bool true, .slice A2 n c2, .int .u32 0, .int .u32 0] ∧ Box wx (w.heap.size + 1) 28 #[.int .u32 0, .string ⟨#[]⟩, .string ⟨#[]⟩, .int .u8 0, .bool false, .slice none 0 0, .int .u32 0, .int .u32 0] ∧ Below w.heap.size w wx)
    case first =>
      refine rg_start (fun W : World => (Box W w.heap.size 49 #[.int .u32 (f : Int), .string (str g), .string (str h), .slice A n c] ∧ Box W (w.heap.size + 1) 28 #[.int .u32 0, .string ⟨#[]⟩, .string ⟨#[]⟩, .int .u8 0, .bool false, .slice none 0 0, .int .u32 0, .int .u32 0]) ∧ Below w.heap.size w W) (by kernel_rfl) ?_
      have hS : (Box w1.drew w.heap.size 49 #[.int .u32 (f : Int), .string (str g), .string (str h), .slice A n c] ∧ Box w1.drew (w.heap.size + 1) 28 #[.int .u32 0, .string ⟨#[]⟩, .string ⟨#[]⟩, .int .u8 0, .bool false, .slice none 0 0, .int .u32 0, .int .u32 0]) ∧ Below w.heap.size w w1.drew := ⟨⟨hb1, hz1⟩, below_drewN hB01 1⟩
      have hd1 : w1.drew.heap.size = w1.heap.size := rfl
      generalize w1.drew = wd at *
      clear hb1 hz1 hB01
      refine rg_take 0 (v := ?_) rfl (by kernel_rfl) (by kernel_rfl) (by kernel_rfl) hS rfl ?_ ?_
      rotate_left
      · intro wS hSw; go_simp; (with_reducible rfl)
      simp only [List.getElem_toArray, List.getElem_cons_zero, Act.put, List.setIfInBounds_toArray, List.set_cons_zero, List.set_cons_succ]
      refine rg_take 1 (v := ?_) rfl (by kernel_rfl) (by kernel_rfl) (by kernel_rfl) hS rfl ?_ ?_
      rotate_left
      · intro wS hSw; have k0 := hSw.1.1.cell (j := 0) rfl; have k1 := hSw.1.1.cell (j := 1) rfl; have k2 := hSw.1.1.cell (j := 2) rfl; go_simp; (with_reducible rfl)
      simp only [List.getElem_toArray, List.getElem_cons_succ, List.getElem_cons_zero, Act.put, List.setIfInBounds_toArray, List.set_cons_zero, List.set_cons_succ]
      refine rg_take 2 (v := ?_) rfl (by kernel_rfl) (by kernel_rfl) (by kernel_rfl) hS rfl ?_ ?_
      rotate_left
      · intro wS hSw; go_simp; (with_reducible rfl)
      simp only [List.getElem_toArray, List.getElem_cons_succ, List.getElem_cons_zero, Act.put, List.setIfInBounds_toArray, List.set_cons_zero, List.set_cons_succ]
      refine rg_take 3 (v := ?_) rfl (by kernel_rfl) (by kernel_rfl) (by kernel_rfl) hS rfl ?_ ?_
      rotate_left
      · intro wS hSw; have k3 := hSw.1.1.cell (j := 3) rfl; go_simp; (with_reducible rfl)
      simp only [List.getElem_toArray, List.getElem_cons_succ, List.getElem_cons_zero, Act.put, List.setIfInBounds_toArray, List.set_cons_zero, List.set_cons_succ]
      refine rg_two 4 6 rfl rfl (by kernel_rfl) rfl rfl (fun K hK => ?_) (fun K hK => ?_)
      · go_simp
        refine (hcp wd hS.2).mono ?_
        rintro e w2 ⟨A2, c2, rfl, ho2, hB2⟩
        have hS2 : (Box w2 w.heap.size 49 #[.int .u32 (f : Int), .string (str g), .string (str h), .slice A n c] ∧ Box w2 (w.heap.size + 1) 28 #[.int .u32 0, .string ⟨#[]⟩, .string ⟨#[]⟩, .int .u8 0, .bool false, .slice none 0 0, .int .u32 0, .int .u32 0]) ∧ Below w.heap.size w w2 := ⟨⟨hS.1.1.below hB2, hS.1.2.below hB2⟩, hS.2.trans (hB2.mono hS.2.size)⟩
        refine hK _ _ hS2 ?_
        clear hK K
        rw [hd1] at ho2
        have hbA : ∀ g, blk A2 = some g → w.heap.size + 1 < g ∧ g ≠ w2.heap.size := fun g hg => by
          have := ho2.blk_lt hg
          omega
        have hzb := hS2.1.2.lt
        have hoA : OwnP (w2.alloc (.cells #[.int .u32 0, .string ⟨#[]⟩, .string ⟨#[]⟩, .int .u8 0, .bool false, .slice none 0 0, .int .u32 0, .int .u32 0] 28)) w1.heap.size A2 n c2 l := ho2.alloc _
        have hSA : (Box (w2.alloc (.cells #[.int .u32 0, .string ⟨#[]⟩, .string ⟨#[]⟩, .int .u8 0, .bool false, .slice none 0 0, .int .u32 0, .int .u32 0] 28)) w.heap.size 49 #[.int .u32 (f : Int), .string (str g), .string (str h), .slice A n c] ∧ Box (w2.alloc (.cells #[.int .u32 0, .string ⟨#[]⟩, .string ⟨#[]⟩, .int .u8 0, .bool false, .slice none 0 0, .int .u32 0, .int .u32 0] 28)) (w.heap.size + 1) 28 #[.int .u32 0, .string ⟨#[]⟩, .string ⟨#[]⟩, .int .u8 0, .bool false, .slice none 0 0, .int .u32 0, .int .u32 0]) ∧ Below w.heap.size w (w2.alloc (.cells #[.int .u32 0, .string ⟨#[]⟩, .string ⟨#[]⟩, .int .u8 0, .bool false, .slice none 0 0, .int .u32 0, .int .u32 0] 28)) := ⟨⟨hS2.1.1.alloc _, hS2.1.2.alloc _⟩, hS2.2.alloc hS2.2.size _⟩
        have hbN := Box.new w2 #[.int .u32 0, .string ⟨#[]⟩, .string ⟨#[]⟩, .int .u8 0, .bool false, .slice none 0 0, .int .u32 0, .int .u32 0] 28
        refine rg_take 5 (v := ?_) rfl (by kernel_rfl) (by kernel_rfl) (by kernel_rfl) hS2 rfl ?_ ?_
        rotate_left
        · intro wS hSw; go_simp; (with_reducible rfl)
        simp only [List.getElem_toArray, List.getElem_cons_succ, List.getElem_cons_zero, Act.put, List.setIfInBounds_toArray, List.set_cons_zero, List.set_cons_succ]
        refine rg_one 6 rfl (by kernel_rfl) rfl (fun K hK => ?_)
        go_simp
        refine hK _ _ hSA ?_
        clear hK K
        refine rg_one 7 rfl (by kernel_rfl) rfl (fun K hK => ?_)
        refine op_box (v := .agg #[.int .u32 (f : Int), .string (str g), .string (str h), .int .u8 3, .bool true, .slice A2 n c2, .int .u32 0, .int .u32 0]) (vs := [.int .u32 (f : Int), .string (str g), .string (str h), .int .u8 3, .bool true, .slice A2 n c2, .int .u32 0, .int .u32 0]) rfl rfl rfl hbN rfl (by kernel_rfl) (by simp) gl_one #[.int .u32 (f : Int), .string (str g), .string (str h), .int .u8 3, .bool true, .slice A2 n c2, .int .u32 0, .int .u32 0] (by simp) ?_
        intro w4 hb4 hg4 _
        have hS4 : (Box w4 w.heap.size 49 #[.int .u32 (f : Int), .string (str g), .string (str h), .slice A n c] ∧ Box w4 (w.heap.size + 1) 28 #[.int .u32 0, .string ⟨#[]⟩, .string ⟨#[]⟩, .int .u8 0, .bool false, .slice none 0 0, .int .u32 0, .int .u32 0]) ∧ Below w.heap.size w w4 := ⟨⟨hSA.1.1.grown hg4 (by intro e; injection e with e; omega), hSA.1.2.grown hg4 (by intro e; injection e with e; omega)⟩, below_box hSA.2 hg4 (by omega)⟩
        have ho4 := own_stays hoA hg4 (fun g hg e => by injection e with e; exact (hbA g hg).2 e.symm)
        refine hK _ _ hS4 ?_
        clear hK K
        refine rg_end (by kernel_rfl) ?_
        go_wp2_with fail
        go_meet
        exact ⟨_, A2, c2, rfl, hzb, hbA, ho4, hb4, hS4.1.2, hS4.2⟩
      · have hSA : (Box (wd.alloc (.cells #[.int .u32 0, .string ⟨#[]⟩, .string ⟨#[]⟩, .int .u8 0, .bool false, .slice none 0 0, .int .u32 0, .int .u32 0] 28)) w.heap.size 49 #[.int .u32 (f : Int), .string (str g), .string (str h), .slice A n c] ∧ Box (wd.alloc (.cells #[.int .u32 0, .string ⟨#[]⟩, .string ⟨#[]⟩, .int .u8 0, .bool false, .slice none 0 0, .int .u32 0, .int .u32 0] 28)) (w.heap.size + 1) 28 #[.int .u32 0, .string ⟨#[]⟩, .string ⟨#[]⟩, .int .u8 0, .bool false, .slice none 0 0, .int .u32 0, .int .u32 0]) ∧ Below w.heap.size w (wd.alloc (.cells #[.int .u32 0, .string ⟨#[]⟩, .string ⟨#[]⟩, .int .u8 0, .bool false, .slice none 0 0, .int .u32 0, .int .u32 0] 28)) := ⟨⟨hS.1.1.alloc _, hS.1.2.alloc _⟩, hS.2.alloc hS.2.size _⟩
        have hbN := Box.new wd #[.int .u32 0, .string ⟨#[]⟩, .string ⟨#[]⟩, .int .u8 0, .bool false, .slice none 0 0, .int .u32 0, .int .u32 0] 28
        have hdA : (wd.alloc (.cells #[.int .u32 0, .string ⟨#[]⟩, .string ⟨#[]⟩, .int .u8 0, .bool false, .slice none 0 0, .int .u32 0, .int .u32 0] 28)).heap.size = wd.heap.size + 1 := by simp
        go_simp
        refine hK _ _ hSA ?_
        clear hK K
        generalize (wd.alloc (.cells #[.int .u32 0, .string ⟨#[]⟩, .string ⟨#[]⟩, .int .u8 0, .bool false, .slice none 0 0, .int .u32 0, .int .u32 0] 28)) = wa at *
        have hzb := hS.1.2.lt
        refine rg_one 4 rfl (by kernel_rfl) rfl (fun K hK => ?_)
        go_simp
        refine (hcp wa hSA.2).mono ?_
        rintro e w2 ⟨A2, c2, rfl, ho2, hB2⟩
        have hS2 : (Box w2 w.heap.size 49 #[.int .u32 (f : Int), .string (str g), .string (str h), .slice A n c] ∧ Box w2 (w.heap.size + 1) 28 #[.int .u32 0, .string ⟨#[]⟩, .string ⟨#[]⟩, .int .u8 0, .bool false, .slice none 0 0, .int .u32 0, .int .u32 0]) ∧ Below w.heap.size w w2 := ⟨⟨hSA.1.1.below hB2, hSA.1.2.below hB2⟩, hSA.2.trans (hB2.mono hSA.2.size)⟩
        have hbN2 := hbN.below hB2
        rw [hd1] at hbN2 hzb
        refine hK _ _ hS2 ?_
        clear hK K
        have hbA : ∀ g, blk A2 = some g → w.heap.size + 1 < g ∧ g ≠ w1.heap.size := fun g hg => by
          have := ho2.blk_lt hg
          omega
        refine rg_take 5 (v := ?_) rfl (by kernel_rfl) (by kernel_rfl) (by kernel_rfl) hS2 rfl ?_ ?_
        rotate_left
        · intro wS hSw; go_simp; (with_reducible rfl)
        simp only [List.getElem_toArray, List.getElem_cons_succ, List.getElem_cons_zero, Act.put, List.setIfInBounds_toArray, List.set_cons_zero, List.set_cons_succ]
        refine rg_one 7 rfl (by kernel_rfl) rfl (fun K hK => ?_)
        refine op_box (v := .agg #[.int .u32 (f : Int), .string (str g), .string (str h), .int .u8 3, .bool true, .slice A2 n c2, .int .u32 0, .int .u32 0]) (vs := [.int .u32 (f : Int), .string (str g), .string (str h), .int .u8 3, .bool true, .slice A2 n c2, .int .u32 0, .int .u32 0]) rfl rfl rfl hbN2 rfl (by kernel_rfl) (by simp) gl_one #[.int .u32 (f : Int), .string (str g), .string (str h), .int .u8 3, .bool true, .slice A2 n c2, .int .u32 0, .int .u32 0] (by simp) ?_
        intro w4 hb4 hg4 _
        have hS4 : (Box w4 w.heap.size 49 #[.int .u32 (f : Int), .string (str g), .string (str h), .slice A n c] ∧ Box w4 (w.heap.size + 1) 28 #[.int .u32 0, .string ⟨#[]⟩, .string ⟨#[]⟩, .int .u8 0, .bool false, .slice none 0 0, .int .u32 0, .int .u32 0]) ∧ Below w.heap.size w w4 := ⟨⟨hS2.1.1.grown hg4 (by intro e; injection e with e; omega), hS2.1.2.grown hg4 (by intro e; injection e with e; omega)⟩, below_box hS2.2 hg4 (by omega)⟩
        have ho4 := own_stays ho2 hg4 (fun g hg e => by injection e with e; exact (hbA g hg).2 e.symm)
        refine hK _ _ hS4 ?_
        clear hK K
        refine rg_end (by kernel_rfl) ?_
        go_wp2_with fail
        go_meet
        exact ⟨_, A2, c2, rfl, hzb, hbA, Own.base_le ho4 (by omega), hb4, hS4.1.2, hS4.2⟩
    case rest =>
      obtain ⟨bc, A2, c2, rfl, hlow, hblt, hoC, hC, hzC, hBC⟩ := hcut
      clear hb1 hz1 hB01 hcp
      have y5 := hC.cell (j := 5) rfl
      go_wp2_with (first | (with_reducible refine hold_append ?_) | (with_reducible refine hold_make ?_) | (with_reducible refine hold_copy ?_))
      clear y5
      go_loopw [22] (fun s wr => ∃ (k : Nat) (T : List Pt), k ≤ n ∧ s = .int .i64 k ∧ Hid (T.take k = (allTo 1 l).take k) ∧ Hid (T.drop k = l.drop k) ∧ OwnP wr w1.heap.size A2 n c2 T ∧ Box wr bc 28 #[.int .u32 (f : Int), .string (str g), .string (str h), .int .u8 3, .bool true, .slice A2 n c2, .int .u32 0, .int .u32 0] ∧ Box wr (w.heap.size + 1) 28 #[.int .u32 0, .string ⟨#[]⟩, .string ⟨#[]⟩, .int .u8 0, .bool false, .slice none 0 0, .int .u32 0, .int .u32 0] ∧ Below w.heap.size w wr) (fun s _ => n - (RowKit.intOf s).toNat)
      case atStart => exact ⟨0, l, by omega, rfl, Lib.hid (by simp), Lib.hid rfl, hoC, hC, hzC, hBC⟩
      case round =>
        clear hoC hC hzC hBC
        obtain ⟨k, T, hk, rfl, H1, H2, ho, hC, hz, hBr⟩ := hrel
        have hTl := own_len ptShape ho
        have HT := Lib.hid hTl
        clear hTl
        have y5 := hC.cell (j := 5) rfl
        by_cases hlt : k < n
        · have hkn : (k : Int) < (n : Int) := by omega
          obtain ⟨g', rfl, hbg, hgs⟩ := own_some ho (by omega)
          have hgb := hblt g' rfl
          have hkT : k < T.length := by rw [HT.out]; exact hlt
          have hkl : k < l.length := by rw [HL.out]; exact hlt
          obtain ⟨s1, s2, s3⟩ := allTo_step H1.out H2.out hkl hkT
          have HS1 := Lib.hid s1
          have HS2' := Lib.hid s2
          have HF : Hid (ptC (Pt.to 1 l[k]) = (ptC T[k]).take 4 ++ [.int .u8 1] ++ (ptC T[k]).drop (4 + [Value.int .u8 1].length)) := Lib.hid (by rw [s3]; simp [ptC, Pt.to])
          clear s1 s2 s3
          go_wp2_with (first | (with_reducible refine hold_append ?_) | (with_reducible refine hold_make ?_) | (with_reducible refine hold_copy ?_) | (with_reducible refine hold_store ?_))
          refine unhold (wp_recset ptShape rfl rfl rfl rfl ho (k := k) (i := 4) (vs := [.int .u8 1]) hlt hkT (Pt.to 1 l[k]) rfl (by kernel_rfl) HF.out (by simp) (by omega) ?_)
          intro w5 ho5 hg5 _
          have hB5 : Below w.heap.size w w5 := hBr.grown hg5 hBr.size (fun g'' e => by injection e with e; omega)
          have hC5 := hC.grown hg5 (by intro e; injection e with e; omega)
          have hz5 := hz.grown hg5 (by intro e; injection e with e; omega)
          go_wp2_with (first | (with_reducible refine hold_append ?_) | (with_reducible refine hold_make ?_) | (with_reducible refine hold_copy ?_))
          exact ⟨⟨k + 1, _, by omega, by go_num, HS1, HS2', ho5, hC5, hz5, hB5⟩, by simp [RowKit.intOf]; omega⟩
        · have hkn : n = k := by omega
          subst hkn
          have hTe : T = allTo 1 l := by
            have h1 := H1.out
            rwa [← HT.out, List.take_length, HT.out, ← HL.out, List.take_of_length_le (by simp [allTo])] at h1
          subst hTe
          have y0 := hC.cell (j := 0) rfl
          have y1 := hC.cell (j := 1) rfl
          have y2 := hC.cell (j := 2) rfl
          have y3 := hC.cell (j := 3) rfl
          have y4 := hC.cell (j := 4) rfl
          have y5 := hC.cell (j := 5) rfl
          have y6 := hC.cell (j := 6) rfl
          have y7 := hC.cell (j := 7) rfl
          go_wp2_with (first | (with_reducible refine hold_append ?_) | (with_reducible refine hold_make ?_) | (with_reducible refine hold_copy ?_) | (with_reducible refine hold_store ?_))
          refine unhold (wp_box (v := .agg #[.int .u32 (f : Int), .string (str g), .string (str h), .int .u8 3, .bool true, .slice A2 n c2, .int .u32 0, .int .u32 0]) (vs := [.int .u32 (f : Int), .string (str g), .string (str h), .int .u8 3, .bool true, .slice A2 n c2, .int .u32 0, .int .u32 0]) rfl rfl rfl rfl hz rfl (by kernel_rfl) (by simp) gl_one #[.int .u32 (f : Int), .string (str g), .string (str h), .int .u8 3, .bool true, .slice A2 n c2, .int .u32 0, .int .u32 0] (by simp) ?_)
          intro w8 hb8 hg8 _
          have hB08 := below_box hBr hg8 (by omega)
          have ho8 := own_stays ho hg8 (fun k hk e => by injection e with e; have := (hblt k hk).1; omega)
          go_wp2_with (first | (with_reducible refine hold_append ?_) | (with_reducible refine hold_make ?_) | (with_reducible refine hold_copy ?_))
          refine ret_box_tmp rfl hb8 rfl rfl Try.underlying28 rfl (by kernel_rfl) rfl ?_
          rw [HRES.out]
          exact ⟨A2, n, c2, rfl, Own.base_le ho8 hsz2, hn, hB08⟩
end Go.PH
end
section
/- The walk of gtx's New. -/
set_option linter.all false
set_option linter.unusedSimpArgs false
set_option linter.unusedVariables false
namespace Go.PH
open Go.RowKit Go.Proofs

theorem enc_dig (d n : Nat) (h : d = n % 10) : Utf8.encode (((48 + d : Nat) : Int)) = str (dig1 n) := by
  subst h
  have : n % 10 < 10 := Nat.mod_lt _ (by omega)
  generalize hq : n % 10 = q at *
  have hd : dig1 n = [UInt8.ofNat (48 + q)] := by rw [dig1, hq]
  rw [hd]
  have : q = 0 ∨ q = 1 ∨ q = 2 ∨ q = 3 ∨ q = 4 ∨ q = 5 ∨ q = 6 ∨ q = 7 ∨ q = 8 ∨ q = 9 := by omega
  rcases this with rfl | rfl | rfl | rfl | rfl | rfl | rfl | rfl | rfl | rfl <;> rfl
theorem newGl_wf {x : Xd} (hx : x.wf) (l : List Nat) (hl : ∀ n ∈ l, n < 256) : (newGl x l).wf := by
  refine ⟨hx, by show 1 < 256; omega, fun p hp => ?_, by show 0 < 4294967296; omega, by show 0 < 4294967296; omega⟩
  obtain ⟨n, hn, rfl⟩ := List.mem_map.1 hp
  exact ⟨hl n hn, ⟨hx.1, hx.2.1, by simp [dig1]⟩, by show 0 < 256; omega⟩
set_option maxRecDepth 20000 in
set_option maxHeartbeats 2000000 in
theorem new_any (x : Xd) (An : Option Addr) (n cn : Nat) (nl : List UInt8) (B : Nat) (w : World) (hx : x.wf) (hr : RdB w B An n cn nl) (hB : B ≤ w.heap.size) (hn : n ≤ 1000000) :
    Calls Try.prog 15 #[.agg (xdV x), .slice An n cn] w fun e w' => TurnR w (Gl.new x (nl.map UInt8.toNat)) e w' := by
  have hl := RdB.length hr
  have HL := Lib.hid hl
  have hr0 := fun W (h : Below w.heap.size w W) => Rd.below' hr h hB
  clear hr hl
  obtain ⟨L, hL⟩ : ∃ L, L = nl.map UInt8.toNat := ⟨_, rfl⟩
  obtain ⟨RS, hRS⟩ : ∃ RS, RS = Gl.new x L := ⟨_, rfl⟩
  rw [← hL, ← hRS]
  have HRS : Hid (RS = if x.ok = false ∨ x.bran ≠ [] then (gl0, 270) else if (newGl x L).ok = false then (gl0, 2) else (newGl x L, 0)) := Lib.hid (by rw [hRS]; rfl)
  have HE : Hid (x.err = if x.ok then 0 else 40) := Lib.hid rfl
  have HW : Hid ((newGl x L).wf) := Lib.hid (newGl_wf hx L (by rw [hL]; intro m hm; obtain ⟨u, _, rfl⟩ := List.mem_map.1 hm; exact u.toNat_lt))
  have hck := fun W => check_any x W hx
  have HLL := Lib.hid hL
  clear hRS hL
  generalize x.err = er at *
  generalize hok : x.ok = ok at *
  have hgc := fun (A : Option Addr) (c : Nat) (W : World) B' h1 h2 => gcheck_any (newGl x L) A n c B' W HW.out h1 h2 (by omega)
  clear HW
  obtain ⟨f, g, h⟩ := x
  simp only [xdV] at hck ⊢
  obtain ⟨hb0, hz0, hB0⟩ := box2_of w #[.int .u32 (f : Int), .string (str g), .string (str h)] #[.int .u32 0, .string ⟨#[]⟩, .string ⟨#[]⟩, .int .u8 0, .bool false, .slice none 0 0, .int .u32 0, .int .u32 0] 24 28
  obtain ⟨w0, hw0⟩ : ∃ w0, w0 = ((w.alloc (.cells #[.int .u32 (f : Int), .string (str g), .string (str h)] 24)).alloc (.cells #[.int .u32 0, .string ⟨#[]⟩, .string ⟨#[]⟩, .int .u8 0, .bool false, .slice none 0 0, .int .u32 0, .int .u32 0] 28)) := ⟨_, rfl⟩
  rw [← hw0] at hb0 hz0 hB0
  have hck0 := hck w0
  clear hck
  have x0 := hb0.cell (j := 0) rfl
  have x1 := hb0.cell (j := 1) rfl
  have x2 := hb0.cell (j := 2) rfl
  by_cases hh : h = []
  · subst hh
    have hemp : (str ([] : List UInt8)).toList.isEmpty = true := by rw [str_toList]; rfl
    go_enter Try.func15, Try.ntmps15
    go_upto_region 1 with fail
    rw [← hw0]
    clear hw0
    go_wp2_with (first | (with_reducible refine hold_append ?_) | (with_reducible refine hold_make ?_) | (with_reducible refine hold_copy ?_) | (with_reducible refine hold_store ?_))
    refine hck0.mono ?_
    rintro e w1 ⟨rfl, hB1⟩
    have hb1 := hb0.below hB1
    have hz1 := hz0.below hB1
    have hB01 := hB0.trans (hB1.mono hB0.size)
    clear hck0 hb0 hz0 hB0 hB1 x0 x1 x2
    have x0 := hb1.cell (j := 0) rfl
    have x1 := hb1.cell (j := 1) rfl
    have x2 := hb1.cell (j := 2) rfl
    cases ok
    · obtain rfl : er = 40 := by have := HE.out; simpa using this
      have HRES : Hid (RS = (gl0, 270)) := Lib.hid (by rw [HRS.out]; simp)
      clear hgc HRS HE hok
      go_wp2_with (first | (with_reducible refine hold_append ?_) | (with_reducible refine hold_make ?_) | (with_reducible refine hold_copy ?_) | (with_reducible refine hold_store ?_))
      refine unhold (wp_box (v := .agg #[.int .u32 0, .string ⟨#[]⟩, .string ⟨#[]⟩, .int .u8 0, .bool false, .slice none 0 0, .int .u32 0, .int .u32 0]) (vs := [.int .u32 0, .string ⟨#[]⟩, .string ⟨#[]⟩, .int .u8 0, .bool false, .slice none 0 0, .int .u32 0, .int .u32 0]) rfl rfl rfl rfl hz1 rfl (by kernel_rfl) (by simp) gl_one #[.int .u32 0, .string ⟨#[]⟩, .string ⟨#[]⟩, .int .u8 0, .bool false, .slice none 0 0, .int .u32 0, .int .u32 0] (by simp) ?_)
      intro w9 hb9 hg9 _
      have hB9 := below_box hB01 hg9 (by omega)
      go_wp2_with (first | (with_reducible refine hold_append ?_) | (with_reducible refine hold_make ?_) | (with_reducible refine hold_copy ?_))
      refine ret_box_tmp rfl hb9 rfl rfl Try.underlying28 rfl (by kernel_rfl) rfl ?_
      rw [HRES.out]
      exact ⟨none, 0, 0, rfl, Own.none_ _ _ _ _, by omega, hB9⟩
    · obtain rfl : er = 0 := by have := HE.out; simpa using this
      have HRS2 : Hid (RS = if (newGl ⟨f, g, []⟩ L).ok = false then (gl0, 2) else (newGl ⟨f, g, []⟩ L, 0)) := Lib.hid (by rw [HRS.out]; simp)
      have HG : Hid ((newGl ⟨f, g, []⟩ L).err = if (newGl ⟨f, g, []⟩ L).ok then 0 else 270) := Lib.hid rfl
      clear HRS HE hok
      have hzr := hz1.lt
      have hC := Box.new w1 #[.int .u32 (f : Int), .string (str g), .string (str []), .int .u8 1, .bool false, .slice none 0 0, .int .u32 0, .int .u32 0] 28
      have hBC := hB01.alloc hB01.size (.cells #[.int .u32 (f : Int), .string (str g), .string (str []), .int .u8 1, .bool false, .slice none 0 0, .int .u32 0, .int .u32 0] 28)
      have hbC := hb1.alloc (.cells #[.int .u32 (f : Int), .string (str g), .string (str []), .int .u8 1, .bool false, .slice none 0 0, .int .u32 0, .int .u32 0] 28)
      have hzC := hz1.alloc (.cells #[.int .u32 (f : Int), .string (str g), .string (str []), .int .u8 1, .bool false, .slice none 0 0, .int .u32 0, .int .u32 0] 28)
      have hsz1 : (w1.alloc (.cells #[.int .u32 (f : Int), .string (str g), .string (str []), .int .u8 1, .bool false, .slice none 0 0, .int .u32 0, .int .u32 0] 28)).heap.size = w1.heap.size + 1 := by simp
      go_upto_region 5 with fail
      generalize hbc : w1.heap.size = bc at *
      generalize (w1.alloc (.cells #[.int .u32 (f : Int), .string (str g), .string (str []), .int .u8 1, .bool false, .slice none 0 0, .int .u32 0, .int .u32 0] 28)) = wq at *
      have hB0q : w.heap.size ≤ bc := by omega
      clear x0 x1 x2 hB01 hz1 hb1
      go_loopw [23] (fun s wr => ∃ (k c2 : Nat) (A2 : Option Addr), k ≤ n ∧ s = .int .i64 k ∧ OwnP wr (bc + 1) A2 k c2 (newParts ⟨f, g, []⟩ (L.take k)) ∧ Box wr bc 28 #[.int .u32 (f : Int), .string (str g), .string (str []), .int .u8 1, .bool false, .slice A2 k c2, .int .u32 0, .int .u32 0] ∧ Box wr w.heap.size 24 #[.int .u32 (f : Int), .string (str g), .string (str [])] ∧ Box wr (w.heap.size + 1) 28 #[.int .u32 0, .string ⟨#[]⟩, .string ⟨#[]⟩, .int .u8 0, .bool false, .slice none 0 0, .int .u32 0, .int .u32 0] ∧ Below w.heap.size w wr) (fun s _ => n - (RowKit.intOf s).toNat)
      case atStart => exact ⟨0, 0, none, by omega, rfl, Own.none_ _ _ _ _, hC, hbC, hzC, hBC⟩
      case round =>
        clear hC hbC hzC hBC
        obtain ⟨k, c2, A2, hk, rfl, ho, hC, hX, hZ, hBr⟩ := hrel
        have hzz := hBr.size
        have hCl := hC.lt
        by_cases hlt : k < n
        · have hkn : (k : Int) < (n : Int) := by omega
          obtain ⟨b, off, rfl, hbB, hkl, hc⟩ := RdB.at_k (hr0 wr hBr) hlt
          have HP : Hid (newParts ⟨f, g, []⟩ (L.take (k + 1)) = newParts ⟨f, g, []⟩ (L.take k) ++ [⟨nl[k].toNat, ⟨f, g, dig1 nl[k].toNat⟩, 0⟩]) := Lib.hid (by
            have hk2 : k < L.length := by rw [HLL.out]; simpa using hkl
            rw [List.take_succ_eq_append_getElem hk2, newParts_snoc]
            have : L[k] = nl[k].toNat := by simp only [HLL.out, List.getElem_map]
            rw [this])
          have hy255 : nl[k].toNat < 256 := nl[k].toNat_lt
          generalize nl[k].toNat = m at *
          obtain ⟨d, hd⟩ : ∃ d, d = m % 10 := ⟨_, rfl⟩
          have henc := enc_dig d m hd
          have d1 : (m : Int).tmod 10 = (d : Int) := by rw [Int.tmod_eq_emod_of_nonneg (by omega)]; omega
          have d1' : (m : Int) % 10 = (d : Int) := by omega
          have w1' : IntKind.u8.wrap (d : Int) = (d : Int) := IntWalk.u8_in _ ⟨by omega, by omega⟩
          have w2' : IntKind.u8.wrap (48 + (d : Int)) = ((48 + d : Nat) : Int) := by rw [IntWalk.u8_in _ ⟨by omega, by omega⟩]; omega
          have w3' : IntKind.i32.wrap (((48 + d : Nat) : Int)) = ((48 + d : Nat) : Int) := IntWalk.i32_in _ ⟨by omega, by omega⟩
          have HD := Lib.hid hd
          generalize (48 + d : Nat) = dd at *
          clear hd
          have x0 := hX.cell (j := 0) rfl
          have x1 := hX.cell (j := 1) rfl
          have x2 := hX.cell (j := 2) rfl
          have hY := Box.new wr #[.int .u32 (f : Int), .string (str g), .string (str [])] 24
          have hB1 := hBr.alloc hzz (.cells #[.int .u32 (f : Int), .string (str g), .string (str [])] 24)
          have hC1 := hC.alloc (.cells #[.int .u32 (f : Int), .string (str g), .string (str [])] 24)
          have hX1 := hX.alloc (.cells #[.int .u32 (f : Int), .string (str g), .string (str [])] 24)
          have hZ1 := hZ.alloc (.cells #[.int .u32 (f : Int), .string (str g), .string (str [])] 24)
          have ho1 := ho.alloc (.cells #[.int .u32 (f : Int), .string (str g), .string (str [])] 24)
          have hnb : ∀ g, blk A2 = some g → g ≠ wr.heap.size := fun g hg e => by have := (ho.blk_lt hg).2; omega
          go_upto_region 8 with fail
          generalize hwz : wr.heap.size = yb at *
          generalize (wr.alloc (.cells #[.int .u32 (f : Int), .string (str g), .string (str [])] 24)) = wz at *
          go_wp2_with (first | (with_reducible refine hold_append ?_) | (with_reducible refine hold_make ?_) | (with_reducible refine hold_copy ?_) | (with_reducible refine hold_store ?_))
          refine unhold (wp_box (v := .string (str (dig1 m))) (vs := [.string (str (dig1 m))]) rfl rfl (by rw [← henc]; rfl) rfl hY rfl (by kernel_rfl) (by simp) (by simp; rfl) #[.int .u32 (f : Int), .string (str g), .string (str (dig1 m))] (by simp) ?_)
          intro w2 hY2 hg2 hs2
          have hB2 := below_box hB1 hg2 hzz
          have hC2 := hC1.grown hg2 (by intro e; injection e with e; omega)
          have hX2 := hX1.grown hg2 (by intro e; injection e with e; have := hX.lt; omega)
          have hZ2 := hZ1.grown hg2 (by intro e; injection e with e; have := hZ.lt; omega)
          have ho2 := own_stays ho1 hg2 (fun g' hg' e => by injection e with e; exact hnb g' hg' e.symm)
          clear x0 x1 x2 hY hB1 hC1 hX1 hZ1 ho1
          have y0 := hY2.cell (j := 0) rfl
          have y1 := hY2.cell (j := 1) rfl
          have y2 := hY2.cell (j := 2) rfl
          have z5 := hC2.cell (j := 5) rfl
          go_wp2_with (first | (with_reducible refine hold_append ?_) | (with_reducible refine hold_make ?_) | (with_reducible refine hold_copy ?_) | (with_reducible refine hold_store ?_))
          refine unhold (wp_rec ptShape slP Try.underlying26 rfl rfl rfl rfl hs2.symm (⟨m, ⟨f, g, dig1 m⟩, 0⟩ : Pt) rfl ho2 (by omega) (by omega) hC2.lt ?_)
          intro A4 c4 w4 ho4 hg4 _ _
          rw [← HP.out] at ho4
          have hnb2 : ∀ g', blk A2 = some g' → bc < g' := fun g' hg' => by have := (ho2.blk_lt hg').1; omega
          have hB4 := hB2.grown hg4 hB2.size (fun g' hg' => by have := hnb2 g' hg'; omega)
          have hC4 := hC2.grown hg4 (by intro e; have := hnb2 _ e.symm; omega)
          have hX4 := hX2.grown hg4 (by intro e; have := hnb2 _ e.symm; omega)
          have hZ4 := hZ2.grown hg4 (by intro e; have := hnb2 _ e.symm; omega)
          clear hC2 hX2 hZ2 ho2 y0 y1 y2 z5 hY2
          go_wp2_with (first | (with_reducible refine hold_append ?_) | (with_reducible refine hold_make ?_) | (with_reducible refine hold_copy ?_) | (with_reducible refine hold_store ?_))
          refine unhold (wp_box (v := .slice A4 (k + 1) c4) (vs := [.slice A4 (k + 1) c4]) rfl rfl rfl rfl hC4 rfl (by kernel_rfl) (by simp) (by simp; rfl) #[.int .u32 (f : Int), .string (str g), .string (str []), .int .u8 1, .bool false, .slice A4 (k + 1) c4, .int .u32 0, .int .u32 0] (by simp) ?_)
          intro w5 hC5 hg5 _
          have hB5 := below_box hB4 hg5 (by omega)
          have hX5 := hX4.grown hg5 (by intro e; injection e with e; omega)
          have hZ5 := hZ4.grown hg5 (by intro e; injection e with e; omega)
          have ho5 := own_box ho4 hg5 (by omega)
          go_wp2_with (first | (with_reducible refine hold_append ?_) | (with_reducible refine hold_make ?_) | (with_reducible refine hold_copy ?_))
          exact ⟨⟨k + 1, c4, A4, by omega, by go_num, ho5, hC5, hX5, hZ5, hB5⟩, by simp [RowKit.intOf]; omega⟩
        · have hkn : n = k := by omega
          subst hkn
          have hLt : L.take n = L := List.take_of_length_le (by rw [HLL.out, List.length_map, HL.out]; omega)
          rw [hLt] at ho
          have hgc1 := hgc A2 c2 wr wr.heap.size ho.rd (Nat.le_refl _)
          clear hgc hLt hr0 HLL HL
          generalize (newGl ⟨f, g, []⟩ L).err = er at *
          generalize (newGl ⟨f, g, []⟩ L).ok = ok at *
          simp only [glV, newGl] at hgc1
          have z0 := hC.cell (j := 0) rfl
          have z1 := hC.cell (j := 1) rfl
          have z2 := hC.cell (j := 2) rfl
          have z3 := hC.cell (j := 3) rfl
          have z4 := hC.cell (j := 4) rfl
          have z5 := hC.cell (j := 5) rfl
          have z6 := hC.cell (j := 6) rfl
          have z7 := hC.cell (j := 7) rfl
          go_wp2_with (first | (with_reducible refine hold_append ?_) | (with_reducible refine hold_make ?_) | (with_reducible refine hold_copy ?_) | (with_reducible refine hold_store ?_))
          refine hgc1.mono ?_
          rintro e w3 ⟨rfl, hB3⟩
          have hBr3 := hBr.trans (hB3.mono hzz)
          have hC3 := hC.below hB3
          have hZ3 := hZ.below hB3
          have ho3 := own_below ho hB3
          clear z0 z1 z2 z3 z4 z5 z6 z7 hC hZ hX hgc1 ho
          cases ok
          · obtain rfl : er = 270 := by have := HG.out; simpa using this
            have HRES : Hid (RS = (gl0, 2)) := Lib.hid (by rw [HRS2.out]; simp)
            go_wp2_with (first | (with_reducible refine hold_append ?_) | (with_reducible refine hold_make ?_) | (with_reducible refine hold_copy ?_) | (with_reducible refine hold_store ?_))
            refine unhold (wp_box (v := .agg #[.int .u32 0, .string ⟨#[]⟩, .string ⟨#[]⟩, .int .u8 0, .bool false, .slice none 0 0, .int .u32 0, .int .u32 0]) (vs := [.int .u32 0, .string ⟨#[]⟩, .string ⟨#[]⟩, .int .u8 0, .bool false, .slice none 0 0, .int .u32 0, .int .u32 0]) rfl rfl rfl rfl hZ3 rfl (by kernel_rfl) (by simp) gl_one #[.int .u32 0, .string ⟨#[]⟩, .string ⟨#[]⟩, .int .u8 0, .bool false, .slice none 0 0, .int .u32 0, .int .u32 0] (by simp) ?_)
            intro w9 hb9 hg9 _
            have hB9 := below_box hBr3 hg9 (by omega)
            go_wp2_with (first | (with_reducible refine hold_append ?_) | (with_reducible refine hold_make ?_) | (with_reducible refine hold_copy ?_))
            refine ret_box_tmp rfl hb9 rfl rfl Try.underlying28 rfl (by kernel_rfl) rfl ?_
            rw [HRES.out]
            exact ⟨none, 0, 0, rfl, Own.none_ _ _ _ _, by omega, hB9⟩
          · obtain rfl : er = 0 := by have := HG.out; simpa using this
            have HRES : Hid (RS = (newGl ⟨f, g, []⟩ L, 0)) := Lib.hid (by rw [HRS2.out]; simp)
            have z0 := hC3.cell (j := 0) rfl
            have z1 := hC3.cell (j := 1) rfl
            have z2 := hC3.cell (j := 2) rfl
            have z3 := hC3.cell (j := 3) rfl
            have z4 := hC3.cell (j := 4) rfl
            have z5 := hC3.cell (j := 5) rfl
            have z6 := hC3.cell (j := 6) rfl
            have z7 := hC3.cell (j := 7) rfl
            go_wp2_with (first | (with_reducible refine hold_append ?_) | (with_reducible refine hold_make ?_) | (with_reducible refine hold_copy ?_) | (with_reducible refine hold_store ?_))
            refine unhold (wp_box (v := .agg #[.int .u32 (f : Int), .string (str g), .string (str []), .int .u8 1, .bool false, .slice A2 n c2, .int .u32 0, .int .u32 0]) (vs := [.int .u32 (f : Int), .string (str g), .string (str []), .int .u8 1, .bool false, .slice A2 n c2, .int .u32 0, .int .u32 0]) rfl rfl rfl rfl hZ3 rfl (by kernel_rfl) (by simp) gl_one #[.int .u32 (f : Int), .string (str g), .string (str []), .int .u8 1, .bool false, .slice A2 n c2, .int .u32 0, .int .u32 0] (by simp) ?_)
            intro w8 hb8 hg8 _
            have hB08 := below_box hBr3 hg8 (by omega)
            have ho8 := own_box ho3 hg8 (by omega)
            go_wp2_with (first | (with_reducible refine hold_append ?_) | (with_reducible refine hold_make ?_) | (with_reducible refine hold_copy ?_))
            refine ret_box_tmp rfl hb8 rfl rfl Try.underlying28 rfl (by kernel_rfl) rfl ?_
            rw [HRES.out]
            exact ⟨A2, n, c2, rfl, Own.base_le ho8 (by omega), by omega, hB08⟩
  · have hemp : (str h).toList.isEmpty = false := by rw [str_toList]; simpa using hh
    have HRES : Hid (RS = (gl0, 270)) := Lib.hid (by rw [HRS.out]; simp [hh])
    clear hgc
    go_enter Try.func15, Try.ntmps15
    go_upto_region 1 with fail
    rw [← hw0]
    clear hw0
    go_wp2_with (first | (with_reducible refine hold_append ?_) | (with_reducible refine hold_make ?_) | (with_reducible refine hold_copy ?_) | (with_reducible refine hold_store ?_))
    refine hck0.mono ?_
    rintro e w1 ⟨rfl, hB1⟩
    have hb1 := hb0.below hB1
    have hz1 := hz0.below hB1
    have hB01 := hB0.trans (hB1.mono hB0.size)
    clear hck0 hb0 hz0 hB0 hB1 x0 x1 x2
    have x0 := hb1.cell (j := 0) rfl
    have x1 := hb1.cell (j := 1) rfl
    have x2 := hb1.cell (j := 2) rfl
    cases ok
    · obtain rfl : er = 40 := by have := HE.out; simpa using this
      clear HRS HE hok
      go_wp2_with (first | (with_reducible refine hold_append ?_) | (with_reducible refine hold_make ?_) | (with_reducible refine hold_copy ?_) | (with_reducible refine hold_store ?_))
      refine unhold (wp_box (v := .agg #[.int .u32 0, .string ⟨#[]⟩, .string ⟨#[]⟩, .int .u8 0, .bool false, .slice none 0 0, .int .u32 0, .int .u32 0]) (vs := [.int .u32 0, .string ⟨#[]⟩, .string ⟨#[]⟩, .int .u8 0, .bool false, .slice none 0 0, .int .u32 0, .int .u32 0]) rfl rfl rfl rfl hz1 rfl (by kernel_rfl) (by simp) gl_one #[.int .u32 0, .string ⟨#[]⟩, .string ⟨#[]⟩, .int .u8 0, .bool false, .slice none 0 0, .int .u32 0, .int .u32 0] (by simp) ?_)
      intro w9 hb9 hg9 _
      have hB9 := below_box hB01 hg9 (by omega)
      go_wp2_with (first | (with_reducible refine hold_append ?_) | (with_reducible refine hold_make ?_) | (with_reducible refine hold_copy ?_))
      refine ret_box_tmp rfl hb9 rfl rfl Try.underlying28 rfl (by kernel_rfl) rfl ?_
      rw [HRES.out]
      exact ⟨none, 0, 0, rfl, Own.none_ _ _ _ _, by omega, hB9⟩
    · obtain rfl : er = 0 := by have := HE.out; simpa using this
      clear HRS HE hok
      go_wp2_with (first | (with_reducible refine hold_append ?_) | (with_reducible refine hold_make ?_) | (with_reducible refine hold_copy ?_) | (with_reducible refine hold_store ?_))
      refine unhold (wp_box (v := .agg #[.int .u32 0, .string ⟨#[]⟩, .string ⟨#[]⟩, .int .u8 0, .bool false, .slice none 0 0, .int .u32 0, .int .u32 0]) (vs := [.int .u32 0, .string ⟨#[]⟩, .string ⟨#[]⟩, .int .u8 0, .bool false, .slice none 0 0, .int .u32 0, .int .u32 0]) rfl rfl rfl rfl hz1 rfl (by kernel_rfl) (by simp) gl_one #[.int .u32 0, .string ⟨#[]⟩, .string ⟨#[]⟩, .int .u8 0, .bool false, .slice none 0 0, .int .u32 0, .int .u32 0] (by simp) ?_)
      intro w9 hb9 hg9 _
      have hB9 := below_box hB01 hg9 (by omega)
      go_wp2_with (first | (with_reducible refine hold_append ?_) | (with_reducible refine hold_make ?_) | (with_reducible refine hold_copy ?_))
      refine ret_box_tmp rfl hb9 rfl rfl Try.underlying28 rfl (by kernel_rfl) rfl ?_
      rw [HRES.out]
      exact ⟨none, 0, 0, rfl, Own.none_ _ _ _ _, by omega, hB9⟩
end Go.PH
end

/- Texts laid together: GtHeadM, GtHead. -/
import Derived.Deep.CutBlock
import Derived.Deep.DeepCutAuto
import Derived.Test.YtcfhnnbgghbjfaaMg02
import Derived.Test.YtcfhnnbgghbjfaaMg15
import Derived.Test.YtcfhnnbgghbjfaaMg18
import Derived.Test.YtcfhnnbgghbjfaaMg24
section
/- The laws' head of transactions: its values, and what the calls answer at them. -/
set_option linter.all false
set_option linter.unusedSimpArgs false
set_option linter.unusedVariables false
namespace Go.PH
open Go.RowKit Go.Proofs

def hx : Xd := ⟨0, [103], []⟩
def hx1 : Xd := ⟨0, [103], [49]⟩
def hx3 : Xd := ⟨0, [103], [51]⟩
def hG (st : Nat) (com : Bool) (a b : Nat) : Gl := ⟨hx, st, com, [⟨1, hx1, a⟩, ⟨3, hx3, b⟩], 0, 0⟩
theorem hG_wf {st a b : Nat} {com : Bool} (h : st < 256) (ha : a < 256) (hb : b < 256) : (hG st com a b).wf := by
  have h1 : hx1.wf := ⟨by decide, by decide, by decide⟩
  have h3 : hx3.wf := ⟨by decide, by decide, by decide⟩
  refine ⟨⟨by show 0 < 4294967296; omega, by show 1 ≤ _; omega, by show 0 ≤ _; omega⟩, h, fun p hp => ?_, by show 0 < 4294967296; omega, by show 0 < 4294967296; omega⟩
  simp only [hG, List.mem_cons, List.not_mem_nil, or_false] at hp
  rcases hp with rfl | rfl
  · exact ⟨by show 1 < 256; omega, h1, ha⟩
  · exact ⟨by show 3 < 256; omega, h3, hb⟩
theorem hnew : Gl.new hx [1, 3] = (hG 1 false 0 0, 0) := by kernel_rfl
theorem hask : (hG 1 false 0 0).ask true = (hG 2 false 0 0, 0) := by kernel_rfl
theorem hmails : (hG 2 false 0 0).mails = [(1, 1, hx1), (3, 1, hx3)] := by kernel_rfl
theorem htake1 : (hG 2 false 0 0).take 1 ⟨17, hx1, 0, 0, []⟩ = (hG 2 false 1 0, 0) := by kernel_rfl
theorem htake3 : (hG 2 false 1 0).take 3 ⟨17, hx3, 7, 0, []⟩ = (hG 2 false 1 2, 0) := by kernel_rfl
theorem hdec : (hG 2 false 1 2).decide' = (hG 3 true 1 2, 0) := by kernel_rfl
theorem hready : (hG 2 false 1 2).ready = true := by kernel_rfl
theorem hmails2 : (hG 3 true 1 2).mails = [(1, 2, hx1)] := by kernel_rfl
end Go.PH
end
section
/- The laws' head of transactions. -/
set_option linter.all false
set_option linter.unusedSimpArgs false
set_option linter.unusedVariables false
namespace Go.PH
open Go.RowKit Go.Proofs

def TurnH (w : World) (st : Nat) (com : Bool) (a b : Nat) (e : Ending) (w' : World) : Prop := ∃ A2 c2, e = .returned (.tuple #[.agg #[.int .u32 0, .string (str [103]), .string (str []), .int .u8 (st : Int), .bool com, .slice A2 2 c2, .int .u32 0, .int .u32 0], .int .i64 0]) ∧ OwnP w' w.heap.size A2 2 c2 (hG st com a b).parts ∧ Below w.heap.size w w'
theorem TurnH.of {w : World} {st a b : Nat} {com : Bool} {e : Ending} {w' : World} (h : TurnR w (hG st com a b, 0) e w') : TurnH w st com a b e w' := by
  obtain ⟨A2, n2, c2, rfl, ho, _, hB⟩ := h
  obtain rfl : n2 = 2 := by have := own_len ptShape ho; simp [hG] at this; omega
  exact ⟨A2, c2, rfl, ho, hB⟩
def MailH (w : World) (L : List (Nat × Nat × Xd)) (n : Nat) (e : Ending) (w' : World) : Prop := ∃ mb c2, e = .returned (.slice (some ⟨mb, 0, none⟩) n c2) ∧ mb < w'.heap.size ∧ (∀ k (hk : k < L.length), ∀ j u, (mlC L[k])[j]? = some u → w'.cell? ⟨mb, k * 8 + j, none⟩ = some u) ∧ Below w.heap.size w w'
theorem MailH.of {w : World} {L : List (Nat × Nat × Xd)} {n : Nat} {e : Ending} {w' : World} (hn : n = L.length) (h0 : 0 < n) (h : MailR w L e w') : MailH w L n e w' := by
  obtain ⟨A2, m2, c2, rfl, ho, hB⟩ := h
  obtain rfl : m2 = n := by have := own_len mlShape ho; omega
  obtain ⟨g, rfl, _, hg⟩ := own_some ho h0
  refine ⟨g, c2, rfl, hg, fun k hk j u hu => ?_, hB⟩
  obtain ⟨b, off, e, _, _, hc⟩ := rec_at mlShape ho.rd (show k < m2 by omega)
  injection e with e; injection e with e1 e2; subst e1 e2
  have := hc j u hu
  simpa using this
theorem hnew_any (A : Option Addr) (c : Nat) (W : World) (hr : RdB W W.heap.size A 2 c [1, 3]) : Calls Try.prog 15 #[.agg #[.int .u32 0, .string (str [103]), .string (str [])], .slice A 2 c] W (TurnH W 1 false 0 0) :=
  (new_any hx A 2 c [1, 3] W.heap.size W ⟨by decide, by decide, by decide⟩ hr (Nat.le_refl _) (by omega)).mono fun e w' h => TurnH.of (by
    have : ([1, 3] : List UInt8).map UInt8.toNat = [1, 3] := rfl
    rw [this, hnew] at h; exact h)
theorem hask_any (A : Option Addr) (c : Nat) (W : World) (hr : RdP W W.heap.size A 2 c (hG 1 false 0 0).parts) : Calls Try.prog 30 #[.agg #[.int .u32 0, .string (str [103]), .string (str []), .int .u8 1, .bool false, .slice A 2 c, .int .u32 0, .int .u32 0], .bool true] W (TurnH W 2 false 0 0) :=
  (ask_any (hG 1 false 0 0) true A 2 c W.heap.size W (hG_wf (by omega) (by omega) (by omega)) hr (Nat.le_refl _) (by omega)).mono fun e w' h => TurnH.of (by rw [hask] at h; exact h)
theorem hlet_any (A : Option Addr) (c : Nat) (W : World) (hr : RdP W W.heap.size A 2 c (hG 2 false 0 0).parts) : Calls Try.prog 26 #[.agg #[.int .u32 0, .string (str [103]), .string (str []), .int .u8 2, .bool false, .slice A 2 c, .int .u32 0, .int .u32 0]] W (MailH W [(1, 1, hx1), (3, 1, hx3)] 2) :=
  (letters_any (hG 2 false 0 0) A 2 c W.heap.size W (hG_wf (by omega) (by omega) (by omega)) hr (Nat.le_refl _) (by omega)).mono fun e w' h => MailH.of rfl (by omega) (by rw [hmails] at h; exact h)
theorem htk1_any (A : Option Addr) (c : Nat) (W : World) (hr : RdP W W.heap.size A 2 c (hG 2 false 0 0).parts) : Calls Try.prog 12 #[.agg #[.int .u32 0, .string (str [103]), .string (str []), .int .u8 2, .bool false, .slice A 2 c, .int .u32 0, .int .u32 0], .int .u8 1, .agg #[.int .u8 17, .int .u32 0, .string (str [103]), .string (str [49]), .int .u8 0, .int .u16 0, .slice none 0 0]] W (TurnH W 2 false 1 0) :=
  (take_any (hG 2 false 0 0) 1 ⟨17, hx1, 0, 0, []⟩ A 2 c none 0 0 W.heap.size W (hG_wf (by omega) (by omega) (by omega)) ⟨by decide, ⟨by decide, by decide, by decide⟩, by decide, by decide, by simp⟩ hr (Rd.nil _ _ _ _ (by simp [maxLen]) _) (Nat.le_refl _) (by omega) (by omega)).mono fun e w' h => TurnH.of (by rw [htake1] at h; exact h)
theorem htk3_any (A : Option Addr) (c : Nat) (W : World) (hr : RdP W W.heap.size A 2 c (hG 2 false 1 0).parts) : Calls Try.prog 12 #[.agg #[.int .u32 0, .string (str [103]), .string (str []), .int .u8 2, .bool false, .slice A 2 c, .int .u32 0, .int .u32 0], .int .u8 3, .agg #[.int .u8 17, .int .u32 0, .string (str [103]), .string (str [51]), .int .u8 7, .int .u16 0, .slice none 0 0]] W (TurnH W 2 false 1 2) :=
  (take_any (hG 2 false 1 0) 3 ⟨17, hx3, 7, 0, []⟩ A 2 c none 0 0 W.heap.size W (hG_wf (by omega) (by omega) (by omega)) ⟨by decide, ⟨by decide, by decide, by decide⟩, by decide, by decide, by simp⟩ hr (Rd.nil _ _ _ _ (by simp [maxLen]) _) (Nat.le_refl _) (by omega) (by omega)).mono fun e w' h => TurnH.of (by rw [htake3] at h; exact h)
theorem hdec_any (A : Option Addr) (c : Nat) (W : World) (hr : RdP W W.heap.size A 2 c (hG 2 false 1 2).parts) : Calls Try.prog 33 #[.agg #[.int .u32 0, .string (str [103]), .string (str []), .int .u8 2, .bool false, .slice A 2 c, .int .u32 0, .int .u32 0]] W (TurnH W 3 true 1 2) :=
  (decide_any (hG 2 false 1 2) A 2 c W.heap.size W (hG_wf (by omega) (by omega) (by omega)) hr (Nat.le_refl _) (by omega)).mono fun e w' h => TurnH.of (by rw [hdec] at h; exact h)
theorem hready_any (A : Option Addr) (c : Nat) (W : World) (hr : RdP W W.heap.size A 2 c (hG 2 false 1 2).parts) : Calls Try.prog 23 #[.agg #[.int .u32 0, .string (str [103]), .string (str []), .int .u8 2, .bool false, .slice A 2 c, .int .u32 0, .int .u32 0]] W fun e w' => e = .returned (.bool true) ∧ Below W.heap.size W w' :=
  (ready_any (hG 2 false 1 2) A 2 c W.heap.size W (hG_wf (by omega) (by omega) (by omega)) hr (Nat.le_refl _) (by omega)).mono fun e w' h => by rw [hready] at h; exact h
theorem hlet2_any (A : Option Addr) (c : Nat) (W : World) (hr : RdP W W.heap.size A 2 c (hG 3 true 1 2).parts) : Calls Try.prog 26 #[.agg #[.int .u32 0, .string (str [103]), .string (str []), .int .u8 3, .bool true, .slice A 2 c, .int .u32 0, .int .u32 0]] W (MailH W [(1, 2, hx1)] 1) :=
  (letters_any (hG 3 true 1 2) A 2 c W.heap.size W (hG_wf (by omega) (by omega) (by omega)) hr (Nat.le_refl _) (by omega)).mono fun e w' h => MailH.of rfl (by omega) (by rw [hmails2] at h; exact h)
set_option maxRecDepth 20000 in
set_option maxHeartbeats 4000000 in
theorem ghead_any (w : World) : Calls Try.prog 10 #[] w fun e w' => e = .returned (.bool true) ∧ Below w.heap.size w w' := by
  have hB1 := (Below.refl w.heap.size w).alloc (Nat.le_refl _) (.cells #[.int .u32 0, .string (str [103]), .string (str [])] 24)
  go_enter Try.func10, Try.ntmps10
  go_upto_region 2 with fail
  have hX := Box.new w #[.int .u32 0, .string (str [103]), .string (str [])] 24
  have hsz : (w.alloc (.cells #[.int .u32 0, .string (str [103]), .string (str [])] 24)).heap.size = w.heap.size + 1 := by simp
  obtain ⟨wx, hwx⟩ : ∃ wx, wx = (w.alloc (.cells #[.int .u32 0, .string (str [103]), .string (str [])] 24)) := ⟨_, rfl⟩
  have hwx' : wx = (w.alloc (.cells #[.int .u32 0, .string ⟨#[103]⟩, .string ⟨#[]⟩] 24)) := hwx
  rw [← hwx] at hB1 hX hsz
  rw [← hwx']
  clear hwx hwx'
  have x0 := hX.cell (j := 0) rfl
  have x1 := hX.cell (j := 1) rfl
  have x2 := hX.cell (j := 2) rfl
  have hlit := own_lit (w := wx) wx.heap.size #[.int .u8 1, .int .u8 3] 5 2 (Nat.le_refl _) (by simp [maxLen]) (size := 1) rfl (by omega)
  have hB2 := hB1.alloc hB1.size (.cells #[.int .u8 1, .int .u8 3] 5)
  rw [hsz] at hlit
  go_wp2_with (first | (with_reducible refine hold_append ?_) | (with_reducible refine hold_make ?_) | (with_reducible refine hold_copy ?_))
  refine (hnew_any _ _ _ hlit.rd).mono ?_
  rintro e w1 ⟨A1, c1, rfl, ho1, hB3⟩
  have hB4 := hB2.trans (hB3.mono hB2.size)
  clear hB1 hB2 hB3 hX hsz x0 x1 x2 hlit
  have hb1 := Box.new w1 #[.int .u32 0, .string (str [103]), .string (str []), .int .u8 1, .bool false, .slice A1 2 c1, .int .u32 0, .int .u32 0] 28
  have hB5 := hB4.alloc hB4.size (.cells #[.int .u32 0, .string (str [103]), .string (str []), .int .u8 1, .bool false, .slice A1 2 c1, .int .u32 0, .int .u32 0] 28)
  have hr1 := Rd.more (ho1.rd.below ((Below.refl w1.heap.size w1).alloc (Nat.le_refl _) (.cells #[.int .u32 0, .string (str [103]), .string (str []), .int .u8 1, .bool false, .slice A1 2 c1, .int .u32 0, .int .u32 0] 28))) (show w1.heap.size ≤ (w1.alloc (.cells #[.int .u32 0, .string (str [103]), .string (str []), .int .u8 1, .bool false, .slice A1 2 c1, .int .u32 0, .int .u32 0] 28)).heap.size by simp)
  go_upto_region 3 with fail
  generalize (w1.alloc (.cells #[.int .u32 0, .string (str [103]), .string (str []), .int .u8 1, .bool false, .slice A1 2 c1, .int .u32 0, .int .u32 0] 28)) = w2 at *
  have x0 := hb1.cell (j := 0) rfl
  have x1 := hb1.cell (j := 1) rfl
  have x2 := hb1.cell (j := 2) rfl
  have x3 := hb1.cell (j := 3) rfl
  have x4 := hb1.cell (j := 4) rfl
  have x5 := hb1.cell (j := 5) rfl
  have x6 := hb1.cell (j := 6) rfl
  have x7 := hb1.cell (j := 7) rfl
  go_wp2_with (first | (with_reducible refine hold_append ?_) | (with_reducible refine hold_make ?_) | (with_reducible refine hold_copy ?_))
  refine (hask_any _ _ _ hr1).mono ?_
  rintro e w3 ⟨A2, c2, rfl, ho2, hB6⟩
  have hB7 := hB5.trans (hB6.mono hB5.size)
  clear hB4 hB5 hB6 hb1 hr1 ho1 x0 x1 x2 x3 x4 x5 x6 x7
  have hb2 := Box.new w3 #[.int .u32 0, .string (str [103]), .string (str []), .int .u8 2, .bool false, .slice A2 2 c2, .int .u32 0, .int .u32 0] 28
  have hB8 := hB7.alloc hB7.size (.cells #[.int .u32 0, .string (str [103]), .string (str []), .int .u8 2, .bool false, .slice A2 2 c2, .int .u32 0, .int .u32 0] 28)
  have hr2 : RdP (w3.alloc (.cells #[.int .u32 0, .string (str [103]), .string (str []), .int .u8 2, .bool false, .slice A2 2 c2, .int .u32 0, .int .u32 0] 28)) (w3.alloc (.cells #[.int .u32 0, .string (str [103]), .string (str []), .int .u8 2, .bool false, .slice A2 2 c2, .int .u32 0, .int .u32 0] 28)).heap.size A2 2 c2 (hG 2 false 0 0).parts := Rd.more (ho2.rd.below ((Below.refl w3.heap.size w3).alloc (Nat.le_refl _) (.cells #[.int .u32 0, .string (str [103]), .string (str []), .int .u8 2, .bool false, .slice A2 2 c2, .int .u32 0, .int .u32 0] 28))) (by simp)
  go_upto_region 4 with fail
  generalize hg2 : w3.heap.size = g2 at *
  generalize (w3.alloc (.cells #[.int .u32 0, .string (str [103]), .string (str []), .int .u8 2, .bool false, .slice A2 2 c2, .int .u32 0, .int .u32 0] 28)) = w4 at *
  have x0 := hb2.cell (j := 0) rfl
  have x1 := hb2.cell (j := 1) rfl
  have x2 := hb2.cell (j := 2) rfl
  have x3 := hb2.cell (j := 3) rfl
  have x4 := hb2.cell (j := 4) rfl
  have x5 := hb2.cell (j := 5) rfl
  have x6 := hb2.cell (j := 6) rfl
  have x7 := hb2.cell (j := 7) rfl
  go_wp2_with (first | (with_reducible refine hold_append ?_) | (with_reducible refine hold_make ?_) | (with_reducible refine hold_copy ?_))
  refine (hlet_any _ _ _ hr2).mono ?_
  rintro e w5 ⟨mb, mc, rfl, hmb, hcl, hB9⟩
  have hBa := hB8.trans (hB9.mono hB8.size)
  have hb2 := hb2.below hB9
  have hr2 := Rd.more (hr2.below hB9) hB9.size
  have hma : w5.cell? ⟨mb, 2, none⟩ = some (.int .u32 0) ∧ w5.cell? ⟨mb, 2 + 1, none⟩ = some (.string (str [103])) ∧ w5.cell? ⟨mb, 2 + 2, none⟩ = some (.string (str [49])) := ⟨hcl 0 (by decide) 2 _ rfl, hcl 0 (by decide) 3 _ rfl, hcl 0 (by decide) 4 _ rfl⟩
  have hmd : w5.cell? ⟨mb, 10, none⟩ = some (.int .u32 0) ∧ w5.cell? ⟨mb, 10 + 1, none⟩ = some (.string (str [103])) ∧ w5.cell? ⟨mb, 10 + 2, none⟩ = some (.string (str [51])) := ⟨hcl 1 (by decide) 2 _ rfl, hcl 1 (by decide) 3 _ rfl, hcl 1 (by decide) 4 _ rfl⟩
  have m8 : w5.cell? ⟨mb, 8, none⟩ = some (.int .u8 3) := hcl 1 (by decide) 0 _ rfl
  have m9 : w5.cell? ⟨mb, 9, none⟩ = some (.int .u8 1) := hcl 1 (by decide) 1 _ rfl
  have m12 : w5.cell? ⟨mb, 12, none⟩ = some (.string (str [51])) := hcl 1 (by decide) 4 _ rfl
  have hq : ((str [51]).toList == [51]) = true := by rw [str_toList]; decide
  have HMA := Lib.hid hma
  have HMD := Lib.hid hmd
  clear hcl hB7 hB8 hB9 ho2 x0 x1 x2 x3 x4 x5 x6 x7 hma hmd
  generalize w5 = wi at *
  go_upto_region 7 with fail
  clear hq m8 m9 m12
  go_cut [7, 8] from 63 to 73 (fun s7 s8 wx => ∃ (gb : Nat) (A3 : Option Addr) (c3 : Nat), s7 = .pointer (some ⟨gb, 0, none⟩) ∧ s8 = .int .i64 0 ∧ Box wx gb 28 #[.int .u32 0, .string (str [103]), .string (str []), .int .u8 2, .bool false, .slice A3 2 c3, .int .u32 0, .int .u32 0] ∧ RdP wx wx.heap.size A3 2 c3 (hG 2 false 1 0).parts ∧ Below wi.heap.size wi wx)
  case first =>
    refine rg_start (fun W : World => Below wi.heap.size wi W) (by kernel_rfl) ?_
    have hS : Below wi.heap.size wi wi.drew := below_drewN (Below.refl _ _) 1
    have hrd : RdP wi.drew wi.drew.heap.size A2 2 c2 (hG 2 false 0 0).parts := Rd.below hr2 (below_drewN (Below.refl _ _) 1)
    generalize wi.drew = wd at *
    refine rg_take 0 (v := ?_) rfl (by kernel_rfl) (by kernel_rfl) (by kernel_rfl) hS rfl ?_ ?_
    rotate_left
    · intro wS hSw
      have hbS := hb2.below hSw
      have x0 := hbS.cell (j := 0) rfl
      have x1 := hbS.cell (j := 1) rfl
      have x2 := hbS.cell (j := 2) rfl
      have x3 := hbS.cell (j := 3) rfl
      have x4 := hbS.cell (j := 4) rfl
      have x5 := hbS.cell (j := 5) rfl
      have x6 := hbS.cell (j := 6) rfl
      have x7 := hbS.cell (j := 7) rfl
      go_simp
      (with_reducible rfl)
    simp only [List.getElem_toArray, List.getElem_cons_zero, Act.put, List.setIfInBounds_toArray, List.set_cons_zero, List.set_cons_succ]
    refine rg_take 1 (v := ?_) rfl (by kernel_rfl) (by kernel_rfl) (by kernel_rfl) hS rfl ?_ ?_
    rotate_left
    · intro wS hSw; go_simp; (with_reducible rfl)
    simp only [List.getElem_toArray, List.getElem_cons_succ, List.getElem_cons_zero, Act.put, List.setIfInBounds_toArray, List.set_cons_zero, List.set_cons_succ]
    refine rg_take 2 (v := ?_) rfl (by kernel_rfl) (by kernel_rfl) (by kernel_rfl) hS rfl ?_ ?_
    rotate_left
    · intro wS hSw; go_simp; (with_reducible rfl)
    simp only [List.getElem_toArray, List.getElem_cons_succ, List.getElem_cons_zero, Act.put, List.setIfInBounds_toArray, List.set_cons_zero, List.set_cons_succ]
    refine rg_take 3 (v := ?_) rfl (by kernel_rfl) (by kernel_rfl) (by kernel_rfl) hS rfl ?_ ?_
    rotate_left
    · intro wS hSw; go_simp; (with_reducible rfl)
    simp only [List.getElem_toArray, List.getElem_cons_succ, List.getElem_cons_zero, Act.put, List.setIfInBounds_toArray, List.set_cons_zero, List.set_cons_succ]
    refine rg_take 4 (v := ?_) rfl (by kernel_rfl) (by kernel_rfl) (by kernel_rfl) hS rfl ?_ ?_
    rotate_left
    · intro wS hSw; go_simp; (with_reducible rfl)
    simp only [List.getElem_toArray, List.getElem_cons_succ, List.getElem_cons_zero, Act.put, List.setIfInBounds_toArray, List.set_cons_zero, List.set_cons_succ]
    refine rg_take 5 (v := ?_) rfl (by kernel_rfl) (by kernel_rfl) (by kernel_rfl) hS rfl ?_ ?_
    rotate_left
    · intro wS hSw
      have k0 := (hSw.cell (p := ⟨mb, 2, none⟩) hmb).trans (HMA.out).1
      have k1 := (hSw.cell (p := ⟨mb, 2 + 1, none⟩) hmb).trans (HMA.out).2.1
      have k2 := (hSw.cell (p := ⟨mb, 2 + 2, none⟩) hmb).trans (HMA.out).2.2
      go_simp
      (with_reducible rfl)
    simp only [List.getElem_toArray, List.getElem_cons_succ, List.getElem_cons_zero, Act.put, List.setIfInBounds_toArray, List.set_cons_zero, List.set_cons_succ]
    refine rg_take 6 (v := ?_) rfl (by kernel_rfl) (by kernel_rfl) (by kernel_rfl) hS rfl ?_ ?_
    rotate_left
    · intro wS hSw; go_simp; (with_reducible rfl)
    simp only [List.getElem_toArray, List.getElem_cons_succ, List.getElem_cons_zero, Act.put, List.setIfInBounds_toArray, List.set_cons_zero, List.set_cons_succ]
    refine rg_two 7 11 rfl rfl (by kernel_rfl) rfl rfl (fun K hK => ?_) (fun K hK => ?_)
    · go_simp
      refine (htk1_any A2 c2 wd hrd).mono ?_
      rintro e w5 ⟨A3, c3, rfl, ho3, hB3⟩
      have hS3 := hS.trans (hB3.mono hS.size)
      refine hK _ _ hS3 ?_
      clear hK K
      refine rg_take 8 (v := ?_) rfl (by kernel_rfl) (by kernel_rfl) (by kernel_rfl) hS3 rfl ?_ ?_
      rotate_left
      · intro wS hSw; go_simp; (with_reducible rfl)
      simp only [List.getElem_toArray, List.getElem_cons_succ, List.getElem_cons_zero, Act.put, List.setIfInBounds_toArray, List.set_cons_zero, List.set_cons_succ]
      refine rg_take 9 (v := ?_) rfl (by kernel_rfl) (by kernel_rfl) (by kernel_rfl) hS3 rfl ?_ ?_
      rotate_left
      · intro wS hSw; go_simp; (with_reducible rfl)
      simp only [List.getElem_toArray, List.getElem_cons_succ, List.getElem_cons_zero, Act.put, List.setIfInBounds_toArray, List.set_cons_zero, List.set_cons_succ]
      refine rg_take 10 (v := ?_) rfl (by kernel_rfl) (by kernel_rfl) (by kernel_rfl) hS3 rfl ?_ ?_
      rotate_left
      · intro wS hSw; go_simp; (with_reducible rfl)
      simp only [List.getElem_toArray, List.getElem_cons_succ, List.getElem_cons_zero, Act.put, List.setIfInBounds_toArray, List.set_cons_zero, List.set_cons_succ]
      have hz := Box.new w5 #[.int .u32 0, .string ⟨#[]⟩, .string ⟨#[]⟩, .int .u8 0, .bool false, .slice none 0 0, .int .u32 0, .int .u32 0] 28
      have hSz := hS3.alloc hS3.size (.cells #[.int .u32 0, .string ⟨#[]⟩, .string ⟨#[]⟩, .int .u8 0, .bool false, .slice none 0 0, .int .u32 0, .int .u32 0] 28)
      have hoz : OwnP (w5.alloc (.cells #[.int .u32 0, .string ⟨#[]⟩, .string ⟨#[]⟩, .int .u8 0, .bool false, .slice none 0 0, .int .u32 0, .int .u32 0] 28)) wd.heap.size A3 2 c3 (hG 2 false 1 0).parts := ho3.alloc (.cells #[.int .u32 0, .string ⟨#[]⟩, .string ⟨#[]⟩, .int .u8 0, .bool false, .slice none 0 0, .int .u32 0, .int .u32 0] 28)
      refine rg_one 11 rfl (by kernel_rfl) rfl (fun K hK => ?_)
      go_simp
      refine hK _ _ hSz ?_
      clear hK K
      refine rg_one 12 rfl (by kernel_rfl) rfl (fun K hK => ?_)
      refine op_box (v := .agg #[.int .u32 0, .string (str [103]), .string (str []), .int .u8 2, .bool false, .slice A3 2 c3, .int .u32 0, .int .u32 0]) (vs := [.int .u32 0, .string (str [103]), .string (str []), .int .u8 2, .bool false, .slice A3 2 c3, .int .u32 0, .int .u32 0]) rfl rfl rfl hz rfl (by kernel_rfl) (by simp) gl_one #[.int .u32 0, .string (str [103]), .string (str []), .int .u8 2, .bool false, .slice A3 2 c3, .int .u32 0, .int .u32 0] (by simp) ?_
      intro w6 hb6 hg6 _
      have hS6 := hSz.grown hg6 hSz.size (fun g' e => by injection e with e; have := hS3.size; omega)
      have hr6 : RdP w6 w6.heap.size A3 2 c3 (hG 2 false 1 0).parts := (own_stays hoz hg6 (fun g' hg' e => by injection e with e; have := (ho3.blk_lt hg').2; omega)).rd
      refine hK _ _ hS6 ?_
      clear hK K
      refine rg_one 13 rfl (by kernel_rfl) rfl (fun K hK => ?_)
      go_simp
      refine hK _ _ hS6 ?_
      clear hK K
      refine rg_end (by kernel_rfl) ?_
      go_wp2_with fail
      go_meet
      exact ⟨_, A3, c3, rfl, rfl, hb6, hr6, hS6⟩
    · have hz := Box.new wd #[.int .u32 0, .string ⟨#[]⟩, .string ⟨#[]⟩, .int .u8 0, .bool false, .slice none 0 0, .int .u32 0, .int .u32 0] 28
      have hSz := hS.alloc hS.size (.cells #[.int .u32 0, .string ⟨#[]⟩, .string ⟨#[]⟩, .int .u8 0, .bool false, .slice none 0 0, .int .u32 0, .int .u32 0] 28)
      have hrz := Rd.more (hrd.below ((Below.refl wd.heap.size wd).alloc (Nat.le_refl _) (.cells #[.int .u32 0, .string ⟨#[]⟩, .string ⟨#[]⟩, .int .u8 0, .bool false, .slice none 0 0, .int .u32 0, .int .u32 0] 28))) (show wd.heap.size ≤ (wd.alloc (.cells #[.int .u32 0, .string ⟨#[]⟩, .string ⟨#[]⟩, .int .u8 0, .bool false, .slice none 0 0, .int .u32 0, .int .u32 0] 28)).heap.size by simp)
      go_simp
      refine hK _ _ hSz ?_
      clear hK K
      generalize hwd : wd.heap.size = bz at *
      generalize (wd.alloc (.cells #[.int .u32 0, .string ⟨#[]⟩, .string ⟨#[]⟩, .int .u8 0, .bool false, .slice none 0 0, .int .u32 0, .int .u32 0] 28)) = wz at *
      refine rg_one 7 rfl (by kernel_rfl) rfl (fun K hK => ?_)
      go_simp
      refine (htk1_any A2 c2 wz hrz).mono ?_
      rintro e w5 ⟨A3, c3, rfl, ho3, hB3⟩
      have hS3 := hSz.trans (hB3.mono hSz.size)
      have hz3 := hz.below hB3
      have hbz := hz.lt
      refine hK _ _ hS3 ?_
      clear hK K
      refine rg_take 8 (v := ?_) rfl (by kernel_rfl) (by kernel_rfl) (by kernel_rfl) hS3 rfl ?_ ?_
      rotate_left
      · intro wS hSw; go_simp; (with_reducible rfl)
      simp only [List.getElem_toArray, List.getElem_cons_succ, List.getElem_cons_zero, Act.put, List.setIfInBounds_toArray, List.set_cons_zero, List.set_cons_succ]
      refine rg_take 9 (v := ?_) rfl (by kernel_rfl) (by kernel_rfl) (by kernel_rfl) hS3 rfl ?_ ?_
      rotate_left
      · intro wS hSw; go_simp; (with_reducible rfl)
      simp only [List.getElem_toArray, List.getElem_cons_succ, List.getElem_cons_zero, Act.put, List.setIfInBounds_toArray, List.set_cons_zero, List.set_cons_succ]
      refine rg_take 10 (v := ?_) rfl (by kernel_rfl) (by kernel_rfl) (by kernel_rfl) hS3 rfl ?_ ?_
      rotate_left
      · intro wS hSw; go_simp; (with_reducible rfl)
      simp only [List.getElem_toArray, List.getElem_cons_succ, List.getElem_cons_zero, Act.put, List.setIfInBounds_toArray, List.set_cons_zero, List.set_cons_succ]
      refine rg_one 12 rfl (by kernel_rfl) rfl (fun K hK => ?_)
      refine op_box (v := .agg #[.int .u32 0, .string (str [103]), .string (str []), .int .u8 2, .bool false, .slice A3 2 c3, .int .u32 0, .int .u32 0]) (vs := [.int .u32 0, .string (str [103]), .string (str []), .int .u8 2, .bool false, .slice A3 2 c3, .int .u32 0, .int .u32 0]) rfl rfl rfl hz3 rfl (by kernel_rfl) (by simp) gl_one #[.int .u32 0, .string (str [103]), .string (str []), .int .u8 2, .bool false, .slice A3 2 c3, .int .u32 0, .int .u32 0] (by simp) ?_
      intro w6 hb6 hg6 _
      have hS6 := hS3.grown hg6 hS3.size (fun g' e => by injection e with e; have := hS.size; omega)
      have hr6 : RdP w6 w6.heap.size A3 2 c3 (hG 2 false 1 0).parts := (own_box ho3 hg6 hbz).rd
      refine hK _ _ hS6 ?_
      clear hK K
      refine rg_one 13 rfl (by kernel_rfl) rfl (fun K hK => ?_)
      go_simp
      refine hK _ _ hS6 ?_
      clear hK K
      refine rg_end (by kernel_rfl) ?_
      go_wp2_with fail
      go_meet
      exact ⟨_, A3, c3, rfl, rfl, hb6, hr6, hS6⟩
  case rest =>
    obtain ⟨gb, A2, c2, rfl, rfl, hb3, hr3, hBi⟩ := hcut
    have hmd2 : wc.cell? ⟨mb, 10, none⟩ = some (.int .u32 0) ∧ wc.cell? ⟨mb, 10 + 1, none⟩ = some (.string (str [103])) ∧ wc.cell? ⟨mb, 10 + 2, none⟩ = some (.string (str [51])) := ⟨(hBi.cell (p := ⟨mb, 10, none⟩) hmb).trans HMD.out.1, (hBi.cell (p := ⟨mb, 10 + 1, none⟩) hmb).trans HMD.out.2.1, (hBi.cell (p := ⟨mb, 10 + 2, none⟩) hmb).trans HMD.out.2.2⟩
    have HMD2 := Lib.hid hmd2
    have hmb2 : mb < wc.heap.size := Nat.lt_of_lt_of_le hmb hBi.size
    have hBx := hBa.trans (hBi.mono hBa.size)
    clear hmd2 HMD HMA hmb hBi hBa hb2 hr2
    have hb2 := hb3
    have hr2 := hr3
    have hmb := hmb2
    clear hb3 hr3 hmb2
    generalize wc = wi at *
    go_upto_region 8 with fail
    go_cut [9, 10] from 74 to 84 (fun s7 s8 wx => ∃ (gb : Nat) (A3 : Option Addr) (c3 : Nat), s7 = .pointer (some ⟨gb, 0, none⟩) ∧ s8 = .int .i64 0 ∧ Box wx gb 28 #[.int .u32 0, .string (str [103]), .string (str []), .int .u8 2, .bool false, .slice A3 2 c3, .int .u32 0, .int .u32 0] ∧ RdP wx wx.heap.size A3 2 c3 (hG 2 false 1 2).parts ∧ Below wi.heap.size wi wx)
    case first =>
      refine rg_start (fun W : World => Below wi.heap.size wi W) (by kernel_rfl) ?_
      have hS : Below wi.heap.size wi wi.drew := below_drewN (Below.refl _ _) 1
      have hrd : RdP wi.drew wi.drew.heap.size A2 2 c2 (hG 2 false 1 0).parts := Rd.below hr2 (below_drewN (Below.refl _ _) 1)
      generalize wi.drew = wd at *
      refine rg_take 0 (v := ?_) rfl (by kernel_rfl) (by kernel_rfl) (by kernel_rfl) hS rfl ?_ ?_
      rotate_left
      · intro wS hSw
        have hbS := hb2.below hSw
        have x0 := hbS.cell (j := 0) rfl
        have x1 := hbS.cell (j := 1) rfl
        have x2 := hbS.cell (j := 2) rfl
        have x3 := hbS.cell (j := 3) rfl
        have x4 := hbS.cell (j := 4) rfl
        have x5 := hbS.cell (j := 5) rfl
        have x6 := hbS.cell (j := 6) rfl
        have x7 := hbS.cell (j := 7) rfl
        go_simp
        (with_reducible rfl)
      simp only [List.getElem_toArray, List.getElem_cons_zero, Act.put, List.setIfInBounds_toArray, List.set_cons_zero, List.set_cons_succ]
      refine rg_take 1 (v := ?_) rfl (by kernel_rfl) (by kernel_rfl) (by kernel_rfl) hS rfl ?_ ?_
      rotate_left
      · intro wS hSw; go_simp; (with_reducible rfl)
      simp only [List.getElem_toArray, List.getElem_cons_succ, List.getElem_cons_zero, Act.put, List.setIfInBounds_toArray, List.set_cons_zero, List.set_cons_succ]
      refine rg_take 2 (v := ?_) rfl (by kernel_rfl) (by kernel_rfl) (by kernel_rfl) hS rfl ?_ ?_
      rotate_left
      · intro wS hSw; go_simp; (with_reducible rfl)
      simp only [List.getElem_toArray, List.getElem_cons_succ, List.getElem_cons_zero, Act.put, List.setIfInBounds_toArray, List.set_cons_zero, List.set_cons_succ]
      refine rg_take 3 (v := ?_) rfl (by kernel_rfl) (by kernel_rfl) (by kernel_rfl) hS rfl ?_ ?_
      rotate_left
      · intro wS hSw; go_simp; (with_reducible rfl)
      simp only [List.getElem_toArray, List.getElem_cons_succ, List.getElem_cons_zero, Act.put, List.setIfInBounds_toArray, List.set_cons_zero, List.set_cons_succ]
      refine rg_take 4 (v := ?_) rfl (by kernel_rfl) (by kernel_rfl) (by kernel_rfl) hS rfl ?_ ?_
      rotate_left
      · intro wS hSw; go_simp; (with_reducible rfl)
      simp only [List.getElem_toArray, List.getElem_cons_succ, List.getElem_cons_zero, Act.put, List.setIfInBounds_toArray, List.set_cons_zero, List.set_cons_succ]
      refine rg_take 5 (v := ?_) rfl (by kernel_rfl) (by kernel_rfl) (by kernel_rfl) hS rfl ?_ ?_
      rotate_left
      · intro wS hSw
        have k0 := (hSw.cell (p := ⟨mb, 10, none⟩) hmb).trans (HMD2.out).1
        have k1 := (hSw.cell (p := ⟨mb, 10 + 1, none⟩) hmb).trans (HMD2.out).2.1
        have k2 := (hSw.cell (p := ⟨mb, 10 + 2, none⟩) hmb).trans (HMD2.out).2.2
        go_simp
        (with_reducible rfl)
      simp only [List.getElem_toArray, List.getElem_cons_succ, List.getElem_cons_zero, Act.put, List.setIfInBounds_toArray, List.set_cons_zero, List.set_cons_succ]
      refine rg_take 6 (v := ?_) rfl (by kernel_rfl) (by kernel_rfl) (by kernel_rfl) hS rfl ?_ ?_
      rotate_left
      · intro wS hSw; go_simp; (with_reducible rfl)
      simp only [List.getElem_toArray, List.getElem_cons_succ, List.getElem_cons_zero, Act.put, List.setIfInBounds_toArray, List.set_cons_zero, List.set_cons_succ]
      refine rg_two 7 11 rfl rfl (by kernel_rfl) rfl rfl (fun K hK => ?_) (fun K hK => ?_)
      · go_simp
        refine (htk3_any A2 c2 wd hrd).mono ?_
        rintro e w5 ⟨A3, c3, rfl, ho3, hB3⟩
        have hS3 := hS.trans (hB3.mono hS.size)
        refine hK _ _ hS3 ?_
        clear hK K
        refine rg_take 8 (v := ?_) rfl (by kernel_rfl) (by kernel_rfl) (by kernel_rfl) hS3 rfl ?_ ?_
        rotate_left
        · intro wS hSw; go_simp; (with_reducible rfl)
        simp only [List.getElem_toArray, List.getElem_cons_succ, List.getElem_cons_zero, Act.put, List.setIfInBounds_toArray, List.set_cons_zero, List.set_cons_succ]
        refine rg_take 9 (v := ?_) rfl (by kernel_rfl) (by kernel_rfl) (by kernel_rfl) hS3 rfl ?_ ?_
        rotate_left
        · intro wS hSw; go_simp; (with_reducible rfl)
        simp only [List.getElem_toArray, List.getElem_cons_succ, List.getElem_cons_zero, Act.put, List.setIfInBounds_toArray, List.set_cons_zero, List.set_cons_succ]
        refine rg_take 10 (v := ?_) rfl (by kernel_rfl) (by kernel_rfl) (by kernel_rfl) hS3 rfl ?_ ?_
        rotate_left
        · intro wS hSw; go_simp; (with_reducible rfl)
        simp only [List.getElem_toArray, List.getElem_cons_succ, List.getElem_cons_zero, Act.put, List.setIfInBounds_toArray, List.set_cons_zero, List.set_cons_succ]
        have hz := Box.new w5 #[.int .u32 0, .string ⟨#[]⟩, .string ⟨#[]⟩, .int .u8 0, .bool false, .slice none 0 0, .int .u32 0, .int .u32 0] 28
        have hSz := hS3.alloc hS3.size (.cells #[.int .u32 0, .string ⟨#[]⟩, .string ⟨#[]⟩, .int .u8 0, .bool false, .slice none 0 0, .int .u32 0, .int .u32 0] 28)
        have hoz : OwnP (w5.alloc (.cells #[.int .u32 0, .string ⟨#[]⟩, .string ⟨#[]⟩, .int .u8 0, .bool false, .slice none 0 0, .int .u32 0, .int .u32 0] 28)) wd.heap.size A3 2 c3 (hG 2 false 1 2).parts := ho3.alloc (.cells #[.int .u32 0, .string ⟨#[]⟩, .string ⟨#[]⟩, .int .u8 0, .bool false, .slice none 0 0, .int .u32 0, .int .u32 0] 28)
        refine rg_one 11 rfl (by kernel_rfl) rfl (fun K hK => ?_)
        go_simp
        refine hK _ _ hSz ?_
        clear hK K
        refine rg_one 12 rfl (by kernel_rfl) rfl (fun K hK => ?_)
        refine op_box (v := .agg #[.int .u32 0, .string (str [103]), .string (str []), .int .u8 2, .bool false, .slice A3 2 c3, .int .u32 0, .int .u32 0]) (vs := [.int .u32 0, .string (str [103]), .string (str []), .int .u8 2, .bool false, .slice A3 2 c3, .int .u32 0, .int .u32 0]) rfl rfl rfl hz rfl (by kernel_rfl) (by simp) gl_one #[.int .u32 0, .string (str [103]), .string (str []), .int .u8 2, .bool false, .slice A3 2 c3, .int .u32 0, .int .u32 0] (by simp) ?_
        intro w6 hb6 hg6 _
        have hS6 := hSz.grown hg6 hSz.size (fun g' e => by injection e with e; have := hS3.size; omega)
        have hr6 : RdP w6 w6.heap.size A3 2 c3 (hG 2 false 1 2).parts := (own_stays hoz hg6 (fun g' hg' e => by injection e with e; have := (ho3.blk_lt hg').2; omega)).rd
        refine hK _ _ hS6 ?_
        clear hK K
        refine rg_one 13 rfl (by kernel_rfl) rfl (fun K hK => ?_)
        go_simp
        refine hK _ _ hS6 ?_
        clear hK K
        refine rg_end (by kernel_rfl) ?_
        go_wp2_with fail
        go_meet
        exact ⟨_, A3, c3, rfl, rfl, hb6, hr6, hS6⟩
      · have hz := Box.new wd #[.int .u32 0, .string ⟨#[]⟩, .string ⟨#[]⟩, .int .u8 0, .bool false, .slice none 0 0, .int .u32 0, .int .u32 0] 28
        have hSz := hS.alloc hS.size (.cells #[.int .u32 0, .string ⟨#[]⟩, .string ⟨#[]⟩, .int .u8 0, .bool false, .slice none 0 0, .int .u32 0, .int .u32 0] 28)
        have hrz := Rd.more (hrd.below ((Below.refl wd.heap.size wd).alloc (Nat.le_refl _) (.cells #[.int .u32 0, .string ⟨#[]⟩, .string ⟨#[]⟩, .int .u8 0, .bool false, .slice none 0 0, .int .u32 0, .int .u32 0] 28))) (show wd.heap.size ≤ (wd.alloc (.cells #[.int .u32 0, .string ⟨#[]⟩, .string ⟨#[]⟩, .int .u8 0, .bool false, .slice none 0 0, .int .u32 0, .int .u32 0] 28)).heap.size by simp)
        go_simp
        refine hK _ _ hSz ?_
        clear hK K
        generalize hwd : wd.heap.size = bz at *
        generalize (wd.alloc (.cells #[.int .u32 0, .string ⟨#[]⟩, .string ⟨#[]⟩, .int .u8 0, .bool false, .slice none 0 0, .int .u32 0, .int .u32 0] 28)) = wz at *
        refine rg_one 7 rfl (by kernel_rfl) rfl (fun K hK => ?_)
        go_simp
        refine (htk3_any A2 c2 wz hrz).mono ?_
        rintro e w5 ⟨A3, c3, rfl, ho3, hB3⟩
        have hS3 := hSz.trans (hB3.mono hSz.size)
        have hz3 := hz.below hB3
        have hbz := hz.lt
        refine hK _ _ hS3 ?_
        clear hK K
        refine rg_take 8 (v := ?_) rfl (by kernel_rfl) (by kernel_rfl) (by kernel_rfl) hS3 rfl ?_ ?_
        rotate_left
        · intro wS hSw; go_simp; (with_reducible rfl)
        simp only [List.getElem_toArray, List.getElem_cons_succ, List.getElem_cons_zero, Act.put, List.setIfInBounds_toArray, List.set_cons_zero, List.set_cons_succ]
        refine rg_take 9 (v := ?_) rfl (by kernel_rfl) (by kernel_rfl) (by kernel_rfl) hS3 rfl ?_ ?_
        rotate_left
        · intro wS hSw; go_simp; (with_reducible rfl)
        simp only [List.getElem_toArray, List.getElem_cons_succ, List.getElem_cons_zero, Act.put, List.setIfInBounds_toArray, List.set_cons_zero, List.set_cons_succ]
        refine rg_take 10 (v := ?_) rfl (by kernel_rfl) (by kernel_rfl) (by kernel_rfl) hS3 rfl ?_ ?_
        rotate_left
        · intro wS hSw; go_simp; (with_reducible rfl)
        simp only [List.getElem_toArray, List.getElem_cons_succ, List.getElem_cons_zero, Act.put, List.setIfInBounds_toArray, List.set_cons_zero, List.set_cons_succ]
        refine rg_one 12 rfl (by kernel_rfl) rfl (fun K hK => ?_)
        refine op_box (v := .agg #[.int .u32 0, .string (str [103]), .string (str []), .int .u8 2, .bool false, .slice A3 2 c3, .int .u32 0, .int .u32 0]) (vs := [.int .u32 0, .string (str [103]), .string (str []), .int .u8 2, .bool false, .slice A3 2 c3, .int .u32 0, .int .u32 0]) rfl rfl rfl hz3 rfl (by kernel_rfl) (by simp) gl_one #[.int .u32 0, .string (str [103]), .string (str []), .int .u8 2, .bool false, .slice A3 2 c3, .int .u32 0, .int .u32 0] (by simp) ?_
        intro w6 hb6 hg6 _
        have hS6 := hS3.grown hg6 hS3.size (fun g' e => by injection e with e; have := hS.size; omega)
        have hr6 : RdP w6 w6.heap.size A3 2 c3 (hG 2 false 1 2).parts := (own_box ho3 hg6 hbz).rd
        refine hK _ _ hS6 ?_
        clear hK K
        refine rg_one 13 rfl (by kernel_rfl) rfl (fun K hK => ?_)
        go_simp
        refine hK _ _ hS6 ?_
        clear hK K
        refine rg_end (by kernel_rfl) ?_
        go_wp2_with fail
        go_meet
        exact ⟨_, A3, c3, rfl, rfl, hb6, hr6, hS6⟩
    case rest =>
      obtain ⟨gb, A4, c4, rfl, rfl, hb3, hr3, hBi⟩ := hcut
      have hBy := hBx.trans (hBi.mono hBx.size)
      clear HMD2 hmb hBi hBx hb2 hr2
      have x0 := hb3.cell (j := 0) rfl
      have x1 := hb3.cell (j := 1) rfl
      have x2 := hb3.cell (j := 2) rfl
      have x3 := hb3.cell (j := 3) rfl
      have x4 := hb3.cell (j := 4) rfl
      have x5 := hb3.cell (j := 5) rfl
      have x6 := hb3.cell (j := 6) rfl
      have x7 := hb3.cell (j := 7) rfl
      go_wp2_with (first | (with_reducible refine hold_append ?_) | (with_reducible refine hold_make ?_) | (with_reducible refine hold_copy ?_))
      refine (hdec_any _ _ _ hr3).mono ?_
      rintro e w6 ⟨A5, c5, rfl, ho5, hB6⟩
      have hBz := hBy.trans (hB6.mono hBy.size)
      have hb3' := hb3.below hB6
      have hr3' := Rd.more (hr3.below hB6) hB6.size
      clear x0 x1 x2 x3 x4 x5 x6 x7 hb3 hr3 hB6 hBy
      have hb5 := Box.new w6 #[.int .u32 0, .string (str [103]), .string (str []), .int .u8 3, .bool true, .slice A5 2 c5, .int .u32 0, .int .u32 0] 28
      have hBq := hBz.alloc hBz.size (.cells #[.int .u32 0, .string (str [103]), .string (str []), .int .u8 3, .bool true, .slice A5 2 c5, .int .u32 0, .int .u32 0] 28)
      have hr5 : RdP (w6.alloc (.cells #[.int .u32 0, .string (str [103]), .string (str []), .int .u8 3, .bool true, .slice A5 2 c5, .int .u32 0, .int .u32 0] 28)) (w6.alloc (.cells #[.int .u32 0, .string (str [103]), .string (str []), .int .u8 3, .bool true, .slice A5 2 c5, .int .u32 0, .int .u32 0] 28)).heap.size A5 2 c5 (hG 3 true 1 2).parts := Rd.more (ho5.rd.below ((Below.refl w6.heap.size w6).alloc (Nat.le_refl _) (.cells #[.int .u32 0, .string (str [103]), .string (str []), .int .u8 3, .bool true, .slice A5 2 c5, .int .u32 0, .int .u32 0] 28))) (by simp)
      have hb3 := hb3'.alloc (.cells #[.int .u32 0, .string (str [103]), .string (str []), .int .u8 3, .bool true, .slice A5 2 c5, .int .u32 0, .int .u32 0] 28)
      have hr3 : RdP (w6.alloc (.cells #[.int .u32 0, .string (str [103]), .string (str []), .int .u8 3, .bool true, .slice A5 2 c5, .int .u32 0, .int .u32 0] 28)) (w6.alloc (.cells #[.int .u32 0, .string (str [103]), .string (str []), .int .u8 3, .bool true, .slice A5 2 c5, .int .u32 0, .int .u32 0] 28)).heap.size A4 2 c4 (hG 2 false 1 2).parts := Rd.more (hr3'.below ((Below.refl w6.heap.size w6).alloc (Nat.le_refl _) (.cells #[.int .u32 0, .string (str [103]), .string (str []), .int .u8 3, .bool true, .slice A5 2 c5, .int .u32 0, .int .u32 0] 28))) (by simp)
      go_upto_region 10 with fail
      clear hb3' hr3' hBz ho5
      generalize hg5 : w6.heap.size = g5 at *
      generalize (w6.alloc (.cells #[.int .u32 0, .string (str [103]), .string (str []), .int .u8 3, .bool true, .slice A5 2 c5, .int .u32 0, .int .u32 0] 28)) = w7 at *
      have x0 := hb5.cell (j := 0) rfl
      have x1 := hb5.cell (j := 1) rfl
      have x2 := hb5.cell (j := 2) rfl
      have x3 := hb5.cell (j := 3) rfl
      have x4 := hb5.cell (j := 4) rfl
      have x5 := hb5.cell (j := 5) rfl
      have x6 := hb5.cell (j := 6) rfl
      have x7 := hb5.cell (j := 7) rfl
      go_wp2_with (first | (with_reducible refine hold_append ?_) | (with_reducible refine hold_make ?_) | (with_reducible refine hold_copy ?_))
      refine (hlet2_any _ _ _ hr5).mono ?_
      rintro e w8 ⟨nb, nc, rfl, hnb, hcl, hB8⟩
      have hBr := hBq.trans (hB8.mono hBq.size)
      have hb58 := hb5.below hB8
      have hb38 := hb3.below hB8
      have hr38 := Rd.more (hr3.below hB8) hB8.size
      have m0 : w8.cell? ⟨nb, 0, none⟩ = some (.int .u8 1) := hcl 0 (by decide) 0 _ rfl
      have m1 : w8.cell? ⟨nb, 1, none⟩ = some (.int .u8 2) := hcl 0 (by decide) 1 _ rfl
      clear x0 x1 x2 x3 x4 x5 x6 x7 hcl hb5 hb3 hr3 hr5 hBq
      have x0 := hb38.cell (j := 0) rfl
      have x1 := hb38.cell (j := 1) rfl
      have x2 := hb38.cell (j := 2) rfl
      have x3 := hb38.cell (j := 3) rfl
      have x4 := hb38.cell (j := 4) rfl
      have x5 := hb38.cell (j := 5) rfl
      have x6 := hb38.cell (j := 6) rfl
      have x7 := hb38.cell (j := 7) rfl
      have y3 := hb58.cell (j := 3) rfl
      go_wp2_with (first | (with_reducible refine hold_append ?_) | (with_reducible refine hold_make ?_) | (with_reducible refine hold_copy ?_))
      refine (hready_any _ _ _ hr38).mono ?_
      rintro e w9 ⟨rfl, hB9⟩
      have hBs := hBr.trans (hB9.mono hBr.size)
      have n0 := (hB9.cell (p := ⟨nb, 0, none⟩) hnb).trans m0
      have n1 := (hB9.cell (p := ⟨nb, 1, none⟩) hnb).trans m1
      have z3 := (hb58.below hB9).cell (j := 3) rfl
      clear x0 x1 x2 x3 x4 x5 x6 x7 y3 m0 m1 hb58 hb38 hr38
      go_wp2_with (first | (with_reducible refine hold_append ?_) | (with_reducible refine hold_make ?_) | (with_reducible refine hold_copy ?_))
      go_ret
      exact ⟨rfl, hBs⟩
end Go.PH
end

/- Texts laid together: MdGetRR, MdLawGets. -/
import Derived.Deep.CutRange
import Derived.Test.YtidpbbleneekgaaGreatDoorMg30
import Derived.Test.YtidpbbleneekgaaGreatDoorMg31
import Derived.Test.YtidpbbleneekgaaGreatDoorMg34
import Derived.Test.YtidpbbleneekgaaGreatDoorMg35
import Derived.Test.YtidpbbleneekgaaGreatDoorMg37
set_option linter.all false
set_option linter.unusedSimpArgs false
set_option linter.unusedVariables false
section
/- Get of a method: the walk of the document's Get. -/
namespace Go.PH
open Go.RowKit Go.Proofs

theorem mnum2_get {l : List UInt8} {p q : UInt8} {r : List UInt8} (h : l = p :: q :: r) : mnum l false 2 = (256 * p.toNat + q.toNat, r, false) := by
 rw [mnum_yes (by decide)]
 have e := mtake_yes (l := l) (n := 2) (by rw [h]; simp)
 rw [show ((2 : Nat) : Int) = 2 from rfl] at e
 rw [e, h]
 simp [unbe]
/-- the flag of an argument, off one byte -/
theorem told_is8 {x y : UInt8} {r b : List UInt8} (hb : b = x :: y :: r) {p q : UInt8} {l : List UInt8} (h : b.drop (atM x.toNat) = p :: q :: l) {i : Nat} {m : Mt} (hm : Told b m) (hi : i < m.args.length) : m.args[i].is = decide (q.toNat / 2 ^ i % 2 = 1) := by
 have h1 := mnum2_get h
 have h2 := told_is hb h1 hm hi
 obtain ⟨_, _, _, _, h5⟩ := told_head hb hm
 rw [h1] at h5
 injection h5 with h5 _
 have h3 : flagsM (m.args.map toSA) < 256 := by
  have h4 := flagsM_lt (m.args.map toSA)
  have h6 : 2 ^ (m.args.map toSA).length ≤ 2 ^ 3 := Nat.pow_le_pow_right (by omega) (by rw [List.length_map]; exact (told_args hm).2)
  omega
 have h0 : p.toNat = 0 := by omega
 rw [h0, Nat.mul_zero, Nat.zero_add] at h2
 exact h2
theorem flag8 (q : UInt8) (i : Nat) (hi : i ≤ 3) : ((q.toNat : Int) / 2 ^ i % 2 == 1) = decide (q.toNat / 2 ^ i % 2 = 1) := by
 have e : ((q.toNat : Int) / 2 ^ i) = ((q.toNat / 2 ^ i : Nat) : Int) := by rw [Int.natCast_ediv]; norm_cast
 rw [e]
 generalize q.toNat / 2 ^ i = t at *
 by_cases h1 : t % 2 = 1
 ·rw [decide_eq_true h1]; simp; omega
 ·rw [decide_eq_false h1]; simp; omega
set_option maxRecDepth 20000 in
set_option maxHeartbeats 16000000 in
theorem rmget_any (A : Option Addr) (n c : Nat) (b : List UInt8) (w : World) (hr : RdB w w.heap.size A n c b) (hn : n ≤ 20000) : Calls Tryz.prog 8 #[.slice A n c] w (MGetR w b) := by
 obtain ⟨zb, w0, hqb, hqv, hz, hB0⟩ := alloc_stepM w #[.int .u8 0, .int .u8 0, .bool false, .slice none 0 0] 26
 have hzw : w.heap.size ≤ zb := by omega
 have hln : b.length = n := RdB.length hr
 by_cases h2 : n < 2
 ·have g2 : (n : Int) < 2 := by omega
  go_enter Tryz.func8, Tryz.ntmps8
  go_upto_region 2 with fail
  rw [← hqb, ← hqv]
  clear hqb hqv
  go_wp2_with (with_reducible refine h_B ?_)
  refine unhold (wp_box (v := .agg #[.int .u8 0, .int .u8 0, .bool false, .slice none 0 0]) (vs := [.int .u8 0, .int .u8 0, .bool false, .slice none 0 0]) rfl rfl rfl rfl hz rfl (by kernel_rfl) (by simp) me_one #[.int .u8 0, .int .u8 0, .bool false, .slice none 0 0] (by simp) ?_)
  intro w1 hz1 hg1 _
  have hB1 := hB0.grown hg1 hB0.size (fun g hg => by injection hg with hg; omega)
  go_wp2_with (with_reducible refine h_A ?_)
  refine ret_box_tmp rfl hz1 rfl rfl Tryz.underlying26 rfl (by kernel_rfl) rfl ?_
  exact ⟨mt0, none, 0, 4, rfl, RM.zero _ _, hB1, .inl ⟨by omega, rfl, rfl⟩⟩
 ·have g2 : ¬ (n : Int) < 2 := by omega
  have g3 : (1 : Int) < (n : Int) := by omega
  have g4 : (0 : Int) < (n : Int) := by omega
  have g5 : 0 < n := by omega
  have g6 : 1 < n := by omega
  obtain ⟨x, y, r, hbx⟩ : ∃ x y r, b = x :: y :: r := by
   match b, hln with
   | [], h => simp at h; omega
   | [_], h => simp at h; omega
   | x :: y :: r, _ => exact ⟨x, y, r, rfl⟩
  obtain ⟨g, off, hA, hgw, hcell⟩ := hr.at_ (by omega)
  subst hA
  have TKC : ∀ W, Below w.heap.size w W → ∀ j (hj : j < b.length), W.cell? ⟨g, off + j, none⟩ = some (.int .u8 (b[j].toNat : Int)) := fun W hW j hj =>
   (hW.cell (p := ⟨g, off + j, none⟩) hgw).trans (by have := hcell j (u8v b[j]) (by rw [List.getElem?_map, List.getElem?_eq_getElem hj]; rfl); rw [u8v_eq] at this; exact this)
  have TK0 : ∀ W, Below w.heap.size w W → W.cell? ⟨g, off, none⟩ = some (.int .u8 (x.toNat : Int)) ∧ W.cell? ⟨g, off + 1, none⟩ = some (.int .u8 (y.toNat : Int)) := fun W hW => by
   have h0 := TKC W hW 0 (by omega)
   have h1 := TKC W hW 1 (by omega)
   simp only [hbx] at h0 h1
   exact ⟨h0, h1⟩
  have HTKC := Lib.hid TKC
  clear TKC hcell
  have hfd := fun W => rfind_any x.toNat y.toNat W
  unfold RFindR at hfd
  obtain ⟨⟨rc, rk, rn, kd⟩, hrw, hkd, his⟩ := ref_row x.toNat y.toNat
  rw [hrw, his] at hfd
  unfold rrV at hfd
  simp only at hkd hfd
  obtain ⟨is0, his0⟩ : ∃ q, q = (findM x.toNat y.toNat).isSome := ⟨_, rfl⟩
  rw [← his0] at hfd
  have HIS0 := Lib.hid his0
  have HKD := Lib.hid hkd
  have hb01 : (b.getD 0 0).toNat = x.toNat ∧ (b.getD 1 0).toNat = y.toNat := by rw [hbx]; exact ⟨rfl, rfl⟩
  have HB01 := Lib.hid hb01
  have HBX := Lib.hid hbx
  obtain ⟨hkl, hk3⟩ := kinds_ok x.toNat y.toNat
  rw [← hkd] at hkl hk3
  have HKL := Lib.hid hkl
  clear hb01 hbx his his0 hrw hkd hkl
  go_enter Tryz.func8, Tryz.ntmps8
  go_upto_region 3 with fail
  rw [← hqb, ← hqv]
  clear hqb hqv
  go_cut [4, 5] from 19 to 28 (fun s4 s5 wx => ∃ rb, s4 = .pointer (some ⟨rb, 0, none⟩) ∧ s5 = .bool is0 ∧ zb < rb ∧ Box wx rb 68 #[.int .u8 (rc : Int), .int .u8 (rk : Int), .string (str rn), .string (str kd)] ∧ Box wx zb 26 #[.int .u8 0, .int .u8 0, .bool false, .slice none 0 0] ∧ Below w.heap.size w wx)
  case first =>
   refine rg_start (fun W : World => Below w.heap.size w W) (by kernel_rfl) ?_
   have hS : Below w.heap.size w w0.drew := below_drewN hB0 1
   replace hz : Box w0.drew zb 26 #[.int .u8 0, .int .u8 0, .bool false, .slice none 0 0] := hz
   clear hB0
   generalize w0.drew = wd at *
   refine rg_t 0 hS ?_
   simp only [List.getElem_toArray, List.getElem_cons_zero, Act.put, List.setIfInBounds_toArray, List.set_cons_zero, List.set_cons_succ]
   refine rg_t 1 hS ?_
   simp only [g_S, Act.put]
   refine rg_take 2 (v := ?_) rfl (by kernel_rfl) (by kernel_rfl) (by kernel_rfl) hS rfl ?_ ?_
   rotate_left
   ·intro wS hSw; have k0 := (TK0 wS hSw).1; go_simp; (with_reducible rfl)
   simp only [g_S, Act.put]
   refine rg_t 3 hS ?_
   simp only [g_S, Act.put]
   refine rg_t 4 hS ?_
   simp only [g_S, Act.put]
   refine rg_take 5 (v := ?_) rfl (by kernel_rfl) (by kernel_rfl) (by kernel_rfl) hS rfl ?_ ?_
   rotate_left
   ·intro wS hSw; have k0 := (TK0 wS hSw).2; go_simp; (with_reducible rfl)
   simp only [g_S, Act.put]
   refine rg_two 6 10 rfl rfl (by kernel_rfl) rfl rfl (fun K hK => ?_) (fun K hK => ?_)
   ·go_simp
    refine (hfd wd).mono ?_
    rintro e w3 ⟨rfl, hB3⟩
    have hS3 := hS.trans (hB3.mono hS.size)
    have hz3 := hz.below hB3
    refine hK _ _ hS3 ?_; clear hK K
    try simp only [g_S, Act.put]
    clear hS hB3 hz
    refine rg_t 7 hS3 ?_
    simp only [g_S, Act.put]
    refine rg_t 8 hS3 ?_
    simp only [g_S, Act.put]
    refine rg_t 9 hS3 ?_
    simp only [g_S, Act.put]
    refine rg_one 10 rfl (by kernel_rfl) rfl (fun K hK => ?_)
    obtain ⟨rb, w4, hrb, hrv, hR, hB4⟩ := alloc_stepM w3 #[.int .u8 0, .int .u8 0, .string ⟨#[]⟩, .string ⟨#[]⟩] 68
    have hS4 := hS3.trans (hB4.mono hS3.size)
    have hz4 := hz3.below hB4
    have hzr : zb < rb := by rw [hrb]; exact hz3.lt
    go_simp
    rw [← hrb, ← hrv]
    clear hrb hrv hB4 hz3
    refine hK _ _ hS4 ?_; clear hK K
    try simp only [g_S, Act.put]
    refine rg_one 11 rfl (by kernel_rfl) rfl (fun K hK => ?_)
    refine op_box (v := .agg #[.int .u8 (rc : Int), .int .u8 (rk : Int), .string (str rn), .string (str kd)]) (vs := [.int .u8 (rc : Int), .int .u8 (rk : Int), .string (str rn), .string (str kd)]) rfl rfl rfl hR rfl (by kernel_rfl) (by simp) rr_one #[.int .u8 (rc : Int), .int .u8 (rk : Int), .string (str rn), .string (str kd)] (by simp) ?_
    intro w5 hR5 hg5 _
    have hS5 := hS4.grown hg5 hS4.size (fun g hg => by injection hg with hg; omega)
    have hz5 := hz4.grown hg5 (sne (by omega))
    refine hK _ _ hS5 ?_; clear hK K
    try simp only [g_S, Act.put]
    refine rg_t 12 hS5 ?_
    simp only [g_S, Act.put]
    refine rg_end (by kernel_rfl) ?_
    go_wp2_with fail
    go_meet
    exact ⟨rb, rfl, rfl, hzr, hR5, hz5, hS5⟩
   ·obtain ⟨rb, w4, hrb, hrv, hR, hB4⟩ := alloc_stepM wd #[.int .u8 0, .int .u8 0, .string ⟨#[]⟩, .string ⟨#[]⟩] 68
    have hS4 := hS.trans (hB4.mono hS.size)
    have hz4 := hz.below hB4
    have hzr : zb < rb := by rw [hrb]; exact hz.lt
    go_simp
    rw [← hrb, ← hrv]
    clear hrb hrv hB4 hz
    refine hK _ _ hS4 ?_; clear hK K
    try simp only [g_S, Act.put]
    refine rg_one 6 rfl (by kernel_rfl) rfl (fun K hK => ?_)
    go_simp
    refine (hfd w4).mono ?_
    rintro e w3 ⟨rfl, hB3⟩
    have hS3 := hS4.trans (hB3.mono hS4.size)
    have hz3 := hz4.below hB3
    have hR3 := hR.below hB3
    refine hK _ _ hS3 ?_; clear hK K
    try simp only [g_S, Act.put]
    clear hS hB3 hz4 hR
    refine rg_t 7 hS3 ?_
    simp only [g_S, Act.put]
    refine rg_t 8 hS3 ?_
    simp only [g_S, Act.put]
    refine rg_t 9 hS3 ?_
    simp only [g_S, Act.put]
    refine rg_one 11 rfl (by kernel_rfl) rfl (fun K hK => ?_)
    refine op_box (v := .agg #[.int .u8 (rc : Int), .int .u8 (rk : Int), .string (str rn), .string (str kd)]) (vs := [.int .u8 (rc : Int), .int .u8 (rk : Int), .string (str rn), .string (str kd)]) rfl rfl rfl hR3 rfl (by kernel_rfl) (by simp) rr_one #[.int .u8 (rc : Int), .int .u8 (rk : Int), .string (str rn), .string (str kd)] (by simp) ?_
    intro w5 hR5 hg5 _
    have hS5 := hS3.grown hg5 hS3.size (fun g hg => by injection hg with hg; omega)
    have hz5 := hz3.grown hg5 (sne (by omega))
    refine hK _ _ hS5 ?_; clear hK K
    try simp only [g_S, Act.put]
    refine rg_t 12 hS5 ?_
    simp only [g_S, Act.put]
    refine rg_end (by kernel_rfl) ?_
    go_wp2_with fail
    go_meet
    exact ⟨rb, rfl, rfl, hzr, hR5, hz5, hS5⟩
  case rest =>
   clear hz hB0 hfd
   obtain ⟨rb, rfl, rfl, hzr, hR, hz, hB⟩ := hcut
   cases is0
   ·have HFN : Hid (findM x.toNat y.toNat = none) := Lib.hid (by
     have h := HIS0.out
     cases hf : findM x.toNat y.toNat
     ·rfl
     ·rw [hf] at h; cases h)
    clear HIS0
    go_wp2_with (with_reducible refine h_B ?_)
    refine unhold (wp_box (v := .agg #[.int .u8 0, .int .u8 0, .bool false, .slice none 0 0]) (vs := [.int .u8 0, .int .u8 0, .bool false, .slice none 0 0]) rfl rfl rfl rfl hz rfl (by kernel_rfl) (by simp) me_one #[.int .u8 0, .int .u8 0, .bool false, .slice none 0 0] (by simp) ?_)
    intro w12 hz12 hg12 _
    have hB12 := hB.grown hg12 hB.size (fun g hg => by injection hg with hg; omega)
    go_wp2_with (with_reducible refine h_A ?_)
    refine ret_box_tmp rfl hz12 rfl rfl Tryz.underlying26 rfl (by kernel_rfl) rfl ?_
    exact ⟨mt0, none, 0, 80, rfl, RM.zero _ _, hB12, .inr (.inl ⟨by omega, by rw [HB01.out.1, HB01.out.2]; exact HFN.out, rfl, rfl⟩)⟩
   ·have HFI : Hid ((findM x.toNat y.toNat).isSome = true) := Lib.hid HIS0.out.symm
    clear HIS0
    go_upto_region 6 with fail
    refine rg_start (fun W : World => Below w.heap.size w W) (by kernel_rfl) ?_
    have hS : Below w.heap.size w wc.drew := below_drewN hB 1
    replace hz : Box wc.drew zb 26 #[.int .u8 0, .int .u8 0, .bool false, .slice none 0 0] := hz
    replace hR : Box wc.drew rb 68 #[.int .u8 (rc : Int), .int .u8 (rk : Int), .string (str rn), .string (str kd)] := hR
    clear hB
    generalize wc.drew = wd at *
    refine rg_t 0 hS ?_
    simp only [List.getElem_toArray, List.getElem_cons_zero, Act.put, List.setIfInBounds_toArray, List.set_cons_zero, List.set_cons_succ]
    refine rg_t 1 hS ?_
    simp only [g_S, Act.put]
    refine rg_take 2 (v := ?_) rfl (by kernel_rfl) (by kernel_rfl) (by kernel_rfl) hS rfl ?_ ?_
    rotate_left
    ·intro wS hSw; have k0 := (TK0 wS hSw).1; go_simp; (with_reducible rfl)
    simp only [g_S, Act.put]
    refine rg_t 3 hS ?_
    simp only [g_S, Act.put]
    refine rg_t 4 hS ?_
    simp only [g_S, Act.put]
    refine rg_take 5 (v := ?_) rfl (by kernel_rfl) (by kernel_rfl) (by kernel_rfl) hS rfl ?_ ?_
    rotate_left
    ·intro wS hSw; have k0 := (TK0 wS hSw).2; go_simp; (with_reducible rfl)
    simp only [g_S, Act.put]
    refine rg_t 6 hS ?_
    simp only [g_S, Act.put]
    refine rg_one 7 rfl (by kernel_rfl) rfl (fun K hK => ?_)
    obtain ⟨mb, w1, hqb, hqv, hm, hbel⟩ := alloc_stepM wd #[.int .u8 0, .int .u8 0, .bool false, .slice none 0 0] 26
    have hS1 := hS.trans (hbel.mono hS.size)
    have hz1 := hz.below hbel
    have hR1 := hR.below hbel
    have hmr : rb < mb := by rw [hqb]; exact hR.lt
    go_simp
    rw [← hqb, ← hqv]
    clear hqb hqv hbel hz hR
    refine hK _ _ hS1 ?_; clear hK K
    try simp only [g_S, Act.put]
    refine rg_one 8 rfl (by kernel_rfl) rfl (fun K hK => ?_)
    refine op_box (v := .agg #[.int .u8 (x.toNat : Int), .int .u8 (y.toNat : Int), .bool false, .slice none 0 0]) (vs := [.int .u8 (x.toNat : Int), .int .u8 (y.toNat : Int), .bool false, .slice none 0 0]) rfl rfl rfl hm rfl (by kernel_rfl) (by simp) me_one #[.int .u8 (x.toNat : Int), .int .u8 (y.toNat : Int), .bool false, .slice none 0 0] (by simp) ?_
    intro w2 hm2 hg2 _
    have hB2 := hS1.grown hg2 hS1.size (fun g hg => by injection hg with hg; omega)
    have hz2 := hz1.grown hg2 (sne (by omega))
    have hR2 := hR1.grown hg2 (sne (by omega))
    refine hK _ _ hB2 ?_
    clear hK K hS hS1 hz1 hR1 hm hg2
    refine rg_end (by kernel_rfl) ?_
    have x0 := hm2.c0
    go_upto_if 41 with fail
    clear x0
    go_cut [7] from 39 to 41 (fun s7 wx => ∃ at_ : Nat, s7 = .int .i64 (at_ : Int) ∧ Hid (at_ = atM x.toNat) ∧ w2 = wx)
    case first =>
     by_cases hc : x.toNat ≤ 2
     ·have g7 : ¬ (2 : Int) < (x.toNat : Int) := by omega
      have HAT : Hid (2 = atM x.toNat) := Lib.hid (by unfold atM; rw [if_pos hc])
      go_wp2_with (with_reducible refine h_A ?_)
      go_meet
      exact ⟨2, rfl, HAT, rfl⟩
     ·have g7 : (2 : Int) < (x.toNat : Int) := by omega
      have HAT : Hid (4 = atM x.toNat) := Lib.hid (by unfold atM; rw [if_neg hc])
      go_wp2_with (with_reducible refine h_A ?_)
      go_meet
      exact ⟨4, rfl, HAT, rfl⟩
    case rest =>
     obtain ⟨at_, rfl, HAT, rfl⟩ := hcut
     have hat4 : at_ ≤ 4 := by rw [HAT.out]; unfold atM; split <;> omega
     by_cases hsh : n < at_ + 2
     ·have g7 : (n : Int) < (at_ : Int) + 2 := by omega
      have HN2 : Hid (∀ m', goodM m' = true → MB m' → putM m' ≠ b) := Lib.hid (fun m' h1 h2 h3 => by
       obtain ⟨_, _, _, q4, _⟩ := told_head HBX.out ⟨h1, h2, h3⟩
       rw [← HAT.out] at q4
       omega)
      clear hsh
      go_wp2_with (with_reducible refine h_B ?_)
      refine unhold (wp_box (v := .agg #[.int .u8 0, .int .u8 0, .bool false, .slice none 0 0]) (vs := [.int .u8 0, .int .u8 0, .bool false, .slice none 0 0]) rfl rfl rfl rfl hz2 rfl (by kernel_rfl) (by simp) me_one #[.int .u8 0, .int .u8 0, .bool false, .slice none 0 0] (by simp) ?_)
      intro w12 hz12 hg12 _
      have hB12 := (hB2).grown hg12 (hB2).size (fun g hg => by injection hg with hg; omega)
      go_wp2_with (with_reducible refine h_A ?_)
      refine ret_box_tmp rfl hz12 rfl rfl Tryz.underlying26 rfl (by kernel_rfl) rfl ?_
      exact ⟨mt0, none, 0, 5, rfl, RM.zero _ _, hB12, .inr (.inr ⟨by omega, by rw [HB01.out.1, HB01.out.2]; exact HFI.out, .inr ⟨rfl, rfl, HN2.out⟩⟩)⟩
     ·have g7 : ¬ (n : Int) < (at_ : Int) + 2 := by omega
      have hshn : at_ + 2 ≤ n := by omega
      have x0 := hm2.c0
      clear hsh
      go_upto_if 50 with fail
      clear x0
      go_cut [7] from 48 to 55 (fun s7 wx => ∃ sync : Bool, s7 = .int .i64 (at_ : Int) ∧ Hid (sync = syncM x.toNat b) ∧ Box wx mb 26 #[.int .u8 (x.toNat : Int), .int .u8 (y.toNat : Int), .bool sync, .slice none 0 0] ∧ Box wx zb 26 #[.int .u8 0, .int .u8 0, .bool false, .slice none 0 0] ∧ Box wx rb 68 #[.int .u8 (rc : Int), .int .u8 (rk : Int), .string (str rn), .string (str kd)] ∧ Below w.heap.size w wx)
      case first =>
       by_cases hc : x.toNat ≤ 2
       ·have g8 : ¬ (2 : Int) < (x.toNat : Int) := by omega
        have HSY : Hid (false = syncM x.toNat b) := Lib.hid (by unfold syncM; rw [decide_eq_true hc]; rfl)
        go_wp2_with (with_reducible refine h_A ?_)
        go_meet
        exact ⟨false, rfl, HSY, hm2, hz2, hR2, hB2⟩
       ·have g8 : (2 : Int) < (x.toNat : Int) := by omega
        have ha4 : at_ = 4 := by rw [HAT.out]; unfold atM; rw [if_neg hc]
        have g9 : (3 : Int) < (n : Int) := by omega
        have g10 : 3 < n := by omega
        have hb3 : b[3]? = some b[3] := List.getElem?_eq_getElem (by omega)
        have k3 := HTKC.out _ hB2 3 (by omega)
        have HSY : ∀ q : Bool, decide (b[3] = 1) = q → Hid (q = syncM x.toNat b) := fun q hq => Lib.hid (by unfold syncM; rw [decide_eq_false hc, hb3, ← hq]; by_cases h1 : b[3] = 1 <;> simp [h1])
        generalize b[3] = z at *
        clear hb3 ha4
        by_cases hz1 : z = 1
        ·have HSY2 := HSY true (decide_eq_true hz1)
         subst hz1
         have k4 : _ = some (Value.int .u8 1) := k3
         clear HSY k3
         go_wp2_with (with_reducible refine h_B ?_)
         refine unhold (wp_box (v := .bool true) (vs := [.bool true]) rfl rfl rfl rfl hm2 rfl (by kernel_rfl) (by simp) (by simp; rfl) #[.int .u8 (x.toNat : Int), .int .u8 (y.toNat : Int), .bool true, .slice none 0 0] (by simp) ?_)
         intro w5 hm5 hg5 _
         go_wp2_with (with_reducible refine h_A ?_)
         go_meet
         exact ⟨true, rfl, HSY2, hm5, hz2.grown hg5 (sne (by omega)), hR2.grown hg5 (sne (by omega)), hB2.grown hg5 hB2.size (fun g hg => by injection hg with hg; have := hB2.size; omega)⟩
        ·have HSY2 := HSY false (decide_eq_false hz1)
         have hzi : ((z.toNat : Int) == 1) = false := by
          simp only [beq_eq_false_iff_ne]
          intro e
          exact hz1 (UInt8.toNat_inj.1 (by show z.toNat = 1; omega))
         clear HSY hz1
         go_wp2_with (with_reducible refine h_B ?_)
         refine unhold (wp_box (v := .bool false) (vs := [.bool false]) rfl rfl rfl rfl hm2 rfl (by kernel_rfl) (by simp) (by simp; rfl) #[.int .u8 (x.toNat : Int), .int .u8 (y.toNat : Int), .bool false, .slice none 0 0] (by simp) ?_)
         intro w5 hm5 hg5 _
         go_wp2_with (with_reducible refine h_A ?_)
         go_meet
         exact ⟨false, rfl, HSY2, hm5, hz2.grown hg5 (sne (by omega)), hR2.grown hg5 (sne (by omega)), hB2.grown hg5 hB2.size (fun g hg => by injection hg with hg; have := hB2.size; omega)⟩
      case rest =>
       clear hm2 hz2 hR2 hB2
       obtain ⟨sync, rfl, HSY, hm4, hz4, hR4, hB4⟩ := hcut
       obtain ⟨p, q, l0, hd⟩ : ∃ p q l0, b.drop at_ = p :: q :: l0 := by
        have hl : 2 ≤ (b.drop at_).length := by rw [List.length_drop]; omega
        match b.drop at_, hl with
        | [], h => simp at h
        | [_], h => simp at h
        | p :: q :: l0, _ => exact ⟨p, q, l0, rfl⟩
       have hq1 : b[at_ + 1]'(by omega) = q := by
        have h1 : (b.drop at_)[1]? = some q := by rw [hd]; rfl
        rw [List.getElem?_drop, List.getElem?_eq_getElem (by omega)] at h1
        injection h1
       have hl0 : b.drop (at_ + 2) = l0 := by rw [← List.drop_drop, hd]; rfl
       have HD8 : Hid (b.drop (atM x.toNat) = p :: q :: l0) := Lib.hid (by rw [← HAT.out]; exact hd)
       have HL0 := Lib.hid hl0
       have k8 := HTKC.out _ hB4 (at_ + 1) (by omega)
       rw [hq1] at k8
       have g8 : (at_ : Int) + 1 < (n : Int) := by omega
       have g9 : at_ + 1 < n := by omega
       have hr4 : RdB wc w.heap.size (some ⟨g, off, none⟩) n c b := hr.below hB4
       have hcap := hr4.cap
       have hw4 := hB4.size
       clear hd hq1 hl0 HAT
       go_wp2_with (with_reducible refine h_S ?_)
       refine unhold (wp_cutB slB rfl rfl rfl hr4 (at_ + 2) n c (.inr ⟨_, _, rfl, by omega⟩) (.inl ⟨rfl, rfl⟩) (.inl ⟨rfl, rfl⟩) (by intro h; cases h) (by omega) (by omega) (Nat.le_refl _) (Nat.le_refl _) ?_)
       intro A8 hr8 hA8
       have e8 : ((b.map u8v).take (n * 1)).drop ((at_ + 2) * 1) = l0.map u8v := by rw [Nat.mul_one, Nat.mul_one, List.take_of_length_le (by simp; omega), ← List.map_drop, HL0.out]
       rw [e8] at hr8
       have hm4l := hm4.lt
       have hq8 : RdX wc (fun k => k < wc.heap.size ∧ k ≠ mb ∧ k ≠ zb ∧ blk (none : Option Addr) ≠ some k) 1 A8 (n - (at_ + 2)) (c - (at_ + 2)) (l0.map u8v) := ⟨rd_wide hr8 hw4, fun _ k hk => by
        rw [hA8] at hk
        have hk2 : g = k := by simpa [blk] using hk
        subst hk2
        exact ⟨by omega, by omega, by omega, by simp [blk]⟩⟩
       have hn8 : n - (at_ + 2) ≤ 100000000 := by omega
       obtain ⟨bs, hbs⟩ : ∃ q, q = wc.heap.size := ⟨_, rfl⟩
       have hmb9 : mb < bs := by omega
       have hbsw : bs ≤ wc.heap.size := Nat.le_of_eq hbs
       have hwbs : w.heap.size ≤ bs := by omega
       have HRT0 : Hid (ReadTo b 0 [] l0 false) := Lib.hid (ReadTo.start HBX.out (mnum2_get HD8.out))
       have hS9 : MpS wc bs none 0 [] := ⟨Own.none_ _ _ _ _, fun p hp => by cases hp⟩
       have hss := str_size kd
       clear e8 hr8 hr4 k8 hA8 hbs g8 g9
       go_wp2_with (with_reducible refine h_A ?_)
       go_loopw [9, 10] (fun s9 s10 wr => ∃ (i : Nat) (A3 : Option Addr) (c3 : Nat) (xs : List (Ag × AH)) (A9 : Option Addr) (n9 c9 : Nat) (l3 : List UInt8), i ≤ kd.length ∧ s9 = .slice A9 n9 c9 ∧ s10 = .int .i64 i ∧ Hid (xs.length = i) ∧ Hid (ReadTo b i (xs.map (·.1)) l3 false) ∧ MpS wr bs A3 c3 xs ∧ Box wr mb 26 #[.int .u8 (x.toNat : Int), .int .u8 (y.toNat : Int), .bool sync, .slice A3 i c3] ∧ Box wr zb 26 #[.int .u8 0, .int .u8 0, .bool false, .slice none 0 0] ∧ Box wr rb 68 #[.int .u8 (rc : Int), .int .u8 (rk : Int), .string (str rn), .string (str kd)] ∧ RdX wr (fun k => k < wr.heap.size ∧ k ≠ mb ∧ k ≠ zb ∧ blk A3 ≠ some k) 1 A9 n9 c9 (l3.map u8v) ∧ n9 ≤ 100000000 ∧ Below w.heap.size w wr ∧ bs ≤ wr.heap.size) (fun _ s10 _ => kd.length - (RowKit.intOf s10).toNat)
       case atStart => exact ⟨0, none, 0, [], A8, n - (at_ + 2), c - (at_ + 2), l0, by omega, rfl, rfl, Lib.hid rfl, HRT0, hS9, hm4, hz4, hR4, hq8, hn8, hB4, hbsw⟩
       case round =>
        clear hS9 hm4 hz4 hR4 hq8 hB4 HRT0 hbsw hw4 hn8
        obtain ⟨i, A3, c3, xs, A9, n9, c9, l3, hi, rfl, rfl, HXL, HRT, hS, hm, hz, hR, hq, hn9, hB, hsz⟩ := hrel
        have r3 := hR.c3
        by_cases hlt : i < kd.length
        ·have g1 : (i : Int) < (kd.length : Int) := by omega
         have hsk : i < (str kd).size := by rw [hss]; exact hlt
         have g2i : (i : Int) ≤ 3 := by omega
         have hfi := flag8 q i (by omega)
         obtain ⟨is, his⟩ : ∃ t : Bool, t = decide (q.toNat / 2 ^ i % 2 = 1) := ⟨_, rfl⟩
         rw [← his] at hfi
         have HIS : Hid (∀ m, Told b m → ∀ (h : i < m.args.length), m.args[i].is = is) := Lib.hid (fun m hm h => by rw [his]; exact told_is8 HBX.out HD8.out hm h)
         have HFI8 := Lib.hid hfi
         clear his hfi
         have hkm := HKL.out kd[i] (List.getElem_mem hlt)
         have htk : Calls Tryz.prog 24 #[.int .u8 (((str kd)[i]'hsk).toNat : Int), .slice A9 n9 c9] wr _ := rtake_any kd[i] hkm A9 n9 c9 l3 wr hq (fun k hk => hk.1) hn9
         have hnb : ∀ g, blk A3 = some g → bs ≤ g ∧ g < wr.heap.size := fun g hg => hS.own.blk_lt hg
         have hBs := hB.size
         go_wp2_with (with_reducible refine h_A ?_)
         refine htk.mono ?_
         rintro e w5 ⟨a, ah, A10, n10, c10, l5, rfl, hRA5, hq5, hn10, hB5, hai, HAR⟩
         have HRT5 : Hid (ReadTo b (i + 1) (xs.map (·.1) ++ [{ a with is := is }]) l5 false) := Lib.hid (ReadTo.step HBX.out HKD.out HRT.out hlt HIS.out (fun a' rest _ hl hk hab he => by
          obtain ⟨e1, e2⟩ := HAR a' rest hl hk hab
          refine ⟨?_, e2, rfl⟩
          rw [e1]
          unfold agF
          rw [← he]))
         have hs5 := hB5.size
         have hm5 := hm.below hB5
         have hz5 := hz.below hB5
         have hR5 := hR.below hB5
         have hS5 := hS.below hB5
         have hB05 := hB.trans (hB5.mono hBs)
         have hq6 : RdX w5 (fun k => k < w5.heap.size ∧ k ≠ mb ∧ k ≠ zb ∧ blk A3 ≠ some k) 1 A10 n10 c10 (l5.map u8v) := hq5.mono (fun k hk => by
          rcases hk with hk | hk
          ·exact ⟨by omega, hk.2.1, hk.2.2.1, hk.2.2.2⟩
          ·have h1 := hk.1
           exact ⟨hk.2, by omega, by omega, fun e => by have := hnb k e; omega⟩)
         have hRA6 : RA w5 (FB bs A3 w5) { a with is := is } ah := by
          have h := hRA5.mono (G := FB bs A3 w5) (fun k hk => ⟨by have := hk.1; omega, hk.2, fun e => by have := hnb k e; have := hk.1; omega⟩)
          exact ⟨h.n, h.s, h.x, h.q, h.ok, h.c, h.v⟩
         clear htk hkm hq hRA5 hq5 hai HAR HIS HRT hS hm hz hR hB r3 hB5
         unfold agV
         obtain ⟨ab, w6, hab, hav, hAB, hB6⟩ := alloc_stepV w5 #[.bool a.is, .int .u64 (a.n : Int), .string (str a.s), .int .u32 (a.x.fmt : Int), .string (str a.x.glob), .string (str a.x.bran), .slice ah.A a.q.length ah.c, .int .u8 (a.v.kind : Int), .int .u64 (a.v.n : Int), .string (str a.v.s), .slice ah.h.A1 a.v.keys.length ah.h.c1, .slice ah.h.A2 a.v.list.length ah.h.c2] 52
         go_upto_region 20 with fail
         rw [← hab, ← hav]
         have hm6 := hm5.below hB6
         have hz6 := hz5.below hB6
         have hR6 := hR5.below hB6
         have hS6 := hS5.below hB6
         have hS6w := hS5
         have HK6 : Hid (∀ k, k < w5.heap.size → w6.heap[k]? = w5.heap[k]?) := Lib.hid (fun k hk => hB6.block k hk)
         have hB06 := hB05.trans (hB6.mono hB05.size)
         have hs6 := hB6.size
         have hq7 : RdX w6 (fun k => k < w5.heap.size ∧ k ≠ mb ∧ k ≠ zb ∧ blk A3 ≠ some k) 1 A10 n10 c10 (l5.map u8v) := hq6.keep (fun k hk => hB6.block k hk.1) hs6
         have hRA7 := (hRA6.keep (fun k hk => hB6.block k hk.2.1) hs6).mono (G := FB bs A3 w6) (fun k hk => ⟨hk.1, Nat.lt_of_lt_of_le hk.2.1 hs6, hk.2.2⟩)
         have hwab : w5.heap.size ≤ ab := by omega
         have hRA8 : RA w6 (fun k => FB bs A3 w6 k ∧ k < w5.heap.size) { a with is := is } ah := (hRA6.keep (fun k hk => hB6.block k hk.2.1) hs6).mono (fun k hk => ⟨⟨hk.1, Nat.lt_of_lt_of_le hk.2.1 hs6, hk.2.2⟩, hk.2.1⟩)
         clear hab hav hm5 hz5 hR5 hS5 hB05 hB6 hq6 hRA6 hRA7
         have hfi := HFI8.out
         go_wp2_with (with_reducible refine h_B ?_)
         refine unhold (wp_box (v := .bool is) (vs := [.bool is]) rfl rfl rfl (by first | rfl | exact congrArg Value.bool hfi) hAB rfl (by kernel_rfl) (by simp) (by simp; rfl) #[.bool is, .int .u64 (a.n : Int), .string (str a.s), .int .u32 (a.x.fmt : Int), .string (str a.x.glob), .string (str a.x.bran), .slice ah.A a.q.length ah.c, .int .u8 (a.v.kind : Int), .int .u64 (a.v.n : Int), .string (str a.v.s), .slice ah.h.A1 a.v.keys.length ah.h.c1, .slice ah.h.A2 a.v.list.length ah.h.c2] (by simp) ?_)
         intro w7 hAB7 hg7 hsz7
         clear hsz7
         have hm7 := hm6.grown hg7 (sne (by omega))
         have hz7 := hz6.grown hg7 (sne (by omega))
         have hR7 := hR6.grown hg7 (sne (by omega))
         have hs7 := hg7.size
         have hS7 : MpS w7 bs A3 c3 xs := hS6w.on (fun k h1 h2 => (hg7.block k (by omega) (sne (by omega))).trans (HK6.out k h2)) (by omega)
         have hB07 := hB06.grown hg7 hB06.size (fun k hk => by injection hk with hk; omega)
         have hq9 := hq7.keep (fun k hk => hg7.block k (by have := hk.1; omega) (by intro e; injection e with e; have := hk.1; omega)) hs7
         have hRA9 : RA w7 (FB bs A3 w7) { a with is := is } ah := (hRA8.keep (fun k hk => hg7.block k (by have := hk.2; omega) (by intro e; injection e with e; have := hk.2; omega)) hs7).mono (fun k hk => ⟨hk.1.1, Nat.lt_of_lt_of_le hk.1.2.1 hs7, hk.1.2.2⟩)
         clear hfi hm6 hz6 hR6 hS6 hS6w hB06 hq7 hRA8 hAB hg7
         have a_0 := hAB7.c0
         have a_1 := hAB7.c1
         have a_2 := hAB7.c2
         have a_3 := hAB7.c3
         have a_4 := hAB7.c4
         have a_5 := hAB7.c5
         have a_6 := hAB7.c6
         have a_7 := hAB7.c7
         have a_8 := hAB7.c8
         have a_9 := hAB7.c9
         have a_10 := hAB7.c10
         have a_11 := hAB7.c11
         have o3 := hm7.c3
         have hown5 : Own w7 bs 52 12 A3 i c3 (rowC agC xs) := HXL.out ▸ hS7.own
         go_wp2_with (with_reducible refine h_B ?_)
         refine unhold (wp_rec (W := w7) agShape slAg Tryz.underlying24 rfl rfl rfl rfl rfl (({ a with is := is } : Ag), ah) rfl hown5 (by omega) (by omega) (by omega) ?_)
         intro A11 c11 wA ho9 hgA hA9 _
         have hSA := hS7.push hRA9 (by rw [HXL.out]; exact ho9) hgA hA9
         have hmA := hm7.grown hgA (by intro e; have := hnb _ e.symm; omega)
         have hzA := hz7.grown hgA (by intro e; have := hnb _ e.symm; omega)
         have hRA := hR7.grown hgA (by intro e; have := hnb _ e.symm; omega)
         have hBA := hB07.grown hgA hB07.size (fun k hk => by have := hnb k hk; omega)
         have hsA := hgA.size
         have hqA : RdX wA (fun k => k < wA.heap.size ∧ k ≠ mb ∧ k ≠ zb ∧ blk A11 ≠ some k) 1 A10 n10 c10 (l5.map u8v) := (hq9.keep (fun k hk => hgA.block k (by have := hk.1; omega) (fun e => hk.2.2.2 e.symm)) hsA).mono (fun k hk => ⟨by have := hk.1; omega, hk.2.1, hk.2.2.1, by
          rcases hA9 with e | e
          ·rw [e]; exact hk.2.2.2
          ·intro e2; have := e k e2; have := hk.1; omega⟩)
         clear hS7 hRA9 hm7 hz7 hR7 hB07 hAB7 hown5 ho9 hgA hA9 hq9 a_0 a_1 a_2 a_3 a_4 a_5 a_6 a_7 a_8 a_9 a_10 a_11 o3
         go_wp2_with (with_reducible refine h_B ?_)
         refine unhold (wp_box (v := .slice A11 (i + 1) c11) (vs := [.slice A11 (i + 1) c11]) rfl rfl rfl rfl hmA rfl (by kernel_rfl) (by simp) (by simp; rfl) #[.int .u8 (x.toNat : Int), .int .u8 (y.toNat : Int), .bool sync, .slice A11 (i + 1) c11] (by simp) ?_)
         intro wC hmC hgC hsC
         have hSC := hSA.box hgC (by omega)
         have hzC := hzA.grown hgC (sne (by omega))
         have hRC := hRA.grown hgC (sne (by omega))
         have hqC : RdX wC (fun k => k < wC.heap.size ∧ k ≠ mb ∧ k ≠ zb ∧ blk A11 ≠ some k) 1 A10 n10 c10 (l5.map u8v) := (hqA.keep (fun k hk => hgC.block k hk.1 (by intro e; injection e with e; have := hk.2.1; omega)) hgC.size).mono (fun k hk => ⟨by have := hk.1; omega, hk.2⟩)
         have hBC := hBA.grown hgC hBA.size (fun k hk => by injection hk with hk; omega)
         go_wp2_with (with_reducible refine h_A ?_)
         exact ⟨⟨i + 1, A11, c11, xs ++ [({ a with is := is }, ah)], A10, n10, c10, l5, by omega, rfl, by go_num, Lib.hid (by rw [List.length_append, HXL.out]; rfl), Lib.hid (by rw [List.map_append]; exact HRT5.out), hSC, hmC, hzC, hRC, hqC, hn10, hBC, by omega⟩, by simp [RowKit.intOf]; omega⟩
        ·have g1 : ¬ (i : Int) < (kd.length : Int) := by omega
         obtain rfl : i = kd.length := by omega
         have hRM := hS.rm (Nat.le_refl bs) x.toNat y.toNat sync (UInt8.toNat_lt x) (UInt8.toNat_lt y) (by have := HXL.out; omega)
         have hmp := rmput_any ⟨x.toNat, y.toNat, sync, xs.map (·.1)⟩ A3 c3 wr (hRM.mono (fun g hg => hg.2))
         have hpl := putM_len ⟨x.toNat, y.toNat, sync, xs.map (·.1)⟩
         have hMB := RM.ab hRM
         obtain ⟨M, hM⟩ : ∃ q, q = (⟨x.toNat, y.toNat, sync, xs.map (·.1)⟩ : Mt) := ⟨_, rfl⟩
         have HNO : Hid (∀ m', Told b m' → m' = M) := Lib.hid (fun m' hm' => by rw [hM, HSY.out]; exact (ReadTo.all HBX.out HKD.out HRT.out hm').1)
         have e1 : mtV (⟨x.toNat, y.toNat, sync, xs.map (·.1)⟩ : Mt) A3 c3 = #[.int .u8 (x.toNat : Int), .int .u8 (y.toNat : Int), .bool sync, .slice A3 kd.length c3] := by unfold mtV; simp only [List.length_map, HXL.out]
         have HV : Hid (mtV M A3 c3 = #[.int .u8 (x.toNat : Int), .int .u8 (y.toNat : Int), .bool sync, .slice A3 kd.length c3]) := Lib.hid (by rw [hM]; exact e1)
         rw [e1] at hmp
         unfold MPut at hmp
         rw [← hM] at hmp hpl hMB hRM
         have HE : Hid (errM M = if goodM M = true then 0 else 80) := Lib.hid rfl
         generalize hPP : putM M = P at hmp hpl
         generalize errM M = E at *
         have HPP := Lib.hid hPP
         have HMB := Lib.hid hMB
         clear hM e1 hPP hMB HRT HSY hq
         have y0 := hm.c0
         have y1 := hm.c1
         have y2 := hm.c2
         have y3 := hm.c3
         go_wp2_with (with_reducible refine h_A ?_)
         refine hmp.mono ?_
         rintro e w5 ⟨A5', c5', rfl, ho5, hB5⟩
         have hm5 := hm.below hB5
         have hz5 := hz.below hB5
         have hB05 := hB.trans (hB5.mono hB.size)
         have hr5 : RdB w5 w.heap.size (some ⟨g, off, none⟩) n c b := hr.below hB05
         have hRM5 : RM w5 (FN bs w5) M A3 c3 := (hRM.keep (fun g hg => hB5.block g hg.2) hB5.size).mono (fun g hg => ⟨hg.1, Nat.lt_of_lt_of_le hg.2 hB5.size⟩)
         have hv1 := run_strB (w := w5) ho5.rd
         have hv2 := run_strB (w := w5) hr5
         have HEQ : Hid (((str P).toList == (str b).toList) = decide (P = b)) := Lib.hid (strEqV _ _)
         have hmz5 := hm5.lt
         clear hmp y0 y1 y2 y3 hm hz hR hB hS hRM r3
         by_cases hE : goodM M = true
         ·obtain rfl : E = 0 := by rw [HE.out, if_pos hE]
          have HG := Lib.hid hE
          clear hE HE
          by_cases hbp : P = b
          ·have hq : ((str P).toList == (str b).toList) = true := by rw [HEQ.out, decide_eq_true hbp]
           have HBP := Lib.hid hbp
           clear hbp
           have y0 := hm5.c0
           have y1 := hm5.c1
           have y2 := hm5.c2
           have y3 := hm5.c3
           go_wp2_with (with_reducible refine h_B ?_)
           refine unhold (wp_box (v := .agg #[.int .u8 (x.toNat : Int), .int .u8 (y.toNat : Int), .bool sync, .slice A3 kd.length c3]) (vs := [.int .u8 (x.toNat : Int), .int .u8 (y.toNat : Int), .bool sync, .slice A3 kd.length c3]) rfl rfl rfl rfl hz5 rfl (by kernel_rfl) (by simp) me_one #[.int .u8 (x.toNat : Int), .int .u8 (y.toNat : Int), .bool sync, .slice A3 kd.length c3] (by simp) ?_)
           intro w12 hz12 hg12 _
           have hB12 := hB05.grown hg12 hB05.size (fun g hg => by injection hg with hg; omega)
           go_wp2_with (with_reducible refine h_A ?_)
           refine ret_box_tmp rfl hz12 rfl rfl Tryz.underlying26 rfl (by kernel_rfl) rfl ?_
           refine ⟨M, A3, c3, 0, by rw [HV.out]; rfl, ?_, hB12, .inr (.inr ⟨by omega, by rw [HB01.out.1, HB01.out.2]; exact HFI.out, .inl ⟨rfl, HMB.out, HG.out, by rw [HPP.out]; exact HBP.out⟩⟩)⟩
           exact (hRM5.keep (fun g hg => hg12.block g hg.2 (by intro e; injection e with e; have := hg.1; omega)) hg12.size).mono (fun g hg => ⟨by have := hg.1; omega, Nat.lt_of_lt_of_le hg.2 hg12.size⟩)
          ·have hq : ((str P).toList == (str b).toList) = false := by rw [HEQ.out, decide_eq_false hbp]
           have HN2 : Hid (∀ m', goodM m' = true → MB m' → putM m' ≠ b) := Lib.hid (fun m' h1 h2 h3 => by
            have e := HNO.out m' ⟨h1, h2, h3⟩
            rw [e, HPP.out] at h3
            exact hbp h3)
           clear hbp
           go_wp2_with (with_reducible refine h_B ?_)
           refine unhold (wp_box (v := .agg #[.int .u8 0, .int .u8 0, .bool false, .slice none 0 0]) (vs := [.int .u8 0, .int .u8 0, .bool false, .slice none 0 0]) rfl rfl rfl rfl hz5 rfl (by kernel_rfl) (by simp) me_one #[.int .u8 0, .int .u8 0, .bool false, .slice none 0 0] (by simp) ?_)
           intro w12 hz12 hg12 _
           have hB12 := (hB05).grown hg12 (hB05).size (fun g hg => by injection hg with hg; omega)
           go_wp2_with (with_reducible refine h_A ?_)
           refine ret_box_tmp rfl hz12 rfl rfl Tryz.underlying26 rfl (by kernel_rfl) rfl ?_
           exact ⟨mt0, none, 0, 5, rfl, RM.zero _ _, hB12, .inr (.inr ⟨by omega, by rw [HB01.out.1, HB01.out.2]; exact HFI.out, .inr ⟨rfl, rfl, HN2.out⟩⟩)⟩
         ·obtain rfl : E = 80 := by rw [HE.out, if_neg hE]
          have HN2 : Hid (∀ m', goodM m' = true → MB m' → putM m' ≠ b) := Lib.hid (fun m' h1 h2 h3 => by
           have e := HNO.out m' ⟨h1, h2, h3⟩
           rw [e] at h1
           exact hE h1)
          clear hE HE
          go_wp2_with (with_reducible refine h_B ?_)
          refine unhold (wp_box (v := .agg #[.int .u8 0, .int .u8 0, .bool false, .slice none 0 0]) (vs := [.int .u8 0, .int .u8 0, .bool false, .slice none 0 0]) rfl rfl rfl rfl hz5 rfl (by kernel_rfl) (by simp) me_one #[.int .u8 0, .int .u8 0, .bool false, .slice none 0 0] (by simp) ?_)
          intro w12 hz12 hg12 _
          have hB12 := (hB05).grown hg12 (hB05).size (fun g hg => by injection hg with hg; omega)
          go_wp2_with (with_reducible refine h_A ?_)
          refine ret_box_tmp rfl hz12 rfl rfl Tryz.underlying26 rfl (by kernel_rfl) rfl ?_
          exact ⟨mt0, none, 0, 5, rfl, RM.zero _ _, hB12, .inr (.inr ⟨by omega, by rw [HB01.out.1, HB01.out.2]; exact HFI.out, .inr ⟨rfl, rfl, HN2.out⟩⟩)⟩
end Go.PH
end
section
/- MethodGets: the walk. -/
namespace Go.PH
open Go.RowKit Go.Proofs

set_option maxRecDepth 20000 in
set_option maxHeartbeats 4000000 in
theorem law_MethodGets (Ab : Option Addr) (nb cb : Nat) (l : List UInt8) (w : World) (he : MEnv w) (hT : UTabs w) (hr : RdB w w.heap.size Ab nb cb l) (hnb : nb ≤ 140737488351232) :
  Calls Tryz.prog 3 #[.slice Ab nb cb] w fun e w' => e = .returned (.bool true) ∧ Below w.heap.size w w' := by
 have hln : l.length = nb := RdB.length hr
 have hhd := fun (W : World) (hW : Below w.heap.size w W) => mdheadG_any W (he.on hW) (hT.on hW)
 have HHD := Lib.hid hhd
 have hBr := Below.refl w.heap.size w
 clear hhd
 by_cases hn : nb ≤ 20000
 ·have g1 : ¬ (20000 : Int) < (nb : Int) := by omega
  go_enter Tryz.func3, Tryz.ntmps3
  go_wp2_with (with_reducible refine h_A ?_)
  refine unhold (wp_app slB rfl rfl rfl rfl (Own.none_ w w.heap.size _ _) hr (map_one _) (by omega) (by simp [maxLen]; omega) (Nat.le_refl _) ?_)
  intro A2 c2 w1 ho2 hg1 _
  have hB1 : Below w.heap.size w w1 := (Below.refl _ _).grown hg1 (Nat.le_refl _) (by simp [blk])
  simp only [Nat.zero_add, List.nil_append] at ho2
  have hgt := mget_any A2 nb c2 l w1 (he.on hB1) (hT.on hB1) ho2.rd (by omega)
  clear hg1
  go_wp2_with (with_reducible refine h_A ?_)
  refine hgt.mono ?_
  rintro e w2 ⟨m, A3, c3, er, rfl, hRM, hB2, hG⟩
  unfold mtV
  have hBB2 := hB1.trans (hB2.mono hB1.size)
  have ho3 := own_below ho2 hB2
  obtain ⟨xb, w3, hxb, hxv, hX, hB3⟩ := alloc_stepV w2 #[.int .u8 (m.cls : Int), .int .u8 (m.code : Int), .bool m.sync, .slice A3 m.args.length c3] 26
  go_upto_region 5 with fail
  rw [← hxb, ← hxv]
  have hBB3 := hBB2.trans (hB3.mono hBB2.size)
  have ho4 := own_below ho3 hB3
  have hRM3 : RMw w3 m A3 c3 := (hRM.mono (fun g hg => hg.2)).up hB3
  have hr3 : RdB w3 w3.heap.size Ab nb cb l := rd_wide (hr.below hBB3) hBB3.size
  have hrg := rmget_any Ab nb cb l w3 hr3 hn
  clear hgt hxb hxv hB2 hB3 hRM ho2 ho3 hBB2
  go_wp2_with (with_reducible refine h_A ?_)
  refine hrg.mono ?_
  rintro e w4 ⟨m', A4, c4, er', rfl, hRM4, hB4, hG4⟩
  obtain ⟨e1, e2⟩ := hG.uniq hG4
  subst e1 e2
  unfold mtV
  have hX4 := hX.below hB4
  have hBB4 := hBB3.trans (hB4.mono hBB3.size)
  have ho5 := own_below ho4 hB4
  have hRM34 := hRM3.up hB4
  obtain ⟨yb, w5, hyb, hyv, hY, hB5⟩ := alloc_stepV w4 #[.int .u8 (m.cls : Int), .int .u8 (m.code : Int), .bool m.sync, .slice A4 m.args.length c4] 26
  go_upto_region 6 with fail
  rw [← hyb, ← hyv]
  have hX5 := hX4.below hB5
  have hBB5 := hBB4.trans (hB5.mono hBB4.size)
  have ho6 := own_below ho5 hB5
  have hsm := rsameM_any m m A3 c3 A4 c4 w5 (hRM34.up hB5) ((hRM4.mono (fun g hg => hg.2)).up hB5)
  rw [(sameM_iff m m).2 rfl] at hsm
  unfold mtV at hsm
  have hee : (er == er) = true := by simp
  clear hrg hyb hyv hB4 hB5 hX hX4 hRM3 hRM34 hRM4 hG hG4 ho4 ho5 hr3 hBB3 hBB4
  have x0 := hX5.c0
  have x1 := hX5.c1
  have x2 := hX5.c2
  have x3 := hX5.c3
  have y0 := hY.c0
  have y1 := hY.c1
  have y2 := hY.c2
  have y3 := hY.c3
  go_wp2_with (with_reducible refine h_A ?_)
  refine hsm.mono ?_
  rintro e w6 ⟨rfl, hB6⟩
  have hBB6 := hBB5.trans (hB6.mono hBB5.size)
  have ho7 := own_below ho6 hB6
  have hr6 : RdB w6 w6.heap.size Ab nb cb l := rd_wide (hr.below hBB6) hBB6.size
  have hv1 := run_strB (w := w6) ho7.rd
  have hv2 := run_strB (w := w6) hr6
  have hpp : ((str l).toList == (str l).toList) = true := by simp
  clear hsm x0 x1 x2 x3 y0 y1 y2 y3
  go_wp2_with (with_reducible refine h_A ?_)
  refine (HHD.out _ hBB6).mono ?_
  rintro e w9 ⟨rfl, hB9⟩
  go_wp2_with (with_reducible refine h_A ?_)
  go_ret
  exact ⟨rfl, (hBB6).trans (hB9.mono (hBB6).size)⟩
 ·have g1 : (20000 : Int) < (nb : Int) := by omega
  go_enter Tryz.func3, Tryz.ntmps3
  go_wp2_with (with_reducible refine h_A ?_)
  refine (HHD.out _ hBr).mono ?_
  rintro e w9 ⟨rfl, hB9⟩
  go_wp2_with (with_reducible refine h_A ?_)
  go_ret
  exact ⟨rfl, (hBr).trans (hB9.mono (hBr).size)⟩
end Go.PH
end

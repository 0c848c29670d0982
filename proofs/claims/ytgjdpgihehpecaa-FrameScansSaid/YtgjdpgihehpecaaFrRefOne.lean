/- The walk of the reference's One. -/
import Derived.Test.YtgjdpgihehpecaaFrRefWell
import Derived.Test.YtgjdpgihehpecaaFrPut
import Derived.Test.YtgjdpgihehpecaaBox
namespace Go.PH
open Go.RowKit Go.Proofs

theorem or_u16 (x y : Nat) (hx : x < 256) (hy : y < 256) : bits .or .u16 ((256 * x : Nat) : Int) (y : Int) = ((256 * x + y : Nat) : Int) := by
  have e1 : ∀ k : Nat, k < 65536 → (BitVec.ofInt 16 ((k : Nat) : Int)).toNat = k := fun k hk => by rw [BitVec.toNat_ofInt]; omega
  show IntKind.u16.wrap ((BitVec.ofInt 16 ((256 * x : Nat) : Int) ||| BitVec.ofInt 16 (y : Int)).toNat : Int) = _
  have h2 := Nat.two_pow_add_eq_or_of_lt (i := 8) (b := y) (by omega) x
  rw [BitVec.toNat_or, e1 _ (by omega), e1 _ (by omega), show 256 * x = 2 ^ 8 * x by omega, ← h2]
  exact IntWalk.u16_in _ ⟨by omega, by omega⟩
def frOne (b : List UInt8) : Fr × Nat :=
  if b.length < 12 ∨ frWell b = false ∨ b.length < frN b then (⟨false, false, false, false, 0, 0, 0, []⟩, 0) else (frAt b (frN b), frN b)
theorem frOne_no {b : List UInt8} (h : b.length < 12 ∨ frWell b = false ∨ b.length < frN b) : frOne b = (⟨false, false, false, false, 0, 0, 0, []⟩, 0) := if_pos h
theorem frOne_yes {b : List UInt8} (h1 : 12 ≤ b.length) (h2 : frWell b = true) (h3 : frN b ≤ b.length) : frOne b = (frAt b (frN b), frN b) := if_neg (by rw [h2]; simp; omega)
def zf : Array Value := #[.bool false, .bool false, .bool false, .bool false, .int .u8 0, .int .u8 0, .int .u16 0, .string ⟨#[]⟩]
theorem zf_eq : zf = #[.bool false, .bool false, .bool false, .bool false, .int .u8 0, .int .u8 0, .int .u16 0, .string ⟨#[]⟩] := rfl
set_option maxRecDepth 20000 in
set_option maxHeartbeats 4000000 in
theorem rone_any (A : Option Addr) (n c : Nat) (b : List UInt8) (B : Nat) (w : World) (hr : RdB w B A n c b) (hB : B ≤ w.heap.size) (hn : n ≤ 1000000000) :
    Calls Try.prog 25 #[.slice A n c] w fun e w' => e = .returned (.tuple #[.agg (frV (frOne b).1), .int .i64 (frOne b).2]) ∧ Below w.heap.size w w' := by
  have hl := RdB.length hr
  have hcap := hr.cap
  obtain ⟨w0, hw0⟩ : ∃ w0, w0 = w.alloc (.cells zf 24) := ⟨_, rfl⟩
  have hB0 : Below w.heap.size w w0 := by rw [hw0]; exact (Below.refl _ _).alloc (Nat.le_refl _) _
  have hr0 := hr.below (hB0.mono hB)
  have hbx0 : Box w0 w.heap.size 24 zf := by rw [hw0]; exact Box.new _ _ _
  have hz0 := hB0.size
  by_cases h12 : n < 12
  · have hd12 : (n : Int) < 12 := by omega
    rw [frOne_no (.inl (by omega))]
    clear hl h12
    go_enter Try.func25, Try.ntmps25
    go_wp2_with (first | (with_reducible refine hold_append ?_) | (with_reducible refine hold_make ?_) | (with_reducible refine hold_copy ?_) | (with_reducible refine hold_store ?_))
    rw [← zf_eq, ← hw0]
    refine unhold (wp_box (v := .agg zf) (vs := zf.toList) rfl rfl rfl rfl hbx0 rfl (by kernel_rfl) (by decide) (by decide) zf rfl ?_)
    intro w1 hb1 hg1 _
    go_wp2_with (first | (with_reducible refine hold_append ?_) | (with_reducible refine hold_make ?_) | (with_reducible refine hold_copy ?_))
    (try simp only [Exit.inBlock, Exit.then])
    refine ret_box_tmp rfl hb1 rfl rfl Try.underlying24 rfl (by kernel_rfl) rfl ?_
    exact ⟨rfl, hB0.grown hg1 hz0 (fun g hg => by injection hg with hg; omega)⟩
  · have hd12 : ¬ (n : Int) < 12 := by omega
    have hwl := rwell_any A n c b B w0 hr0 (by omega) (by omega)
    cases hwell : frWell b
    · rw [frOne_no (.inr (.inl hwell))]
      rw [hwell, hw0, zf_eq] at hwl
      clear hwell hl h12
      go_enter Try.func25, Try.ntmps25
      go_wp2_with (first | (with_reducible refine hold_append ?_) | (with_reducible refine hold_make ?_) | (with_reducible refine hold_copy ?_) | (with_reducible refine hold_store ?_))
      rw [← zf_eq]
      refine hwl.mono ?_
      rintro e w1 ⟨rfl, hB1⟩
      rw [← zf_eq, ← hw0] at hB1
      have hb1 := hbx0.below hB1
      have hB2 := hB0.trans (hB1.mono hz0)
      go_wp2_with (first | (with_reducible refine hold_append ?_) | (with_reducible refine hold_make ?_) | (with_reducible refine hold_copy ?_) | (with_reducible refine hold_store ?_))
      refine unhold (wp_box (v := .agg zf) (vs := zf.toList) rfl rfl rfl rfl hb1 rfl (by kernel_rfl) (by decide) (by decide) zf rfl ?_)
      intro w2 hb2 hg2 _
      go_wp2_with (first | (with_reducible refine hold_append ?_) | (with_reducible refine hold_make ?_) | (with_reducible refine hold_copy ?_))
      (try simp only [Exit.inBlock, Exit.then])
      refine ret_box_tmp rfl hb2 rfl rfl Try.underlying24 rfl (by kernel_rfl) rfl ?_
      exact ⟨rfl, hB2.grown hg2 hB2.size (fun g hg => by injection hg with hg; omega)⟩
    · have hNb := frWell_n hwell (by omega)
      have hx0b := frWell_at hwell (k := 0) (by omega) (by omega) (by omega)
      have hx2 := byteN_lt b 2
      have hx3 := byteN_lt b 3
      have hx6 := byteN_lt b 6
      have hx7 := byteN_lt b 7
      have hn2 : (2 : Int) < (n : Int) := by omega
      have hn3 : (3 : Int) < (n : Int) := by omega
      obtain ⟨N, hN⟩ : ∃ N, N = frN b := ⟨_, rfl⟩
      have hNe := frN_eq b
      have HW := Lib.hid hwell
      rw [hwell, hw0, zf_eq] at hwl
      clear hwell
      obtain ⟨bk, off, rfl, hbkB, h2l, hc2⟩ := RdB.at_k hr0 (show 2 < n by omega)
      obtain ⟨bk', off', e3, _, h3l, hc3⟩ := RdB.at_k hr0 (show 3 < n by omega)
      obtain ⟨rfl, rfl⟩ : bk = bk' ∧ off = off' := by simpa using e3
      clear e3
      rw [← byteN_eq h2l] at hc2
      rw [← byteN_eq h3l] at hc3
      have hw1 : IntKind.i64.wrap (256 * ((byteN b 2 : Nat) : Int)) = ((256 * byteN b 2 : Nat) : Int) := by rw [IntWalk.i64_in _ ⟨by omega, by omega⟩]; omega
      have hw20 : IntKind.i64.wrap ((byteN b 2 : Nat) : Int) = (byteN b 2 : Int) := IntWalk.i64_in _ ⟨by omega, by omega⟩
      have hw3 : IntKind.i64.wrap ((byteN b 3 : Nat) : Int) = (byteN b 3 : Int) := IntWalk.i64_in _ ⟨by omega, by omega⟩
      have hw2 : IntKind.i64.wrap (((256 * byteN b 2 : Nat) : Int) + (byteN b 3 : Int)) = ((N : Nat) : Int) := by rw [IntWalk.i64_in _ ⟨by omega, by omega⟩, hN, hNe]; omega
      rw [← hN] at hNb
      have HN := Lib.hid hN
      clear hN hNe
      generalize byteN b 2 = x2 at *
      generalize byteN b 3 = x3 at *
      generalize (256 * x2 : Nat) = m at *
      go_enter Try.func25, Try.ntmps25
      go_wp2_with (first | (with_reducible refine hold_append ?_) | (with_reducible refine hold_make ?_) | (with_reducible refine hold_copy ?_) | (with_reducible refine hold_store ?_))
      rw [← zf_eq]
      refine hwl.mono ?_
      rintro e w1 ⟨rfl, hB1⟩
      rw [← zf_eq, ← hw0] at hB1
      have hb1 := hbx0.below hB1
      have hB2 := hB0.trans (hB1.mono hz0)
      have hc21 := cell_stays hc2 hB1
      have hc31 := cell_stays hc3 hB1
      clear hwl hw0 hc2 hc3
      go_wp2_with (first | (with_reducible refine hold_append ?_) | (with_reducible refine hold_make ?_) | (with_reducible refine hold_copy ?_) | (with_reducible refine hold_store ?_))
      go_quiet (fail)
      by_cases hlen : n < N
      · have hdl : (n : Int) < (N : Int) := by omega
        have HF := Lib.hid (frOne_no (b := b) (.inr (.inr (by rw [← HN.out]; omega))))
        clear hlen hl
        go_wp2_with (first | (with_reducible refine hold_append ?_) | (with_reducible refine hold_make ?_) | (with_reducible refine hold_copy ?_) | (with_reducible refine hold_store ?_))
        refine unhold (wp_box (v := .agg zf) (vs := zf.toList) rfl rfl rfl rfl (show Box (w1.drewN _) _ _ _ from hb1) rfl (by kernel_rfl) (by decide) (by decide) zf rfl ?_)
        intro w2 hb2 hg2 _
        go_wp2_with (first | (with_reducible refine hold_append ?_) | (with_reducible refine hold_make ?_) | (with_reducible refine hold_copy ?_))
        (try simp only [Exit.inBlock, Exit.then])
        refine ret_box_tmp rfl hb2 rfl rfl Try.underlying24 rfl (by kernel_rfl) rfl ?_
        rw [HF.out]
        exact ⟨rfl, (below_drewN hB2 _).grown hg2 hB2.size (fun g hg => by injection hg with hg; omega)⟩
      · have hdl : ¬ (n : Int) < (N : Int) := by omega
        have HF := Lib.hid (frOne_yes (b := b) (by omega) HW.out (by rw [← HN.out]; omega))
        have hBn := below_drewN hB2 nq
        have hzn := hBn.size
        have hbn : Box (w1.drewN nq) w.heap.size 24 zf := hb1
        have hrn : RdB (w1.drewN nq) B (some ⟨bk, off, none⟩) n c b := hr.below (hBn.mono hB)
        generalize w1.drewN nq = wn at *
        clear hB1 hB2 hb1 hc21 hc31 hB0 hbx0 hr0
        obtain ⟨bk0, off0, e0, _, h0l, hc0⟩ := RdB.at_k hrn (show 0 < n by omega)
        obtain ⟨bk1, off1, e1, _, h1l, hc1⟩ := RdB.at_k hrn (show 1 < n by omega)
        obtain ⟨bk5, off5, e5, _, h5l, hc5⟩ := RdB.at_k hrn (show 5 < n by omega)
        obtain ⟨bk6, off6, e6, _, h6l, hc6⟩ := RdB.at_k hrn (show 6 < n by omega)
        obtain ⟨bk7, off7, e7, _, h7l, hc7⟩ := RdB.at_k hrn (show 7 < n by omega)
        cases e0; cases e1; cases e5; cases e6; cases e7
        rw [← byteN_eq h0l] at hc0
        rw [← byteN_eq h1l] at hc1
        rw [← byteN_eq h5l] at hc5
        rw [← byteN_eq h6l] at hc6
        rw [← byteN_eq h7l] at hc7
        rw [Nat.add_zero] at hc0
        have hcut := rd_cut hrn 12 N c (by omega) (by omega) (Nat.le_refl _) (by omega)
        simp only [Nat.mul_one, ← List.map_take, ← List.map_drop] at hcut
        have hfr : Hid (frAt b N = ⟨byteN b 0 / 8 % 2 == 1, byteN b 0 / 4 % 2 == 1, byteN b 0 / 2 % 2 == 1, byteN b 0 % 2 == 1, byteN b 1, byteN b 5, 256 * byteN b 6 + byteN b 7, (b.take N).drop 12⟩) := Lib.hid rfl
        have hn0 : (0 : Int) < (n : Int) := by omega
        have hn1 : (1 : Int) < (n : Int) := by omega
        have hn5 : (5 : Int) < (n : Int) := by omega
        have hn6 : (6 : Int) < (n : Int) := by omega
        have hn7 : (7 : Int) < (n : Int) := by omega
        have hn0' : 0 < n := by omega
        obtain ⟨ch, hch⟩ : ∃ ch, ch = 256 * byteN b 6 + byteN b 7 := ⟨_, rfl⟩
        rw [← hch] at hfr
        have hchb : ch < 65536 := by omega
        have hx1 := byteN_lt b 1
        generalize byteN b 0 = x0 at *
        generalize byteN b 1 = x1 at *
        generalize byteN b 5 = x5 at *
        generalize byteN b 6 = x6 at *
        generalize byteN b 7 = x7 at *
        generalize (b.take N).drop 12 = ld at *
        have hw6 : IntKind.u16.wrap ((x6 : Nat) : Int) = (x6 : Int) := IntWalk.u16_in _ ⟨by omega, by omega⟩
        have hw7 : IntKind.u16.wrap ((x7 : Nat) : Int) = (x7 : Int) := IntWalk.u16_in _ ⟨by omega, by omega⟩
        go_wp2_with (first | (with_reducible refine hold_append ?_) | (with_reducible refine hold_make ?_) | (with_reducible refine hold_copy ?_) | (with_reducible refine hold_store ?_))
        have hbk : bk < w.heap.size := by omega
        have hw8 : IntKind.u16.wrap (((x6 : Nat) : Int) * 256) = ((256 * x6 : Nat) : Int) := by rw [IntWalk.u16_in _ ⟨by omega, by omega⟩]; omega
        have hor : bits .or .u16 ((256 * x6 : Nat) : Int) (x7 : Int) = (ch : Int) := by rw [or_u16 x6 x7 hx6 hx7, hch]
        clear hch
        generalize (256 * x6 : Nat) = m6 at *
        have hkeep : ∀ w' : World, Below w.heap.size wn w' → (fun wx : World => wx.cell? ⟨bk, off, none⟩ = some (.int .u8 (x0 : Int)) ∧ wx.cell? ⟨bk, off + 1, none⟩ = some (.int .u8 (x1 : Int)) ∧ wx.cell? ⟨bk, off + 5, none⟩ = some (.int .u8 (x5 : Int)) ∧ wx.cell? ⟨bk, off + 6, none⟩ = some (.int .u8 (x6 : Int)) ∧ wx.cell? ⟨bk, off + 7, none⟩ = some (.int .u8 (x7 : Int)) ∧ RdB wx B (cutA (some ⟨bk, off, none⟩) 1 12 c) (N - 12) (c - 12) ld) w' := fun w' h =>
          ⟨(h.cell (p := ⟨bk, off, none⟩) hbk).trans hc0, (h.cell (p := ⟨bk, off + 1, none⟩) hbk).trans hc1, (h.cell (p := ⟨bk, off + 5, none⟩) hbk).trans hc5, (h.cell (p := ⟨bk, off + 6, none⟩) hbk).trans hc6, (h.cell (p := ⟨bk, off + 7, none⟩) hbk).trans hc7, Rd.below hcut (h.mono hB)⟩
        have hS := hkeep wn.drew (below_drewN (Below.refl _ _) 1)
        simp only at hS hkeep
        refine rg_start (fun wx : World => wx.cell? ⟨bk, off, none⟩ = some (.int .u8 (x0 : Int)) ∧ wx.cell? ⟨bk, off + 1, none⟩ = some (.int .u8 (x1 : Int)) ∧ wx.cell? ⟨bk, off + 5, none⟩ = some (.int .u8 (x5 : Int)) ∧ wx.cell? ⟨bk, off + 6, none⟩ = some (.int .u8 (x6 : Int)) ∧ wx.cell? ⟨bk, off + 7, none⟩ = some (.int .u8 (x7 : Int)) ∧ RdB wx B (cutA (some ⟨bk, off, none⟩) 1 12 c) (N - 12) (c - 12) ld) (by kernel_rfl) ?_
        refine rg_take 0 (v := ?_) rfl (by kernel_rfl) (by kernel_rfl) (by kernel_rfl) hS rfl ?_ ?_
        rotate_left
        · intro wS hSw; go_simp; (with_reducible rfl)
        simp only [List.getElem_toArray, List.getElem_cons_zero, Act.put, List.setIfInBounds_toArray, List.set_cons_zero, List.set_cons_succ]
        refine rg_take 1 (v := ?_) rfl (by kernel_rfl) (by kernel_rfl) (by kernel_rfl) hS rfl ?_ ?_
        rotate_left
        · intro wS hSw; go_simp; (with_reducible rfl)
        simp only [List.getElem_toArray, List.getElem_cons_succ, List.getElem_cons_zero, Act.put, List.setIfInBounds_toArray, List.set_cons_zero, List.set_cons_succ]
        refine rg_take 2 (v := ?_) rfl (by kernel_rfl) (by kernel_rfl) (by kernel_rfl) hS rfl ?_ ?_
        rotate_left
        · intro wS hSw; go_simp; (with_reducible rfl)
        simp only [List.getElem_toArray, List.getElem_cons_succ, List.getElem_cons_zero, Act.put, List.setIfInBounds_toArray, List.set_cons_zero, List.set_cons_succ]
        refine rg_take 3 (v := ?_) rfl (by kernel_rfl) (by kernel_rfl) (by kernel_rfl) hS rfl ?_ ?_
        rotate_left
        · intro wS hSw; go_simp; (with_reducible rfl)
        simp only [List.getElem_toArray, List.getElem_cons_succ, List.getElem_cons_zero, Act.put, List.setIfInBounds_toArray, List.set_cons_zero, List.set_cons_succ]
        refine rg_take 4 (v := ?_) rfl (by kernel_rfl) (by kernel_rfl) (by kernel_rfl) hS rfl ?_ ?_
        rotate_left
        · intro wS hSw; go_simp; (with_reducible rfl)
        simp only [List.getElem_toArray, List.getElem_cons_succ, List.getElem_cons_zero, Act.put, List.setIfInBounds_toArray, List.set_cons_zero, List.set_cons_succ]
        refine rg_take 5 (v := ?_) rfl (by kernel_rfl) (by kernel_rfl) (by kernel_rfl) hS rfl ?_ ?_
        rotate_left
        · intro wS hSw; go_simp; (with_reducible rfl)
        simp only [List.getElem_toArray, List.getElem_cons_succ, List.getElem_cons_zero, Act.put, List.setIfInBounds_toArray, List.set_cons_zero, List.set_cons_succ]
        refine rg_take 6 (v := ?_) rfl (by kernel_rfl) (by kernel_rfl) (by kernel_rfl) hS rfl ?_ ?_
        rotate_left
        · intro wS hSw; go_simp; (with_reducible rfl)
        simp only [List.getElem_toArray, List.getElem_cons_succ, List.getElem_cons_zero, Act.put, List.setIfInBounds_toArray, List.set_cons_zero, List.set_cons_succ]
        refine rg_take 7 (v := ?_) rfl (by kernel_rfl) (by kernel_rfl) (by kernel_rfl) hS rfl ?_ ?_
        rotate_left
        · intro wS hSw; go_simp; (with_reducible rfl)
        simp only [List.getElem_toArray, List.getElem_cons_succ, List.getElem_cons_zero, Act.put, List.setIfInBounds_toArray, List.set_cons_zero, List.set_cons_succ]
        refine rg_take 8 (v := ?_) rfl (by kernel_rfl) (by kernel_rfl) (by kernel_rfl) hS rfl ?_ ?_
        rotate_left
        · intro wS hSw; go_simp; (with_reducible rfl)
        simp only [List.getElem_toArray, List.getElem_cons_succ, List.getElem_cons_zero, Act.put, List.setIfInBounds_toArray, List.set_cons_zero, List.set_cons_succ]
        refine rg_take 9 (v := ?_) rfl (by kernel_rfl) (by kernel_rfl) (by kernel_rfl) hS rfl ?_ ?_
        rotate_left
        · intro wS hSw; go_simp; (with_reducible rfl)
        simp only [List.getElem_toArray, List.getElem_cons_succ, List.getElem_cons_zero, Act.put, List.setIfInBounds_toArray, List.set_cons_zero, List.set_cons_succ]
        refine rg_take 10 (v := ?_) rfl (by kernel_rfl) (by kernel_rfl) (by kernel_rfl) hS rfl ?_ ?_
        rotate_left
        · intro wS hSw; go_simp; (with_reducible rfl)
        simp only [List.getElem_toArray, List.getElem_cons_succ, List.getElem_cons_zero, Act.put, List.setIfInBounds_toArray, List.set_cons_zero, List.set_cons_succ]
        refine rg_take 11 (v := ?_) rfl (by kernel_rfl) (by kernel_rfl) (by kernel_rfl) hS rfl ?_ ?_
        rotate_left
        · intro wS hSw; go_simp; (with_reducible rfl)
        simp only [List.getElem_toArray, List.getElem_cons_succ, List.getElem_cons_zero, Act.put, List.setIfInBounds_toArray, List.set_cons_zero, List.set_cons_succ]
        refine rg_take 12 (v := ?_) rfl (by kernel_rfl) (by kernel_rfl) (by kernel_rfl) hS rfl ?_ ?_
        rotate_left
        · intro wS hSw; go_simp; (with_reducible rfl)
        simp only [List.getElem_toArray, List.getElem_cons_succ, List.getElem_cons_zero, Act.put, List.setIfInBounds_toArray, List.set_cons_zero, List.set_cons_succ]
        refine rg_take 13 (v := ?_) rfl (by kernel_rfl) (by kernel_rfl) (by kernel_rfl) hS rfl ?_ ?_
        rotate_left
        · intro wS hSw; go_simp; (with_reducible rfl)
        simp only [List.getElem_toArray, List.getElem_cons_succ, List.getElem_cons_zero, Act.put, List.setIfInBounds_toArray, List.set_cons_zero, List.set_cons_succ]
        refine rg_take 14 (v := ?_) rfl (by kernel_rfl) (by kernel_rfl) (by kernel_rfl) hS rfl ?_ ?_
        rotate_left
        · intro wS hSw; go_simp; (with_reducible rfl)
        simp only [List.getElem_toArray, List.getElem_cons_succ, List.getElem_cons_zero, Act.put, List.setIfInBounds_toArray, List.set_cons_zero, List.set_cons_succ]
        refine rg_take 15 (v := ?_) rfl (by kernel_rfl) (by kernel_rfl) (by kernel_rfl) hS rfl ?_ ?_
        rotate_left
        · intro wS hSw; go_simp; (with_reducible rfl)
        simp only [List.getElem_toArray, List.getElem_cons_succ, List.getElem_cons_zero, Act.put, List.setIfInBounds_toArray, List.set_cons_zero, List.set_cons_succ]
        refine rg_take 16 (v := ?_) rfl (by kernel_rfl) (by kernel_rfl) (by kernel_rfl) hS rfl ?_ ?_
        rotate_left
        · intro wS hSw; go_simp; (with_reducible rfl)
        simp only [List.getElem_toArray, List.getElem_cons_succ, List.getElem_cons_zero, Act.put, List.setIfInBounds_toArray, List.set_cons_zero, List.set_cons_succ]
        refine rg_take 17 (v := ?_) rfl (by kernel_rfl) (by kernel_rfl) (by kernel_rfl) hS rfl ?_ ?_
        rotate_left
        · intro wS hSw; go_simp; (with_reducible rfl)
        simp only [List.getElem_toArray, List.getElem_cons_succ, List.getElem_cons_zero, Act.put, List.setIfInBounds_toArray, List.set_cons_zero, List.set_cons_succ]
        have hd1 : Bd (some (Value.int .i64 12)) 0 12 := .inr ⟨_, _, rfl, rfl⟩
        have hd2 : Bd (some (Value.int .i64 (N : Int))) n N := .inr ⟨_, _, rfl, rfl⟩
        refine rg_slice 18 slB rfl (by kernel_rfl) (by kernel_rfl) (by kernel_rfl) hS rfl rfl rfl hrn.max hrn.cap 12 N c hd1 hd2 (.inl ⟨rfl, rfl⟩) (fun h => by cases h) (by omega) (by omega) (Nat.le_refl _) (by omega) ?_
        simp only [List.getElem_toArray, List.getElem_cons_succ, List.getElem_cons_zero, Act.put, List.setIfInBounds_toArray, List.set_cons_zero, List.set_cons_succ]
        refine rg_take 19 (v := ?_) rfl (by kernel_rfl) (by kernel_rfl) (by kernel_rfl) hS rfl ?_ ?_
        rotate_left
        · intro wS hSw; have hv := run_strB (w := wS) hSw.2.2.2.2.2; go_simp; (with_reducible rfl)
        simp only [List.getElem_toArray, List.getElem_cons_succ, List.getElem_cons_zero, Act.put, List.setIfInBounds_toArray, List.set_cons_zero, List.set_cons_succ]
        refine rg_take 20 (v := ?_) rfl (by kernel_rfl) (by kernel_rfl) (by kernel_rfl) hS rfl ?_ ?_
        rotate_left
        · intro wS hSw; go_simp; (with_reducible rfl)
        simp only [List.getElem_toArray, List.getElem_cons_succ, List.getElem_cons_zero, Act.put, List.setIfInBounds_toArray, List.set_cons_zero, List.set_cons_succ]
        refine rg_one 21 rfl (by kernel_rfl) rfl (fun K hK => ?_)
        go_simp
        have hB3 : Below w.heap.size wn (wn.alloc (.cells zf 24)).drew := below_drewN ((Below.refl w.heap.size wn).alloc hzn _) 1
        have hb3 : Box (wn.alloc (.cells zf 24)).drew wn.heap.size 24 zf := Box.new wn _ _
        have hbr3 : Box (wn.alloc (.cells zf 24)).drew w.heap.size 24 zf := Box.alloc (w := wn) hbn _
        have hS3 := hkeep _ hB3
        rw [zf_eq] at hS3
        refine hK _ _ hS3 ?_
        clear hK K
        rw [← zf_eq] at hS3 ⊢
        have hlt3 : w.heap.size < wn.heap.size := hbn.lt
        generalize (wn.alloc (.cells zf 24)).drew = w3 at *
        refine rg_one 22 rfl (by kernel_rfl) rfl (fun K hK => ?_)
        refine op_box (v := .agg #[.bool false, .bool false, .bool false, .bool false, .int .u8 x1, .int .u8 x5, .int .u16 ch, .string (str ld)]) (vs := [.bool false, .bool false, .bool false, .bool false, .int .u8 x1, .int .u8 x5, .int .u16 ch, .string (str ld)]) rfl rfl rfl hb3 rfl (by kernel_rfl) (by simp [zf]) (by simp; exact ⟨rfl, rfl, rfl, rfl, rfl⟩) #[.bool false, .bool false, .bool false, .bool false, .int .u8 x1, .int .u8 x5, .int .u16 ch, .string (str ld)] rfl ?_
        intro w4 hb4 hg4 _
        have hB4 := hB3.grown hg4 (by have := hB3.size; omega) (fun g hg => by injection hg with hg; omega)
        have hbr4 := hbr3.grown hg4 (fun e => by injection e with e; omega)
        simp only [List.getElem_toArray, List.getElem_cons_succ, List.getElem_cons_zero, Act.put, List.setIfInBounds_toArray, List.set_cons_zero, List.set_cons_succ]
        refine hK _ _ (hkeep _ hB4) ?_
        clear hK K hb3 hbr3 hB3 hS3 hg4
        refine rg_end (by kernel_rfl) ?_
        have hx04 := (hkeep _ hB4).1
        go_wp2_with (first | (with_reducible refine hold_append ?_) | (with_reducible refine hold_make ?_) | (with_reducible refine hold_copy ?_) | (with_reducible refine hold_store ?_))
        refine unhold (wp_box (v := .bool ((x0 : Int) / 8 % 2 == 1)) (vs := [.bool ((x0 : Int) / 8 % 2 == 1)]) rfl rfl rfl rfl hb4 rfl (by kernel_rfl) (by simp) (by simp; rfl) #[.bool ((x0 : Int) / 8 % 2 == 1), .bool false, .bool false, .bool false, .int .u8 x1, .int .u8 x5, .int .u16 ch, .string (str ld)] rfl ?_)
        intro w5 hb5 hg5 hs5
        have hB5 := hB4.grown hg5 (by have := hB4.size; omega) (fun g hg => by injection hg with hg; omega)
        have hbr5 := hbr4.grown hg5 (fun e => by injection e with e; omega)
        clear hg5 hs5 hb4 hbr4 hx04
        have hx05 := (hkeep _ hB5).1
        go_wp2_with (first | (with_reducible refine hold_append ?_) | (with_reducible refine hold_make ?_) | (with_reducible refine hold_copy ?_) | (with_reducible refine hold_store ?_))
        refine unhold (wp_box (v := .bool ((x0 : Int) / 4 % 2 == 1)) (vs := [.bool ((x0 : Int) / 4 % 2 == 1)]) rfl rfl rfl rfl hb5 rfl (by kernel_rfl) (by simp) (by simp; rfl) #[.bool ((x0 : Int) / 8 % 2 == 1), .bool ((x0 : Int) / 4 % 2 == 1), .bool false, .bool false, .int .u8 x1, .int .u8 x5, .int .u16 ch, .string (str ld)] rfl ?_)
        intro w6 hb6 hg6 hs6
        have hB6 := hB5.grown hg6 (by have := hB5.size; omega) (fun g hg => by injection hg with hg; omega)
        have hbr6 := hbr5.grown hg6 (fun e => by injection e with e; omega)
        clear hg6 hs6 hb5 hbr5 hx05
        have hx06 := (hkeep _ hB6).1
        go_wp2_with (first | (with_reducible refine hold_append ?_) | (with_reducible refine hold_make ?_) | (with_reducible refine hold_copy ?_) | (with_reducible refine hold_store ?_))
        refine unhold (wp_box (v := .bool ((x0 : Int) / 2 % 2 == 1)) (vs := [.bool ((x0 : Int) / 2 % 2 == 1)]) rfl rfl rfl rfl hb6 rfl (by kernel_rfl) (by simp) (by simp; rfl) #[.bool ((x0 : Int) / 8 % 2 == 1), .bool ((x0 : Int) / 4 % 2 == 1), .bool ((x0 : Int) / 2 % 2 == 1), .bool false, .int .u8 x1, .int .u8 x5, .int .u16 ch, .string (str ld)] rfl ?_)
        intro w7 hb7 hg7 hs7
        have hB7 := hB6.grown hg7 (by have := hB6.size; omega) (fun g hg => by injection hg with hg; omega)
        have hbr7 := hbr6.grown hg7 (fun e => by injection e with e; omega)
        clear hg7 hs7 hb6 hbr6 hx06
        have hx07 := (hkeep _ hB7).1
        go_wp2_with (first | (with_reducible refine hold_append ?_) | (with_reducible refine hold_make ?_) | (with_reducible refine hold_copy ?_) | (with_reducible refine hold_store ?_))
        refine unhold (wp_box (v := .bool ((x0 : Int) % 2 == 1)) (vs := [.bool ((x0 : Int) % 2 == 1)]) rfl rfl rfl rfl hb7 rfl (by kernel_rfl) (by simp) (by simp; rfl) #[.bool ((x0 : Int) / 8 % 2 == 1), .bool ((x0 : Int) / 4 % 2 == 1), .bool ((x0 : Int) / 2 % 2 == 1), .bool ((x0 : Int) % 2 == 1), .int .u8 x1, .int .u8 x5, .int .u16 ch, .string (str ld)] rfl ?_)
        intro w8 hb8 hg8 hs8
        have hB8 := hB7.grown hg8 (by have := hB7.size; omega) (fun g hg => by injection hg with hg; omega)
        have hbr8 := hbr7.grown hg8 (fun e => by injection e with e; omega)
        clear hg8 hs8 hb7 hbr7 hx07
        obtain ⟨k0, k1, k2, k3, k4, k5, k6, k7⟩ : w8.cell? ⟨wn.heap.size, 0, none⟩ = some (.bool ((x0 : Int) / 8 % 2 == 1)) ∧ w8.cell? ⟨wn.heap.size, 1, none⟩ = some (.bool ((x0 : Int) / 4 % 2 == 1)) ∧ w8.cell? ⟨wn.heap.size, 2, none⟩ = some (.bool ((x0 : Int) / 2 % 2 == 1)) ∧ w8.cell? ⟨wn.heap.size, 3, none⟩ = some (.bool ((x0 : Int) % 2 == 1)) ∧ w8.cell? ⟨wn.heap.size, 4, none⟩ = some (.int .u8 (x1 : Int)) ∧ w8.cell? ⟨wn.heap.size, 5, none⟩ = some (.int .u8 (x5 : Int)) ∧ w8.cell? ⟨wn.heap.size, 6, none⟩ = some (.int .u16 (ch : Int)) ∧ w8.cell? ⟨wn.heap.size, 7, none⟩ = some (.string (str ld)) := ⟨hb8.cell rfl, hb8.cell rfl, hb8.cell rfl, hb8.cell rfl, hb8.cell rfl, hb8.cell rfl, hb8.cell rfl, hb8.cell rfl⟩
        go_wp2_with (first | (with_reducible refine hold_append ?_) | (with_reducible refine hold_make ?_) | (with_reducible refine hold_copy ?_) | (with_reducible refine hold_store ?_))
        refine unhold (wp_box (v := .agg #[.bool ((x0 : Int) / 8 % 2 == 1), .bool ((x0 : Int) / 4 % 2 == 1), .bool ((x0 : Int) / 2 % 2 == 1), .bool ((x0 : Int) % 2 == 1), .int .u8 x1, .int .u8 x5, .int .u16 ch, .string (str ld)]) (vs := (#[.bool ((x0 : Int) / 8 % 2 == 1), .bool ((x0 : Int) / 4 % 2 == 1), .bool ((x0 : Int) / 2 % 2 == 1), .bool ((x0 : Int) % 2 == 1), .int .u8 x1, .int .u8 x5, .int .u16 ch, .string (str ld)] : Array Value).toList) rfl rfl rfl rfl hbr8 rfl (by kernel_rfl) (by simp [zf]) (by simp; exact ⟨rfl, rfl, rfl, rfl, rfl, rfl, rfl, rfl⟩) #[.bool ((x0 : Int) / 8 % 2 == 1), .bool ((x0 : Int) / 4 % 2 == 1), .bool ((x0 : Int) / 2 % 2 == 1), .bool ((x0 : Int) % 2 == 1), .int .u8 x1, .int .u8 x5, .int .u16 ch, .string (str ld)] (by simp [zf]) ?_)
        intro w9 hb9 hg9 hs9
        have hB9 := hB8.grown hg9 (by have := hB8.size; omega) (fun g hg => by injection hg with hg; omega)
        have hBf := hBn.trans hB9
        go_wp2_with (first | (with_reducible refine hold_append ?_) | (with_reducible refine hold_make ?_) | (with_reducible refine hold_copy ?_))
        (try simp only [Exit.inBlock, Exit.then])
        refine ret_box_tmp rfl hb9 rfl rfl Try.underlying24 rfl (by kernel_rfl) rfl ?_
        rw [HF.out, ← HN.out, hfr.out]
        have e8 : ((x0 : Int) / 8 % 2 == 1) = (x0 / 8 % 2 == 1) := by rw [Bool.eq_iff_iff]; simp; omega
        have e4 : ((x0 : Int) / 4 % 2 == 1) = (x0 / 4 % 2 == 1) := by rw [Bool.eq_iff_iff]; simp; omega
        have e2 : ((x0 : Int) / 2 % 2 == 1) = (x0 / 2 % 2 == 1) := by rw [Bool.eq_iff_iff]; simp; omega
        have e1 : ((x0 : Int) % 2 == 1) = (x0 % 2 == 1) := by rw [Bool.eq_iff_iff]; simp; omega
        rw [e8, e4, e2, e1]
        exact ⟨rfl, hBf⟩
end Go.PH

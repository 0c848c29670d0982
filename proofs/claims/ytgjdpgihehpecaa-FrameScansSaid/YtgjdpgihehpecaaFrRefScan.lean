/- The walk of the reference's Scan. -/
import Derived.Test.YtgjdpgihehpecaaFrRefOne
namespace Go.PH
open Go.RowKit Go.Proofs

theorem frScan_none {b : List UInt8} (h : (frOne b).2 = 0) : frScan b = ([], 0, if frWell b = true then 0 else 60) := by
  by_cases hw : frWell b = false
  · rw [frScan_bad hw, hw]; rfl
  · have hw1 : frWell b = true := by simpa using hw
    rw [if_pos hw1]
    by_cases h12 : b.length < 12
    · exact frScan_short hw1 h12
    · by_cases hn : b.length < frN b
      · exact frScan_wait hw1 (by omega) hn
      · rw [frOne_yes (by omega) hw1 (by omega)] at h
        have := (frWell_n hw1 (by omega)).1
        simp only at h
        omega
theorem frScan_some {b : List UInt8} (h : (frOne b).2 ≠ 0) : (frScan b = ((frOne b).1 :: (frScan (b.drop (frOne b).2)).1, (frOne b).2 + (frScan (b.drop (frOne b).2)).2.1, (frScan (b.drop (frOne b).2)).2.2)) ∧ (frOne b).2 ≤ b.length := by
  by_cases hx : b.length < 12 ∨ frWell b = false ∨ b.length < frN b
  · rw [frOne_no hx] at h; exact absurd rfl h
  · have hx1 : 12 ≤ b.length := by omega
    have hx2 : frWell b = true := by
      cases hq : frWell b
      · exact absurd (.inr (.inl hq)) hx
      · rfl
    have hx3 : frN b ≤ b.length := by omega
    rw [frOne_yes hx1 hx2 hx3]
    exact ⟨frScan_more hx2 hx1 hx3, hx3⟩

set_option maxRecDepth 20000 in
set_option maxHeartbeats 4000000 in
theorem rscan_any (A : Option Addr) (n c : Nat) (b : List UInt8) (w : World) (hr : RdB w w.heap.size A n c b) (hn : n ≤ 1000000000) :
    Calls Try.prog 13 #[.slice A n c] w fun e w' => ∃ A2 c2, e = .returned (.tuple #[.slice A2 (frScan b).1.length c2, .int .i64 (frScan b).2.1, .int .i64 (frScan b).2.2]) ∧ OwnF w' w.heap.size A2 (frScan b).1.length c2 (frScan b).1 ∧ Below w.heap.size w w' := by
  have hl := RdB.length hr
  have hcap := hr.cap
  obtain ⟨fs, hfs⟩ : ∃ fs, fs = frScan b := ⟨_, rfl⟩
  rw [← hfs]
  go_enter Try.func13, Try.ntmps13
  go_wp2_with (first | (with_reducible refine hold_append ?_) | (with_reducible refine hold_make ?_) | (with_reducible refine hold_copy ?_))
  go_loopw [6, 5] (fun s v wr => ∃ (u N c2 : Nat) (A2 : Option Addr) (l : List Fr), u ≤ n ∧ s = .int .i64 u ∧ v = .slice A2 N c2 ∧ l.length = N ∧ N ≤ u ∧ fs = (l ++ (frScan (b.drop u)).1, u + (frScan (b.drop u)).2.1, (frScan (b.drop u)).2.2) ∧ OwnF wr w.heap.size A2 N c2 l ∧ Below w.heap.size w wr) (fun s _ _ => n - (intOf s).toNat)
  case atStart => exact ⟨0, 0, 0, none, [], by omega, rfl, rfl, rfl, by omega, by rw [hfs]; simp, Own.none_ _ _ _ _, Below.refl _ _⟩
  case round =>
    obtain ⟨u, N, c2, A2, l, hu, rfl, rfl, hlN, hNu, hsc, ho, hBr⟩ := hrel
    have HSC := Lib.hid hsc
    have HLN := Lib.hid hlN
    clear hsc hfs hlN
    have hz := hBr.size
    go_wp2_with (first | (with_reducible refine hold_append ?_) | (with_reducible refine hold_make ?_) | (with_reducible refine hold_copy ?_) | (with_reducible refine hold_slice ?_))
    refine unhold (wp_cutB slB rfl rfl rfl (hr.below hBr) u n c (.inr ⟨_, _, rfl, rfl⟩) (.inl ⟨rfl, rfl⟩) (.inl ⟨rfl, rfl⟩) (by intro h; cases h) (by omega) (by omega) (Nat.le_refl _) (Nat.le_refl _) ?_)
    intro A3 hr3 _
    simp only [Nat.mul_one] at hr3
    rw [List.take_of_length_le (by simp; omega), ← List.map_drop] at hr3
    have hrl : (b.drop u).length = n - u := by simp; omega
    generalize hrest : b.drop u = rest at *
    have HREST := Lib.hid hrest
    clear hrest
    obtain ⟨R, hR⟩ : ∃ R, R = n - u := ⟨_, rfl⟩
    obtain ⟨D, hD⟩ : ∃ D, D = c - u := ⟨_, rfl⟩
    rw [← hR, ← hD] at hr3 ⊢
    rw [← hR] at hrl
    have hRn : R ≤ 1000000000 := by omega
    have HRU := Lib.hid (show R + u = n by omega)
    clear hR hD
    have hrone := rone_any A3 R D rest w.heap.size wr hr3 hz hRn
    have HNO := Lib.hid (frScan_none (b := rest))
    have HYE := Lib.hid (frScan_some (b := rest))
    obtain ⟨on, hone⟩ : ∃ on, on = frOne rest := ⟨_, rfl⟩
    rw [← hone] at HNO HYE hrone
    clear hone
    obtain ⟨⟨b1, b2, b3, b4, ty, tr, ch, ld⟩, M⟩ := on
    simp only [frV] at HNO HYE hrone
    go_wp2_with (first | (with_reducible refine hold_append ?_) | (with_reducible refine hold_make ?_) | (with_reducible refine hold_copy ?_))
    refine hrone.mono ?_
    rintro e w1 ⟨rfl, hB1⟩
    have hB2 := hBr.trans (hB1.mono hz)
    have ho1 := own_below ho hB1
    have hz1 := hB2.size
    have hr31 : RdB w1 w.heap.size A3 R D rest := Rd.keep hr3 (fun p hp => hB1.cell (by omega))
    clear hrone ho hBr hB1
    have hb1' := Box.new w1 zf 24
    have hB2' : Below w.heap.size w (w1.alloc (.cells zf 24)) := hB2.alloc hz1 _
    have ho1' : OwnF (w1.alloc (.cells zf 24)) w.heap.size A2 N c2 l := ho1.alloc _
    have hAb : ∀ g, blk A2 = some g → g < w1.heap.size := fun g hg => (ho1.blk_lt hg).2
    rw [zf_eq] at hb1' hB2' ho1'
    by_cases hM : M = 0
    · have hd0 : (((M : Nat) : Int) == 0) = true := by simp [hM]
      have HF := Lib.hid (HNO.out hM)
      clear hM HYE
      go_wp2_with (first | (with_reducible refine hold_append ?_) | (with_reducible refine hold_make ?_) | (with_reducible refine hold_copy ?_) | (with_reducible refine hold_store ?_))
      refine unhold (wp_box (v := .agg #[.bool b1, .bool b2, .bool b3, .bool b4, .int .u8 (ty : Int), .int .u8 (tr : Int), .int .u16 (ch : Int), .string (str ld)]) (vs := (#[.bool b1, .bool b2, .bool b3, .bool b4, .int .u8 (ty : Int), .int .u8 (tr : Int), .int .u16 (ch : Int), .string (str ld)] : Array Value).toList) rfl rfl rfl rfl hb1' rfl (by kernel_rfl) (by simp) (by simp; exact ⟨rfl, rfl, rfl, rfl, rfl, rfl, rfl, rfl⟩) #[.bool b1, .bool b2, .bool b3, .bool b4, .int .u8 (ty : Int), .int .u8 (tr : Int), .int .u16 (ch : Int), .string (str ld)] (by simp) ?_)
      intro w2 hb2 hg2 hs2
      clear hs2
      have hB3 := hB2'.grown hg2 hB2'.size (fun g hg => by injection hg with hg; omega)
      have ho3 : OwnF w2 w.heap.size A2 N c2 l := own_stays ho1' hg2 (fun g hg e => by injection e with e; have := hAb g hg; omega)
      go_wp2_with (first | (with_reducible refine hold_append ?_) | (with_reducible refine hold_make ?_) | (with_reducible refine hold_copy ?_) | (with_reducible refine hold_slice ?_))
      refine unhold (wp_cutB slB rfl rfl rfl (hr.below hB3) u n c (.inr ⟨_, _, rfl, rfl⟩) (.inl ⟨rfl, rfl⟩) (.inl ⟨rfl, rfl⟩) (by intro h; cases h) (by omega) (by omega) (Nat.le_refl _) (Nat.le_refl _) ?_)
      intro A4 hr4 _
      simp only [Nat.mul_one] at hr4
      rw [List.take_of_length_le (by simp; omega), ← List.map_drop, HREST.out] at hr4
      have hwl := rwell_any A4 (n - u) (c - u) rest w.heap.size w2 hr4 hB3.size (by omega)
      cases hwell : frWell rest
      · rw [hwell] at hwl
        have HF2 := frScan_at HSC.out HF.out
        rw [hwell] at HF2
        have HF3 := Lib.hid HF2
        clear HF HF2 hwell
        go_wp2_with (first | (with_reducible refine hold_append ?_) | (with_reducible refine hold_make ?_) | (with_reducible refine hold_copy ?_))
        refine hwl.mono ?_
        rintro e w4 ⟨rfl, hB4⟩
        have hB5 := hB3.trans (hB4.mono hB3.size)
        have ho5 := own_below ho3 hB4
        go_wp2_with (first | (with_reducible refine hold_append ?_) | (with_reducible refine hold_make ?_) | (with_reducible refine hold_copy ?_))
        go_ret3
        rw [HF3.out]
        simp only [List.append_nil, Nat.add_zero]
        rw [HLN.out]
        exact ⟨A2, c2, rfl, ho5, hB5⟩
      · rw [hwell] at hwl
        have HF2 := frScan_at HSC.out HF.out
        rw [hwell] at HF2
        have HF3 := Lib.hid HF2
        clear HF HF2 hwell
        go_wp2_with (first | (with_reducible refine hold_append ?_) | (with_reducible refine hold_make ?_) | (with_reducible refine hold_copy ?_))
        refine hwl.mono ?_
        rintro e w4 ⟨rfl, hB4⟩
        have hB5 := hB3.trans (hB4.mono hB3.size)
        have ho5 := own_below ho3 hB4
        go_wp2_with (first | (with_reducible refine hold_append ?_) | (with_reducible refine hold_make ?_) | (with_reducible refine hold_copy ?_))
        go_ret3
        rw [HF3.out]
        simp only [List.append_nil, Nat.add_zero]
        rw [HLN.out]
        exact ⟨A2, c2, rfl, ho5, hB5⟩
    · have hd0 : (((M : Nat) : Int) == 0) = false := by simp [hM]
      obtain ⟨hf, hMl⟩ := HYE.out hM
      have HF := Lib.hid (frScan_at HSC.out hf)
      have hM1 : 1 ≤ M := by omega
      clear hM HYE HNO hf
      go_wp2_with (first | (with_reducible refine hold_append ?_) | (with_reducible refine hold_make ?_) | (with_reducible refine hold_copy ?_) | (with_reducible refine hold_store ?_))
      refine unhold (wp_box (v := .agg #[.bool b1, .bool b2, .bool b3, .bool b4, .int .u8 (ty : Int), .int .u8 (tr : Int), .int .u16 (ch : Int), .string (str ld)]) (vs := (#[.bool b1, .bool b2, .bool b3, .bool b4, .int .u8 (ty : Int), .int .u8 (tr : Int), .int .u16 (ch : Int), .string (str ld)] : Array Value).toList) rfl rfl rfl rfl hb1' rfl (by kernel_rfl) (by simp) (by simp; exact ⟨rfl, rfl, rfl, rfl, rfl, rfl, rfl, rfl⟩) #[.bool b1, .bool b2, .bool b3, .bool b4, .int .u8 (ty : Int), .int .u8 (tr : Int), .int .u16 (ch : Int), .string (str ld)] (by simp) ?_)
      intro w2 hb2 hg2 hs2
      clear hs2
      have hB3 := hB2'.grown hg2 hB2'.size (fun g hg => by injection hg with hg; omega)
      have ho3 : OwnF w2 w.heap.size A2 N c2 l := own_stays ho1' hg2 (fun g hg e => by injection e with e; have := hAb g hg; omega)
      have k0 := hb2.cell (j := 0) rfl
      have k1 := hb2.cell (j := 1) rfl
      have k2 := hb2.cell (j := 2) rfl
      have k3 := hb2.cell (j := 3) rfl
      have k4 := hb2.cell (j := 4) rfl
      have k5 := hb2.cell (j := 5) rfl
      have k6 := hb2.cell (j := 6) rfl
      have k7 := hb2.cell (j := 7) rfl
      have hwu : IntKind.i64.wrap ((u : Int) + (M : Int)) = ((u + M : Nat) : Int) := by rw [IntWalk.i64_in _ ⟨by omega, by omega⟩]; omega
      go_wp2_with (first | (with_reducible refine hold_append ?_) | (with_reducible refine hold_make ?_) | (with_reducible refine hold_copy ?_))
      refine unhold (wp_rec frShape slF Try.underlying34 rfl rfl rfl rfl rfl ⟨b1, b2, b3, b4, ty, tr, ch, ld⟩ rfl ho3 (by omega) (by omega) hB3.size ?_)
      intro A8 c8 w8 ho8 hg8 _ hB38
      have hB9 := hB3.trans hB38
      have hdr : rest.drop M = b.drop (u + M) := by rw [← HREST.out, List.drop_drop]
      have hfs2 : fs = ((l ++ [⟨b1, b2, b3, b4, ty, tr, ch, ld⟩]) ++ (frScan (b.drop (u + M))).1, (u + M) + (frScan (b.drop (u + M))).2.1, (frScan (b.drop (u + M))).2.2) := by
        rw [HF.out, hdr]; simp [Nat.add_assoc]
      have HFS := Lib.hid hfs2
      clear hdr hfs2 HF k0 k1 k2 k3 k4 k5 k6 k7
      go_wp2_with (first | (with_reducible refine hold_append ?_) | (with_reducible refine hold_make ?_) | (with_reducible refine hold_copy ?_))
      have hRU := HRU.out
      exact ⟨⟨u + M, N + 1, c8, A8, l ++ [⟨b1, b2, b3, b4, ty, tr, ch, ld⟩], by omega, by first | rfl | go_num, rfl, by simp [HLN.out], by omega, HFS.out, ho8, hB9⟩, by simp [intOf]; omega⟩
end Go.PH

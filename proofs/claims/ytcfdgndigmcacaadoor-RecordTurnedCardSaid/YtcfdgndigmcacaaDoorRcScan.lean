/- The walk of record's Scan. -/
import Derived.Test.YtcfdgndigmcacaaDoorRcPut
import Derived.Test.YtcfdgndigmcacaaDoorCrcWalk2
import Derived.Test.YtcfdgndigmcacaaDoorOctRead2
import Derived.WalkMore
namespace Go.PH
open Go.RowKit Go.Proofs

theorem rcScan_of {rest : List UInt8} {w : Nat} (h : rcOne rest = (⟨0, []⟩, 0, w)) : rcScan rest = ([], 0, w) := by rw [rcScan_none (by rw [h]), h]
theorem rcScan_more {rest : List UInt8} {r : Rc} {m w : Nat} (h : rcOne rest = (r, m, w)) (hm : m ≠ 0) : rcScan rest = (r :: (rcScan (rest.drop m)).1, m + (rcScan (rest.drop m)).2.1, (rcScan (rest.drop m)).2.2) := by rw [rcScan_some (by rw [h]; exact hm), h]
theorem rnum_ok {l : List UInt8} {x : Nat} (hx : x = 1 ∨ x = 2 ∨ x = 4 ∨ x = 8) (h : x ≤ l.length) : mnum l false (x : Int) = (unbe (l.take x), l.drop x, false) := by
  rw [mnum_yes (wideB_yes (by omega)), mtake_yes h]
/-- what stands between the rows and the bytes that are scanned -/
def RcSc (b : List UInt8) (u : Nat) (l : List Rc) : Prop := rcScan b = (l ++ (rcScan (b.drop u)).1, u + (rcScan (b.drop u)).2.1, (rcScan (b.drop u)).2.2)
theorem RcSc.start (b : List UInt8) : RcSc b 0 [] := by unfold RcSc; simp
theorem RcSc.fin {b rest : List UInt8} {u w : Nat} {l : List Rc} (h : RcSc b u l) (hr : b.drop u = rest) (h1 : rcOne rest = (⟨0, []⟩, 0, w)) : rcScan b = (l, u, w) := by
  unfold RcSc at h; rw [h, hr, rcScan_of h1]; simp
theorem RcSc.step {b rest : List UInt8} {u m : Nat} {l : List Rc} {r : Rc} (h : RcSc b u l) (hr : b.drop u = rest) (h1 : rcOne rest = (r, m, 0)) (hm : m ≠ 0) : RcSc b (u + m) (l ++ [r]) := by
  unfold RcSc at h ⊢
  rw [h, hr, rcScan_more h1 hm, ← List.drop_drop, hr]
  simp [Nat.add_assoc]
theorem rcN_eq (b : List UInt8) : rcN b = unbe ((b.take 5).drop 1) := rfl
theorem rcN_lt (b : List UInt8) (h : 5 ≤ b.length) : rcN b < 4294967296 := by
  have := unbe_lt ((b.take 5).drop 1)
  rw [show ((b.take 5).drop 1).length = 4 by rw [List.length_drop, List.length_take]; omega] at this
  exact this
theorem own_ne {w : World} {base e size n c : Nat} {A A2 : Option Addr} {xs : List Value} (h : Own w base e size A n c xs) (hA : ∀ g, blk A2 = some g → g < base) : blk A = none ∨ blk A ≠ blk A2 := by
  cases hb : blk A with
  | none => exact .inl rfl
  | some g => exact .inr fun e => by have := (h.blk_lt hb).1; have := hA g e.symm; omega
set_option maxRecDepth 20000 in
set_option maxHeartbeats 4000000 in
theorem rcscan_any (b : List UInt8) (w : World) (ht : TabAt w) (hg0 : 0 < w.heap.size) (hn : b.length ≤ 1000000000) :
    Calls Tryd.prog 13 #[.string (str b)] w fun e w' => ∃ A2 c2, e = .returned (.tuple #[.slice A2 (rcScan b).1.length c2, .int .i64 ((rcScan b).2.1 : Nat), .int .u8 ((rcScan b).2.2 : Nat)]) ∧ OwnR w' w.heap.size A2 (rcScan b).1.length c2 (rcScan b).1 ∧ Below w.heap.size w w' := by
  obtain ⟨n, hbl⟩ : ∃ n, b.length = n := ⟨_, rfl⟩
  rw [hbl] at hn
  go_enter Tryd.func13, Tryd.ntmps13
  go_wp2_with (first | (with_reducible refine hold_append ?_) | (with_reducible refine hold_make ?_) | (with_reducible refine hold_copy ?_))
  go_step3
  go_wp2_with (first | (with_reducible refine hold_append ?_) | (with_reducible refine hold_make ?_) | (with_reducible refine hold_copy ?_))
  go_step3
  go_wp2_with (first | (with_reducible refine hold_append ?_) | (with_reducible refine hold_make ?_) | (with_reducible refine hold_copy ?_))
  go_loopw [6, 5, 7] (fun s v st wr => ∃ (u N c2 : Nat) (A2 : Option Addr) (l : List Rc), u ≤ n ∧ s = .int .i64 u ∧ v = .slice A2 N c2 ∧ st = .int .u8 0 ∧ Hid (RcSc b u l) ∧ Hid (l.length = N) ∧ N ≤ u ∧ OwnR wr w.heap.size A2 N c2 l ∧ Below w.heap.size w wr) (fun s _ _ _ => n - (intOf s).toNat)
  case atStart => exact ⟨0, 0, 0, none, [], by omega, rfl, rfl, rfl, Lib.hid (RcSc.start b), Lib.hid rfl, by omega, Own.none_ _ _ _ _, Below.refl _ _⟩
  case round =>
    obtain ⟨u, N, c2, A2, l, hu, rfl, rfl, rfl, HSC, HLN, hNu, ho, hB⟩ := hrel
    have hz := hB.size
    go_wp2_with (first | (with_reducible refine hold_append ?_) | (with_reducible refine hold_make ?_) | (with_reducible refine hold_copy ?_) | (with_reducible refine hold_slice ?_) | (with_reducible refine hold_conv (s := 9) (t := 31) ?_))
    refine unhold (wp_cutS Tryd.underlying9 rfl rfl rfl (l := b) u n (.inr ⟨_, _, rfl, rfl⟩) (.inl ⟨rfl, hbl.symm⟩) hu (by omega) ?_)
    rw [List.take_of_length_le (by omega)]
    have hrl : (b.drop u).length = n - u := by simp; omega
    generalize hrest : b.drop u = rest at *
    have HREST := Lib.hid hrest
    clear hrest
    obtain ⟨R, hR⟩ : ∃ R, R = n - u := ⟨_, rfl⟩
    rw [← hR] at hrl
    have HRU := Lib.hid (show R + u = n by omega)
    have hRn : R ≤ 1000000000 := by omega
    clear hR
    have hss : (str rest).size = R := by rw [str_size]; exact hrl
    by_cases h0 : rest = []
    · have hq : (str rest).toList.isEmpty = true := by rw [h0, str_toList]; rfl
      have HF := Lib.hid (HSC.out.fin HREST.out (w := 0) (by rw [h0]; rfl))
      clear h0 hss
      go_wp2_with (first | (with_reducible refine hold_append ?_) | (with_reducible refine hold_make ?_) | (with_reducible refine hold_copy ?_))
      go_wp2_with (first | (with_reducible refine hold_append ?_) | (with_reducible refine hold_make ?_) | (with_reducible refine hold_copy ?_))
      rw [Exit.noGoto_ret]
      go_ret3
      rw [HF.out]
      simp only
      rw [HLN.out]
      exact ⟨A2, c2, rfl, ho, hB⟩
    · have hq : (str rest).toList.isEmpty = false := by rw [str_toList]; simpa using h0
      by_cases h9 : R < 9
      · have hd9 : ((str rest).size : Int) < 9 := by omega
        have HF := Lib.hid (HSC.out.fin HREST.out (rcOne_short h0 (by omega)))
        clear h0 hss
        go_wp2_with (first | (with_reducible refine hold_append ?_) | (with_reducible refine hold_make ?_) | (with_reducible refine hold_copy ?_))
        go_wp2_with (first | (with_reducible refine hold_append ?_) | (with_reducible refine hold_make ?_) | (with_reducible refine hold_copy ?_))
        rw [Exit.noGoto_ret]
        go_ret3
        rw [HF.out]
        simp only
        rw [HLN.out]
        exact ⟨A2, c2, rfl, ho, hB⟩
      · have hd9 : ¬ ((str rest).size : Int) < 9 := by omega
        clear h0
        go_wp2_with (first | (with_reducible refine hold_append ?_) | (with_reducible refine hold_make ?_) | (with_reducible refine hold_copy ?_) | (with_reducible refine hold_slice ?_) | (with_reducible refine hold_conv (s := 9) (t := 31) ?_))
        refine unhold (wp_cutS Tryd.underlying9 rfl rfl rfl (l := rest) 0 9 (.inl ⟨rfl, rfl⟩) (.inr ⟨_, _, rfl, rfl⟩) (by omega) (by omega) ?_)
        rw [List.drop_zero]
        have hx9 : (rest.take 9).length = 9 := by rw [List.length_take]; omega
        have hxo : (rest.take 9).take 5 = rest.take 5 := by rw [List.take_take]; rfl
        go_wp2_with (first | (with_reducible refine hold_append ?_) | (with_reducible refine hold_make ?_) | (with_reducible refine hold_copy ?_) | (with_reducible refine hold_slice ?_) | (with_reducible refine hold_conv (s := 9) (t := 31) ?_))
        refine unhold (wp_s2b Tryd.underlying9 Tryd.underlying31 Tryd.underlying5 rfl rfl rfl (l := rest.take 9) (by omega) ?_)
        rw [hx9]
        intro c3 w3 hr3 hB3
        have hB4 := hB.trans (hB3.mono hz)
        have ho3 := own_below ho hB3
        have hz4 := hB4.size
        have hop := open_any _ 9 c3 _ w3 hr3 (ht.below hB4 hg0) (Nat.lt_of_lt_of_le hg0 hB4.size) (by omega)
        have hAb : ∀ g, blk A2 = some g → g < w3.heap.size := fun g hg => (ho3.blk_lt hg).2
        clear hB hB3 ho hr3
        cases hopn : opens (rest.take 9)
        · have HF := Lib.hid (HSC.out.fin HREST.out (rcOne_head (by omega) hopn))
          rw [hopn] at hop
          clear hopn hss
          generalize (opn (rest.take 9)).length = m at *
          generalize opn (rest.take 9) = y at *
          go_wp2_with (first | (with_reducible refine hold_append ?_) | (with_reducible refine hold_make ?_) | (with_reducible refine hold_copy ?_))
          refine hop.mono ?_
          rintro e w4 ⟨A4, c4, rfl, _, hB5⟩
          have hB6 := hB4.trans (hB5.mono hz4)
          have ho4 := own_below ho3 hB5
          go_wp2_with (first | (with_reducible refine hold_append ?_) | (with_reducible refine hold_make ?_) | (with_reducible refine hold_copy ?_))
          rw [Exit.noGoto_ret]
          go_ret3
          rw [HF.out]
          simp only
          rw [HLN.out]
          exact ⟨A2, c2, rfl, ho4, hB6⟩
        · have hopl : opn (rest.take 9) = rest.take 5 := by rw [opn_of hopn, hx9, hxo]
          have hl5 : (rest.take 5).length = 5 := by rw [List.length_take]; omega
          rw [hopn, hopl, hl5] at hop
          clear hxo hopl hx9
          have hN := rcN_eq rest
          have hNb : rcN rest < 4294967296 := rcN_lt rest (by omega)
          have HGR := rcOne_great (b := rest) (by omega) hopn
          have HTN := rcOne_torn (b := rest) (by omega) hopn
          have HDT := rcOne_data (b := rest) (by omega) hopn
          have HYE := rcOne_yes (b := rest) (by omega) hopn
          obtain ⟨x0, hx0⟩ : ∃ x0, x0 = (rest.getD 0 0).toNat := ⟨_, rfl⟩
          have h50 : (rest.take 5)[0]? = some (UInt8.ofNat x0) := by
            rw [List.getElem?_take, if_pos (by omega), List.getElem?_eq_getElem (by omega), hx0]
            simp [List.getD, List.getElem?_eq_getElem (show 0 < rest.length by omega)]
          rw [← hx0] at HYE
          have hx0b : x0 < 256 := by rw [hx0]; exact (rest.getD 0 0).toNat_lt
          clear hx0
          obtain ⟨N0, hN0⟩ : ∃ N0, N0 = rcN rest := ⟨_, rfl⟩
          rw [← hN0] at HGR HTN HDT HYE hNb hN
          clear hN0 hopn
          generalize rest.take 5 = hd at *
          have hmn : mnum (hd.drop 1) false 4 = (N0, (hd.drop 1).drop 4, false) := by
            refine (rnum_ok (x := 4) (by omega) (by rw [List.length_drop]; omega)).trans ?_
            rw [hN, List.take_of_length_le (by rw [List.length_drop]; omega)]
          clear hN
          go_wp2_with (first | (with_reducible refine hold_append ?_) | (with_reducible refine hold_make ?_) | (with_reducible refine hold_copy ?_))
          refine hop.mono ?_
          rintro e w4 ⟨A4, c4, rfl, hoh, hB5⟩
          have hB6 := hB4.trans (hB5.mono hz4)
          have ho4 := own_below ho3 hB5
          have hz6 := hB6.size
          clear hop ho3 hB4
          go_wp2_with (first | (with_reducible refine hold_append ?_) | (with_reducible refine hold_make ?_) | (with_reducible refine hold_copy ?_) | (with_reducible refine hold_slice ?_))
          refine unhold (wp_cutB slB rfl rfl rfl hoh.rd 1 5 c4 (.inr ⟨_, _, rfl, rfl⟩) (.inl ⟨rfl, rfl⟩) (.inl ⟨rfl, rfl⟩) (by intro h; cases h) (by omega) hoh.rd.cap (Nat.le_refl _) (Nat.le_refl _) ?_)
          intro A5 hr5 _
          simp only [Nat.mul_one] at hr5
          rw [List.take_of_length_le (by rw [List.length_map]; omega), ← List.map_drop] at hr5
          go_wp2_with (first | (with_reducible refine hold_append ?_) | (with_reducible refine hold_make ?_) | (with_reducible refine hold_copy ?_))
          refine (rdopen_any A5 4 (c4 - 1) (hd.drop 1) w4 hr5 (by omega)).mono ?_
          rintro e w5 ⟨rb, vb, rfl, hrb, hvb, hRd, hB7⟩
          have hB8 := hB6.trans (hB7.mono hz6)
          have ho5 := own_below ho4 hB7
          have hoh5 := own_below hoh hB7
          have hFv : w4.heap.size ≤ vb ∧ vb < w5.heap.size := hRd.inF rfl
          have hA4 : ∀ g, blk A2 = some g → some vb ≠ some g := fun g hg e => by injection e with e; have := hAb g hg; have := hB5.size; omega
          have hAh : ∀ g, blk A4 = some g → some vb ≠ some g := fun g hg e => by injection e with e; have := (hoh.blk_lt hg).2; omega
          have hvw : ∀ g, some vb = some g → w.heap.size ≤ g := fun g hg => by injection hg with hg; omega
          have hnm := rdnum_any hRd 4 (by omega) (by omega)
          rw [hmn] at hnm
          have hz8 := hB8.size
          clear hr5 hmn hoh ho4 hB6 hB7 hRd
          go_wp2_with (first | (with_reducible refine hold_append ?_) | (with_reducible refine hold_make ?_) | (with_reducible refine hold_copy ?_))
          refine hnm.mono ?_
          rintro e w6 ⟨rfl, _, hg6⟩
          have hB9 := hB8.grown hg6 hz8 hvw
          have ho6 := own_stays ho5 hg6 hA4
          have hoh6 := own_stays hoh5 hg6 hAh
          have hz9 := hB9.size
          clear hnm ho5 hoh5 hg6 hB8 hFv hA4 hAh hvw hB5 hrb hvb
          by_cases hgr : 65536 < N0
          · have hdg : (65536 : Int) < (N0 : Int) := by omega
            have HF := Lib.hid (HSC.out.fin HREST.out (HGR hgr))
            clear HGR HTN HDT HYE
            go_wp2_with (first | (with_reducible refine hold_append ?_) | (with_reducible refine hold_make ?_) | (with_reducible refine hold_copy ?_))
            go_wp2_with (first | (with_reducible refine hold_append ?_) | (with_reducible refine hold_make ?_) | (with_reducible refine hold_copy ?_))
            rw [Exit.noGoto_ret]
            go_ret3
            rw [HF.out]
            simp only
            rw [HLN.out]
            exact ⟨A2, c2, rfl, ho6, hB9⟩
          · have hdg : ¬ (65536 : Int) < (N0 : Int) := by omega
            have HTN := HTN (by omega)
            have HDT := HDT (by omega)
            have HYE := HYE (by omega)
            obtain ⟨R9, hR9⟩ : ∃ R9, R9 = R - 9 := ⟨_, rfl⟩
            obtain ⟨N4, hN4⟩ : ∃ N4, N4 = N0 + 4 := ⟨_, rfl⟩
            have hwr : IntKind.i64.wrap ((R : Int) - 9) = (R9 : Int) := by rw [IntWalk.i64_in _ ⟨by omega, by omega⟩]; omega
            have hwu : IntKind.u64.wrap (R9 : Int) = (R9 : Int) := IntWalk.u64_in _ ⟨by omega, by omega⟩
            have hwn : IntKind.u64.wrap ((N0 : Int) + 4) = (N4 : Int) := by rw [IntWalk.u64_in _ ⟨by omega, by omega⟩]; omega
            by_cases htn : R9 < N4
            · have hdt : (R9 : Int) < (N4 : Int) := by omega
              have HF := Lib.hid (HSC.out.fin HREST.out (HTN (by omega)))
              clear HGR HTN HDT HYE hN4 hR9
              go_wp2_with (first | (with_reducible refine hold_append ?_) | (with_reducible refine hold_make ?_) | (with_reducible refine hold_copy ?_))
              go_wp2_with (first | (with_reducible refine hold_append ?_) | (with_reducible refine hold_make ?_) | (with_reducible refine hold_copy ?_))
              rw [Exit.noGoto_ret]
              go_ret3
              rw [HF.out]
              simp only
              rw [HLN.out]
              exact ⟨A2, c2, rfl, ho6, hB9⟩
            · have hdt : ¬ (R9 : Int) < (N4 : Int) := by omega
              have HDT := HDT (by omega)
              have HYE := HYE (by omega)
              obtain ⟨N9, hN9⟩ : ∃ N9, N9 = N0 + 9 := ⟨_, rfl⟩
              obtain ⟨E, hE⟩ : ∃ E, E = N0 + 13 := ⟨_, rfl⟩
              have hw1 : IntKind.i64.wrap (N0 : Int) = (N0 : Int) := IntWalk.i64_in _ ⟨by omega, by omega⟩
              have hw2 : IntKind.i64.wrap (9 + (N0 : Int)) = (N9 : Int) := by rw [IntWalk.i64_in _ ⟨by omega, by omega⟩]; omega
              have hw3 : IntKind.i64.wrap ((N9 : Int) + 4) = (E : Int) := by rw [IntWalk.i64_in _ ⟨by omega, by omega⟩]; omega
              have hER : E ≤ R := by omega
              have hE9 : 9 ≤ E := by omega
              have hwe : IntKind.i64.wrap ((u : Int) + (E : Int)) = ((u + E : Nat) : Int) := by have := HRU.out; rw [IntWalk.i64_in _ ⟨by omega, by omega⟩]; omega
              have hyl : ((rest.take E).drop 9).length = N4 := by rw [List.length_drop, List.length_take]; omega
              have hyo : ((rest.take E).drop 9).take N0 = (rest.drop 9).take N0 := by rw [List.drop_take, List.take_take, Nat.min_eq_left (by omega)]
              rw [← hE] at HDT HYE
              have hN40 : N4 - 4 = N0 := by omega
              have hN4b : N4 ≤ 65540 := by omega
              have hE1 : E ≠ 0 := by omega
              have hEu : 13 ≤ E := by omega
              clear HGR HTN hN9 hE hR9 hN4
              go_wp2_with (first | (with_reducible refine hold_append ?_) | (with_reducible refine hold_make ?_) | (with_reducible refine hold_copy ?_) | (with_reducible refine hold_slice ?_) | (with_reducible refine hold_conv (s := 9) (t := 31) ?_))
              refine unhold (wp_cutS Tryd.underlying9 rfl rfl rfl (l := rest) 9 E (.inr ⟨_, _, rfl, rfl⟩) (.inr ⟨_, _, rfl, rfl⟩) hE9 (by omega) ?_)
              generalize (rest.take E).drop 9 = y at *
              go_wp2_with (first | (with_reducible refine hold_append ?_) | (with_reducible refine hold_make ?_) | (with_reducible refine hold_copy ?_) | (with_reducible refine hold_slice ?_) | (with_reducible refine hold_conv (s := 9) (t := 31) ?_))
              refine unhold (wp_s2b Tryd.underlying9 Tryd.underlying31 Tryd.underlying5 rfl rfl rfl (l := y) (by omega) ?_)
              rw [hyl]
              intro c7 w7 hr7 hB7
              have hB10 := hB9.trans (hB7.mono hz9)
              have ho7 := own_below ho6 hB7
              have hoh7 := own_below hoh6 hB7
              have hz10 := hB10.size
              have hop := open_any _ N4 c7 y w7 hr7 (ht.below hB10 hg0) (Nat.lt_of_lt_of_le hg0 hB10.size) (by omega)
              clear ho6 hoh6 hB9 hB7 hr7 hss
              cases hopn : opens y
              · have HF := Lib.hid (HSC.out.fin HREST.out (HDT hopn))
                rw [hopn] at hop
                clear hopn HDT HYE
                generalize (opn y).length = m at *
                generalize opn y = z at *
                go_wp2_with (first | (with_reducible refine hold_append ?_) | (with_reducible refine hold_make ?_) | (with_reducible refine hold_copy ?_))
                refine hop.mono ?_
                rintro e w8 ⟨A8, c8, rfl, _, hB8⟩
                have hB11 := hB10.trans (hB8.mono hz10)
                have ho8 := own_below ho7 hB8
                go_wp2_with (first | (with_reducible refine hold_append ?_) | (with_reducible refine hold_make ?_) | (with_reducible refine hold_copy ?_))
                rw [Exit.noGoto_ret]
                go_ret3
                rw [HF.out]
                simp only
                rw [HLN.out]
                exact ⟨A2, c2, rfl, ho8, hB11⟩
              · have hopl : opn y = (rest.drop 9).take N0 := by rw [opn_of hopn, hyl, hN40, hyo]
                have HST := Lib.hid (HSC.out.step HREST.out (HYE hopn) hE1)
                have hdl : ((rest.drop 9).take N0).length = N0 := by rw [← hyo, List.length_take]; omega
                rw [hopn, hopl, hdl] at hop
                clear hopn HDT HYE hyo hopl hdl
                generalize (rest.drop 9).take N0 = dt at *
                go_wp2_with (first | (with_reducible refine hold_append ?_) | (with_reducible refine hold_make ?_) | (with_reducible refine hold_copy ?_))
                refine hop.mono ?_
                rintro e w8 ⟨A8, c8, rfl, hod, hB8⟩
                have hB11 := hB10.trans (hB8.mono hz10)
                have ho8 := own_below ho7 hB8
                have hoh8 := own_below hoh7 hB8
                have hz11 := hB11.size
                have hA7 : ∀ g, blk A2 = some g → g < w7.heap.size := fun g hg => (ho7.blk_lt hg).2
                have hnd := own_ne hod hA7
                clear hop ho7 hoh7 hB10 hB8
                obtain ⟨hg, rfl, hgb, hgl, hgk, hgc, _⟩ := OwnB.at_k hoh8 (k := 0) (by omega)
                have hk0 : (UInt8.ofNat x0) = hd[0] := by
                  rw [List.getElem?_eq_getElem hgk] at h50
                  injection h50 with h50
                  exact h50.symm
                rw [← hk0, UInt8.toNat_ofNat', Nat.mod_eq_of_lt hx0b] at hgc
                have hS : w8.drew.cell? ⟨hg, 0, none⟩ = some (.int .u8 (x0 : Int)) ∧ RdB w8.drew w8.heap.size A8 N0 c8 dt := ⟨hgc, Rd.drew hod.rd⟩
                have hkeep : ∀ W, Below w8.heap.size w8 W → (W.cell? ⟨hg, 0, none⟩ = some (.int .u8 (x0 : Int)) ∧ RdB W w8.heap.size A8 N0 c8 dt) := fun W h => ⟨(h.cell (p := ⟨hg, 0, none⟩) hgl).trans hgc, Rd.below hod.rd h⟩
                have h05 : (0 : Int) < ((5 : Nat) : Int) := by decide
                go_wp2_with (first | (with_reducible refine hold_append ?_) | (with_reducible refine hold_make ?_) | (with_reducible refine hold_copy ?_))
                refine rg_start (fun wx : World => wx.cell? ⟨hg, 0, none⟩ = some (.int .u8 (x0 : Int)) ∧ RdB wx w8.heap.size A8 N0 c8 dt) (by kernel_rfl) ?_
                refine rg_take 0 (v := ?_) rfl (by kernel_rfl) (by kernel_rfl) (by kernel_rfl) hS rfl ?_ ?_
                rotate_left
                · intro wS hSw; go_simp; (with_reducible rfl)
                simp only [List.getElem_toArray, List.getElem_cons_zero, Act.put, List.setIfInBounds_toArray, List.set_cons_zero, List.set_cons_succ]
                refine rg_take 1 (v := ?_) rfl (by kernel_rfl) (by kernel_rfl) (by kernel_rfl) hS rfl ?_ ?_
                rotate_left
                · intro wS hSw; go_simp; (with_reducible rfl)
                simp only [List.getElem_toArray, List.getElem_cons_succ, List.getElem_cons_zero, Act.put, List.setIfInBounds_toArray, List.set_cons_zero, List.set_cons_succ]
                refine rg_take 2 (v := ?_) rfl (by kernel_rfl) (by kernel_rfl) (by kernel_rfl) hS rfl ?_ ?_
                rotate_left
                · intro wS hSw; go_simp; (with_reducible rfl)
                simp only [List.getElem_toArray, List.getElem_cons_succ, List.getElem_cons_zero, Act.put, List.setIfInBounds_toArray, List.set_cons_zero, List.set_cons_succ]
                refine rg_take 3 (v := ?_) rfl (by kernel_rfl) (by kernel_rfl) (by kernel_rfl) hS rfl ?_ ?_
                rotate_left
                · intro wS hSw; go_simp; (with_reducible rfl)
                simp only [List.getElem_toArray, List.getElem_cons_succ, List.getElem_cons_zero, Act.put, List.setIfInBounds_toArray, List.set_cons_zero, List.set_cons_succ]
                refine rg_take 4 (v := ?_) rfl (by kernel_rfl) (by kernel_rfl) (by kernel_rfl) hS rfl ?_ ?_
                rotate_left
                · intro wS hSw; go_simp; (with_reducible rfl)
                simp only [List.getElem_toArray, List.getElem_cons_succ, List.getElem_cons_zero, Act.put, List.setIfInBounds_toArray, List.set_cons_zero, List.set_cons_succ]
                refine rg_take 5 (v := ?_) rfl (by kernel_rfl) (by kernel_rfl) (by kernel_rfl) hS rfl ?_ ?_
                rotate_left
                · intro wS hSw; have hv := run_strB (w := wS) hSw.2; go_simp; (with_reducible rfl)
                simp only [List.getElem_toArray, List.getElem_cons_succ, List.getElem_cons_zero, Act.put, List.setIfInBounds_toArray, List.set_cons_zero, List.set_cons_succ]
                refine rg_take 6 (v := ?_) rfl (by kernel_rfl) (by kernel_rfl) (by kernel_rfl) hS rfl ?_ ?_
                rotate_left
                · intro wS hSw; go_simp; (with_reducible rfl)
                simp only [List.getElem_toArray, List.getElem_cons_succ, List.getElem_cons_zero, Act.put, List.setIfInBounds_toArray, List.set_cons_zero, List.set_cons_succ]
                have hBl : Below w8.heap.size w8 (w8.drew.alloc (.cells #[.int .u8 (x0 : Int), .string (str dt)] 33)) := (below_drewN (Below.refl _ _) 1).alloc (Nat.le_refl _) _
                have hS7 := hkeep _ hBl
                refine rg_one 7 rfl (by kernel_rfl) rfl (fun K hK => ?_)
                go_simp
                refine hK _ _ hS7 ?_
                clear hK K
                refine rg_one 8 rfl (by kernel_rfl) rfl (fun K hK => ?_)
                refine op_rec (W := w8.drew) rcShape slR Tryd.underlying22 rfl rfl rfl rfl ⟨x0, dt⟩ rfl ho8 (by omega) (by omega) hz11 ?_
                intro A9 c9 w9 ho9 hg9 _ hB9
                have hB12 : Below w.heap.size w w9 := (below_drewN hB11 1).trans hB9
                have hS9 := And.intro (hg9.cell hS.1 (fun e => by have := hAb _ e.symm; simp only at this; omega)) (Rd.grown_ne hS.2 hg9 (Nat.le_refl _) hnd)
                simp only [List.getElem_toArray, List.getElem_cons_succ, List.getElem_cons_zero, Act.put, List.setIfInBounds_toArray, List.set_cons_zero, List.set_cons_succ]
                refine hK _ _ hS9 ?_
                clear hK K
                refine rg_take 9 (v := ?_) rfl (by kernel_rfl) (by kernel_rfl) (by kernel_rfl) hS9 rfl ?_ ?_
                rotate_left
                · intro wS hSw; go_simp; (with_reducible rfl)
                simp only [List.getElem_toArray, List.getElem_cons_succ, List.getElem_cons_zero, Act.put, List.setIfInBounds_toArray, List.set_cons_zero, List.set_cons_succ]
                refine rg_end (by kernel_rfl) ?_
                go_wp2_with (first | (with_reducible refine hold_append ?_) | (with_reducible refine hold_make ?_) | (with_reducible refine hold_copy ?_))
                have hRU := HRU.out
                exact ⟨⟨u + E, N + 1, c9, A9, l ++ [⟨x0, dt⟩], by omega, by first | rfl | go_num, rfl, rfl, HST, Lib.hid (by simp [HLN.out]), by omega, ho9, hB12⟩, by simp [intOf]; omega⟩
end Go.PH

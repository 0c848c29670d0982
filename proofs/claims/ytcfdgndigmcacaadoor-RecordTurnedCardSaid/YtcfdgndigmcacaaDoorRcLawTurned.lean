/- RecordTurned: for every input of the form's own reach the law returns true and writes nothing that was there. Condition: the listed table reads as its numbers. -/
import Derived.Test.YtcfdgndigmcacaaDoorRcHead
import Derived.Test.YtcfdgndigmcacaaDoorRcMathTurn
import Derived.Test.YtcfdgndigmcacaaDoorBuf
namespace Go.PH
open Go.RowKit Go.Proofs

theorem and1_bit (bs j : Nat) (h : bs < 4294967296) : bits .and .u32 ((bs : Int) / 2 ^ j) 1 = ((bs.testBit j).toNat : Int) := by
  have h1 := u32_and_nat (bs / 2 ^ j) 1 (Nat.lt_of_le_of_lt (Nat.div_le_self _ _) h) (by omega)
  have e : ((bs / 2 ^ j : Nat) : Int) = (bs : Int) / 2 ^ j := by simp
  rw [e] at h1
  rw [show ((1 : Nat) : Int) = 1 from rfl] at h1
  rw [h1, Nat.and_one_is_mod, Nat.testBit_eq_decide_div_mod_eq]
  rcases Nat.mod_two_eq_zero_or_one (bs / 2 ^ j) with h | h <;> simp [h]
theorem u8_flip (y : UInt8) (m : Nat) (hm : m < 8) : Value.int .u8 (bits .xor .u8 (y.toNat : Int) (2 ^ m % 256)) = u8v (y ^^^ UInt8.ofNat (2 ^ m)) := by
  have h2 : (2 : Nat) ^ m < 256 := Nat.pow_lt_pow_right (a := 2) (by omega) hm
  have h1 := u8_xor_nat y.toNat (2 ^ m) y.toNat_lt h2
  have e : ((2 ^ m : Nat) : Int) = (2 : Int) ^ m % 256 := by
    obtain rfl | rfl | rfl | rfl | rfl | rfl | rfl | rfl : m = 0 ∨ m = 1 ∨ m = 2 ∨ m = 3 ∨ m = 4 ∨ m = 5 ∨ m = 6 ∨ m = 7 := by omega
    all_goals rfl
  rw [e] at h1
  rw [h1]
  simp only [u8v, UInt8.toNat_xor, UInt8.toNat_ofNat', Nat.mod_eq_of_lt h2]
/-- one record's bytes among the others' -/
theorem mid_get {a u p : List UInt8} {q : Nat} (hq : q < u.length) : ∃ h : a.length + q < (a ++ (u ++ p)).length, (a ++ (u ++ p))[a.length + q] = u[q] := by
  refine ⟨by simp; omega, ?_⟩
  rw [List.getElem_append_right (by omega)]
  simp only [Nat.add_sub_cancel_left]
  rw [List.getElem_append_left hq]
theorem mid_set {a u p : List UInt8} {q : Nat} (hq : q < u.length) (x : UInt8) : (a ++ (u ++ p)).set (a.length + q) x = a ++ (u.set q x ++ p) := by
  rw [List.set_append_right _ _ (by omega), Nat.add_sub_cancel_left, List.set_append_left _ _ hq]
set_option maxRecDepth 20000 in
set_option maxHeartbeats 2000000 in
theorem law_RecordTurned (A : Option Addr) (n c : Nat) (l : List Rc) (wh at_ bs : Nat) (w : World) (hr : RdR w w.heap.size A n c l) (hf : ∀ r ∈ l, r.wf ∧ r.data.length ≤ 140737488351232) (ht : TabAt w) (hg0 : 0 < w.heap.size) (hn : n ≤ 140737488351232) (hwh : wh < 256) (hat : at_ < 65536) (hbs : bs < 4294967296) :
    Calls Tryd.prog 8 #[.slice A n c, .agg #[.int .u8 wh, .int .u16 at_, .int .u32 bs]] w fun e w' => e = .returned (.bool true) ∧ Below w.heap.size w w' := by
  have hl := rec_length rcShape hr
  have hB0 : Below w.heap.size w (w.alloc (.cells #[.int .u8 wh, .int .u16 at_, .int .u32 bs] 46)) := (Below.refl _ _).alloc (Nat.le_refl _) _
  have hb0 : Box (w.alloc (.cells #[.int .u8 wh, .int .u16 at_, .int .u32 bs] 46)) w.heap.size 46 #[.int .u8 wh, .int .u16 at_, .int .u32 bs] := Box.new _ _ _
  have k0 := hb0.cell (j := 0) rfl
  have k1 := hb0.cell (j := 1) rfl
  have k2 := hb0.cell (j := 2) rfl
  go_enter Tryd.func8, Tryd.ntmps8
  go_wp2_with (first | (with_reducible refine hold_append ?_) | (with_reducible refine hold_make ?_) | (with_reducible refine hold_copy ?_))
  go_quiet (fail)
  have hBn := below_drewN hB0 nq
  have hrn := (hr.below hBn).more hBn.size
  clear hB0 hb0 k0 k1 k2
  generalize (w.alloc (.cells #[.int .u8 wh, .int .u16 at_, .int .u32 bs] 46)).drewN nq = w1 at *
  have hz1 := hBn.size
  have ht1 := ht.below hBn hg0
  have hg1 := Nat.lt_of_lt_of_le hg0 hz1
  have hgr := great_any A n c l w1 hrn (fun r h => (hf r h).2) hn
  cases hg : rcGreat l
  · rw [hg] at hgr
    by_cases hn0 : n = 0
    · have hd0 : ((n : Int) == 0) = true := by simp [hn0]
      clear hg hn0
      go_wp2_with (first | (with_reducible refine hold_append ?_) | (with_reducible refine hold_make ?_) | (with_reducible refine hold_copy ?_))
      refine hgr.mono ?_
      rintro e w2 ⟨rfl, hww⟩
      subst w2
      go_wp2_with (first | (with_reducible refine hold_append ?_) | (with_reducible refine hold_make ?_) | (with_reducible refine hold_copy ?_))
      refine (head_any w1 ht1 hg1).mono ?_
      rintro e w4 ⟨rfl, hB5⟩
      have hB6 := hBn.trans (hB5.mono hz1)
      go_wp2_with (first | (with_reducible refine hold_append ?_) | (with_reducible refine hold_make ?_) | (with_reducible refine hold_copy ?_))
      go_ret
      exact ⟨rfl, hB6⟩
    · have hd0 : ((n : Int) == 0) = false := by simp [hn0]
      obtain ⟨hng, hns⟩ := rcGreat_no hg
      have hbl := rcBytes_len l
      have hwf : ∀ r ∈ l, r.wf ∧ r.data.length ≤ 65536 := fun r h => ⟨(hf r h).1, by have := rcSum_mem h; omega⟩
      have hp1 := rcput_any A n c l w1 hrn hf hn ht1 hg1 (by omega)
      rw [rcPut_of (fun r h => (hwf r h).2)] at hp1
      obtain ⟨k, hkk⟩ : ∃ k, k = wh % n := ⟨_, rfl⟩
      have hkn : k < n := by rw [hkk]; exact Nat.mod_lt _ (by omega)
      have hm1 : ((wh : Nat) : Int) % ((n : Nat) : Int) = (k : Int) := by rw [hkk]; simp
      have hm2 : ((wh : Nat) : Int).tmod ((n : Nat) : Int) = (k : Int) := by rw [Int.tmod_eq_emod_of_nonneg (by omega)]; exact hm1
      have hw0 : IntKind.i64.wrap ((wh : Nat) : Int) = (wh : Int) := IntWalk.i64_in _ ⟨by omega, by omega⟩
      have hwk : IntKind.i64.wrap ((k : Nat) : Int) = (k : Int) := IntWalk.i64_in _ ⟨by omega, by omega⟩
      clear hkk
      have hkl : k < l.length := by omega
      have hDk := (hwf l[k] (List.getElem_mem hkl)).2
      have hmbl := l[k].bytes_length
      have hsplit : rcBytes l = rcBytes (l.take k) ++ (l[k].bytes ++ rcBytes (l.drop (k + 1))) := by
        rw [← rcBytes_cons, ← List.drop_eq_getElem_cons hkl, ← rcBytes_app, List.take_append_drop]
      have hTU := fun u bits lim fr h1 h2 h3 h4 => rcScan_turned hwf hkl (u := u) (bits := bits) (lim := lim) (fr := fr) h1 h2 h3 h4 (rcBytes (l.drop (k + 1)))
      have hlen := congrArg List.length hsplit
      rw [List.length_append, List.length_append, hmbl] at hlen
      obtain ⟨F, hF⟩ : ∃ F, F = (rcBytes (l.take k)).length := ⟨_, rfl⟩
      obtain ⟨T, hT⟩ : ∃ T, T = (rcBytes l).length := ⟨_, rfl⟩
      obtain ⟨D, hD⟩ : ∃ D, D = l[k].data.length := ⟨_, rfl⟩
      obtain ⟨Y, hY⟩ : ∃ Y, Y = D + 13 := ⟨_, rfl⟩
      obtain ⟨Z, hZ⟩ : ∃ Z, Z = 8 * Y := ⟨_, rfl⟩
      obtain ⟨fr, hfr⟩ : ∃ fr, fr = at_ % Z := ⟨_, rfl⟩
      have hfrZ : fr < Z := by rw [hfr]; exact Nat.mod_lt _ (by omega)
      obtain ⟨lim, hlim⟩ : ∃ lim, fr + lim = Z := ⟨Z - fr, by omega⟩
      have hr1 : ((at_ : Nat) : Int) % ((Z : Nat) : Int) = (fr : Int) := by rw [hfr]; simp
      have hr2 : ((at_ : Nat) : Int).tmod ((Z : Nat) : Int) = (fr : Int) := by rw [Int.tmod_eq_emod_of_nonneg (by omega)]; exact hr1
      have hwa : IntKind.i64.wrap ((at_ : Nat) : Int) = (at_ : Int) := IntWalk.i64_in _ ⟨by omega, by omega⟩
      have hwf0 : IntKind.i64.wrap ((fr : Nat) : Int) = (fr : Int) := IntWalk.i64_in _ ⟨by omega, by omega⟩
      clear hfr
      rw [← hF, ← hT, ← hD, ← hY] at hlen
      rw [← hD, ← hY] at hmbl
      rw [← hD] at hDk
      rw [← hT] at hbl
      have hTb : T ≤ 4520 := by omega
      have hyY : IntKind.i64.wrap ((D : Int) + 13) = (Y : Int) := by rw [IntWalk.i64_in _ ⟨by omega, by omega⟩]; omega
      have hyZ : IntKind.i64.wrap (8 * (Y : Int)) = (Z : Int) := by rw [IntWalk.i64_in _ ⟨by omega, by omega⟩]; omega
      have hq1 : ((Z : Nat) : Int) / 8 = (Y : Int) := by omega
      have hq2 : ((Z : Nat) : Int).tdiv 8 = (Y : Int) := by rw [Int.tdiv_eq_ediv_of_nonneg (by omega)]; exact hq1
      obtain ⟨FY, hFY⟩ : ∃ FY, FY = F + Y := ⟨_, rfl⟩
      have hyF : IntKind.i64.wrap ((F : Int) + (Y : Int)) = (FY : Int) := by rw [IntWalk.i64_in _ ⟨by omega, by omega⟩]; omega
      have hwY : IntKind.i64.wrap (Y : Int) = (Y : Int) := IntWalk.i64_in _ ⟨by omega, by omega⟩
      have hFT : ¬ (T : Int) < (FY : Int) := by omega
      have hZ0 : ((Z : Int) == 0) = false := by rw [beq_eq_false_iff_ne]; omega
      have hZn : ¬ Z = 0 := by omega
      have hnn : ¬ n = 0 := hn0
      have HFL := Lib.hid hF.symm
      have HTL := Lib.hid hT.symm
      have HD := Lib.hid hD.symm
      have HLIM := Lib.hid hlim
      have HZY := Lib.hid hZ
      have HMB := Lib.hid hmbl
      have hFb : F + Y ≤ T := by omega
      have HSP := Lib.hid hsplit
      have hss : (str (rcBytes l)).size = T := by rw [str_size]; exact hT.symm
      have hYb : Y ≤ 4520 := by omega
      have hZb : Z ≤ 36160 := by omega
      clear hlim hsplit hlen hbl hg hF hT hD hZ hFY hmbl hY
      generalize hmid : l[k].bytes = mid at *
      generalize hpre : rcBytes (l.take k) = pre at *
      generalize hpost : rcBytes (l.drop (k + 1)) = post at *
      generalize hsb : rcBytes l = sb at *
      have HPRE := Lib.hid hpre
      have HSB := Lib.hid hsb
      clear hmid hpre hpost hsb
      go_wp2_with (first | (with_reducible refine hold_append ?_) | (with_reducible refine hold_make ?_) | (with_reducible refine hold_copy ?_))
      refine hgr.mono ?_
      rintro e w2 ⟨rfl, hww⟩
      subst w2
      clear hgr
      go_wp2_with (first | (with_reducible refine hold_append ?_) | (with_reducible refine hold_make ?_) | (with_reducible refine hold_copy ?_))
      refine hp1.mono ?_
      rintro e w2 ⟨rfl, hB2'⟩
      have hB2 := hBn.trans (hB2'.mono hz1)
      clear hp1 hBn hB2' hrn ht1 hg1 hz1
      go_wp2_with (first | (with_reducible refine hold_append ?_) | (with_reducible refine hold_make ?_) | (with_reducible refine hold_copy ?_))
      go_loopw [12, 11] (fun s v wr => ∃ i E : Nat, i ≤ k ∧ s = .int .i64 i ∧ v = .int .i64 E ∧ Hid (E = (rcBytes (l.take i)).length) ∧ E ≤ 5000 ∧ wr = w2) (fun s _ _ => k - (intOf s).toNat)
      case atStart => exact ⟨0, 0, by omega, rfl, rfl, Lib.hid (by simp [rcBytes]), by omega, rfl⟩
      case round =>
        obtain ⟨i, E, hi, rfl, rfl, HE, hE5, hwr⟩ := hrel
        subst wr
        by_cases hlt : i < k
        · have hik : (i : Int) < (k : Int) := by omega
          have hin : (i : Int) < (n : Int) := by omega
          obtain ⟨b, off, rfl, hbB, hil, hc⟩ := rec_at rcShape (Rd.below hr hB2) (show i < n by omega)
          have hle := rcBytes_take_le l (i + 1)
          have HST : Hid (E + l[i].data.length + 13 = (rcBytes (l.take (i + 1))).length) := Lib.hid (by rw [rcBytes_take hil, List.length_append, Rc.bytes_length, ← HE.out]; omega)
          rw [← HST.out] at hle
          rw [HSB.out, HTL.out] at hle
          generalize l[i] = f at *
          obtain ⟨kd, dt⟩ := f
          simp only at hle HST
          have k1 := hc 1 _ rfl
          clear hc
          have hds := str_size dt
          obtain ⟨Di, hDi⟩ : ∃ Di, Di = dt.length := ⟨_, rfl⟩
          rw [← hDi] at hle HST hds
          clear hDi
          obtain ⟨E1, hE1⟩ : ∃ E1, E1 = E + Di := ⟨_, rfl⟩
          obtain ⟨E2, hE2⟩ : ∃ E2, E2 = E + Di + 13 := ⟨_, rfl⟩
          have hv1 : IntKind.i64.wrap ((E : Int) + (Di : Int)) = (E1 : Int) := by rw [IntWalk.i64_in _ ⟨by omega, by omega⟩]; omega
          have hv2 : IntKind.i64.wrap ((E1 : Int) + 13) = (E2 : Int) := by rw [IntWalk.i64_in _ ⟨by omega, by omega⟩]; omega
          rw [← hE2] at HST hle
          have hE2b : E2 ≤ 5000 := by omega
          clear hE1 hE2 hle
          go_wp2_with (first | (with_reducible refine hold_append ?_) | (with_reducible refine hold_make ?_) | (with_reducible refine hold_copy ?_))
          exact ⟨⟨i + 1, E2, by omega, by go_num, rfl, HST, hE2b, by first | rfl | trivial⟩, by simp [intOf]; omega⟩
        · obtain rfl : i = k := by omega
          obtain rfl : E = F := by rw [HE.out, HPRE.out]; exact HFL.out
          obtain ⟨b, off, rfl, hbB, _, hc⟩ := rec_at rcShape (Rd.below hr hB2) hkn
          have hin : (i : Int) < (n : Int) := by omega
          have k1 := hc 1 _ rfl
          clear hc
          have hds : (str l[i].data).size = D := by rw [str_size]; exact HD.out
          generalize l[i].data = dt at *
          have hz2 := hB2.size
          clear HE HD
          go_wp2_with (first | (with_reducible refine hold_append ?_) | (with_reducible refine hold_make ?_) | (with_reducible refine hold_copy ?_) | (with_reducible refine hold_slice ?_) | (with_reducible refine hold_conv (s := 9) (t := 31) ?_))
          refine unhold (wp_s2buf Tryd.underlying9 Tryd.underlying31 Tryd.underlying5 rfl rfl rfl (l := sb) (by have := HTL.out; omega) ?_)
          rw [HTL.out]
          intro c4 tl w4 hbuf hc1 hc2 hB4
          have hB5 := hB2.trans (hB4.mono hz2)
          obtain ⟨g, hgg⟩ : ∃ g, g = w2.heap.size := ⟨_, rfl⟩
          rw [← hgg] at hbuf ⊢
          rw [HSP.out] at hbuf
          have hgb : w.heap.size ≤ g := by omega
          have hTc : T ≤ c4 := hc1
          clear hgg hB4 hc1 k1 hds hB2
          go_wp2_with (first | (with_reducible refine hold_append ?_) | (with_reducible refine hold_make ?_) | (with_reducible refine hold_copy ?_))
          go_loopw [16, 15] (fun s tu wr => ∃ (j : Nat) (u : List UInt8) (tb : Bool), j ≤ 32 ∧ s = .int .i64 j ∧ tu = .bool tb ∧ Hid (tb = decide (win bs lim j ≠ 0)) ∧ Hid (val u = val mid ^^^ 2 ^ fr * win bs lim j) ∧ Hid (u.length = Y) ∧ Buf wr g 5 (pre ++ (u ++ post)) tl ∧ Below w.heap.size w wr) (fun s _ _ => 32 - (intOf s).toNat)
          case atStart => exact ⟨0, mid, false, by omega, rfl, rfl, Lib.hid (by simp [win_zero]), Lib.hid (by simp [win_zero]), HMB, hbuf, hB5⟩
          case round =>
            obtain ⟨j, u, tb, hj, rfl, rfl, HTB, HV, HU, hbu, hB⟩ := hrel
            by_cases hlt : j < 32
            · cases hbit : bs.testBit j
              · have hb1 := and1_bit bs j hbs
                rw [hbit] at hb1
                simp only [Bool.toNat_false, Int.natCast_zero] at hb1
                have HBIT := Lib.hid hbit
                clear hbit
                go_wp2_with (first | (with_reducible refine hold_append ?_) | (with_reducible refine hold_make ?_) | (with_reducible refine hold_copy ?_))
                exact ⟨⟨j + 1, u, tb, by omega, by go_num, rfl, Lib.hid (by rw [win_same _ _ _ (.inl HBIT.out)]; exact HTB.out), Lib.hid (by rw [win_same _ _ _ (.inl HBIT.out)]; exact HV.out), HU, hbu, hB⟩, by simp [intOf]; omega⟩
              · have hb1 := and1_bit bs j hbs
                rw [hbit] at hb1
                simp only [Bool.toNat_true, Int.natCast_one] at hb1
                have HBIT := Lib.hid hbit
                clear hbit
                by_cases hend : fr + j < Z
                · obtain ⟨q, hq, hq', hql⟩ : ∃ q : Nat, ((fr : Int) + (j : Int)) / 8 = (q : Int) ∧ ((fr : Int) + (j : Int)).tdiv 8 = (q : Int) ∧ q < Y := ⟨(fr + j) / 8, by omega, by rw [Int.tdiv_eq_ediv_of_nonneg (by omega)]; omega, by have := HZY.out; omega⟩
                  obtain ⟨m, hm, hml⟩ : ∃ m : Nat, ((fr : Int) + (j : Int)) % 8 = (m : Int) ∧ m < 8 := ⟨(fr + j) % 8, by omega, by omega⟩
                  have hu := HU.out
                  have hqu : q < u.length := by omega
                  obtain ⟨hgl, hge⟩ := mid_get (a := pre) (p := post) hqu
                  rw [HFL.out] at hgl
                  obtain ⟨hcell, hfz, hst⟩ := hbu.at_k hgl
                  have hlj : j < lim := by have := HLIM.out; omega
                  have h8 : 8 * q + m = fr + j := by omega
                  have hge' : (pre ++ (u ++ post))[E + q] = u[q] := by
                    simp only [HFL.out] at hge
                    exact hge
                  rw [hge'] at hcell
                  have hst' := hst (u[q] ^^^ UInt8.ofNat (2 ^ m))
                  have hms := mid_set (a := pre) (p := post) hqu (u[q] ^^^ UInt8.ofNat (2 ^ m))
                  rw [HFL.out] at hms
                  rw [hms, ← u8_flip _ _ hml] at hst'
                  have hvv : val (u.set q (u[q] ^^^ UInt8.ofNat (2 ^ m))) = val mid ^^^ 2 ^ fr * win bs lim (j + 1) := by
                    rw [val_flip _ _ _ hqu hml, HV.out, h8, flip_win _ _ _ _ _ HBIT.out hlj]
                  have HVV := Lib.hid hvv
                  have HT1 : Hid (true = decide (win bs lim (j + 1) ≠ 0)) := Lib.hid (by rw [decide_eq_true (win_ne _ _ _ HBIT.out hlj)])
                  have HU2 : Hid ((u.set q (u[q] ^^^ UInt8.ofNat (2 ^ m))).length = Y) := Lib.hid (by rw [List.length_set]; exact hu)
                  have hbC : (E + q) < c4 := by omega
                  have hbT : ((E : Int) + (q : Int)) < (T : Int) := by omega
                  clear hvv h8 hst hms hge hge' hu
                  go_wp2_with (first | (with_reducible refine hold_append ?_) | (with_reducible refine hold_make ?_) | (with_reducible refine hold_copy ?_))
                  exact ⟨⟨j + 1, _, true, by omega, by go_num, rfl, HT1, HVV, HU2, hst', hB.setCell hgb _⟩, by simp [intOf]; omega⟩
                · have hge : lim ≤ j := by have := HLIM.out; omega
                  go_wp2_with (first | (with_reducible refine hold_append ?_) | (with_reducible refine hold_make ?_) | (with_reducible refine hold_copy ?_))
                  exact ⟨⟨j + 1, u, tb, by omega, by go_num, rfl, Lib.hid (by rw [win_same _ _ _ (.inr hge)]; exact HTB.out), Lib.hid (by rw [win_same _ _ _ (.inr hge)]; exact HV.out), HU, hbu, hB⟩, by simp [intOf]; omega⟩
            · obtain rfl : j = 32 := by omega
              cases tb
              · have hz := hB.size
                clear HTB HV HU hTU
                go_wp2_with (first | (with_reducible refine hold_append ?_) | (with_reducible refine hold_make ?_) | (with_reducible refine hold_copy ?_))
                refine (head_any wr (ht.below hB hg0) (Nat.lt_of_lt_of_le hg0 hz)).mono ?_
                rintro e w9 ⟨rfl, hB9⟩
                have hB10 := hB.trans (hB9.mono hz)
                go_wp2_with (first | (with_reducible refine hold_append ?_) | (with_reducible refine hold_make ?_) | (with_reducible refine hold_copy ?_))
                go_ret
                exact ⟨rfl, hB10⟩
              · have hwin : win bs lim 32 ≠ 0 := by have := HTB.out; exact of_decide_eq_true this.symm
                have hscn := hTU u bs lim fr (by rw [HU.out, HMB.out]) (by rw [HMB.out, HLIM.out, HZY.out]) HV.out hwin
                have hub : (pre ++ (u ++ post)).length = T := by
                  have h1 := congrArg List.length HSP.out
                  rw [HTL.out, List.length_append, List.length_append, HMB.out] at h1
                  rw [List.length_append, List.length_append, HU.out]; exact h1.symm
                have hrd := hbu.rd (n := T) (c := c4) hub hTc hc2
                have hsc := rcscan_any (pre ++ (u ++ post)) wr (ht.below hB hg0) (Nat.lt_of_lt_of_le hg0 hB.size) (by omega)
                have hlk : (l.take i).length = i := by rw [List.length_take]; omega
                rw [hscn, HFL.out] at hsc
                simp only [hlk] at hsc
                have hst := run_strB (w := wr) hrd
                have hz := hB.size
                clear HTB HV HU hTU hwin hscn hub hrd hbu hlk hl hwf hf
                generalize pre ++ (u ++ post) = ub at *
                go_wp2_with (first | (with_reducible refine hold_append ?_) | (with_reducible refine hold_make ?_) | (with_reducible refine hold_copy ?_))
                refine hsc.mono ?_
                rintro e w7 ⟨A7, c7, rfl, ho7, hB7⟩
                have hB8 := hB.trans (hB7.mono hz)
                have hr7 := hr.below hB8
                have hcc := hr7.cap
                clear hsc hst
                go_wp2_with (first | (with_reducible refine hold_append ?_) | (with_reducible refine hold_make ?_) | (with_reducible refine hold_copy ?_) | (with_reducible refine hold_slice ?_) | (with_reducible refine hold_conv (s := 9) (t := 31) ?_))
                refine unhold (wp_cutB slR rfl rfl rfl hr7 0 i c (.inl ⟨rfl, rfl⟩) (.inr ⟨_, _, rfl, rfl⟩) (.inl ⟨rfl, rfl⟩) (by intro h; cases h) (by omega) (by omega) (Nat.le_refl _) (by omega) ?_)
                intro A8 hr8 _
                simp only [Nat.zero_mul, List.drop_zero, Nat.sub_zero, rowC_take rcShape] at hr8 ⊢
                have hsm := rsame_any A7 i c7 (l.take i) A8 i c (l.take i) w7.heap.size w7 ho7.rd (hr8.more hB8.size) (Nat.le_refl _) (by omega) (by omega)
                rw [decide_eq_true rfl] at hsm
                have hEE : ((E : Int) == (E : Int)) = true := by simp
                have hz8 := hB8.size
                go_wp2_with (first | (with_reducible refine hold_append ?_) | (with_reducible refine hold_make ?_) | (with_reducible refine hold_copy ?_))
                refine hsm.mono ?_
                rintro e w8 ⟨rfl, hB8'⟩
                have hB9 := hB8.trans (hB8'.mono hz8)
                go_wp2_with (first | (with_reducible refine hold_append ?_) | (with_reducible refine hold_make ?_) | (with_reducible refine hold_copy ?_))
                refine (head_any w8 (ht.below hB9 hg0) (Nat.lt_of_lt_of_le hg0 hB9.size)).mono ?_
                rintro e w9 ⟨rfl, hB10'⟩
                have hB10 := hB9.trans (hB10'.mono hB9.size)
                go_wp2_with (first | (with_reducible refine hold_append ?_) | (with_reducible refine hold_make ?_) | (with_reducible refine hold_copy ?_))
                go_ret
                exact ⟨rfl, hB10⟩
  · rw [hg] at hgr
    clear hg
    go_wp2_with (first | (with_reducible refine hold_append ?_) | (with_reducible refine hold_make ?_) | (with_reducible refine hold_copy ?_))
    refine hgr.mono ?_
    rintro e w2 ⟨rfl, hww⟩
    subst w2
    go_wp2_with (first | (with_reducible refine hold_append ?_) | (with_reducible refine hold_make ?_) | (with_reducible refine hold_copy ?_))
    refine (head_any w1 ht1 hg1).mono ?_
    rintro e w4 ⟨rfl, hB5⟩
    have hB6 := hBn.trans (hB5.mono hz1)
    go_wp2_with (first | (with_reducible refine hold_append ?_) | (with_reducible refine hold_make ?_) | (with_reducible refine hold_copy ?_))
    go_ret
    exact ⟨rfl, hB6⟩
end Go.PH

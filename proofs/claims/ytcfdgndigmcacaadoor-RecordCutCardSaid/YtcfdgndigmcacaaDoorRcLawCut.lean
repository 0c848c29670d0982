/- RecordCut: for every input of the form's own reach the law returns true and writes nothing that was there. Condition: the listed table reads as its numbers. -/
import Derived.Test.YtcfdgndigmcacaaDoorRcHead
import Derived.Test.YtcfdgndigmcacaaDoorRcMathCut
namespace Go.PH
open Go.RowKit Go.Proofs

set_option maxRecDepth 20000 in
set_option maxHeartbeats 2000000 in
theorem law_RecordCut (A : Option Addr) (n c : Nat) (l : List Rc) (ct : Nat) (w : World) (hr : RdR w w.heap.size A n c l) (hf : ∀ r ∈ l, r.wf ∧ r.data.length ≤ 140737488351232) (ht : TabAt w) (hg0 : 0 < w.heap.size) (hct : ct < 65536) (hn : n ≤ 140737488351232) :
    Calls Tryd.prog 6 #[.slice A n c, .int .u16 ct] w fun e w' => e = .returned (.bool true) ∧ Below w.heap.size w w' := by
  have hl := rec_length rcShape hr
  have hgr := great_any A n c l w hr (fun r h => (hf r h).2) hn
  cases hg : rcGreat l
  · rw [hg] at hgr
    obtain ⟨hng, hns⟩ := rcGreat_no hg
    have hbl := rcBytes_len l
    have hwf : ∀ r ∈ l, r.wf ∧ r.data.length ≤ 65536 := fun r h => ⟨(hf r h).1, by have := rcSum_mem h; omega⟩
    have hp1 := rcput_any A n c l w hr hf hn ht hg0 (by omega)
    rw [rcPut_of (fun r h => (hwf r h).2)] at hp1
    have hsc := fun W h1 h2 => rcscan_any (rcBytes l) W h1 h2 (by omega)
    have hscn := rcScan_bytes hwf []
    rw [List.append_nil, rcScan_nil] at hscn
    simp only [List.append_nil, Nat.add_zero] at hscn
    rw [hscn, hl] at hsc
    have hcut := fun j t h1 h2 h3 h4 => rcScan_cut hwf (j := j) (t := t) h1 h2 h3 h4
    have hsc2 := fun t W h1 h2 => rcscan_any ((rcBytes l).take t) W h1 h2 (by rw [List.length_take]; omega)
    have hss : (str (rcBytes l)).size = (rcBytes l).length := str_size _
    have HBT := Lib.hid (fun k => rcBytes_take_le l k)
    obtain ⟨T, hT⟩ : ∃ T, T = (rcBytes l).length := ⟨_, rfl⟩
    rw [← hT] at hsc hss hcut HBT
    have hTb : T ≤ 4520 := by omega
    have HTL := Lib.hid hT.symm
    clear hT hg hscn hbl
    have HBY := Lib.hid (rfl : rcBytes l = rcBytes l)
    generalize hsb : rcBytes l = sb at hp1 hsc hsc2 hss hcut HTL
    clear hsb HBY
    have hq : ((T : Int) != (T : Int)) = false := by simp
    have hw0 : IntKind.i64.wrap ((ct : Nat) : Int) = (ct : Int) := IntWalk.i64_in _ ⟨by omega, by omega⟩
    have hw1 : IntKind.i64.wrap ((T : Int) + 1) = ((T + 1 : Nat) : Int) := by rw [IntWalk.i64_in _ ⟨by omega, by omega⟩]; omega
    obtain ⟨T1, hT1⟩ : ∃ T1, T1 = T + 1 := ⟨_, rfl⟩
    rw [← hT1] at hw1
    obtain ⟨t, htt⟩ : ∃ t, t = ct % T1 := ⟨_, rfl⟩
    have htT : t ≤ T := by have := Nat.mod_lt ct (show 0 < T1 by omega); omega
    have hm1 : ((ct : Nat) : Int) % ((T1 : Nat) : Int) = (t : Int) := by rw [htt]; simp
    have hm2 : ((ct : Nat) : Int).tmod ((T1 : Nat) : Int) = (t : Int) := by rw [Int.tmod_eq_emod_of_nonneg (by omega)]; exact hm1
    have hwt : IntKind.i64.wrap ((t : Nat) : Int) = (t : Int) := IntWalk.i64_in _ ⟨by omega, by omega⟩
    have hT10 : ((T1 : Int) == 0) = false := by rw [beq_eq_false_iff_ne]; omega
    have hT1n : ¬ T1 = 0 := by omega
    clear htt hT1
    go_enter Tryd.func6, Tryd.ntmps6
    go_wp2_with (first | (with_reducible refine hold_append ?_) | (with_reducible refine hold_make ?_) | (with_reducible refine hold_copy ?_))
    refine hgr.mono ?_
    rintro e w1 ⟨rfl, hww⟩
    subst w1
    clear hgr
    go_wp2_with (first | (with_reducible refine hold_append ?_) | (with_reducible refine hold_make ?_) | (with_reducible refine hold_copy ?_))
    refine hp1.mono ?_
    rintro e w2 ⟨rfl, hB2⟩
    have hsc' := hsc w2 (ht.below hB2 hg0) (Nat.lt_of_lt_of_le hg0 hB2.size)
    clear hp1 hsc
    go_wp2_with (first | (with_reducible refine hold_append ?_) | (with_reducible refine hold_make ?_) | (with_reducible refine hold_copy ?_))
    refine hsc'.mono ?_
    rintro e w3 ⟨A3, c3, rfl, ho3, hB3⟩
    have hB4 := hB2.trans (hB3.mono hB2.size)
    have hsm := rsame_any A n c l A3 n c3 l w3.heap.size w3 ((hr.below hB4).more hB4.size) ho3.rd (Nat.le_refl _) (by omega) (by omega)
    rw [decide_eq_true rfl] at hsm
    clear hsc' hB2 hB3
    go_wp2_with (first | (with_reducible refine hold_append ?_) | (with_reducible refine hold_make ?_) | (with_reducible refine hold_copy ?_))
    refine hsm.mono ?_
    rintro e w4 ⟨rfl, hB5⟩
    have hB6 := hB4.trans (hB5.mono hB4.size)
    clear hsm hB4 hB5 ho3
    go_wp2_with (first | (with_reducible refine hold_append ?_) | (with_reducible refine hold_make ?_) | (with_reducible refine hold_copy ?_))
    go_loopw [12, 11] (fun s v wr => ∃ k E : Nat, k ≤ n ∧ s = .int .i64 k ∧ v = .int .i64 E ∧ Hid (E = (rcBytes (l.take k)).length) ∧ E ≤ t ∧ Below w.heap.size w wr) (fun s _ _ => n - (intOf s).toNat)
    case atStart => exact ⟨0, 0, by omega, rfl, rfl, Lib.hid (by simp [rcBytes]), by omega, hB6⟩
    case round =>
      obtain ⟨k, E, hk, rfl, rfl, HE, hEt, hB⟩ := hrel
      by_cases hlt : k < n
      · have hkn : (k : Int) < (n : Int) := by omega
        obtain ⟨b, off, rfl, hbB, hkl, hc⟩ := rec_at rcShape (Rd.below hr hB) hlt
        have hD := (hwf l[k] (List.getElem_mem hkl)).2
        have HC1 := fun (h : t < (rcBytes (l.take k)).length + l[k].data.length + 13) => hcut k t (by omega) (by rw [← HE.out]; exact hEt) htT (fun _ => h)
        have HST : Hid (E + l[k].data.length + 13 = (rcBytes (l.take (k + 1))).length) := Lib.hid (by rw [rcBytes_take hkl, List.length_append, Rc.bytes_length, ← HE.out]; omega)
        rw [← HE.out] at HC1
        generalize l[k] = f at *
        obtain ⟨kd, dt⟩ := f
        simp only at hD HC1 HST
        have k1 := hc 1 _ rfl
        clear hc
        have hds := str_size dt
        obtain ⟨D, hDD⟩ : ∃ D, D = dt.length := ⟨_, rfl⟩
        rw [← hDD] at hD HC1 HST hds
        clear hDD
        obtain ⟨E1, hE1⟩ : ∃ E1, E1 = E + D := ⟨_, rfl⟩
        obtain ⟨E2, hE2⟩ : ∃ E2, E2 = E + D + 13 := ⟨_, rfl⟩
        have hv1 : IntKind.i64.wrap ((E : Int) + (D : Int)) = (E1 : Int) := by rw [IntWalk.i64_in _ ⟨by omega, by omega⟩]; omega
        have hv2 : IntKind.i64.wrap ((E1 : Int) + 13) = (E2 : Int) := by rw [IntWalk.i64_in _ ⟨by omega, by omega⟩]; omega
        rw [← hE2] at HST HC1
        by_cases hle : E2 ≤ t
        · have hdl : (E2 : Int) ≤ (t : Int) := by omega
          clear HC1 hE1 hE2
          go_wp2_with (first | (with_reducible refine hold_append ?_) | (with_reducible refine hold_make ?_) | (with_reducible refine hold_copy ?_))
          exact ⟨⟨k + 1, E2, by omega, by go_num, rfl, HST, hle, hB⟩, by simp [intOf]; omega⟩
        · have hdl : ¬ (E2 : Int) ≤ (t : Int) := by omega
          have HC0 := Lib.hid (HC1 (by omega))
          clear HC1 hE1 hE2
          by_cases hEt2 : E = t
          · have HC := Lib.hid (HC0.out.trans (by rw [if_pos hEt2]))
            have hx1 : ((E : Int) == (t : Int)) = true := by simp [hEt2]
            clear HC0 hEt2
            have hsc3 := hsc2 t wr (ht.below hB hg0) (Nat.lt_of_lt_of_le hg0 hB.size)
            have hlk : (l.take k).length = k := by rw [List.length_take]; omega
            rw [HC.out, hlk] at hsc3
            clear hsc2 hlk HC HE hcut hwf HBT hf hl
            have hz := hB.size
            go_wp2_with (first | (with_reducible refine hold_append ?_) | (with_reducible refine hold_make ?_) | (with_reducible refine hold_copy ?_) | (with_reducible refine hold_slice ?_) | (with_reducible refine hold_conv (s := 9) (t := 31) ?_))
            refine unhold (wp_cutS Tryd.underlying9 rfl rfl rfl (l := sb) 0 t (.inl ⟨rfl, rfl⟩) (.inr ⟨_, _, rfl, rfl⟩) (by omega) (by have := HTL.out; omega) ?_)
            rw [List.drop_zero]
            go_wp2_with (first | (with_reducible refine hold_append ?_) | (with_reducible refine hold_make ?_) | (with_reducible refine hold_copy ?_) | (with_reducible refine hold_slice ?_) | (with_reducible refine hold_conv (s := 9) (t := 31) ?_))
            refine hsc3.mono ?_
            rintro e w7 ⟨A7, c7, rfl, ho7, hB7⟩
            have hB8 := hB.trans (hB7.mono hz)
            have hr7 := hr.below hB8
            have hcc := hr7.cap
            clear hsc3
            go_wp2_with (first | (with_reducible refine hold_append ?_) | (with_reducible refine hold_make ?_) | (with_reducible refine hold_copy ?_) | (with_reducible refine hold_slice ?_) | (with_reducible refine hold_conv (s := 9) (t := 31) ?_))
            refine unhold (wp_cutB slR rfl rfl rfl hr7 0 k c (.inl ⟨rfl, rfl⟩) (.inr ⟨_, _, rfl, rfl⟩) (.inl ⟨rfl, rfl⟩) (by intro h; cases h) (by omega) (by omega) (Nat.le_refl _) (by omega) ?_)
            intro A8 hr8 _
            simp only [Nat.zero_mul, List.drop_zero, Nat.sub_zero, rowC_take rcShape] at hr8 ⊢
            have hsm := rsame_any A7 k c7 (l.take k) A8 k c (l.take k) w7.heap.size w7 ho7.rd (hr8.more hB8.size) (Nat.le_refl _) (by omega) (by omega)
            rw [decide_eq_true rfl] at hsm
            have hEE : ((E : Int) == (E : Int)) = true := by simp
            have hz8 := hB8.size
            go_wp2_with (first | (with_reducible refine hold_append ?_) | (with_reducible refine hold_make ?_) | (with_reducible refine hold_copy ?_))
            refine hsm.mono ?_
            rintro e w8 ⟨rfl, hB8'⟩
            have hB8 := hB8.trans (hB8'.mono hz8)
            clear hB8'
            go_wp2_with (first | (with_reducible refine hold_append ?_) | (with_reducible refine hold_make ?_) | (with_reducible refine hold_copy ?_))
            refine (head_any w8 (ht.below hB8 hg0) (Nat.lt_of_lt_of_le hg0 hB8.size)).mono ?_
            rintro e w9 ⟨rfl, hB9⟩
            have hB10 := hB8.trans (hB9.mono hB8.size)
            go_wp2_with (first | (with_reducible refine hold_append ?_) | (with_reducible refine hold_make ?_) | (with_reducible refine hold_copy ?_))
            go_ret
            exact ⟨rfl, hB10⟩
          · have HC := Lib.hid (HC0.out.trans (by rw [if_neg hEt2]))
            have hx1 : ((E : Int) == (t : Int)) = false := by rw [beq_eq_false_iff_ne]; omega
            clear HC0 hEt2
            have hsc3 := hsc2 t wr (ht.below hB hg0) (Nat.lt_of_lt_of_le hg0 hB.size)
            have hlk : (l.take k).length = k := by rw [List.length_take]; omega
            rw [HC.out, hlk] at hsc3
            clear hsc2 hlk HC HE hcut hwf HBT hf hl
            have hz := hB.size
            go_wp2_with (first | (with_reducible refine hold_append ?_) | (with_reducible refine hold_make ?_) | (with_reducible refine hold_copy ?_) | (with_reducible refine hold_slice ?_) | (with_reducible refine hold_conv (s := 9) (t := 31) ?_))
            refine unhold (wp_cutS Tryd.underlying9 rfl rfl rfl (l := sb) 0 t (.inl ⟨rfl, rfl⟩) (.inr ⟨_, _, rfl, rfl⟩) (by omega) (by have := HTL.out; omega) ?_)
            rw [List.drop_zero]
            go_wp2_with (first | (with_reducible refine hold_append ?_) | (with_reducible refine hold_make ?_) | (with_reducible refine hold_copy ?_) | (with_reducible refine hold_slice ?_) | (with_reducible refine hold_conv (s := 9) (t := 31) ?_))
            refine hsc3.mono ?_
            rintro e w7 ⟨A7, c7, rfl, ho7, hB7⟩
            have hB8 := hB.trans (hB7.mono hz)
            have hr7 := hr.below hB8
            have hcc := hr7.cap
            clear hsc3
            go_wp2_with (first | (with_reducible refine hold_append ?_) | (with_reducible refine hold_make ?_) | (with_reducible refine hold_copy ?_) | (with_reducible refine hold_slice ?_) | (with_reducible refine hold_conv (s := 9) (t := 31) ?_))
            refine unhold (wp_cutB slR rfl rfl rfl hr7 0 k c (.inl ⟨rfl, rfl⟩) (.inr ⟨_, _, rfl, rfl⟩) (.inl ⟨rfl, rfl⟩) (by intro h; cases h) (by omega) (by omega) (Nat.le_refl _) (by omega) ?_)
            intro A8 hr8 _
            simp only [Nat.zero_mul, List.drop_zero, Nat.sub_zero, rowC_take rcShape] at hr8 ⊢
            have hsm := rsame_any A7 k c7 (l.take k) A8 k c (l.take k) w7.heap.size w7 ho7.rd (hr8.more hB8.size) (Nat.le_refl _) (by omega) (by omega)
            rw [decide_eq_true rfl] at hsm
            have hEE : ((E : Int) == (E : Int)) = true := by simp
            have hz8 := hB8.size
            go_wp2_with (first | (with_reducible refine hold_append ?_) | (with_reducible refine hold_make ?_) | (with_reducible refine hold_copy ?_))
            refine hsm.mono ?_
            rintro e w8 ⟨rfl, hB8'⟩
            have hB8 := hB8.trans (hB8'.mono hz8)
            clear hB8'
            go_wp2_with (first | (with_reducible refine hold_append ?_) | (with_reducible refine hold_make ?_) | (with_reducible refine hold_copy ?_))
            refine (head_any w8 (ht.below hB8 hg0) (Nat.lt_of_lt_of_le hg0 hB8.size)).mono ?_
            rintro e w9 ⟨rfl, hB9⟩
            have hB10 := hB8.trans (hB9.mono hB8.size)
            go_wp2_with (first | (with_reducible refine hold_append ?_) | (with_reducible refine hold_make ?_) | (with_reducible refine hold_copy ?_))
            go_ret
            exact ⟨rfl, hB10⟩
      · obtain rfl : k = n := by omega
        have HC1 := hcut k t (by omega) (by rw [← HE.out]; exact hEt) htT (fun h => by omega)
        rw [← HE.out] at HC1
        have HC0 := Lib.hid HC1
        clear HC1
        by_cases hEt2 : E = t
        · have HC := Lib.hid (HC0.out.trans (by rw [if_pos hEt2]))
          have hx1 : ((E : Int) == (t : Int)) = true := by simp [hEt2]
          clear HC0 hEt2
          have hsc3 := hsc2 t wr (ht.below hB hg0) (Nat.lt_of_lt_of_le hg0 hB.size)
          have hlk : (l.take k).length = k := by rw [List.length_take]; omega
          rw [HC.out, hlk] at hsc3
          clear hsc2 hlk HC HE hcut hwf HBT hf hl
          have hz := hB.size
          go_wp2_with (first | (with_reducible refine hold_append ?_) | (with_reducible refine hold_make ?_) | (with_reducible refine hold_copy ?_) | (with_reducible refine hold_slice ?_) | (with_reducible refine hold_conv (s := 9) (t := 31) ?_))
          refine unhold (wp_cutS Tryd.underlying9 rfl rfl rfl (l := sb) 0 t (.inl ⟨rfl, rfl⟩) (.inr ⟨_, _, rfl, rfl⟩) (by omega) (by have := HTL.out; omega) ?_)
          rw [List.drop_zero]
          go_wp2_with (first | (with_reducible refine hold_append ?_) | (with_reducible refine hold_make ?_) | (with_reducible refine hold_copy ?_) | (with_reducible refine hold_slice ?_) | (with_reducible refine hold_conv (s := 9) (t := 31) ?_))
          refine hsc3.mono ?_
          rintro e w7 ⟨A7, c7, rfl, ho7, hB7⟩
          have hB8 := hB.trans (hB7.mono hz)
          have hr7 := hr.below hB8
          have hcc := hr7.cap
          clear hsc3
          go_wp2_with (first | (with_reducible refine hold_append ?_) | (with_reducible refine hold_make ?_) | (with_reducible refine hold_copy ?_) | (with_reducible refine hold_slice ?_) | (with_reducible refine hold_conv (s := 9) (t := 31) ?_))
          refine unhold (wp_cutB slR rfl rfl rfl hr7 0 k c (.inl ⟨rfl, rfl⟩) (.inr ⟨_, _, rfl, rfl⟩) (.inl ⟨rfl, rfl⟩) (by intro h; cases h) (by omega) (by omega) (Nat.le_refl _) (by omega) ?_)
          intro A8 hr8 _
          simp only [Nat.zero_mul, List.drop_zero, Nat.sub_zero, rowC_take rcShape] at hr8 ⊢
          have hsm := rsame_any A7 k c7 (l.take k) A8 k c (l.take k) w7.heap.size w7 ho7.rd (hr8.more hB8.size) (Nat.le_refl _) (by omega) (by omega)
          rw [decide_eq_true rfl] at hsm
          have hEE : ((E : Int) == (E : Int)) = true := by simp
          have hz8 := hB8.size
          go_wp2_with (first | (with_reducible refine hold_append ?_) | (with_reducible refine hold_make ?_) | (with_reducible refine hold_copy ?_))
          refine hsm.mono ?_
          rintro e w8 ⟨rfl, hB8'⟩
          have hB8 := hB8.trans (hB8'.mono hz8)
          clear hB8'
          go_wp2_with (first | (with_reducible refine hold_append ?_) | (with_reducible refine hold_make ?_) | (with_reducible refine hold_copy ?_))
          refine (head_any w8 (ht.below hB8 hg0) (Nat.lt_of_lt_of_le hg0 hB8.size)).mono ?_
          rintro e w9 ⟨rfl, hB9⟩
          have hB10 := hB8.trans (hB9.mono hB8.size)
          go_wp2_with (first | (with_reducible refine hold_append ?_) | (with_reducible refine hold_make ?_) | (with_reducible refine hold_copy ?_))
          go_ret
          exact ⟨rfl, hB10⟩
        · have HC := Lib.hid (HC0.out.trans (by rw [if_neg hEt2]))
          have hx1 : ((E : Int) == (t : Int)) = false := by rw [beq_eq_false_iff_ne]; omega
          clear HC0 hEt2
          have hsc3 := hsc2 t wr (ht.below hB hg0) (Nat.lt_of_lt_of_le hg0 hB.size)
          have hlk : (l.take k).length = k := by rw [List.length_take]; omega
          rw [HC.out, hlk] at hsc3
          clear hsc2 hlk HC HE hcut hwf HBT hf hl
          have hz := hB.size
          go_wp2_with (first | (with_reducible refine hold_append ?_) | (with_reducible refine hold_make ?_) | (with_reducible refine hold_copy ?_) | (with_reducible refine hold_slice ?_) | (with_reducible refine hold_conv (s := 9) (t := 31) ?_))
          refine unhold (wp_cutS Tryd.underlying9 rfl rfl rfl (l := sb) 0 t (.inl ⟨rfl, rfl⟩) (.inr ⟨_, _, rfl, rfl⟩) (by omega) (by have := HTL.out; omega) ?_)
          rw [List.drop_zero]
          go_wp2_with (first | (with_reducible refine hold_append ?_) | (with_reducible refine hold_make ?_) | (with_reducible refine hold_copy ?_) | (with_reducible refine hold_slice ?_) | (with_reducible refine hold_conv (s := 9) (t := 31) ?_))
          refine hsc3.mono ?_
          rintro e w7 ⟨A7, c7, rfl, ho7, hB7⟩
          have hB8 := hB.trans (hB7.mono hz)
          have hr7 := hr.below hB8
          have hcc := hr7.cap
          clear hsc3
          go_wp2_with (first | (with_reducible refine hold_append ?_) | (with_reducible refine hold_make ?_) | (with_reducible refine hold_copy ?_) | (with_reducible refine hold_slice ?_) | (with_reducible refine hold_conv (s := 9) (t := 31) ?_))
          refine unhold (wp_cutB slR rfl rfl rfl hr7 0 k c (.inl ⟨rfl, rfl⟩) (.inr ⟨_, _, rfl, rfl⟩) (.inl ⟨rfl, rfl⟩) (by intro h; cases h) (by omega) (by omega) (Nat.le_refl _) (by omega) ?_)
          intro A8 hr8 _
          simp only [Nat.zero_mul, List.drop_zero, Nat.sub_zero, rowC_take rcShape] at hr8 ⊢
          have hsm := rsame_any A7 k c7 (l.take k) A8 k c (l.take k) w7.heap.size w7 ho7.rd (hr8.more hB8.size) (Nat.le_refl _) (by omega) (by omega)
          rw [decide_eq_true rfl] at hsm
          have hEE : ((E : Int) == (E : Int)) = true := by simp
          have hz8 := hB8.size
          go_wp2_with (first | (with_reducible refine hold_append ?_) | (with_reducible refine hold_make ?_) | (with_reducible refine hold_copy ?_))
          refine hsm.mono ?_
          rintro e w8 ⟨rfl, hB8'⟩
          have hB8 := hB8.trans (hB8'.mono hz8)
          clear hB8'
          go_wp2_with (first | (with_reducible refine hold_append ?_) | (with_reducible refine hold_make ?_) | (with_reducible refine hold_copy ?_))
          refine (head_any w8 (ht.below hB8 hg0) (Nat.lt_of_lt_of_le hg0 hB8.size)).mono ?_
          rintro e w9 ⟨rfl, hB9⟩
          have hB10 := hB8.trans (hB9.mono hB8.size)
          go_wp2_with (first | (with_reducible refine hold_append ?_) | (with_reducible refine hold_make ?_) | (with_reducible refine hold_copy ?_))
          go_ret
          exact ⟨rfl, hB10⟩
  · rw [hg] at hgr
    clear hg
    go_enter Tryd.func6, Tryd.ntmps6
    go_wp2_with (first | (with_reducible refine hold_append ?_) | (with_reducible refine hold_make ?_) | (with_reducible refine hold_copy ?_))
    refine hgr.mono ?_
    rintro e w1 ⟨rfl, rfl⟩
    go_wp2_with (first | (with_reducible refine hold_append ?_) | (with_reducible refine hold_make ?_) | (with_reducible refine hold_copy ?_))
    refine (head_any w1 ht hg0).mono ?_
    rintro e w4 ⟨rfl, hB5⟩
    go_wp2_with (first | (with_reducible refine hold_append ?_) | (with_reducible refine hold_make ?_) | (with_reducible refine hold_copy ?_))
    go_ret
    exact ⟨rfl, hB5⟩
end Go.PH

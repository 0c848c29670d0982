/- WiresApart: the walk. -/
import Derived.Test.YtemngfljlaimdaaWrApart
import Derived.Deep.CutRange
set_option linter.all false
set_option linter.unusedSimpArgs false
set_option linter.unusedVariables false
namespace Go.PH
open Go.RowKit Go.Proofs

theorem call_cells' {w : World} {B n c : Nat} {A : Option Addr} {L : List Cl} (hr : Rd w B 5 A n c (rowC clC L)) {k : Nat} (hk : k < n) (hkl : k < L.length) : ∃ b off, A = some ⟨b, off, none⟩ ∧ ∀ W, Below B w W → W.cell? ⟨b, off + k * 5, none⟩ = some (.int .u8 (L[k].wh : Int)) ∧ W.cell? ⟨b, off + k * 5 + 1, none⟩ = some (.int .i64 L[k].fr) ∧ W.cell? ⟨b, off + k * 5 + 2, none⟩ = some (.int .i64 L[k].to) ∧ W.cell? ⟨b, off + k * 5 + 3, none⟩ = some (.int .i64 L[k].i) ∧ W.cell? ⟨b, off + k * 5 + 4, none⟩ = some (.string (str L[k].s)) := by
  obtain ⟨b, off, hA, hb, _, hc⟩ := rec_at clShape hr hk
  refine ⟨b, off, hA, fun W hW => ⟨(hW.cell hb).trans (hc 0 _ rfl), (hW.cell hb).trans (hc 1 _ rfl), (hW.cell hb).trans (hc 2 _ rfl), (hW.cell hb).trans (hc 3 _ rfl), (hW.cell hb).trans (hc 4 _ rfl)⟩⟩
theorem ways_len (R : List Wl) : (waysW R).length ≤ R.length := by
  have key : ∀ (R : List Wl) (l : List (Int × Int)), (R.foldl (fun l x => putWay l (x.fr, x.to)) l).length ≤ l.length + R.length := by
    intro R
    induction R with
    | nil => intro l; simp
    | cons x R ih =>
      intro l
      rw [List.foldl_cons, List.length_cons]
      have h1 := ih (putWay l (x.fr, x.to))
      have h2 := putWay_len l (x.fr, x.to)
      omega
  have := key R []
  simpa [waysW] using this
theorem pair_cells {w : World} {B n c : Nat} {A : Option Addr} {ws : List (Int × Int)} (hr : Rd w B 2 A n c (rowC wayC ws)) {i : Nat} (hi : i < n) (hl : i < ws.length) : ∃ b off, A = some ⟨b, off, none⟩ ∧ ∀ W : World, W.heap[b]? = w.heap[b]? → W.cell? ⟨b, off + i * 2, none⟩ = some (.int .i64 ws[i].1) ∧ W.cell? ⟨b, off + i * 2 + 1, none⟩ = some (.int .i64 ws[i].2) := by
  obtain ⟨b, off, rfl, hb, _, hc⟩ := rec_at wayShape hr hi
  have y0 := hc 0 (.int .i64 ws[i].1) rfl
  have y1 := hc 1 (.int .i64 ws[i].2) rfl
  have key : ∀ (W : World) (o : Nat), W.heap[b]? = w.heap[b]? → W.cell? ⟨b, o, none⟩ = w.cell? ⟨b, o, none⟩ := fun W o h => by unfold World.cell?; rw [h]
  exact ⟨b, off, rfl, fun W hW => ⟨(key W _ hW).trans y0, (key W _ hW).trans y1⟩⟩
set_option maxRecDepth 20000 in
set_option maxHeartbeats 8000000 in
theorem law_WiresApart (A : Option Addr) (n c : Nat) (L : List Cl) (A' : Option Addr) (n' c' : Nat) (L' : List Cl) (w : World) (hr : Rd w w.heap.size 5 A n c (rowC clC L)) (hf : ∀ x ∈ L, x.wf) (hr' : Rd w w.heap.size 5 A' n' c' (rowC clC L')) (hf' : ∀ x ∈ L', x.wf) (hc : c ≤ 3000000000000000) (hc' : c' ≤ 3000000000000000) :
    Calls Try.prog 5 #[.slice A n c, .slice A' n' c'] w fun e w' => e = .returned (.bool true) ∧ Below w.heap.size w w' := by
  have hn := rec_length clShape hr
  have hn' := rec_length clShape hr'
  go_enter Try.func5, Try.ntmps5
  go_wp2_with (first | (with_reducible refine hold_append ?_) | (with_reducible refine hold_make ?_) | (with_reducible refine hold_copy ?_))
  refine (apNew1 _).mono ?_
  rintro e w1 ⟨b1, rfl, hW1, hB1⟩
  go_wp2_with (first | (with_reducible refine hold_append ?_) | (with_reducible refine hold_make ?_) | (with_reducible refine hold_copy ?_))
  refine (apNew1 _).mono ?_
  rintro e w2 ⟨b2, rfl, hW2, hB2⟩
  go_wp2_with (first | (with_reducible refine hold_append ?_) | (with_reducible refine hold_make ?_) | (with_reducible refine hold_copy ?_))
  refine (apNew1 _).mono ?_
  rintro e w3 ⟨b3, rfl, hW3, hB3⟩
  obtain ⟨qb, w4, hqb, hqv, hX, hB4⟩ := alloc_stepW w3 #[.slice none 0 0] 37
  have hP := apStart hW1 hB1 hW2 hB2 hW3 hB3 hqb hX hB4
  clear hW1 hB1 hW2 hB2 hW3 hB3 hX hB4
  have HN := Lib.hid hn
  have HN' := Lib.hid hn'
  clear hn hn'
  go_upto_region 3 with fail
  rw [← hqb, ← hqv]
  clear hqb hqv
  go_wp2_with (first | (with_reducible refine hold_append ?_) | (with_reducible refine hold_make ?_) | (with_reducible refine hold_copy ?_))
  try go_frame
  go_loopw [9] (fun s wr => ∃ (k : Nat), k ≤ 60 ∧ s = .int .i64 k ∧ ApG w wr (fun _ => False) (4 * k) b1 b2 b3 qb Apart) (fun s _ => 60 - (Go.RowKit.intOf s).toNat)
  case atStart => exact ⟨0, by omega, rfl, hP⟩
  case round =>
    as_aux_lemma =>
    clear hP
    obtain ⟨k, hk, rfl, hP⟩ := hrel
    go_upto_region 4 with fail
    obtain ⟨D, hD⟩ : ∃ D, D = decide (k < 60 ∧ (k < n ∨ k < n')) := ⟨_, rfl⟩
    have HD := Lib.hid hD
    clear hD
    go_cut [39] from 26 to 109 (fun s wx => s = .bool D ∧ wr = wx)
    case first =>
      as_aux_lemma =>
      by_cases d1 : k < 60
      · have g1 : (k : Int) < 60 := by omega
        by_cases d2 : k < n
        · have g2 : (k : Int) < (n : Int) := by omega
          have hd : D = true := by rw [HD.out]; simp [d1, d2]
          go_wp2_with (first | (with_reducible refine hold_append ?_) | (with_reducible refine hold_make ?_) | (with_reducible refine hold_copy ?_))
          go_meet
          exact ⟨by rw [hd], rfl⟩
        · have g2 : ¬ (k : Int) < (n : Int) := by omega
          by_cases d3 : k < n'
          · have g3 : (k : Int) < (n' : Int) := by omega
            have hd : D = true := by rw [HD.out]; simp [d1, d3]
            go_wp2_with (first | (with_reducible refine hold_append ?_) | (with_reducible refine hold_make ?_) | (with_reducible refine hold_copy ?_))
            go_meet
            exact ⟨by rw [hd], rfl⟩
          · have g3 : ¬ (k : Int) < (n' : Int) := by omega
            have hd : D = false := by rw [HD.out]; simp [d2, d3]
            go_wp2_with (first | (with_reducible refine hold_append ?_) | (with_reducible refine hold_make ?_) | (with_reducible refine hold_copy ?_))
            go_meet
            exact ⟨by rw [hd], rfl⟩
      · have g1 : ¬ (k : Int) < 60 := by omega
        have hd : D = false := by rw [HD.out]; simp [d1]
        go_wp2_with (first | (with_reducible refine hold_append ?_) | (with_reducible refine hold_make ?_) | (with_reducible refine hold_copy ?_))
        go_meet
        exact ⟨by rw [hd], rfl⟩
    case rest =>
      obtain ⟨rfl, rfl⟩ := hcut
      cases D
      · clear HD hr hr' hf hf' HN HN'
        obtain ⟨R, S, T, hap, hi64, hPE, hRk⟩ := apWays hP
        have hWL := ways_len R
        rw [hap.ways, List.length_append] at hWL
        go_wp2_with (first | (with_reducible refine hold_append ?_) | (with_reducible refine hold_make ?_) | (with_reducible refine hold_copy ?_))
        refine (ways2 hPE (by omega)).mono ?_
        rintro e w5 ⟨A5, c5, rfl, ho5, hB5⟩
        have hPE5 := hPE.on hB5
        have hz0 := hPE.toB.size
        have hz5 := hB5.size
        go_wp2_with (first | (with_reducible refine hold_append ?_) | (with_reducible refine hold_make ?_) | (with_reducible refine hold_copy ?_))
        refine unhold (wp_app (base := wr.heap.size) slPair rfl rfl rfl rfl (Own.none_ _ _ _ _) ho5.rd (rowC_one wayShape _) (by omega) (by simp [maxLen]; omega) (by omega) ?_)
        intro A6 c6 w6 ho6 hg6 _
        simp only [Nat.zero_add, List.nil_append] at ho6 ⊢
        have hB6 : Below wr.heap.size wr w6 := hB5.grown hg6 hz5 (fun g hg => by cases hg)
        have hz6 := hB6.size
        have hPE6 := hPE.on hB6
        clear hPE5 hg6 ho5 hB5
        go_wp2_with (first | (with_reducible refine hold_append ?_) | (with_reducible refine hold_make ?_) | (with_reducible refine hold_copy ?_))
        refine (ways3 hPE6 (by omega)).mono ?_
        rintro e w7 ⟨A7, c7, rfl, ho7, hB7⟩
        have ho67 := own_below ho6 hB7
        have hz7 := hB7.size
        go_wp2_with (first | (with_reducible refine hold_append ?_) | (with_reducible refine hold_make ?_) | (with_reducible refine hold_copy ?_))
        refine unhold (wp_app (base := wr.heap.size) slPair rfl rfl rfl rfl ho67 ho7.rd (rowC_one wayShape _) (by omega) (by simp [maxLen]; omega) (by omega) ?_)
        intro A8 c8 w8 ho8 hg8 _
        have hB8 : Below wr.heap.size wr w8 := (hB6.trans (hB7.mono hz6)).grown hg8 (by omega) (fun g hg => (ho67.blk_lt hg).1)
        have hz8 := hB8.size
        have hPE8 := hPE.on hB8
        rw [← rowC_app, ← hap.ways] at ho8
        have hN : (waysW S).length + (waysW T).length = (waysW R).length := by rw [hap.ways, List.length_append]
        rw [hN] at ho8 ⊢
        clear hPE6 ho6 hB7 ho67 hg8 ho7 hB6
        go_wp2_with (first | (with_reducible refine hold_append ?_) | (with_reducible refine hold_make ?_) | (with_reducible refine hold_copy ?_))
        refine (ways1 hPE8 (by omega)).mono ?_
        rintro e w9 ⟨A9, c9, rfl, ho9, hB9⟩
        have hz9 := hB9.size
        have hB09 : Below wr.heap.size wr w9 := hB8.trans (hB9.mono hz8)
        have ho89 := own_below ho8 hB9
        obtain ⟨X, hXe⟩ : ∃ X : Nat → Prop, ∀ g, X g ↔ (blk A8 = some g ∨ blk A9 = some g) := ⟨_, fun _ => Iff.rfl⟩
        have hPX := (hPE.mono (Nat.le_refl _) (P' := Apart) (fun R' S' T' h => by obtain ⟨rfl, rfl, rfl⟩ := h; exact hap)).spare hB09 X (fun g hg => .inr (by
          rcases (hXe g).1 hg with hg | hg
          · exact ho89.blk_lt hg
          · have := ho9.blk_lt hg; omega))
        obtain ⟨m0, hL0⟩ := hPX.toL (by omega)
        have hr8 := ho89.rd
        have hr9 := ho9.rd
        have H01 : Hid (∀ p ∈ waysW R, p.1 = 0 ∨ p.1 = 1) := Lib.hid (fun p hp => hap.way01 (a := p.1) (b := p.2) hp)
        have H64 := Lib.hid hi64
        have hNk : (waysW R).length ≤ 1000 := by omega
        clear hPX ho89 ho9 hB09 hB9 ho8 hPE8 hPE hB8 hi64 hWL hN
        generalize waysW R = ws at *
        obtain ⟨N, hNe⟩ : ∃ N, N = ws.length := ⟨_, rfl⟩
        rw [← hNe] at hr8 hr9 hNk ⊢
        have HNE := Lib.hid hNe
        clear hNe hP hap
        have hnn : ((N : Int) != (N : Int)) = false := by simp
        go_wp2_with (first | (with_reducible refine hold_append ?_) | (with_reducible refine hold_make ?_) | (with_reducible refine hold_copy ?_))
        clear hnn
        try go_frame
        go_loopw [14] (fun s wq => ∃ (i m : Nat), i ≤ N ∧ s = .int .i64 i ∧ ApL w wq X b1 b2 b3 qb m ∧ Kept X w9 wq) (fun s _ => N - (RowKit.intOf s).toNat)
        case atStart => exact ⟨0, m0, by omega, rfl, hL0, fun _ _ => rfl⟩
        case round =>
          as_aux_lemma =>
          clear hL0
          obtain ⟨i, m1, hi, rfl, hL1, hK⟩ := hrel
          by_cases hlt : i < N
          · have g1 : (i : Int) < (N : Int) := by omega
            have hil : i < ws.length := by rw [← HNE.out]; exact hlt
            obtain ⟨b8, o8, rfl, hC8⟩ := pair_cells hr8 hlt hil
            obtain ⟨b9, o9, rfl, hC9⟩ := pair_cells hr9 hlt hil
            obtain ⟨y0, y1⟩ := hC8 _ (hK b8 ((hXe b8).2 (.inl rfl)))
            obtain ⟨z0, z1⟩ := hC9 _ (hK b9 ((hXe b9).2 (.inr rfl)))
            have h64 := H64.out _ (List.getElem_mem hil)
            have h01 := H01.out _ (List.getElem_mem hil)
            clear hC8 hC9 hXe
            generalize ws[i] = pp at *
            obtain ⟨pa, pc⟩ := pp
            simp only at y0 y1 z0 z1 h64 h01
            have he : ∀ W, (binOp .neq 45 (.agg #[.int .i64 pa, .int .i64 pc]) (.agg #[.int .i64 pa, .int .i64 pc])).run Try.prog W = .ok (.bool false) W := fun W => by rw [neq_pair]; simp
            go_wp2_with (first | (with_reducible refine hold_append ?_) | (with_reducible refine hold_make ?_) | (with_reducible refine hold_copy ?_))
            go_quiet (fail)
            go_wp2_with (first | (with_reducible refine hold_append ?_) | (with_reducible refine hold_make ?_) | (with_reducible refine hold_copy ?_))
            go_quiet (fail)
            go_wp2_with (first | (with_reducible refine hold_append ?_) | (with_reducible refine hold_make ?_) | (with_reducible refine hold_copy ?_))
            clear y0 y1 z0 z1 he
            try go_frame
            go_loopw [18] (fun _ wx => (∃ m, ApL w wx X b1 b2 b3 qb m) ∧ Kept X w9 wx) (fun _ wx => least (fun m => ApL w wx X b1 b2 b3 qb m))
            case atStart => exact ⟨⟨m1, hL1.on (below_drewN (below_drewN (Below.refl _ _) _) _)⟩, fun g hg => hK g hg⟩
            case round =>
              as_aux_lemma =>
              clear hL1 hK
              obtain ⟨⟨mx, hmx⟩, hK⟩ := hrel
              have hL := least_is hmx
              clear hmx
              obtain ⟨m, hm⟩ : ∃ m, m = least (fun m => ApL w wr X b1 b2 b3 qb m) := ⟨_, rfl⟩
              rw [← hm] at hL
              have HM := Lib.hid hm
              clear hm
              go_wp2_with (first | (with_reducible refine hold_append ?_) | (with_reducible refine hold_make ?_) | (with_reducible refine hold_copy ?_))
              refine (apCount hL pa pc h64.1 h64.2).mono ?_
              rintro e w10 ⟨c, rfl, hC, hB⟩
              have hK10 : Kept X w9 w10 := fun g hg => (hB.block g (by
                obtain ⟨H, n, Q, R, S, T, ⟨F, _, _, _, _, q5, _⟩, _⟩ := hL
                exact q5 g hg)).trans (hK g hg)
              clear hL hB hK
              by_cases h0 : c = 0
              · have g2 : ¬ (0 : Int) < (c : Int) := by omega
                have hL := hC.toL
                clear hC h0
                go_wp2_with (first | (with_reducible refine hold_append ?_) | (with_reducible refine hold_make ?_) | (with_reducible refine hold_copy ?_))
                exact ⟨⟨i + 1, m, by omega, by go_num, hL, hK10⟩, by simp [RowKit.intOf]; omega⟩
              · have g2 : (0 : Int) < (c : Int) := by omega
                go_wp2_with (first | (with_reducible refine hold_append ?_) | (with_reducible refine hold_make ?_) | (with_reducible refine hold_copy ?_))
                refine (apT0 hC (by omega) h64.1 h64.2).mono ?_
                rintro e w11 ⟨s, rfl, hM, hK11⟩
                clear hC
                have hss : ((str s).toList == (str s).toList) = true := by simp
                have hss' : ((str s).toList != (str s).toList) = false := by simp
                rcases h01 with rfl | rfl
                · go_wp2_with (first | (with_reducible refine hold_append ?_) | (with_reducible refine hold_make ?_) | (with_reducible refine hold_copy ?_))
                  refine (apT1z hM (by omega) h64.2).mono ?_
                  rintro e w12 ⟨rfl, ⟨m', hlt', hL'⟩, hK12⟩
                  clear hM
                  go_wp2_with (first | (with_reducible refine hold_append ?_) | (with_reducible refine hold_make ?_) | (with_reducible refine hold_copy ?_))
                  exact ⟨⟨⟨m', hL'⟩, fun g hg => (hK12 g hg).trans ((hK11 g hg).trans (hK10 g hg))⟩, by
                    rw [← HM.out]
                    exact Nat.lt_of_le_of_lt (least_le hL') hlt'⟩
                · go_wp2_with (first | (with_reducible refine hold_append ?_) | (with_reducible refine hold_make ?_) | (with_reducible refine hold_copy ?_))
                  refine (apT1o hM (by omega) h64.2).mono ?_
                  rintro e w12 ⟨rfl, hM, hK12⟩
                  go_wp2_with (first | (with_reducible refine hold_append ?_) | (with_reducible refine hold_make ?_) | (with_reducible refine hold_copy ?_))
                  refine (apT2 hM (by omega) h64.2).mono ?_
                  rintro e w13 ⟨rfl, ⟨m', hlt', hL'⟩, hK13⟩
                  clear hM
                  go_wp2_with (first | (with_reducible refine hold_append ?_) | (with_reducible refine hold_make ?_) | (with_reducible refine hold_copy ?_))
                  exact ⟨⟨⟨m', hL'⟩, fun g hg => (hK13 g hg).trans ((hK12 g hg).trans ((hK11 g hg).trans (hK10 g hg)))⟩, by
                    rw [← HM.out]
                    exact Nat.lt_of_le_of_lt (least_le hL') hlt'⟩
          · have g1 : ¬ (i : Int) < (N : Int) := by omega
            have hBx := hL1.toB
            clear hr8 hr9
            go_wp2_with (first | (with_reducible refine hold_append ?_) | (with_reducible refine hold_make ?_) | (with_reducible refine hold_copy ?_))
            refine (head_any _).mono ?_
            rintro e wh ⟨rfl, hBh⟩
            go_wp2_with (first | (with_reducible refine hold_append ?_) | (with_reducible refine hold_make ?_) | (with_reducible refine hold_copy ?_))
            go_ret
            exact ⟨rfl, hBx.trans (hBh.mono hBx.size)⟩
      · have hd := of_decide_eq_true HD.out.symm
        have hk60 := hd.1
        clear hd
        clear HD
        go_upto_region 6 with fail
        go_cut [62] from 26 to 109 (fun s wx => ∃ E : Bool, s = .bool E ∧ ApG w wx (fun _ => False) (4 * k) b1 b2 b3 qb Apart ∧ Hid (E = true → k < n ∧ ∃ hk : k < List.length L, L[k].s.length ≤ 300 ∧ L[k].wh % 6 ≠ 5))
        case first =>
          as_aux_lemma =>
          by_cases d1 : k < n
          · have g1 : (k : Int) < (n : Int) := by omega
            have hkl : k < List.length L := by rw [HN.out]; exact d1
            obtain ⟨b, off, rfl, HC⟩ := call_cells' hr d1 hkl
            have hxw := hf _ (List.getElem_mem hkl)
            have hgr := fun W => great_any L[k] W hxw
            have HE := Lib.hid (show k < n ∧ ∃ hk : k < List.length L, L[k] = L[k] from ⟨d1, hkl, rfl⟩)
            have HQ : Hid (∀ x, x = L[k] → x.s.length ≤ 300 → x.wh % 6 ≠ 5 → k < n ∧ ∃ hk : k < List.length L, L[k].s.length ≤ 300 ∧ L[k].wh % 6 ≠ 5) := Lib.hid (fun x e h1 h2 => ⟨d1, hkl, by rw [← e]; exact h1, by rw [← e]; exact h2⟩)
            clear HE
            obtain ⟨x, hx⟩ : ∃ x, x = L[k] := ⟨_, rfl⟩
            rw [← hx] at hxw HC
            replace hgr := fun W => (show Calls Try.prog 11 #[.agg (clV x)] W _ from hx ▸ hgr W)
            replace HQ := Lib.hid (HQ.out x hx)
            clear hx
            obtain ⟨wh, fr, tq, j, s⟩ := x
            unfold clV at hgr
            simp only at hgr HC HQ
            obtain ⟨k0, k1, k2, k3, k4⟩ := HC wr hP.toB
            have hgr0 := hgr wr
            clear hgr
            go_wp2_with (first | (with_reducible refine hold_append ?_) | (with_reducible refine hold_make ?_) | (with_reducible refine hold_copy ?_))
            refine hgr0.mono ?_
            rintro e w5 ⟨rfl, hB5⟩
            have hP5 := hP.on hB5
            clear hP hgr0 k0 k1 k2 k3 k4 hB5
            obtain ⟨k0, k1, k2, k3, k4⟩ := HC w5 hP5.toB
            by_cases h3 : 300 < s.length
            · have g3 : decide (300 < s.length) = true := by simp [h3]
              clear h3
              go_wp2_with (first | (with_reducible refine hold_append ?_) | (with_reducible refine hold_make ?_) | (with_reducible refine hold_copy ?_))
              go_meet
              exact ⟨false, rfl, hP5, Lib.hid (fun h => by cases h)⟩
            · have g3 : decide (300 < s.length) = false := by simp; omega
              have HS := Lib.hid h3
              clear h3
              by_cases h5 : wh % 6 = 5
              · have g5 : ((wh : Int) % 6 != 5) = false := by simp; omega
                clear h5
                go_wp2_with (first | (with_reducible refine hold_append ?_) | (with_reducible refine hold_make ?_) | (with_reducible refine hold_copy ?_))
                go_meet
                exact ⟨false, rfl, hP5, Lib.hid (fun h => by cases h)⟩
              · have g5 : ((wh : Int) % 6 != 5) = true := by simp; omega
                have H5 := Lib.hid h5
                clear h5
                go_wp2_with (first | (with_reducible refine hold_append ?_) | (with_reducible refine hold_make ?_) | (with_reducible refine hold_copy ?_))
                go_meet
                exact ⟨true, rfl, hP5, Lib.hid (fun _ => HQ.out (by have := HS.out; omega) H5.out)⟩
          · have g1 : ¬ (k : Int) < (n : Int) := by omega
            go_wp2_with (first | (with_reducible refine hold_append ?_) | (with_reducible refine hold_make ?_) | (with_reducible refine hold_copy ?_))
            go_meet
            exact ⟨false, rfl, hP, Lib.hid (fun h => by cases h)⟩
        case rest =>
          obtain ⟨E, rfl, hP, HE⟩ := hcut
          go_upto_if 62 with fail
          go_cut [9] from 26 to 109 (fun s wx => s = .int .i64 k ∧ ApG w wx (fun _ => False) (4 * k + 2) b1 b2 b3 qb Apart)
          case first =>
            as_aux_lemma =>
            cases E
            · go_wp2_with (first | (with_reducible refine hold_append ?_) | (with_reducible refine hold_make ?_) | (with_reducible refine hold_copy ?_))
              go_meet
              exact ⟨rfl, hP.mono (by omega) (fun _ _ _ h => h)⟩
            · obtain ⟨d1, hkl, hs300, hw5⟩ := HE.out rfl
              obtain ⟨b, off, rfl, HC⟩ := call_cells' hr d1 hkl
              have hxw := hf _ (List.getElem_mem hkl)
              have g1 : (k : Int) < (n : Int) := by omega
              generalize L[k] = x at *
              obtain ⟨wh, fr, tq, j, s⟩ := x
              simp only at HC hs300 hw5
              obtain ⟨k0, k1, k2, k3, k4⟩ := HC _ hP.toB
              obtain ⟨xb, w5, hxb, hxv, hXb, hB5⟩ := alloc_stepW wc #[.int .u8 (wh : Int), .int .i64 0, .int .i64 tq, .int .i64 j, .string (str s)] 40
              have hP5 := hP.spare hB5 (fun g => g = xb) (fun g hg => .inr (by have := hXb.lt; subst hg; exact ⟨by omega, this⟩))
              have hxw' : Cl.wf ⟨wh, 0, tq, j, s⟩ := ⟨hxw.1, (show i64ok 0 from ⟨by omega, by omega⟩), hxw.2.2.1, hxw.2.2.2.1, hxw.2.2.2.2⟩
              have h1 := apBoth hP5 ⟨wh, 0, tq, j, s⟩ hxw' (by omega)
              unfold clV at h1
              simp only at h1
              clear hP hP5
              go_upto_region 9 with fail
              rw [← hxb, ← hxv]
              clear hxb hxv hB5 k0 k1 k2 k3 k4
              have c0 := hXb.cell (j := 0) rfl
              have c1 := hXb.cell (j := 1) rfl
              have c2 := hXb.cell (j := 2) rfl
              have c3 := hXb.cell (j := 3) rfl
              have c4 := hXb.cell (j := 4) rfl
              go_wp2_with (first | (with_reducible refine hold_append ?_) | (with_reducible refine hold_make ?_) | (with_reducible refine hold_copy ?_))
              refine h1.mono ?_
              rintro e w6 ⟨bb, rfl, hP6, hK6⟩
              have hX6 : Box w6 xb 40 #[.int .u8 (wh : Int), .int .i64 0, .int .i64 tq, .int .i64 j, .string (str s)] := (hK6 xb rfl).trans hXb
              have h1 := apOne hP6 ⟨wh, 0, tq, j, s⟩ hxw' (by omega)
              unfold clV at h1
              simp only at h1
              clear c0 c1 c2 c3 c4 hP6 hK6 hXb
              have c0 := hX6.cell (j := 0) rfl
              have c1 := hX6.cell (j := 1) rfl
              have c2 := hX6.cell (j := 2) rfl
              have c3 := hX6.cell (j := 3) rfl
              have c4 := hX6.cell (j := 4) rfl
              go_wp2_with (first | (with_reducible refine hold_append ?_) | (with_reducible refine hold_make ?_) | (with_reducible refine hold_copy ?_))
              refine h1.mono ?_
              rintro e w7 ⟨bb2, rfl, hP7, hK7⟩
              clear c0 c1 c2 c3 c4 h1
              go_wp2_with (first | (with_reducible refine hold_append ?_) | (with_reducible refine hold_make ?_) | (with_reducible refine hold_copy ?_))
              go_meet
              refine ⟨rfl, (hP7.spare (Below.refl _ _) (fun _ => False) (fun g hg => hg.elim)).mono (by omega) ?_⟩
              rintro R S T ⟨S0, rfl, R0, rfl, h⟩
              exact h.turn0 _ hw5 rfl
          case rest =>
            obtain ⟨rfl, hP⟩ := hcut
            go_upto_region 11 with fail
            go_cut [96] from 26 to 109 (fun s wx => ∃ E : Bool, s = .bool E ∧ ApG w wx (fun _ => False) (4 * k + 2) b1 b2 b3 qb Apart ∧ Hid (E = true → k < n' ∧ ∃ hk : k < List.length L', L'[k].s.length ≤ 300 ∧ L'[k].wh % 6 ≠ 5))
            case first =>
              as_aux_lemma =>
              by_cases d1 : k < n'
              · have g1 : (k : Int) < (n' : Int) := by omega
                have hkl : k < List.length L' := by rw [HN'.out]; exact d1
                obtain ⟨b, off, rfl, HC⟩ := call_cells' hr' d1 hkl
                have hxw := hf' _ (List.getElem_mem hkl)
                have hgr := fun W => great_any L'[k] W hxw
                have HE := Lib.hid (show k < n' ∧ ∃ hk : k < List.length L', L'[k] = L'[k] from ⟨d1, hkl, rfl⟩)
                have HQ : Hid (∀ x, x = L'[k] → x.s.length ≤ 300 → x.wh % 6 ≠ 5 → k < n' ∧ ∃ hk : k < List.length L', L'[k].s.length ≤ 300 ∧ L'[k].wh % 6 ≠ 5) := Lib.hid (fun x e h1 h2 => ⟨d1, hkl, by rw [← e]; exact h1, by rw [← e]; exact h2⟩)
                clear HE
                obtain ⟨x, hx⟩ : ∃ x, x = L'[k] := ⟨_, rfl⟩
                rw [← hx] at hxw HC
                replace hgr := fun W => (show Calls Try.prog 11 #[.agg (clV x)] W _ from hx ▸ hgr W)
                replace HQ := Lib.hid (HQ.out x hx)
                clear hx
                obtain ⟨wh, fr, tq, j, s⟩ := x
                unfold clV at hgr
                simp only at hgr HC HQ
                obtain ⟨k0, k1, k2, k3, k4⟩ := HC wc hP.toB
                have hgr0 := hgr wc
                clear hgr
                go_wp2_with (first | (with_reducible refine hold_append ?_) | (with_reducible refine hold_make ?_) | (with_reducible refine hold_copy ?_))
                refine hgr0.mono ?_
                rintro e w5 ⟨rfl, hB5⟩
                have hP5 := hP.on hB5
                clear hP hgr0 k0 k1 k2 k3 k4 hB5
                obtain ⟨k0, k1, k2, k3, k4⟩ := HC w5 hP5.toB
                by_cases h3 : 300 < s.length
                · have g3 : decide (300 < s.length) = true := by simp [h3]
                  clear h3
                  go_wp2_with (first | (with_reducible refine hold_append ?_) | (with_reducible refine hold_make ?_) | (with_reducible refine hold_copy ?_))
                  go_meet
                  exact ⟨false, rfl, hP5, Lib.hid (fun h => by cases h)⟩
                · have g3 : decide (300 < s.length) = false := by simp; omega
                  have HS := Lib.hid h3
                  clear h3
                  by_cases h5 : wh % 6 = 5
                  · have g5 : ((wh : Int) % 6 != 5) = false := by simp; omega
                    clear h5
                    go_wp2_with (first | (with_reducible refine hold_append ?_) | (with_reducible refine hold_make ?_) | (with_reducible refine hold_copy ?_))
                    go_meet
                    exact ⟨false, rfl, hP5, Lib.hid (fun h => by cases h)⟩
                  · have g5 : ((wh : Int) % 6 != 5) = true := by simp; omega
                    have H5 := Lib.hid h5
                    clear h5
                    go_wp2_with (first | (with_reducible refine hold_append ?_) | (with_reducible refine hold_make ?_) | (with_reducible refine hold_copy ?_))
                    go_meet
                    exact ⟨true, rfl, hP5, Lib.hid (fun _ => HQ.out (by have := HS.out; omega) H5.out)⟩
              · have g1 : ¬ (k : Int) < (n' : Int) := by omega
                go_wp2_with (first | (with_reducible refine hold_append ?_) | (with_reducible refine hold_make ?_) | (with_reducible refine hold_copy ?_))
                go_meet
                exact ⟨false, rfl, hP, Lib.hid (fun h => by cases h)⟩
            case rest =>
              obtain ⟨E, rfl, hP, HE⟩ := hcut
              cases E
              · go_wp2_with (first | (with_reducible refine hold_append ?_) | (with_reducible refine hold_make ?_) | (with_reducible refine hold_copy ?_))
                exact ⟨⟨k + 1, by omega, by go_num, hP.mono (by omega) (fun _ _ _ h => h)⟩, by simp [RowKit.intOf]; omega⟩
              · obtain ⟨d1, hkl, hs300, hw5⟩ := HE.out rfl
                obtain ⟨b, off, rfl, HC⟩ := call_cells' hr' d1 hkl
                have hxw := hf' _ (List.getElem_mem hkl)
                have g1 : (k : Int) < (n' : Int) := by omega
                generalize L'[k] = x at *
                obtain ⟨wh, fr, tq, j, s⟩ := x
                simp only at HC hs300 hw5
                obtain ⟨k0, k1, k2, k3, k4⟩ := HC _ hP.toB
                obtain ⟨xb, w5, hxb, hxv, hXb, hB5⟩ := alloc_stepW wc #[.int .u8 (wh : Int), .int .i64 1, .int .i64 tq, .int .i64 j, .string (str s)] 40
                have hP5 := hP.spare hB5 (fun g => g = xb) (fun g hg => .inr (by have := hXb.lt; subst hg; exact ⟨by omega, this⟩))
                have hxw' : Cl.wf ⟨wh, 1, tq, j, s⟩ := ⟨hxw.1, (show i64ok 1 from ⟨by omega, by omega⟩), hxw.2.2.1, hxw.2.2.2.1, hxw.2.2.2.2⟩
                have h1 := apBoth hP5 ⟨wh, 1, tq, j, s⟩ hxw' (by omega)
                unfold clV at h1
                simp only at h1
                clear hP hP5
                go_upto_region 14 with fail
                rw [← hxb, ← hxv]
                clear hxb hxv hB5 k0 k1 k2 k3 k4
                have c0 := hXb.cell (j := 0) rfl
                have c1 := hXb.cell (j := 1) rfl
                have c2 := hXb.cell (j := 2) rfl
                have c3 := hXb.cell (j := 3) rfl
                have c4 := hXb.cell (j := 4) rfl
                go_wp2_with (first | (with_reducible refine hold_append ?_) | (with_reducible refine hold_make ?_) | (with_reducible refine hold_copy ?_))
                refine h1.mono ?_
                rintro e w6 ⟨bb, rfl, hP6, hK6⟩
                have hX6 : Box w6 xb 40 #[.int .u8 (wh : Int), .int .i64 1, .int .i64 tq, .int .i64 j, .string (str s)] := (hK6 xb rfl).trans hXb
                have h1 := apTwo hP6 ⟨wh, 1, tq, j, s⟩ hxw' (by omega)
                unfold clV at h1
                simp only at h1
                clear c0 c1 c2 c3 c4 hP6 hK6 hXb
                have c0 := hX6.cell (j := 0) rfl
                have c1 := hX6.cell (j := 1) rfl
                have c2 := hX6.cell (j := 2) rfl
                have c3 := hX6.cell (j := 3) rfl
                have c4 := hX6.cell (j := 4) rfl
                go_wp2_with (first | (with_reducible refine hold_append ?_) | (with_reducible refine hold_make ?_) | (with_reducible refine hold_copy ?_))
                refine h1.mono ?_
                rintro e w7 ⟨bb2, rfl, hP7, hK7⟩
                clear c0 c1 c2 c3 c4 h1
                go_wp2_with (first | (with_reducible refine hold_append ?_) | (with_reducible refine hold_make ?_) | (with_reducible refine hold_copy ?_))
                refine ⟨⟨k + 1, by omega, by go_num, (hP7.spare (Below.refl _ _) (fun _ => False) (fun g hg => hg.elim)).mono (by omega) ?_⟩, by simp [RowKit.intOf]; omega⟩
                rintro R S T ⟨S0, rfl, R0, rfl, h⟩
                exact h.turn1 _ hw5 rfl
end Go.PH

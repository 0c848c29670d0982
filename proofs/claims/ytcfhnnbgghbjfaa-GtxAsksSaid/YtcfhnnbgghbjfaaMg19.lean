/- Texts laid together: GtRDc. -/
import Derived.Deep.QuietTactic
import Derived.BigQuiet
import Derived.Deep.CutBlock
import Derived.Deep.DeepCutAuto
import Derived.Test.YtcfhnnbgghbjfaaMg11
section
/- The walk of the reference's Check of decisions. -/
set_option linter.all false
set_option linter.unusedSimpArgs false
set_option linter.unusedVariables false
namespace Go.PH
open Go.RowKit Go.Proofs

def lastN (l : List Pt) : Nat → Nat
  | 0 => 0
  | k + 1 => (l[k]?).elim 0 Pt.node
set_option maxRecDepth 20000 in
set_option maxHeartbeats 4000000 in
theorem rdcheck_any (X : Xd) (A : Option Addr) (n c : Nat) (l : List Pt) (B : Nat) (w : World) (hX : X.wf) (hr : RdP w B A n c l) (hB : B ≤ w.heap.size) (hwf : ∀ p ∈ l, p.wf) (hn : n ≤ 1000000000) :
    Calls Try.prog 54 #[.agg (dcV X A n c)] w fun e w' => e = .returned (.int .i64 (dcErr X l)) ∧ Below w.heap.size w w' := by
  have hl := rec_length ptShape hr
  have HL := Lib.hid hl
  clear hl
  have HD : Hid (dcErr X l = if X.ok && X.bran.isEmpty && decide (1 ≤ n) && decide (n ≤ 8) && partsOk X 0 l then 0 else 260) := Lib.hid (by unfold dcErr dcOk; rw [HL.out])
  have hck := fun W => rcheck_any X W hX
  have HE : Hid (X.err = if X.ok then 0 else 40) := Lib.hid rfl
  have HPC : Hid (∀ last p l, partsOk X last (p :: l) = (decide (last < p.node) && decide (p.node ≤ 8) && decide (p.st = 0) && p.x.ok && decide (p.x.fmt = X.fmt ∧ p.x.glob = X.glob) && partsOk X p.node l)) := Lib.hid (partsOk_cons X)
  have HPN : Hid (∀ last, partsOk X last [] = true) := Lib.hid (fun _ => rfl)
  generalize partsOk X = pok at *
  generalize dcErr X l = R at *
  generalize X.err = er at *
  generalize X.ok = ok at *
  obtain ⟨f, g, h⟩ := X
  simp only [dcV, xdV] at HD hck HPC ⊢
  have hB0 := (Below.refl w.heap.size w).alloc (Nat.le_refl _) (.cells #[.int .u32 (f : Int), .string (str g), .string (str h), .slice A n c] 49)
  have hb0 := Box.new w #[.int .u32 (f : Int), .string (str g), .string (str h), .slice A n c] 49
  have x0 := hb0.cell (j := 0) rfl
  have x1 := hb0.cell (j := 1) rfl
  have x2 := hb0.cell (j := 2) rfl
  have x3 := hb0.cell (j := 3) rfl
  go_enter Try.func54, Try.ntmps54
  go_wp2_with (first | (with_reducible refine hold_append ?_) | (with_reducible refine hold_make ?_) | (with_reducible refine hold_copy ?_))
  refine (hck _).mono ?_
  rintro e w1 ⟨rfl, hB1⟩
  have hB01 := hB0.trans (hB1.mono hB0.size)
  have hb1 := hb0.below hB1
  clear hck x0 x1 x2 x3
  have x0 := hb1.cell (j := 0) rfl
  have x1 := hb1.cell (j := 1) rfl
  have x2 := hb1.cell (j := 2) rfl
  have x3 := hb1.cell (j := 3) rfl
  cases ok
  · obtain rfl : er = 40 := by have := HE.out; simpa using this
    have HBAD : Hid (R = 260) := Lib.hid (by rw [HD.out]; simp)
    go_wp2_with (first | (with_reducible refine hold_append ?_) | (with_reducible refine hold_make ?_) | (with_reducible refine hold_copy ?_))
    go_ret
    rw [HBAD.out]
    exact ⟨rfl, hB01⟩
  · obtain rfl : er = 0 := by have := HE.out; simpa using this
    by_cases c2 : h = []
    · have hd2 : (str h).toList.isEmpty = true := by rw [c2, str_toList]; rfl
      by_cases c3 : n < 1
      · have hd3 : (n : Int) < 1 := by omega
        have HBAD : Hid (R = 260) := Lib.hid (by rw [HD.out, if_neg]; simp; omega)
        clear c2
        go_wp2_with (first | (with_reducible refine hold_append ?_) | (with_reducible refine hold_make ?_) | (with_reducible refine hold_copy ?_))
        go_ret
        rw [HBAD.out]
        exact ⟨rfl, hB01⟩
      · have hd3 : decide ((n : Int) < 1) = false := by simp; omega
        by_cases c4 : 8 < n
        · have hd4 : (8 : Int) < (n : Int) := by omega
          have HBAD : Hid (R = 260) := Lib.hid (by rw [HD.out, if_neg]; simp; omega)
          clear c2
          go_wp2_with (first | (with_reducible refine hold_append ?_) | (with_reducible refine hold_make ?_) | (with_reducible refine hold_copy ?_))
          go_ret
          rw [HBAD.out]
          exact ⟨rfl, hB01⟩
        · have hd4 : ¬ (8 : Int) < (n : Int) := by omega
          have HD2 : Hid (R = if pok 0 l then 0 else 260) := Lib.hid (by rw [HD.out]; simp only [c2, List.isEmpty_nil, Bool.true_and, Bool.and_true, decide_eq_true (show 1 ≤ n by omega), decide_eq_true (show n ≤ 8 by omega)])
          clear c2 HD
          go_wp2_with (first | (with_reducible refine hold_append ?_) | (with_reducible refine hold_make ?_) | (with_reducible refine hold_copy ?_))
          go_loopw [3] (fun s wr => ∃ (k : Nat), k ≤ n ∧ s = .int .i64 k ∧ Hid (R = if pok (lastN l k) (l.drop k) then 0 else 260) ∧ Box wr w.heap.size 49 #[.int .u32 (f : Int), .string (str g), .string (str h), .slice A n c] ∧ Below w.heap.size w wr) (fun s _ => n - (RowKit.intOf s).toNat)
          case atStart => exact ⟨0, by omega, rfl, by rw [List.drop_zero]; exact HD2, hb1, hB01⟩
          case round =>
            clear hb1 hB01 x0 x1 x2 x3 HD2 hb0 hB0 hB1
            obtain ⟨k, hk, rfl, HR, hbr, hBr⟩ := hrel
            by_cases hlt : k < n
            · have hkn : (k : Int) < (n : Int) := by omega
              obtain ⟨b, off, rfl, hbB, hkl, hc⟩ := rec_at ptShape (Rd.below hr (hBr.mono hB)) hlt
              have hpw := hwf l[k] (List.getElem_mem hkl)
              have HDR : Hid (l.drop k = l[k] :: l.drop (k + 1)) := Lib.hid (List.drop_eq_getElem_cons hkl)
              have HLN : Hid (lastN l (k + 1) = (l[k]).node) := Lib.hid (by simp [lastN, List.getElem?_eq_getElem hkl])
              have k0 := hc 0 _ rfl
              have k1 := hc 1 _ rfl
              have k2 := hc 2 _ rfl
              have k3 := hc 3 _ rfl
              have k4 := hc 4 _ rfl
              simp only [Nat.add_zero] at k0 k1 k2 k3 k4
              clear hc
              have hprev : 0 < k → wr.cell? ⟨b, off + (k - 1) * 5, none⟩ = some (.int .u8 (lastN l k : Int)) := fun h0 => by
                obtain ⟨b', off', e, _, hkl', hc'⟩ := rec_at ptShape (Rd.below hr (hBr.mono hB)) (show k - 1 < n by omega)
                injection e with e; injection e with e1 e2; subst e1 e2
                have := hc' 0 _ rfl
                simp only [Nat.add_zero] at this
                rw [this]
                congr 2
                obtain ⟨q, rfl⟩ : ∃ q, k = q + 1 := ⟨k - 1, by omega⟩
                simp only [Nat.add_sub_cancel] at hkl' ⊢
                simp [lastN, List.getElem?_eq_getElem hkl']
              have hl0 : k = 0 → lastN l k = 0 := fun h => by rw [h]; rfl
              generalize l[k] = p at *
              generalize lastN l k = last at *
              have hpc := fun W => rcheck_any p.x W hpw.2.1
              have HPE : Hid (p.x.err = if p.x.ok then 0 else 40) := Lib.hid rfl
              have HR2 : Hid (R = if (decide (last < p.node) && decide (p.node ≤ 8) && decide (p.st = 0) && p.x.ok && decide (p.x.fmt = f ∧ p.x.glob = g) && pok p.node (l.drop (k + 1))) then 0 else 260) := Lib.hid (by rw [HR.out, HDR.out, HPC.out])
              have hpn := hpw.1
              have hps := hpw.2.2
              generalize p.x.err = per at *
              generalize p.x.ok = pok1 at *
              obtain ⟨pn, ⟨pf, pg, ph⟩, ps⟩ := p
              simp only at hpc HR2 HLN k0 k1 k2 k3 k4 hpn hps
              simp only [xdV] at hpc
              clear hwf HDR HR hpw
              have hp := Box.new wr #[.int .u8 (pn : Int), .int .u32 (pf : Int), .string (str pg), .string (str ph), .int .u8 (ps : Int)] 45
              have hBp := hBr.alloc hBr.size (.cells #[.int .u8 (pn : Int), .int .u32 (pf : Int), .string (str pg), .string (str ph), .int .u8 (ps : Int)] 45)
              have hbp := hbr.alloc (.cells #[.int .u8 (pn : Int), .int .u32 (pf : Int), .string (str pg), .string (str ph), .int .u8 (ps : Int)] 45)
              have hprev' : 0 < k → (wr.alloc (.cells #[.int .u8 (pn : Int), .int .u32 (pf : Int), .string (str pg), .string (str ph), .int .u8 (ps : Int)] 45)).cell? ⟨b, off + (k - 1) * 5, none⟩ = some (.int .u8 (last : Int)) := fun h0 => (hBp.cell (p := ⟨b, off + (k - 1) * 5, none⟩) (Nat.lt_of_lt_of_le hbB hB) |>.trans ((hBr.cell (p := ⟨b, off + (k - 1) * 5, none⟩) (Nat.lt_of_lt_of_le hbB hB)).symm.trans (hprev h0)))
              have xr := hbr.cell (j := 3) rfl
              go_upto_region 7 with fail
              generalize (wr.alloc (.cells #[.int .u8 (pn : Int), .int .u32 (pf : Int), .string (str pg), .string (str ph), .int .u8 (ps : Int)] 45)) = wp at *
              clear k0 k1 k2 k3 k4 hprev xr
              have p0 := hp.cell (j := 0) rfl
              have p1 := hp.cell (j := 1) rfl
              have p2 := hp.cell (j := 2) rfl
              have p3 := hp.cell (j := 3) rfl
              have p4 := hp.cell (j := 4) rfl
              have x0 := hbp.cell (j := 0) rfl
              have x1 := hbp.cell (j := 1) rfl
              have x2 := hbp.cell (j := 2) rfl
              have x3 := hbp.cell (j := 3) rfl
              by_cases d1 : pn < 1
              · have e1 : (pn : Int) < 1 := by omega
                have HBAD : Hid (R = 260) := Lib.hid (by rw [HR2.out, if_neg]; simp; omega)
                clear hprev'
                go_quiet (fail)
                go_wp2_with (first | (with_reducible refine hold_append ?_) | (with_reducible refine hold_make ?_) | (with_reducible refine hold_copy ?_))
                go_ret
                rw [HBAD.out]
                exact ⟨rfl, below_drewN hBp _⟩
              · have e1 : decide ((pn : Int) < 1) = false := by simp; omega
                by_cases d2 : 8 < pn
                · have e2 : (8 : Int) < (pn : Int) := by omega
                  have HBAD : Hid (R = 260) := Lib.hid (by rw [HR2.out, if_neg]; simp; omega)
                  clear hprev'
                  go_quiet (fail)
                  go_wp2_with (first | (with_reducible refine hold_append ?_) | (with_reducible refine hold_make ?_) | (with_reducible refine hold_copy ?_))
                  go_ret
                  rw [HBAD.out]
                  exact ⟨rfl, below_drewN hBp _⟩
                · have e2 : decide ((8 : Int) < (pn : Int)) = false := by simp; omega
                  by_cases d0 : k = 0
                  · have HL0 : Hid (last = 0) := Lib.hid (hl0 d0)
                    have e0 : decide ((0 : Int) < (k : Int)) = false := by simp; omega
                    clear hprev' hl0
                    have HLT : Hid (last < pn) := Lib.hid (by first | (rw [HL0.out]; omega) | omega)
                    by_cases d4 : ps = 0
                    · subst d4
                      go_quiet (fail)
                      go_wp2_with (first | (with_reducible refine hold_append ?_) | (with_reducible refine hold_make ?_) | (with_reducible refine hold_copy ?_))
                      refine (hpc _).mono ?_
                      rintro e w2 ⟨rfl, hB2⟩
                      have hB02 : Below w.heap.size w w2 := (below_drewN hBp _).trans (hB2.mono hBp.size)
                      have hbx : Box w2 w.heap.size 49 #[.int .u32 (f : Int), .string (str g), .string (str h), .slice (some ⟨b, off, none⟩) n c] := Box.below (w := wp.drewN _) hbp hB2
                      have hpx : Box w2 wr.heap.size 45 #[.int .u8 (pn : Int), .int .u32 (pf : Int), .string (str pg), .string (str ph), .int .u8 ((0 : Nat) : Int)] := Box.below (w := wp.drewN _) hp hB2
                      clear hpc p0 p1 p2 p3 p4 x0 x1 x2 x3
                      cases pok1
                      · obtain rfl : per = 40 := by have := HPE.out; simpa using this
                        have HBAD : Hid (R = 260) := Lib.hid (by rw [HR2.out, if_neg]; simp)
                        go_wp2_with (first | (with_reducible refine hold_append ?_) | (with_reducible refine hold_make ?_) | (with_reducible refine hold_copy ?_))
                        go_ret
                        rw [HBAD.out]
                        exact ⟨rfl, hB02⟩
                      · obtain rfl : per = 0 := by have := HPE.out; simpa using this
                        have x0 := hbx.cell (j := 0) rfl
                        have x1 := hbx.cell (j := 1) rfl
                        have x2 := hbx.cell (j := 2) rfl
                        have x3 := hbx.cell (j := 3) rfl
                        have p0 := hpx.cell (j := 0) rfl
                        have p1 := hpx.cell (j := 1) rfl
                        have p2 := hpx.cell (j := 2) rfl
                        by_cases d5 : pf = f
                        · have e5 : ((pf : Int) != (f : Int)) = false := by simp [d5]
                          by_cases d6 : pg = g
                          · have e6 : ((str pg).toList == (str g).toList) = true := by rw [d6]; simp
                            have HR3 : Hid (R = if pok pn (l.drop (k + 1)) then 0 else 260) := Lib.hid (by rw [HR2.out]; simp only [decide_eq_true HLT.out, decide_eq_true (show pn ≤ 8 by omega), decide_eq_true (show pf = f ∧ pg = g from ⟨d5, d6⟩), Bool.true_and, decide_true])
                            clear d5 d6
                            go_wp2_with (first | (with_reducible refine hold_append ?_) | (with_reducible refine hold_make ?_) | (with_reducible refine hold_copy ?_))
                            exact ⟨⟨k + 1, by omega, by go_num, by rw [HLN.out]; exact HR3, hbx, hB02⟩, by simp [RowKit.intOf]; omega⟩
                          · have e6 : ((str pg).toList == (str g).toList) = false := by rw [str_toList, str_toList]; simpa using d6
                            have HBAD : Hid (R = 260) := Lib.hid (by rw [HR2.out, if_neg]; simp [d6])
                            clear d5 d6
                            go_wp2_with (first | (with_reducible refine hold_append ?_) | (with_reducible refine hold_make ?_) | (with_reducible refine hold_copy ?_))
                            go_ret
                            rw [HBAD.out]
                            exact ⟨rfl, hB02⟩
                        · have e5 : ((pf : Int) != (f : Int)) = true := by simp; omega
                          have HBAD : Hid (R = 260) := Lib.hid (by rw [HR2.out, if_neg]; simp [d5])
                          clear d5
                          go_wp2_with (first | (with_reducible refine hold_append ?_) | (with_reducible refine hold_make ?_) | (with_reducible refine hold_copy ?_))
                          go_ret
                          rw [HBAD.out]
                          exact ⟨rfl, hB02⟩
                    · have e4 : ((ps : Int) != 0) = true := by simp; omega
                      have HBAD : Hid (R = 260) := Lib.hid (by rw [HR2.out, if_neg]; simp; omega)
                      go_quiet (fail)
                      go_wp2_with (first | (with_reducible refine hold_append ?_) | (with_reducible refine hold_make ?_) | (with_reducible refine hold_copy ?_))
                      go_ret
                      rw [HBAD.out]
                      exact ⟨rfl, below_drewN hBp _⟩
                  · have q0 := hprev' (by omega)
                    have e0 : decide ((0 : Int) < (k : Int)) = true := by simp; omega
                    have e00 : 0 < k := by omega
                    clear hprev' hl0 d0
                    by_cases d3 : pn ≤ last
                    · have e3 : decide ((pn : Int) ≤ (last : Int)) = true := by simp; omega
                      have HBAD : Hid (R = 260) := Lib.hid (by rw [HR2.out, if_neg]; simp; omega)
                      go_quiet (fail)
                      go_wp2_with (first | (with_reducible refine hold_append ?_) | (with_reducible refine hold_make ?_) | (with_reducible refine hold_copy ?_))
                      go_ret
                      rw [HBAD.out]
                      exact ⟨rfl, below_drewN hBp _⟩
                    · have e3 : decide ((pn : Int) ≤ (last : Int)) = false := by simp; omega
                      have HLT : Hid (last < pn) := Lib.hid (by first | (rw [HL0.out]; omega) | omega)
                      by_cases d4 : ps = 0
                      · subst d4
                        go_quiet (fail)
                        go_wp2_with (first | (with_reducible refine hold_append ?_) | (with_reducible refine hold_make ?_) | (with_reducible refine hold_copy ?_))
                        refine (hpc _).mono ?_
                        rintro e w2 ⟨rfl, hB2⟩
                        have hB02 : Below w.heap.size w w2 := (below_drewN hBp _).trans (hB2.mono hBp.size)
                        have hbx : Box w2 w.heap.size 49 #[.int .u32 (f : Int), .string (str g), .string (str h), .slice (some ⟨b, off, none⟩) n c] := Box.below (w := wp.drewN _) hbp hB2
                        have hpx : Box w2 wr.heap.size 45 #[.int .u8 (pn : Int), .int .u32 (pf : Int), .string (str pg), .string (str ph), .int .u8 ((0 : Nat) : Int)] := Box.below (w := wp.drewN _) hp hB2
                        clear hpc p0 p1 p2 p3 p4 x0 x1 x2 x3
                        cases pok1
                        · obtain rfl : per = 40 := by have := HPE.out; simpa using this
                          have HBAD : Hid (R = 260) := Lib.hid (by rw [HR2.out, if_neg]; simp)
                          go_wp2_with (first | (with_reducible refine hold_append ?_) | (with_reducible refine hold_make ?_) | (with_reducible refine hold_copy ?_))
                          go_ret
                          rw [HBAD.out]
                          exact ⟨rfl, hB02⟩
                        · obtain rfl : per = 0 := by have := HPE.out; simpa using this
                          have x0 := hbx.cell (j := 0) rfl
                          have x1 := hbx.cell (j := 1) rfl
                          have x2 := hbx.cell (j := 2) rfl
                          have x3 := hbx.cell (j := 3) rfl
                          have p0 := hpx.cell (j := 0) rfl
                          have p1 := hpx.cell (j := 1) rfl
                          have p2 := hpx.cell (j := 2) rfl
                          by_cases d5 : pf = f
                          · have e5 : ((pf : Int) != (f : Int)) = false := by simp [d5]
                            by_cases d6 : pg = g
                            · have e6 : ((str pg).toList == (str g).toList) = true := by rw [d6]; simp
                              have HR3 : Hid (R = if pok pn (l.drop (k + 1)) then 0 else 260) := Lib.hid (by rw [HR2.out]; simp only [decide_eq_true HLT.out, decide_eq_true (show pn ≤ 8 by omega), decide_eq_true (show pf = f ∧ pg = g from ⟨d5, d6⟩), Bool.true_and, decide_true])
                              clear d5 d6
                              go_wp2_with (first | (with_reducible refine hold_append ?_) | (with_reducible refine hold_make ?_) | (with_reducible refine hold_copy ?_))
                              exact ⟨⟨k + 1, by omega, by go_num, by rw [HLN.out]; exact HR3, hbx, hB02⟩, by simp [RowKit.intOf]; omega⟩
                            · have e6 : ((str pg).toList == (str g).toList) = false := by rw [str_toList, str_toList]; simpa using d6
                              have HBAD : Hid (R = 260) := Lib.hid (by rw [HR2.out, if_neg]; simp [d6])
                              clear d5 d6
                              go_wp2_with (first | (with_reducible refine hold_append ?_) | (with_reducible refine hold_make ?_) | (with_reducible refine hold_copy ?_))
                              go_ret
                              rw [HBAD.out]
                              exact ⟨rfl, hB02⟩
                          · have e5 : ((pf : Int) != (f : Int)) = true := by simp; omega
                            have HBAD : Hid (R = 260) := Lib.hid (by rw [HR2.out, if_neg]; simp [d5])
                            clear d5
                            go_wp2_with (first | (with_reducible refine hold_append ?_) | (with_reducible refine hold_make ?_) | (with_reducible refine hold_copy ?_))
                            go_ret
                            rw [HBAD.out]
                            exact ⟨rfl, hB02⟩
                      · have e4 : ((ps : Int) != 0) = true := by simp; omega
                        have HBAD : Hid (R = 260) := Lib.hid (by rw [HR2.out, if_neg]; simp; omega)
                        go_quiet (fail)
                        go_wp2_with (first | (with_reducible refine hold_append ?_) | (with_reducible refine hold_make ?_) | (with_reducible refine hold_copy ?_))
                        go_ret
                        rw [HBAD.out]
                        exact ⟨rfl, below_drewN hBp _⟩
            · obtain rfl : k = n := by omega
              have HOK : Hid (R = 0) := Lib.hid (by
                rw [HR.out, List.drop_of_length_le (by rw [HL.out]; exact Nat.le_refl _)]
                rw [HPN.out]; rfl)
              have xr := hbr.cell (j := 3) rfl
              go_wp2_with (first | (with_reducible refine hold_append ?_) | (with_reducible refine hold_make ?_) | (with_reducible refine hold_copy ?_))
              go_ret
              rw [HOK.out]
              exact ⟨rfl, hBr⟩
    · have hd2 : (str h).toList.isEmpty = false := by rw [str_toList]; simpa using c2
      have HBAD : Hid (R = 260) := Lib.hid (by rw [HD.out, if_neg]; simp [c2])
      clear c2
      go_wp2_with (first | (with_reducible refine hold_append ?_) | (with_reducible refine hold_make ?_) | (with_reducible refine hold_copy ?_))
      go_ret
      rw [HBAD.out]
      exact ⟨rfl, hB01⟩
end Go.PH
end

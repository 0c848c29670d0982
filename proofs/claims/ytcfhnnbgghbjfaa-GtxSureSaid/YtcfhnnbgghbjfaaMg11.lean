/- Texts laid together: GtDc. -/
import Derived.Test.YtcfhnnbgghbjfaaMg10
section
/- The walk of dlog's Check. -/
set_option linter.all false
set_option linter.unusedSimpArgs false
set_option linter.unusedVariables false
namespace Go.PH
open Go.RowKit Go.Proofs

def dcV (X : Xd) (A : Option Addr) (n c : Nat) : Array Value := #[.int .u32 (X.fmt : Int), .string (str X.glob), .string (str X.bran), .slice A n c]
def dcErr (X : Xd) (l : List Pt) : Nat := if dcOk X l then 0 else 260
theorem partsOk_cons (X : Xd) (last : Nat) (p : Pt) (l : List Pt) : partsOk X last (p :: l) = (decide (last < p.node) && decide (p.node ≤ 8) && decide (p.st = 0) && p.x.ok && decide (p.x.fmt = X.fmt ∧ p.x.glob = X.glob) && partsOk X p.node l) := rfl
theorem oneG_iff (a b : Xd) : oneG a b = decide (a.fmt = b.fmt ∧ a.glob = b.glob) := by unfold oneG; rw [Bool.eq_iff_iff]; simp
set_option maxRecDepth 20000 in
set_option maxHeartbeats 4000000 in
theorem dcheck_any (X : Xd) (A : Option Addr) (n c : Nat) (l : List Pt) (B : Nat) (w : World) (hX : X.wf) (hr : RdP w B A n c l) (hB : B ≤ w.heap.size) (hwf : ∀ p ∈ l, p.wf) (hn : n ≤ 1000000000) :
    Calls Try.prog 52 #[.agg (dcV X A n c)] w fun e w' => e = .returned (.int .i64 (dcErr X l)) ∧ Below w.heap.size w w' := by
  have hl := rec_length ptShape hr
  have HL := Lib.hid hl
  clear hl
  have HD : Hid (dcErr X l = if X.ok && X.bran.isEmpty && decide (1 ≤ n) && decide (n ≤ 8) && partsOk X 0 l then 0 else 260) := Lib.hid (by unfold dcErr dcOk; rw [HL.out])
  have hck := fun W => check_any X W hX
  have hog := fun (a : Xd) W => oneglobal_any a X W
  have HO : Hid (∀ a, oneG a X = decide (a.fmt = X.fmt ∧ a.glob = X.glob)) := Lib.hid (fun a => oneG_iff a X)
  have HE : Hid (X.err = if X.ok then 0 else 40) := Lib.hid rfl
  have HPC : Hid (∀ last p l, partsOk X last (p :: l) = (decide (last < p.node) && decide (p.node ≤ 8) && decide (p.st = 0) && p.x.ok && decide (p.x.fmt = X.fmt ∧ p.x.glob = X.glob) && partsOk X p.node l)) := Lib.hid (partsOk_cons X)
  have HPN : Hid (∀ last, partsOk X last [] = true) := Lib.hid (fun _ => rfl)
  generalize partsOk X = pok at *
  generalize dcErr X l = R at *
  generalize X.err = er at *
  generalize X.ok = ok at *
  obtain ⟨f, g, h⟩ := X
  simp only [dcV, xdV] at HD hck hog HO HPC ⊢
  have hB0 := (Below.refl w.heap.size w).alloc (Nat.le_refl _) (.cells #[.int .u32 (f : Int), .string (str g), .string (str h), .slice A n c] 49)
  have hb0 := Box.new w #[.int .u32 (f : Int), .string (str g), .string (str h), .slice A n c] 49
  have x0 := hb0.cell (j := 0) rfl
  have x1 := hb0.cell (j := 1) rfl
  have x2 := hb0.cell (j := 2) rfl
  have x3 := hb0.cell (j := 3) rfl
  go_enter Try.func52, Try.ntmps52
  go_wp2_with (first | (with_reducible refine hold_append ?_) | (with_reducible refine hold_make ?_) | (with_reducible refine hold_copy ?_))
  refine (hck _).mono ?_
  rintro e w1 ⟨rfl, hB1⟩
  have hB01 := hB0.trans (hB1.mono hB0.size)
  have hb1 := hb0.below hB1
  clear hck x0 x1 x2 x3
  have x0 := hb1.cell (j := 0) rfl
  have x1 := hb1.cell (j := 1) rfl
  have x2 := hb1.cell (j := 2) rfl
  have x3 := hb1.cell (j := 3) rfl
  cases ok
  · obtain rfl : er = 40 := by have := HE.out; simpa using this
    have HBAD : Hid (R = 260) := Lib.hid (by rw [HD.out]; simp)
    go_wp2_with (first | (with_reducible refine hold_append ?_) | (with_reducible refine hold_make ?_) | (with_reducible refine hold_copy ?_))
    go_ret
    rw [HBAD.out]
    exact ⟨rfl, hB01⟩
  · obtain rfl : er = 0 := by have := HE.out; simpa using this
    by_cases c2 : h = []
    · have hd2 : (str h).toList.isEmpty = true := by rw [c2, str_toList]; rfl
      by_cases c3 : n < 1
      · have hd3 : (n : Int) < 1 := by omega
        have HBAD : Hid (R = 260) := Lib.hid (by rw [HD.out, if_neg]; simp; omega)
        clear c2
        go_wp2_with (first | (with_reducible refine hold_append ?_) | (with_reducible refine hold_make ?_) | (with_reducible refine hold_copy ?_))
        go_ret
        rw [HBAD.out]
        exact ⟨rfl, hB01⟩
      · have hd3 : decide ((n : Int) < 1) = false := by simp; omega
        by_cases c4 : 8 < n
        · have hd4 : (8 : Int) < (n : Int) := by omega
          have HBAD : Hid (R = 260) := Lib.hid (by rw [HD.out, if_neg]; simp; omega)
          clear c2
          go_wp2_with (first | (with_reducible refine hold_append ?_) | (with_reducible refine hold_make ?_) | (with_reducible refine hold_copy ?_))
          go_ret
          rw [HBAD.out]
          exact ⟨rfl, hB01⟩
        · have hd4 : ¬ (8 : Int) < (n : Int) := by omega
          have HD2 : Hid (R = if pok 0 l then 0 else 260) := Lib.hid (by rw [HD.out]; simp only [c2, List.isEmpty_nil, Bool.true_and, Bool.and_true, decide_eq_true (show 1 ≤ n by omega), decide_eq_true (show n ≤ 8 by omega)])
          clear c2 HD
          go_wp2_with (first | (with_reducible refine hold_append ?_) | (with_reducible refine hold_make ?_) | (with_reducible refine hold_copy ?_))
          go_loopw [3, 31] (fun v s wr => ∃ (k last : Nat), k ≤ n ∧ last ≤ 8 ∧ v = .int .u8 last ∧ s = .int .i64 k ∧ Hid (R = if pok last (l.drop k) then 0 else 260) ∧ Box wr w.heap.size 49 #[.int .u32 (f : Int), .string (str g), .string (str h), .slice A n c] ∧ Below w.heap.size w wr) (fun _ s _ => n - (RowKit.intOf s).toNat)
          case atStart => exact ⟨0, 0, by omega, by omega, rfl, rfl, by rw [List.drop_zero]; exact HD2, hb1, hB01⟩
          case round =>
            clear hb1 hB01 x0 x1 x2 x3 HD2 hb0 hB0 hB1
            obtain ⟨k, last, hk, hlast, rfl, rfl, HR, hbr, hBr⟩ := hrel
            by_cases hlt : k < n
            · have hkn : (k : Int) < (n : Int) := by omega
              obtain ⟨b, off, rfl, hbB, hkl, hc⟩ := rec_at ptShape (Rd.below hr (hBr.mono hB)) hlt
              have hpw := hwf l[k] (List.getElem_mem hkl)
              have HDR : Hid (l.drop k = l[k] :: l.drop (k + 1)) := Lib.hid (List.drop_eq_getElem_cons hkl)
              have k0 := hc 0 _ rfl
              have k1 := hc 1 _ rfl
              have k2 := hc 2 _ rfl
              have k3 := hc 3 _ rfl
              have k4 := hc 4 _ rfl
              simp only [Nat.add_zero] at k0 k1 k2 k3 k4
              clear hc
              generalize l[k] = p at *
              have hpc := fun W => check_any p.x W hpw.2.1
              have hpo := fun W => hog p.x W
              have HPE : Hid (p.x.err = if p.x.ok then 0 else 40) := Lib.hid rfl
              have HR2 : Hid (R = if (decide (last < p.node) && decide (p.node ≤ 8) && decide (p.st = 0) && p.x.ok && oneG p.x ⟨f, g, h⟩ && pok p.node (l.drop (k + 1))) then 0 else 260) := Lib.hid (by rw [HR.out, HDR.out, HPC.out, HO.out])
              have hpn := hpw.1
              have hps := hpw.2.2
              generalize p.x.err = per at *
              generalize p.x.ok = pok1 at *
              generalize oneG p.x ⟨f, g, h⟩ = po at *
              obtain ⟨pn, ⟨pf, pg, ph⟩, ps⟩ := p
              simp only at hpc hpo HR2 k0 k1 k2 k3 k4 hpn hps
              simp only [xdV] at hpc hpo
              clear hwf HDR HR hog hpw
              have hp := Box.new wr #[.int .u8 (pn : Int), .int .u32 (pf : Int), .string (str pg), .string (str ph), .int .u8 (ps : Int)] 45
              have hBp := hBr.alloc hBr.size (.cells #[.int .u8 (pn : Int), .int .u32 (pf : Int), .string (str pg), .string (str ph), .int .u8 (ps : Int)] 45)
              have hbp := hbr.alloc (.cells #[.int .u8 (pn : Int), .int .u32 (pf : Int), .string (str pg), .string (str ph), .int .u8 (ps : Int)] 45)
              have p0 := hp.cell (j := 0) rfl
              have p1 := hp.cell (j := 1) rfl
              have p2 := hp.cell (j := 2) rfl
              have p3 := hp.cell (j := 3) rfl
              have p4 := hp.cell (j := 4) rfl
              have x0 := hbp.cell (j := 0) rfl
              have x1 := hbp.cell (j := 1) rfl
              have x2 := hbp.cell (j := 2) rfl
              have x3 := hbp.cell (j := 3) rfl
              by_cases d1 : pn ≤ last
              · have e1 : (pn : Int) ≤ (last : Int) := by omega
                have HBAD : Hid (R = 260) := Lib.hid (by rw [HR2.out, if_neg]; simp; omega)
                go_wp2_with (first | (with_reducible refine hold_append ?_) | (with_reducible refine hold_make ?_) | (with_reducible refine hold_copy ?_))
                go_ret
                rw [HBAD.out]
                exact ⟨rfl, hBp⟩
              · have e1 : decide ((pn : Int) ≤ (last : Int)) = false := by simp; omega
                by_cases d2 : 8 < pn
                · have e2 : (8 : Int) < (pn : Int) := by omega
                  have HBAD : Hid (R = 260) := Lib.hid (by rw [HR2.out, if_neg]; simp; omega)
                  go_wp2_with (first | (with_reducible refine hold_append ?_) | (with_reducible refine hold_make ?_) | (with_reducible refine hold_copy ?_))
                  go_ret
                  rw [HBAD.out]
                  exact ⟨rfl, hBp⟩
                · have e2 : decide ((8 : Int) < (pn : Int)) = false := by simp; omega
                  by_cases d3 : ps = 0
                  · subst d3
                    go_wp2_with (first | (with_reducible refine hold_append ?_) | (with_reducible refine hold_make ?_) | (with_reducible refine hold_copy ?_))
                    refine (hpc _).mono ?_
                    rintro e w2 ⟨rfl, hB2⟩
                    have hB02 := hBp.trans (hB2.mono hBp.size)
                    have hbx := hbp.below hB2
                    have hpx := hp.below hB2
                    clear hpc p0 p1 p2 p3 p4 x0 x1 x2 x3 k0 k1 k2 k3 k4
                    cases pok1
                    · obtain rfl : per = 40 := by have := HPE.out; simpa using this
                      have HBAD : Hid (R = 260) := Lib.hid (by rw [HR2.out, if_neg]; simp)
                      go_wp2_with (first | (with_reducible refine hold_append ?_) | (with_reducible refine hold_make ?_) | (with_reducible refine hold_copy ?_))
                      go_ret
                      rw [HBAD.out]
                      exact ⟨rfl, hB02⟩
                    · obtain rfl : per = 0 := by have := HPE.out; simpa using this
                      have x0 := hbx.cell (j := 0) rfl
                      have x1 := hbx.cell (j := 1) rfl
                      have x2 := hbx.cell (j := 2) rfl
                      have x3 := hbx.cell (j := 3) rfl
                      have p0 := hpx.cell (j := 0) rfl
                      have p1 := hpx.cell (j := 1) rfl
                      have p2 := hpx.cell (j := 2) rfl
                      have p3 := hpx.cell (j := 3) rfl
                      go_wp2_with (first | (with_reducible refine hold_append ?_) | (with_reducible refine hold_make ?_) | (with_reducible refine hold_copy ?_))
                      refine (hpo _).mono ?_
                      rintro e w3 ⟨rfl, hB3⟩
                      have hB03 := hB02.trans (hB3.mono hB02.size)
                      have hby := hbx.below hB3
                      have hpy := hpx.below hB3
                      clear hpo p0 p1 p2 p3 x0 x1 x2 x3
                      cases po
                      · have HBAD : Hid (R = 260) := Lib.hid (by rw [HR2.out, if_neg]; simp)
                        go_wp2_with (first | (with_reducible refine hold_append ?_) | (with_reducible refine hold_make ?_) | (with_reducible refine hold_copy ?_))
                        go_ret
                        rw [HBAD.out]
                        exact ⟨rfl, hB03⟩
                      · have p0 := hpy.cell (j := 0) rfl
                        have HR3 : Hid (R = if pok pn (l.drop (k + 1)) then 0 else 260) := Lib.hid (by rw [HR2.out]; simp only [decide_eq_true (show last < pn by omega), decide_eq_true (show pn ≤ 8 by omega), Bool.true_and, decide_true])
                        go_wp2_with (first | (with_reducible refine hold_append ?_) | (with_reducible refine hold_make ?_) | (with_reducible refine hold_copy ?_))
                        exact ⟨⟨k + 1, pn, by omega, by omega, rfl, by go_num, HR3, hby, hB03⟩, by simp [RowKit.intOf]; omega⟩
                  · have e3 : ((ps : Int) != 0) = true := by simp; omega
                    have HBAD : Hid (R = 260) := Lib.hid (by rw [HR2.out, if_neg]; simp; omega)
                    go_wp2_with (first | (with_reducible refine hold_append ?_) | (with_reducible refine hold_make ?_) | (with_reducible refine hold_copy ?_))
                    go_ret
                    rw [HBAD.out]
                    exact ⟨rfl, hBp⟩
            · obtain rfl : k = n := by omega
              have HOK : Hid (R = 0) := Lib.hid (by
                rw [HR.out, List.drop_of_length_le (by rw [HL.out]; exact Nat.le_refl _)]
                rw [HPN.out]; rfl)
              go_wp2_with (first | (with_reducible refine hold_append ?_) | (with_reducible refine hold_make ?_) | (with_reducible refine hold_copy ?_))
              go_ret
              rw [HOK.out]
              exact ⟨rfl, hBr⟩
    · have hd2 : (str h).toList.isEmpty = false := by rw [str_toList]; simpa using c2
      have HBAD : Hid (R = 260) := Lib.hid (by rw [HD.out, if_neg]; simp [c2])
      clear c2
      go_wp2_with (first | (with_reducible refine hold_append ?_) | (with_reducible refine hold_make ?_) | (with_reducible refine hold_copy ?_))
      go_ret
      rw [HBAD.out]
      exact ⟨rfl, hB01⟩
end Go.PH
end

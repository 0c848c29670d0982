/- Texts laid together: MdLawBack. -/
import Derived.Deep.CutRange
import Derived.Test.YtidpbbleneekgaaDoorMg14
import Derived.Test.YtidpbbleneekgaaDoorMg25
import Derived.Test.YtidpbbleneekgaaDoorMg26
import Derived.Test.YtidpbbleneekgaaDoorMg30
section
/- MethodBack: the walk. -/
set_option linter.all false
set_option linter.unusedSimpArgs false
set_option linter.unusedVariables false
namespace Go.PH
open Go.RowKit Go.Proofs

set_option maxRecDepth 20000 in
set_option maxHeartbeats 4000000 in
theorem law_MethodBack (v : Mt) (A : Option Addr) (c : Nat) (Ab : Option Addr) (nb cb : Nat) (l : List UInt8) (w : World) (he : MEnv w) (hT : UTabs w) (hv : RMw w v A c) (hr : RdB w w.heap.size Ab nb cb l) (hnb : nb ≤ 140737488351232) :
    Calls Tryd.prog 3 #[.agg (mtV v A c), .slice Ab nb cb] w fun e w' => e = .returned (.bool true) ∧ Below w.heap.size w w' := by
  obtain ⟨xb, w1, hxb, hxv, hX, hB1⟩ := alloc_stepV w #[.int .u8 (v.cls : Int), .int .u8 (v.code : Int), .bool v.sync, .slice A v.args.length c] 24
  have hln : l.length = nb := RdB.length hr
  have hv1 := hv.up hB1
  have hsv := rsmallM_any v A c w1 hv1
  have hmp := fun (W : World) (m : Mt) (A2 : Option Addr) (c2 : Nat) (hW : Below w.heap.size w W) (h : RMw W m A2 c2) => mput_all m A2 c2 W (he.on hW) (hT.on hW) h
  have hgt := fun (W : World) (A2 : Option Addr) (n2 c2 : Nat) (b : List UInt8) (hW : Below w.heap.size w W) (h : RdB W W.heap.size A2 n2 c2 b) (hn : n2 ≤ 100000000) => mget_any A2 n2 c2 b W (he.on hW) (hT.on hW) h hn
  have hhd := fun (W : World) (hW : Below w.heap.size w W) => mdhead_any W (he.on hW)
  have hpl := putM_len v
  have HPL := Lib.hid hpl
  have HGV : Hid (goodM v = true → GetM (putM v) v 0) := Lib.hid (fun hg => by
    have hmb := RM.ab hv
    obtain ⟨h1, h2, h3, h4, _⟩ := get_parts hg hmb rfl
    exact .inr (.inr ⟨h1, by rw [h2, h3]; exact h4, .inl ⟨rfl, hmb, hg, rfl⟩⟩))
  have HVV := Lib.hid hv
  have HMP := Lib.hid hmp
  have HGT := Lib.hid hgt
  have HHD := Lib.hid hhd
  clear hv hv1 he hT hmp hgt hhd hpl
  unfold mtV at hsv ⊢
  have x0 := hX.cell (j := 0) rfl
  have x1 := hX.cell (j := 1) rfl
  have x2 := hX.cell (j := 2) rfl
  have x3 := hX.cell (j := 3) rfl
  go_enter Tryd.func3, Tryd.ntmps3
  go_upto_region 1 with fail
  rw [← hxb, ← hxv]
  clear hxb hxv
  go_wp2_with (first | (with_reducible refine hold_append ?_) | (with_reducible refine hold_make ?_) | (with_reducible refine hold_copy ?_))
  refine hsv.mono ?_
  rintro e w3 ⟨rfl, hB3⟩
  have hBB := hB1.trans (hB3.mono hB1.size)
  have hX3 := hX.below hB3
  clear hsv x0 x1 x2 x3 hX
  cases hs : smallM v
  · clear hs
    go_wp2_with (first | (with_reducible refine hold_append ?_) | (with_reducible refine hold_make ?_) | (with_reducible refine hold_copy ?_))
    refine (HHD.out _ hBB).mono ?_
    rintro e w9 ⟨rfl, hB9⟩
    go_wp2_with (first | (with_reducible refine hold_append ?_) | (with_reducible refine hold_make ?_) | (with_reducible refine hold_copy ?_))
    go_ret
    exact ⟨rfl, (hBB).trans (hB9.mono (hBB).size)⟩
  · clear hs
    by_cases hn : nb ≤ 20000
    · have g1 : ¬ (20000 : Int) < (nb : Int) := by omega
      have hmp := HMP.out w3 v A c hBB (HVV.out.up hBB)
      unfold MPut mtV at hmp
      obtain ⟨P, hP⟩ : ∃ q, q = putM v := ⟨_, rfl⟩
      have HE : Hid (errM v = if goodM v = true then 0 else 80) := Lib.hid rfl
      rw [← hP] at hmp
      have HPP := Lib.hid hP
      have hPl : P.length ≤ 6000010 := by rw [hP]; exact HPL.out
      generalize errM v = E at *
      clear hP
      have x0 := hX3.cell (j := 0) rfl
      have x1 := hX3.cell (j := 1) rfl
      have x2 := hX3.cell (j := 2) rfl
      have x3 := hX3.cell (j := 3) rfl
      go_wp2_with (first | (with_reducible refine hold_append ?_) | (with_reducible refine hold_make ?_) | (with_reducible refine hold_copy ?_))
      refine hmp.mono ?_
      rintro e w4 ⟨A2, c2, rfl, ho4, hB4⟩
      have hX4 := hX3.below hB4
      have hBB4 := hBB.trans (hB4.mono hBB.size)
      clear hmp x0 x1 x2 x3 hX3
      go_upto_if 28 with fail
      go_cut [7, 8] from 29 to 41 (fun _ _ wx => Below w.heap.size w wx)
      case first =>
        by_cases hg : goodM v = true
        · obtain rfl : E = 0 := by rw [HE.out, if_pos hg]
          have hgm := HGV.out hg
          rw [← HPP.out] at hgm
          have HGM := Lib.hid hgm
          have hgt := HGT.out w4 A2 P.length c2 P hBB4 ho4.rd (by omega)
          clear hg hgm HE
          go_wp2_with (first | (with_reducible refine hold_append ?_) | (with_reducible refine hold_make ?_) | (with_reducible refine hold_copy ?_))
          refine hgt.mono ?_
          rintro e w5 ⟨m, A3, c3, er, rfl, hRM, hB5, hG⟩
          obtain ⟨e1, e2⟩ := hG.uniq HGM.out
          subst e1 e2
          unfold mtV
          have hX5 := hX4.below hB5
          have hBB5 := hBB4.trans (hB5.mono hBB4.size)
          obtain ⟨yb, w6, hyb, hyv, hY, hB6⟩ := alloc_stepV w5 #[.int .u8 (m.cls : Int), .int .u8 (m.code : Int), .bool m.sync, .slice A3 m.args.length c3] 24
          go_upto_region 6 with fail
          rw [← hyb, ← hyv]
          have hX6 := hX5.below hB6
          have hBB6 := hBB5.trans (hB6.mono hBB5.size)
          have hRM6 : RMw w6 m A3 c3 := (hRM.mono (fun g hg => hg.2)).up hB6
          have hsm := msameM_any m m A c A3 c3 w6 (HVV.out.up hBB6) hRM6
          rw [(sameM_iff m m).2 rfl] at hsm
          unfold mtV at hsm
          clear hgt hyb hyv hB5 hB6 hX4 hX5 hRM hRM6 hG HGM
          have x0 := hX6.cell (j := 0) rfl
          have x1 := hX6.cell (j := 1) rfl
          have x2 := hX6.cell (j := 2) rfl
          have x3 := hX6.cell (j := 3) rfl
          have y0 := hY.cell (j := 0) rfl
          have y1 := hY.cell (j := 1) rfl
          have y2 := hY.cell (j := 2) rfl
          have y3 := hY.cell (j := 3) rfl
          go_wp2_with (first | (with_reducible refine hold_append ?_) | (with_reducible refine hold_make ?_) | (with_reducible refine hold_copy ?_))
          refine hsm.mono ?_
          rintro e w7 ⟨rfl, hB7⟩
          go_wp2_with (first | (with_reducible refine hold_append ?_) | (with_reducible refine hold_make ?_) | (with_reducible refine hold_copy ?_))
          go_meet
          exact hBB6.trans (hB7.mono hBB6.size)
        · obtain rfl : E = 80 := by rw [HE.out, if_neg hg]
          go_wp2_with (first | (with_reducible refine hold_append ?_) | (with_reducible refine hold_make ?_) | (with_reducible refine hold_copy ?_))
          go_meet
          exact hBB4
      case rest =>
        have hBc : Below w.heap.size w wc := hcut
        have hrc : RdB wc wc.heap.size Ab nb cb l := rd_wide (hr.below hBc) hBc.size
        have hgt := HGT.out wc Ab nb cb l hBc hrc (by omega)
        clear hcut hX4 ho4 hBB4 hBB
        go_wp2_with (first | (with_reducible refine hold_append ?_) | (with_reducible refine hold_make ?_) | (with_reducible refine hold_copy ?_))
        refine hgt.mono ?_
        rintro e w5 ⟨m, A3, c3, er, rfl, hRM, hB5, hG⟩
        unfold mtV
        have hBB5 := hBc.trans (hB5.mono hBc.size)
        obtain ⟨yb, w7, hyb, hyv, hY, hB7⟩ := alloc_stepV w5 #[.int .u8 (m.cls : Int), .int .u8 (m.code : Int), .bool m.sync, .slice A3 m.args.length c3] 24
        go_upto_region 9 with fail
        rw [← hyb, ← hyv]
        have hBB7 := hBB5.trans (hB7.mono hBB5.size)
        have hRM7 : RMw w7 m A3 c3 := (hRM.mono (fun g hg => hg.2)).up hB7
        clear hgt hyb hyv hB5 hB7 hRM hBB5 hrc
        by_cases h0 : m = mt0 ∧ er ≠ 0
        · obtain ⟨rfl, hne⟩ := h0
          have hsz := msameM_any mt0 mt0 A3 c3 none 0 w7 hRM7 (RM.zero _ _)
          rw [(sameM_iff mt0 mt0).2 rfl] at hsz
          have ez : ∀ (a : Option Addr) (k : Nat), mtV mt0 a k = #[.int .u8 0, .int .u8 0, .bool false, .slice a 0 k] := fun _ _ => rfl
          rw [ez, ez] at hsz
          replace hY : Box w7 yb 24 #[.int .u8 0, .int .u8 0, .bool false, .slice A3 0 c3] := hY
          have hq : (er = 4 ∧ nb < 2) ∨ (er = 80 ∧ 2 ≤ nb) ∨ (er = 5 ∧ 2 ≤ nb) := by
            rcases hG with ⟨h1, h2, _⟩ | ⟨h1, _, h2, _⟩ | ⟨h1, _, h2⟩
            · exact .inl ⟨h2, by omega⟩
            · exact .inr (.inl ⟨h2, by omega⟩)
            · rcases h2 with ⟨h2, _⟩ | ⟨h2, _⟩
              · exact absurd h2 hne
              · exact .inr (.inr ⟨h2, by omega⟩)
          clear hG hne ez
          rcases hq with ⟨rfl, h2⟩ | ⟨rfl, h2⟩ | ⟨rfl, h2⟩
          · have g5 : (nb : Int) < 2 := by omega
            have y0 := hY.cell (j := 0) rfl
            have y1 := hY.cell (j := 1) rfl
            have y2 := hY.cell (j := 2) rfl
            have y3 := hY.cell (j := 3) rfl
            go_wp2_with (first | (with_reducible refine hold_append ?_) | (with_reducible refine hold_make ?_) | (with_reducible refine hold_copy ?_))
            refine (hsz.mono ?_)
            rintro e w8 ⟨rfl, hB8⟩
            have hBB8 := hBB7.trans (hB8.mono hBB7.size)
            clear y0 y1 y2 y3
            go_wp2_with (first | (with_reducible refine hold_append ?_) | (with_reducible refine hold_make ?_) | (with_reducible refine hold_copy ?_))
            refine (HHD.out _ hBB8).mono ?_
            rintro e w9 ⟨rfl, hB9⟩
            go_wp2_with (first | (with_reducible refine hold_append ?_) | (with_reducible refine hold_make ?_) | (with_reducible refine hold_copy ?_))
            go_ret
            exact ⟨rfl, (hBB8).trans (hB9.mono (hBB8).size)⟩
          · have g5 : ¬ (nb : Int) < 2 := by omega
            have g6 : decide ((nb : Int) < 2) = false := by simpa using g5
            have y0 := hY.cell (j := 0) rfl
            have y1 := hY.cell (j := 1) rfl
            have y2 := hY.cell (j := 2) rfl
            have y3 := hY.cell (j := 3) rfl
            go_wp2_with (first | (with_reducible refine hold_append ?_) | (with_reducible refine hold_make ?_) | (with_reducible refine hold_copy ?_))
            refine (hsz.mono ?_)
            rintro e w8 ⟨rfl, hB8⟩
            have hBB8 := hBB7.trans (hB8.mono hBB7.size)
            clear y0 y1 y2 y3
            go_wp2_with (first | (with_reducible refine hold_append ?_) | (with_reducible refine hold_make ?_) | (with_reducible refine hold_copy ?_))
            refine (HHD.out _ hBB8).mono ?_
            rintro e w9 ⟨rfl, hB9⟩
            go_wp2_with (first | (with_reducible refine hold_append ?_) | (with_reducible refine hold_make ?_) | (with_reducible refine hold_copy ?_))
            go_ret
            exact ⟨rfl, (hBB8).trans (hB9.mono (hBB8).size)⟩
          · have g5 : ¬ (nb : Int) < 2 := by omega
            have g6 : decide ((nb : Int) < 2) = false := by simpa using g5
            have y0 := hY.cell (j := 0) rfl
            have y1 := hY.cell (j := 1) rfl
            have y2 := hY.cell (j := 2) rfl
            have y3 := hY.cell (j := 3) rfl
            go_wp2_with (first | (with_reducible refine hold_append ?_) | (with_reducible refine hold_make ?_) | (with_reducible refine hold_copy ?_))
            refine (hsz.mono ?_)
            rintro e w8 ⟨rfl, hB8⟩
            have hBB8 := hBB7.trans (hB8.mono hBB7.size)
            clear y0 y1 y2 y3
            go_wp2_with (first | (with_reducible refine hold_append ?_) | (with_reducible refine hold_make ?_) | (with_reducible refine hold_copy ?_))
            refine (HHD.out _ hBB8).mono ?_
            rintro e w9 ⟨rfl, hB9⟩
            go_wp2_with (first | (with_reducible refine hold_append ?_) | (with_reducible refine hold_make ?_) | (with_reducible refine hold_copy ?_))
            go_ret
            exact ⟨rfl, (hBB8).trans (hB9.mono (hBB8).size)⟩
        · have hq : er = 0 ∧ goodM m = true ∧ putM m = l := by
            rcases hG with ⟨h1, h2, h3⟩ | ⟨h1, _, h2, h3⟩ | ⟨h1, _, h2⟩
            · exact absurd ⟨h3, by omega⟩ h0
            · exact absurd ⟨h3, by omega⟩ h0
            · rcases h2 with ⟨h2, _, h3, h4⟩ | ⟨h2, h3, _⟩
              · exact ⟨h2, h3, h4⟩
              · exact absurd ⟨h3, by omega⟩ h0
          obtain ⟨rfl, h3, h4⟩ := hq
          have hmp := HMP.out w7 m A3 c3 hBB7 hRM7
          unfold MPut mtV at hmp
          rw [show errM m = 0 by unfold errM; rw [if_pos h3], h4, hln] at hmp
          have hr7 : RdB w7 w7.heap.size Ab nb cb l := rd_wide (hr.below hBB7) hBB7.size
          clear h0 h3 h4 hG
          have y0 := hY.cell (j := 0) rfl
          have y1 := hY.cell (j := 1) rfl
          have y2 := hY.cell (j := 2) rfl
          have y3 := hY.cell (j := 3) rfl
          go_wp2_with (first | (with_reducible refine hold_append ?_) | (with_reducible refine hold_make ?_) | (with_reducible refine hold_copy ?_))
          refine hmp.mono ?_
          rintro e w8 ⟨A8, c8, rfl, ho8, hB8⟩
          have hBB8 := hBB7.trans (hB8.mono hBB7.size)
          have hr8 := hr7.below hB8
          have hv1 := run_strB (w := w8) ho8.rd
          have hv2 := run_strB (w := w8) hr8
          have hpp : ((str l).toList == (str l).toList) = true := by simp
          clear hmp y0 y1 y2 y3
          go_wp2_with (first | (with_reducible refine hold_append ?_) | (with_reducible refine hold_make ?_) | (with_reducible refine hold_copy ?_))
          refine (HHD.out _ hBB8).mono ?_
          rintro e w9 ⟨rfl, hB9⟩
          go_wp2_with (first | (with_reducible refine hold_append ?_) | (with_reducible refine hold_make ?_) | (with_reducible refine hold_copy ?_))
          go_ret
          exact ⟨rfl, (hBB8).trans (hB9.mono (hBB8).size)⟩
    · have g1 : (20000 : Int) < (nb : Int) := by omega
      go_wp2_with (first | (with_reducible refine hold_append ?_) | (with_reducible refine hold_make ?_) | (with_reducible refine hold_copy ?_))
      refine (HHD.out _ hBB).mono ?_
      rintro e w9 ⟨rfl, hB9⟩
      go_wp2_with (first | (with_reducible refine hold_append ?_) | (with_reducible refine hold_make ?_) | (with_reducible refine hold_copy ?_))
      go_ret
      exact ⟨rfl, (hBB).trans (hB9.mono (hBB).size)⟩
end Go.PH
end

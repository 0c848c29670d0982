/- Texts laid together: TbLaw. -/
import Derived.Deep.CutRange
import Derived.Deep.CutBlock
import Derived.WalkMore
import Derived.Test.YtenegldhfgfokaaGreatDoorMg05
import Derived.Test.YtenegldhfgfokaaGreatDoorMg07
import Derived.Test.YtenegldhfgfokaaGreatDoorMg08
import Derived.Test.YtenegldhfgfokaaGreatDoorMg11
import Derived.Test.YtenegldhfgfokaaGreatDoorMg24
import Derived.Test.YtenegldhfgfokaaGreatDoorMg29
import Derived.Test.YtenegldhfgfokaaGreatDoorMg33
import Derived.Test.YtenegldhfgfokaaGreatDoorMg34
set_option linter.all false
set_option linter.unusedSimpArgs false
set_option linter.unusedVariables false
section
/- TopBytes: the walk. -/
namespace Go.PH
open Go.RowKit Go.Proofs

set_option maxRecDepth 20000 in
set_option maxHeartbeats 8000000 in
theorem law_TopBytes (L : List Mr) (A : Option Addr) (c pc : Nat) (Ac : Option Addr) (nc cc : Nat) (w : World) (he : MEnv w) (hT : UTabs w) (ht : TabAt w) (hg0 : 0 < w.heap.size)
  (hr : Rd w w.heap.size 4 A L.length c (rowC mrC L)) (hL : ∀ x ∈ L, RMw w x.1 x.2.1 x.2.2) (hp : pc < 65536) (hnc : nc ≤ 140737488351232)
  (hc : ∀ j, j < nc → ∃ b off x : Nat, Ac = some ⟨b, off, none⟩ ∧ x < 65536 ∧ b < w.heap.size ∧ w.cell? ⟨b, off + j, none⟩ = some (.int .u16 (x : Int))) :
  Calls Tryz.prog 3 #[.slice A L.length c, .int .u16 (pc : Int), .slice Ac nc cc] w fun e w' => e = .returned (.bool true) ∧ Below w.heap.size w w' := by
 have HAW := Lib.hid fun (W : World) (hW : Below w.heap.size w W) => awake_any W (ht.below hW hg0) (by have := hW.size; omega)
 have HMP := Lib.hid fun (W : World) (m : Mt) (A2 : Option Addr) (c2 : Nat) (hW : Below w.heap.size w W) (h : RMw W m A2 c2) => mput_all m A2 c2 W (he.on hW) (hT.on hW) h
 have HGT := Lib.hid fun (W : World) (A2 : Option Addr) (n2 c2 : Nat) (b : List UInt8) (hW : Below w.heap.size w W) (h : RdB W W.heap.size A2 n2 c2 b) (hn : n2 ≤ 100000000) => mget_any A2 n2 c2 b W (he.on hW) (hT.on hW) h hn
 have HC := Lib.hid hc
 have HL := Lib.hid hL
 have HR := Lib.hid hr
 obtain ⟨n, hn⟩ : ∃ n, n = L.length := ⟨_, rfl⟩
 have HN := Lib.hid hn
 rw [← hn]
 clear hn he hT ht hc hL hr
 by_cases h8 : 8 < n
 ·have d0 : (8 : Int) < (n : Int) := by omega
  go_enter Tryz.func3, Tryz.ntmps3
  go_wp2_with (with_reducible refine h_A ?_)
  refine (HAW.out _ (Below.refl _ _)).mono ?_
  rintro e w1 ⟨rfl, hB⟩
  go_wp2_with (with_reducible refine h_A ?_)
  go_ret
  exact ⟨rfl, hB⟩
 ·have d0 : ¬ (8 : Int) < (n : Int) := by omega
  have w0 : IntKind.i64.wrap (pc : Int) = (pc : Int) := IntWalk.i64_in _ ⟨by omega, by omega⟩
  obtain ⟨r, hr1⟩ : ∃ r, r = pc % 300 := ⟨_, rfl⟩
  have hr300 : r < 300 := by omega
  have d1 : (pc : Int) % 300 = (r : Int) := by omega
  have d1' : (pc : Int).tmod 300 = (r : Int) := by rw [Int.tmod_eq_emod_of_nonneg (by omega)]; exact d1
  obtain ⟨sz, hsz⟩ : ∃ sz, sz = 1 + r := ⟨_, rfl⟩
  have d2 : (1 : Int) + (r : Int) = (sz : Int) := by omega
  have hsz1 : 1 ≤ sz := by omega
  have hsz2 : sz ≤ 4084 := by omega
  clear hr1 hsz
  go_enter Tryz.func3, Tryz.ntmps3
  go_upto_block 0 with fail
  clear d0 w0 d1 d1' d2
  go_cut [8, 9] from 10 to 123 (fun s8 s9 wx => TbB w wx L sz n s8 s9)
  case first =>
   as_aux_lemma =>
   go_wp2_with fail
   go_loopw [10, 8, 9] (fun s10 s8 s9 wr => ∃ i : Nat, i ≤ n ∧ s10 = .int .i64 (i : Int) ∧ TbB w wr L sz i s8 s9) (fun s10 _ _ _ => n - (RowKit.intOf s10).toNat)
   case atStart => exact ⟨0, by omega, rfl, TbB.start w L sz⟩
   case round =>
    obtain ⟨i, hi, rfl, hS⟩ := hrel
    by_cases hlt : i < n
    ·have g1 : (i : Int) < (n : Int) := by omega
     have HSK := Lib.hid fun (W : World) (h : Below wr.heap.size wr W) => hS.skip h
     obtain ⟨m1, c1, m2, c2, A1, A2, K, rfl, rfl, HK, HM1, HM2, hO1, hO2, hne, hB⟩ := hS
     obtain ⟨b, off, rfl, hbB, hkl, hcl⟩ := rec_at mrShape (HR.out.below hB) (show i < L.length by rw [← HN.out]; exact hlt)
     have k0 := hcl 0 _ rfl
     have k1 := hcl 1 _ rfl
     have k2 := hcl 2 _ rfl
     have k3 := hcl 3 _ rfl
     have hxm := (HL.out _ (List.getElem_mem hkl)).up hB
     have HX := Lib.hid (List.getElem_mem hkl)
     have HCW : Hid (∀ W, Below w.heap.size w W → ∀ j u, (mrC L[i])[j]? = some u → W.cell? ⟨b, off + i * 4 + j, none⟩ = some u) := Lib.hid (fun W hW j u hu => (hW.cell (p := ⟨b, off + i * 4 + j, none⟩) hbB).trans ((hB.cell (p := ⟨b, off + i * 4 + j, none⟩) hbB).symm.trans (hcl j u hu)))
     clear hcl
     generalize L[i] = x at *
     obtain ⟨m, Aa, ca⟩ := x
     simp only [Nat.add_zero] at k0
     simp only at k0 k1 k2 k3 hxm
     have ham := hxm.c
     by_cases ha8 : 8 < m.args.length
     ·have g2 : (8 : Int) < (m.args.length : Int) := by omega
      go_wp2_with (with_reducible refine h_A ?_)
      refine (HAW.out _ hB).mono ?_
      rintro e w1 ⟨rfl, hB1⟩
      go_wp2_with (with_reducible refine h_A ?_)
      go_ret
      exact ⟨rfl, hB.trans (hB1.mono hB.size)⟩
     have g2 : ¬ (8 : Int) < (m.args.length : Int) := by omega
     have hmp := HMP.out wr m Aa ca hB hxm
     unfold MPut mtV at hmp
     have HPE : Hid (errM m = if goodM m = true then 0 else 80) := Lib.hid rfl
     obtain ⟨P, hP⟩ : ∃ q, q = putM m := ⟨_, rfl⟩
     have hPl : P.length ≤ 6000010 := by rw [hP]; exact putM_len m
     have HP := Lib.hid hP
     rw [← hP] at hmp
     generalize errM m = E at *
     clear hP
     go_wp2_with (with_reducible refine h_A ?_)
     refine hmp.mono ?_
     rintro e w1 ⟨A3, c3, rfl, hO3, hB1⟩
     clear hmp
     by_cases hq : goodM m = true ∧ P.length ≤ 4000
     ·obtain ⟨hg, hl4⟩ := hq
      obtain rfl : E = 0 := by rw [HPE.out, if_pos hg]
      have HG := Lib.hid hg
      have g3 : ¬ (4000 : Int) < (P.length : Int) := by omega
      have g3' : decide ((4000 : Int) < (P.length : Int)) = false := by simp; omega
      have k0' := (hB1.cell (p := ⟨b, off + i * 4, none⟩) (World.block_lt_of_cell? _ _ k0)).trans k0
      obtain ⟨T, hT⟩ : ∃ T, T = trk m := ⟨_, rfl⟩
      have HT := Lib.hid hT
      have hT1 : T ≤ 1 := by rw [hT]; unfold trk; split <;> omega
      clear hT hg k0 k1 k2 k3 HPE
      go_upto_if 76 with fail
      go_cut [13] from 42 to 123 (fun s13 wx => s13 = .int .u8 (T : Int) ∧ w1 = wx)
      case first =>
       by_cases q : m.cls ≤ 2
       ·have q' : (m.cls : Int) ≤ 2 := by omega
        obtain rfl : T = 0 := by rw [HT.out]; exact if_pos q
        go_wp2_with (with_reducible refine h_A ?_)
        go_meet
        exact ⟨rfl, rfl⟩
       ·have q' : ¬ (m.cls : Int) ≤ 2 := by omega
        obtain rfl : T = 1 := by rw [HT.out]; exact if_neg q
        go_wp2_with (with_reducible refine h_A ?_)
        go_meet
        exact ⟨rfl, rfl⟩
      case rest =>
       obtain ⟨rfl, rfl⟩ := hcut
       have hst := run_strB (w := w1) hO3.rd
       have hwi : IntKind.u16.wrap (i : Int) = (i : Int) := IntWalk.u16_in _ ⟨by omega, by omega⟩
       have hPm : (putM m).length ≤ 4000 := by rw [← HP.out]; exact hl4
       have hca := cutF_asm (p := (i, m, Aa, ca)) hPm hsz1 hsz2
       have hcl := cutAs_all (p := (i, m, Aa, ca)) hPm (by show i < _; omega) hsz1 hsz2
       have hpos := cutAs_pos hsz1 hsz2 (asm_ok (p := (i, m, Aa, ca)) hPm)
       have hlen := cutAs_len hsz1 (asm_ok (p := (i, m, Aa, ca)) hPm)
       obtain ⟨w2, hw2⟩ : ∃ W, W = w1.alloc (.cells #[.int .u8 (T : Int), .string (str P)] 37) := ⟨_, rfl⟩
       have hB2 : Below w1.heap.size w1 w2 := by rw [hw2]; exact (Below.refl _ _).alloc (Nat.le_refl _) _
       have hrg : RdG w2 w2.heap.size (some ⟨w1.heap.size, 0, none⟩) 1 1 [⟨T, P⟩] := by rw [hw2]; exact rd_new w1 _ _ _ 1 1 rfl (by omega) (by simp [maxLen])
       have hgc : Calls Tryz.prog 6 #[.agg #[.int .u16 (i : Int), .int .u8 (T : Int), .slice (some ⟨w1.heap.size, 0, none⟩) 1 1], .int .i64 (sz : Int)] w2 fun e w' => ∃ A2 c2, e = .returned (.tuple #[.slice A2 (cutAs sz (asm (i, m, Aa, ca))).length c2, .int .i64 0]) ∧ OwnF w' w2.heap.size A2 (cutAs sz (asm (i, m, Aa, ca))).length c2 (cutAs sz (asm (i, m, Aa, ca))) ∧ Below w2.heap.size w2 w' := by
        have hasm : asm (i, m, Aa, ca) = ⟨i, T, [⟨T, P⟩]⟩ := by unfold asm; rw [HT.out, HP.out]
        have hwf := asm_wf (p := (i, m, Aa, ca)) (by show i < _; omega)
        rw [hasm] at hca hwf ⊢
        have h := gcut_any ⟨i, T, [⟨T, P⟩]⟩ (sz : Int) (some ⟨w1.heap.size, 0, none⟩) 1 1 w2.heap.size w2 hrg (Nat.le_refl _) hwf (fun s hs => by rw [List.mem_singleton.1 hs]; show P.length ≤ _; omega) (by omega)
        rw [hca.1, hca.2] at h
        exact h
       obtain ⟨FS, hFS⟩ : ∃ l, l = cutAs sz (asm (i, m, Aa, ca)) := ⟨_, rfl⟩
       rw [← hFS] at hgc hcl hpos hlen
       obtain ⟨N, hN⟩ : ∃ k, k = FS.length := ⟨_, rfl⟩
       rw [← hN] at hgc hpos hlen
       have HFS := Lib.hid hFS
       have HNF := Lib.hid hN
       have HCL := Lib.hid hcl
       have g4 : ((N : Int) == 0) = false := by simp; omega
       have g4' : ¬ (N : Int) = 0 := by omega
       clear hFS hN hcl hca hPm hrg
       go_wp2_with (with_reducible refine h_A ?_)
       rw [← hw2]
       clear hw2
       refine hgc.mono ?_
       rintro e w3 ⟨A5, c5, rfl, hO5, hB3⟩
       have hB13 := hB2.trans (hB3.mono hB2.size)
       have hBr3 := hB1.trans (hB13.mono hB1.size)
       have hBw3 := hB.trans (hBr3.mono hB.size)
       have hO1' := own_below hO1 hBr3
       have hO2' := own_below hO2 hBr3
       have hO5' := hO5.base_le (show w.heap.size ≤ w2.heap.size by have := hB.size; have := hB1.size; have := hB2.size; omega)
       have hn15 : ∀ g, blk A1 = some g → blk A5 ≠ some g := fun g h1 h5 => by
        have := (hO1.blk_lt h1).2
        have := (hO5.blk_lt h5).1
        have := hB1.size
        have := hB2.size
        omega
       have HK0 := HK.out
       have hBb := HK0.blen (most := sz) (by omega) hsz1
       clear hgc hO1 hO2 hO3 hO5 hB1 hB2 hB3 hB13 hst hwi
       go_upto_block 2 with fail
       clear g4 g4'
       go_cut [8, 16, 17, 18] from 42 to 123 (fun s8 _ _ _ wx => ∃ (m3 c3 : Nat) (A3 : Option Addr), s8 = .slice A3 m3 c3 ∧ Hid (m3 = (putAll (frK sz K ++ FS)).length) ∧ Own wx w.heap.size 5 1 A3 m3 c3 ((putAll (frK sz K ++ FS)).map u8v) ∧
        Own wx w.heap.size 29 4 A2 m2 c2 (rowC mrC (K.map (·.2))) ∧ (∀ g, blk A3 = some g → blk A2 ≠ some g) ∧ Below w.heap.size w wx)
       case first =>
        go_wp2_with fail
        go_loopw [16, 8] (fun s16 s8 wy => ∃ (k m3 c3 : Nat) (A3 : Option Addr), k ≤ N ∧ s16 = .int .i64 (k : Int) ∧ s8 = .slice A3 m3 c3 ∧ m3 ≤ 537001984 + 4096 * k ∧ Hid (m3 = (putAll (frK sz K ++ FS.take k)).length) ∧ Own wy w.heap.size 5 1 A3 m3 c3 ((putAll (frK sz K ++ FS.take k)).map u8v) ∧
         Own wy w.heap.size 29 4 A2 m2 c2 (rowC mrC (K.map (·.2))) ∧ OwnF wy w.heap.size A5 N c5 FS ∧ (∀ g, blk A3 = some g → blk A2 ≠ some g) ∧ (∀ g, blk A3 = some g → blk A5 ≠ some g) ∧ Below w.heap.size w wy) (fun s16 _ _ => N - (RowKit.intOf s16).toNat)
        case atStart => exact ⟨0, m1, c1, A1, by omega, rfl, rfl, by rw [HM1.out]; have := hBb.2; omega, by rw [List.take_zero, List.append_nil]; exact HM1, by rw [List.take_zero, List.append_nil]; exact hO1', hO2', hO5', hne, hn15, hBw3⟩
        case round =>
         clear hO1' hO2' hO5' hne hn15 hBw3 hBr3
         obtain ⟨k, m3, c3, A3, hk, rfl, rfl, hm3, HM3, hO1, hO2, hO5, hne, hn15, hBy⟩ := hrel
         by_cases hkn : k < N
         ·have g5 : (k : Int) < (N : Int) := by omega
          obtain ⟨fb, foff, rfl, hfB, hfl, hfc⟩ := rec_at frShape hO5.rd hkn
          have k0 := hfc 0 _ rfl
          have k1 := hfc 1 _ rfl
          have k2 := hfc 2 _ rfl
          have k3 := hfc 3 _ rfl
          have k4 := hfc 4 _ rfl
          have k5 := hfc 5 _ rfl
          have k6 := hfc 6 _ rfl
          have k7 := hfc 7 _ rfl
          simp only [Nat.add_zero] at k0
          have hfo := HCL.out _ (List.getElem_mem hfl)
          have HTK : Hid (putAll (frK sz K ++ FS.take (k + 1)) = putAll (frK sz K ++ FS.take k) ++ FS[k].put) := Lib.hid (by rw [List.take_succ_eq_append_getElem hfl, ← List.append_assoc]; unfold putAll; rw [List.flatMap_append (xs := _ ++ _)]; simp)
          clear hfc
          generalize FS[k] = f at *
          have hfp := fput_any f wr hfo.2.1 (by have := hfo.2.2; omega)
          have he0 : f.err = 0 := by simp [Fr.err, hfo.1]
          rw [he0] at hfp
          unfold frV at hfp
          have hpl := put_len f
          clear he0
          go_wp2_with (with_reducible refine h_A ?_)
          refine hfp.mono ?_
          rintro e w4 ⟨A6, c6, rfl, hO6, hB4⟩
          clear hfp k0 k1 k2 k3 k4 k5 k6 k7
          have hBy4 := hBy.trans (hB4.mono hBy.size)
          go_wp2_with (with_reducible refine h_A ?_)
          refine unhold (wp_app slB rfl rfl rfl rfl (own_below hO1 hB4) hO6.rd (map_one _) (by omega) (by simp [maxLen]; omega) hBy4.size ?_)
          intro A7 c7 w5 hO7 hg5 hA7
          have hBy5 := hBy4.grown hg5 hBy4.size (fun g hg => (hO1.blk_lt hg).1)
          have hO2' := own_stays (own_below hO2 hB4) hg5 (fun g hg e => hne g e hg)
          have hO5' := own_stays (own_below hO5 hB4) hg5 (fun g hg e => hn15 g e hg)
          have hne' : ∀ g, blk A7 = some g → blk A2 ≠ some g := fun g h7 h2 => by
           rcases hA7 with h | h
           ·exact hne g (h.symm.trans h7) h2
           ·rw [h7] at h; injection h with h; have := (hO2.blk_lt h2).2; have := hB4.size; omega
          have hn15' : ∀ g, blk A7 = some g → blk (some ⟨fb, foff, none⟩) ≠ some g := fun g h7 h2 => by
           rcases hA7 with h | h
           ·exact hn15 g (h.symm.trans h7) h2
           ·rw [h7] at h; injection h with h; have := (hO5.blk_lt h2).2; have := hB4.size; omega
          rw [← List.map_append, ← HTK.out] at hO7
          have HM7 : Hid (m3 + f.put.length = (putAll (frK sz K ++ FS.take (k + 1))).length) := Lib.hid (by rw [HTK.out, List.length_append, ← HM3.out])
          clear hO1 hO2 hO5 hO6 hB4 hg5 hA7 hne hn15 hBy hBy4
          go_wp2_with (with_reducible refine h_A ?_)
          exact ⟨⟨k + 1, m3 + f.put.length, c7, A7, by omega, by go_num, rfl, by omega, HM7, hO7, hO2', hO5', hne', hn15', hBy5⟩, by simp [RowKit.intOf]; omega⟩
         ·have g5 : ¬ (k : Int) < (N : Int) := by omega
          obtain rfl : k = N := by omega
          rw [List.take_of_length_le (by rw [← HNF.out]; exact Nat.le_refl _)] at HM3 hO1
          go_wp2_with (with_reducible refine h_A ?_)
          go_meet
          exact ⟨m3, c3, A3, rfl, HM3, hO1, hO2, hne, hBy⟩
       case rest =>
        obtain ⟨m3, c3, A3, rfl, HM3, hO1, hO2, hne, hBc⟩ := hcut
        have z0 := HCW.out _ hBc 0 _ rfl
        have z1 := HCW.out _ hBc 1 _ rfl
        have z2 := HCW.out _ hBc 2 _ rfl
        have z3 := HCW.out _ hBc 3 _ rfl
        simp only [Nat.add_zero] at z0 z1 z2 z3
        have hm2 : m2 ≤ 8 := by rw [HM2.out]; have := HK.out.len; omega
        have hlit : Rd (wc.alloc (.cells #[.int .u8 (m.cls : Int), .int .u8 (m.code : Int), .bool m.sync, .slice Aa m.args.length ca] 29)) (wc.alloc (.cells #[.int .u8 (m.cls : Int), .int .u8 (m.code : Int), .bool m.sync, .slice Aa m.args.length ca] 29)).heap.size 4 (some ⟨wc.heap.size, 0, none⟩) 1 1 (rowC mrC [(m, Aa, ca)]) :=
         rd_new wc _ _ _ 1 1 rfl (by omega) (by simp [maxLen])
        have hBa := (Below.refl wc.heap.size wc).alloc (Nat.le_refl _) (.cells #[.int .u8 (m.cls : Int), .int .u8 (m.code : Int), .bool m.sync, .slice Aa m.args.length ca] 29)
        have hBca := hBc.trans (hBa.mono hBc.size)
        go_wp2_with (with_reducible refine h_A ?_)
        refine unhold (wp_app slMr rfl rfl rfl rfl (own_below hO2 hBa) hlit (rowC_one mrShape _) (by omega) (by simp [maxLen]; omega) hBca.size ?_)
        intro A8 c8 w5 hO8 hg5 hA8
        have hBd := hBca.grown hg5 hBca.size (fun g hg => (hO2.blk_lt hg).1)
        have hO1' := own_stays (own_below hO1 hBa) hg5 (fun g hg e => hne g hg e)
        have hne' : ∀ g, blk A3 = some g → blk A8 ≠ some g := fun g h3 h8 => by
         rcases hA8 with h | h
         ·exact hne g h3 (h.symm.trans h8)
         ·rw [h8] at h; injection h with h; have := (hO1.blk_lt h3).2; have := hBa.size; omega
        have hrow : rowC mrC (K.map (·.2)) ++ rowC mrC [(m, Aa, ca)] = rowC mrC ((K ++ [(i, m, Aa, ca)]).map (·.2)) := by rw [← rowC_app, List.map_append]; rfl
        rw [hrow] at hO8
        have hfr : frK sz K ++ FS = frK sz (K ++ [(i, m, Aa, ca)]) := by rw [frK_snoc, HFS.out]
        rw [hfr] at HM3 hO1'
        have HK2 : Hid (TbK L (i + 1) (K ++ [(i, m, Aa, ca)])) := Lib.hid (HK.out.snoc HX.out HG.out (by rw [← HP.out]; exact hl4))
        have HM2' : Hid (m2 + 1 = (K ++ [(i, m, Aa, ca)]).length) := Lib.hid (by rw [List.length_append, ← HM2.out]; rfl)
        clear hO1 hO2 hg5 hA8 hne hlit hBa hBca hrow hfr z0 z1 z2 z3
        go_wp2_with (with_reducible refine h_A ?_)
        exact ⟨⟨i + 1, by omega, by go_num, _, _, _, _, _, _, _, rfl, rfl, HK2, HM3, HM2', hO1', hO8, hne', hBd⟩, by simp [RowKit.intOf]; omega⟩
     ·by_cases hg : goodM m = true
      ·obtain rfl : E = 0 := by rw [HPE.out, if_pos hg]
       have g3 : (4000 : Int) < (P.length : Int) := by have : ¬ P.length ≤ 4000 := fun h => hq ⟨hg, h⟩; omega
       clear hq hg HPE
       go_wp2_with (with_reducible refine h_A ?_)
       exact ⟨⟨i + 1, by omega, by go_num, HSK.out _ hB1⟩, by simp [RowKit.intOf]; omega⟩
      ·obtain rfl : E = 80 := by rw [HPE.out, if_neg hg]
       clear hq hg HPE
       go_wp2_with (with_reducible refine h_A ?_)
       exact ⟨⟨i + 1, by omega, by go_num, HSK.out _ hB1⟩, by simp [RowKit.intOf]; omega⟩
    ·obtain rfl : i = n := by omega
     go_wp2_with (with_reducible refine h_A ?_)
     go_meet
     exact hS
  case rest =>
   as_aux_lemma =>
   obtain ⟨m1, c1, m2, c2, A1, A2, K, rfl, rfl, HK, HM1, HM2, hO1, hO2, hne, hB⟩ := hcut
   have hBb := HK.out.blen (most := sz) (by omega) hsz1
   have HSC := Lib.hid (HK.out.scan (most := sz) (by omega) hsz1 hsz2)
   have HAS := Lib.hid (HK.out.asms (by omega))
   have hOKf := fun f hf => HK.out.frs (by omega) hsz1 hsz2 f hf
   have HFD := Lib.hid (FedI.start hsz1 hsz2 (AS := K.map asm) (fun a ha => (HAS.out a ha).1))
   have HR0 := Lib.hid (remF_start sz (K.map asm))
   obtain ⟨FS, hFS⟩ : ∃ l, l = frK sz K := ⟨_, rfl⟩
   obtain ⟨B, hBy⟩ : ∃ l, l = putAll FS := ⟨_, rfl⟩
   obtain ⟨AS, hAS⟩ : ∃ l, l = K.map asm := ⟨_, rfl⟩
   rw [← hFS] at HM1 hO1 hBb HSC hOKf
   rw [← hBy] at HM1 hO1 hBb HSC
   rw [show allFr sz (K.map asm) = FS from hFS.symm, ← hAS] at HR0
   rw [← hAS] at HAS HFD
   have HA := Lib.hid hAS
   have HOK := Lib.hid hOKf
   have hm1 : m1 = B.length := HM1.out
   have hAl : AS.length = K.length := by rw [hAS]; simp
   have hm2 : m2 = AS.length := by rw [hAl]; exact HM2.out
   have hm28 : m2 ≤ 8 := by rw [HM2.out]; have := HK.out.len; omega
   have HM1' := Lib.hid hm1
   have HM2' := Lib.hid hm2
   have HBB := Lib.hid hBb
   have hm1b : m1 ≤ 537001984 := by omega
   have hgn : Calls Tryz.prog 8 #[] wc fun e w' => ∃ (F : Nat → Prop) (pb : Nat), e = .returned (.pointer (some ⟨pb, 0, none⟩)) ∧ Ga w' F pb 0 GS.new ∧ (∀ k, F k → wc.heap.size ≤ k) ∧ Below wc.heap.size wc w' := (gnew_any wc).mono (by
    rintro e w' ⟨h1, h2, h3, _⟩
    exact ⟨_, _, h1, h2, (fun k hk => by rcases hk with hk | hk <;> omega), h3⟩)
   clear hFS hBy hAS hOKf hm1 hAl hm2 hBb
   go_wp2_with (with_reducible refine h_A ?_)
   refine hgn.mono ?_
   rintro e w1 ⟨F0, pb, rfl, hG, hG0, hB1⟩
   clear hgn
   go_upto_block 4 with fail
   go_wp2_with fail
   go_loopw [23, 20, 21, 22] (fun s23 s20 s21 s22 wr => ∃ i : Nat, i ≤ nc + 1 ∧ i ≤ 7 ∧ s23 = .int .i64 (i : Int) ∧ TbL wc wr sz AS FS B pb i nc s20 s21 s22) (fun s23 _ _ _ _ => 7 - (RowKit.intOf s23).toNat)
   case atStart => 
    exact ⟨0, by omega, by omega, rfl, 0, 0, 0, 0, 0, none, [], [], FS, GS.new, F0, rfl, rfl, rfl, Lib.hid (fun h => by omega), by omega, by omega, Lib.hid (PieceI.start FS B), Lib.hid ⟨0, HFD.out, HR0.out.symm⟩, Lib.hid (by omega), hG, hG0, Own.none_ _ _ _ _, (fun k h => by cases h), hB1⟩
   case round =>
    clear hG hG0 hB1
    obtain ⟨i, hi1, hi7, rfl, hS⟩ := hrel
    by_cases hlt : i ≤ nc ∧ i ≤ 6
    ·have g1 : (i : Int) ≤ (nc : Int) := by omega
     have g2 : (i : Int) ≤ 6 := by omega
     have g1' : decide ((i : Int) ≤ (nc : Int)) = true := by simp; omega
     obtain ⟨frm, got, nr, cr, nk, Ar, rest, D, R, g, F, rfl, rfl, rfl, HE, hfb, hga, HPI, HFE, HNK, hG, hF, hOr, hnr, hBr⟩ := hS
     go_upto_region 35 with fail
     obtain ⟨go, hgo⟩ : ∃ x, x = decide (i < nc ∧ i < 6) := ⟨_, rfl⟩
     have HGO := Lib.hid hgo
     clear hgo
     go_cut [144] from 125 to 229 (fun s144 wx => s144 = .bool go ∧ wr = wx)
     case first =>
      as_aux_lemma =>
      by_cases q1 : i < nc
      ·have q1' : (i : Int) < (nc : Int) := by omega
       by_cases q2 : i < 6
       ·have q2' : (i : Int) < 6 := by omega
        obtain rfl : go = true := by rw [HGO.out]; simp [q1, q2]
        go_wp2_with (with_reducible refine h_A ?_)
        go_meet
        exact ⟨rfl, rfl⟩
       ·have q2' : ¬ (i : Int) < 6 := by omega
        obtain rfl : go = false := by rw [HGO.out]; simp [q2]
        go_wp2_with (with_reducible refine h_A ?_)
        go_meet
        exact ⟨rfl, rfl⟩
      ·have q1' : ¬ (i : Int) < (nc : Int) := by omega
       obtain rfl : go = false := by rw [HGO.out]; simp [q1]
       go_wp2_with (with_reducible refine h_A ?_)
       go_meet
       exact ⟨rfl, rfl⟩
     case rest =>
      obtain ⟨rfl, rfl⟩ := hcut
      go_upto_if 144 with fail
      go_cut [24] from 125 to 229 (fun s24 wx => ∃ ti : Nat, s24 = .int .i64 (ti : Int) ∧ frm ≤ ti ∧ ti ≤ m1 ∧ Hid ((i + 1 = nc + 1 ∨ i + 1 = 7) → ti = B.length) ∧ wr = wx)
      case first =>
       as_aux_lemma =>
       have hfm : frm ≤ m1 := by rw [HM1'.out]; exact hfb
       cases go
       ·have hti : Hid ((i + 1 = nc + 1 ∨ i + 1 = 7) → m1 = B.length) := Lib.hid (fun _ => HM1'.out)
        go_wp2_with (with_reducible refine h_A ?_)
        go_meet
        exact ⟨m1, rfl, hfm, Nat.le_refl _, hti, rfl⟩
       ·have hq : i < nc ∧ i < 6 := of_decide_eq_true HGO.out.symm
        obtain ⟨cb, coff, x, rfl, hx, hcb, hcx⟩ := HC.out i hq.1
        have z0 := ((hB.trans (hBr.mono hB.size)).cell (p := ⟨cb, coff + i, none⟩) hcb).trans hcx
        have hnq : Hid (¬ (i + 1 = nc + 1 ∨ i + 1 = 7)) := Lib.hid (by omega)
        have hin : (i : Int) < (nc : Int) := by omega
        obtain ⟨d, hd⟩ : ∃ d, d = m1 - frm := ⟨_, rfl⟩
        obtain ⟨d1, hd1⟩ : ∃ d1, d1 = d + 1 := ⟨_, rfl⟩
        obtain ⟨y, hy⟩ : ∃ y, y = x % d1 := ⟨_, rfl⟩
        obtain ⟨ti, hti⟩ : ∃ ti, ti = frm + y := ⟨_, rfl⟩
        have e1 : (m1 : Int) - (frm : Int) = (d : Int) := by omega
        have e2 : (d : Int) + 1 = (d1 : Int) := by omega
        have e3 : (x : Int).tmod (d1 : Int) = (y : Int) := by rw [Int.tmod_eq_emod_of_nonneg (by omega), hy]; rfl
        have e3' : (x : Int) % (d1 : Int) = (y : Int) := by rw [hy]; rfl
        have e4 : (frm : Int) + (y : Int) = (ti : Int) := by omega
        have e5 : ¬ (d1 : Int) = 0 := by omega
        have hyd : y < d1 := by rw [hy]; exact Nat.mod_lt _ (by omega)
        have h1 : frm ≤ ti := by omega
        have h2 : ti ≤ m1 := by omega
        have w0 : IntKind.i64.wrap (x : Int) = (x : Int) := IntWalk.i64_in _ ⟨by omega, by omega⟩
        clear hd hd1 hy hti hcx hq
        go_wp2_with (with_reducible refine h_A ?_)
        go_meet
        exact ⟨ti, rfl, h1, h2, Lib.hid (fun h => absurd h hnq.out), rfl⟩
      case rest =>
       as_aux_lemma =>
       obtain ⟨ti, rfl, hft, htm, hte, rfl⟩ := hcut
       have hlr := RdB.length hOr.rd
       have hpl := HPI.out.len
       obtain ⟨hs0, R', hR', hPI'⟩ := HPI.out.more HSC.out hft (by rw [← HM1'.out]; exact htm)
       have hcap := hO1.rd.cap
       have hO1w := own_below hO1 hBr
       have hPl : ((B.take ti).drop frm).length = ti - frm := by rw [List.length_drop, List.length_take, ← HM1'.out]; omega
       obtain ⟨X, hX⟩ : ∃ X, X = rest ++ (B.take ti).drop frm := ⟨_, rfl⟩
       rw [← hX] at hs0 hR' hPI'
       have hXl : X.length = nr + (ti - frm) := by rw [hX, List.length_append, hPl, hlr]
       have hul := (frScan_le X).2
       have hul1 := (frScan_le X).1
       have HX := Lib.hid hX
       have hnr2 : nr ≤ frm := by omega
       clear hX hPl hlr hpl HPI
       go_wp2_with (with_reducible refine h_S ?_)
       refine unhold (wp_cutB slB rfl rfl rfl hO1w.rd frm ti c1 (.inr ⟨_, _, rfl, rfl⟩) (.inr ⟨_, _, rfl, rfl⟩) (.inl ⟨rfl, rfl⟩) (by intro h; cases h) hft (by omega) (Nat.le_refl _) htm ?_)
       intro A3 hr3 _
       simp only [Nat.mul_one] at hr3
       rw [← List.map_take, ← List.map_drop] at hr3
       go_wp2_with (with_reducible refine h_S ?_)
       refine unhold (wp_app slB rfl rfl rfl rfl hOr hr3 (map_one _) (by omega) (by simp [maxLen]; omega) hBr.size ?_)
       intro A5 c5 w5 hO5 hg5 hA5
       rw [← List.map_append, ← HX.out] at hO5
       have hBr5 := hBr.grown hg5 hBr.size (fun g hg => (hOr.blk_lt hg).1)
       have hG5 : Ga w5 F pb nk g := hG.keepF (KeepF.grown (F := fun k => blk Ar = some k) hg5 (fun k hk => .inl hk)) (fun k hk h => hnr k h hk)
       obtain ⟨nX, hnX⟩ : ∃ x, x = nr + (ti - frm) := ⟨_, rfl⟩
       rw [← hnX] at hO5 hXl ⊢
       have hnXb : nX ≤ 1000000000 := by omega
       have hsn := scan_any A5 nX c5 X w5 hO5.rd hnXb
       clear hnX hg5 hA5 hr3 hOr hnr hG hcap hO1w
       obtain ⟨FR, hFR⟩ : ∃ l, l = (frScan X).1 := ⟨_, rfl⟩
       obtain ⟨u, hu⟩ : ∃ x, x = (frScan X).2.1 := ⟨_, rfl⟩
       rw [hs0, ← hFR, ← hu] at hsn
       rw [← hFR] at hR' hPI'
       rw [← hu] at hPI' hul
       rw [← hFR, ← hu] at hul1
       rw [show ((0 : Nat) : Int) = 0 from rfl] at hsn
       obtain ⟨N, hN⟩ : ∃ k, k = FR.length := ⟨_, rfl⟩
       rw [← hN] at hsn
       have HNF := Lib.hid hN
       have HRR := Lib.hid hR'
       have HPI := Lib.hid hPI'
       have huX : u ≤ nX := by omega
       have hNb : N ≤ 1000000000 := by omega
       clear hs0 hFR hu hN hR' hPI' hul hul1 hXl
       go_wp2_with (with_reducible refine h_S ?_)
       (with_reducible refine hsn.mono ?_)
       rintro e w6 ⟨A6, c6, rfl, hO6, hB6⟩
       have hO5' := own_below hO5 hB6
       have hBr6 := hBr5.trans (hB6.mono hBr5.size)
       have hG6 := hG5.below hB6
       have hF6 : ∀ k, blk A6 = some k → ¬ F k := fun k hk h => by have := hG5.lt k h; have := (hO6.blk_lt hk).1; omega
       have hO6' := hO6.base_le (show wc.heap.size ≤ w5.heap.size from hBr5.size)
       clear hsn hO5 hO6 hB6 hBr5 hG5
       go_wp2_with (with_reducible refine h_S ?_)
       refine unhold (wp_cutB slB rfl rfl rfl hO5'.rd u nX c5 (.inr ⟨_, _, rfl, rfl⟩) (.inl ⟨rfl, rfl⟩) (.inl ⟨rfl, rfl⟩) (by intro h; cases h) huX hO5'.rd.cap (Nat.le_refl _) (Nat.le_refl _) ?_)
       intro A7 hr7 _
       simp only [Nat.mul_one] at hr7
       rw [List.take_of_length_le (by have := RdB.length hO5'.rd; simp; omega), ← List.map_drop] at hr7
       go_wp2_with (with_reducible refine h_S ?_)
       refine unhold (wp_app slB rfl rfl rfl rfl (Own.none_ _ w6.heap.size _ _) hr7 (map_one _) (by omega) (by simp [maxLen]; omega) (Nat.le_refl _) ?_)
       intro A9 c9 w9 hO9 hg9 hA9
       obtain ⟨n9, hn9⟩ : ∃ x, x = 0 + (nX - u) := ⟨_, rfl⟩
       rw [← hn9, List.nil_append] at hO9
       rw [← hn9]
       have hBr9 := hBr6.grown hg9 hBr6.size (fun g hg => by cases hg)
       have hG9 : Ga w9 F pb nk g := hG6.keepF (KeepF.grown (F := fun _ => False) hg9 (fun k hk => by cases hk)) (fun _ _ h => h)
       have hF9 : ∀ k, blk A9 = some k → ¬ F k := fun k hk h => by have := hG6.lt k h; have := (hO9.blk_lt hk).1; omega
       have hO69 := own_stays hO6' hg9 (fun g hg e => by cases e)
       have hO9' := hO9.base_le (show wc.heap.size ≤ w6.heap.size from hBr6.size)
       have HFE' : Hid (∃ kk, FedI sz AS got kk g ∧ FR.drop 0 ++ R' = remF sz AS got kk) := Lib.hid (by rw [List.drop_zero, ← HRR.out]; exact HFE.out)
       have HNK' : Hid (nk + (FR.drop 0 ++ R').length = FS.length) := Lib.hid (by rw [List.drop_zero, ← HRR.out]; exact HNK.out)
       clear hn9 hg9 hA9 hO9 hO6' hO5' hr7 hG6 hBr6 HFE HNK
       go_wp2_with (with_reducible refine h_A ?_)
       go_loopw [28, 21] (fun s28 s21 wr => ∃ k : Nat, k ≤ N ∧ s28 = .int .i64 (k : Int) ∧ TbF wc wr sz AS FS pb A6 N c6 FR (FR.drop k ++ R') A9 n9 c9 (X.drop u) s21) (fun s28 _ _ => N - (RowKit.intOf s28).toNat)
       case atStart => exact ⟨0, by omega, rfl, got, nk, g, F, rfl, hga, HFE', HNK', hG9, hF, hO69, hF6, hO9', hF9, hBr9⟩
       case round =>
        clear hG9 hF hO69 hF6 hO9' hF9 hBr9 HFE' HNK' hga
        clear w9 w6 w5
        obtain ⟨k, hk, rfl, hS⟩ := hrel
        obtain ⟨got, nk, g, F, rfl, hga, HFE, HNK, hG, hF, hO6, hn6, hO9, hn9, hBr⟩ := hS
        by_cases hkn : k < N
        ·as_aux_lemma =>
         have g5 : (k : Int) < (N : Int) := by omega
         obtain ⟨fb, foff, rfl, hfB, hfl, hfc⟩ := rec_at frShape hO6.rd hkn
         have k0 := hfc 0 _ rfl
         have k1 := hfc 1 _ rfl
         have k2 := hfc 2 _ rfl
         have k3 := hfc 3 _ rfl
         have k4 := hfc 4 _ rfl
         have k5 := hfc 5 _ rfl
         have k6 := hfc 6 _ rfl
         have k7 := hfc 7 _ rfl
         simp only [Nat.add_zero] at k0
         have hfo := HOK.out FR[k] (by rw [HPI.out.all]; simp)
         have hdr : FR.drop k ++ R' = FR[k] :: (FR.drop (k + 1) ++ R') := by rw [List.drop_eq_getElem_cons hfl]; rfl
         rw [hdr] at HFE HNK
         obtain ⟨kk, hFd, hRM⟩ := HFE.out
         obtain ⟨a, ha, he0, hcase⟩ := hFd.step hsz1 hsz2 (fun a h => (HAS.out a h).1) (fun a h => (HAS.out a h).2) hRM.symm
         clear hfc hdr hRM HFE
         generalize FR[k] = f at *
         have hnk1 : Hid (nk + 1 + (FR.drop (k + 1) ++ R').length = FS.length) := Lib.hid (by have := HNK.out; rw [List.length_cons] at this; omega)
         have hfd := gfeed_any F pb nk g f wr hG hFd.inv hfo.2.1 (by have := hfo.2.2; omega) (by have := HNK.out; have := HBB.out.1; omega)
         have HCS := Lib.hid hcase
         have HAA := Lib.hid ha
         have HE0 := Lib.hid he0
         unfold frV at hfd
         clear hfo hFd ha he0 hcase HNK hG
         go_wp2_with (with_reducible refine h_A ?_)
         refine hfd.mono ?_
         rintro e w3 ⟨F', hF', hG3, hK3, hres⟩
         clear hfd k0 k1 k2 k3 k4 k5 k6 k7
         have hBr3 := hBr.trans (hK3.toBelow hBr.size hF)
         have hF3 : ∀ k, F' k → wc.heap.size ≤ k := fun k h => by
          rcases hF' k h with h | h
          ·exact hF k h
          ·have := hBr.size; omega
         obtain ⟨hO63, hn63⟩ := own_fed hO6 hn6 hK3 hF'
         obtain ⟨hO93, hn93⟩ := own_fed hO9 hn9 hK3 hF'
         clear hO6 hn6 hO9 hn9 hBr hF
         obtain ⟨xb, w4, hqb, hqv, hX4, hB4⟩ := alloc_stepG w3 #[.int .u16 0, .int .u8 0, .slice none 0 0] 40
         have hxb : w3.heap.size ≤ xb := by omega
         rcases HCS.out with ⟨hkk, hout, hr2, hFd2⟩ | ⟨hkk, hout, hr2, hFd2⟩
         ·as_aux_lemma =>
          rcases hres with ⟨_, rfl⟩ | ⟨a', A', c', ho, _⟩
          ·rw [HE0.out]
           rw [show ((0 : Nat) : Int) = 0 from rfl]
           unfold asZ
           have HF2 : Hid (∃ kk, FedI sz AS got kk (g.next f) ∧ FR.drop (k + 1) ++ R' = remF sz AS got kk) := Lib.hid ⟨_, hFd2, hr2⟩
           clear HCS hkk hout hr2 hFd2 hF' hK3
           go_wp2_with (with_reducible refine h_B ?_)
           rw [← hqb, ← hqv]
           refine unhold (wp_box (v := .agg #[.int .u16 0, .int .u8 0, .slice none 0 0]) (vs := [.int .u16 0, .int .u8 0, .slice none 0 0]) rfl rfl rfl rfl hX4 rfl (by kernel_rfl) (by simp) (by simp [Value.oneCell']) #[.int .u16 0, .int .u8 0, .slice none 0 0] (by simp) ?_)
           intro w5 hX5 hg5 hz5
           have hB35 : Below w3.heap.size w3 w5 := hB4.grown hg5 hB4.size (fun g hg => by injection hg with hg; omega)
           have hG5 := hG3.below hB35
           have hO65 := own_below hO63 hB35
           have hO95 := own_below hO93 hB35
           have hBr5 := hBr3.trans (hB35.mono hBr3.size)
           clear hz5 hg5 hX5 hX4 hB4 hqb hqv hG3 hO63 hO93 hBr3
           go_wp2_with (with_reducible refine h_A ?_)
           exact ⟨⟨k + 1, by omega, by go_num, got, nk + 1, g.next f, F', rfl, hga, HF2, hnk1, hG5, hF3, hO65, hn63, hO95, hn93, hBr5⟩, by simp [RowKit.intOf]; omega⟩
          ·rw [hout] at ho; cases ho
         ·as_aux_lemma =>
          rcases hres with ⟨ho, _⟩ | ⟨a', A8, c8, ho, rfl, hO8, _⟩
          ·rw [hout] at ho; cases ho
          ·obtain rfl : a = a' := by rw [hout] at ho; exact Option.some.inj ho
           obtain ⟨p, hp, hpa⟩ : ∃ p, K[got]? = some p ∧ asm p = a := by
            have := HAA.out
            rw [HA.out, List.getElem?_map] at this
            exact Option.map_eq_some_iff.1 this
           have hgK := (List.getElem?_eq_some_iff.1 hp).1
           have hgl : got < m2 := by rw [HM2.out]; exact hgK
           obtain ⟨q, m, Aq, cq⟩ := p
           obtain ⟨hq1, hq2, hq3, hq4⟩ := HK.out.all _ (List.mem_of_getElem? hp)
           simp only at hq1 hq2 hq3 hq4
           have hRm := HL.out _ hq2
           simp only at hRm
           have hgm := get_back hq3 hRm.ab
           have hke : (K.map (·.2))[got]'(by simpa using hgK) = (m, Aq, cq) := by simp [(List.getElem?_eq_some_iff.1 hp).2]
           obtain ⟨T, hT⟩ : ∃ T, T = trk m := ⟨_, rfl⟩
           obtain ⟨P, hP⟩ : ∃ q, q = putM m := ⟨_, rfl⟩
           have hse : a.segs = [⟨T, P⟩] := by rw [← hpa]; unfold asm; rw [hT, hP]
           rw [← hP] at hgm hq4
           have HGM := Lib.hid hgm
           have HRM := Lib.hid hRm
           have HF2 : Hid (∃ kk, FedI sz AS (got + 1) kk (g.next f) ∧ FR.drop (k + 1) ++ R' = remF sz AS (got + 1) kk) := Lib.hid ⟨_, hFd2, hr2⟩
           obtain ⟨kb, koff, rfl, hkb, hkl2, hkc⟩ := rec_at mrShape hO2.rd hgl
           rw [hke] at hkc
           have HKC := Lib.hid hkc
           obtain ⟨N8, hN8⟩ : ∃ k, k = a.segs.length := ⟨_, rfl⟩
           obtain ⟨ch, hch⟩ : ∃ k, k = a.chan := ⟨_, rfl⟩
           obtain ⟨tr, htr⟩ : ∃ k, k = a.track := ⟨_, rfl⟩
           unfold asV
           rw [← hN8] at hO8 ⊢
           rw [← hch, ← htr]
           obtain rfl : N8 = 1 := by rw [hN8, hse]; rfl
           rw [hse] at hO8
           obtain ⟨ab, aoff, rfl, hab, hkl8, hcl8⟩ := rec_at sgShape hO8.rd (k := 0) (by omega)
           have z1 := hcl8 1 _ rfl
           simp only [Nat.zero_mul, Nat.add_zero, List.getElem_cons_zero] at z1
           clear hp hpa hgK hq1 hq2 hq3 hRm hgm hke hT hP hse hFd2 hr2 hkl2 hkc hN8 hch htr hkl8 hcl8 hO8 hout ho HCS hkk hF' hK3
           have hBwr := hB.trans (hBr3.mono hB.size)
           go_wp2_with (with_reducible refine h_B ?_)
           rw [← hqb, ← hqv]
           refine unhold (wp_box (v := .agg #[.int .u16 (ch : Int), .int .u8 (tr : Int), .slice (some ⟨ab, aoff, none⟩) 1 c8]) (vs := [.int .u16 (ch : Int), .int .u8 (tr : Int), .slice (some ⟨ab, aoff, none⟩) 1 c8]) rfl rfl rfl rfl hX4 rfl (by kernel_rfl) (by simp) (by simp [Value.oneCell']) #[.int .u16 (ch : Int), .int .u8 (tr : Int), .slice (some ⟨ab, aoff, none⟩) 1 c8] (by simp) ?_)
           intro w5 hX5 hg5 hz5
           have hB35 : Below w3.heap.size w3 w5 := hB4.grown hg5 hB4.size (fun g hg => by injection hg with hg; omega)
           have x2 := hX5.c2
           have z1' := (hB35.cell (p := ⟨ab, aoff + 1, none⟩) hab).trans z1
           have hBw5 := hBwr.trans (hB35.mono hBwr.size)
           clear hz5 hg5 hX4 hB4 hqb hqv z1
           go_wp2_with (first | (with_reducible refine hold_append ?_) | (with_reducible refine hold_make ?_) | (with_reducible refine hold_copy ?_) | (with_reducible refine hold_slice ?_) | (with_reducible refine hold_conv (s := 9) (t := 26) ?_))
           refine unhold (wp_s2b Tryz.underlying9 Tryz.underlying26 Tryz.underlying5 rfl rfl rfl (l := P) (by omega) ?_)
           intro c6' w6 hr6 hB6
           have hBw6 := hBw5.trans (hB6.mono hBw5.size)
           have hgt := HGT.out w6 _ _ c6' P hBw6 hr6 (by omega)
           clear x2 z1' hr6
           go_wp2_with (with_reducible refine h_A ?_)
           refine hgt.mono ?_
           rintro e w7 ⟨m', A', c', er, rfl, hRM, hB7, hGm⟩
           obtain ⟨e1, e2⟩ := hGm.uniq HGM.out
           clear hgt hGm
           subst e2
           obtain rfl : m = m' := e1.symm
           unfold mtV
           obtain ⟨rb, w8, hqb2, hqv2, hR8, hB8⟩ := alloc_stepG w7 #[.int .u8 0, .int .u8 0, .bool false, .slice none 0 0] 29
           have hrb : w7.heap.size ≤ rb := by omega
           go_wp2_with (with_reducible refine h_B ?_)
           rw [← hqb2, ← hqv2]
           refine unhold (wp_box (v := .agg #[.int .u8 (m.cls : Int), .int .u8 (m.code : Int), .bool m.sync, .slice A' m.args.length c']) (vs := [.int .u8 (m.cls : Int), .int .u8 (m.code : Int), .bool m.sync, .slice A' m.args.length c']) rfl rfl rfl rfl hR8 rfl (by kernel_rfl) (by simp) (by simp [Value.oneCell']) #[.int .u8 (m.cls : Int), .int .u8 (m.code : Int), .bool m.sync, .slice A' m.args.length c'] (by simp) ?_)
           intro w9 hR9 hg9 hz9
           have hB79 : Below w7.heap.size w7 w9 := hB8.grown hg9 hB8.size (fun g hg => by injection hg with hg; omega)
           have hB39 : Below w3.heap.size w3 w9 := hB35.trans ((hB6.trans ((hB7.trans (hB79.mono hB7.size)).mono hB6.size)).mono hB35.size)
           have hG9 := hG3.below hB39
           have hO69 := own_below hO63 hB39
           have hO99 := own_below hO93 hB39
           have hBr9 := hBr3.trans (hB39.mono hBr3.size)
           have hRM9 := (hRM.mono (fun g hg => hg.2)).up hB79
           have hBw9 := hB.trans (hBr9.mono hB.size)
           have hsm := msameM_any m m A' c' Aq cq w9.drew (hRM9.up (below_drewN (Below.refl _ _) 1)) (HRM.out.up (below_drewN hBw9 1))
           rw [(sameM_iff m m).2 rfl] at hsm
           unfold mtV at hsm
           have hgd : decide ((m2 : Int) ≤ (got : Int)) = false := by simp; omega
           have hgd' : ¬ (m2 : Int) ≤ (got : Int) := by omega
           have hgn : (got : Int) < (m2 : Int) := by omega
           clear hz9 hg9 hR8 hB8 hqb2 hqv2 hRM hRM9 hB7 hB6 hB35 hB79 hG3 hO63 hO93 hBr3 hBwr hBw5 hBw6 hB39 hX5
           clear w8
           go_upto_region 53 with fail
           refine rg_start (fun wx : World => Below w9.heap.size w9 wx) (by kernel_rfl) ?_
           have hS : Below w9.heap.size w9 w9.drew := below_drewN (Below.refl _ _) 1
           refine rg_t 0 hS ?_
           simp only [List.getElem_toArray, List.getElem_cons_zero, Act.put, List.setIfInBounds_toArray, List.set_cons_zero, List.set_cons_succ]
           refine rg_t 1 hS ?_
           simp only [g_S, Act.put]
           refine rg_t 2 hS ?_
           simp only [g_S, Act.put]
           refine rg_t 3 hS ?_
           simp only [g_S, Act.put]
           refine rg_t 4 hS ?_
           simp only [g_S, Act.put]
           refine rg_t 5 hS ?_
           simp only [g_S, Act.put]
           refine rg_t 6 hS ?_
           simp only [g_S, Act.put]
           refine rg_t 7 hS ?_
           simp only [g_S, Act.put]
           refine rg_t 8 hS ?_
           simp only [g_S, Act.put]
           refine rg_take 9 (v := ?_) rfl (by kernel_rfl) (by kernel_rfl) (by kernel_rfl) hS rfl ?_ ?_
           rotate_left
           ·intro wS hSw
            have hRS := hR9.below hSw
            have y0 := hRS.c0
            have y1 := hRS.c1
            have y2 := hRS.c2
            have y3 := hRS.c3
            go_simp
            (with_reducible rfl)
           try simp only [g_S, Act.put]
           refine rg_t 10 hS ?_
           simp only [g_S, Act.put]
           refine rg_t 11 hS ?_
           simp only [g_S, Act.put]
           refine rg_t 12 hS ?_
           simp only [g_S, Act.put]
           refine rg_take 13 (v := ?_) rfl (by kernel_rfl) (by kernel_rfl) (by kernel_rfl) hS rfl ?_ ?_
           rotate_left
           ·intro wS hSw
            have hWS := hBr9.trans (hSw.mono hBr9.size)
            have y0 := (hWS.cell (p := ⟨kb, koff + got * 4 + 0, none⟩) hkb).trans (HKC.out 0 _ rfl)
            have y1 := (hWS.cell (p := ⟨kb, koff + got * 4 + 1, none⟩) hkb).trans (HKC.out 1 _ rfl)
            have y2 := (hWS.cell (p := ⟨kb, koff + got * 4 + 2, none⟩) hkb).trans (HKC.out 2 _ rfl)
            have y3 := (hWS.cell (p := ⟨kb, koff + got * 4 + 3, none⟩) hkb).trans (HKC.out 3 _ rfl)
            simp only [Nat.add_zero] at y0
            go_simp
            (with_reducible rfl)
           try simp only [g_S, Act.put]
           refine rg_one 14 rfl (by kernel_rfl) rfl (fun K hK => ?_)
           go_simp
           (with_reducible refine hsm.mono ?_)
           rintro e w10 ⟨rfl, hB10⟩
           have hS10 := hS.trans (hB10.mono hS.size)
           refine hK _ _ hS10 ?_; clear hK K
           try simp only [g_S, Act.put]
           refine rg_t 15 hS10 ?_
           simp only [g_S, Act.put]
           refine rg_t 16 hS10 ?_
           simp only [g_S, Act.put]
           refine rg_end (by kernel_rfl) ?_
           have hG10 := hG9.below hS10
           have hO610 := own_below hO69 hS10
           have hO910 := own_below hO99 hS10
           have hBr10 := hBr9.trans (hS10.mono hBr9.size)
           clear hsm hS hB10 hS10 hG9 hO69 hO99 hBr9 hR9 hgd hgd'
           go_wp2_with (with_reducible refine h_A ?_)
           exact ⟨⟨k + 1, by omega, by go_num, got + 1, nk + 1, g.next f, F', by go_num, by rw [← HM2'.out]; exact hgl, HF2, hnk1, hG10, hF3, hO610, hn63, hO910, hn93, hBr10⟩, by simp [RowKit.intOf]; omega⟩
        ·have g5 : ¬ (k : Int) < (N : Int) := by omega
         obtain rfl : k = N := by omega
         rw [List.drop_of_length_le (by rw [← HNF.out]; exact Nat.le_refl _), List.nil_append] at HFE HNK
         go_wp2_with (with_reducible refine h_A ?_)
         exact ⟨⟨i + 1, by omega, by omega, by go_num, ti, got, n9, c9, nk, A9, _, _, R', g, F, rfl, rfl, rfl, hte, by rw [← HM1'.out]; exact htm, hga, HPI, HFE, HNK, hG, hF, hO9, hn9, hBr⟩, by simp [RowKit.intOf]; omega⟩
    ·as_aux_lemma =>
     obtain ⟨frm, got, nr, cr, nk, Ar, rest, D, R, g, F, rfl, rfl, rfl, HE, hfb, hga, HPI, HFE, HNK, hG, hF, hOr, hnr, hBr⟩ := hS
     have hpd := HPI.out
     rw [HE.out (by omega)] at hpd
     obtain ⟨hR0, hrest⟩ := hpd.done HSC.out
     obtain ⟨kk, hFd, hRr⟩ := HFE.out
     have hgA := hFd.done (by rw [← hRr]; exact hR0)
     have hnr0 : nr = 0 := by have := RdB.length hOr.rd; rw [hrest] at this; simpa using this.symm
     subst hnr0
     obtain rfl : got = m2 := by rw [HM2'.out]; exact hgA
     have hBw := hB.trans (hBr.mono hB.size)
     have haw := HAW.out _ hBw
     clear hpd hR0 hrest hFd hRr hgA HE hfb HPI HFE HNK hG hF hOr hnr hBr
     by_cases q : i ≤ nc
     ·have q1 : (i : Int) ≤ (nc : Int) := by omega
      have q1' : decide ((i : Int) ≤ (nc : Int)) = true := by simp; omega
      have q2 : ¬ (i : Int) ≤ 6 := by omega
      go_wp2_with (with_reducible refine h_A ?_)
      refine haw.mono ?_
      rintro e w3 ⟨rfl, hB3⟩
      go_wp2_with (with_reducible refine h_A ?_)
      go_ret
      exact ⟨rfl, hBw.trans (hB3.mono hBw.size)⟩
     ·have q1 : ¬ (i : Int) ≤ (nc : Int) := by omega
      have q1' : decide ((i : Int) ≤ (nc : Int)) = false := by simp; omega
      go_wp2_with (with_reducible refine h_A ?_)
      refine haw.mono ?_
      rintro e w3 ⟨rfl, hB3⟩
      go_wp2_with (with_reducible refine h_A ?_)
      go_ret
      exact ⟨rfl, hBw.trans (hB3.mono hBw.size)⟩
end Go.PH
end

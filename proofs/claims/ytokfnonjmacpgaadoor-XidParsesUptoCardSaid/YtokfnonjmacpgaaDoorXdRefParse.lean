/- The walk of the document's Parse of names. -/
import Derived.Test.YtokfnonjmacpgaaDoorXdRefParseMath
import Derived.Test.YtokfnonjmacpgaaDoorXdText
import Derived.Deep.CutBlock
import Derived.Deep.DeepCutAuto
import Derived.Deep.LoopGhost
set_option linter.all false
set_option linter.unusedSimpArgs false
set_option linter.unusedVariables false
namespace Go.PH
open Go.RowKit Go.Proofs

set_option maxRecDepth 20000 in
set_option maxHeartbeats 4000000 in
theorem rparse_any (l : List UInt8) (w : World) (hl : l.length ≤ 35184372088832) :
    Calls Tryd.prog 12 #[.string (str l)] w fun e w' => e = .returned (.tuple #[.agg (xdV (parseR l).1), .int .i64 ((parseR l).2 : Nat)]) ∧ Below w.heap.size w w' := by
  obtain ⟨L, hL⟩ : ∃ L, L = l.length := ⟨_, rfl⟩
  have hss : (str l).size = L := by rw [str_size]; exact hL.symm
  rw [← hL] at hl
  have HL := Lib.hid hL
  clear hL
  have hB0 : Below w.heap.size w (w.alloc (.cells zx 24)) := (Below.refl _ _).alloc (Nat.le_refl _) _
  have hb0 : Box (w.alloc (.cells zx 24)) w.heap.size 24 zx := Box.new _ _ _
  obtain ⟨w0, hw0⟩ : ∃ w0, w0 = w.alloc (.cells zx 24) := ⟨_, rfl⟩
  rw [← hw0] at hB0 hb0
  rw [zx_eq] at hw0
  go_enter Tryd.func12, Tryd.ntmps12
  go_upto_block 0 with fail
  rw [← hw0]
  clear hw0
  go_cut [4, 5] (fun s4 s5 wx => w0 = wx ∧ ∃ n k : Nat, k ≤ L ∧ n < 68719476736 ∧ s4 = .int .u64 n ∧ s5 = .int .i64 k ∧ Hid (dq 0 l = (n, k)))
  case first =>
    go_wp2_with fail
    go_loopg [4, 5] L (fun g s4 s5 wx => w0 = wx ∧ ∃ n k : Nat, k ≤ L ∧ n < 68719476736 ∧ g = L - k ∧ s4 = .int .u64 n ∧ s5 = .int .i64 k ∧ Hid (DqSt l k n))
    case atStart => exact ⟨rfl, 0, 0, Nat.zero_le _, by omega, rfl, rfl, rfl, Lib.hid (DqSt.start l)⟩
    case round =>
      obtain ⟨rfl, n, k, hk, hn, rfl, rfl, rfl, HD⟩ := hrel
      by_cases hlt : k < L
      · have hkn : (k : Int) < (L : Int) := by omega
        have hkl : k < l.length := by rw [← HL.out]; exact hlt
        have hx : (((str l)[k]'(by rw [hss]; exact hlt)).toNat : Int) = (l[k].toNat : Int) := rfl
        have HSTOP := fun h => Lib.hid (DqSt.stop HD.out hkl h)
        have HSTEP := fun h1 h2 => Lib.hid (DqSt.step HD.out hkl h1 h2)
        have hdg : isDig l[k] = (decide (48 ≤ l[k].toNat) && decide (l[k].toNat ≤ 57)) := rfl
        generalize isDig l[k] = dg at *
        generalize l[k].toNat = x at *
        by_cases h1 : 48 ≤ x
        · have d1 : (48 : Int) ≤ (x : Int) := by omega
          by_cases h2 : x ≤ 57
          · have d2 : (x : Int) ≤ 57 := by omega
            by_cases h3 : n < 4294967296
            · have d3 : (n : Int) < 4294967296 := by omega
              have HS := HSTEP (by rw [hdg]; simp [h1, h2]) h3
              obtain ⟨n10, hn10⟩ : ∃ n10, n10 = 10 * n := ⟨_, rfl⟩
              obtain ⟨y, hy⟩ : ∃ y, y = x - 48 := ⟨_, rfl⟩
              obtain ⟨m, hm⟩ : ∃ m, m = n10 + y := ⟨_, rfl⟩
              have hw1 : IntKind.u64.wrap (10 * (n : Int)) = (n10 : Int) := by rw [IntWalk.u64_in _ ⟨by omega, by omega⟩]; omega
              have hw2 : IntKind.u8.wrap ((x : Int) - 48) = (y : Int) := by rw [IntWalk.u8_in _ ⟨by omega, by omega⟩]; omega
              have hw3 : IntKind.u64.wrap (y : Int) = (y : Int) := IntWalk.u64_in _ ⟨by omega, by omega⟩
              have hw4 : IntKind.u64.wrap ((n10 : Int) + (y : Int)) = (m : Int) := by rw [IntWalk.u64_in _ ⟨by omega, by omega⟩]; omega
              rw [← hn10, ← hy, ← hm] at HS
              have hmb : m < 68719476736 := by omega
              clear hn10 hy hm hdg HSTOP HSTEP
              go_wp2
              go_roundg (L - (k + 1))
              case measure => omega
              case rel => exact ⟨rfl, m, k + 1, by omega, hmb, rfl, rfl, by first | rfl | simp, HS⟩
            · have d3 : decide ((n : Int) < 4294967296) = false := by simp; omega
              have HQ := HSTOP (fun h => h3 h.2)
              clear hdg HSTOP HSTEP
              go_wp2
              go_meet
              exact ⟨rfl, n, k, hk, hn, rfl, rfl, HQ⟩
          · have d2 : decide ((x : Int) ≤ 57) = false := by simp; omega
            have HQ := HSTOP (fun h => by rw [hdg] at h; simp at h; omega)
            clear hdg HSTOP HSTEP
            go_wp2
            go_meet
            exact ⟨rfl, n, k, hk, hn, rfl, rfl, HQ⟩
        · have d1 : decide ((48 : Int) ≤ (x : Int)) = false := by simp; omega
          have HQ := HSTOP (fun h => by rw [hdg] at h; simp at h; omega)
          clear hdg HSTOP HSTEP
          go_wp2
          go_meet
          exact ⟨rfl, n, k, hk, hn, rfl, rfl, HQ⟩
      · obtain rfl : k = L := by omega
        have HQ : Hid (dq 0 l = (n, k)) := Lib.hid (by
          have h := HD.out
          rw [HL.out] at h ⊢
          exact DqSt.fin h)
        go_wp2
        go_meet
        exact ⟨rfl, n, k, hk, hn, rfl, rfl, HQ⟩
  case rest =>
    obtain ⟨rfl, n, a, ha, hn, rfl, rfl, HD⟩ := hcut
    obtain ⟨a1, ha1⟩ : ∃ a1, a1 = a + 1 := ⟨_, rfl⟩
    have hwa : IntKind.i64.wrap ((a : Int) + 1) = (a1 : Int) := by rw [IntWalk.i64_in _ ⟨by omega, by omega⟩]; omega
    have ha1b : a1 ≤ L + 1 := by omega
    have HA1 := Lib.hid ha1
    clear ha1
    go_upto_block 2 with fail
    go_cut [6] (fun s6 wx => w0 = wx ∧ ∃ k : Nat, a1 ≤ k ∧ k ≤ L + 1 ∧ s6 = .int .i64 k ∧ Hid (a1 + sq (l.drop a1) = k))
    case first =>
      go_wp2_with fail
      go_loopg [6] (L + 1 - a1) (fun g s6 wx => w0 = wx ∧ ∃ k : Nat, a1 ≤ k ∧ k ≤ L + 1 ∧ g = L + 1 - k ∧ s6 = .int .i64 k ∧ Hid (SqSt l a1 k))
      case atStart => exact ⟨rfl, a1, Nat.le_refl _, ha1b, rfl, rfl, Lib.hid rfl⟩
      case round =>
        obtain ⟨rfl, k, hak, hk, rfl, rfl, HS⟩ := hrel
        by_cases hlt : k < L
        · have hkn : (k : Int) < (L : Int) := by omega
          have hkl : k < l.length := by rw [← HL.out]; exact hlt
          have hx : (((str l)[k]'(by rw [hss]; exact hlt)).toNat : Int) = (l[k].toNat : Int) := rfl
          by_cases hc : l[k] = 46
          · have HQ := Lib.hid (SqSt.stop HS.out hkl hc)
            have d1 : ((l[k].toNat : Int) != 46) = false := by rw [hc]; rfl
            generalize l[k].toNat = x at *
            clear hc
            go_wp2
            go_meet
            exact ⟨rfl, k, hak, hk, rfl, HQ⟩
          · have HQ := Lib.hid (SqSt.step HS.out hkl hc)
            have d1 : ((l[k].toNat : Int) != 46) = true := by
              rw [bne_iff_ne]
              intro h
              exact hc (UInt8.toNat_inj.1 (by show l[k].toNat = 46; omega))
            generalize l[k].toNat = x at *
            clear hc
            go_wp2
            go_roundg (L + 1 - (k + 1))
            case measure => omega
            case rel => exact ⟨rfl, k + 1, by omega, by omega, rfl, by first | rfl | simp, HQ⟩
        · have hd : decide ((k : Int) < (L : Int)) = false := by simp; omega
          have HQ := Lib.hid (SqSt.fin HS.out (by rw [← HL.out]; omega))
          go_wp2
          go_meet
          exact ⟨rfl, k, hak, hk, rfl, HQ⟩
    case rest =>
      obtain ⟨rfl, s, has, hs, rfl, HS⟩ := hcut
      have hpq : Hid (parseR l = if 4294967296 ≤ n ∨ L ≤ s then (xd0, 5) else
          if (unhexQ ((l.take s).drop a1)).2 = true ∧ (unhexQ (l.drop (s + 1))).2 = true ∧ Xd.ok ⟨n, (unhexQ ((l.take s).drop a1)).1, (unhexQ (l.drop (s + 1))).1⟩ = true ∧ Xd.txt ⟨n, (unhexQ ((l.take s).drop a1)).1, (unhexQ (l.drop (s + 1))).1⟩ = l then (⟨n, (unhexQ ((l.take s).drop a1)).1, (unhexQ (l.drop (s + 1))).1⟩, 0) else (xd0, 5)) := Lib.hid (by
        rw [← parseQ_eq]
        unfold parseQ
        rw [HD.out]
        simp only
        rw [← HA1.out, HS.out, ← HL.out])
      by_cases h1 : 4294967296 ≤ n
      · have d1 : (4294967296 : Int) ≤ (n : Int) := by omega
        have HF := Lib.hid (show parseR l = (xd0, 5) by rw [hpq.out, if_pos (.inl h1)])
        clear hpq
        go_wp2_with (first | (with_reducible refine hold_append ?_) | (with_reducible refine hold_make ?_) | (with_reducible refine hold_copy ?_) | (with_reducible refine hold_slice ?_) | (with_reducible refine hold_conv (s := 9) (t := 37) ?_) | (with_reducible refine hold_store ?_))
        refine unhold (wp_box (v := .agg zx) (vs := zx.toList) rfl rfl rfl rfl hb0 rfl (by kernel_rfl) (by decide) (by decide) zx rfl ?_)
        intro wz hbz hgz _
        have hBz := Below.grown hB0 hgz (Below.size hB0) (fun g hg => by injection hg with hg; omega)
        go_wp2_with (first | (with_reducible refine hold_append ?_) | (with_reducible refine hold_make ?_) | (with_reducible refine hold_copy ?_))
        (try simp only [Exit.inBlock, Exit.then])
        refine ret_box_tmp rfl hbz rfl rfl Tryd.underlying24 rfl (by kernel_rfl) rfl ?_
        rw [HF.out]
        exact ⟨rfl, hBz⟩
      · have d1 : decide ((4294967296 : Int) ≤ (n : Int)) = false := by simp; omega
        by_cases h2 : L ≤ s
        · have d2 : (L : Int) ≤ (s : Int) := by omega
          have HF := Lib.hid (show parseR l = (xd0, 5) by rw [hpq.out, if_pos (.inr h2)])
          clear hpq
          go_wp2_with (first | (with_reducible refine hold_append ?_) | (with_reducible refine hold_make ?_) | (with_reducible refine hold_copy ?_) | (with_reducible refine hold_slice ?_) | (with_reducible refine hold_conv (s := 9) (t := 37) ?_) | (with_reducible refine hold_store ?_))
          refine unhold (wp_box (v := .agg zx) (vs := zx.toList) rfl rfl rfl rfl hb0 rfl (by kernel_rfl) (by decide) (by decide) zx rfl ?_)
          intro wz hbz hgz _
          have hBz := Below.grown hB0 hgz (Below.size hB0) (fun g hg => by injection hg with hg; omega)
          go_wp2_with (first | (with_reducible refine hold_append ?_) | (with_reducible refine hold_make ?_) | (with_reducible refine hold_copy ?_))
          (try simp only [Exit.inBlock, Exit.then])
          refine ret_box_tmp rfl hbz rfl rfl Tryd.underlying24 rfl (by kernel_rfl) rfl ?_
          rw [HF.out]
          exact ⟨rfl, hBz⟩
        · have d2 : decide ((L : Int) ≤ (s : Int)) = false := by simp; omega
          have HP := Lib.hid (hpq.out.trans (if_neg (by omega)))
          clear hpq
          obtain ⟨s1, hs1⟩ : ∃ s1, s1 = s + 1 := ⟨_, rfl⟩
          have hws : IntKind.i64.wrap ((s : Int) + 1) = (s1 : Int) := by rw [IntWalk.i64_in _ ⟨by omega, by omega⟩]; omega
          have hs1b : s1 ≤ L := by omega
          rw [← hs1] at HP
          clear hs1
          have hp1 : ((l.take s).drop a1).length ≤ L := by rw [List.length_drop, List.length_take]; omega
          have hp2 : (l.drop s1).length ≤ L := by rw [List.length_drop, ← HL.out]; omega
          have hn32 : n < 4294967296 := by omega
          have hwn : IntKind.u32.wrap (n : Int) = (n : Int) := IntWalk.u32_in _ ⟨by omega, by omega⟩
          go_wp2_with (first | (with_reducible refine hold_append ?_) | (with_reducible refine hold_make ?_) | (with_reducible refine hold_copy ?_) | (with_reducible refine hold_slice ?_) | (with_reducible refine hold_conv (s := 9) (t := 37) ?_))
          refine unhold (wp_cutS Tryd.underlying9 rfl rfl rfl (l := l) a1 s (.inr ⟨_, _, rfl, rfl⟩) (.inr ⟨_, _, rfl, rfl⟩) has (by rw [← HL.out]; omega) ?_)
          generalize (l.take s).drop a1 = p1 at *
          go_wp2_with (first | (with_reducible refine hold_append ?_) | (with_reducible refine hold_make ?_) | (with_reducible refine hold_copy ?_) | (with_reducible refine hold_slice ?_) | (with_reducible refine hold_conv (s := 9) (t := 37) ?_))
          refine (rxunhex_any p1 w0 (by omega)).mono ?_
          rintro e w1 ⟨rfl, hB1⟩
          have hb1 := hb0.below hB1
          replace hB1 := hB0.trans (hB1.mono hB0.size)
          clear hb0 hB0
          have hg1 := unhexQ_len p1
          generalize (unhexQ p1).1 = g at *
          generalize (unhexQ p1).2 = go at *
          go_wp2_with (first | (with_reducible refine hold_append ?_) | (with_reducible refine hold_make ?_) | (with_reducible refine hold_copy ?_) | (with_reducible refine hold_slice ?_) | (with_reducible refine hold_conv (s := 9) (t := 37) ?_))
          refine unhold (wp_cutS Tryd.underlying9 rfl rfl rfl (l := l) s1 l.length (.inr ⟨_, _, rfl, rfl⟩) (.inl ⟨rfl, rfl⟩) (by rw [← HL.out]; omega) (Nat.le_refl _) ?_)
          rw [List.take_length]
          generalize l.drop s1 = p2 at *
          go_wp2_with (first | (with_reducible refine hold_append ?_) | (with_reducible refine hold_make ?_) | (with_reducible refine hold_copy ?_) | (with_reducible refine hold_slice ?_) | (with_reducible refine hold_conv (s := 9) (t := 37) ?_))
          refine (rxunhex_any p2 w1 (by omega)).mono ?_
          rintro e w2 ⟨rfl, hB2⟩
          have hb2 := hb1.below hB2
          replace hB2 := hB1.trans (hB2.mono hB1.size)
          clear hb1 hB1
          have hg2 := unhexQ_len p2
          generalize (unhexQ p2).1 = h at *
          generalize (unhexQ p2).2 = ho at *
          have hb3 := hb2.alloc (.cells #[.int .u32 (n : Int), .string (str g), .string (str h)] 24)
          have hbx3 : Box (w2.alloc (.cells #[.int .u32 (n : Int), .string (str g), .string (str h)] 24)) w2.heap.size 24 #[.int .u32 (n : Int), .string (str g), .string (str h)] := Box.new _ _ _
          have hB3 := hB2.alloc hB2.size (.cells #[.int .u32 (n : Int), .string (str g), .string (str h)] 24)
          have hg20 : w.heap.size < w2.heap.size := hb2.lt
          have htx := fun W => rtext_any ⟨n, g, h⟩ W ⟨hn32, by show g.length ≤ _; omega, by show h.length ≤ _; omega⟩
          unfold xdV at htx
          simp only at htx
          clear hb2 hB2
          go_wp2_with (first | (with_reducible refine hold_append ?_) | (with_reducible refine hold_make ?_) | (with_reducible refine hold_copy ?_))
          refine (htx _).mono ?_
          rintro e w4 ⟨rfl, hB4⟩
          have hb4 := hb3.below hB4
          have hbx4 := hbx3.below hB4
          replace hB4 := hB3.trans (hB4.mono hB3.size)
          clear hb3 hbx3 hB3 htx
          cases hok : Xd.ok ⟨n, g, h⟩
          · have he : Xd.err ⟨n, g, h⟩ = 40 := Xd.err_no hok
            rw [he]
            have HF := Lib.hid (show parseR l = (xd0, 5) by rw [HP.out, if_neg (by rintro ⟨_, _, h3, _⟩; rw [hok] at h3; cases h3)])
            generalize Xd.text ⟨n, g, h⟩ = tx at *
            clear HP hok he
            cases go
            · skip
              go_wp2_with (first | (with_reducible refine hold_append ?_) | (with_reducible refine hold_make ?_) | (with_reducible refine hold_copy ?_) | (with_reducible refine hold_slice ?_) | (with_reducible refine hold_conv (s := 9) (t := 37) ?_) | (with_reducible refine hold_store ?_))
              refine unhold (wp_box (v := .agg zx) (vs := zx.toList) rfl rfl rfl rfl hb4 rfl (by kernel_rfl) (by decide) (by decide) zx rfl ?_)
              intro wz hbz hgz _
              have hBz := Below.grown hB4 hgz (Below.size hB4) (fun g hg => by injection hg with hg; omega)
              go_wp2_with (first | (with_reducible refine hold_append ?_) | (with_reducible refine hold_make ?_) | (with_reducible refine hold_copy ?_))
              (try simp only [Exit.inBlock, Exit.then])
              refine ret_box_tmp rfl hbz rfl rfl Tryd.underlying24 rfl (by kernel_rfl) rfl ?_
              rw [HF.out]
              exact ⟨rfl, hBz⟩
            · cases ho
              · skip
                go_wp2_with (first | (with_reducible refine hold_append ?_) | (with_reducible refine hold_make ?_) | (with_reducible refine hold_copy ?_) | (with_reducible refine hold_slice ?_) | (with_reducible refine hold_conv (s := 9) (t := 37) ?_) | (with_reducible refine hold_store ?_))
                refine unhold (wp_box (v := .agg zx) (vs := zx.toList) rfl rfl rfl rfl hb4 rfl (by kernel_rfl) (by decide) (by decide) zx rfl ?_)
                intro wz hbz hgz _
                have hBz := Below.grown hB4 hgz (Below.size hB4) (fun g hg => by injection hg with hg; omega)
                go_wp2_with (first | (with_reducible refine hold_append ?_) | (with_reducible refine hold_make ?_) | (with_reducible refine hold_copy ?_))
                (try simp only [Exit.inBlock, Exit.then])
                refine ret_box_tmp rfl hbz rfl rfl Tryd.underlying24 rfl (by kernel_rfl) rfl ?_
                rw [HF.out]
                exact ⟨rfl, hBz⟩
              · skip
                go_wp2_with (first | (with_reducible refine hold_append ?_) | (with_reducible refine hold_make ?_) | (with_reducible refine hold_copy ?_) | (with_reducible refine hold_slice ?_) | (with_reducible refine hold_conv (s := 9) (t := 37) ?_) | (with_reducible refine hold_store ?_))
                refine unhold (wp_box (v := .agg zx) (vs := zx.toList) rfl rfl rfl rfl hb4 rfl (by kernel_rfl) (by decide) (by decide) zx rfl ?_)
                intro wz hbz hgz _
                have hBz := Below.grown hB4 hgz (Below.size hB4) (fun g hg => by injection hg with hg; omega)
                go_wp2_with (first | (with_reducible refine hold_append ?_) | (with_reducible refine hold_make ?_) | (with_reducible refine hold_copy ?_))
                (try simp only [Exit.inBlock, Exit.then])
                refine ret_box_tmp rfl hbz rfl rfl Tryd.underlying24 rfl (by kernel_rfl) rfl ?_
                rw [HF.out]
                exact ⟨rfl, hBz⟩
          · have he : Xd.err ⟨n, g, h⟩ = 0 := Xd.err_ok hok
            have htt : Xd.text ⟨n, g, h⟩ = Xd.txt ⟨n, g, h⟩ := by unfold Xd.text; rw [if_pos hok]
            rw [he, htt]
            clear he htt
            cases go
            · have HF := Lib.hid (show parseR l = (xd0, 5) by rw [HP.out, if_neg (by rintro ⟨h3, _⟩; cases h3)])
              generalize Xd.txt ⟨n, g, h⟩ = tx at *
              clear HP hok
              go_wp2_with (first | (with_reducible refine hold_append ?_) | (with_reducible refine hold_make ?_) | (with_reducible refine hold_copy ?_) | (with_reducible refine hold_slice ?_) | (with_reducible refine hold_conv (s := 9) (t := 37) ?_) | (with_reducible refine hold_store ?_))
              refine unhold (wp_box (v := .agg zx) (vs := zx.toList) rfl rfl rfl rfl hb4 rfl (by kernel_rfl) (by decide) (by decide) zx rfl ?_)
              intro wz hbz hgz _
              have hBz := Below.grown hB4 hgz (Below.size hB4) (fun g hg => by injection hg with hg; omega)
              go_wp2_with (first | (with_reducible refine hold_append ?_) | (with_reducible refine hold_make ?_) | (with_reducible refine hold_copy ?_))
              (try simp only [Exit.inBlock, Exit.then])
              refine ret_box_tmp rfl hbz rfl rfl Tryd.underlying24 rfl (by kernel_rfl) rfl ?_
              rw [HF.out]
              exact ⟨rfl, hBz⟩
            · cases ho
              · have HF := Lib.hid (show parseR l = (xd0, 5) by rw [HP.out, if_neg (by rintro ⟨_, h3, _⟩; cases h3)])
                generalize Xd.txt ⟨n, g, h⟩ = tx at *
                clear HP hok
                go_wp2_with (first | (with_reducible refine hold_append ?_) | (with_reducible refine hold_make ?_) | (with_reducible refine hold_copy ?_) | (with_reducible refine hold_slice ?_) | (with_reducible refine hold_conv (s := 9) (t := 37) ?_) | (with_reducible refine hold_store ?_))
                refine unhold (wp_box (v := .agg zx) (vs := zx.toList) rfl rfl rfl rfl hb4 rfl (by kernel_rfl) (by decide) (by decide) zx rfl ?_)
                intro wz hbz hgz _
                have hBz := Below.grown hB4 hgz (Below.size hB4) (fun g hg => by injection hg with hg; omega)
                go_wp2_with (first | (with_reducible refine hold_append ?_) | (with_reducible refine hold_make ?_) | (with_reducible refine hold_copy ?_))
                (try simp only [Exit.inBlock, Exit.then])
                refine ret_box_tmp rfl hbz rfl rfl Tryd.underlying24 rfl (by kernel_rfl) rfl ?_
                rw [HF.out]
                exact ⟨rfl, hBz⟩
              · by_cases htl : Xd.txt ⟨n, g, h⟩ = l
                · have HF := Lib.hid (show parseR l = (⟨n, g, h⟩, 0) by rw [HP.out, if_pos ⟨rfl, rfl, hok, htl⟩])
                  have q1 : ((str (Xd.txt ⟨n, g, h⟩)).toList != (str l).toList) = false := by rw [htl]; simp
                  have q2 : ((str (Xd.txt ⟨n, g, h⟩)).toList == (str l).toList) = true := by rw [htl]; simp
                  generalize Xd.txt ⟨n, g, h⟩ = tx at *
                  clear HP hok htl
                  have k0 := hbx4.cell (j := 0) rfl
                  have k1 := hbx4.cell (j := 1) rfl
                  have k2 := hbx4.cell (j := 2) rfl
                  rw [zx_eq] at hb4
                  go_wp2_with (first | (with_reducible refine hold_append ?_) | (with_reducible refine hold_make ?_) | (with_reducible refine hold_copy ?_) | (with_reducible refine hold_slice ?_) | (with_reducible refine hold_conv (s := 9) (t := 37) ?_) | (with_reducible refine hold_store ?_))
                  refine unhold (wp_box (v := .agg #[.int .u32 (n : Int), .string (str g), .string (str h)]) (vs := [.int .u32 (n : Int), .string (str g), .string (str h)]) rfl rfl rfl rfl hb4 rfl (by kernel_rfl) (by simp) (by simp; exact ⟨rfl, rfl, rfl⟩) #[.int .u32 (n : Int), .string (str g), .string (str h)] (by simp) ?_)
                  intro wz hbz hgz _
                  have hBz := Below.grown hB4 hgz (Below.size hB4) (fun g hg => by injection hg with hg; omega)
                  go_wp2_with (first | (with_reducible refine hold_append ?_) | (with_reducible refine hold_make ?_) | (with_reducible refine hold_copy ?_))
                  (try simp only [Exit.inBlock, Exit.then])
                  refine ret_box_tmp rfl hbz rfl rfl Tryd.underlying24 rfl (by kernel_rfl) rfl ?_
                  rw [HF.out]
                  exact ⟨rfl, hBz⟩
                · have q0 := str_ne htl
                  have q1 : ((str (Xd.txt ⟨n, g, h⟩)).toList != (str l).toList) = true := by simp [bne, q0]
                  have HF := Lib.hid (show parseR l = (xd0, 5) by rw [HP.out, if_neg (by rintro ⟨_, _, _, h3⟩; exact htl h3)])
                  generalize Xd.txt ⟨n, g, h⟩ = tx at *
                  clear HP hok htl
                  go_wp2_with (first | (with_reducible refine hold_append ?_) | (with_reducible refine hold_make ?_) | (with_reducible refine hold_copy ?_) | (with_reducible refine hold_slice ?_) | (with_reducible refine hold_conv (s := 9) (t := 37) ?_) | (with_reducible refine hold_store ?_))
                  refine unhold (wp_box (v := .agg zx) (vs := zx.toList) rfl rfl rfl rfl hb4 rfl (by kernel_rfl) (by decide) (by decide) zx rfl ?_)
                  intro wz hbz hgz _
                  have hBz := Below.grown hB4 hgz (Below.size hB4) (fun g hg => by injection hg with hg; omega)
                  go_wp2_with (first | (with_reducible refine hold_append ?_) | (with_reducible refine hold_make ?_) | (with_reducible refine hold_copy ?_))
                  (try simp only [Exit.inBlock, Exit.then])
                  refine ret_box_tmp rfl hbz rfl rfl Tryd.underlying24 rfl (by kernel_rfl) rfl ?_
                  rw [HF.out]
                  exact ⟨rfl, hBz⟩
end Go.PH

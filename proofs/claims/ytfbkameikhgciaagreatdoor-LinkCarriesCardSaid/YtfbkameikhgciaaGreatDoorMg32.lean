/- Texts laid together: MdArgR2, MdArgR3, MdArgR. -/
import Derived.Test.YtfbkameikhgciaaGreatDoorMg31
set_option linter.all false
set_option linter.unusedSimpArgs false
set_option linter.unusedVariables false
section
/- The walks of the document's 'arg'. -/
namespace Go.PH
open Go.RowKit Go.Proofs

set_option maxRecDepth 20000 in
set_option maxHeartbeats 4000000 in
theorem rarg_s (a : Ag) (h : AH) (w : World) (ha : RAw w a h) : Calls Tryz.prog 60 #[.int .u8 115, .agg (agV a h)] w (ArgR w (okA 115 a) (byA 115 a)) := by
 unfold agV
 obtain ⟨xb, w1, hxb, hxv, hX, hB1⟩ := alloc_stepV w #[.bool a.is, .int .u64 (a.n : Int), .string (str a.s), .int .u32 (a.x.fmt : Int), .string (str a.x.glob), .string (str a.x.bran), .slice h.A a.q.length h.c, .int .u8 (a.v.kind : Int), .int .u64 (a.v.n : Int), .string (str a.v.s), .slice h.h.A1 a.v.keys.length h.h.c1, .slice h.h.A2 a.v.list.length h.h.c2] 80
 have ha1 := ha.up hB1
 have hsv := rsame_any a.v vl0 h.h ⟨none, 0, none, 0⟩ w1 ha1.v (RV.zero _ _)
 unfold SameR vlV vl0 at hsv
 obtain ⟨sv, hsvq0⟩ : ∃ s, s = sameV a.v (.mk 0 0 [] [] []) := ⟨_, rfl⟩
 rw [← hsvq0] at hsv
 have hsvq : sameV a.v vl0 = sv := hsvq0.symm
 clear hsvq0
 obtain ⟨OK, hOK⟩ : ∃ o, o = okA 115 a := ⟨_, rfl⟩
 obtain ⟨L, hL⟩ : ∃ l, l = byA 115 a := ⟨_, rfl⟩
 rw [← hOK, ← hL]
 have HOK := Lib.hid hOK
 have HL := Lib.hid hL
 clear hOK hL
 have hss := str_size a.s
 have c_0 := hX.c0
 have c_1 := hX.c1
 have c_2 := hX.c2
 have c_3 := hX.c3
 have c_4 := hX.c4
 have c_5 := hX.c5
 have c_6 := hX.c6
 have c_7 := hX.c7
 have c_8 := hX.c8
 have c_9 := hX.c9
 have c_10 := hX.c10
 have c_11 := hX.c11
 obtain ⟨is, his⟩ : ∃ i, i = a.is := ⟨_, rfl⟩
 rw [← his] at c_0
 cases is
 ·have HIS := Lib.hid his.symm
  clear his
  obtain rfl : OK = false := by rw [HOK.out]; simp [okA, sameA, ag0, agN, agS, agX, agQ, agX2, xd0, HIS.out]
  go_enter Tryz.func60, Tryz.ntmps60
  go_upto_region 1 with fail
  rw [← hxb, ← hxv]
  clear hxb hxv
  go_wp2_with (with_reducible refine h_A ?_)
  go_ret2
  exact ⟨none, _, 0, rfl, hB1, fun e => by cases e⟩
 ·have HIS := Lib.hid his.symm
  clear his
  by_cases hn : a.n = 0
  ·have gn : ((a.n : Int) != 0) = false := by simp; omega
   have HN := Lib.hid hn
   clear hn
   by_cases hx : a.x = xd0
   ·have hgd := fun x y => run_eqGuard_agg (P := Tryz.prog) w1 .neq 73 x y #[.int .u32 (a.x.fmt : Int), .string (str a.x.glob), .string (str a.x.bran)] #[.int .u32 0, .string ⟨#[]⟩, .string ⟨#[]⟩] xid_guard
    have hne : ∀ w, (binOp .neq 73 (.agg #[.int .u32 (a.x.fmt : Int), .string (str a.x.glob), .string (str a.x.bran)]) (.agg #[.int .u32 0, .string ⟨#[]⟩, .string ⟨#[]⟩])).run Tryz.prog w = .ok (.bool false) w := fun w => by
     have := xid_neqA a.x xd0 w
     rw [decide_eq_true hx] at this
     exact this
    have HX := Lib.hid hx
    clear hx
    by_cases hq : a.q.length = 0
    ·have gq : ¬ (0 : Int) < (a.q.length : Int) := by omega
     have HQ := Lib.hid (List.length_eq_zero_iff.1 hq)
     clear hq
     cases sv
     ·have HV := Lib.hid hsvq
      clear hsvq
      obtain rfl : OK = false := by rw [HOK.out]; simp [okA, sameA, ag0, agN, agS, agX, agQ, agX2, xd0, HIS.out, HN.out, HX.out, HQ.out, HV.out]
      go_enter Tryz.func60, Tryz.ntmps60
      go_upto_region 1 with fail
      rw [← hxb, ← hxv]
      clear hxb hxv
      go_wp2_with (with_reducible refine h_A ?_)
      refine hsv.mono ?_
      rintro e w2 ⟨rfl, hB2⟩
      clear hsv
      go_wp2_with (with_reducible refine h_A ?_)
      go_ret2
      exact ⟨none, _, 0, rfl, hB1.trans (hB2.mono hB1.size), fun e => by cases e⟩
     ·have HV := Lib.hid hsvq
      clear hsvq
      obtain rfl : L = putsText [] a.s 1 := by rw [HL.out]; simp [byA]
      have HK2 : Hid (OK = decide (textErr a.s.length 1 = 0)) := Lib.hid (by rw [HOK.out]; simp [okA, sameA, ag0, agN, agS, agX, agQ, agX2, xd0, HIS.out, HN.out, HX.out, HQ.out, HV.out])
      go_enter Tryz.func60, Tryz.ntmps60
      go_upto_region 1 with fail
      rw [← hxb, ← hxv]
      clear hxb hxv
      go_wp2_with (with_reducible refine h_A ?_)
      refine hsv.mono ?_
      rintro e w2 ⟨rfl, hB2⟩
      have hX2 := hX.below hB2
      have ha2 := ha1.up hB2
      have hB12 := hB1.trans (hB2.mono hB1.size)
      have hs2 := hB12.size
      clear c_0 c_1 c_2 c_3 c_4 c_5 c_6 c_7 c_8 c_9 c_10 c_11
      clear hsv
      have c_0 := hX2.c0
      have c_1 := hX2.c1
      have c_2 := hX2.c2
      have c_3 := hX2.c3
      have c_4 := hX2.c4
      have c_5 := hX2.c5
      have c_6 := hX2.c6
      have c_7 := hX2.c7
      have c_8 := hX2.c8
      have c_9 := hX2.c9
      have c_10 := hX2.c10
      have c_11 := hX2.c11
      go_wp2_with (with_reducible refine h_A ?_)
      have hwd := fun W => rargw_any 115 1 rfl W
      have hpt := fun W => rputtext_any none 0 0 [] a.s 1 W (Rd.nil _ _ _ _ (by simp [maxLen]) _) ha2.s (by omega)
      have hS : Box w2.drew xb 80 #[.bool a.is, .int .u64 (a.n : Int), .string (str a.s), .int .u32 (a.x.fmt : Int), .string (str a.x.glob), .string (str a.x.bran), .slice h.A a.q.length h.c, .int .u8 (a.v.kind : Int), .int .u64 (a.v.n : Int), .string (str a.v.s), .slice h.h.A1 a.v.keys.length h.h.c1, .slice h.h.A2 a.v.list.length h.h.c2] := hX2
      have hB3 : Below w.heap.size w w2.drew := below_drewN hB12 1
      refine rg_start (fun W : World => Box W xb 80 #[.bool a.is, .int .u64 (a.n : Int), .string (str a.s), .int .u32 (a.x.fmt : Int), .string (str a.x.glob), .string (str a.x.bran), .slice h.A a.q.length h.c, .int .u8 (a.v.kind : Int), .int .u64 (a.v.n : Int), .string (str a.v.s), .slice h.h.A1 a.v.keys.length h.h.c1, .slice h.h.A2 a.v.list.length h.h.c2]) (by kernel_rfl) ?_
      clear hX2 ha1 ha2 hB1 hB2 hB12 hX
      clear c_0 c_1 c_2 c_3 c_4 c_5 c_6 c_7 c_8 c_9 c_10 c_11
      have hs3 := hB3.size
      generalize putsText [] a.s 1 = M at *
      generalize textErr a.s.length 1 = E at *
      generalize w2.drew = w3 at *
      refine rg_take 0 (v := ?_) rfl (by kernel_rfl) (by kernel_rfl) (by kernel_rfl) hS rfl ?_ ?_
      rotate_left
      ·intro wS hSw
       have x1 := hSw.c1
       have x2 := hSw.c2
       go_simp
       (with_reducible rfl)
      try simp only [g_S, Act.put]
      refine rg_take 1 (v := ?_) rfl (by kernel_rfl) (by kernel_rfl) (by kernel_rfl) hS rfl ?_ ?_
      rotate_left
      ·intro wS hSw
       have x1 := hSw.c1
       have x2 := hSw.c2
       go_simp
       (with_reducible rfl)
      try simp only [g_S, Act.put]
      refine rg_take 2 (v := ?_) rfl (by kernel_rfl) (by kernel_rfl) (by kernel_rfl) hS rfl ?_ ?_
      rotate_left
      ·intro wS hSw
       have x1 := hSw.c1
       have x2 := hSw.c2
       go_simp
       (with_reducible rfl)
      try simp only [g_S, Act.put]
      refine rg_one 3 rfl (by kernel_rfl) rfl (fun K hK => ?_)
      go_simp
      refine (hwd _).mono ?_
      rintro e w4 ⟨rfl, rfl⟩
      refine hK _ _ hS ?_; clear hK K
      try simp only [g_S, Act.put]
      refine rg_one 4 rfl (by kernel_rfl) rfl (fun K hK => ?_)
      go_simp
      refine (hpt _).mono ?_
      rintro e w5 ⟨A5, c5, rfl, ho5, hB5⟩
      have hS5 := hS.below hB5
      refine hK _ _ hS5 ?_; clear hK K
      try simp only [g_S, Act.put]
      refine rg_take 5 (v := ?_) rfl (by kernel_rfl) (by kernel_rfl) (by kernel_rfl) hS5 rfl ?_ ?_
      rotate_left
      ·intro wS hSw
       have x1 := hSw.c1
       have x2 := hSw.c2
       go_simp
       (with_reducible rfl)
      try simp only [g_S, Act.put]
      refine rg_take 6 (v := ?_) rfl (by kernel_rfl) (by kernel_rfl) (by kernel_rfl) hS5 rfl ?_ ?_
      rotate_left
      ·intro wS hSw
       have x1 := hSw.c1
       have x2 := hSw.c2
       go_simp
       (with_reducible rfl)
      try simp only [g_S, Act.put]
      refine rg_take 7 (v := ?_) rfl (by kernel_rfl) (by kernel_rfl) (by kernel_rfl) hS5 rfl ?_ ?_
      rotate_left
      ·intro wS hSw
       have x1 := hSw.c1
       have x2 := hSw.c2
       go_simp
       (with_reducible rfl)
      try simp only [g_S, Act.put]
      refine rg_take 8 (v := ?_) rfl (by kernel_rfl) (by kernel_rfl) (by kernel_rfl) hS5 rfl ?_ ?_
      rotate_left
      ·intro wS hSw
       have x1 := hSw.c1
       have x2 := hSw.c2
       go_simp
       (with_reducible rfl)
      try simp only [g_S, Act.put]
      refine rg_take 9 (v := ?_) rfl (by kernel_rfl) (by kernel_rfl) (by kernel_rfl) hS5 rfl ?_ ?_
      rotate_left
      ·intro wS hSw
       have x1 := hSw.c1
       have x2 := hSw.c2
       go_simp
       (with_reducible rfl)
      try simp only [g_S, Act.put]
      refine rg_end (by kernel_rfl) ?_
      go_wp2_with (with_reducible refine h_A ?_)
      go_ret2
      refine ⟨A5, _, c5, ?_, hB3.trans (hB5.mono hs3), fun _ => ⟨rfl, Own.base_le ho5 hs3⟩⟩
      rw [HK2.out]
      first | rfl | (simp; done) | (congr) | trace_state
    ·have gq : (0 : Int) < (a.q.length : Int) := by omega
     have HQ : Hid (¬ a.q = []) := Lib.hid (fun e => hq (List.length_eq_zero_iff.2 e))
     clear hq
     obtain rfl : OK = false := by rw [HOK.out]; simp [okA, sameA, ag0, agN, agS, agX, agQ, agX2, xd0, HIS.out, HN.out, HX.out, HQ.out]
     go_enter Tryz.func60, Tryz.ntmps60
     go_upto_region 1 with fail
     rw [← hxb, ← hxv]
     clear hxb hxv
     go_wp2_with (with_reducible refine h_A ?_)
     go_ret2
     exact ⟨none, _, 0, rfl, hB1, fun e => by cases e⟩
   ·have hgd := fun x y => run_eqGuard_agg (P := Tryz.prog) w1 .neq 73 x y #[.int .u32 (a.x.fmt : Int), .string (str a.x.glob), .string (str a.x.bran)] #[.int .u32 0, .string ⟨#[]⟩, .string ⟨#[]⟩] xid_guard
    have hne : ∀ w, (binOp .neq 73 (.agg #[.int .u32 (a.x.fmt : Int), .string (str a.x.glob), .string (str a.x.bran)]) (.agg #[.int .u32 0, .string ⟨#[]⟩, .string ⟨#[]⟩])).run Tryz.prog w = .ok (.bool true) w := fun w => by
     have := xid_neqA a.x xd0 w
     rw [decide_eq_false hx] at this
     exact this
    have HX : Hid (¬ a.x = ⟨0, [], []⟩) := Lib.hid hx
    clear hx
    obtain rfl : OK = false := by rw [HOK.out]; simp [okA, sameA, ag0, agN, agS, agX, agQ, agX2, xd0, HIS.out, HN.out, HX.out]
    go_enter Tryz.func60, Tryz.ntmps60
    go_upto_region 1 with fail
    rw [← hxb, ← hxv]
    clear hxb hxv
    go_wp2_with (with_reducible refine h_A ?_)
    go_ret2
    exact ⟨none, _, 0, rfl, hB1, fun e => by cases e⟩
  ·have gn : ((a.n : Int) != 0) = true := by simp; omega
   have HN := Lib.hid hn
   clear hn
   obtain rfl : OK = false := by rw [HOK.out]; simp [okA, sameA, ag0, agN, agS, agX, agQ, agX2, xd0, HIS.out, HN.out]
   go_enter Tryz.func60, Tryz.ntmps60
   go_upto_region 1 with fail
   rw [← hxb, ← hxv]
   clear hxb hxv
   go_wp2_with (with_reducible refine h_A ?_)
   go_ret2
   exact ⟨none, _, 0, rfl, hB1, fun e => by cases e⟩
set_option maxRecDepth 20000 in
set_option maxHeartbeats 4000000 in
theorem rarg_t (a : Ag) (h : AH) (w : World) (ha : RAw w a h) : Calls Tryz.prog 60 #[.int .u8 116, .agg (agV a h)] w (ArgR w (okA 116 a) (byA 116 a)) := by
 unfold agV
 obtain ⟨xb, w1, hxb, hxv, hX, hB1⟩ := alloc_stepV w #[.bool a.is, .int .u64 (a.n : Int), .string (str a.s), .int .u32 (a.x.fmt : Int), .string (str a.x.glob), .string (str a.x.bran), .slice h.A a.q.length h.c, .int .u8 (a.v.kind : Int), .int .u64 (a.v.n : Int), .string (str a.v.s), .slice h.h.A1 a.v.keys.length h.h.c1, .slice h.h.A2 a.v.list.length h.h.c2] 80
 have ha1 := ha.up hB1
 have hsv := rsame_any a.v vl0 h.h ⟨none, 0, none, 0⟩ w1 ha1.v (RV.zero _ _)
 unfold SameR vlV vl0 at hsv
 obtain ⟨sv, hsvq0⟩ : ∃ s, s = sameV a.v (.mk 0 0 [] [] []) := ⟨_, rfl⟩
 rw [← hsvq0] at hsv
 have hsvq : sameV a.v vl0 = sv := hsvq0.symm
 clear hsvq0
 obtain ⟨OK, hOK⟩ : ∃ o, o = okA 116 a := ⟨_, rfl⟩
 obtain ⟨L, hL⟩ : ∃ l, l = byA 116 a := ⟨_, rfl⟩
 rw [← hOK, ← hL]
 have HOK := Lib.hid hOK
 have HL := Lib.hid hL
 clear hOK hL
 have hss := str_size a.s
 have c_0 := hX.c0
 have c_1 := hX.c1
 have c_2 := hX.c2
 have c_3 := hX.c3
 have c_4 := hX.c4
 have c_5 := hX.c5
 have c_6 := hX.c6
 have c_7 := hX.c7
 have c_8 := hX.c8
 have c_9 := hX.c9
 have c_10 := hX.c10
 have c_11 := hX.c11
 obtain ⟨is, his⟩ : ∃ i, i = a.is := ⟨_, rfl⟩
 rw [← his] at c_0
 cases is
 ·have HIS := Lib.hid his.symm
  clear his
  obtain rfl : OK = false := by rw [HOK.out]; simp [okA, sameA, ag0, agN, agS, agX, agQ, agX2, xd0, HIS.out]
  go_enter Tryz.func60, Tryz.ntmps60
  go_upto_region 1 with fail
  rw [← hxb, ← hxv]
  clear hxb hxv
  go_wp2_with (with_reducible refine h_A ?_)
  go_ret2
  exact ⟨none, _, 0, rfl, hB1, fun e => by cases e⟩
 ·have HIS := Lib.hid his.symm
  clear his
  by_cases hn : a.n = 0
  ·have gn : ((a.n : Int) != 0) = false := by simp; omega
   have HN := Lib.hid hn
   clear hn
   by_cases hx : a.x = xd0
   ·have hgd := fun x y => run_eqGuard_agg (P := Tryz.prog) w1 .neq 73 x y #[.int .u32 (a.x.fmt : Int), .string (str a.x.glob), .string (str a.x.bran)] #[.int .u32 0, .string ⟨#[]⟩, .string ⟨#[]⟩] xid_guard
    have hne : ∀ w, (binOp .neq 73 (.agg #[.int .u32 (a.x.fmt : Int), .string (str a.x.glob), .string (str a.x.bran)]) (.agg #[.int .u32 0, .string ⟨#[]⟩, .string ⟨#[]⟩])).run Tryz.prog w = .ok (.bool false) w := fun w => by
     have := xid_neqA a.x xd0 w
     rw [decide_eq_true hx] at this
     exact this
    have HX := Lib.hid hx
    clear hx
    by_cases hq : a.q.length = 0
    ·have gq : ¬ (0 : Int) < (a.q.length : Int) := by omega
     have HQ := Lib.hid (List.length_eq_zero_iff.1 hq)
     clear hq
     cases sv
     ·have HV := Lib.hid hsvq
      clear hsvq
      obtain rfl : OK = false := by rw [HOK.out]; simp [okA, sameA, ag0, agN, agS, agX, agQ, agX2, xd0, HIS.out, HN.out, HX.out, HQ.out, HV.out]
      go_enter Tryz.func60, Tryz.ntmps60
      go_upto_region 1 with fail
      rw [← hxb, ← hxv]
      clear hxb hxv
      go_wp2_with (with_reducible refine h_A ?_)
      refine hsv.mono ?_
      rintro e w2 ⟨rfl, hB2⟩
      clear hsv
      go_wp2_with (with_reducible refine h_A ?_)
      go_ret2
      exact ⟨none, _, 0, rfl, hB1.trans (hB2.mono hB1.size), fun e => by cases e⟩
     ·have HV := Lib.hid hsvq
      clear hsvq
      obtain rfl : L = putsText [] a.s 2 := by rw [HL.out]; simp [byA]
      have HK2 : Hid (OK = decide (textErr a.s.length 2 = 0)) := Lib.hid (by rw [HOK.out]; simp [okA, sameA, ag0, agN, agS, agX, agQ, agX2, xd0, HIS.out, HN.out, HX.out, HQ.out, HV.out])
      go_enter Tryz.func60, Tryz.ntmps60
      go_upto_region 1 with fail
      rw [← hxb, ← hxv]
      clear hxb hxv
      go_wp2_with (with_reducible refine h_A ?_)
      refine hsv.mono ?_
      rintro e w2 ⟨rfl, hB2⟩
      have hX2 := hX.below hB2
      have ha2 := ha1.up hB2
      have hB12 := hB1.trans (hB2.mono hB1.size)
      have hs2 := hB12.size
      clear c_0 c_1 c_2 c_3 c_4 c_5 c_6 c_7 c_8 c_9 c_10 c_11
      clear hsv
      have c_0 := hX2.c0
      have c_1 := hX2.c1
      have c_2 := hX2.c2
      have c_3 := hX2.c3
      have c_4 := hX2.c4
      have c_5 := hX2.c5
      have c_6 := hX2.c6
      have c_7 := hX2.c7
      have c_8 := hX2.c8
      have c_9 := hX2.c9
      have c_10 := hX2.c10
      have c_11 := hX2.c11
      go_wp2_with (with_reducible refine h_A ?_)
      have hwd := fun W => rargw_any 116 2 rfl W
      have hpt := fun W => rputtext_any none 0 0 [] a.s 2 W (Rd.nil _ _ _ _ (by simp [maxLen]) _) ha2.s (by omega)
      have hS : Box w2.drew xb 80 #[.bool a.is, .int .u64 (a.n : Int), .string (str a.s), .int .u32 (a.x.fmt : Int), .string (str a.x.glob), .string (str a.x.bran), .slice h.A a.q.length h.c, .int .u8 (a.v.kind : Int), .int .u64 (a.v.n : Int), .string (str a.v.s), .slice h.h.A1 a.v.keys.length h.h.c1, .slice h.h.A2 a.v.list.length h.h.c2] := hX2
      have hB3 : Below w.heap.size w w2.drew := below_drewN hB12 1
      refine rg_start (fun W : World => Box W xb 80 #[.bool a.is, .int .u64 (a.n : Int), .string (str a.s), .int .u32 (a.x.fmt : Int), .string (str a.x.glob), .string (str a.x.bran), .slice h.A a.q.length h.c, .int .u8 (a.v.kind : Int), .int .u64 (a.v.n : Int), .string (str a.v.s), .slice h.h.A1 a.v.keys.length h.h.c1, .slice h.h.A2 a.v.list.length h.h.c2]) (by kernel_rfl) ?_
      clear hX2 ha1 ha2 hB1 hB2 hB12 hX
      clear c_0 c_1 c_2 c_3 c_4 c_5 c_6 c_7 c_8 c_9 c_10 c_11
      have hs3 := hB3.size
      generalize putsText [] a.s 2 = M at *
      generalize textErr a.s.length 2 = E at *
      generalize w2.drew = w3 at *
      refine rg_take 0 (v := ?_) rfl (by kernel_rfl) (by kernel_rfl) (by kernel_rfl) hS rfl ?_ ?_
      rotate_left
      ·intro wS hSw
       have x1 := hSw.c1
       have x2 := hSw.c2
       go_simp
       (with_reducible rfl)
      try simp only [g_S, Act.put]
      refine rg_take 1 (v := ?_) rfl (by kernel_rfl) (by kernel_rfl) (by kernel_rfl) hS rfl ?_ ?_
      rotate_left
      ·intro wS hSw
       have x1 := hSw.c1
       have x2 := hSw.c2
       go_simp
       (with_reducible rfl)
      try simp only [g_S, Act.put]
      refine rg_take 2 (v := ?_) rfl (by kernel_rfl) (by kernel_rfl) (by kernel_rfl) hS rfl ?_ ?_
      rotate_left
      ·intro wS hSw
       have x1 := hSw.c1
       have x2 := hSw.c2
       go_simp
       (with_reducible rfl)
      try simp only [g_S, Act.put]
      refine rg_one 3 rfl (by kernel_rfl) rfl (fun K hK => ?_)
      go_simp
      refine (hwd _).mono ?_
      rintro e w4 ⟨rfl, rfl⟩
      refine hK _ _ hS ?_; clear hK K
      try simp only [g_S, Act.put]
      refine rg_one 4 rfl (by kernel_rfl) rfl (fun K hK => ?_)
      go_simp
      refine (hpt _).mono ?_
      rintro e w5 ⟨A5, c5, rfl, ho5, hB5⟩
      have hS5 := hS.below hB5
      refine hK _ _ hS5 ?_; clear hK K
      try simp only [g_S, Act.put]
      refine rg_take 5 (v := ?_) rfl (by kernel_rfl) (by kernel_rfl) (by kernel_rfl) hS5 rfl ?_ ?_
      rotate_left
      ·intro wS hSw
       have x1 := hSw.c1
       have x2 := hSw.c2
       go_simp
       (with_reducible rfl)
      try simp only [g_S, Act.put]
      refine rg_take 6 (v := ?_) rfl (by kernel_rfl) (by kernel_rfl) (by kernel_rfl) hS5 rfl ?_ ?_
      rotate_left
      ·intro wS hSw
       have x1 := hSw.c1
       have x2 := hSw.c2
       go_simp
       (with_reducible rfl)
      try simp only [g_S, Act.put]
      refine rg_take 7 (v := ?_) rfl (by kernel_rfl) (by kernel_rfl) (by kernel_rfl) hS5 rfl ?_ ?_
      rotate_left
      ·intro wS hSw
       have x1 := hSw.c1
       have x2 := hSw.c2
       go_simp
       (with_reducible rfl)
      try simp only [g_S, Act.put]
      refine rg_take 8 (v := ?_) rfl (by kernel_rfl) (by kernel_rfl) (by kernel_rfl) hS5 rfl ?_ ?_
      rotate_left
      ·intro wS hSw
       have x1 := hSw.c1
       have x2 := hSw.c2
       go_simp
       (with_reducible rfl)
      try simp only [g_S, Act.put]
      refine rg_take 9 (v := ?_) rfl (by kernel_rfl) (by kernel_rfl) (by kernel_rfl) hS5 rfl ?_ ?_
      rotate_left
      ·intro wS hSw
       have x1 := hSw.c1
       have x2 := hSw.c2
       go_simp
       (with_reducible rfl)
      try simp only [g_S, Act.put]
      refine rg_end (by kernel_rfl) ?_
      go_wp2_with (with_reducible refine h_A ?_)
      go_ret2
      refine ⟨A5, _, c5, ?_, hB3.trans (hB5.mono hs3), fun _ => ⟨rfl, Own.base_le ho5 hs3⟩⟩
      rw [HK2.out]
      first | rfl | (simp; done) | (congr) | trace_state
    ·have gq : (0 : Int) < (a.q.length : Int) := by omega
     have HQ : Hid (¬ a.q = []) := Lib.hid (fun e => hq (List.length_eq_zero_iff.2 e))
     clear hq
     obtain rfl : OK = false := by rw [HOK.out]; simp [okA, sameA, ag0, agN, agS, agX, agQ, agX2, xd0, HIS.out, HN.out, HX.out, HQ.out]
     go_enter Tryz.func60, Tryz.ntmps60
     go_upto_region 1 with fail
     rw [← hxb, ← hxv]
     clear hxb hxv
     go_wp2_with (with_reducible refine h_A ?_)
     go_ret2
     exact ⟨none, _, 0, rfl, hB1, fun e => by cases e⟩
   ·have hgd := fun x y => run_eqGuard_agg (P := Tryz.prog) w1 .neq 73 x y #[.int .u32 (a.x.fmt : Int), .string (str a.x.glob), .string (str a.x.bran)] #[.int .u32 0, .string ⟨#[]⟩, .string ⟨#[]⟩] xid_guard
    have hne : ∀ w, (binOp .neq 73 (.agg #[.int .u32 (a.x.fmt : Int), .string (str a.x.glob), .string (str a.x.bran)]) (.agg #[.int .u32 0, .string ⟨#[]⟩, .string ⟨#[]⟩])).run Tryz.prog w = .ok (.bool true) w := fun w => by
     have := xid_neqA a.x xd0 w
     rw [decide_eq_false hx] at this
     exact this
    have HX : Hid (¬ a.x = ⟨0, [], []⟩) := Lib.hid hx
    clear hx
    obtain rfl : OK = false := by rw [HOK.out]; simp [okA, sameA, ag0, agN, agS, agX, agQ, agX2, xd0, HIS.out, HN.out, HX.out]
    go_enter Tryz.func60, Tryz.ntmps60
    go_upto_region 1 with fail
    rw [← hxb, ← hxv]
    clear hxb hxv
    go_wp2_with (with_reducible refine h_A ?_)
    go_ret2
    exact ⟨none, _, 0, rfl, hB1, fun e => by cases e⟩
  ·have gn : ((a.n : Int) != 0) = true := by simp; omega
   have HN := Lib.hid hn
   clear hn
   obtain rfl : OK = false := by rw [HOK.out]; simp [okA, sameA, ag0, agN, agS, agX, agQ, agX2, xd0, HIS.out, HN.out]
   go_enter Tryz.func60, Tryz.ntmps60
   go_upto_region 1 with fail
   rw [← hxb, ← hxv]
   clear hxb hxv
   go_wp2_with (with_reducible refine h_A ?_)
   go_ret2
   exact ⟨none, _, 0, rfl, hB1, fun e => by cases e⟩
end Go.PH
end
section
/- The walks of the document's 'arg'. -/
namespace Go.PH
open Go.RowKit Go.Proofs

end Go.PH
end
section
/- The document's 'arg' at any argument. -/
namespace Go.PH
open Go.RowKit Go.Proofs
end Go.PH
end

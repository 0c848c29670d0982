/- Texts laid together: MdArgR3, MdArgR. -/
import Derived.Test.YtidpbbleneekgaaGreatDoorMg26
import Derived.Test.YtidpbbleneekgaaGreatDoorMg27
import Derived.Test.YtidpbbleneekgaaGreatDoorMg28
set_option linter.all false
set_option linter.unusedSimpArgs false
set_option linter.unusedVariables false
section
/- The walks of the document's 'arg'. -/
namespace Go.PH
open Go.RowKit Go.Proofs

set_option maxRecDepth 20000 in
set_option maxHeartbeats 4000000 in
theorem rarg_x (a : Ag) (h : AH) (w : World) (ha : RAw w a h) : Calls Tryz.prog 33 #[.int .u8 120, .agg (agV a h)] w (ArgR w (okA 120 a) (byA 120 a)) := by
 unfold agV
 obtain ⟨xb, w1, hxb, hxv, hX, hB1⟩ := alloc_stepV w #[.bool a.is, .int .u64 (a.n : Int), .string (str a.s), .int .u32 (a.x.fmt : Int), .string (str a.x.glob), .string (str a.x.bran), .slice h.A a.q.length h.c, .int .u8 (a.v.kind : Int), .int .u64 (a.v.n : Int), .string (str a.v.s), .slice h.h.A1 a.v.keys.length h.h.c1, .slice h.h.A2 a.v.list.length h.h.c2] 52
 have ha1 := ha.up hB1
 have hsv := rsame_any a.v vl0 h.h ⟨none, 0, none, 0⟩ w1 ha1.v (RV.zero _ _)
 unfold SameR vlV vl0 at hsv
 obtain ⟨sv, hsvq0⟩ : ∃ s, s = sameV a.v (.mk 0 0 [] [] []) := ⟨_, rfl⟩
 rw [← hsvq0] at hsv
 have hsvq : sameV a.v vl0 = sv := hsvq0.symm
 clear hsvq0
 obtain ⟨OK, hOK⟩ : ∃ o, o = okA 120 a := ⟨_, rfl⟩
 obtain ⟨L, hL⟩ : ∃ l, l = byA 120 a := ⟨_, rfl⟩
 rw [← hOK, ← hL]
 have HOK := Lib.hid hOK
 have HL := Lib.hid hL
 clear hOK hL
 have hss := str_size a.s
 have c_0 := hX.c0
 have c_1 := hX.c1
 have c_2 := hX.c2
 have c_3 := hX.c3
 have c_4 := hX.c4
 have c_5 := hX.c5
 have c_6 := hX.c6
 have c_7 := hX.c7
 have c_8 := hX.c8
 have c_9 := hX.c9
 have c_10 := hX.c10
 have c_11 := hX.c11
 obtain ⟨is, his⟩ : ∃ i, i = a.is := ⟨_, rfl⟩
 rw [← his] at c_0
 cases is
 ·have HIS := Lib.hid his.symm
  clear his
  obtain rfl : OK = false := by rw [HOK.out]; simp [okA, sameA, ag0, agN, agS, agX, agQ, agX2, xd0, HIS.out]
  go_enter Tryz.func33, Tryz.ntmps33
  go_upto_region 1 with fail
  rw [← hxb, ← hxv]
  clear hxb hxv
  go_wp2_with (with_reducible refine h_A ?_)
  go_ret2
  exact ⟨none, _, 0, rfl, hB1, fun e => by cases e⟩
 ·have HIS := Lib.hid his.symm
  clear his
  by_cases hn : a.n = 0
  ·have gn : ((a.n : Int) != 0) = false := by simp; omega
   have HN := Lib.hid hn
   clear hn
   by_cases hs : a.s = []
   ·have gs : ((str a.s).toList != []) = false := by rw [str_toList, hs]; simp
    have gs2 : (str a.s).toList.isEmpty = true := by rw [str_toList, hs]; rfl
    have HS := Lib.hid hs
    clear hs
    by_cases hq : a.q.length = 0
    ·have gq : ¬ (0 : Int) < (a.q.length : Int) := by omega
     have HQ := Lib.hid (List.length_eq_zero_iff.1 hq)
     clear hq
     cases sv
     ·have HV := Lib.hid hsvq
      clear hsvq
      obtain rfl : OK = false := by rw [HOK.out]; simp [okA, sameA, ag0, agN, agS, agX, agQ, agX2, xd0, HIS.out, HN.out, HS.out, HQ.out, HV.out]
      go_enter Tryz.func33, Tryz.ntmps33
      go_upto_region 1 with fail
      rw [← hxb, ← hxv]
      clear hxb hxv
      go_wp2_with (with_reducible refine h_A ?_)
      refine hsv.mono ?_
      rintro e w2 ⟨rfl, hB2⟩
      clear hsv
      go_wp2_with (with_reducible refine h_A ?_)
      go_ret2
      exact ⟨none, _, 0, rfl, hB1.trans (hB2.mono hB1.size), fun e => by cases e⟩
     ·have HV := Lib.hid hsvq
      clear hsvq
      obtain rfl : L = a.x.put := by rw [HL.out]; simp [byA]
      have HK2 : Hid (OK = decide (((a.x.err : Nat) : Int) = 0)) := Lib.hid (by rw [HOK.out]; simp [okA, sameA, ag0, agN, agS, agX, agQ, agX2, xd0, HIS.out, HN.out, HS.out, HQ.out, HV.out])
      go_enter Tryz.func33, Tryz.ntmps33
      go_upto_region 1 with fail
      rw [← hxb, ← hxv]
      clear hxb hxv
      go_wp2_with (with_reducible refine h_A ?_)
      refine hsv.mono ?_
      rintro e w2 ⟨rfl, hB2⟩
      have hX2 := hX.below hB2
      have ha2 := ha1.up hB2
      have hB12 := hB1.trans (hB2.mono hB1.size)
      have hs2 := hB12.size
      clear c_0 c_1 c_2 c_3 c_4 c_5 c_6 c_7 c_8 c_9 c_10 c_11
      clear hsv
      have c_0 := hX2.c0
      have c_1 := hX2.c1
      have c_2 := hX2.c2
      have c_3 := hX2.c3
      have c_4 := hX2.c4
      have c_5 := hX2.c5
      have c_6 := hX2.c6
      have c_7 := hX2.c7
      have c_8 := hX2.c8
      have c_9 := hX2.c9
      have c_10 := hX2.c10
      have c_11 := hX2.c11
      have hp := rxdput_any a.x w2 ha2.x
      unfold xdV at hp
      generalize a.x.put = M at *
      generalize ((a.x.err : Nat) : Int) = E at *
      clear ha1 ha2
      go_wp2_with (with_reducible refine h_A ?_)
      refine hp.mono ?_
      rintro e w3 ⟨A3, c3, rfl, ho3, hB3⟩
      clear hp
      clear c_0 c_1 c_2 c_3 c_4 c_5 c_6 c_7 c_8 c_9 c_10 c_11
      go_wp2_with (with_reducible refine h_A ?_)
      go_ret2
      refine ⟨A3, _, c3, ?_, hB12.trans (hB3.mono hs2), fun _ => ⟨rfl, Own.base_le ho3 hs2⟩⟩
      rw [HK2.out]
      first | rfl | (simp; done) | (congr)
    ·have gq : (0 : Int) < (a.q.length : Int) := by omega
     have HQ : Hid (¬ a.q = []) := Lib.hid (fun e => hq (List.length_eq_zero_iff.2 e))
     clear hq
     obtain rfl : OK = false := by rw [HOK.out]; simp [okA, sameA, ag0, agN, agS, agX, agQ, agX2, xd0, HIS.out, HN.out, HS.out, HQ.out]
     go_enter Tryz.func33, Tryz.ntmps33
     go_upto_region 1 with fail
     rw [← hxb, ← hxv]
     clear hxb hxv
     go_wp2_with (with_reducible refine h_A ?_)
     go_ret2
     exact ⟨none, _, 0, rfl, hB1, fun e => by cases e⟩
   ·have gs : ((str a.s).toList != []) = true := by rw [str_toList]; simpa using hs
    have gs2 : (str a.s).toList.isEmpty = false := by rw [str_toList]; simpa using hs
    have HS := Lib.hid hs
    clear hs
    obtain rfl : OK = false := by rw [HOK.out]; simp [okA, sameA, ag0, agN, agS, agX, agQ, agX2, xd0, HIS.out, HN.out, HS.out]
    go_enter Tryz.func33, Tryz.ntmps33
    go_upto_region 1 with fail
    rw [← hxb, ← hxv]
    clear hxb hxv
    go_wp2_with (with_reducible refine h_A ?_)
    go_ret2
    exact ⟨none, _, 0, rfl, hB1, fun e => by cases e⟩
  ·have gn : ((a.n : Int) != 0) = true := by simp; omega
   have HN := Lib.hid hn
   clear hn
   obtain rfl : OK = false := by rw [HOK.out]; simp [okA, sameA, ag0, agN, agS, agX, agQ, agX2, xd0, HIS.out, HN.out]
   go_enter Tryz.func33, Tryz.ntmps33
   go_upto_region 1 with fail
   rw [← hxb, ← hxv]
   clear hxb hxv
   go_wp2_with (with_reducible refine h_A ?_)
   go_ret2
   exact ⟨none, _, 0, rfl, hB1, fun e => by cases e⟩
set_option maxRecDepth 20000 in
set_option maxHeartbeats 4000000 in
theorem rarg_r (a : Ag) (h : AH) (w : World) (ha : RAw w a h) : Calls Tryz.prog 33 #[.int .u8 114, .agg (agV a h)] w (ArgR w (okA 114 a) (byA 114 a)) := by
 unfold agV
 obtain ⟨xb, w1, hxb, hxv, hX, hB1⟩ := alloc_stepV w #[.bool a.is, .int .u64 (a.n : Int), .string (str a.s), .int .u32 (a.x.fmt : Int), .string (str a.x.glob), .string (str a.x.bran), .slice h.A a.q.length h.c, .int .u8 (a.v.kind : Int), .int .u64 (a.v.n : Int), .string (str a.v.s), .slice h.h.A1 a.v.keys.length h.h.c1, .slice h.h.A2 a.v.list.length h.h.c2] 52
 have ha1 := ha.up hB1
 have hsv := rsame_any a.v vl0 h.h ⟨none, 0, none, 0⟩ w1 ha1.v (RV.zero _ _)
 unfold SameR vlV vl0 at hsv
 obtain ⟨sv, hsvq0⟩ : ∃ s, s = sameV a.v (.mk 0 0 [] [] []) := ⟨_, rfl⟩
 rw [← hsvq0] at hsv
 have hsvq : sameV a.v vl0 = sv := hsvq0.symm
 clear hsvq0
 obtain ⟨OK, hOK⟩ : ∃ o, o = okA 114 a := ⟨_, rfl⟩
 obtain ⟨L, hL⟩ : ∃ l, l = byA 114 a := ⟨_, rfl⟩
 rw [← hOK, ← hL]
 have HOK := Lib.hid hOK
 have HL := Lib.hid hL
 clear hOK hL
 have hss := str_size a.s
 have c_0 := hX.c0
 have c_1 := hX.c1
 have c_2 := hX.c2
 have c_3 := hX.c3
 have c_4 := hX.c4
 have c_5 := hX.c5
 have c_6 := hX.c6
 have c_7 := hX.c7
 have c_8 := hX.c8
 have c_9 := hX.c9
 have c_10 := hX.c10
 have c_11 := hX.c11
 obtain ⟨is, his⟩ : ∃ i, i = a.is := ⟨_, rfl⟩
 rw [← his] at c_0
 cases is
 ·have HIS := Lib.hid his.symm
  clear his
  obtain rfl : OK = false := by rw [HOK.out]; simp [okA, sameA, ag0, agN, agS, agX, agQ, agX2, xd0, HIS.out]
  go_enter Tryz.func33, Tryz.ntmps33
  go_upto_region 1 with fail
  rw [← hxb, ← hxv]
  clear hxb hxv
  go_wp2_with (with_reducible refine h_A ?_)
  go_ret2
  exact ⟨none, _, 0, rfl, hB1, fun e => by cases e⟩
 ·have HIS := Lib.hid his.symm
  clear his
  by_cases hn : a.n = 0
  ·have gn : ((a.n : Int) != 0) = false := by simp; omega
   have HN := Lib.hid hn
   clear hn
   by_cases hs : a.s = []
   ·have gs : ((str a.s).toList != []) = false := by rw [str_toList, hs]; simp
    have gs2 : (str a.s).toList.isEmpty = true := by rw [str_toList, hs]; rfl
    have HS := Lib.hid hs
    clear hs
    by_cases hx : a.x = xd0
    ·have hgd := fun x y => run_eqGuard_agg (P := Tryz.prog) w1 .neq 44 x y #[.int .u32 (a.x.fmt : Int), .string (str a.x.glob), .string (str a.x.bran)] #[.int .u32 0, .string ⟨#[]⟩, .string ⟨#[]⟩] xid_guard
     have hne : ∀ w, (binOp .neq 44 (.agg #[.int .u32 (a.x.fmt : Int), .string (str a.x.glob), .string (str a.x.bran)]) (.agg #[.int .u32 0, .string ⟨#[]⟩, .string ⟨#[]⟩])).run Tryz.prog w = .ok (.bool false) w := fun w => by
      have := xid_neqA a.x xd0 w
      rw [decide_eq_true hx] at this
      exact this
     have HX := Lib.hid hx
     clear hx
     cases sv
     ·have HV := Lib.hid hsvq
      clear hsvq
      obtain rfl : OK = false := by rw [HOK.out]; simp [okA, sameA, ag0, agN, agS, agX, agQ, agX2, xd0, HIS.out, HN.out, HS.out, HX.out, HV.out]
      go_enter Tryz.func33, Tryz.ntmps33
      go_upto_region 1 with fail
      rw [← hxb, ← hxv]
      clear hxb hxv
      go_wp2_with (with_reducible refine h_A ?_)
      refine hsv.mono ?_
      rintro e w2 ⟨rfl, hB2⟩
      clear hsv
      go_wp2_with (with_reducible refine h_A ?_)
      go_ret2
      exact ⟨none, _, 0, rfl, hB1.trans (hB2.mono hB1.size), fun e => by cases e⟩
     ·have HV := Lib.hid hsvq
      clear hsvq
      obtain rfl : L = spPut a.q := by rw [HL.out]; simp [byA]
      have HK2 : Hid (OK = decide (((spPutErr a.q : Nat) : Int) = 0)) := Lib.hid (by rw [HOK.out]; simp [okA, sameA, ag0, agN, agS, agX, agQ, agX2, xd0, HIS.out, HN.out, HS.out, HX.out, HV.out])
      go_enter Tryz.func33, Tryz.ntmps33
      go_upto_region 1 with fail
      rw [← hxb, ← hxv]
      clear hxb hxv
      go_wp2_with (with_reducible refine h_A ?_)
      refine hsv.mono ?_
      rintro e w2 ⟨rfl, hB2⟩
      have hX2 := hX.below hB2
      have ha2 := ha1.up hB2
      have hB12 := hB1.trans (hB2.mono hB1.size)
      have hs2 := hB12.size
      clear c_0 c_1 c_2 c_3 c_4 c_5 c_6 c_7 c_8 c_9 c_10 c_11
      clear hsv
      have c_0 := hX2.c0
      have c_1 := hX2.c1
      have c_2 := hX2.c2
      have c_3 := hX2.c3
      have c_4 := hX2.c4
      have c_5 := hX2.c5
      have c_6 := hX2.c6
      have c_7 := hX2.c7
      have c_8 := hX2.c8
      have c_9 := hX2.c9
      have c_10 := hX2.c10
      have c_11 := hX2.c11
      have hp := rspput_any h.A a.q.length h.c a.q w2.heap.size w2 ha2.q.1 ha2.ok (Nat.le_refl _) (by have := ha2.c; omega)
      generalize spPut a.q = M at *
      generalize ((spPutErr a.q : Nat) : Int) = E at *
      clear ha1 ha2
      go_wp2_with (with_reducible refine h_A ?_)
      refine hp.mono ?_
      rintro e w3 ⟨A3, c3, rfl, ho3, hB3⟩
      clear hp
      clear c_0 c_1 c_2 c_3 c_4 c_5 c_6 c_7 c_8 c_9 c_10 c_11
      go_wp2_with (with_reducible refine h_A ?_)
      go_ret2
      refine ⟨A3, _, c3, ?_, hB12.trans (hB3.mono hs2), fun _ => ⟨rfl, Own.base_le ho3 hs2⟩⟩
      rw [HK2.out]
      first | rfl | (simp; done) | (congr)
    ·have hgd := fun x y => run_eqGuard_agg (P := Tryz.prog) w1 .neq 44 x y #[.int .u32 (a.x.fmt : Int), .string (str a.x.glob), .string (str a.x.bran)] #[.int .u32 0, .string ⟨#[]⟩, .string ⟨#[]⟩] xid_guard
     have hne : ∀ w, (binOp .neq 44 (.agg #[.int .u32 (a.x.fmt : Int), .string (str a.x.glob), .string (str a.x.bran)]) (.agg #[.int .u32 0, .string ⟨#[]⟩, .string ⟨#[]⟩])).run Tryz.prog w = .ok (.bool true) w := fun w => by
      have := xid_neqA a.x xd0 w
      rw [decide_eq_false hx] at this
      exact this
     have HX : Hid (¬ a.x = ⟨0, [], []⟩) := Lib.hid hx
     clear hx
     obtain rfl : OK = false := by rw [HOK.out]; simp [okA, sameA, ag0, agN, agS, agX, agQ, agX2, xd0, HIS.out, HN.out, HS.out, HX.out]
     go_enter Tryz.func33, Tryz.ntmps33
     go_upto_region 1 with fail
     rw [← hxb, ← hxv]
     clear hxb hxv
     go_wp2_with (with_reducible refine h_A ?_)
     go_ret2
     exact ⟨none, _, 0, rfl, hB1, fun e => by cases e⟩
   ·have gs : ((str a.s).toList != []) = true := by rw [str_toList]; simpa using hs
    have gs2 : (str a.s).toList.isEmpty = false := by rw [str_toList]; simpa using hs
    have HS := Lib.hid hs
    clear hs
    obtain rfl : OK = false := by rw [HOK.out]; simp [okA, sameA, ag0, agN, agS, agX, agQ, agX2, xd0, HIS.out, HN.out, HS.out]
    go_enter Tryz.func33, Tryz.ntmps33
    go_upto_region 1 with fail
    rw [← hxb, ← hxv]
    clear hxb hxv
    go_wp2_with (with_reducible refine h_A ?_)
    go_ret2
    exact ⟨none, _, 0, rfl, hB1, fun e => by cases e⟩
  ·have gn : ((a.n : Int) != 0) = true := by simp; omega
   have HN := Lib.hid hn
   clear hn
   obtain rfl : OK = false := by rw [HOK.out]; simp [okA, sameA, ag0, agN, agS, agX, agQ, agX2, xd0, HIS.out, HN.out]
   go_enter Tryz.func33, Tryz.ntmps33
   go_upto_region 1 with fail
   rw [← hxb, ← hxv]
   clear hxb hxv
   go_wp2_with (with_reducible refine h_A ?_)
   go_ret2
   exact ⟨none, _, 0, rfl, hB1, fun e => by cases e⟩
set_option maxRecDepth 20000 in
set_option maxHeartbeats 4000000 in
theorem rarg_v (a : Ag) (h : AH) (w : World) (ha : RAw w a h) : Calls Tryz.prog 33 #[.int .u8 118, .agg (agV a h)] w (ArgR w (okA 118 a) (byA 118 a)) := by
 unfold agV
 obtain ⟨xb, w1, hxb, hxv, hX, hB1⟩ := alloc_stepV w #[.bool a.is, .int .u64 (a.n : Int), .string (str a.s), .int .u32 (a.x.fmt : Int), .string (str a.x.glob), .string (str a.x.bran), .slice h.A a.q.length h.c, .int .u8 (a.v.kind : Int), .int .u64 (a.v.n : Int), .string (str a.v.s), .slice h.h.A1 a.v.keys.length h.h.c1, .slice h.h.A2 a.v.list.length h.h.c2] 52
 have ha1 := ha.up hB1
 have hsv := rsame_any a.v vl0 h.h ⟨none, 0, none, 0⟩ w1 ha1.v (RV.zero _ _)
 unfold SameR vlV vl0 at hsv
 obtain ⟨sv, hsvq0⟩ : ∃ s, s = sameV a.v (.mk 0 0 [] [] []) := ⟨_, rfl⟩
 rw [← hsvq0] at hsv
 have hsvq : sameV a.v vl0 = sv := hsvq0.symm
 clear hsvq0
 obtain ⟨OK, hOK⟩ : ∃ o, o = okA 118 a := ⟨_, rfl⟩
 obtain ⟨L, hL⟩ : ∃ l, l = byA 118 a := ⟨_, rfl⟩
 rw [← hOK, ← hL]
 have HOK := Lib.hid hOK
 have HL := Lib.hid hL
 clear hOK hL
 have hss := str_size a.s
 have c_0 := hX.c0
 have c_1 := hX.c1
 have c_2 := hX.c2
 have c_3 := hX.c3
 have c_4 := hX.c4
 have c_5 := hX.c5
 have c_6 := hX.c6
 have c_7 := hX.c7
 have c_8 := hX.c8
 have c_9 := hX.c9
 have c_10 := hX.c10
 have c_11 := hX.c11
 obtain ⟨is, his⟩ : ∃ i, i = a.is := ⟨_, rfl⟩
 rw [← his] at c_0
 cases is
 ·have HIS := Lib.hid his.symm
  clear his
  obtain rfl : OK = false := by rw [HOK.out]; simp [okA, sameA, ag0, agN, agS, agX, agQ, agX2, xd0, HIS.out]
  go_enter Tryz.func33, Tryz.ntmps33
  go_upto_region 1 with fail
  rw [← hxb, ← hxv]
  clear hxb hxv
  go_wp2_with (with_reducible refine h_A ?_)
  go_ret2
  exact ⟨none, _, 0, rfl, hB1, fun e => by cases e⟩
 ·have HIS := Lib.hid his.symm
  clear his
  by_cases hn : a.n = 0
  ·have gn : ((a.n : Int) != 0) = false := by simp; omega
   have HN := Lib.hid hn
   clear hn
   by_cases hs : a.s = []
   ·have gs : ((str a.s).toList != []) = false := by rw [str_toList, hs]; simp
    have gs2 : (str a.s).toList.isEmpty = true := by rw [str_toList, hs]; rfl
    have HS := Lib.hid hs
    clear hs
    by_cases hx : a.x = xd0
    ·have hgd := fun x y => run_eqGuard_agg (P := Tryz.prog) w1 .neq 44 x y #[.int .u32 (a.x.fmt : Int), .string (str a.x.glob), .string (str a.x.bran)] #[.int .u32 0, .string ⟨#[]⟩, .string ⟨#[]⟩] xid_guard
     have hne : ∀ w, (binOp .neq 44 (.agg #[.int .u32 (a.x.fmt : Int), .string (str a.x.glob), .string (str a.x.bran)]) (.agg #[.int .u32 0, .string ⟨#[]⟩, .string ⟨#[]⟩])).run Tryz.prog w = .ok (.bool false) w := fun w => by
      have := xid_neqA a.x xd0 w
      rw [decide_eq_true hx] at this
      exact this
     have HX := Lib.hid hx
     clear hx
     by_cases hq : a.q.length = 0
     ·have gq : ¬ (0 : Int) < (a.q.length : Int) := by omega
      have HQ := Lib.hid (List.length_eq_zero_iff.1 hq)
      clear hq
      obtain rfl : L = vlP a.v := by rw [HL.out]; simp [byA]
      have HK2 : Hid (OK = decide (errV a.v = 0)) := Lib.hid (by rw [HOK.out]; simp [okA, sameA, ag0, agN, agS, agX, agQ, agX2, xd0, sameV_self, HIS.out, HN.out, HS.out, HX.out, HQ.out])
      clear hsv hsvq
      have hp := rvalput_any a.v h.h w1 ha1.v
      unfold vlV at hp
      generalize vlP a.v = M at *
      generalize errV a.v = E at *
      clear ha1
      go_enter Tryz.func33, Tryz.ntmps33
      go_upto_region 1 with fail
      rw [← hxb, ← hxv]
      clear hxb hxv
      go_wp2_with (with_reducible refine h_A ?_)
      refine hp.mono ?_
      rintro e w3 ⟨A3, c3, rfl, ho3, hB3⟩
      clear hp
      clear c_0 c_1 c_2 c_3 c_4 c_5 c_6 c_7 c_8 c_9 c_10 c_11
      go_wp2_with (with_reducible refine h_A ?_)
      go_ret2
      refine ⟨A3, _, c3, ?_, hB1.trans (hB3.mono hB1.size), fun _ => ⟨rfl, Own.base_le ho3 hB1.size⟩⟩
      rw [HK2.out]
      first | rfl | (simp; done) | (congr)
     ·have gq : (0 : Int) < (a.q.length : Int) := by omega
      have HQ : Hid (¬ a.q = []) := Lib.hid (fun e => hq (List.length_eq_zero_iff.2 e))
      clear hq
      obtain rfl : OK = false := by rw [HOK.out]; simp [okA, sameA, ag0, agN, agS, agX, agQ, agX2, xd0, HIS.out, HN.out, HS.out, HX.out, HQ.out]
      go_enter Tryz.func33, Tryz.ntmps33
      go_upto_region 1 with fail
      rw [← hxb, ← hxv]
      clear hxb hxv
      go_wp2_with (with_reducible refine h_A ?_)
      go_ret2
      exact ⟨none, _, 0, rfl, hB1, fun e => by cases e⟩
    ·have hgd := fun x y => run_eqGuard_agg (P := Tryz.prog) w1 .neq 44 x y #[.int .u32 (a.x.fmt : Int), .string (str a.x.glob), .string (str a.x.bran)] #[.int .u32 0, .string ⟨#[]⟩, .string ⟨#[]⟩] xid_guard
     have hne : ∀ w, (binOp .neq 44 (.agg #[.int .u32 (a.x.fmt : Int), .string (str a.x.glob), .string (str a.x.bran)]) (.agg #[.int .u32 0, .string ⟨#[]⟩, .string ⟨#[]⟩])).run Tryz.prog w = .ok (.bool true) w := fun w => by
      have := xid_neqA a.x xd0 w
      rw [decide_eq_false hx] at this
      exact this
     have HX : Hid (¬ a.x = ⟨0, [], []⟩) := Lib.hid hx
     clear hx
     obtain rfl : OK = false := by rw [HOK.out]; simp [okA, sameA, ag0, agN, agS, agX, agQ, agX2, xd0, HIS.out, HN.out, HS.out, HX.out]
     go_enter Tryz.func33, Tryz.ntmps33
     go_upto_region 1 with fail
     rw [← hxb, ← hxv]
     clear hxb hxv
     go_wp2_with (with_reducible refine h_A ?_)
     go_ret2
     exact ⟨none, _, 0, rfl, hB1, fun e => by cases e⟩
   ·have gs : ((str a.s).toList != []) = true := by rw [str_toList]; simpa using hs
    have gs2 : (str a.s).toList.isEmpty = false := by rw [str_toList]; simpa using hs
    have HS := Lib.hid hs
    clear hs
    obtain rfl : OK = false := by rw [HOK.out]; simp [okA, sameA, ag0, agN, agS, agX, agQ, agX2, xd0, HIS.out, HN.out, HS.out]
    go_enter Tryz.func33, Tryz.ntmps33
    go_upto_region 1 with fail
    rw [← hxb, ← hxv]
    clear hxb hxv
    go_wp2_with (with_reducible refine h_A ?_)
    go_ret2
    exact ⟨none, _, 0, rfl, hB1, fun e => by cases e⟩
  ·have gn : ((a.n : Int) != 0) = true := by simp; omega
   have HN := Lib.hid hn
   clear hn
   obtain rfl : OK = false := by rw [HOK.out]; simp [okA, sameA, ag0, agN, agS, agX, agQ, agX2, xd0, HIS.out, HN.out]
   go_enter Tryz.func33, Tryz.ntmps33
   go_upto_region 1 with fail
   rw [← hxb, ← hxv]
   clear hxb hxv
   go_wp2_with (with_reducible refine h_A ?_)
   go_ret2
   exact ⟨none, _, 0, rfl, hB1, fun e => by cases e⟩
end Go.PH
end
section
/- The document's 'arg' at any argument. -/
namespace Go.PH
open Go.RowKit Go.Proofs
theorem rarg_any (kd : UInt8) (hk : kd ∈ kindL) (a : Ag) (h : AH) (w : World) (ha : RAw w a h) : Calls Tryz.prog 33 #[.int .u8 (kd.toNat : Int), .agg (agV a h)] w (ArgR w (okA kd a) (byA kd a)) := by
 unfold kindL at hk
 simp only [List.mem_cons, List.not_mem_nil, or_false] at hk
 rcases hk with rfl | rfl | rfl | rfl | rfl | rfl | rfl | rfl | rfl
 ·exact rarg_b a h w ha
 ·exact rarg_n a h w ha
 ·exact rarg_w a h w ha
 ·exact rarg_d a h w ha
 ·exact rarg_s a h w ha
 ·exact rarg_t a h w ha
 ·exact rarg_x a h w ha
 ·exact rarg_r a h w ha
 ·exact rarg_v a h w ha
end Go.PH
end

/- Texts laid together: MdSameMR, MdSmall, MdCopy, MdTake, MdOctets. -/
import Derived.Test.YtidpbbleneekgaaGreatDoorMg01
import Derived.Test.YtidpbbleneekgaaGreatDoorMg03
import Derived.Test.YtidpbbleneekgaaGreatDoorMg08
import Derived.Test.YtidpbbleneekgaaGreatDoorMg19
import Derived.Test.YtidpbbleneekgaaGreatDoorMg23
import Derived.Test.YtidpbbleneekgaaGreatDoorMg24
import Derived.Test.YtidpbbleneekgaaGreatDoorMg26
set_option linter.all false
set_option linter.unusedSimpArgs false
set_option linter.unusedVariables false
section
/- '==' of methods: the walk of the document's program. -/
namespace Go.PH
open Go.RowKit Go.Proofs

set_option maxRecDepth 20000 in
set_option maxHeartbeats 1000000 in
theorem rsameM_any (v u : Mt) (A : Option Addr) (c : Nat) (A' : Option Addr) (c' : Nat) (w : World) (hv : RMw w v A c) (hu : RMw w u A' c') :
  Calls Tryz.prog 9 #[.agg (mtV v A c), .agg (mtV u A' c')] w fun e w' => e = .returned (.bool (sameM v u)) ∧ Below w.heap.size w w' := by
 unfold mtV
 obtain ⟨xb, w1, hxb, hxv, hX, hB1⟩ := alloc_stepV w #[.int .u8 (v.cls : Int), .int .u8 (v.code : Int), .bool v.sync, .slice A v.args.length c] 26
 obtain ⟨yb, w2, hyb, hyv, hY, hB2⟩ := alloc_stepV w1 #[.int .u8 (u.cls : Int), .int .u8 (u.code : Int), .bool u.sync, .slice A' u.args.length c'] 26
 have hyb' : xb + 1 = yb := by rw [hyb, hxv, hxb]; simp
 have hB := hB1.trans (hB2.mono hB1.size)
 have hX2 := hX.below hB2
 have hv2 := hv.up hB
 have hu2 := hu.up hB
 have hel := fun {i : Nat} (hi : i < v.args.length) => hv2.elem hi
 have hfl := fun {i : Nat} (hi : i < u.args.length) => hu2.elem hi
 have hNm := hv.len
 have c0 := hX2.c0
 have c1 := hX2.c1
 have c2 := hX2.c2
 have c3 := hX2.c3
 have d0 := hY.c0
 have d1 := hY.c1
 have d2 := hY.c2
 have d3 := hY.c3
 have HS : Hid (sameM v u = (decide (v.cls = u.cls) && decide (v.code = u.code) && decide (v.sync = u.sync) && sameAs v.args u.args)) := Lib.hid rfl
 clear hyb hX hv hu hv2 hu2 hB1 hB2
 by_cases e1 : v.cls = u.cls
 ·have g1 : ((v.cls : Int) != (u.cls : Int)) = false := by simp [e1]
  by_cases e2 : v.code = u.code
  ·have g2 : ((v.code : Int) != (u.code : Int)) = false := by simp [e2]
   by_cases e3 : v.sync = u.sync
   ·have g3 : (v.sync != u.sync) = false := by simp [e3]
    have g3' : (v.sync == u.sync) = true := by simp [e3]
    have HF : Hid (sameM v u = sameAs v.args u.args) := Lib.hid (by rw [HS.out]; simp [e1, e2, e3])
    by_cases e4 : v.args.length = u.args.length
    ·have g4 : ((v.args.length : Int) != (u.args.length : Int)) = false := by simp [e4]
     have HLL := Lib.hid e4
     clear e1 e2 e3 e4 HS
     go_enter Tryz.func9, Tryz.ntmps9
     go_upto_region 1 with fail
     rw [← hxb, ← hxv, hyb', ← hyv]
     clear hxb hxv hyb' hyv
     go_wp2_with (with_reducible refine h_A ?_)
     clear c0 c1 c2 c3 d0 d1 d2 d3 g1 g2 g3 g3' g4
     go_loopw [5] (fun s wr => ∃ i : Nat, i ≤ v.args.length ∧ s = .int .i64 i ∧ Box wr xb 26 #[.int .u8 (v.cls : Int), .int .u8 (v.code : Int), .bool v.sync, .slice A v.args.length c] ∧ Box wr yb 26 #[.int .u8 (u.cls : Int), .int .u8 (u.code : Int), .bool u.sync, .slice A' u.args.length c'] ∧ Below w.heap.size w wr ∧ Below w2.heap.size w2 wr ∧ Hid (sameAs (v.args.drop i) (u.args.drop i) = sameAs v.args u.args)) (fun s _ => v.args.length - (RowKit.intOf s).toNat)
     case atStart => exact ⟨0, by omega, rfl, hX2, hY, hB, Below.refl _ _, Lib.hid rfl⟩
     case round =>
      as_aux_lemma =>
      clear hX2 hY hB
      obtain ⟨i, hi, rfl, hX3, hY3, hB3, hB23, HC⟩ := hrel
      have c3 := hX3.c3
      have d3 := hY3.c3
      simp only [List.getElem_toArray, List.getElem_cons_succ, List.getElem_cons_zero] at c3 d3
      by_cases hlt : i < v.args.length
      ·have g1 : (i : Int) < (v.args.length : Int) := by omega
       have hil' : i < u.args.length := by rw [← HLL.out]; exact hlt
       have g1' : (i : Int) < (u.args.length : Int) := by omega
       obtain ⟨b, off, hx, rfl, hvx, HX⟩ := hel hlt
       obtain ⟨b', off', hy, rfl, hvy, HY⟩ := hfl hil'
       have HD : Hid (sameAs (v.args.drop i) (u.args.drop i) = (sameA v.args[i] u.args[i] && sameAs (v.args.drop (i + 1)) (u.args.drop (i + 1)))) := Lib.hid (by rw [List.drop_eq_getElem_cons hlt, List.drop_eq_getElem_cons hil', sameAs_cons])
       have hrec := fun (W : World) (hW : Below w2.heap.size w2 W) => rsameA_any v.args[i] u.args[i] hx hy W (hvx.up hW) (hvy.up hW)
       clear hel hvx hfl hvy
       generalize v.args[i] = x at *
       generalize u.args[i] = y at *
       unfold agV at hrec
       go_upto_region 6 with fail
       clear c3 d3
       refine rg_start (fun W : World => Box W xb 26 #[.int .u8 (v.cls : Int), .int .u8 (v.code : Int), .bool v.sync, .slice (some ⟨b, off, none⟩) v.args.length c] ∧ Box W yb 26 #[.int .u8 (u.cls : Int), .int .u8 (u.code : Int), .bool u.sync, .slice (some ⟨b', off', none⟩) u.args.length c'] ∧ Below w.heap.size w W ∧ Below w2.heap.size w2 W) (by kernel_rfl) ?_
       have hS : Box wr.drew xb 26 #[.int .u8 (v.cls : Int), .int .u8 (v.code : Int), .bool v.sync, .slice (some ⟨b, off, none⟩) v.args.length c] ∧ Box wr.drew yb 26 #[.int .u8 (u.cls : Int), .int .u8 (u.code : Int), .bool u.sync, .slice (some ⟨b', off', none⟩) u.args.length c'] ∧ Below w.heap.size w wr.drew ∧ Below w2.heap.size w2 wr.drew := ⟨hX3, hY3, below_drewN hB3 1, below_drewN hB23 1⟩
       generalize wr.drew = wd at *
       refine rg_t 0 hS ?_
       simp only [List.getElem_toArray, List.getElem_cons_zero, Act.put, List.setIfInBounds_toArray, List.set_cons_zero, List.set_cons_succ]
       refine rg_take 1 (v := ?_) rfl (by kernel_rfl) (by kernel_rfl) (by kernel_rfl) hS rfl ?_ ?_
       rotate_left
       ·intro wS hSw; have k0 := hSw.1.cell (j := 3) rfl; go_simp; (with_reducible rfl)
       simp only [g_S, Act.put]
       refine rg_t 2 hS ?_
       simp only [g_S, Act.put]
       refine rg_t 3 hS ?_
       simp only [g_S, Act.put]
       refine rg_take 4 (v := ?_) rfl (by kernel_rfl) (by kernel_rfl) (by kernel_rfl) hS rfl ?_ ?_
       rotate_left
       ·intro wS hSw; have HX1 := HX _ hSw.2.2.2; have k_0 := HX1 0 _ rfl; have k_1 := HX1 1 _ rfl; have k_2 := HX1 2 _ rfl; have k_3 := HX1 3 _ rfl; have k_4 := HX1 4 _ rfl; have k_5 := HX1 5 _ rfl; have k_6 := HX1 6 _ rfl; have k_7 := HX1 7 _ rfl; have k_8 := HX1 8 _ rfl; have k_9 := HX1 9 _ rfl; have k_10 := HX1 10 _ rfl; have k_11 := HX1 11 _ rfl; simp only [Nat.add_zero] at k_0; clear HX1; go_simp; (with_reducible rfl)
       simp only [g_S, Act.put]
       refine rg_t 5 hS ?_
       simp only [g_S, Act.put]
       refine rg_take 6 (v := ?_) rfl (by kernel_rfl) (by kernel_rfl) (by kernel_rfl) hS rfl ?_ ?_
       rotate_left
       ·intro wS hSw; have k0 := hSw.2.1.cell (j := 3) rfl; go_simp; (with_reducible rfl)
       simp only [g_S, Act.put]
       refine rg_t 7 hS ?_
       simp only [g_S, Act.put]
       refine rg_t 8 hS ?_
       simp only [g_S, Act.put]
       refine rg_take 9 (v := ?_) rfl (by kernel_rfl) (by kernel_rfl) (by kernel_rfl) hS rfl ?_ ?_
       rotate_left
       ·intro wS hSw; have HX1 := HY _ hSw.2.2.2; have k_0 := HX1 0 _ rfl; have k_1 := HX1 1 _ rfl; have k_2 := HX1 2 _ rfl; have k_3 := HX1 3 _ rfl; have k_4 := HX1 4 _ rfl; have k_5 := HX1 5 _ rfl; have k_6 := HX1 6 _ rfl; have k_7 := HX1 7 _ rfl; have k_8 := HX1 8 _ rfl; have k_9 := HX1 9 _ rfl; have k_10 := HX1 10 _ rfl; have k_11 := HX1 11 _ rfl; simp only [Nat.add_zero] at k_0; clear HX1; go_simp; (with_reducible rfl)
       simp only [g_S, Act.put]
       refine rg_one 10 rfl (by kernel_rfl) rfl (fun K hK => ?_)
       go_simp
       refine (hrec _ hS.2.2.2).mono ?_
       rintro e w5 ⟨rfl, hB5⟩
       obtain ⟨hX4, hY4, hB4, hB24⟩ := hS
       have hS : Box w5 xb 26 #[.int .u8 (v.cls : Int), .int .u8 (v.code : Int), .bool v.sync, .slice (some ⟨b, off, none⟩) v.args.length c] ∧ Box w5 yb 26 #[.int .u8 (u.cls : Int), .int .u8 (u.code : Int), .bool u.sync, .slice (some ⟨b', off', none⟩) u.args.length c'] ∧ Below w.heap.size w w5 ∧ Below w2.heap.size w2 w5 := ⟨hX4.below hB5, hY4.below hB5, hB4.trans (hB5.mono hB4.size), hB24.trans (hB5.mono hB24.size)⟩
       clear hX4 hY4 hB4 hB24 hB5 hX3 hY3 hB3 hB23 HX HY hrec
       refine hK _ _ hS ?_; clear hK K
       try simp only [g_S, Act.put]
       refine rg_t 11 hS ?_
       simp only [g_S, Act.put]
       refine rg_end (by kernel_rfl) ?_
       obtain ⟨hX4, hY4, hB4, hB24⟩ := hS
       cases hs : sameA x y
       ·have HF2 : Hid (sameAs v.args u.args = false) := Lib.hid (by rw [← HC.out, HD.out, hs]; rfl)
        clear hs
        go_wp2_with (with_reducible refine h_A ?_)
        go_ret
        rw [HF.out, HF2.out]
        exact ⟨rfl, hB4⟩
       ·have HC2 : Hid (sameAs (v.args.drop (i + 1)) (u.args.drop (i + 1)) = sameAs v.args u.args) := Lib.hid (by rw [← HC.out, HD.out, hs]; rfl)
        clear hs
        go_wp2_with (with_reducible refine h_A ?_)
        exact ⟨⟨i + 1, by omega, by go_num, hX4, hY4, hB4, hB24, HC2⟩, by simp [RowKit.intOf]; omega⟩
      ·have g1 : ¬ (i : Int) < (v.args.length : Int) := by omega
       have HF2 : Hid (sameAs v.args u.args = true) := Lib.hid (by
        rw [← HC.out, List.drop_eq_nil_of_le (by omega), List.drop_eq_nil_of_le (by have := HLL.out; omega), sameAs])
       clear hel hfl
       go_wp2_with (with_reducible refine h_A ?_)
       go_ret
       rw [HF.out, HF2.out]
       exact ⟨rfl, hB3⟩
    ·have g4 : ((v.args.length : Int) != (u.args.length : Int)) = true := by simp; omega
     have HF : Hid (sameM v u = false) := Lib.hid (by rw [HF.out, sameAs_len e4])
     clear e1 e2 e3 e4 HS hel hfl
     go_enter Tryz.func9, Tryz.ntmps9
     go_upto_region 1 with fail
     rw [← hxb, ← hxv, hyb', ← hyv]
     clear hxb hxv hyb' hyv
     go_wp2_with (with_reducible refine h_A ?_)
     go_ret
     rw [HF.out]
     exact ⟨rfl, hB⟩
   ·have g3 : (v.sync != u.sync) = true := by simpa using e3
    have g3' : (v.sync == u.sync) = false := by simpa using e3
    have HF : Hid (sameM v u = false) := Lib.hid (by rw [HS.out]; simp [e3])
    clear e1 e2 e3 hel hfl
    go_enter Tryz.func9, Tryz.ntmps9
    go_upto_region 1 with fail
    rw [← hxb, ← hxv, hyb', ← hyv]
    clear hxb hxv hyb' hyv
    go_wp2_with (with_reducible refine h_A ?_)
    go_ret
    rw [HF.out]
    exact ⟨rfl, hB⟩
  ·have g2 : ((v.code : Int) != (u.code : Int)) = true := by simp; omega
   have HF : Hid (sameM v u = false) := Lib.hid (by rw [HS.out]; simp [e2])
   clear e1 e2 hel hfl
   go_enter Tryz.func9, Tryz.ntmps9
   go_upto_region 1 with fail
   rw [← hxb, ← hxv, hyb', ← hyv]
   clear hxb hxv hyb' hyv
   go_wp2_with (with_reducible refine h_A ?_)
   go_ret
   rw [HF.out]
   exact ⟨rfl, hB⟩
 ·have g1 : ((v.cls : Int) != (u.cls : Int)) = true := by simp; omega
  have HF : Hid (sameM v u = false) := Lib.hid (by rw [HS.out]; simp [e1])
  clear e1 hel hfl
  go_enter Tryz.func9, Tryz.ntmps9
  go_upto_region 1 with fail
  rw [← hxb, ← hxv, hyb', ← hyv]
  clear hxb hxv hyb' hyv
  go_wp2_with (with_reducible refine h_A ?_)
  go_ret
  rw [HF.out]
  exact ⟨rfl, hB⟩
end Go.PH
end
section
/- Which methods can be looked at: the walk of the document's Small. -/
namespace Go.PH
open Go.RowKit Go.Proofs

end Go.PH
end
section
/- A method in memory of its own: the walk of the document's Copy. -/
namespace Go.PH
open Go.RowKit Go.Proofs

theorem slAg : SlT Tryz.prog 24 52 12 176 (.agg #[.bool false, .int .u64 0, .string ⟨#[]⟩, .int .u32 0, .string ⟨#[]⟩, .string ⟨#[]⟩, .slice none 0 0, .int .u8 0, .int .u64 0, .string ⟨#[]⟩, .slice none 0 0, .slice none 0 0]) := SlT.mk' Tryz.underlying24 (by kernel_rfl) rfl (by omega)
structure MpS (wr : World) (base : Nat) (A : Option Addr) (c : Nat) (xs : List (Ag × AH)) : Prop where
 own : Own wr base 52 12 A xs.length c (rowC agC xs)
 el : ∀ p ∈ xs, RA wr (FB base A wr) p.1 p.2
theorem MpS.on {wr wr' : World} {base : Nat} {A : Option Addr} {c : Nat} {xs : List (Ag × AH)} (h : MpS wr base A c xs) (hk : ∀ g, base ≤ g → g < wr.heap.size → wr'.heap[g]? = wr.heap[g]?) (hs : wr.heap.size ≤ wr'.heap.size) : MpS wr' base A c xs := by
 have hF : ∀ g, FB base A wr g → FB base A wr' g := fun g hg => ⟨hg.1, Nat.lt_of_lt_of_le hg.2.1 hs, hg.2.2⟩
 refine ⟨?_, fun p hp => ((h.el p hp).keep (fun g hg => hk g hg.1 hg.2.1) hs).mono hF⟩
 have ho := h.own
 unfold Own World.ownsRow at ho ⊢
 obtain ⟨hl, h1⟩ := ho
 refine ⟨hl, h1.imp id ?_⟩
 rintro ⟨g, cap, cur, hv, hb, hh, hr⟩
 exact ⟨g, cap, cur, hv, hb, (hk g hb (Array.getElem?_eq_some_iff.1 hh).1).trans hh, hr⟩
theorem MpS.below {wr wr' : World} {base : Nat} {A : Option Addr} {c : Nat} {xs : List (Ag × AH)} (h : MpS wr base A c xs) (hB : Below wr.heap.size wr wr') : MpS wr' base A c xs := h.on (fun g _ hg => hB.block g hg) hB.size
theorem MpS.box {wr wr' : World} {base b : Nat} {A : Option Addr} {c : Nat} {xs : List (Ag × AH)} (h : MpS wr base A c xs) (hg : wr.grownBy wr' (some b)) (hb : b < base) : MpS wr' base A c xs :=
 h.on (fun g hg1 hg2 => hg.block g hg2 (fun e => by injection e with e; omega)) hg.size
theorem MpS.push {w5 w6 : World} {base : Nat} {A A2 : Option Addr} {c c2 : Nat} {xs : List (Ag × AH)} {x : Ag} {hx : AH} (h : MpS w5 base A c xs) (hv : RA w5 (FB base A w5) x hx)
  (ho : Own w6 base 52 12 A2 (xs.length + 1) c2 (rowC agC (xs ++ [(x, hx)]))) (hg : w5.grownBy w6 (blk A)) (hA : blk A2 = blk A ∨ ∀ g, blk A2 = some g → w5.heap.size ≤ g) : MpS w6 base A2 c2 (xs ++ [(x, hx)]) := by
 have hF : ∀ g, FB base A w5 g → FB base A2 w6 g := fun g hg1 => ⟨hg1.1, Nat.lt_of_lt_of_le hg1.2.1 hg.size, by
  rcases hA with e | e
  ·rw [e]; exact hg1.2.2
  ·intro e2; have := e g e2; have := hg1.2.1; omega⟩
 have hk : ∀ g, FB base A w5 g → w6.heap[g]? = w5.heap[g]? := fun g hg1 => hg.block g hg1.2.1 (fun e => hg1.2.2 e.symm)
 refine ⟨by rw [List.length_append]; exact ho, fun p hp => ?_⟩
 rcases List.mem_append.1 hp with hp | hp
 ·exact ((h.el p hp).keep hk hg.size).mono hF
 ·obtain rfl := List.mem_singleton.1 hp
  exact (hv.keep hk hg.size).mono hF
end Go.PH
end
section
/- The method reader's take and octets: the walks of the program. -/
namespace Go.PH
open Go.RowKit Go.Proofs

/-- the method reader in block rb: what is left, is it bad -/
def MRd (w : World) (B rb : Nat) (l : List UInt8) (bad : Bool) : Prop := ∃ A n c, Box w rb 61 #[.slice A n c, .bool bad] ∧ RdB w B A n c l ∧ n ≤ 140737488351232
theorem MRd.kp {w w' : World} {B rb x y : Nat} {l : List UInt8} {bad : Bool} (h : MRd w B rb l bad) (hK : KP B x y w w') (h1 : rb ≠ x) (h2 : rb ≠ y) : MRd w' B rb l bad := by
 obtain ⟨A, n, c, hb, hr, hn⟩ := h
 exact ⟨A, n, c, hK.box hb h1 h2, hr.below hK.1, hn⟩
theorem mtk_bad {w : World} {B rb : Nat} {l : List UInt8} {bad : Bool} (h : MRd w B rb l bad) (hB : B ≤ rb) (k e : Int) (hb : bad = true ∨ e ≠ 0) :
  Calls Tryz.prog 87 #[.pointer (some ⟨rb, 0, none⟩), .int .i64 k, .int .i64 e] w fun e' w' => e' = .returned (.tuple #[]) ∧ MRd w' B rb l true ∧ w.grownBy w' (some rb) := by
 obtain ⟨A, n, c, hbx, hr, hn⟩ := h
 have c1 := hbx.c1
 have hbw := hbx.lt
 cases bad
 ·have ge : (e != 0) = true := by simpa using hb
  go_enter Tryz.func87, Tryz.ntmps87
  go_wp2_with (with_reducible refine h_B ?_)
  refine unhold (wp_box (v := .bool true) (vs := [.bool true]) rfl rfl rfl rfl hbx rfl (by kernel_rfl) (by simp) (by simp; rfl) #[.slice A n c, .bool true] (by simp) ?_)
  intro w2 hb2 hg2 _
  have c1 := hb2.c1
  go_wp2_with (with_reducible refine h_A ?_)
  go_end0
  exact ⟨rfl, ⟨A, n, c, hb2, hr.grown hg2 (by omega) (fun g hg => by injection hg with hg; omega), hn⟩, hg2⟩
 ·clear hb
  go_enter Tryz.func87, Tryz.ntmps87
  go_wp2_with (with_reducible refine h_B ?_)
  refine unhold (wp_box (v := .bool true) (vs := [.bool true]) rfl rfl rfl rfl hbx rfl (by kernel_rfl) (by simp) (by simp; rfl) #[.slice A n c, .bool true] (by simp) ?_)
  intro w2 hb2 hg2 _
  have c1 := hb2.c1
  go_wp2_with (with_reducible refine h_A ?_)
  go_end0
  exact ⟨rfl, ⟨A, n, c, hb2, hr.grown hg2 (by omega) (fun g hg => by injection hg with hg; omega), hn⟩, hg2⟩
theorem mtk_ok {w : World} {B rb : Nat} {l : List UInt8} (h : MRd w B rb l false) (hB : B ≤ rb) (k : Nat) (hk : k ≤ l.length) :
  Calls Tryz.prog 87 #[.pointer (some ⟨rb, 0, none⟩), .int .i64 (k : Int), .int .i64 0] w fun e' w' => e' = .returned (.tuple #[]) ∧ MRd w' B rb (l.drop k) false ∧ w.grownBy w' (some rb) := by
 obtain ⟨A, n, c, hbx, hr, hn⟩ := h
 have hln : l.length = n := RdB.length hr
 have c1 := hbx.c1
 have hbw := hbx.lt
 go_enter Tryz.func87, Tryz.ntmps87
 go_wp2_with (with_reducible refine h_B ?_)
 refine unhold (wp_box (v := .bool false) (vs := [.bool false]) rfl rfl rfl rfl hbx rfl (by kernel_rfl) (by simp) (by simp; rfl) #[.slice A n c, .bool false] (by simp) ?_)
 intro w2 hb2 hg2 _
 have hr2 : RdB w2 B A n c l := hr.grown hg2 (by omega) (fun g hg => by injection hg with hg; omega)
 have c0 := hb2.c0
 have c1 := hb2.c1
 go_wp2_with (with_reducible refine h_S ?_)
 refine unhold (wp_cutB slB rfl rfl rfl hr2 k n c (.inr ⟨_, _, rfl, rfl⟩) (.inl ⟨rfl, rfl⟩) (.inl ⟨rfl, rfl⟩) (by intro h; cases h) (by omega) (by have := hr2.cap; omega) (Nat.le_refl _) (Nat.le_refl _) ?_)
 intro A2 hr3 _
 have e3 : ((l.map u8v).take (n * 1)).drop (k * 1) = (l.drop k).map u8v := by rw [Nat.mul_one, Nat.mul_one, List.take_of_length_le (by simp; omega), List.map_drop]
 rw [e3] at hr3
 clear e3
 go_wp2_with (with_reducible refine h_B ?_)
 refine unhold (wp_box (v := .slice A2 (n - k) (c - k)) (vs := [.slice A2 (n - k) (c - k)]) rfl rfl rfl rfl hb2 rfl (by kernel_rfl) (by simp) (by simp; rfl) #[.slice A2 (n - k) (c - k), .bool false] (by simp) ?_)
 intro w3 hb3 hg3 _
 go_wp2_with (with_reducible refine h_A ?_)
 go_end0
 have hg23 : w.grownBy w3 (some rb) := hg2.trans hg3
 refine ⟨rfl, ⟨A2, n - k, c - k, hb3, ?_, by omega⟩, hg23⟩
 have hr4 : RdB w2 B A2 (n - k) (c - k) (l.drop k) := hr3
 exact hr4.grown hg3 (by have := hb2.lt; omega) (fun g hg => by injection hg with hg; omega)
end Go.PH
end
section
/- The method reader's octets: the walk of the program. -/
namespace Go.PH
open Go.RowKit Go.Proofs

theorem KP.wide {B rb ab vb : Nat} {w W W' : World} (h : KP B rb ab w W) (k : KP B ab vb W W') (hv : w.heap.size ≤ vb) : KP B rb ab w W' :=
 ⟨h.1.trans k.1, fun g hg h1 h2 => (k.2 g (Nat.lt_of_lt_of_le hg h.size) h2 (by omega)).trans (h.2 g hg h1 h2)⟩
def OctR (w : World) (B rb ab : Nat) (l : List UInt8) (bad : Bool) (cells : Array Value) (e : Ending) (w' : World) : Prop := e = .returned (.tuple #[]) ∧ Box w' ab 52 cells ∧ MRd w' B rb l bad ∧ KP B rb ab w w'
set_option maxRecDepth 20000 in
set_option maxHeartbeats 2000000 in
theorem octets_any (Fn : FuncId) (cap : Array Value) (hcf : ∀ (args : Array Value) (w : World), (callFunc Fn args).run Tryz.prog w = .ok (.enter Fn args) w) {w : World} {B rb ab : Nat} {l : List UInt8} {bad : Bool} (h : MRd w B rb l bad) (hB : B ≤ rb) (cells cells' : Array Value) (ha : Box w ab 52 cells) (hab : B ≤ ab) (hne : ab ≠ rb) (l2 : List UInt8) (b2 : Bool) (hl2 : l2.length ≤ l.length)
  (hcl : ∀ (W : World) (o vb : Nat) (F : Nat → Prop), Below w.heap.size w W → Rdr F W (.pointer (some ⟨o, 0, none⟩)) (some vb) l false → (∀ g, F g → w.heap.size ≤ g ∧ g < W.heap.size) → Box W ab 52 cells →
   Calls Tryz.prog Fn (#[.pointer (some ⟨o, 0, none⟩)] ++ cap) W fun e W' => e = .returned (.tuple #[]) ∧ Rdr F W' (.pointer (some ⟨o, 0, none⟩)) (some vb) l2 b2 ∧ Box W' ab 52 cells' ∧ KP B ab vb W W') :
  Calls Tryz.prog 79 #[.pointer (some ⟨rb, 0, none⟩), .func (.func Fn) #[] cap] w (OctR w B rb ab (if (bad || b2) = true then l else l.drop (l.length - l2.length)) (bad || b2) cells') := by
 obtain ⟨lr, hlr⟩ : ∃ x, x = (if (bad || b2) = true then l else l.drop (l.length - l2.length)) := ⟨_, rfl⟩
 obtain ⟨br, hbr⟩ : ∃ x, x = (bad || b2) := ⟨_, rfl⟩
 rw [← hlr, ← hbr]
 have HLR := Lib.hid hlr
 have HBR := Lib.hid hbr
 clear hlr hbr
 obtain ⟨A, n, c, hbx, hr, hn⟩ := h
 have hln : l.length = n := RdB.length hr
 have hbw := hbx.lt
 have haw := ha.lt
 have hBw : B ≤ w.heap.size := by omega
 have hopen := rdopen_any A n c l w (rd_wide hr hBw) (by omega)
 have c0 := hbx.c0
 have HCL := Lib.hid hcl
 clear hcl
 go_enter Tryz.func79, Tryz.ntmps79
 go_wp2_with (with_reducible refine h_A ?_)
 refine hopen.mono ?_
 rintro e w2 ⟨o, vb, rfl, ho, hv, hrd, hB2⟩
 have ha2 := ha.below hB2
 have hb2 := hbx.below hB2
 have hr2 := hr.below (hB2.mono hBw)
 have hK2 := (KP.refl B rb ab w).below hBw hB2
 have hvw := hrd.inF rfl
 have hc2 := HCL.out w2 o vb _ hB2 hrd (fun g hg => hg) ha2
 clear hopen c0 HCL ha hbx hr
 go_wp2_with (with_reducible refine h_A ?_)
 refine hc2.mono ?_
 rintro e w3 ⟨rfl, hrd3, ha3, hK3⟩
 have hb3 := hK3.box hb2 (Ne.symm hne) (by omega)
 have hr3 := hr2.below hK3.1
 have hK := hK2.wide hK3 hv
 clear hc2 hb2 hr2 ha2 hK3 hK2
 have c1 := hb3.c1
 have hbl := hb3.lt
 go_upto_region 2 with fail
 cases bad
 ·have hbd := rdbad_any hrd3
  cases b2
  ·go_wp2_with (with_reducible refine h_B ?_)
   refine hbd.mono ?_
   rintro e w4 ⟨rfl, rfl⟩
   clear hbd
   go_wp2_with (with_reducible refine h_B ?_)
   refine unhold (wp_box (v := .bool false) (vs := [.bool false]) rfl rfl rfl rfl hb3 rfl (by kernel_rfl) (by simp) (by simp; rfl) #[.slice A n c, .bool false] (by simp) ?_)
   intro w5 hb5 hg5 _
   have ha5 := ha3.grown hg5 (sne (by omega))
   have hr5 := hr3.grown hg5 (by omega) (fun g hg => by injection hg with hg; omega)
   have hrd5 := hrd3.kept hg5 (fun g hg hFg => by injection hg with hg; have := hFg.1; omega)
   have hK5 := hK.grown hBw hg5 (fun g hg => by injection hg with hg; exact ⟨by omega, .inl hg.symm⟩)
   clear hb3 ha3 hr3 hrd3 hK hg5 c1
   go_upto_region 3 with fail
   refine rg_start (fun _ : World => True) (by kernel_rfl) ?_
   replace hb5 : Box w5.drew rb 61 #[.slice A n c, .bool false] := hb5
   replace ha5 : Box w5.drew ab 52 cells' := ha5
   replace hr5 : RdB w5.drew B A n c l := hr5.drew
   replace hrd5 := hrd5.drew
   replace hK5 := hK5.drew
   have hsub : IntKind.i64.wrap ((n : Int) - (l2.length : Int)) = ((n - l2.length : Nat) : Int) := by rw [IntWalk.i64_in _ ⟨by omega, by omega⟩]; omega
   generalize w5.drew = wd at *
   refine rg_t 0 trivial ?_
   simp only [List.getElem_toArray, List.getElem_cons_zero, Act.put, List.setIfInBounds_toArray, List.set_cons_zero, List.set_cons_succ]
   refine rg_t 1 trivial ?_
   simp only [g_S, Act.put]
   refine rg_t 2 trivial ?_
   simp only [g_S, Act.put]
   refine rg_t 3 trivial ?_
   simp only [g_S, Act.put]
   refine rg_t 6 trivial ?_
   simp only [g_S, Act.put]
   have y0 := hb5.c0
   have hr6 : MRd wd B rb l false := ⟨A, n, c, hb5, hr5, hn⟩
   have hlf := rdleft_any hrd5
   have htk := mtk_ok hr6 hB (n - l2.length) (by omega)
   refine rg_two 4 7 rfl rfl (by kernel_rfl) rfl rfl (fun K hK => ?_) (fun K hK => ?_)
   ·go_simp
    refine hK _ _ trivial ?_; clear hK K
    clear y0
    try simp only [g_S, Act.put]
    refine rg_t 5 trivial ?_
    simp only [g_S, Act.put]
    refine rg_one 7 rfl (by kernel_rfl) rfl (fun K hK => ?_)
    go_simp
    refine hlf.mono ?_
    rintro e w6 ⟨rfl, rfl⟩
    refine hK _ _ trivial ?_; clear hK K
    try simp only [g_S, Act.put]
    refine rg_t 8 trivial ?_
    simp only [g_S, Act.put]
    refine rg_one 9 rfl (by kernel_rfl) rfl (fun K hK => ?_)
    go_simp
    refine htk.mono ?_
    rintro e w7 ⟨rfl, hM7, hg7⟩
    have ha7 := ha5.grown hg7 (sne (by omega))
    have hK7 := hK5.grown hBw hg7 (fun g hg => by injection hg with hg; exact ⟨by omega, .inl hg.symm⟩)
    refine hK _ _ trivial ?_; clear hK K
    refine rg_end (by kernel_rfl) ?_
    go_wp2_with (with_reducible refine h_A ?_)
    go_end0
    rw [HLR.out, HBR.out]
    exact ⟨rfl, ha7, by simpa [hln] using hM7, hK7⟩
   ·go_simp
    refine hlf.mono ?_
    rintro e w6 ⟨rfl, rfl⟩
    refine hK _ _ trivial ?_; clear hK K
    try simp only [g_S, Act.put]
    refine rg_one 4 rfl (by kernel_rfl) rfl (fun K hK => ?_)
    go_simp
    refine hK _ _ trivial ?_; clear hK K
    clear y0
    try simp only [g_S, Act.put]
    refine rg_t 5 trivial ?_
    simp only [g_S, Act.put]
    refine rg_t 8 trivial ?_
    simp only [g_S, Act.put]
    refine rg_one 9 rfl (by kernel_rfl) rfl (fun K hK => ?_)
    go_simp
    refine htk.mono ?_
    rintro e w7 ⟨rfl, hM7, hg7⟩
    have ha7 := ha5.grown hg7 (sne (by omega))
    have hK7 := hK5.grown hBw hg7 (fun g hg => by injection hg with hg; exact ⟨by omega, .inl hg.symm⟩)
    refine hK _ _ trivial ?_; clear hK K
    refine rg_end (by kernel_rfl) ?_
    go_wp2_with (with_reducible refine h_A ?_)
    go_end0
    rw [HLR.out, HBR.out]
    exact ⟨rfl, ha7, by simpa [hln] using hM7, hK7⟩
  ·go_wp2_with (with_reducible refine h_B ?_)
   refine hbd.mono ?_
   rintro e w4 ⟨rfl, rfl⟩
   clear hbd
   go_wp2_with (with_reducible refine h_B ?_)
   refine unhold (wp_box (v := .bool true) (vs := [.bool true]) rfl rfl rfl rfl hb3 rfl (by kernel_rfl) (by simp) (by simp; rfl) #[.slice A n c, .bool true] (by simp) ?_)
   intro w5 hb5 hg5 _
   have ha5 := ha3.grown hg5 (sne (by omega))
   have hr5 := hr3.grown hg5 (by omega) (fun g hg => by injection hg with hg; omega)
   have hrd5 := hrd3.kept hg5 (fun g hg hFg => by injection hg with hg; have := hFg.1; omega)
   have hK5 := hK.grown hBw hg5 (fun g hg => by injection hg with hg; exact ⟨by omega, .inl hg.symm⟩)
   clear hb3 ha3 hr3 hrd3 hK hg5 c1
   go_upto_region 3 with fail
   refine rg_start (fun _ : World => True) (by kernel_rfl) ?_
   replace hb5 : Box w5.drew rb 61 #[.slice A n c, .bool true] := hb5
   replace ha5 : Box w5.drew ab 52 cells' := ha5
   replace hr5 : RdB w5.drew B A n c l := hr5.drew
   replace hrd5 := hrd5.drew
   replace hK5 := hK5.drew
   have hsub : IntKind.i64.wrap ((n : Int) - (l2.length : Int)) = ((n - l2.length : Nat) : Int) := by rw [IntWalk.i64_in _ ⟨by omega, by omega⟩]; omega
   generalize w5.drew = wd at *
   refine rg_t 0 trivial ?_
   simp only [List.getElem_toArray, List.getElem_cons_zero, Act.put, List.setIfInBounds_toArray, List.set_cons_zero, List.set_cons_succ]
   refine rg_t 1 trivial ?_
   simp only [g_S, Act.put]
   refine rg_t 2 trivial ?_
   simp only [g_S, Act.put]
   refine rg_t 3 trivial ?_
   simp only [g_S, Act.put]
   refine rg_t 6 trivial ?_
   simp only [g_S, Act.put]
   have y0 := hb5.c0
   have hr6 : MRd wd B rb l true := ⟨A, n, c, hb5, hr5, hn⟩
   have hlf := rdleft_any hrd5
   have htk := mtk_bad hr6 hB ((n - l2.length : Nat) : Int) 0 (.inl rfl)
   refine rg_two 4 7 rfl rfl (by kernel_rfl) rfl rfl (fun K hK => ?_) (fun K hK => ?_)
   ·go_simp
    refine hK _ _ trivial ?_; clear hK K
    clear y0
    try simp only [g_S, Act.put]
    refine rg_t 5 trivial ?_
    simp only [g_S, Act.put]
    refine rg_one 7 rfl (by kernel_rfl) rfl (fun K hK => ?_)
    go_simp
    refine hlf.mono ?_
    rintro e w6 ⟨rfl, rfl⟩
    refine hK _ _ trivial ?_; clear hK K
    try simp only [g_S, Act.put]
    refine rg_t 8 trivial ?_
    simp only [g_S, Act.put]
    refine rg_one 9 rfl (by kernel_rfl) rfl (fun K hK => ?_)
    go_simp
    refine htk.mono ?_
    rintro e w7 ⟨rfl, hM7, hg7⟩
    have ha7 := ha5.grown hg7 (sne (by omega))
    have hK7 := hK5.grown hBw hg7 (fun g hg => by injection hg with hg; exact ⟨by omega, .inl hg.symm⟩)
    refine hK _ _ trivial ?_; clear hK K
    refine rg_end (by kernel_rfl) ?_
    go_wp2_with (with_reducible refine h_A ?_)
    go_end0
    rw [HLR.out, HBR.out]
    exact ⟨rfl, ha7, by simpa [hln] using hM7, hK7⟩
   ·go_simp
    refine hlf.mono ?_
    rintro e w6 ⟨rfl, rfl⟩
    refine hK _ _ trivial ?_; clear hK K
    try simp only [g_S, Act.put]
    refine rg_one 4 rfl (by kernel_rfl) rfl (fun K hK => ?_)
    go_simp
    refine hK _ _ trivial ?_; clear hK K
    clear y0
    try simp only [g_S, Act.put]
    refine rg_t 5 trivial ?_
    simp only [g_S, Act.put]
    refine rg_t 8 trivial ?_
    simp only [g_S, Act.put]
    refine rg_one 9 rfl (by kernel_rfl) rfl (fun K hK => ?_)
    go_simp
    refine htk.mono ?_
    rintro e w7 ⟨rfl, hM7, hg7⟩
    have ha7 := ha5.grown hg7 (sne (by omega))
    have hK7 := hK5.grown hBw hg7 (fun g hg => by injection hg with hg; exact ⟨by omega, .inl hg.symm⟩)
    refine hK _ _ trivial ?_; clear hK K
    refine rg_end (by kernel_rfl) ?_
    go_wp2_with (with_reducible refine h_A ?_)
    go_end0
    rw [HLR.out, HBR.out]
    exact ⟨rfl, ha7, by simpa [hln] using hM7, hK7⟩
 ·go_wp2_with (with_reducible refine h_B ?_)
  refine unhold (wp_box (v := .bool true) (vs := [.bool true]) rfl rfl rfl rfl hb3 rfl (by kernel_rfl) (by simp) (by simp; rfl) #[.slice A n c, .bool true] (by simp) ?_)
  intro w5 hb5 hg5 _
  have ha5 := ha3.grown hg5 (sne (by omega))
  have hr5 := hr3.grown hg5 (by omega) (fun g hg => by injection hg with hg; omega)
  have hrd5 := hrd3.kept hg5 (fun g hg hFg => by injection hg with hg; have := hFg.1; omega)
  have hK5 := hK.grown hBw hg5 (fun g hg => by injection hg with hg; exact ⟨by omega, .inl hg.symm⟩)
  clear hb3 ha3 hr3 hrd3 hK hg5 c1
  go_upto_region 3 with fail
  refine rg_start (fun _ : World => True) (by kernel_rfl) ?_
  replace hb5 : Box w5.drew rb 61 #[.slice A n c, .bool true] := hb5
  replace ha5 : Box w5.drew ab 52 cells' := ha5
  replace hr5 : RdB w5.drew B A n c l := hr5.drew
  replace hrd5 := hrd5.drew
  replace hK5 := hK5.drew
  have hsub : IntKind.i64.wrap ((n : Int) - (l2.length : Int)) = ((n - l2.length : Nat) : Int) := by rw [IntWalk.i64_in _ ⟨by omega, by omega⟩]; omega
  generalize w5.drew = wd at *
  refine rg_t 0 trivial ?_
  simp only [List.getElem_toArray, List.getElem_cons_zero, Act.put, List.setIfInBounds_toArray, List.set_cons_zero, List.set_cons_succ]
  refine rg_t 1 trivial ?_
  simp only [g_S, Act.put]
  refine rg_t 2 trivial ?_
  simp only [g_S, Act.put]
  refine rg_t 3 trivial ?_
  simp only [g_S, Act.put]
  refine rg_t 6 trivial ?_
  simp only [g_S, Act.put]
  have y0 := hb5.c0
  have hr6 : MRd wd B rb l true := ⟨A, n, c, hb5, hr5, hn⟩
  have hlf := rdleft_any hrd5
  have htk := mtk_bad hr6 hB ((n - l2.length : Nat) : Int) 0 (.inl rfl)
  refine rg_two 4 7 rfl rfl (by kernel_rfl) rfl rfl (fun K hK => ?_) (fun K hK => ?_)
  ·go_simp
   refine hK _ _ trivial ?_; clear hK K
   clear y0
   try simp only [g_S, Act.put]
   refine rg_t 5 trivial ?_
   simp only [g_S, Act.put]
   refine rg_one 7 rfl (by kernel_rfl) rfl (fun K hK => ?_)
   go_simp
   refine hlf.mono ?_
   rintro e w6 ⟨rfl, rfl⟩
   refine hK _ _ trivial ?_; clear hK K
   try simp only [g_S, Act.put]
   refine rg_t 8 trivial ?_
   simp only [g_S, Act.put]
   refine rg_one 9 rfl (by kernel_rfl) rfl (fun K hK => ?_)
   go_simp
   refine htk.mono ?_
   rintro e w7 ⟨rfl, hM7, hg7⟩
   have ha7 := ha5.grown hg7 (sne (by omega))
   have hK7 := hK5.grown hBw hg7 (fun g hg => by injection hg with hg; exact ⟨by omega, .inl hg.symm⟩)
   refine hK _ _ trivial ?_; clear hK K
   refine rg_end (by kernel_rfl) ?_
   go_wp2_with (with_reducible refine h_A ?_)
   go_end0
   rw [HLR.out, HBR.out]
   exact ⟨rfl, ha7, by simpa [hln] using hM7, hK7⟩
  ·go_simp
   refine hlf.mono ?_
   rintro e w6 ⟨rfl, rfl⟩
   refine hK _ _ trivial ?_; clear hK K
   try simp only [g_S, Act.put]
   refine rg_one 4 rfl (by kernel_rfl) rfl (fun K hK => ?_)
   go_simp
   refine hK _ _ trivial ?_; clear hK K
   clear y0
   try simp only [g_S, Act.put]
   refine rg_t 5 trivial ?_
   simp only [g_S, Act.put]
   refine rg_t 8 trivial ?_
   simp only [g_S, Act.put]
   refine rg_one 9 rfl (by kernel_rfl) rfl (fun K hK => ?_)
   go_simp
   refine htk.mono ?_
   rintro e w7 ⟨rfl, hM7, hg7⟩
   have ha7 := ha5.grown hg7 (sne (by omega))
   have hK7 := hK5.grown hBw hg7 (fun g hg => by injection hg with hg; exact ⟨by omega, .inl hg.symm⟩)
   refine hK _ _ trivial ?_; clear hK K
   refine rg_end (by kernel_rfl) ?_
   go_wp2_with (with_reducible refine h_A ?_)
   go_end0
   rw [HLR.out, HBR.out]
   exact ⟨rfl, ha7, by simpa [hln] using hM7, hK7⟩
end Go.PH
end

/- Texts laid together: FrScanMath3, FrScanMath4, GaRefSame, OctReadText, OctRef, OctRefNum, FrRefPut. -/
import Derived.BigQuiet
import Derived.Deep.Cut
import Derived.Test.YtfbkameikhgciaaGreatDoorMg00
import Derived.Test.YtfbkameikhgciaaGreatDoorMg05
import Derived.Test.YtfbkameikhgciaaGreatDoorMg06
import Derived.Test.YtfbkameikhgciaaGreatDoorMg07
import Derived.Test.YtfbkameikhgciaaGreatDoorMg08
import Derived.Test.YtfbkameikhgciaaGreatDoorMg09
set_option linter.all false
set_option linter.unusedSimpArgs false
set_option linter.unusedVariables false
section
/- What is scanned, put again; frames' bytes scanned; pieces. -/
namespace Go.PH

theorem be2 (n : Nat) : be 2 n = [UInt8.ofNat (n / 256), UInt8.ofNat n] := by simp [be]
theorem place_take {b : List UInt8} {j k : Nat} (h : j < k) : placeOk (b.take k) j = placeOk b j := by
 have e : ∀ i, i < k → (b.take k).getD i 0 = b.getD i 0 := fun i hi => by simp [List.getD, List.getElem?_take, hi]
 unfold placeOk
 split
 ·next e3 => subst e3; unfold frN; rw [e 2 (by omega), e 3 (by omega)]
 ·rw [e j h]
theorem frWell_take {b : List UInt8} (h : frWell b = true) (k : Nat) : frWell (b.take k) = true := by
 unfold frWell at h ⊢
 rw [List.all_eq_true] at h ⊢
 intro j hj
 have hj := List.mem_range.1 hj
 rw [List.length_take] at hj
 rw [place_take (by omega)]
 exact h j (List.mem_range.2 (by omega))
theorem frWell_app {a : List UInt8} (p : List UInt8) (h : 12 ≤ a.length) : frWell (a ++ p) = frWell a := by
 cases hw : frWell a
 ·cases hw2 : frWell (a ++ p)
  ·rfl
  ·have := frWell_take hw2 a.length
   rw [List.take_left' rfl, hw] at this
   cases this
 ·unfold frWell at hw ⊢
  rw [List.all_eq_true] at hw ⊢
  intro j hj
  have hj := List.mem_range.1 hj
  rw [← place_take (k := a.length) (by omega), List.take_left' rfl]
  exact hw j (List.mem_range.2 (by omega))
theorem frWell_bad {a : List UInt8} (p : List UInt8) (h : frWell a = false) : frWell (a ++ p) = false := by
 cases hw2 : frWell (a ++ p)
 ·rfl
 ·have := frWell_take hw2 a.length
  rw [List.take_left' rfl, h] at this
  cases this
theorem byteF_app {a : List UInt8} (p : List UInt8) {i : Nat} (h : i < a.length) : byteF (a ++ p) i = byteF a i := by
 simp [byteF, List.getD, List.getElem?_append_left h]
theorem frN_app {a : List UInt8} (p : List UInt8) (h : 4 ≤ a.length) : frN (a ++ p) = frN a := by
 rw [frN_eq, frN_eq, byteF_app p (by omega), byteF_app p (by omega)]
theorem frAt_app {a : List UInt8} (p : List UInt8) {n : Nat} (h : 12 ≤ a.length) (hn : n ≤ a.length) : frAt (a ++ p) n = frAt a n := by
 unfold frAt
 rw [byteF_app p (by omega), byteF_app p (by omega), byteF_app p (by omega), byteF_app p (by omega), byteF_app p (by omega), List.take_append_of_le_length hn]
/-- pieces -/
theorem frScan_app (a p : List UInt8) : ((frScan a).2.2 = 0 → frScan (a ++ p) = ((frScan a).1 ++ (frScan (a.drop (frScan a).2.1 ++ p)).1, (frScan a).2.1 + (frScan (a.drop (frScan a).2.1 ++ p)).2.1, (frScan (a.drop (frScan a).2.1 ++ p)).2.2)) ∧
  ((frScan a).2.2 ≠ 0 → frScan (a ++ p) = frScan a) := by
 induction hn : a.length using Nat.strongRecOn generalizing a with
 | ind n ih =>
  subst hn
  by_cases hw : frWell a = false
  ·rw [frScan_bad hw, frScan_bad (frWell_bad p hw)]
   exact ⟨fun h => by simp at h, fun _ => rfl⟩
  ·have hw1 : frWell a = true := by simpa using hw
   by_cases h12 : a.length < 12
   ·rw [frScan_short hw1 h12]
    exact ⟨fun _ => by simp, fun h => absurd rfl h⟩
   ·by_cases hl : a.length < frN a
    ·rw [frScan_wait hw1 (by omega) hl]
     exact ⟨fun _ => by simp, fun h => absurd rfl h⟩
    ·have hN := (frWell_n hw1 (by omega)).1
     rw [frScan_more hw1 (by omega) (by omega)]
     have hw2 : frWell (a ++ p) = true := by rw [frWell_app p (by omega)]; exact hw1
     have hN2 := frN_app (a := a) p (by omega)
     rw [frScan_more hw2 (by simp; omega) (by rw [hN2]; simp; omega), hN2, frAt_app p (by omega) (by omega), List.drop_append_of_le_length (by omega)]
     obtain ⟨i1, i2⟩ := ih _ (by rw [List.length_drop]; omega) (a.drop (frN a)) rfl
     simp only
     refine ⟨fun h => ?_, fun h => ?_⟩
     ·rw [i1 h]
      simp [List.drop_drop, Nat.add_assoc]
     ·rw [i2 h]
end Go.PH
end
section
/- Frames' bytes, and the beginning of another one's, scanned. -/
namespace Go.PH

theorem flags_back : ∀ a b c d : Bool, ((bitv a 8 + bitv b 4 + bitv c 2 + bitv d 1) / 8 % 2 == 1) = a ∧ ((bitv a 8 + bitv b 4 + bitv c 2 + bitv d 1) / 4 % 2 == 1) = b ∧ ((bitv a 8 + bitv b 4 + bitv c 2 + bitv d 1) / 2 % 2 == 1) = c ∧ ((bitv a 8 + bitv b 4 + bitv c 2 + bitv d 1) % 2 == 1) = d := by decide
theorem toNat_of (n : Nat) : (UInt8.ofNat n).toNat = n % 256 := by rw [UInt8.toNat_ofNat']
theorem Fr.bytes_cons (f : Fr) : f.bytes = UInt8.ofNat f.flags :: UInt8.ofNat f.ty :: UInt8.ofNat ((12 + f.load.length) / 256) :: UInt8.ofNat (12 + f.load.length) :: 0 :: UInt8.ofNat f.track :: UInt8.ofNat (f.chan / 256) :: UInt8.ofNat f.chan :: 0 :: 0 :: 0 :: 0 :: f.load := by
 simp [Fr.bytes, be2]
theorem fr_all {f : Fr} (hw : f.wf) (hok : f.ok = true) : frWell f.bytes = true ∧ frN f.bytes = f.bytes.length ∧ frAt f.bytes f.bytes.length = f := by
 have hfl := f.flags_lt
 obtain ⟨w1, w2, w3⟩ := hw
 have ⟨⟨o1, o2⟩, o3⟩ : (f.ty ≤ 3 ∧ f.track ≤ 15) ∧ f.load.length ≤ 4084 := by unfold Fr.ok at hok; simpa using hok
 have hlen := f.bytes_length
 have hN : frN f.bytes = f.bytes.length := by
  rw [hlen, f.bytes_cons, frN_eq]
  simp only [byteF, List.getD_cons_zero, List.getD_cons_succ, toNat_of]
  omega
 refine ⟨?_, hN, ?_⟩
 ·unfold frWell
  rw [List.all_eq_true]
  intro k hk
  have hk := List.mem_range.1 hk
  have hk12 : k < 12 := by omega
  unfold placeOk
  rw [hN]
  split
  ·simp; omega
  ·next h3 =>
   rw [f.bytes_cons]
   match k, hk12, h3 with
   | 0, _, _ => simp [frMost, toNat_of]; omega
   | 1, _, _ => simp [frMost, toNat_of]; omega
   | 2, _, _ => simp [frMost, toNat_of]; omega
   | 3, _, h => exact absurd rfl h
   | 4, _, _ => simp [frMost]
   | 5, _, _ => simp [frMost, toNat_of]; omega
   | 6, _, _ => simp [frMost, toNat_of]; omega
   | 7, _, _ => simp [frMost, toNat_of]; omega
   | 8, _, _ => simp [frMost]
   | 9, _, _ => simp [frMost]
   | 10, _, _ => simp [frMost]
   | 11, _, _ => simp [frMost]
 ·rw [hlen]
  have hb : frAt f.bytes (12 + f.load.length) = ⟨byteF f.bytes 0 / 8 % 2 == 1, byteF f.bytes 0 / 4 % 2 == 1, byteF f.bytes 0 / 2 % 2 == 1, byteF f.bytes 0 % 2 == 1, byteF f.bytes 1, byteF f.bytes 5, 256 * byteF f.bytes 6 + byteF f.bytes 7, (f.bytes.take (12 + f.load.length)).drop 12⟩ := rfl
  have h0 : byteF f.bytes 0 = f.flags := by rw [f.bytes_cons]; simp only [byteF, List.getD_cons_zero, toNat_of]; omega
  have h1 : byteF f.bytes 1 = f.ty := by rw [f.bytes_cons]; simp only [byteF, List.getD_cons_zero, List.getD_cons_succ, toNat_of]; omega
  have h5 : byteF f.bytes 5 = f.track := by rw [f.bytes_cons]; simp only [byteF, List.getD_cons_zero, List.getD_cons_succ, toNat_of]; omega
  have h67 : 256 * byteF f.bytes 6 + byteF f.bytes 7 = f.chan := by rw [f.bytes_cons]; simp only [byteF, List.getD_cons_zero, List.getD_cons_succ, toNat_of]; omega
  have hld : (f.bytes.take (12 + f.load.length)).drop 12 = f.load := by
   rw [← hlen, List.take_length, f.bytes_cons]; rfl
  rw [hb, h0, h1, h5, h67, hld]
  have := flags_back f.first f.last f.beg f.fin
  unfold Fr.flags
  rw [this.1, this.2.1, this.2.2.1, this.2.2.2]
theorem frScan_one {f : Fr} (hw : f.wf) (hok : f.ok = true) (r : List UInt8) : frScan (f.bytes ++ r) = (f :: (frScan r).1, f.bytes.length + (frScan r).2.1, (frScan r).2.2) := by
 obtain ⟨h1, h2, h3⟩ := fr_all hw hok
 have hlen := f.bytes_length
 have e1 : frN (f.bytes ++ r) = f.bytes.length := by rw [frN_app r (by omega), h2]
 rw [frScan_more (by rw [frWell_app r (by omega)]; exact h1) (by simp; omega) (by rw [e1]; simp), e1, frAt_app r (by omega) (Nat.le_refl _), h3, List.drop_left' rfl]
theorem frScan_row {l : List Fr} (hw : ∀ f ∈ l, f.wf) (r : List UInt8) : frScan (frBytes l ++ r) = (frOks l ++ (frScan r).1, (frBytes l).length + (frScan r).2.1, (frScan r).2.2) := by
 induction l with
 | nil => simp [frBytes, frOks]
 | cons f l ih =>
  have ih := ih (fun g hg => hw g (List.mem_cons_of_mem _ hg))
  cases hok : f.ok
  ·have e1 : frOks (f :: l) = frOks l := by simp [frOks, hok]
   have e2 : frBytes (f :: l) = frBytes l := by unfold frBytes; rw [e1]
   rw [e1, e2]; exact ih
  ·have e1 : frOks (f :: l) = f :: frOks l := by simp [frOks, hok]
   have e2 : frBytes (f :: l) = f.bytes ++ frBytes l := by unfold frBytes; rw [e1]; simp
   rw [e1, e2, List.append_assoc, frScan_one (hw f (List.mem_cons_self ..)) hok, ih]
   simp [Nat.add_assoc]
end Go.PH
end
section
/- The walk of the document's Same of assemblies. -/
namespace Go.PH
open Go.RowKit Go.Proofs

theorem seg_fields : Tryz.prog.underlying 84 = some (.struct (Tryz.prog.fieldsOf 84)) := by kernel_rfl
theorem seg_stood : Tryz.prog.stoodInHeld 84 = false := by kernel_rfl
theorem seg_neq (a b : Sg) (w : World) : (binOp .neq 84 (.agg #[.int .u8 (a.ty : Int), .string (str a.load)]) (.agg #[.int .u8 (b.ty : Int), .string (str b.load)])).run Tryz.prog w = .ok (.bool (!decide (a = b))) w := by
 rw [run_neq_struct, run_equalIn_struct w 9999 84 _ _ seg_fields seg_stood]
 simp only [Program.fieldsOf, Tryz.underlying84]
 obtain ⟨ty, ld⟩ := a
 obtain ⟨ty', ld'⟩ := b
 simp only [Sg.mk.injEq]
 by_cases h : (ty : Int) = (ty' : Int)
 ·have e := Int.ofNat_inj.1 h
  subst e
  by_cases h : ld = ld'
  ·subst h
   simp [Op.eqFields, part, run_equalIn_int _ 9998 5 .u8 .u8 _ _ Tryz.underlying5, run_equalIn_string _ 9998 9 _ _ Tryz.underlying9, Result.andThen, typeInfo, sizeOf]
  ·have h2 : ((str ld).toList == (str ld').toList) = false := by rw [str_toList, str_toList]; simpa using h
   simp [Op.eqFields, part, run_equalIn_int _ 9998 5 .u8 .u8 _ _ Tryz.underlying5, run_equalIn_string _ 9998 9 _ _ Tryz.underlying9, h2, Result.andThen, typeInfo, sizeOf]
   rw [str_toList, str_toList] at h2
   simpa using h2
 ·simp [Op.eqFields, part, run_equalIn_int _ 9998 5 .u8 .u8 _ _ Tryz.underlying5, h, Result.andThen, typeInfo, sizeOf]
  omega
set_option maxRecDepth 20000 in
set_option maxHeartbeats 4000000 in
theorem rgsame_any (a b : As) (A : Option Addr) (c : Nat) (A' : Option Addr) (c' : Nat) (B : Nat) (w : World) (hr : RdG w B A a.segs.length c a.segs) (hr' : RdG w B A' b.segs.length c' b.segs) (hB : B ≤ w.heap.size) (hn : a.segs.length ≤ 140737488351232) (hn' : b.segs.length ≤ 140737488351232) :
  Calls Tryz.prog 19 #[.agg (asV a.chan a.track A a.segs.length c), .agg (asV b.chan b.track A' b.segs.length c')] w fun e w' => e = .returned (.bool (decide (a = b))) ∧ Below w.heap.size w w' := by
 obtain ⟨ch, tr, l⟩ := a
 obtain ⟨ch', tr', l'⟩ := b
 simp only at *
 obtain ⟨n, hn0⟩ : ∃ n, n = l.length := ⟨_, rfl⟩
 obtain ⟨n', hn0'⟩ : ∃ n, n = l'.length := ⟨_, rfl⟩
 rw [← hn0] at hr hn ⊢
 rw [← hn0'] at hr' hn' ⊢
 have HN := Lib.hid hn0
 have HN' := Lib.hid hn0'
 clear hn0 hn0'
 obtain ⟨R, hR⟩ : ∃ R, R = decide ((⟨ch, tr, l⟩ : As) = ⟨ch', tr', l'⟩) := ⟨_, rfl⟩
 rw [← hR]
 have HR := Lib.hid hR
 clear hR
 obtain ⟨xb, w0, hqb, hqv, hX, hB0⟩ := alloc_stepG w (asV ch tr A n c) 42
 obtain ⟨yb, w1, hqb', hqv', hY, hB1⟩ := alloc_stepG w0 (asV ch' tr' A' n' c') 42
 have hX1 := hX.below hB1
 have hB2 := hB0.trans (hB1.mono hB0.size)
 unfold asV at *
 clear hX hB0 hB1
 go_enter Tryz.func19, Tryz.ntmps19
 go_upto_region 1 with fail
 have e1 : yb = w.heap.size + 1 := by rw [hqb', hqv]; simp
 rw [← e1, ← hqb, ← hqv, ← hqv']
 clear hqb hqv hqb' hqv' e1
 have x0 := hX1.c0
 have x1 := hX1.c1
 have x2 := hX1.c2
 have y0 := hY.c0
 have y1 := hY.c1
 have y2 := hY.c2
 by_cases q0 : ch = ch'
 ·subst q0
  by_cases q1 : tr = tr'
  ·subst q1
   by_cases q2 : n = n'
   ·subst q2
    go_wp2_with (with_reducible refine h_A ?_)
    go_loopw [5] (fun s wr => ∃ (k : Nat), k ≤ n ∧ s = .int .i64 k ∧ Hid (l.take k = l'.take k) ∧ Box wr xb 42 #[.int .u16 (ch : Int), .int .u8 (tr : Int), .slice A n c] ∧ Box wr yb 42 #[.int .u16 (ch : Int), .int .u8 (tr : Int), .slice A' n c'] ∧ Below w.heap.size w wr) (fun s _ => n - (RowKit.intOf s).toNat)
    case atStart => exact ⟨0, by omega, rfl, Lib.hid rfl, hX1, hY, hB2⟩
    case round =>
     clear x0 x1 x2 y0 y1 y2 hX1 hY hB2
     obtain ⟨k, hk, rfl, HK, hX, hY, hB2⟩ := hrel
     have x2 := hX.c2
     have y2 := hY.c2
     by_cases hlt : k < n
     ·have g1 : (k : Int) < (n : Int) := by omega
      obtain ⟨b, off, rfl, hbB, hkl, hc⟩ := rec_at sgShape (Rd.below hr (hB2.mono hB)) hlt
      obtain ⟨b', off', rfl, hbB', hkl', hc'⟩ := rec_at sgShape (Rd.below hr' (hB2.mono hB)) hlt
      have HT := Lib.hid (List.take_succ_eq_append_getElem hkl)
      have HT' := Lib.hid (List.take_succ_eq_append_getElem hkl')
      have HE : Hid (l = l' → l[k] = l'[k]) := Lib.hid (fun h => by subst h; rfl)
      generalize l[k] = x at *
      generalize l'[k] = x' at *
      obtain ⟨ty, ld⟩ := x
      obtain ⟨ty', ld'⟩ := x'
      have hneq := fun w => seg_neq ⟨ty, ld⟩ ⟨ty', ld'⟩ w
      simp only at hneq
      have k0 : wr.cell? ⟨b, off + k * 2, none⟩ = _ := hc 0 _ rfl
      have k1 := hc 1 _ rfl
      have j0 : wr.cell? ⟨b', off' + k * 2, none⟩ = _ := hc' 0 _ rfl
      have j1 := hc' 1 _ rfl
      obtain ⟨q, hq⟩ : ∃ q, q = decide ((⟨ty, ld⟩ : Sg) = ⟨ty', ld'⟩) := ⟨_, rfl⟩
      rw [← hq] at hneq
      have HQ := Lib.hid hq
      clear hq hc hc'
      go_upto_region 6 with fail
      try simp only [Act.put]
      go_quiet (fail)
      have hX3 := hX.below (below_drewN (Below.refl _ _) nq)
      have hY3 := hY.below (below_drewN (Below.refl _ _) nq)
      have hB3 := below_drewN hB2 nq
      clear k0 k1 j0 j1 x2 y2 hneq
      cases q
      ·have HV : Hid (R = false) := Lib.hid (by
        rw [HR.out, decide_eq_false]
        intro e
        injection e with _ _ e
        have := HQ.out
        rw [HE.out e] at this
        simp at this)
       go_wp2_with (with_reducible refine h_A ?_)
       go_ret
       exact ⟨by rw [HV.out]; rfl, hB3⟩
      ·have HQ2 := of_decide_eq_true HQ.out.symm
       have HK2 : Hid (l.take (k + 1) = l'.take (k + 1)) := Lib.hid (by rw [HT.out, HT'.out, HK.out, HQ2])
       clear HQ2 HE
       go_wp2_with (with_reducible refine h_A ?_)
       exact ⟨⟨k + 1, by omega, by go_num, HK2, hX3, hY3, hB3⟩, by simp [RowKit.intOf]; omega⟩
     ·have g1 : ¬ (k : Int) < (n : Int) := by omega
      have HV : Hid (R = true) := Lib.hid (by
       have e := HK.out
       rw [List.take_of_length_le (by have := HN.out; omega), List.take_of_length_le (by have := HN'.out; omega)] at e
       rw [HR.out, e]
       simp)
      go_wp2_with (with_reducible refine h_A ?_)
      go_ret
      exact ⟨by rw [HV.out]; rfl, hB2⟩
   ·have d2 : ((n : Int) != (n' : Int)) = true := by simp; omega
    have HV : Hid (R = false) := Lib.hid (by
     rw [HR.out, decide_eq_false]
     intro e
     injection e with _ _ e
     exact q2 (by rw [HN.out, HN'.out, e]))
    clear q2
    go_wp2_with (with_reducible refine h_A ?_)
    go_ret
    exact ⟨by rw [HV.out]; rfl, hB2⟩
  ·have d1 : ((tr : Int) != (tr' : Int)) = true := by simp; omega
   have HV : Hid (R = false) := Lib.hid (by
    rw [HR.out, decide_eq_false]
    intro e
    injection e with _ e _
    exact q1 e)
   clear q1
   go_wp2_with (with_reducible refine h_A ?_)
   go_ret
   exact ⟨by rw [HV.out]; rfl, hB2⟩
 ·have d0 : ((ch : Int) != (ch' : Int)) = true := by simp; omega
  have HV : Hid (R = false) := Lib.hid (by
   rw [HR.out, decide_eq_false]
   intro e
   injection e with e _ _
   exact q0 e)
  clear q0
  go_wp2_with (with_reducible refine h_A ?_)
  go_ret
  exact ⟨by rw [HV.out]; rfl, hB2⟩
end Go.PH
end
section
/- The walk of octet's Text. -/
namespace Go.PH
open Go.RowKit Go.Proofs

set_option maxHeartbeats 1000000 in
theorem rdtext_any {F : Nat → Prop} {w : World} {v : Value} {vb : Option Nat} {l : List UInt8} {bad : Bool} (h : Rdr F w v vb l bad) (x most : Int) (hx : -9223372036854775808 ≤ x) (hx' : x ≤ 9223372036854775807) (hm : -9223372036854775808 ≤ most) (hm' : most ≤ 9223372036854775807) :
  Calls Tryz.prog 157 #[v, .int .i64 x, .int .i64 most] w fun e w' => e = .returned (.string (str (mtext l bad x most).1)) ∧ Rdr F w' v vb (mtext l bad x most).2.1 (mtext l bad x most).2.2 ∧ w.grownBy w' vb := by
 by_cases h8 : x = 8
 ·subst h8
  rw [mtext_no (by omega)]
  go_enter Tryz.func157, Tryz.ntmps157
  go_wp2_with (with_reducible refine h_A ?_)
  refine (rdspoil_any h).mono ?_
  rintro e w1 ⟨rfl, h1, hg1⟩
  go_wp2_with (with_reducible refine h_A ?_)
  go_ret
  exact ⟨rfl, h1, hg1⟩
 have hN := rdnum_any h x hx hx'
 have hlt := mnum_lt l bad x
 rw [mtext_eq h8]
 generalize mnum l bad x = r at hN hlt ⊢
 obtain ⟨n, l', bad'⟩ := r
 simp only at hN hlt ⊢
 by_cases hb : bad' = true
 ·subst hb
  rw [if_pos (.inl rfl)]
  go_enter Tryz.func157, Tryz.ntmps157
  go_wp2_with (with_reducible refine h_A ?_)
  refine hN.mono ?_
  rintro e w1 ⟨rfl, h1, hg1⟩
  go_wp2_with (with_reducible refine h_A ?_)
  refine (rdbad_any h1).mono ?_
  rintro e w2 ⟨rfl, rfl⟩
  go_wp2_with (with_reducible refine h_A ?_)
  refine (rdspoil_any h1).mono ?_
  rintro e w3 ⟨rfl, h3, hg3⟩
  go_wp2_with (with_reducible refine h_A ?_)
  go_ret
  exact ⟨rfl, h3, hg1.trans hg3⟩
 obtain rfl : bad' = false := by simpa using hb
 by_cases hneg : most < 0
 ·rw [if_pos (.inr (.inl hneg))]
  go_enter Tryz.func157, Tryz.ntmps157
  go_wp2_with (with_reducible refine h_A ?_)
  refine hN.mono ?_
  rintro e w1 ⟨rfl, h1, hg1⟩
  go_wp2_with (with_reducible refine h_A ?_)
  refine (rdbad_any h1).mono ?_
  rintro e w2 ⟨rfl, rfl⟩
  go_wp2_with (with_reducible refine h_A ?_)
  refine (rdspoil_any h1).mono ?_
  rintro e w3 ⟨rfl, h3, hg3⟩
  go_wp2_with (with_reducible refine h_A ?_)
  go_ret
  exact ⟨rfl, h3, hg1.trans hg3⟩
 by_cases hmore : most < (n : Int)
 ·rw [if_pos (.inr (.inr (.inl hmore)))]
  go_enter Tryz.func157, Tryz.ntmps157
  go_wp2_with (with_reducible refine h_A ?_)
  refine hN.mono ?_
  rintro e w1 ⟨rfl, h1, hg1⟩
  go_wp2_with (with_reducible refine h_A ?_)
  refine (rdbad_any h1).mono ?_
  rintro e w2 ⟨rfl, rfl⟩
  go_wp2_with (with_reducible refine h_A ?_)
  refine (rdspoil_any h1).mono ?_
  rintro e w3 ⟨rfl, h3, hg3⟩
  go_wp2_with (with_reducible refine h_A ?_)
  go_ret
  exact ⟨rfl, h3, hg1.trans hg3⟩
 by_cases hleft : l'.length < n
 ·rw [if_pos (.inr (.inr (.inr hleft)))]
  go_enter Tryz.func157, Tryz.ntmps157
  go_wp2_with (with_reducible refine h_A ?_)
  refine hN.mono ?_
  rintro e w1 ⟨rfl, h1, hg1⟩
  have hll := h1.len
  go_wp2_with (with_reducible refine h_A ?_)
  refine (rdbad_any h1).mono ?_
  rintro e w2 ⟨rfl, rfl⟩
  go_wp2_with (with_reducible refine h_A ?_)
  refine (rdleft_any h1).mono ?_
  rintro e w2 ⟨rfl, rfl⟩
  go_wp2_with (with_reducible refine h_A ?_)
  refine (rdspoil_any h1).mono ?_
  rintro e w3 ⟨rfl, h3, hg3⟩
  go_wp2_with (with_reducible refine h_A ?_)
  go_ret
  exact ⟨rfl, h3, hg1.trans hg3⟩
 rw [if_neg (by simp; omega), mtake_yes (by omega)]
 have hn63 : (n : Int) ≤ 9223372036854775807 := by omega
 have hleft' : ¬ ((l'.length : Int) < (n : Int)) := by omega
 have hneg' : 0 ≤ most := by omega
 have hmore' : (n : Int) ≤ most := by omega
 go_enter Tryz.func157, Tryz.ntmps157
 go_wp2_with (with_reducible refine h_A ?_)
 refine hN.mono ?_
 rintro e w1 ⟨rfl, h1, hg1⟩
 have hll := h1.len
 go_wp2_with (with_reducible refine h_A ?_)
 refine (rdbad_any h1).mono ?_
 rintro e w2 ⟨rfl, rfl⟩
 go_wp2_with (with_reducible refine h_A ?_)
 refine (rdleft_any h1).mono ?_
 rintro e w2 ⟨rfl, rfl⟩
 go_wp2_with (with_reducible refine h_A ?_)
 have hT := rdtake_any h1 (n : Int) (by omega) (by omega)
 rw [mtake_yes (by omega)] at hT
 simp only [List.length_take, Nat.min_eq_left (Nat.le_of_not_lt hleft)] at hT
 refine hT.mono ?_
 rintro e w3 ⟨A3, c3, rfl, ho3, h3, hg3⟩
 have hcv := run_strB ho3.rd
 go_wp2_with (with_reducible refine h_A ?_)
 go_ret
 exact ⟨rfl, h3, hg1.trans hg3⟩
end Go.PH
end
section
/- The walks of the reference's reader. -/
namespace Go.PH
open Go.RowKit Go.Proofs

/-- the reference's reader in block b -/
def Qrd (F : Nat → Prop) (w : World) (b : Nat) (l : List UInt8) (bad : Bool) : Prop :=
 ∃ A n c, w.cell? ⟨b, 0, none⟩ = some (.slice A n c) ∧ w.cell? ⟨b, 1, none⟩ = some (.bool bad) ∧ w.frozen? ⟨b, 0, none⟩ = false ∧ w.frozen? ⟨b, 1, none⟩ = false ∧ RdB w w.heap.size A n c l ∧ blk A ≠ some b ∧ n ≤ 140737488351240 ∧ F b ∧ ∀ g, blk A = some g → F g
theorem Qrd.len {F : Nat → Prop} {w : World} {b : Nat} {l : List UInt8} {bad : Bool} (h : Qrd F w b l bad) : l.length ≤ 140737488351240 := by
 obtain ⟨A, n, c, _, _, _, _, hr, _, hn, _⟩ := h
 rw [hr.length]; exact hn
theorem Qrd.lt {F : Nat → Prop} {w : World} {b : Nat} {l : List UInt8} {bad : Bool} (h : Qrd F w b l bad) : b < w.heap.size := by
 obtain ⟨A, n, c, h0, _⟩ := h
 exact World.block_lt_of_cell? w _ h0

theorem Qrd.kept {F : Nat → Prop} {w w' : World} {b : Nat} {l : List UInt8} {bad : Bool} {row : Option Nat} (h : Qrd F w b l bad) (hg : w.grownBy w' row) (hne : ∀ g, row = some g → ¬ F g) : Qrd F w' b l bad := by
 obtain ⟨A, n, c, h0, h1, hf0, hf1, hr, hA, hn, hF, hF2⟩ := h
 have hb : b < w.heap.size := World.block_lt_of_cell? w _ h0
 refine ⟨A, n, c, hg.cell h0 (fun e => hne _ e.symm hF), hg.cell h1 (fun e => hne _ e.symm hF), (hg.frozen_far ⟨b, 0, none⟩ hb (fun e => hne _ e.symm hF)).trans hf0, (hg.frozen_far ⟨b, 1, none⟩ hb (fun e => hne _ e.symm hF)).trans hf1, (hr.grown_ne hg (Nat.le_refl _) ?_).more hg.size, hA, hn, hF, hF2⟩
 rcases hA : blk A with _ | g
 ·exact .inl rfl
 ·exact .inr fun e => hne g e.symm (hF2 g hA)
theorem Qrd.below {F : Nat → Prop} {w w' : World} {b : Nat} {l : List UInt8} {bad : Bool} (h : Qrd F w b l bad) (hB : Below w.heap.size w w') : Qrd F w' b l bad := h.kept (grownOf hB none) (by simp)
theorem Qrd.drew {F : Nat → Prop} {w : World} {b : Nat} {l : List UInt8} {bad : Bool} (h : Qrd F w b l bad) : Qrd F w.drew b l bad := h.kept (grownDrew w none) (by simp)
theorem Qrd.inF {F : Nat → Prop} {w : World} {b : Nat} {l : List UInt8} {bad : Bool} (h : Qrd F w b l bad) : F b := by
 obtain ⟨A, n, c, h0, h1, hf0, hf1, hr, hA, hn, hF, hF2⟩ := h
 exact hF
end Go.PH
end
section
/- The walk of the reference's Number. -/
namespace Go.PH
open Go.RowKit Go.Proofs

set_option maxHeartbeats 1000000 in
theorem rnumber_any (n i : Nat) (w : World) (hn : n < 18446744073709551616) (hi8 : i ≤ 8) :
  Calls Tryz.prog 67 #[.int .u64 n, .int .i64 i] w fun e w' => ∃ A2 c2, e = .returned (.slice A2 i c2) ∧ Own w' w.heap.size 5 1 A2 i c2 ((be i n).map u8v) ∧ Below w.heap.size w w' := by
 go_enter Tryz.func67, Tryz.ntmps67
 go_wp2_with (with_reducible refine h_A ?_)
 go_loopw [6, 5, 0] (fun x v s wr => ∃ (k c2 m : Nat) (A2 : Option Addr), k ≤ i ∧ x = .int .i64 k ∧ v = .slice A2 k c2 ∧ s = .int .u64 (m : Nat) ∧ m = n / 256 ^ k ∧ m < 18446744073709551616 ∧ Own wr w.heap.size 5 1 A2 k c2 ((be k n).map u8v) ∧ Below w.heap.size w wr) (fun x _ _ _ => i - (RowKit.intOf x).toNat)
 case atStart => exact ⟨0, 0, n, none, by omega, rfl, rfl, rfl, by simp, hn, by simpa [be] using Own.none_ _ _ _ _, Below.refl _ _⟩
 case round =>
  obtain ⟨k, c2, m, A2, hk, rfl, rfl, rfl, hm, hm64, ho, hB⟩ := hrel
  have HM := Lib.hid hm
  clear hm
  by_cases hlt : k < i
  ·have hlit := own_lit (w := wr) wr.heap.size #[Value.int .u8 ((m : Int) % 256)] 5 1 (Nat.le_refl _) (by simp [maxLen]) rfl (size := 1) (by omega)
   have hB1 : Below w.heap.size w (wr.alloc (.cells #[Value.int .u8 ((m : Int) % 256)] 5)) := hB.alloc hB.size _
   have hr1 := Own.rd (base := w.heap.size) (e := 5) (ho.alloc (.cells #[Value.int .u8 ((m : Int) % 256)] 5))
   go_wp2_with (with_reducible refine h_A ?_)
   refine unhold (wp_app (base := wr.heap.size) slB rfl rfl rfl rfl hlit hr1 (map_one _) (by omega) (by simp [maxLen]; omega) (by simp) ?_)
   intro A3 c3 w3 ho3 hg3 _
   have hB3 : Below w.heap.size w w3 := hB1.grown hg3 (by have := hB.size; simp; omega) (fun g hg => by have := (hlit.blk_lt hg).1; have := hB.size; omega)
   have e3 : ((#[Value.int .u8 ((m : Int) % 256)] : Array Value).toList ++ (be k n).map u8v) = (be (k + 1) n).map u8v := by
    simp only [be, List.map_cons, u8v, List.cons_append, List.nil_append]
    rw [HM.out]
    simp
   rw [e3, Nat.add_comm] at ho3
   have ho3' := ho3.base_le hB.size
   have hmq : m / 256 = n / 256 ^ (k + 1) := by rw [HM.out, Nat.div_div_eq_div_mul, Nat.pow_succ]
   have HMQ := Lib.hid hmq
   clear hmq e3
   go_wp2_with (with_reducible refine h_A ?_)
   exact ⟨⟨k + 1, c3, m / 256, A3, by omega, by go_num, by simp [Nat.add_comm], by first | rfl | simp, HMQ.out, by omega, ho3', hB3⟩, by simp [RowKit.intOf]; omega⟩
  ·obtain rfl : k = i := by omega
   go_wp2_with (with_reducible refine h_A ?_)
   go_ret
   exact ⟨A2, c2, rfl, ho, hB⟩

end Go.PH
end
section
/- The walks of the reference's Check, bit and Put of frames. -/
namespace Go.PH
open Go.RowKit Go.Proofs

set_option maxRecDepth 20000 in
theorem frrcheck_any (f : Fr) (w : World) (hw : f.wf) (hl : f.load.length ≤ 140737488351232) :
  Calls Tryz.prog 65 #[.agg (frV f)] w fun e w' => e = .returned (.int .i64 f.err) ∧ Below w.heap.size w w' := by
 obtain ⟨b1, b2, b3, b4, ty, tr, ch, ld⟩ := f
 obtain ⟨h1, h2, h3⟩ := hw
 simp only at h1 h2 h3 hl
 have hB : Below w.heap.size w (w.alloc (.cells #[.bool b1, .bool b2, .bool b3, .bool b4, .int .u8 (ty : Int), .int .u8 (tr : Int), .int .u16 (ch : Int), .string (str ld)] 97)) := (Below.refl _ _).alloc (Nat.le_refl _) _
 have hss := str_size ld
 by_cases c1 : 3 < ty
 ·have hd1 : (3 : Int) < (ty : Int) := by omega
  have he : Fr.err ⟨b1, b2, b3, b4, ty, tr, ch, ld⟩ = 60 := by simp [Fr.err, Fr.ok]; omega
  rw [he]
  unfold frV
  go_enter Tryz.func65, Tryz.ntmps65
  go_wp2_with (with_reducible refine h_A ?_)
  go_ret
  exact ⟨rfl, hB⟩
 ·have hd1 : decide ((3 : Int) < (ty : Int)) = false := by simp; omega
  by_cases c2 : 15 < tr
  ·have hd2 : (15 : Int) < (tr : Int) := by omega
   have he : Fr.err ⟨b1, b2, b3, b4, ty, tr, ch, ld⟩ = 60 := by simp [Fr.err, Fr.ok]; omega
   rw [he]
   unfold frV
   go_enter Tryz.func65, Tryz.ntmps65
   go_wp2_with (with_reducible refine h_A ?_)
   go_ret
   exact ⟨rfl, hB⟩
  ·have hd2 : decide ((15 : Int) < (tr : Int)) = false := by simp; omega
   by_cases c3 : 4084 < ld.length
   ·have hd3 : (4084 : Int) < ((str ld).size : Int) := by omega
    have he : Fr.err ⟨b1, b2, b3, b4, ty, tr, ch, ld⟩ = 60 := by simp [Fr.err, Fr.ok]; omega
    rw [he]
    clear hss
    unfold frV
    go_enter Tryz.func65, Tryz.ntmps65
    go_wp2_with (with_reducible refine h_A ?_)
    go_ret
    exact ⟨rfl, hB⟩
   ·have hd3 : ¬ (4084 : Int) < ((str ld).size : Int) := by omega
    have he : Fr.err ⟨b1, b2, b3, b4, ty, tr, ch, ld⟩ = 0 := by simp [Fr.err, Fr.ok]; omega
    rw [he]
    clear hss
    unfold frV
    go_enter Tryz.func65, Tryz.ntmps65
    go_wp2_with (with_reducible refine h_A ?_)
    go_ret
    exact ⟨rfl, hB⟩

theorem bit_any (b : Bool) (n : Nat) (w : World) : Calls Tryz.prog 66 #[.bool b, .int .u8 n] w fun e w' => e = .returned (.int .u8 (bitv b n)) ∧ w' = w := by
 cases b
 ·have e1 : bitv false n = 0 := rfl
  rw [e1]
  go_enter Tryz.func66, Tryz.ntmps66
  go_wp2_with (with_reducible refine h_A ?_)
  go_ret
  exact ⟨rfl, rfl⟩
 ·have e1 : bitv true n = n := rfl
  rw [e1]
  go_enter Tryz.func66, Tryz.ntmps66
  go_wp2_with (with_reducible refine h_A ?_)
  go_ret
  exact ⟨rfl, rfl⟩
theorem bitv_le (b : Bool) (n : Nat) : bitv b n ≤ n := by cases b <;> simp [bitv]
set_option maxRecDepth 20000 in
set_option maxHeartbeats 1000000 in
theorem rfput_any (f : Fr) (w : World) (hw : f.wf) (hl : f.load.length ≤ 140737488351232) :
  Calls Tryz.prog 48 #[.agg (frV f)] w fun e w' => ∃ A2 c2, e = .returned (.tuple #[.slice A2 f.put.length c2, .int .i64 f.err]) ∧ Own w' w.heap.size 5 1 A2 f.put.length c2 (f.put.map u8v) ∧ Below w.heap.size w w' := by
 have hck := fun W => frrcheck_any f W hw hl
 have hfb := f.flags_lt
 cases hok : f.ok
 ·have e1 : f.put = [] := by simp [Fr.put, hok]
  have e2 : f.err = 60 := by simp [Fr.err, hok]
  rw [e1, e2]
  rw [e2] at hck
  clear hok e1 e2
  obtain ⟨b1, b2, b3, b4, ty, tr, ch, ld⟩ := f
  unfold frV at hck ⊢
  simp only at hck
  have hB0 : Below w.heap.size w (w.alloc (.cells #[.bool b1, .bool b2, .bool b3, .bool b4, .int .u8 (ty : Int), .int .u8 (tr : Int), .int .u16 (ch : Int), .string (str ld)] 97)) := (Below.refl _ _).alloc (Nat.le_refl _) _
  go_enter Tryz.func48, Tryz.ntmps48
  go_wp2_with (with_reducible refine h_A ?_)
  refine (hck _).mono ?_
  rintro e w1 ⟨rfl, hB1⟩
  have hB2 := hB0.trans (hB1.mono hB0.size)
  go_wp2_with (with_reducible refine h_A ?_)
  go_ret2
  exact ⟨none, 0, rfl, Own.none_ _ _ _ _, hB2⟩
 ·have e1 : f.put = f.bytes := by simp [Fr.put, hok]
  have e2 : f.err = 0 := by simp [Fr.err, hok]
  have hln : f.load.length ≤ 4084 := by simp [Fr.ok] at hok; omega
  have HBY : Hid (f.bytes = (((([UInt8.ofNat f.flags, UInt8.ofNat f.ty] ++ be 2 (12 + f.load.length)) ++ [0, UInt8.ofNat f.track]) ++ be 2 f.chan) ++ [0, 0, 0, 0]) ++ f.load) := Lib.hid (by rw [Fr.bytes])
  have HFL : Hid (f.flags = bitv f.first 8 + bitv f.last 4 + bitv f.beg 2 + bitv f.fin 1) := Lib.hid rfl
  rw [e1, e2]
  rw [e2] at hck
  clear hok e1 e2 hl
  generalize f.flags = fl at *
  generalize hby : f.bytes = by_ at *
  clear hby
  obtain ⟨b1, b2, b3, b4, ty, tr, ch, ld⟩ := f
  unfold frV at hck ⊢
  obtain ⟨hty, htr, hch⟩ := hw
  simp only at hck hln HBY HFL hty htr hch
  have hB0 : Below w.heap.size w (w.alloc (.cells #[.bool b1, .bool b2, .bool b3, .bool b4, .int .u8 (ty : Int), .int .u8 (tr : Int), .int .u16 (ch : Int), .string (str ld)] 97)) := (Below.refl _ _).alloc (Nat.le_refl _) _
  have hb0 := box_new (w := w) (b1 := b1) (b2 := b2) (b3 := b3) (b4 := b4) (ty := ty) (tr := tr) (ch := ch) (ld := ld)
  simp only at hb0
  have hss := str_size ld
  have k1 := bitv_le b1 8
  have k2 := bitv_le b2 4
  have k3 := bitv_le b3 2
  have k4 := bitv_le b4 1
  have hbi := fun W => (⟨bit_any b1 8 W, bit_any b2 4 W, bit_any b3 2 W, bit_any b4 1 W⟩ : _ ∧ _ ∧ _ ∧ _)
  generalize bitv b1 8 = v1 at *
  generalize bitv b2 4 = v2 at *
  generalize bitv b3 2 = v3 at *
  generalize bitv b4 1 = v4 at *
  have hfs : (v1 : Int) + (v2 : Int) + (v3 : Int) + (v4 : Int) = (fl : Int) := by have := HFL.out; omega
  have hwa : IntKind.u8.wrap ((v1 : Int) + (v2 : Int)) = (v1 : Int) + (v2 : Int) := IntWalk.u8_in _ ⟨by omega, by omega⟩
  have hwb : IntKind.u8.wrap ((v1 : Int) + (v2 : Int) + (v3 : Int)) = (v1 : Int) + (v2 : Int) + (v3 : Int) := IntWalk.u8_in _ ⟨by omega, by omega⟩
  have hwc : IntKind.u8.wrap ((v1 : Int) + (v2 : Int) + (v3 : Int) + (v4 : Int)) = (fl : Int) := by rw [hfs]; exact IntWalk.u8_in _ ⟨by omega, by omega⟩
  clear hfs
  have hw12 : IntKind.i64.wrap (12 + (ld.length : Int)) = ((12 + ld.length : Nat) : Int) := by rw [IntWalk.i64_in _ ⟨by omega, by omega⟩]; omega
  have hw13 : IntKind.u64.wrap ((12 + ld.length : Nat) : Int) = ((12 + ld.length : Nat) : Int) := IntWalk.u64_in _ ⟨by omega, by omega⟩
  obtain ⟨L12, hL12⟩ : ∃ L12, L12 = 12 + ld.length := ⟨_, rfl⟩
  rw [← hL12] at hw12 hw13 HBY
  have hL := Lib.hid hL12
  have hLb : L12 < 65536 := by omega
  clear hL12
  go_enter Tryz.func48, Tryz.ntmps48
  go_wp2_with (with_reducible refine h_A ?_)
  refine (hck _).mono ?_
  rintro e w1 ⟨rfl, hB1⟩
  have hB2 := hB0.trans (hB1.mono hB0.size)
  have hb1 := box_below hb0 hB1
  clear hb0 hB0 hB1 hck
  have hS1 : w1.drew.cell? ⟨w.heap.size, 0, none⟩ = some (.bool b1) ∧ w1.drew.cell? ⟨w.heap.size, 1, none⟩ = some (.bool b2) ∧ w1.drew.cell? ⟨w.heap.size, 2, none⟩ = some (.bool b3) ∧ w1.drew.cell? ⟨w.heap.size, 3, none⟩ = some (.bool b4) ∧ w1.drew.cell? ⟨w.heap.size, 4, none⟩ = some (.int .u8 (ty : Int)) ∧ w1.drew.cell? ⟨w.heap.size, 5, none⟩ = some (.int .u8 (tr : Int)) ∧ w1.drew.cell? ⟨w.heap.size, 6, none⟩ = some (.int .u16 (ch : Int)) ∧ w1.drew.cell? ⟨w.heap.size, 7, none⟩ = some (.string (str ld)) := hb1
  have hB2d := below_drewN hB2 1
  go_wp2_with (with_reducible refine h_A ?_)
  refine rg_start (fun wx => wx.cell? ⟨w.heap.size, 0, none⟩ = some (.bool b1) ∧ wx.cell? ⟨w.heap.size, 1, none⟩ = some (.bool b2) ∧ wx.cell? ⟨w.heap.size, 2, none⟩ = some (.bool b3) ∧ wx.cell? ⟨w.heap.size, 3, none⟩ = some (.bool b4) ∧ wx.cell? ⟨w.heap.size, 4, none⟩ = some (.int .u8 (ty : Int)) ∧ wx.cell? ⟨w.heap.size, 5, none⟩ = some (.int .u8 (tr : Int)) ∧ wx.cell? ⟨w.heap.size, 6, none⟩ = some (.int .u16 (ch : Int)) ∧ wx.cell? ⟨w.heap.size, 7, none⟩ = some (.string (str ld))) (by kernel_rfl) ?_
  refine rg_t 0 hS1 ?_
  simp only [List.getElem_toArray, List.getElem_cons_zero, Act.put, List.setIfInBounds_toArray, List.set_cons_zero, List.set_cons_succ]
  refine rg_t 1 hS1 ?_
  simp only [g_S, Act.put]
  refine rg_t 3 hS1 ?_
  simp only [g_S, Act.put]
  refine rg_t 4 hS1 ?_
  simp only [g_S, Act.put]
  refine rg_t 7 hS1 ?_
  simp only [g_S, Act.put]
  refine rg_t 8 hS1 ?_
  simp only [g_S, Act.put]
  refine rg_t 11 hS1 ?_
  simp only [g_S, Act.put]
  refine rg_t 12 hS1 ?_
  simp only [g_S, Act.put]
  refine rg_t 15 hS1 ?_
  simp only [g_S, Act.put]
  refine rg_t 16 hS1 ?_
  simp only [g_S, Act.put]
  refine rg_one 2 rfl (by kernel_rfl) rfl (fun K hK => ?_)
  go_simp
  refine (hbi w1.drew).1.mono ?_
  rintro e w2 ⟨rfl, rfl⟩
  refine hK _ _ hS1 ?_; clear hK K
  refine rg_one 5 rfl (by kernel_rfl) rfl (fun K hK => ?_)
  go_simp
  refine (hbi w1.drew).2.1.mono ?_
  rintro e w2 ⟨rfl, rfl⟩
  refine hK _ _ hS1 ?_; clear hK K
  refine rg_t 6 hS1 ?_
  simp only [g_S, Act.put]
  refine rg_one 9 rfl (by kernel_rfl) rfl (fun K hK => ?_)
  go_simp
  refine (hbi w1.drew).2.2.1.mono ?_
  rintro e w2 ⟨rfl, rfl⟩
  refine hK _ _ hS1 ?_; clear hK K
  refine rg_t 10 hS1 ?_
  simp only [g_S, Act.put]
  refine rg_one 13 rfl (by kernel_rfl) rfl (fun K hK => ?_)
  go_simp
  refine (hbi w1.drew).2.2.2.mono ?_
  rintro e w2 ⟨rfl, rfl⟩
  refine hK _ _ hS1 ?_; clear hK K
  refine rg_t 14 hS1 ?_
  simp only [g_S, Act.put]
  have hz1 : w.heap.size + 1 ≤ w1.drew.heap.size := World.block_lt_of_cell? _ _ hS1.1
  have hlit1 : Own (w1.drew.alloc (.cells #[.int .u8 (fl : Int), .int .u8 (ty : Int)] 5)) (w.heap.size + 1) 5 1 (some ⟨w1.drew.heap.size, 0, none⟩) 2 2 ([UInt8.ofNat fl, UInt8.ofNat ty].map u8v) := by
   have h := own_lit (w := w1.drew) (w.heap.size + 1) #[.int .u8 (fl : Int), .int .u8 (ty : Int)] 5 2 hz1 (by simp [maxLen]) rfl (size := 1) (by omega)
   rw [u8_of (show fl < 256 by omega), u8_of hty] at h ⊢
   exact h
  have hBl1 : Below w.heap.size w (w1.drew.alloc (.cells #[.int .u8 (fl : Int), .int .u8 (ty : Int)] 5)) := hB2d.alloc hB2d.size _
  have hSl1 := box_below hS1 ((Below.refl w1.drew.heap.size w1.drew).alloc (Nat.le_refl _) (.cells #[.int .u8 (fl : Int), .int .u8 (ty : Int)] 5))
  have hzl1 : w.heap.size + 1 ≤ (w1.drew.alloc (.cells #[.int .u8 (fl : Int), .int .u8 (ty : Int)] 5)).heap.size := World.block_lt_of_cell? _ _ hSl1.1
  refine rg_one 17 rfl (by kernel_rfl) rfl (fun K hK => ?_)
  go_simp
  refine hK _ _ hSl1 ?_
  clear hK K
  refine rg_t 18 hSl1 ?_
  simp only [g_S, Act.put]
  refine rg_end (by kernel_rfl) ?_
  have hl0 : [UInt8.ofNat fl, UInt8.ofNat ty].length = 2 := rfl
  generalize [UInt8.ofNat fl, UInt8.ofNat ty] = o0 at *
  have hcl : (w1.alloc (.cells #[.int .u8 (fl : Int), .int .u8 (ty : Int)] 5)).drew = w1.drew.alloc (.cells #[.int .u8 (fl : Int), .int .u8 (ty : Int)] 5) := rfl
  rw [hcl]
  have hgp : (some (⟨w1.heap.size, 0, none⟩ : Addr)) = some ⟨w1.drew.heap.size, 0, none⟩ := rfl
  rw [hgp]
  generalize w1.drew.alloc (.cells #[.int .u8 (fl : Int), .int .u8 (ty : Int)] 5) = wa at *
  generalize some (⟨w1.drew.heap.size, 0, none⟩ : Addr) = Aa at *
  clear hcl hgp hS1 hb1 hB2 hB2d hz1
  clear hbi k1 k2 k3 k4 hwa hwb hwc
  go_wp2_with (with_reducible refine h_A ?_)
  refine (rnumber_any L12 2 wa (by omega) (by omega)).mono ?_
  rintro e wnA ⟨AnA, cnA, rfl, honA, hBnA⟩
  have hBmA := hBl1.trans (hBnA.mono hBl1.size)
  have hSmA := box_below hSl1 hBnA
  have hokA := own_below hlit1 hBnA
  have hzmA : w.heap.size + 1 ≤ wnA.heap.size := World.block_lt_of_cell? _ _ hSmA.1
  clear hlit1 hSl1 hBl1 hBnA
  go_wp2_with (with_reducible refine h_A ?_)
  refine unhold (wp_app slB rfl rfl rfl rfl hokA honA.rd (map_one _) (by omega) (by simp [maxLen]) hzmA ?_)
  intro AA cA wA hoA hgA _
  have hBA := hBmA.grown hgA hBmA.size (fun g hg => by have := (hokA.blk_lt hg).1; omega)
  have hSA := box_keep hSmA hgA (fun e => by have := (hokA.blk_lt e.symm).1; omega)
  rw [← List.map_append] at hoA
  have hzA : w.heap.size + 1 ≤ wA.heap.size := World.block_lt_of_cell? _ _ hSA.1
  have hlA : (o0 ++ be 2 L12).length = 4 := by simp [be_length, hl0]
  clear hokA honA hSmA hBmA hgA
  clear hl0
  generalize o0 ++ be 2 L12 = oA at *
  have hlitB : Own (wA.alloc (.cells #[.int .u8 0, .int .u8 (tr : Int)] 5)) (w.heap.size + 1) 5 1 (some ⟨wA.heap.size, 0, none⟩) 2 2 ([0, UInt8.ofNat tr].map u8v) := by
   have h := own_lit (w := wA) (w.heap.size + 1) #[.int .u8 0, .int .u8 (tr : Int)] 5 2 hzA (by simp [maxLen]) rfl (size := 1) (by omega)
   rw [u8_of htr] at h ⊢
   exact h
  have hBmB : Below w.heap.size w (wA.alloc (.cells #[.int .u8 0, .int .u8 (tr : Int)] 5)) := hBA.alloc hBA.size _
  have hSmB := box_below hSA ((Below.refl wA.heap.size wA).alloc (Nat.le_refl _) (.cells #[.int .u8 0, .int .u8 (tr : Int)] 5))
  have hokB : Own (wA.alloc (.cells #[.int .u8 0, .int .u8 (tr : Int)] 5)) (w.heap.size + 1) 5 1 AA (2 + 2) cA (oA.map u8v) := hoA.alloc (.cells #[.int .u8 0, .int .u8 (tr : Int)] 5)
  have hzmB : w.heap.size + 1 ≤ (wA.alloc (.cells #[.int .u8 0, .int .u8 (tr : Int)] 5)).heap.size := World.block_lt_of_cell? _ _ hSmB.1
  go_wp2_with (with_reducible refine h_A ?_)
  refine unhold (wp_app slB rfl rfl rfl rfl hokB hlitB.rd (map_one _) (by omega) (by simp [maxLen]) hzmB ?_)
  intro AB cB wB hoB hgB _
  have hBB := hBmB.grown hgB hBmB.size (fun g hg => by have := (hokB.blk_lt hg).1; omega)
  have hSB := box_keep hSmB hgB (fun e => by have := (hokB.blk_lt e.symm).1; omega)
  rw [← List.map_append] at hoB
  have hzB : w.heap.size + 1 ≤ wB.heap.size := World.block_lt_of_cell? _ _ hSB.1
  have hlB : (oA ++ [0, UInt8.ofNat tr]).length = 6 := by simp [hlA]
  clear hokB hlitB hSmB hBmB hgB hoA hSA hBA hzmB
  clear hlA
  generalize oA ++ [0, UInt8.ofNat tr] = oB at *
  have hwch : IntKind.u64.wrap ((ch : Nat) : Int) = (ch : Int) := IntWalk.u64_in _ ⟨by omega, by omega⟩
  go_wp2_with (with_reducible refine h_A ?_)
  refine (rnumber_any ch 2 wB (by omega) (by omega)).mono ?_
  rintro e wnC ⟨AnC, cnC, rfl, honC, hBnC⟩
  have hBmC := hBB.trans (hBnC.mono hBB.size)
  have hSmC := box_below hSB hBnC
  have hokC := own_below hoB hBnC
  have hzmC : w.heap.size + 1 ≤ wnC.heap.size := World.block_lt_of_cell? _ _ hSmC.1
  clear hoB hSB hBB hBnC
  go_wp2_with (with_reducible refine h_A ?_)
  refine unhold (wp_app slB rfl rfl rfl rfl hokC honC.rd (map_one _) (by omega) (by simp [maxLen]) hzmC ?_)
  intro AC cC wC hoC hgC _
  have hBC := hBmC.grown hgC hBmC.size (fun g hg => by have := (hokC.blk_lt hg).1; omega)
  have hSC := box_keep hSmC hgC (fun e => by have := (hokC.blk_lt e.symm).1; omega)
  rw [← List.map_append] at hoC
  have hzC : w.heap.size + 1 ≤ wC.heap.size := World.block_lt_of_cell? _ _ hSC.1
  have hlC : (oB ++ be 2 ch).length = 8 := by simp [be_length, hlB]
  clear hokC honC hSmC hBmC hgC
  clear hlB
  generalize oB ++ be 2 ch = oC at *
  have hlitD : Own (wC.alloc (.cells #[.int .u8 0, .int .u8 0, .int .u8 0, .int .u8 0] 5)) (w.heap.size + 1) 5 1 (some ⟨wC.heap.size, 0, none⟩) 4 4 ([(0 : UInt8), 0, 0, 0].map u8v) := by
   have h := own_lit (w := wC) (w.heap.size + 1) #[.int .u8 0, .int .u8 0, .int .u8 0, .int .u8 0] 5 4 hzC (by simp [maxLen]) rfl (size := 1) (by omega)
   skip
   exact h
  have hBmD : Below w.heap.size w (wC.alloc (.cells #[.int .u8 0, .int .u8 0, .int .u8 0, .int .u8 0] 5)) := hBC.alloc hBC.size _
  have hSmD := box_below hSC ((Below.refl wC.heap.size wC).alloc (Nat.le_refl _) (.cells #[.int .u8 0, .int .u8 0, .int .u8 0, .int .u8 0] 5))
  have hokD : Own (wC.alloc (.cells #[.int .u8 0, .int .u8 0, .int .u8 0, .int .u8 0] 5)) (w.heap.size + 1) 5 1 AC (2 + 2 + 2 + 2) cC (oC.map u8v) := hoC.alloc (.cells #[.int .u8 0, .int .u8 0, .int .u8 0, .int .u8 0] 5)
  have hzmD : w.heap.size + 1 ≤ (wC.alloc (.cells #[.int .u8 0, .int .u8 0, .int .u8 0, .int .u8 0] 5)).heap.size := World.block_lt_of_cell? _ _ hSmD.1
  go_wp2_with (with_reducible refine h_A ?_)
  refine unhold (wp_app slB rfl rfl rfl rfl hokD hlitD.rd (map_one _) (by omega) (by simp [maxLen]) hzmD ?_)
  intro AD cD wD hoD hgD _
  have hBD := hBmD.grown hgD hBmD.size (fun g hg => by have := (hokD.blk_lt hg).1; omega)
  have hSD := box_keep hSmD hgD (fun e => by have := (hokD.blk_lt e.symm).1; omega)
  rw [← List.map_append] at hoD
  have hzD : w.heap.size + 1 ≤ wD.heap.size := World.block_lt_of_cell? _ _ hSD.1
  have hlD : (oC ++ [(0 : UInt8), 0, 0, 0]).length = 12 := by simp [hlC]
  clear hokD hlitD hSmD hBmD hgD hoC hSC hBC hzmD
  clear hlC
  generalize oC ++ [(0 : UInt8), 0, 0, 0] = oD at *
  go_wp2_with (with_reducible refine h_A ?_)
  refine unhold (wp_app_str slB Tryz.underlying9 rfl rfl rfl rfl hoD (by omega) hzD ?_)
  intro A10 c10 w10 ho10 hg10
  have hB10 := hBD.grown hg10 hBD.size (fun g hg => by have := (hoD.blk_lt hg).1; omega)
  rw [← List.map_append] at ho10
  have ho10' := ho10.base_le (Nat.le_succ _)
  have hlf : by_.length = 12 + ld.length := by rw [HBY.out, List.length_append, hlD]
  have HLF := Lib.hid hlf
  clear hlf hlD
  go_wp2_with (with_reducible refine h_A ?_)
  go_ret2
  rw [HLF.out, HBY.out]
  exact ⟨A10, c10, rfl, ho10', hB10⟩
end Go.PH
end

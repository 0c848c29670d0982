/- Texts laid together: SpGetM, SpBackM, Str, MdMath. -/
import Derived.Lib.ConvBytes
import Derived.Test.YtidpbbleneekgaaGreatDoorMg01
import Derived.Test.YtidpbbleneekgaaGreatDoorMg02
import Derived.Test.YtidpbbleneekgaaGreatDoorMg03
import Derived.Test.YtidpbbleneekgaaGreatDoorMg04
set_option linter.all false
set_option linter.unusedSimpArgs false
set_option linter.unusedVariables false
section
/- The walks of spans' Get and of its reference's. -/
namespace Go.PH
open Go.RowKit Go.Proofs

theorem own_keep {w w' : World} {base e size n c : Nat} {A : Option Addr} {xs : List Value} {row : Option Nat} (ho : Own w base e size A n c xs) (hg : w.grownBy w' row) (h : ∀ g, blk A = some g → row ≠ some g) : Own w' base e size A n c xs :=
 ho.kept hg (by
  rw [ownBlock_eq]
  cases hA : blk A with
  | none => exact .inl rfl
  | some g => exact .inr fun e => h g hA e.symm)
theorem below_ownS {w w' : World} {base e size n c : Nat} {A : Option Addr} {xs : List Value} (ho : Own w base e size A n c xs) (hB : Below w.heap.size w w') : Own w' base e size A n c xs :=
 ho.kept (grownOf hB none) (by cases hv : (Value.slice A n c).ownBlock <;> simp)
theorem mnum_ok {l : List UInt8} {x : Nat} (hx : x = 1 ∨ x = 2 ∨ x = 4 ∨ x = 8) (h : x ≤ l.length) : mnum l false (x : Int) = (unbe (l.take x), l.drop x, false) := by
 rw [mnum_yes (wideB_yes (by omega)), mtake_yes h]
theorem mnum_short {l : List UInt8} {x : Nat} (hx : x = 1 ∨ x = 2 ∨ x = 4 ∨ x = 8) (h : l.length < x) : mnum l false (x : Int) = (0, [], true) := by
 rw [mnum_yes (wideB_yes (by omega)), mtake_no (.inr (.inr (by omega)))]; rfl
theorem unbe_take {l : List UInt8} {x : Nat} : unbe (l.take x) < 256 ^ x := by
 have h1 := unbe_lt (l.take x)
 have h2 : (l.take x).length ≤ x := by simp; omega
 exact Nat.lt_of_lt_of_le h1 (Nat.pow_le_pow_right (by omega) h2)
def getSpans (k : Nat) (l : List UInt8) : List Sp := (List.range k).map fun i => (unbe ((l.drop (8 * i)).take 4), unbe ((l.drop (8 * i + 4)).take 4))
theorem getSpans_next (k : Nat) (l : List UInt8) : getSpans (k + 1) l = getSpans k l ++ [(unbe ((l.drop (8 * k)).take 4), unbe ((l.drop (8 * k + 4)).take 4))] := by
 unfold getSpans; rw [List.range_succ, List.map_append]; rfl
theorem getSpans_ok (k : Nat) (l : List UInt8) : spOK 4294967296 (getSpans k l) := by
 intro a ha
 obtain ⟨i, _, rfl⟩ := List.mem_map.1 ha
 exact ⟨unbe_take, unbe_take⟩
theorem getSpans_len (k : Nat) (l : List UInt8) : (getSpans k l).length = k := by simp [getSpans]
def getN (b : List UInt8) : Nat := unbe (b.take 2)
def spGetErr (b : List UInt8) : Nat :=
 if b.length < 2 then 4 else if getN b % 8 ≠ 0 ∨ 1000 < getN b / 8 then 5 else if b.length < 2 + getN b then 4 else if spRight (getSpans (getN b / 8) (b.drop 2)) = true then 0 else 5
def spGet (b : List UInt8) : List Sp := if spGetErr b = 0 then getSpans (getN b / 8) (b.drop 2) else []
def spGetN (b : List UInt8) : Nat := if spGetErr b = 0 then getN b + 2 else 0
theorem spGet_err {b : List UInt8} {e : Nat} (h : spGetErr b = e) (he : e ≠ 0) : spGet b = [] ∧ spGetN b = 0 := by
 unfold spGet spGetN; rw [h]; simp [he]
set_option maxRecDepth 20000 in
set_option maxHeartbeats 2000000 in
theorem spget_any (A : Option Addr) (n c : Nat) (b : List UInt8) (w : World) (hr : RdB w w.heap.size A n c b) (hn : n ≤ 140737488351232) :
  Calls Tryz.prog 88 #[.slice A n c] w fun e w' => ∃ A2 c2, e = .returned (.tuple #[.slice A2 (spGet b).length c2, .int .i64 (spGetN b), .int .i64 (spGetErr b)]) ∧ OwnS w' w.heap.size A2 (spGet b).length c2 (spGet b) ∧ Below w.heap.size w w' := by
 have hl := RdB.length hr
 by_cases h2 : b.length < 2
 ·have hx : spGetErr b = 4 := by rw [spGetErr, if_pos h2]
  have HE := Lib.hid (spGet_err hx (by omega))
  have HX := Lib.hid hx
  clear hx
  have hm : mnum b false 2 = (0, [], true) := mnum_short (x := 2) (by omega) h2
  go_enter Tryz.func88, Tryz.ntmps88
  go_wp2_with (with_reducible refine h_A ?_)
  refine (rdopen_any A n c b w hr (by omega)).mono ?_
  rintro e w1 ⟨rb, vb, rfl, hrbb, hvb, hR1, hB1⟩
  have hrn := rdnum_any hR1 2 (by omega) (by omega)
  rw [hm] at hrn
  go_wp2_with (with_reducible refine h_A ?_)
  refine hrn.mono ?_
  rintro e w2 ⟨rfl, hR2, hg2⟩
  have hB2 := hB1.grown hg2 hB1.size (fun g hg => by injection hg with hg; omega)
  go_wp2_with (with_reducible refine h_A ?_)
  refine (rdbad_any hR2).mono ?_
  rintro e w3 ⟨rfl, rfl⟩
  go_wp2_with (with_reducible refine h_A ?_)
  go_ret3
  rw [HE.out.1, HE.out.2, HX.out]
  exact ⟨none, 0, rfl, Own.none_ _ _ _ _, hB2⟩
 ·have hm : mnum b false 2 = (unbe (b.take 2), b.drop 2, false) := mnum_ok (x := 2) (by omega) (by omega)
  have hN : getN b < 65536 := unbe_take
  have hgn : unbe (b.take 2) = getN b := rfl
  rw [hgn] at hm
  have hdl : (b.drop 2).length = b.length - 2 := by simp
  have HGE : Hid (spGetErr b = if getN b % 8 ≠ 0 ∨ 1000 < getN b / 8 then 5 else if b.length < 2 + getN b then 4 else if spRight (getSpans (getN b / 8) (b.drop 2)) = true then 0 else 5) := Lib.hid (by rw [spGetErr, if_neg h2])
  have HGS : Hid (spGetErr b = 0 → spGet b = getSpans (getN b / 8) (b.drop 2) ∧ spGetN b = getN b + 2) := Lib.hid (fun h => by unfold spGet spGetN; rw [h]; simp)
  go_enter Tryz.func88, Tryz.ntmps88
  go_wp2_with (with_reducible refine h_A ?_)
  refine (rdopen_any A n c b w hr (by omega)).mono ?_
  rintro e w1 ⟨rb, vb, rfl, hrbb, hvb, hR1, hB1⟩
  have hrn := rdnum_any hR1 2 (by omega) (by omega)
  rw [hm] at hrn
  generalize getN b = N at *
  generalize hrest : b.drop 2 = rest at *
  have hrb : b.length = rest.length + 2 := by omega
  have HDL := Lib.hid hdl
  clear hdl
  clear hm hgn
  have hwN : IntKind.i64.wrap ((N : Nat) : Int) = (N : Int) := IntWalk.i64_in _ ⟨by omega, by omega⟩
  go_wp2_with (with_reducible refine h_A ?_)
  refine hrn.mono ?_
  rintro e w2 ⟨rfl, hR2, hg2⟩
  have hB2 := hB1.grown hg2 hB1.size (fun g hg => by injection hg with hg; omega)
  have hz2 : w1.heap.size ≤ w2.heap.size := hg2.size
  clear hg2 hrn hR1
  have HREST := Lib.hid hrest
  clear hrest
  have HRB := Lib.hid hrb
  clear hrb
  obtain ⟨Q, hQ⟩ : ∃ Q, Q = N / 8 := ⟨_, rfl⟩
  have hq8 : (N : Int) / 8 = (Q : Int) := by omega
  rw [← hQ] at HGE HGS
  go_wp2_with (with_reducible refine h_A ?_)
  refine (rdbad_any hR2).mono ?_
  rintro e w3 ⟨rfl, rfl⟩
  by_cases h8 : N % 8 = 0
  ·have hd8 : ((N : Int) % 8 != 0) = false := by simp; omega
   by_cases hk : 1000 < Q
   ·have hdk : (1000 : Int) < (Q : Int) := by omega
    have hx : spGetErr b = 5 := by rw [HGE.out, if_pos (.inr hk)]
    have HE := Lib.hid (spGet_err hx (by omega))
    have HX := Lib.hid hx
    clear hx hQ h8
    go_wp2_with (with_reducible refine h_A ?_)
    go_ret3
    rw [HE.out.1, HE.out.2, HX.out]
    exact ⟨none, 0, rfl, Own.none_ _ _ _ _, hB2⟩
   ·have hdk : decide ((1000 : Int) < (Q : Int)) = false := by simp; omega
    have hNQ := Lib.hid (show N = 8 * Q by omega)
    clear hQ
    go_wp2_with (with_reducible refine h_A ?_)
    refine (rdleft_any hR2).mono ?_
    rintro e w4 ⟨rfl, rfl⟩
    by_cases hlr : rest.length < N
    ·have hdl' : (rest.length : Int) < (N : Int) := by omega
     have hx : spGetErr b = 4 := by have := HRB.out; rw [HGE.out, if_neg (by omega), if_pos (by omega)]
     have HE := Lib.hid (spGet_err hx (by omega))
     have HX := Lib.hid hx
     clear hx h8
     go_wp2_with (with_reducible refine h_A ?_)
     go_ret3
     rw [HE.out.1, HE.out.2, HX.out]
     exact ⟨none, 0, rfl, Own.none_ _ _ _ _, hB2⟩
    ·have hdl' : ¬ (rest.length : Int) < (N : Int) := by omega
     have HGE2 : Hid (spGetErr b = if spRight (getSpans Q rest) = true then 0 else 5) := Lib.hid (by have := HRB.out; rw [HGE.out, if_neg (by omega), if_neg (by omega)])
     clear h8
     go_wp2_with (with_reducible refine h_A ?_)
     go_loopw [31, 7] (fun s v wr => ∃ (k c2 : Nat) (A2 : Option Addr) (out : List Sp), k ≤ Q ∧ s = .int .i64 k ∧ v = .slice A2 out.length c2 ∧ out = getSpans k rest ∧ OwnS wr w1.heap.size A2 out.length c2 out ∧ Rdr (fun g => w.heap.size ≤ g ∧ g < w1.heap.size) wr (.pointer (some ⟨rb, 0, none⟩)) (some vb) (rest.drop (8 * k)) false ∧ w1.heap.size ≤ wr.heap.size ∧ Below w.heap.size w wr) (fun s _ _ => Q - (RowKit.intOf s).toNat)
     case atStart => exact ⟨0, 0, none, [], by omega, rfl, rfl, by simp [getSpans], Own.none_ _ _ _ _, by simpa using hR2, hz2, hB2⟩
     case round =>
      clear hR2 hz2 hB2
      obtain ⟨k, c2, A2, out, hk', rfl, rfl, hout, ho, hR, hz, hBr⟩ := hrel
      have hkl : out.length = k := by rw [hout, getSpans_len]
      by_cases hlt : k < Q
      ·have hdq : (k : Int) < (Q : Int) := by omega
       have hNQ' := hNQ.out
       have hn1 := rdnum_any hR 4 (by omega) (by omega)
       have hm1 : mnum (rest.drop (8 * k)) false 4 = (unbe ((rest.drop (8 * k)).take 4), (rest.drop (8 * k)).drop 4, false) := mnum_ok (x := 4) (by omega) (by simp; omega)
       rw [hm1] at hn1
       have hm2 : mnum ((rest.drop (8 * k)).drop 4) false 4 = (unbe ((rest.drop (8 * k + 4)).take 4), rest.drop (8 * (k + 1)), false) := by
        have := mnum_ok (l := rest.drop (8 * k + 4)) (x := 4) (by omega) (by simp; omega)
        rw [List.drop_drop]
        exact this.trans (by rw [List.drop_drop, show 8 * k + 4 + 4 = 8 * (k + 1) by omega])
       have HNX : Hid (getSpans (k + 1) rest = out ++ [(unbe ((rest.drop (8 * k)).take 4), unbe ((rest.drop (8 * k + 4)).take 4))]) := Lib.hid (by rw [getSpans_next, hout])
       have hv1 : unbe ((rest.drop (8 * k)).take 4) < 4294967296 := unbe_take
       have hv2 : unbe ((rest.drop (8 * k + 4)).take 4) < 4294967296 := unbe_take
       have hAF : ∀ g, blk A2 = some g → ¬ (w.heap.size ≤ g ∧ g < w1.heap.size) := fun g hg h => by have := (ho.blk_lt hg).1; omega
       have hFv : w.heap.size ≤ vb ∧ vb < w1.heap.size := hR.inF rfl
       have hvA : ∀ g, blk A2 = some g → some vb ≠ some g := fun g hg e => by injection e with e; subst e; exact hAF _ hg hFv
       clear hout hNQ' hm1
       generalize unbe ((rest.drop (8 * k)).take 4) = v1 at *
       generalize unbe ((rest.drop (8 * k + 4)).take 4) = v2 at *
       have hw1 : IntKind.u32.wrap ((v1 : Nat) : Int) = (v1 : Int) := IntWalk.u32_in _ ⟨by omega, by omega⟩
       have hw2 : IntKind.u32.wrap ((v2 : Nat) : Int) = (v2 : Int) := IntWalk.u32_in _ ⟨by omega, by omega⟩
       have HKL := Lib.hid hkl
       have hol : out.length ≤ 1000 := by omega
       clear hkl
       go_wp2_with (with_reducible refine h_A ?_)
       refine hn1.mono ?_
       rintro e w5 ⟨rfl, hR5, hg5⟩
       have hB5 := hBr.grown hg5 hBr.size (fun g hg => by injection hg with hg; omega)
       have ho5 : OwnS w5 w1.heap.size A2 out.length c2 out := own_keep ho hg5 hvA
       have hz5 : w1.heap.size ≤ w5.heap.size := Nat.le_trans hz hg5.size
       have hn2 := rdnum_any hR5 4 (by omega) (by omega)
       rw [hm2] at hn2
       clear hn1 hg5 hm2
       go_wp2_with (with_reducible refine h_A ?_)
       refine hn2.mono ?_
       rintro e w6 ⟨rfl, hR6, hg6⟩
       have hB6 := hB5.grown hg6 hB5.size (fun g hg => by injection hg with hg; omega)
       have ho6 : OwnS w6 w1.heap.size A2 out.length c2 out := own_keep ho5 hg6 hvA
       have hz6 : w1.heap.size ≤ w6.heap.size := Nat.le_trans hz5 hg6.size
       clear hn2 hg6 hR5 ho5 ho hR
       go_wp2_with (with_reducible refine h_A ?_)
       refine unhold (wp_push slS Tryz.underlying45 rfl rfl rfl rfl rfl v1 v2 rfl rfl ho6 (by omega) hz6 ?_)
       intro A7 c7 w7 ho7 hg7 _ hB7
       have hR7 := hR6.kept hg7 hAF
       have hz7 : w1.heap.size ≤ w7.heap.size := Nat.le_trans hz6 hg7.size
       have hB67 := hB6.trans (hB7.mono (by have := hB1.size; omega))
       go_wp2_with (with_reducible refine h_A ?_)
       have hkl := HKL.out
       exact ⟨⟨k + 1, c7, A7, out ++ [(v1, v2)], by omega, by go_num, by simp, HNX.out.symm, by simpa using ho7, hR7, hz7, hB67⟩, by simp [RowKit.intOf]; omega⟩
      ·obtain rfl : k = Q := by omega
       have hdq : decide ((k : Int) < (k : Int)) = false := by simp
       have hok := getSpans_ok k rest
       rw [← hout] at hok
       have hrr := right_any A2 out.length c2 out _ wr ho.rd hok (Nat.le_refl _) (by omega)
       have HO := Lib.hid hout
       have hbase := hB1.size
       cases hri : spRight out
       ·rw [hri] at hrr
        have hx : spGetErr b = 5 := by rw [HGE2.out, ← HO.out, hri]; rfl
        have HE := Lib.hid (spGet_err hx (by omega))
        have HX := Lib.hid hx
        clear hx hout hri hkl
        go_wp2_with (with_reducible refine h_A ?_)
        refine hrr.mono ?_
        rintro e w8 ⟨rfl, hB8⟩
        have hB9 := hBr.trans (hB8.mono hBr.size)
        go_wp2_with (with_reducible refine h_A ?_)
        go_ret3
        rw [HE.out.1, HE.out.2, HX.out]
        exact ⟨none, 0, rfl, Own.none_ _ _ _ _, hB9⟩
       ·rw [hri] at hrr
        have hx : spGetErr b = 0 := by rw [HGE2.out, ← HO.out, hri]; rfl
        have hgs := HGS.out hx
        rw [← HO.out] at hgs
        have HG := Lib.hid hgs
        have HX := Lib.hid hx
        have hw2 : IntKind.i64.wrap ((N : Int) + 2) = ((N + 2 : Nat) : Int) := by rw [IntWalk.i64_in _ ⟨by omega, by omega⟩]; omega
        clear hx hout hri hgs hkl
        go_wp2_with (with_reducible refine h_A ?_)
        refine hrr.mono ?_
        rintro e w8 ⟨rfl, hB8⟩
        have hB9 := hBr.trans (hB8.mono hBr.size)
        have ho8 := below_ownS ho hB8
        have ho9 := ho8.base_le hbase
        go_wp2_with (with_reducible refine h_A ?_)
        go_ret3
        rw [HG.out.1, HG.out.2, HX.out]
        exact ⟨A2, c2, by first | rfl | simp, ho9, hB9⟩
  ·have hd8 : ((N : Int) % 8 != 0) = true := by simp; omega
   have hx : spGetErr b = 5 := by rw [HGE.out, if_pos (.inl h8)]
   have HE := Lib.hid (spGet_err hx (by omega))
   have HX := Lib.hid hx
   clear hx h8 hQ
   go_wp2_with (with_reducible refine h_A ?_)
   go_ret3
   rw [HE.out.1, HE.out.2, HX.out]
   exact ⟨none, 0, rfl, Own.none_ _ _ _ _, hB2⟩
set_option maxRecDepth 20000 in
set_option maxHeartbeats 2000000 in
theorem rspget_any (A : Option Addr) (n c : Nat) (b : List UInt8) (w : World) (hr : RdB w w.heap.size A n c b) (hn : n ≤ 140737488351232) :
  Calls Tryz.prog 55 #[.slice A n c] w fun e w' => ∃ A2 c2, e = .returned (.tuple #[.slice A2 (spGet b).length c2, .int .i64 (spGetN b), .int .i64 (spGetErr b)]) ∧ OwnS w' w.heap.size A2 (spGet b).length c2 (spGet b) ∧ Below w.heap.size w w' := by
 have hl := RdB.length hr
 by_cases h2 : b.length < 2
 ·have hx : spGetErr b = 4 := by rw [spGetErr, if_pos h2]
  have HE := Lib.hid (spGet_err hx (by omega))
  have HX := Lib.hid hx
  clear hx
  have hm : mnum b false 2 = (0, [], true) := mnum_short (x := 2) (by omega) h2
  go_enter Tryz.func55, Tryz.ntmps55
  go_wp2_with (with_reducible refine h_A ?_)
  refine (qopen_any A n c b w hr (by omega)).mono ?_
  rintro e w1 ⟨vb, rfl, hvb, hR1, hB1⟩
  have hrn := qnum_any hR1 2 (by omega) (by omega)
  rw [hm] at hrn
  go_wp2_with (with_reducible refine h_A ?_)
  refine hrn.mono ?_
  rintro e w2 ⟨rfl, hR2, hg2⟩
  have hB2 := hB1.grown hg2 hB1.size (fun g hg => by injection hg with hg; omega)
  obtain ⟨A9, n9, c9, q0, q1, _⟩ := hR2
  go_wp2_with (with_reducible refine h_A ?_)
  go_ret3
  rw [HE.out.1, HE.out.2, HX.out]
  exact ⟨none, 0, rfl, Own.none_ _ _ _ _, hB2⟩
 ·have hm : mnum b false 2 = (unbe (b.take 2), b.drop 2, false) := mnum_ok (x := 2) (by omega) (by omega)
  have hN : getN b < 65536 := unbe_take
  have hgn : unbe (b.take 2) = getN b := rfl
  rw [hgn] at hm
  have hdl : (b.drop 2).length = b.length - 2 := by simp
  have HGE : Hid (spGetErr b = if getN b % 8 ≠ 0 ∨ 1000 < getN b / 8 then 5 else if b.length < 2 + getN b then 4 else if spRight (getSpans (getN b / 8) (b.drop 2)) = true then 0 else 5) := Lib.hid (by rw [spGetErr, if_neg h2])
  have HGS : Hid (spGetErr b = 0 → spGet b = getSpans (getN b / 8) (b.drop 2) ∧ spGetN b = getN b + 2) := Lib.hid (fun h => by unfold spGet spGetN; rw [h]; simp)
  go_enter Tryz.func55, Tryz.ntmps55
  go_wp2_with (with_reducible refine h_A ?_)
  refine (qopen_any A n c b w hr (by omega)).mono ?_
  rintro e w1 ⟨vb, rfl, hvb, hR1, hB1⟩
  have hrn := qnum_any hR1 2 (by omega) (by omega)
  rw [hm] at hrn
  generalize getN b = N at *
  generalize hrest : b.drop 2 = rest at *
  have hrb : b.length = rest.length + 2 := by omega
  have HDL := Lib.hid hdl
  clear hdl
  clear hm hgn
  have hwN : IntKind.i64.wrap ((N : Nat) : Int) = (N : Int) := IntWalk.i64_in _ ⟨by omega, by omega⟩
  go_wp2_with (with_reducible refine h_A ?_)
  refine hrn.mono ?_
  rintro e w2 ⟨rfl, hR2, hg2⟩
  have hB2 := hB1.grown hg2 hB1.size (fun g hg => by injection hg with hg; omega)
  have hz2 : w1.heap.size ≤ w2.heap.size := hg2.size
  clear hg2 hrn hR1
  have HREST := Lib.hid hrest
  clear hrest
  have HRB := Lib.hid hrb
  clear hrb
  obtain ⟨Q, hQ⟩ : ∃ Q, Q = N / 8 := ⟨_, rfl⟩
  rw [← hQ] at HGE HGS
  have hR2' := hR2
  obtain ⟨A9, n9, c9, q0, q1, _, _, qr, _⟩ := hR2'
  have hl9 := RdB.length qr
  subst hl9
  by_cases h8 : N % 8 = 0
  ·have hd8 : ((N : Int) % 8 != 0) = false := by simp; omega
   by_cases hk : 1000 < Q
   ·have hdk : (8000 : Int) < (N : Int) := by omega
    have hx : spGetErr b = 5 := by rw [HGE.out, if_pos (.inr hk)]
    have HE := Lib.hid (spGet_err hx (by omega))
    have HX := Lib.hid hx
    clear hx hQ h8
    go_wp2_with (with_reducible refine h_A ?_)
    go_ret3
    rw [HE.out.1, HE.out.2, HX.out]
    exact ⟨none, 0, rfl, Own.none_ _ _ _ _, hB2⟩
   ·have hdk : decide ((8000 : Int) < (N : Int)) = false := by simp; omega
    have hNQ := Lib.hid (show N = 8 * Q by omega)
    clear hQ
    by_cases hlr : rest.length < N
    ·have hdl' : (rest.length : Int) < (N : Int) := by omega
     have hx : spGetErr b = 4 := by have := HRB.out; rw [HGE.out, if_neg (by omega), if_pos (by omega)]
     have HE := Lib.hid (spGet_err hx (by omega))
     have HX := Lib.hid hx
     clear hx h8
     go_wp2_with (with_reducible refine h_A ?_)
     go_ret3
     rw [HE.out.1, HE.out.2, HX.out]
     exact ⟨none, 0, rfl, Own.none_ _ _ _ _, hB2⟩
    ·have hdl' : ¬ (rest.length : Int) < (N : Int) := by omega
     have HGE2 : Hid (spGetErr b = if spRight (getSpans Q rest) = true then 0 else 5) := Lib.hid (by have := HRB.out; rw [HGE.out, if_neg (by omega), if_neg (by omega)])
     clear h8
     go_wp2_with (with_reducible refine h_A ?_)
     go_loopw [8, 7] (fun s v wr => ∃ (k k8 c2 : Nat) (A2 : Option Addr) (out : List Sp), k ≤ Q ∧ s = .int .i64 k8 ∧ k8 = 8 * k ∧ v = .slice A2 out.length c2 ∧ out = getSpans k rest ∧ OwnS wr w1.heap.size A2 out.length c2 out ∧ Qrd (fun g => w.heap.size ≤ g ∧ g < w1.heap.size) wr vb (rest.drop (8 * k)) false ∧ w1.heap.size ≤ wr.heap.size ∧ Below w.heap.size w wr) (fun s _ _ => 8 * Q - (RowKit.intOf s).toNat)
     case atStart => exact ⟨0, 0, 0, none, [], by omega, rfl, rfl, rfl, by simp [getSpans], Own.none_ _ _ _ _, by simpa using hR2, hz2, hB2⟩
     case round =>
      clear hR2 hz2 hB2 q0 q1 qr
      obtain ⟨k, k8, c2, A2, out, hk', rfl, hk8, rfl, hout, ho, hR, hz, hBr⟩ := hrel
      have hNQ' := hNQ.out
      have HK8 := Lib.hid hk8
      have hdq0 : (k8 : Int) < (N : Int) ↔ k < Q := by omega
      clear hNQ'
      have hkl : out.length = k := by rw [hout, getSpans_len]
      by_cases hlt : k < Q
      ·have hdq : (k8 : Int) < (N : Int) := hdq0.2 hlt
       have hk8b : k8 ≤ 8000 := by omega
       clear hk8 hdq0
       have hNQ' := hNQ.out
       have hn1 := qnum_any hR 4 (by omega) (by omega)
       have hm1 : mnum (rest.drop (8 * k)) false 4 = (unbe ((rest.drop (8 * k)).take 4), (rest.drop (8 * k)).drop 4, false) := mnum_ok (x := 4) (by omega) (by simp; omega)
       rw [hm1] at hn1
       have hm2 : mnum ((rest.drop (8 * k)).drop 4) false 4 = (unbe ((rest.drop (8 * k + 4)).take 4), rest.drop (8 * (k + 1)), false) := by
        have := mnum_ok (l := rest.drop (8 * k + 4)) (x := 4) (by omega) (by simp; omega)
        rw [List.drop_drop]
        exact this.trans (by rw [List.drop_drop, show 8 * k + 4 + 4 = 8 * (k + 1) by omega])
       have HNX : Hid (getSpans (k + 1) rest = out ++ [(unbe ((rest.drop (8 * k)).take 4), unbe ((rest.drop (8 * k + 4)).take 4))]) := Lib.hid (by rw [getSpans_next, hout])
       have hv1 : unbe ((rest.drop (8 * k)).take 4) < 4294967296 := unbe_take
       have hv2 : unbe ((rest.drop (8 * k + 4)).take 4) < 4294967296 := unbe_take
       have hAF : ∀ g, blk A2 = some g → ¬ (w.heap.size ≤ g ∧ g < w1.heap.size) := fun g hg h => by have := (ho.blk_lt hg).1; omega
       have hFv : w.heap.size ≤ vb ∧ vb < w1.heap.size := hR.inF
       have hvA : ∀ g, blk A2 = some g → some vb ≠ some g := fun g hg e => by injection e with e; subst e; exact hAF _ hg hFv
       clear hout hNQ' hm1
       generalize unbe ((rest.drop (8 * k)).take 4) = v1 at *
       generalize unbe ((rest.drop (8 * k + 4)).take 4) = v2 at *
       have hw1 : IntKind.u32.wrap ((v1 : Nat) : Int) = (v1 : Int) := IntWalk.u32_in _ ⟨by omega, by omega⟩
       have hw2 : IntKind.u32.wrap ((v2 : Nat) : Int) = (v2 : Int) := IntWalk.u32_in _ ⟨by omega, by omega⟩
       have HKL := Lib.hid hkl
       have hol : out.length ≤ 1000 := by omega
       clear hkl
       go_wp2_with (with_reducible refine h_A ?_)
       refine hn1.mono ?_
       rintro e w5 ⟨rfl, hR5, hg5⟩
       have hB5 := hBr.grown hg5 hBr.size (fun g hg => by injection hg with hg; omega)
       have ho5 : OwnS w5 w1.heap.size A2 out.length c2 out := own_keep ho hg5 hvA
       have hz5 : w1.heap.size ≤ w5.heap.size := Nat.le_trans hz hg5.size
       have hn2 := qnum_any hR5 4 (by omega) (by omega)
       rw [hm2] at hn2
       clear hn1 hg5 hm2
       go_wp2_with (with_reducible refine h_A ?_)
       refine hn2.mono ?_
       rintro e w6 ⟨rfl, hR6, hg6⟩
       have hB6 := hB5.grown hg6 hB5.size (fun g hg => by injection hg with hg; omega)
       have ho6 : OwnS w6 w1.heap.size A2 out.length c2 out := own_keep ho5 hg6 hvA
       have hz6 : w1.heap.size ≤ w6.heap.size := Nat.le_trans hz5 hg6.size
       clear hn2 hg6 hR5 ho5 ho hR
       go_wp2_with (with_reducible refine h_A ?_)
       refine unhold (wp_push slS Tryz.underlying45 rfl rfl rfl rfl rfl v1 v2 rfl rfl ho6 (by omega) hz6 ?_)
       intro A7 c7 w7 ho7 hg7 _ hB7
       have hR7 := hR6.kept hg7 hAF
       have hz7 : w1.heap.size ≤ w7.heap.size := Nat.le_trans hz6 hg7.size
       have hB67 := hB6.trans (hB7.mono (by have := hB1.size; omega))
       go_wp2_with (with_reducible refine h_A ?_)
       have hkl := HKL.out
       have hk8 := HK8.out
       have hNQ' := hNQ.out
       exact ⟨⟨k + 1, k8 + 8, c7, A7, out ++ [(v1, v2)], by omega, by go_num, by omega, by simp, HNX.out.symm, by simpa using ho7, hR7, hz7, hB67⟩, by simp [RowKit.intOf]; omega⟩
      ·obtain rfl : k = Q := by omega
       have hdq : ¬ (k8 : Int) < (N : Int) := fun h => absurd (hdq0.1 h) (by omega)
       clear hk8 hdq0
       have hok := getSpans_ok k rest
       rw [← hout] at hok
       have hrr := rright_any A2 out.length c2 out _ wr ho.rd hok (Nat.le_refl _) (by omega)
       have HO := Lib.hid hout
       have hbase := hB1.size
       cases hri : spRight out
       ·rw [hri] at hrr
        have hx : spGetErr b = 5 := by rw [HGE2.out, ← HO.out, hri]; rfl
        have HE := Lib.hid (spGet_err hx (by omega))
        have HX := Lib.hid hx
        clear hx hout hri hkl
        go_wp2_with (with_reducible refine h_A ?_)
        refine hrr.mono ?_
        rintro e w8 ⟨rfl, hB8⟩
        have hB9 := hBr.trans (hB8.mono hBr.size)
        go_wp2_with (with_reducible refine h_A ?_)
        go_ret3
        rw [HE.out.1, HE.out.2, HX.out]
        exact ⟨none, 0, rfl, Own.none_ _ _ _ _, hB9⟩
       ·rw [hri] at hrr
        have hx : spGetErr b = 0 := by rw [HGE2.out, ← HO.out, hri]; rfl
        have hgs := HGS.out hx
        rw [← HO.out] at hgs
        have HG := Lib.hid hgs
        have HX := Lib.hid hx
        have hw2 : IntKind.i64.wrap ((N : Int) + 2) = ((N + 2 : Nat) : Int) := by rw [IntWalk.i64_in _ ⟨by omega, by omega⟩]; omega
        clear hx hout hri hgs hkl
        go_wp2_with (with_reducible refine h_A ?_)
        refine hrr.mono ?_
        rintro e w8 ⟨rfl, hB8⟩
        have hB9 := hBr.trans (hB8.mono hBr.size)
        have ho8 := below_ownS ho hB8
        have ho9 := ho8.base_le hbase
        go_wp2_with (with_reducible refine h_A ?_)
        go_ret3
        rw [HG.out.1, HG.out.2, HX.out]
        exact ⟨A2, c2, by first | rfl | simp, ho9, hB9⟩
  ·have hd8 : ((N : Int) % 8 != 0) = true := by simp; omega
   have hx : spGetErr b = 5 := by rw [HGE.out, if_pos (.inl h8)]
   have HE := Lib.hid (spGet_err hx (by omega))
   have HX := Lib.hid hx
   clear hx h8 hQ
   go_wp2_with (with_reducible refine h_A ?_)
   go_ret3
   rw [HE.out.1, HE.out.2, HX.out]
   exact ⟨none, 0, rfl, Own.none_ _ _ _ _, hB2⟩
end Go.PH
end
section
/- What is put is got, and what is got is put, as plain mathematics. -/
namespace Go.PH

theorem getSpans_cons (k : Nat) (l : List UInt8) : getSpans (k + 1) l = (unbe (l.take 4), unbe ((l.drop 4).take 4)) :: getSpans k (l.drop 8) := by
 unfold getSpans
 rw [List.range_succ_eq_map, List.map_cons, List.map_map]
 congr 1
 apply List.map_congr_left
 intro i _
 simp only [Function.comp, List.drop_drop]
 rw [show 8 * Nat.succ i = 8 + 8 * i by omega, show 8 + 8 * i + 4 = 8 + (8 * i + 4) by omega]
theorem getSpans_put : ∀ (l : List Sp) (r : List UInt8), spOK 4294967296 l → getSpans l.length (spBytes l ++ r) = l
 | [], r, _ => rfl
 | a :: l, r, h => by
  have ha := h a (by simp)
  have e : spBytes (a :: l) ++ r = be 4 a.1 ++ (be 4 a.2 ++ (spBytes l ++ r)) := by
   show be 4 a.1 ++ be 4 a.2 ++ spBytes l ++ r = _
   simp
  rw [List.length_cons, getSpans_cons, e]
  have l1 := be_length 4 a.1
  have l2 := be_length 4 a.2
  have d1 : (be 4 a.1 ++ (be 4 a.2 ++ (spBytes l ++ r))).drop 4 = be 4 a.2 ++ (spBytes l ++ r) := by rw [List.drop_append_of_le_length (by omega), List.drop_of_length_le (by omega)]; rfl
  have d2 : (be 4 a.1 ++ (be 4 a.2 ++ (spBytes l ++ r))).drop 8 = spBytes l ++ r := by
   rw [show (8 : Nat) = 4 + 4 from rfl, ← List.drop_drop, d1, List.drop_append_of_le_length (by omega), List.drop_of_length_le (by omega)]; rfl
  rw [d1, d2, List.take_append_of_le_length (by omega), List.take_of_length_le (by omega), List.take_append_of_le_length (by omega), List.take_of_length_le (by omega), unbe_be, unbe_be, getSpans_put l r (fun z hz => h z (by simp [hz]))]
  congr 1
  exact Prod.ext (Nat.mod_eq_of_lt ha.1) (Nat.mod_eq_of_lt ha.2)
theorem put_got {l : List Sp} (r : List UInt8) (hr : spRight l = true) (hn : l.length ≤ 1000) (h : spOK 4294967296 l) : spGetErr (spPut l ++ r) = 0 ∧ spGet (spPut l ++ r) = l ∧ spGetN (spPut l ++ r) = (spPut l).length := by
 have e : spPut l = be 2 (8 * l.length) ++ spBytes l := by rw [spPut, if_pos ⟨hr, by omega⟩]
 have lb := be_length 2 (8 * l.length)
 have ls := spBytes_len l
 have hN : getN (spPut l ++ r) = 8 * l.length := by
  unfold getN
  rw [e, List.append_assoc, List.take_append_of_le_length (by omega), List.take_of_length_le (by omega), unbe_be, Nat.mod_eq_of_lt (by omega)]
 have hd : (spPut l ++ r).drop 2 = spBytes l ++ r := by
  rw [e, List.append_assoc, List.drop_append_of_le_length (by omega), List.drop_of_length_le (by omega)]; rfl
 have hl : (spPut l ++ r).length = 2 + 8 * l.length + r.length := by rw [e]; simp only [List.length_append, lb, ls]
 have hq : 8 * l.length / 8 = l.length := by omega
 have h0 : spGetErr (spPut l ++ r) = 0 := by
  rw [spGetErr, hN, hd, hq, if_neg (by omega), if_neg (by omega), if_neg (by omega), getSpans_put l r h, hr]; rfl
 refine ⟨h0, ?_, ?_⟩
 ·rw [spGet, h0, hN, hd, hq, getSpans_put l r h]; rfl
 ·rw [spGetN, h0, hN, e]; simp only [List.length_append, lb, ls]; simp; omega
end Go.PH
end
section
/- Texts: cut, put together, turned into bytes. -/
namespace Go.PH
open Go.RowKit
section
variable {P : Program} {w : World} {t : TypeId}
theorem str_extract (l : List UInt8) (a b : Nat) : (str l).extract a b = str ((l.take b).drop a) := by
 rw [List.drop_take]; exact ByteArray.extract_mk l a b
theorem run_cutS (hu : P.underlying t = some .string) (w : World) {l : List UInt8} {lo hi : Option Value} (i j : Nat) (hlo : Bd lo 0 i) (hhi : Bd hi l.length j) (h1 : i ≤ j) (h2 : j ≤ l.length) :
  (Instr.sliceAt t (.string (str l)) lo hi none).run P w = .ok (.string (str ((l.take j).drop i))) w := by
 rw [run_sliceAt_string w t _ _ _ _ hu]
 rcases hlo with ⟨rfl, rfl⟩ | ⟨kd, X, rfl, rfl⟩
 ·rcases hhi with ⟨rfl, rfl⟩ | ⟨kd, X, rfl, rfl⟩
  ·rw [run_slice_string_all (h := hu), str_size, str_extract]
  ·rw [run_slice_string_h (ht := hu) (h0 := by omega) (h2 := by rw [str_size]; omega), str_extract]; simp
 ·rcases hhi with ⟨rfl, rfl⟩ | ⟨kd', X, rfl, rfl⟩
  ·rw [run_slice_string_l (ht := hu) (h0 := by omega) (h1 := by rw [str_size]; omega), str_size, str_extract]; simp
  ·rw [run_slice_string (h := hu) (h0 := by omega) (h1 := by omega) (h2 := by rw [str_size]; omega), str_extract]; simp
variable {ops : Array Oper} {rest : List Oper} {o : Oper} {a : Act} {Q : Exit → Act → World → Prop} {x : Operand} {K : Act → World → Prop}
theorem op_cutS {lo hi : Option Operand} (hu : P.underlying t = some .string) (ho : o.op = .slice t x lo hi none) {l : List UInt8} (hx : a.eval x = .string (str l)) (i j : Nat) (hlo : Bd (lo.map a.eval) 0 i) (hhi : Bd (hi.map a.eval) l.length j) (h1 : i ≤ j) (h2 : j ≤ l.length)
  (hk : K (a.put o.dst (.string (str ((l.take j).drop i)))) w) : o.wp P a w K Q := by
 have hrun := run_cutS hu w i j hlo hhi h1 h2
 unfold Oper.wp execOp
 simp only [ho, hx, Sem.run_bind, Sem.run_pure, Result.andThen_ok, Option.map_none, hrun]
 exact hk
theorem wp_cutS {lo hi : Option Operand} (hu : P.underlying t = some .string) (hw : Region.wanted o (yielded ops a.tmps) = true) (ho : o.op = .slice t x lo hi none) {l : List UInt8} (hx : a.eval x = .string (str l)) (i j : Nat) (hlo : Bd (lo.map a.eval) 0 i) (hhi : Bd (hi.map a.eval) l.length j) (h1 : i ≤ j) (h2 : j ≤ l.length)
  (hk : wpList P ops Q rest (a.put o.dst (.string (str ((l.take j).drop i)))) w) : wpList P ops Q (o :: rest) a w :=
 BigFrame.wpList_want hw fun K hK => op_cutS hu ho hx i j hlo hhi h1 h2 (hK _ _ hk)
end
end Go.PH
end
section
/- The tables of methods, as plain lists: the program's and the document's. (Printed by wip/genmdtab.py.) -/
namespace Go.PH

/-- a row: its code, its word, its arguments' kinds -/
structure MRow where
 code : Nat
 word : List UInt8
 kinds : List UInt8
deriving DecidableEq
/-- the document's row -/
structure RRow where
 cls : Nat
 code : Nat
 name : List UInt8
 kinds : List UInt8
deriving DecidableEq
/-- a class's word, its rows as one text, its rows -/
def clsWord : Nat → List UInt8
 | 1 => [99, 111, 110, 110, 101, 99, 116, 105, 111, 110]
 | 2 => [115, 101, 115, 115, 105, 111, 110]
 | 3 => [101, 120, 101, 99, 117, 116, 105, 111, 110]
 | 4 => [109, 101, 115, 115, 97, 103, 101]
 | 5 => [116, 120]
 | 6 => [100, 116, 120]
 | 8 => [113, 117, 101, 117, 101]
 | _ => []
def clsText : Nat → List UInt8
 | 1 => [49, 32, 115, 116, 97, 114, 116, 32, 116, 59, 50, 32, 115, 116, 97, 114, 116, 45, 111, 107, 32, 116, 59, 53, 32, 116, 117, 110, 101, 32, 119, 119, 59, 54, 32, 116, 117, 110, 101, 45, 111, 107, 32, 119, 119, 59, 55, 32, 111, 112, 101, 110, 32, 115, 59, 56, 32, 111, 112, 101, 110, 45, 111, 107, 32, 59, 49, 49, 32, 99, 108, 111, 115, 101, 32, 119, 115, 59, 49, 50, 32, 99, 108, 111, 115, 101, 45, 111, 107, 32]
 | 2 => [49, 32, 97, 116, 116, 97, 99, 104, 32, 116, 98, 59, 50, 32, 97, 116, 116, 97, 99, 104, 101, 100, 32, 116, 59, 51, 32, 100, 101, 116, 97, 99, 104, 32, 116, 59, 52, 32, 100, 101, 116, 97, 99, 104, 101, 100, 32, 116, 110, 59, 55, 32, 112, 111, 105, 110, 116, 32, 100, 59, 49, 48, 32, 99, 111, 109, 112, 108, 101, 116, 101, 100, 32, 114, 59, 49, 49, 32, 107, 110, 111, 119, 110, 32, 114, 59, 49, 50, 32, 102, 108, 117, 115, 104, 32]
 | 3 => [49, 32, 115, 121, 110, 99, 32, 59, 50, 32, 114, 101, 115, 117, 108, 116, 32, 100, 118, 59, 51, 32, 101, 120, 99, 101, 112, 116, 105, 111, 110, 32, 119, 100, 116]
 | 4 => [49, 32, 116, 114, 97, 110, 115, 102, 101, 114, 32, 115, 110, 59, 50, 32, 97, 99, 99, 101, 112, 116, 32, 114, 59, 51, 32, 114, 101, 106, 101, 99, 116, 32, 114, 119, 115, 59, 52, 32, 114, 101, 108, 101, 97, 115, 101, 32, 114, 98, 59, 55, 32, 115, 117, 98, 115, 99, 114, 105, 98, 101, 32, 115, 115, 59, 56, 32, 99, 97, 110, 99, 101, 108, 32, 115, 59, 49, 48, 32, 102, 108, 111, 119, 32, 115, 100, 59, 49, 50, 32, 115, 116, 111, 112, 32, 115]
 | 5 => [49, 32, 115, 101, 108, 101, 99, 116, 32, 59, 50, 32, 99, 111, 109, 109, 105, 116, 32, 59, 51, 32, 114, 111, 108, 108, 98, 97, 99, 107, 32]
 | 6 => [49, 32, 115, 101, 108, 101, 99, 116, 32, 59, 50, 32, 115, 116, 97, 114, 116, 32, 120, 98, 98, 59, 51, 32, 101, 110, 100, 32, 120, 98, 98, 59, 52, 32, 99, 111, 109, 109, 105, 116, 32, 120, 98, 59, 53, 32, 102, 111, 114, 103, 101, 116, 32, 120, 59, 54, 32, 103, 101, 116, 45, 116, 105, 109, 101, 111, 117, 116, 32, 120, 59, 55, 32, 112, 114, 101, 112, 97, 114, 101, 32, 120, 59, 56, 32, 114, 101, 99, 111, 118, 101, 114, 32, 59, 57, 32, 114, 111, 108, 108, 98, 97, 99, 107, 32, 120, 59, 49, 48, 32, 115, 101, 116, 45, 116, 105, 109, 101, 111, 117, 116, 32, 120, 100]
 | 8 => [49, 32, 100, 101, 99, 108, 97, 114, 101, 32, 115, 98, 100, 59, 50, 32, 100, 101, 108, 101, 116, 101, 32, 115, 98, 59, 51, 32, 112, 117, 114, 103, 101, 32, 115, 59, 52, 32, 113, 117, 101, 114, 121, 32, 115]
 | _ => []
def clsRows : Nat → List MRow
 | 1 => [⟨1, [115, 116, 97, 114, 116], [116]⟩, ⟨2, [115, 116, 97, 114, 116, 45, 111, 107], [116]⟩, ⟨5, [116, 117, 110, 101], [119, 119]⟩, ⟨6, [116, 117, 110, 101, 45, 111, 107], [119, 119]⟩, ⟨7, [111, 112, 101, 110], [115]⟩, ⟨8, [111, 112, 101, 110, 45, 111, 107], []⟩, ⟨11, [99, 108, 111, 115, 101], [119, 115]⟩, ⟨12, [99, 108, 111, 115, 101, 45, 111, 107], []⟩]
 | 2 => [⟨1, [97, 116, 116, 97, 99, 104], [116, 98]⟩, ⟨2, [97, 116, 116, 97, 99, 104, 101, 100], [116]⟩, ⟨3, [100, 101, 116, 97, 99, 104], [116]⟩, ⟨4, [100, 101, 116, 97, 99, 104, 101, 100], [116, 110]⟩, ⟨7, [112, 111, 105, 110, 116], [100]⟩, ⟨10, [99, 111, 109, 112, 108, 101, 116, 101, 100], [114]⟩, ⟨11, [107, 110, 111, 119, 110], [114]⟩, ⟨12, [102, 108, 117, 115, 104], []⟩]
 | 3 => [⟨1, [115, 121, 110, 99], []⟩, ⟨2, [114, 101, 115, 117, 108, 116], [100, 118]⟩, ⟨3, [101, 120, 99, 101, 112, 116, 105, 111, 110], [119, 100, 116]⟩]
 | 4 => [⟨1, [116, 114, 97, 110, 115, 102, 101, 114], [115, 110]⟩, ⟨2, [97, 99, 99, 101, 112, 116], [114]⟩, ⟨3, [114, 101, 106, 101, 99, 116], [114, 119, 115]⟩, ⟨4, [114, 101, 108, 101, 97, 115, 101], [114, 98]⟩, ⟨7, [115, 117, 98, 115, 99, 114, 105, 98, 101], [115, 115]⟩, ⟨8, [99, 97, 110, 99, 101, 108], [115]⟩, ⟨10, [102, 108, 111, 119], [115, 100]⟩, ⟨12, [115, 116, 111, 112], [115]⟩]
 | 5 => [⟨1, [115, 101, 108, 101, 99, 116], []⟩, ⟨2, [99, 111, 109, 109, 105, 116], []⟩, ⟨3, [114, 111, 108, 108, 98, 97, 99, 107], []⟩]
 | 6 => [⟨1, [115, 101, 108, 101, 99, 116], []⟩, ⟨2, [115, 116, 97, 114, 116], [120, 98, 98]⟩, ⟨3, [101, 110, 100], [120, 98, 98]⟩, ⟨4, [99, 111, 109, 109, 105, 116], [120, 98]⟩, ⟨5, [102, 111, 114, 103, 101, 116], [120]⟩, ⟨6, [103, 101, 116, 45, 116, 105, 109, 101, 111, 117, 116], [120]⟩, ⟨7, [112, 114, 101, 112, 97, 114, 101], [120]⟩, ⟨8, [114, 101, 99, 111, 118, 101, 114], []⟩, ⟨9, [114, 111, 108, 108, 98, 97, 99, 107], [120]⟩, ⟨10, [115, 101, 116, 45, 116, 105, 109, 101, 111, 117, 116], [120, 100]⟩]
 | 8 => [⟨1, [100, 101, 99, 108, 97, 114, 101], [115, 98, 100]⟩, ⟨2, [100, 101, 108, 101, 116, 101], [115, 98]⟩, ⟨3, [112, 117, 114, 103, 101], [115]⟩, ⟨4, [113, 117, 101, 114, 121], [115]⟩]
 | _ => []
def refTab : List RRow := [⟨1, 1, [99, 111, 110, 110, 101, 99, 116, 105, 111, 110, 46, 115, 116, 97, 114, 116], [116]⟩, ⟨1, 2, [99, 111, 110, 110, 101, 99, 116, 105, 111, 110, 46, 115, 116, 97, 114, 116, 45, 111, 107], [116]⟩, ⟨1, 5, [99, 111, 110, 110, 101, 99, 116, 105, 111, 110, 46, 116, 117, 110, 101], [119, 119]⟩, ⟨1, 6, [99, 111, 110, 110, 101, 99, 116, 105, 111, 110, 46, 116, 117, 110, 101, 45, 111, 107], [119, 119]⟩, ⟨1, 7, [99, 111, 110, 110, 101, 99, 116, 105, 111, 110, 46, 111, 112, 101, 110], [115]⟩, ⟨1, 8, [99, 111, 110, 110, 101, 99, 116, 105, 111, 110, 46, 111, 112, 101, 110, 45, 111, 107], []⟩, ⟨1, 11, [99, 111, 110, 110, 101, 99, 116, 105, 111, 110, 46, 99, 108, 111, 115, 101], [119, 115]⟩, ⟨1, 12, [99, 111, 110, 110, 101, 99, 116, 105, 111, 110, 46, 99, 108, 111, 115, 101, 45, 111, 107], []⟩, ⟨2, 1, [115, 101, 115, 115, 105, 111, 110, 46, 97, 116, 116, 97, 99, 104], [116, 98]⟩, ⟨2, 2, [115, 101, 115, 115, 105, 111, 110, 46, 97, 116, 116, 97, 99, 104, 101, 100], [116]⟩, ⟨2, 3, [115, 101, 115, 115, 105, 111, 110, 46, 100, 101, 116, 97, 99, 104], [116]⟩, ⟨2, 4, [115, 101, 115, 115, 105, 111, 110, 46, 100, 101, 116, 97, 99, 104, 101, 100], [116, 110]⟩, ⟨2, 7, [115, 101, 115, 115, 105, 111, 110, 46, 112, 111, 105, 110, 116], [100]⟩, ⟨2, 10, [115, 101, 115, 115, 105, 111, 110, 46, 99, 111, 109, 112, 108, 101, 116, 101, 100], [114]⟩, ⟨2, 11, [115, 101, 115, 115, 105, 111, 110, 46, 107, 110, 111, 119, 110], [114]⟩, ⟨2, 12, [115, 101, 115, 115, 105, 111, 110, 46, 102, 108, 117, 115, 104], []⟩, ⟨3, 1, [101, 120, 101, 99, 117, 116, 105, 111, 110, 46, 115, 121, 110, 99], []⟩, ⟨3, 2, [101, 120, 101, 99, 117, 116, 105, 111, 110, 46, 114, 101, 115, 117, 108, 116], [100, 118]⟩, ⟨3, 3, [101, 120, 101, 99, 117, 116, 105, 111, 110, 46, 101, 120, 99, 101, 112, 116, 105, 111, 110], [119, 100, 116]⟩, ⟨4, 1, [109, 101, 115, 115, 97, 103, 101, 46, 116, 114, 97, 110, 115, 102, 101, 114], [115, 110]⟩, ⟨4, 2, [109, 101, 115, 115, 97, 103, 101, 46, 97, 99, 99, 101, 112, 116], [114]⟩, ⟨4, 3, [109, 101, 115, 115, 97, 103, 101, 46, 114, 101, 106, 101, 99, 116], [114, 119, 115]⟩, ⟨4, 4, [109, 101, 115, 115, 97, 103, 101, 46, 114, 101, 108, 101, 97, 115, 101], [114, 98]⟩, ⟨4, 7, [109, 101, 115, 115, 97, 103, 101, 46, 115, 117, 98, 115, 99, 114, 105, 98, 101], [115, 115]⟩, ⟨4, 8, [109, 101, 115, 115, 97, 103, 101, 46, 99, 97, 110, 99, 101, 108], [115]⟩, ⟨4, 10, [109, 101, 115, 115, 97, 103, 101, 46, 102, 108, 111, 119], [115, 100]⟩, ⟨4, 12, [109, 101, 115, 115, 97, 103, 101, 46, 115, 116, 111, 112], [115]⟩, ⟨5, 1, [116, 120, 46, 115, 101, 108, 101, 99, 116], []⟩, ⟨5, 2, [116, 120, 46, 99, 111, 109, 109, 105, 116], []⟩, ⟨5, 3, [116, 120, 46, 114, 111, 108, 108, 98, 97, 99, 107], []⟩, ⟨6, 1, [100, 116, 120, 46, 115, 101, 108, 101, 99, 116], []⟩, ⟨6, 2, [100, 116, 120, 46, 115, 116, 97, 114, 116], [120, 98, 98]⟩, ⟨6, 3, [100, 116, 120, 46, 101, 110, 100], [120, 98, 98]⟩, ⟨6, 4, [100, 116, 120, 46, 99, 111, 109, 109, 105, 116], [120, 98]⟩, ⟨6, 5, [100, 116, 120, 46, 102, 111, 114, 103, 101, 116], [120]⟩, ⟨6, 6, [100, 116, 120, 46, 103, 101, 116, 45, 116, 105, 109, 101, 111, 117, 116], [120]⟩, ⟨6, 7, [100, 116, 120, 46, 112, 114, 101, 112, 97, 114, 101], [120]⟩, ⟨6, 8, [100, 116, 120, 46, 114, 101, 99, 111, 118, 101, 114], []⟩, ⟨6, 9, [100, 116, 120, 46, 114, 111, 108, 108, 98, 97, 99, 107], [120]⟩, ⟨6, 10, [100, 116, 120, 46, 115, 101, 116, 45, 116, 105, 109, 101, 111, 117, 116], [120, 100]⟩, ⟨8, 1, [113, 117, 101, 117, 101, 46, 100, 101, 99, 108, 97, 114, 101], [115, 98, 100]⟩, ⟨8, 2, [113, 117, 101, 117, 101, 46, 100, 101, 108, 101, 116, 101], [115, 98]⟩, ⟨8, 3, [113, 117, 101, 117, 101, 46, 112, 117, 114, 103, 101], [115]⟩, ⟨8, 4, [113, 117, 101, 117, 101, 46, 113, 117, 101, 114, 121], [115]⟩]
def findM (c k : Nat) : Option MRow := (clsRows c).find? fun r => decide (r.code = k)
def refFind (c k : Nat) : Option RRow := refTab.find? fun r => decide (r.cls = c ∧ r.code = k)
theorem cls_of {c : Nat} (h : clsRows c ≠ []) : c = 1 ∨ c = 2 ∨ c = 3 ∨ c = 4 ∨ c = 5 ∨ c = 6 ∨ c = 8 := by
 unfold clsRows at h
 split at h <;> simp_all
theorem tab_class (c : Nat) : refTab.filter (fun r => decide (r.cls = c)) = (clsRows c).map fun r => ⟨c, r.code, clsWord c ++ [46] ++ r.word, r.kinds⟩ := by
 by_cases h : c = 1 ∨ c = 2 ∨ c = 3 ∨ c = 4 ∨ c = 5 ∨ c = 6 ∨ c = 8
 ·rcases h with rfl | rfl | rfl | rfl | rfl | rfl | rfl <;> decide
 ·have h1 : clsRows c = [] := by
   cases hc : clsRows c with
   | nil => rfl
   | cons _ _ => exact absurd (cls_of (by rw [hc]; simp)) h
  rw [h1]
  simp only [List.map_nil, List.filter_eq_nil_iff, decide_eq_true_eq]
  have hall : ∀ r ∈ refTab, r.cls = 1 ∨ r.cls = 2 ∨ r.cls = 3 ∨ r.cls = 4 ∨ r.cls = 5 ∨ r.cls = 6 ∨ r.cls = 8 := by decide
  intro r hr e
  have := hall r hr
  rw [e] at this
  exact h this
theorem ref_find (c k : Nat) : refFind c k = (findM c k).map fun r => ⟨c, r.code, clsWord c ++ [46] ++ r.word, r.kinds⟩ := by
 have e : refFind c k = (refTab.filter fun r => decide (r.cls = c)).find? fun r => decide (r.code = k) := by
  unfold refFind
  rw [List.find?_filter]
  congr 1
  funext r
  simp
 rw [e, tab_class, List.find?_map]
 rfl
theorem row_len : ∀ r ∈ refTab, r.kinds.length ≤ 3 ∧ r.name.length ≤ 30 ∧ r.cls < 256 ∧ r.code < 256 := by decide
end Go.PH
end

/- Texts laid together: SpGetM, SpBackM, Str, MdMath, MdSplit. -/
import Derived.Lib.ConvBytes
import Derived.Lib.SplitLaws
import Derived.Test.YtidpbbleneekgaaDoorMg01
import Derived.Test.YtidpbbleneekgaaDoorMg02
import Derived.Test.YtidpbbleneekgaaDoorMg03
import Derived.Test.YtidpbbleneekgaaDoorMg04
section
/- The walks of spans' Get and of its reference's. -/
set_option linter.all false
set_option linter.unusedSimpArgs false
set_option linter.unusedVariables false
namespace Go.PH
open Go.RowKit Go.Proofs

theorem own_keep {w w' : World} {base e size n c : Nat} {A : Option Addr} {xs : List Value} {row : Option Nat} (ho : Own w base e size A n c xs) (hg : w.grownBy w' row) (h : ∀ g, blk A = some g → row ≠ some g) : Own w' base e size A n c xs :=
  ho.kept hg (by
    rw [ownBlock_eq]
    cases hA : blk A with
    | none => exact .inl rfl
    | some g => exact .inr fun e => h g hA e.symm)
theorem below_ownS {w w' : World} {base e size n c : Nat} {A : Option Addr} {xs : List Value} (ho : Own w base e size A n c xs) (hB : Below w.heap.size w w') : Own w' base e size A n c xs :=
  ho.kept (grownOf hB none) (by cases hv : (Value.slice A n c).ownBlock <;> simp)
theorem mnum_ok {l : List UInt8} {x : Nat} (hx : x = 1 ∨ x = 2 ∨ x = 4 ∨ x = 8) (h : x ≤ l.length) : mnum l false (x : Int) = (unbe (l.take x), l.drop x, false) := by
  rw [mnum_yes (wideB_yes (by omega)), mtake_yes h]
theorem mnum_short {l : List UInt8} {x : Nat} (hx : x = 1 ∨ x = 2 ∨ x = 4 ∨ x = 8) (h : l.length < x) : mnum l false (x : Int) = (0, [], true) := by
  rw [mnum_yes (wideB_yes (by omega)), mtake_no (.inr (.inr (by omega)))]; rfl
theorem unbe_take {l : List UInt8} {x : Nat} : unbe (l.take x) < 256 ^ x := by
  have h1 := unbe_lt (l.take x)
  have h2 : (l.take x).length ≤ x := by simp; omega
  exact Nat.lt_of_lt_of_le h1 (Nat.pow_le_pow_right (by omega) h2)
def getSpans (k : Nat) (l : List UInt8) : List Sp := (List.range k).map fun i => (unbe ((l.drop (8 * i)).take 4), unbe ((l.drop (8 * i + 4)).take 4))
theorem getSpans_next (k : Nat) (l : List UInt8) : getSpans (k + 1) l = getSpans k l ++ [(unbe ((l.drop (8 * k)).take 4), unbe ((l.drop (8 * k + 4)).take 4))] := by
  unfold getSpans; rw [List.range_succ, List.map_append]; rfl
theorem getSpans_ok (k : Nat) (l : List UInt8) : spOK 4294967296 (getSpans k l) := by
  intro a ha
  obtain ⟨i, _, rfl⟩ := List.mem_map.1 ha
  exact ⟨unbe_take, unbe_take⟩
theorem getSpans_len (k : Nat) (l : List UInt8) : (getSpans k l).length = k := by simp [getSpans]
def getN (b : List UInt8) : Nat := unbe (b.take 2)
def spGetErr (b : List UInt8) : Nat :=
  if b.length < 2 then 4 else if getN b % 8 ≠ 0 ∨ 1000 < getN b / 8 then 5 else if b.length < 2 + getN b then 4 else if spRight (getSpans (getN b / 8) (b.drop 2)) = true then 0 else 5
def spGet (b : List UInt8) : List Sp := if spGetErr b = 0 then getSpans (getN b / 8) (b.drop 2) else []
def spGetN (b : List UInt8) : Nat := if spGetErr b = 0 then getN b + 2 else 0
theorem spGet_err {b : List UInt8} {e : Nat} (h : spGetErr b = e) (he : e ≠ 0) : spGet b = [] ∧ spGetN b = 0 := by
  unfold spGet spGetN; rw [h]; simp [he]
set_option maxRecDepth 20000 in
set_option maxHeartbeats 2000000 in
theorem spget_any (A : Option Addr) (n c : Nat) (b : List UInt8) (w : World) (hr : RdB w w.heap.size A n c b) (hn : n ≤ 140737488351232) :
    Calls Tryd.prog 73 #[.slice A n c] w fun e w' => ∃ A2 c2, e = .returned (.tuple #[.slice A2 (spGet b).length c2, .int .i64 (spGetN b), .int .i64 (spGetErr b)]) ∧ OwnS w' w.heap.size A2 (spGet b).length c2 (spGet b) ∧ Below w.heap.size w w' := by
  have hl := RdB.length hr
  by_cases h2 : b.length < 2
  · have hx : spGetErr b = 4 := by rw [spGetErr, if_pos h2]
    have HE := Lib.hid (spGet_err hx (by omega))
    have HX := Lib.hid hx
    clear hx
    have hm : mnum b false 2 = (0, [], true) := mnum_short (x := 2) (by omega) h2
    go_enter Tryd.func73, Tryd.ntmps73
    go_wp2_with (first | (with_reducible refine hold_append ?_) | (with_reducible refine hold_make ?_) | (with_reducible refine hold_copy ?_))
    refine (rdopen_any A n c b w hr (by omega)).mono ?_
    rintro e w1 ⟨rb, vb, rfl, hrbb, hvb, hR1, hB1⟩
    have hrn := rdnum_any hR1 2 (by omega) (by omega)
    rw [hm] at hrn
    go_wp2_with (first | (with_reducible refine hold_append ?_) | (with_reducible refine hold_make ?_) | (with_reducible refine hold_copy ?_))
    refine hrn.mono ?_
    rintro e w2 ⟨rfl, hR2, hg2⟩
    have hB2 := hB1.grown hg2 hB1.size (fun g hg => by injection hg with hg; omega)
    go_wp2_with (first | (with_reducible refine hold_append ?_) | (with_reducible refine hold_make ?_) | (with_reducible refine hold_copy ?_))
    refine (rdbad_any hR2).mono ?_
    rintro e w3 ⟨rfl, rfl⟩
    go_wp2_with (first | (with_reducible refine hold_append ?_) | (with_reducible refine hold_make ?_) | (with_reducible refine hold_copy ?_))
    go_ret3
    rw [HE.out.1, HE.out.2, HX.out]
    exact ⟨none, 0, rfl, Own.none_ _ _ _ _, hB2⟩
  · have hm : mnum b false 2 = (unbe (b.take 2), b.drop 2, false) := mnum_ok (x := 2) (by omega) (by omega)
    have hN : getN b < 65536 := unbe_take
    have hgn : unbe (b.take 2) = getN b := rfl
    rw [hgn] at hm
    have hdl : (b.drop 2).length = b.length - 2 := by simp
    have HGE : Hid (spGetErr b = if getN b % 8 ≠ 0 ∨ 1000 < getN b / 8 then 5 else if b.length < 2 + getN b then 4 else if spRight (getSpans (getN b / 8) (b.drop 2)) = true then 0 else 5) := Lib.hid (by rw [spGetErr, if_neg h2])
    have HGS : Hid (spGetErr b = 0 → spGet b = getSpans (getN b / 8) (b.drop 2) ∧ spGetN b = getN b + 2) := Lib.hid (fun h => by unfold spGet spGetN; rw [h]; simp)
    go_enter Tryd.func73, Tryd.ntmps73
    go_wp2_with (first | (with_reducible refine hold_append ?_) | (with_reducible refine hold_make ?_) | (with_reducible refine hold_copy ?_))
    refine (rdopen_any A n c b w hr (by omega)).mono ?_
    rintro e w1 ⟨rb, vb, rfl, hrbb, hvb, hR1, hB1⟩
    have hrn := rdnum_any hR1 2 (by omega) (by omega)
    rw [hm] at hrn
    generalize getN b = N at *
    generalize hrest : b.drop 2 = rest at *
    have hrb : b.length = rest.length + 2 := by omega
    have HDL := Lib.hid hdl
    clear hdl
    clear hm hgn
    have hwN : IntKind.i64.wrap ((N : Nat) : Int) = (N : Int) := IntWalk.i64_in _ ⟨by omega, by omega⟩
    go_wp2_with (first | (with_reducible refine hold_append ?_) | (with_reducible refine hold_make ?_) | (with_reducible refine hold_copy ?_))
    refine hrn.mono ?_
    rintro e w2 ⟨rfl, hR2, hg2⟩
    have hB2 := hB1.grown hg2 hB1.size (fun g hg => by injection hg with hg; omega)
    have hz2 : w1.heap.size ≤ w2.heap.size := hg2.size
    clear hg2 hrn hR1
    have HREST := Lib.hid hrest
    clear hrest
    have HRB := Lib.hid hrb
    clear hrb
    obtain ⟨Q, hQ⟩ : ∃ Q, Q = N / 8 := ⟨_, rfl⟩
    have hq8 : (N : Int) / 8 = (Q : Int) := by omega
    rw [← hQ] at HGE HGS
    go_wp2_with (first | (with_reducible refine hold_append ?_) | (with_reducible refine hold_make ?_) | (with_reducible refine hold_copy ?_))
    refine (rdbad_any hR2).mono ?_
    rintro e w3 ⟨rfl, rfl⟩
    by_cases h8 : N % 8 = 0
    · have hd8 : ((N : Int) % 8 != 0) = false := by simp; omega
      by_cases hk : 1000 < Q
      · have hdk : (1000 : Int) < (Q : Int) := by omega
        have hx : spGetErr b = 5 := by rw [HGE.out, if_pos (.inr hk)]
        have HE := Lib.hid (spGet_err hx (by omega))
        have HX := Lib.hid hx
        clear hx hQ h8
        go_wp2_with (first | (with_reducible refine hold_append ?_) | (with_reducible refine hold_make ?_) | (with_reducible refine hold_copy ?_))
        go_ret3
        rw [HE.out.1, HE.out.2, HX.out]
        exact ⟨none, 0, rfl, Own.none_ _ _ _ _, hB2⟩
      · have hdk : decide ((1000 : Int) < (Q : Int)) = false := by simp; omega
        have hNQ := Lib.hid (show N = 8 * Q by omega)
        clear hQ
        go_wp2_with (first | (with_reducible refine hold_append ?_) | (with_reducible refine hold_make ?_) | (with_reducible refine hold_copy ?_))
        refine (rdleft_any hR2).mono ?_
        rintro e w4 ⟨rfl, rfl⟩
        by_cases hlr : rest.length < N
        · have hdl' : (rest.length : Int) < (N : Int) := by omega
          have hx : spGetErr b = 4 := by have := HRB.out; rw [HGE.out, if_neg (by omega), if_pos (by omega)]
          have HE := Lib.hid (spGet_err hx (by omega))
          have HX := Lib.hid hx
          clear hx h8
          go_wp2_with (first | (with_reducible refine hold_append ?_) | (with_reducible refine hold_make ?_) | (with_reducible refine hold_copy ?_))
          go_ret3
          rw [HE.out.1, HE.out.2, HX.out]
          exact ⟨none, 0, rfl, Own.none_ _ _ _ _, hB2⟩
        · have hdl' : ¬ (rest.length : Int) < (N : Int) := by omega
          have HGE2 : Hid (spGetErr b = if spRight (getSpans Q rest) = true then 0 else 5) := Lib.hid (by have := HRB.out; rw [HGE.out, if_neg (by omega), if_neg (by omega)])
          clear h8
          go_wp2_with (first | (with_reducible refine hold_append ?_) | (with_reducible refine hold_make ?_) | (with_reducible refine hold_copy ?_))
          go_loopw [31, 7] (fun s v wr => ∃ (k c2 : Nat) (A2 : Option Addr) (out : List Sp), k ≤ Q ∧ s = .int .i64 k ∧ v = .slice A2 out.length c2 ∧ out = getSpans k rest ∧ OwnS wr w1.heap.size A2 out.length c2 out ∧ Rdr (fun g => w.heap.size ≤ g ∧ g < w1.heap.size) wr (.pointer (some ⟨rb, 0, none⟩)) (some vb) (rest.drop (8 * k)) false ∧ w1.heap.size ≤ wr.heap.size ∧ Below w.heap.size w wr) (fun s _ _ => Q - (RowKit.intOf s).toNat)
          case atStart => exact ⟨0, 0, none, [], by omega, rfl, rfl, by simp [getSpans], Own.none_ _ _ _ _, by simpa using hR2, hz2, hB2⟩
          case round =>
            clear hR2 hz2 hB2
            obtain ⟨k, c2, A2, out, hk', rfl, rfl, hout, ho, hR, hz, hBr⟩ := hrel
            have hkl : out.length = k := by rw [hout, getSpans_len]
            by_cases hlt : k < Q
            · have hdq : (k : Int) < (Q : Int) := by omega
              have hNQ' := hNQ.out
              have hn1 := rdnum_any hR 4 (by omega) (by omega)
              have hm1 : mnum (rest.drop (8 * k)) false 4 = (unbe ((rest.drop (8 * k)).take 4), (rest.drop (8 * k)).drop 4, false) := mnum_ok (x := 4) (by omega) (by simp; omega)
              rw [hm1] at hn1
              have hm2 : mnum ((rest.drop (8 * k)).drop 4) false 4 = (unbe ((rest.drop (8 * k + 4)).take 4), rest.drop (8 * (k + 1)), false) := by
                have := mnum_ok (l := rest.drop (8 * k + 4)) (x := 4) (by omega) (by simp; omega)
                rw [List.drop_drop]
                exact this.trans (by rw [List.drop_drop, show 8 * k + 4 + 4 = 8 * (k + 1) by omega])
              have HNX : Hid (getSpans (k + 1) rest = out ++ [(unbe ((rest.drop (8 * k)).take 4), unbe ((rest.drop (8 * k + 4)).take 4))]) := Lib.hid (by rw [getSpans_next, hout])
              have hv1 : unbe ((rest.drop (8 * k)).take 4) < 4294967296 := unbe_take
              have hv2 : unbe ((rest.drop (8 * k + 4)).take 4) < 4294967296 := unbe_take
              have hAF : ∀ g, blk A2 = some g → ¬ (w.heap.size ≤ g ∧ g < w1.heap.size) := fun g hg h => by have := (ho.blk_lt hg).1; omega
              have hFv : w.heap.size ≤ vb ∧ vb < w1.heap.size := hR.inF rfl
              have hvA : ∀ g, blk A2 = some g → some vb ≠ some g := fun g hg e => by injection e with e; subst e; exact hAF _ hg hFv
              clear hout hNQ' hm1
              generalize unbe ((rest.drop (8 * k)).take 4) = v1 at *
              generalize unbe ((rest.drop (8 * k + 4)).take 4) = v2 at *
              have hw1 : IntKind.u32.wrap ((v1 : Nat) : Int) = (v1 : Int) := IntWalk.u32_in _ ⟨by omega, by omega⟩
              have hw2 : IntKind.u32.wrap ((v2 : Nat) : Int) = (v2 : Int) := IntWalk.u32_in _ ⟨by omega, by omega⟩
              have HKL := Lib.hid hkl
              have hol : out.length ≤ 1000 := by omega
              clear hkl
              go_wp2_with (first | (with_reducible refine hold_append ?_) | (with_reducible refine hold_make ?_) | (with_reducible refine hold_copy ?_))
              refine hn1.mono ?_
              rintro e w5 ⟨rfl, hR5, hg5⟩
              have hB5 := hBr.grown hg5 hBr.size (fun g hg => by injection hg with hg; omega)
              have ho5 : OwnS w5 w1.heap.size A2 out.length c2 out := own_keep ho hg5 hvA
              have hz5 : w1.heap.size ≤ w5.heap.size := Nat.le_trans hz hg5.size
              have hn2 := rdnum_any hR5 4 (by omega) (by omega)
              rw [hm2] at hn2
              clear hn1 hg5 hm2
              go_wp2_with (first | (with_reducible refine hold_append ?_) | (with_reducible refine hold_make ?_) | (with_reducible refine hold_copy ?_))
              refine hn2.mono ?_
              rintro e w6 ⟨rfl, hR6, hg6⟩
              have hB6 := hB5.grown hg6 hB5.size (fun g hg => by injection hg with hg; omega)
              have ho6 : OwnS w6 w1.heap.size A2 out.length c2 out := own_keep ho5 hg6 hvA
              have hz6 : w1.heap.size ≤ w6.heap.size := Nat.le_trans hz5 hg6.size
              clear hn2 hg6 hR5 ho5 ho hR
              go_wp2_with (first | (with_reducible refine hold_append ?_) | (with_reducible refine hold_make ?_) | (with_reducible refine hold_copy ?_))
              refine unhold (wp_push slS Tryd.underlying50 rfl rfl rfl rfl rfl v1 v2 rfl rfl ho6 (by omega) hz6 ?_)
              intro A7 c7 w7 ho7 hg7 _ hB7
              have hR7 := hR6.kept hg7 hAF
              have hz7 : w1.heap.size ≤ w7.heap.size := Nat.le_trans hz6 hg7.size
              have hB67 := hB6.trans (hB7.mono (by have := hB1.size; omega))
              go_wp2_with (first | (with_reducible refine hold_append ?_) | (with_reducible refine hold_make ?_) | (with_reducible refine hold_copy ?_))
              have hkl := HKL.out
              exact ⟨⟨k + 1, c7, A7, out ++ [(v1, v2)], by omega, by go_num, by simp, HNX.out.symm, by simpa using ho7, hR7, hz7, hB67⟩, by simp [RowKit.intOf]; omega⟩
            · obtain rfl : k = Q := by omega
              have hdq : decide ((k : Int) < (k : Int)) = false := by simp
              have hok := getSpans_ok k rest
              rw [← hout] at hok
              have hrr := right_any A2 out.length c2 out _ wr ho.rd hok (Nat.le_refl _) (by omega)
              have HO := Lib.hid hout
              have hbase := hB1.size
              cases hri : spRight out
              · rw [hri] at hrr
                have hx : spGetErr b = 5 := by rw [HGE2.out, ← HO.out, hri]; rfl
                have HE := Lib.hid (spGet_err hx (by omega))
                have HX := Lib.hid hx
                clear hx hout hri hkl
                go_wp2_with (first | (with_reducible refine hold_append ?_) | (with_reducible refine hold_make ?_) | (with_reducible refine hold_copy ?_))
                refine hrr.mono ?_
                rintro e w8 ⟨rfl, hB8⟩
                have hB9 := hBr.trans (hB8.mono hBr.size)
                go_wp2_with (first | (with_reducible refine hold_append ?_) | (with_reducible refine hold_make ?_) | (with_reducible refine hold_copy ?_))
                go_ret3
                rw [HE.out.1, HE.out.2, HX.out]
                exact ⟨none, 0, rfl, Own.none_ _ _ _ _, hB9⟩
              · rw [hri] at hrr
                have hx : spGetErr b = 0 := by rw [HGE2.out, ← HO.out, hri]; rfl
                have hgs := HGS.out hx
                rw [← HO.out] at hgs
                have HG := Lib.hid hgs
                have HX := Lib.hid hx
                have hw2 : IntKind.i64.wrap ((N : Int) + 2) = ((N + 2 : Nat) : Int) := by rw [IntWalk.i64_in _ ⟨by omega, by omega⟩]; omega
                clear hx hout hri hgs hkl
                go_wp2_with (first | (with_reducible refine hold_append ?_) | (with_reducible refine hold_make ?_) | (with_reducible refine hold_copy ?_))
                refine hrr.mono ?_
                rintro e w8 ⟨rfl, hB8⟩
                have hB9 := hBr.trans (hB8.mono hBr.size)
                have ho8 := below_ownS ho hB8
                have ho9 := ho8.base_le hbase
                go_wp2_with (first | (with_reducible refine hold_append ?_) | (with_reducible refine hold_make ?_) | (with_reducible refine hold_copy ?_))
                go_ret3
                rw [HG.out.1, HG.out.2, HX.out]
                exact ⟨A2, c2, by first | rfl | simp, ho9, hB9⟩
    · have hd8 : ((N : Int) % 8 != 0) = true := by simp; omega
      have hx : spGetErr b = 5 := by rw [HGE.out, if_pos (.inl h8)]
      have HE := Lib.hid (spGet_err hx (by omega))
      have HX := Lib.hid hx
      clear hx h8 hQ
      go_wp2_with (first | (with_reducible refine hold_append ?_) | (with_reducible refine hold_make ?_) | (with_reducible refine hold_copy ?_))
      go_ret3
      rw [HE.out.1, HE.out.2, HX.out]
      exact ⟨none, 0, rfl, Own.none_ _ _ _ _, hB2⟩
end Go.PH
end
section
/- What is put is got, and what is got is put, as plain mathematics. -/
set_option linter.all false
set_option linter.unusedSimpArgs false
set_option linter.unusedVariables false
namespace Go.PH

theorem getSpans_cons (k : Nat) (l : List UInt8) : getSpans (k + 1) l = (unbe (l.take 4), unbe ((l.drop 4).take 4)) :: getSpans k (l.drop 8) := by
  unfold getSpans
  rw [List.range_succ_eq_map, List.map_cons, List.map_map]
  congr 1
  apply List.map_congr_left
  intro i _
  simp only [Function.comp, List.drop_drop]
  rw [show 8 * Nat.succ i = 8 + 8 * i by omega, show 8 + 8 * i + 4 = 8 + (8 * i + 4) by omega]
theorem getSpans_put : ∀ (l : List Sp) (r : List UInt8), spOK 4294967296 l → getSpans l.length (spBytes l ++ r) = l
  | [], r, _ => rfl
  | a :: l, r, h => by
    have ha := h a (by simp)
    have e : spBytes (a :: l) ++ r = be 4 a.1 ++ (be 4 a.2 ++ (spBytes l ++ r)) := by
      show be 4 a.1 ++ be 4 a.2 ++ spBytes l ++ r = _
      simp
    rw [List.length_cons, getSpans_cons, e]
    have l1 := be_length 4 a.1
    have l2 := be_length 4 a.2
    have d1 : (be 4 a.1 ++ (be 4 a.2 ++ (spBytes l ++ r))).drop 4 = be 4 a.2 ++ (spBytes l ++ r) := by rw [List.drop_append_of_le_length (by omega), List.drop_of_length_le (by omega)]; rfl
    have d2 : (be 4 a.1 ++ (be 4 a.2 ++ (spBytes l ++ r))).drop 8 = spBytes l ++ r := by
      rw [show (8 : Nat) = 4 + 4 from rfl, ← List.drop_drop, d1, List.drop_append_of_le_length (by omega), List.drop_of_length_le (by omega)]; rfl
    rw [d1, d2, List.take_append_of_le_length (by omega), List.take_of_length_le (by omega), List.take_append_of_le_length (by omega), List.take_of_length_le (by omega), unbe_be, unbe_be, getSpans_put l r (fun z hz => h z (by simp [hz]))]
    congr 1
    exact Prod.ext (Nat.mod_eq_of_lt ha.1) (Nat.mod_eq_of_lt ha.2)
theorem put_got {l : List Sp} (r : List UInt8) (hr : spRight l = true) (hn : l.length ≤ 1000) (h : spOK 4294967296 l) : spGetErr (spPut l ++ r) = 0 ∧ spGet (spPut l ++ r) = l ∧ spGetN (spPut l ++ r) = (spPut l).length := by
  have e : spPut l = be 2 (8 * l.length) ++ spBytes l := by rw [spPut, if_pos ⟨hr, by omega⟩]
  have lb := be_length 2 (8 * l.length)
  have ls := spBytes_len l
  have hN : getN (spPut l ++ r) = 8 * l.length := by
    unfold getN
    rw [e, List.append_assoc, List.take_append_of_le_length (by omega), List.take_of_length_le (by omega), unbe_be, Nat.mod_eq_of_lt (by omega)]
  have hd : (spPut l ++ r).drop 2 = spBytes l ++ r := by
    rw [e, List.append_assoc, List.drop_append_of_le_length (by omega), List.drop_of_length_le (by omega)]; rfl
  have hl : (spPut l ++ r).length = 2 + 8 * l.length + r.length := by rw [e]; simp only [List.length_append, lb, ls]
  have hq : 8 * l.length / 8 = l.length := by omega
  have h0 : spGetErr (spPut l ++ r) = 0 := by
    rw [spGetErr, hN, hd, hq, if_neg (by omega), if_neg (by omega), if_neg (by omega), getSpans_put l r h, hr]; rfl
  refine ⟨h0, ?_, ?_⟩
  · rw [spGet, h0, hN, hd, hq, getSpans_put l r h]; rfl
  · rw [spGetN, h0, hN, e]; simp only [List.length_append, lb, ls]; simp; omega
end Go.PH
end
section
/- Texts: cut, put together, turned into bytes. -/
set_option linter.all false
set_option linter.unusedSimpArgs false
set_option linter.unusedVariables false
namespace Go.PH
open Go.RowKit
section
variable {P : Program} {w : World} {t : TypeId}
theorem str_extract (l : List UInt8) (a b : Nat) : (str l).extract a b = str ((l.take b).drop a) := by
  rw [List.drop_take]; exact ByteArray.extract_mk l a b
theorem run_cutS (hu : P.underlying t = some .string) (w : World) {l : List UInt8} {lo hi : Option Value} (i j : Nat) (hlo : Bd lo 0 i) (hhi : Bd hi l.length j) (h1 : i ≤ j) (h2 : j ≤ l.length) :
    (Instr.sliceAt t (.string (str l)) lo hi none).run P w = .ok (.string (str ((l.take j).drop i))) w := by
  rw [run_sliceAt_string w t _ _ _ _ hu]
  rcases hlo with ⟨rfl, rfl⟩ | ⟨kd, X, rfl, rfl⟩
  · rcases hhi with ⟨rfl, rfl⟩ | ⟨kd, X, rfl, rfl⟩
    · rw [run_slice_string_all (h := hu), str_size, str_extract]
    · rw [run_slice_string_h (ht := hu) (h0 := by omega) (h2 := by rw [str_size]; omega), str_extract]; simp
  · rcases hhi with ⟨rfl, rfl⟩ | ⟨kd', X, rfl, rfl⟩
    · rw [run_slice_string_l (ht := hu) (h0 := by omega) (h1 := by rw [str_size]; omega), str_size, str_extract]; simp
    · rw [run_slice_string (h := hu) (h0 := by omega) (h1 := by omega) (h2 := by rw [str_size]; omega), str_extract]; simp
variable {ops : Array Oper} {rest : List Oper} {o : Oper} {a : Act} {Q : Exit → Act → World → Prop} {x : Operand} {K : Act → World → Prop}
theorem op_cutS {lo hi : Option Operand} (hu : P.underlying t = some .string) (ho : o.op = .slice t x lo hi none) {l : List UInt8} (hx : a.eval x = .string (str l)) (i j : Nat) (hlo : Bd (lo.map a.eval) 0 i) (hhi : Bd (hi.map a.eval) l.length j) (h1 : i ≤ j) (h2 : j ≤ l.length)
    (hk : K (a.put o.dst (.string (str ((l.take j).drop i)))) w) : o.wp P a w K Q := by
  have hrun := run_cutS hu w i j hlo hhi h1 h2
  unfold Oper.wp execOp
  simp only [ho, hx, Sem.run_bind, Sem.run_pure, Result.andThen_ok, Option.map_none, hrun]
  exact hk
theorem wp_cutS {lo hi : Option Operand} (hu : P.underlying t = some .string) (hw : Region.wanted o (yielded ops a.tmps) = true) (ho : o.op = .slice t x lo hi none) {l : List UInt8} (hx : a.eval x = .string (str l)) (i j : Nat) (hlo : Bd (lo.map a.eval) 0 i) (hhi : Bd (hi.map a.eval) l.length j) (h1 : i ≤ j) (h2 : j ≤ l.length)
    (hk : wpList P ops Q rest (a.put o.dst (.string (str ((l.take j).drop i)))) w) : wpList P ops Q (o :: rest) a w :=
  BigFrame.wpList_want hw fun K hK => op_cutS hu ho hx i j hlo hhi h1 h2 (hK _ _ hk)
end
end Go.PH
end
section
/- The tables of methods, as plain lists: the program's and the document's. (Printed by wip/genmdtab.py.) -/
set_option linter.all false
set_option linter.unusedSimpArgs false
set_option linter.unusedVariables false
namespace Go.PH

/-- a row: its code, its word, its arguments' kinds -/
structure MRow where
  code : Nat
  word : List UInt8
  kinds : List UInt8
deriving DecidableEq
/-- a class's word, its rows as one text, its rows -/
def clsWord : Nat → List UInt8
  | 1 => [99, 111, 110, 110, 101, 99, 116, 105, 111, 110]
  | 2 => [115, 101, 115, 115, 105, 111, 110]
  | 3 => [101, 120, 101, 99, 117, 116, 105, 111, 110]
  | 4 => [109, 101, 115, 115, 97, 103, 101]
  | 5 => [116, 120]
  | 6 => [100, 116, 120]
  | 8 => [113, 117, 101, 117, 101]
  | _ => []
def clsText : Nat → List UInt8
  | 1 => [49, 32, 115, 116, 97, 114, 116, 32, 116, 59, 50, 32, 115, 116, 97, 114, 116, 45, 111, 107, 32, 116, 59, 53, 32, 116, 117, 110, 101, 32, 119, 119, 59, 54, 32, 116, 117, 110, 101, 45, 111, 107, 32, 119, 119, 59, 55, 32, 111, 112, 101, 110, 32, 115, 59, 56, 32, 111, 112, 101, 110, 45, 111, 107, 32, 59, 49, 49, 32, 99, 108, 111, 115, 101, 32, 119, 115, 59, 49, 50, 32, 99, 108, 111, 115, 101, 45, 111, 107, 32]
  | 2 => [49, 32, 97, 116, 116, 97, 99, 104, 32, 116, 98, 59, 50, 32, 97, 116, 116, 97, 99, 104, 101, 100, 32, 116, 59, 51, 32, 100, 101, 116, 97, 99, 104, 32, 116, 59, 52, 32, 100, 101, 116, 97, 99, 104, 101, 100, 32, 116, 110, 59, 55, 32, 112, 111, 105, 110, 116, 32, 100, 59, 49, 48, 32, 99, 111, 109, 112, 108, 101, 116, 101, 100, 32, 114, 59, 49, 49, 32, 107, 110, 111, 119, 110, 32, 114, 59, 49, 50, 32, 102, 108, 117, 115, 104, 32]
  | 3 => [49, 32, 115, 121, 110, 99, 32, 59, 50, 32, 114, 101, 115, 117, 108, 116, 32, 100, 118, 59, 51, 32, 101, 120, 99, 101, 112, 116, 105, 111, 110, 32, 119, 100, 116]
  | 4 => [49, 32, 116, 114, 97, 110, 115, 102, 101, 114, 32, 115, 110, 59, 50, 32, 97, 99, 99, 101, 112, 116, 32, 114, 59, 51, 32, 114, 101, 106, 101, 99, 116, 32, 114, 119, 115, 59, 52, 32, 114, 101, 108, 101, 97, 115, 101, 32, 114, 98, 59, 55, 32, 115, 117, 98, 115, 99, 114, 105, 98, 101, 32, 115, 115, 59, 56, 32, 99, 97, 110, 99, 101, 108, 32, 115, 59, 49, 48, 32, 102, 108, 111, 119, 32, 115, 100, 59, 49, 50, 32, 115, 116, 111, 112, 32, 115]
  | 5 => [49, 32, 115, 101, 108, 101, 99, 116, 32, 59, 50, 32, 99, 111, 109, 109, 105, 116, 32, 59, 51, 32, 114, 111, 108, 108, 98, 97, 99, 107, 32]
  | 6 => [49, 32, 115, 101, 108, 101, 99, 116, 32, 59, 50, 32, 115, 116, 97, 114, 116, 32, 120, 98, 98, 59, 51, 32, 101, 110, 100, 32, 120, 98, 98, 59, 52, 32, 99, 111, 109, 109, 105, 116, 32, 120, 98, 59, 53, 32, 102, 111, 114, 103, 101, 116, 32, 120, 59, 54, 32, 103, 101, 116, 45, 116, 105, 109, 101, 111, 117, 116, 32, 120, 59, 55, 32, 112, 114, 101, 112, 97, 114, 101, 32, 120, 59, 56, 32, 114, 101, 99, 111, 118, 101, 114, 32, 59, 57, 32, 114, 111, 108, 108, 98, 97, 99, 107, 32, 120, 59, 49, 48, 32, 115, 101, 116, 45, 116, 105, 109, 101, 111, 117, 116, 32, 120, 100]
  | 8 => [49, 32, 100, 101, 99, 108, 97, 114, 101, 32, 115, 98, 100, 59, 50, 32, 100, 101, 108, 101, 116, 101, 32, 115, 98, 59, 51, 32, 112, 117, 114, 103, 101, 32, 115, 59, 52, 32, 113, 117, 101, 114, 121, 32, 115]
  | _ => []
def clsRows : Nat → List MRow
  | 1 => [⟨1, [115, 116, 97, 114, 116], [116]⟩, ⟨2, [115, 116, 97, 114, 116, 45, 111, 107], [116]⟩, ⟨5, [116, 117, 110, 101], [119, 119]⟩, ⟨6, [116, 117, 110, 101, 45, 111, 107], [119, 119]⟩, ⟨7, [111, 112, 101, 110], [115]⟩, ⟨8, [111, 112, 101, 110, 45, 111, 107], []⟩, ⟨11, [99, 108, 111, 115, 101], [119, 115]⟩, ⟨12, [99, 108, 111, 115, 101, 45, 111, 107], []⟩]
  | 2 => [⟨1, [97, 116, 116, 97, 99, 104], [116, 98]⟩, ⟨2, [97, 116, 116, 97, 99, 104, 101, 100], [116]⟩, ⟨3, [100, 101, 116, 97, 99, 104], [116]⟩, ⟨4, [100, 101, 116, 97, 99, 104, 101, 100], [116, 110]⟩, ⟨7, [112, 111, 105, 110, 116], [100]⟩, ⟨10, [99, 111, 109, 112, 108, 101, 116, 101, 100], [114]⟩, ⟨11, [107, 110, 111, 119, 110], [114]⟩, ⟨12, [102, 108, 117, 115, 104], []⟩]
  | 3 => [⟨1, [115, 121, 110, 99], []⟩, ⟨2, [114, 101, 115, 117, 108, 116], [100, 118]⟩, ⟨3, [101, 120, 99, 101, 112, 116, 105, 111, 110], [119, 100, 116]⟩]
  | 4 => [⟨1, [116, 114, 97, 110, 115, 102, 101, 114], [115, 110]⟩, ⟨2, [97, 99, 99, 101, 112, 116], [114]⟩, ⟨3, [114, 101, 106, 101, 99, 116], [114, 119, 115]⟩, ⟨4, [114, 101, 108, 101, 97, 115, 101], [114, 98]⟩, ⟨7, [115, 117, 98, 115, 99, 114, 105, 98, 101], [115, 115]⟩, ⟨8, [99, 97, 110, 99, 101, 108], [115]⟩, ⟨10, [102, 108, 111, 119], [115, 100]⟩, ⟨12, [115, 116, 111, 112], [115]⟩]
  | 5 => [⟨1, [115, 101, 108, 101, 99, 116], []⟩, ⟨2, [99, 111, 109, 109, 105, 116], []⟩, ⟨3, [114, 111, 108, 108, 98, 97, 99, 107], []⟩]
  | 6 => [⟨1, [115, 101, 108, 101, 99, 116], []⟩, ⟨2, [115, 116, 97, 114, 116], [120, 98, 98]⟩, ⟨3, [101, 110, 100], [120, 98, 98]⟩, ⟨4, [99, 111, 109, 109, 105, 116], [120, 98]⟩, ⟨5, [102, 111, 114, 103, 101, 116], [120]⟩, ⟨6, [103, 101, 116, 45, 116, 105, 109, 101, 111, 117, 116], [120]⟩, ⟨7, [112, 114, 101, 112, 97, 114, 101], [120]⟩, ⟨8, [114, 101, 99, 111, 118, 101, 114], []⟩, ⟨9, [114, 111, 108, 108, 98, 97, 99, 107], [120]⟩, ⟨10, [115, 101, 116, 45, 116, 105, 109, 101, 111, 117, 116], [120, 100]⟩]
  | 8 => [⟨1, [100, 101, 99, 108, 97, 114, 101], [115, 98, 100]⟩, ⟨2, [100, 101, 108, 101, 116, 101], [115, 98]⟩, ⟨3, [112, 117, 114, 103, 101], [115]⟩, ⟨4, [113, 117, 101, 114, 121], [115]⟩]
  | _ => []
def findM (c k : Nat) : Option MRow := (clsRows c).find? fun r => decide (r.code = k)
theorem cls_of {c : Nat} (h : clsRows c ≠ []) : c = 1 ∨ c = 2 ∨ c = 3 ∨ c = 4 ∨ c = 5 ∨ c = 6 ∨ c = 8 := by
  unfold clsRows at h
  split at h <;> simp_all
end Go.PH
end
section
/- Rows of methods as one text: how it is cut, how a code is read. -/
set_option linter.all false
set_option linter.unusedSimpArgs false
set_option linter.unusedVariables false
namespace Go.PH

/-- a text cut at a sign -/
def cutsB (d : UInt8) : List UInt8 → List (List UInt8)
  | [] => [[]]
  | c :: r => if c = d then [] :: cutsB d r else
    match cutsB d r with
    | h :: t => (c :: h) :: t
    | [] => [[c]]
theorem cutsB_one {d : UInt8} : ∀ {a : List UInt8}, d ∉ a → cutsB d a = [a]
  | [], _ => rfl
  | c :: a, h => by
    have hc : c ≠ d := fun e => h (by simp [e])
    have ih := cutsB_one (a := a) (fun e => h (List.mem_cons_of_mem _ e))
    rw [cutsB, if_neg hc, ih]
theorem cutsB_more {d : UInt8} : ∀ {a : List UInt8} (r : List UInt8), d ∉ a → cutsB d (a ++ d :: r) = a :: cutsB d r
  | [], r, _ => by simp [cutsB]
  | c :: a, r, h => by
    have hc : c ≠ d := fun e => h (by simp [e])
    have ih := cutsB_more (a := a) r (fun e => h (List.mem_cons_of_mem _ e))
    rw [List.cons_append, cutsB, if_neg hc, ih]
theorem indexByte_atd : ∀ {a : List UInt8} {c : UInt8} (r : List UInt8), c ∉ a → Lib.indexByte (a ++ c :: r) c = (a.length : Int)
  | [], c, r, _ => by simp [Lib.indexByte]
  | b :: a, c, r, h => by
    have hb : (b == c) = false := by simp; exact fun e => h (by simp [e])
    have ih := indexByte_atd (a := a) (c := c) r (fun e => h (by simp [e]))
    rw [List.cons_append, Lib.indexByte, hb, ih]
    have : ((a.length : Int) == -1) = false := by rw [beq_eq_false_iff_ne]; omega
    simp [this]
def sepS (d : UInt8) : ByteArray := ⟨#[d]⟩
theorem split_cuts {d : UInt8} : ∀ (k : Nat) (l : List UInt8), l.count d = k → (Lib.splitB (sepS d) 0 k (str l)).map (fun b => b.data.toList) = cutsB d l
  | 0, l, h => by
    rw [Lib.splitB_zero, cutsB_one (List.count_eq_zero.1 h)]; rfl
  | k + 1, l, h => by
    have hm : d ∈ l := List.count_pos_iff.1 (by omega)
    obtain ⟨a, r, rfl, ha⟩ := List.eq_append_cons_of_mem hm
    have hc : r.count d = k := by
      rw [List.count_append, List.count_cons_self, List.count_eq_zero.2 ha] at h; omega
    have hi : Lib.indexB (str (a ++ d :: r)) (sepS d) = (a.length : Int) := by
      show Lib.index (a ++ d :: r) [d] = _
      rw [Lib.index_one, indexByte_atd r ha]
    rw [Lib.splitB_hit (sepS d) 0 k _ a.length hi, List.map_cons, cutsB_more r ha]
    have e1 : (str (a ++ d :: r)).extract (a.length + (sepS d).size) (str (a ++ d :: r)).size = str r := by
      rw [str_size, str_extract]
      congr 1
      rw [List.take_of_length_le (Nat.le_refl _)]
      show (a ++ d :: r).drop (a.length + 1) = r
      rw [← List.drop_drop, List.drop_left]
      rfl
    have e2 : ((str (a ++ d :: r)).extract 0 (a.length + 0)).data.toList = a := by
      rw [str_extract, Nat.add_zero, List.take_left, List.drop_zero]; rfl
    rw [e1, e2, split_cuts k r hc]
theorem count_cuts {d : UInt8} (l : List UInt8) : Lib.countB (str l) (sepS d) = l.count d := by
  show Lib.count l [d] = _
  exact Lib.count_one d l
theorem cuts_len {d : UInt8} (l : List UInt8) : (cutsB d l).length = l.count d + 1 := by
  rw [← split_cuts _ l rfl, List.length_map]
  exact Lib.splitB_all (sepS d) (by show 1 ≤ 1; omega) 0 _ _ (count_cuts l)
theorem split_cellsd {d : UInt8} (l : List UInt8) : (Lib.splitB (sepS d) 0 (Lib.countB (str l) (sepS d)) (str l)).map Value.string = (cutsB d l).map (fun p => Value.string (str p)) := by
  rw [count_cuts, ← split_cuts _ l rfl, List.map_map]
  rfl

/-- a code's digits, read as the program does, in eight bits -/
def codeM (l : List UInt8) : Nat := l.foldl (fun n c => (10 * n + c.toNat + 208) % 256) 0
def pieceM (p : List UInt8) : Option MRow := match cutsB 32 p with
  | [a, b, c] => some ⟨codeM a, b, c⟩
  | _ => none
/-- the first piece that is of a code -/
def findP (k : Nat) : List (List UInt8) → Option MRow
  | [] => none
  | p :: l => match pieceM p with
    | some r => if r.code = k then some r else findP k l
    | none => findP k l
theorem findP_app (k : Nat) (a b : List (List UInt8)) : findP k (a ++ b) = match findP k a with
  | some r => some r
  | none => findP k b := by
  induction a with
  | nil => rfl
  | cons p a ih =>
    simp only [List.cons_append, findP]
    cases pieceM p with
    | none => exact ih
    | some r =>
      simp only
      by_cases h : r.code = k
      · rw [if_pos h, if_pos h]
      · rw [if_neg h, if_neg h]; exact ih
theorem pieces_of (k : Nat) : ∀ l : List (List UInt8), findP k l = (l.filterMap pieceM).find? fun r => decide (r.code = k)
  | [] => rfl
  | p :: l => by
    have ih := pieces_of k l
    rw [findP, List.filterMap_cons]
    cases pieceM p with
    | none => exact ih
    | some r =>
      by_cases h : r.code = k
      · simp [h]
      · simp only [h, if_false, List.find?_cons, decide_false]
        exact ih
theorem cls_pieces (c : Nat) : (cutsB 59 (clsText c)).filterMap pieceM = clsRows c := by
  by_cases h : c = 1 ∨ c = 2 ∨ c = 3 ∨ c = 4 ∨ c = 5 ∨ c = 6 ∨ c = 8
  · rcases h with rfl | rfl | rfl | rfl | rfl | rfl | rfl <;> decide +kernel
  · have h1 : clsRows c = [] := by
      cases hc : clsRows c with
      | nil => rfl
      | cons _ _ => exact absurd (cls_of (by rw [hc]; simp)) h
    have h2 : clsText c = [] := by
      unfold clsText
      split
      all_goals first | rfl | (exfalso; apply h; simp)
    rw [h1, h2]
    decide +kernel
theorem findP_cls (c k : Nat) : findP k (cutsB 59 (clsText c)) = findM c k := by rw [pieces_of, cls_pieces]; rfl
theorem codeM_lt (l : List UInt8) : codeM l < 256 := by
  unfold codeM
  rcases List.eq_nil_or_concat l with rfl | ⟨m, x, rfl⟩
  · decide
  · rw [List.concat_eq_append, List.foldl_append]
    exact Nat.mod_lt _ (by decide)
theorem codeM_snoc (l : List UInt8) (c : UInt8) : codeM (l ++ [c]) = (10 * codeM l + c.toNat + 208) % 256 := by simp [codeM]
theorem clsText_len (c : Nat) : (clsText c).length ≤ 200 ∧ (clsWord c).length ≤ 20 := by
  unfold clsText clsWord
  constructor <;> split <;> decide +kernel
theorem cutsB_le (d : UInt8) : ∀ (l : List UInt8), ∀ p ∈ cutsB d l, p.length ≤ l.length
  | [], p, hp => by simp [cutsB] at hp; subst hp; simp
  | c :: r, p, hp => by
    have ih := cutsB_le d r
    rw [cutsB] at hp
    split at hp
    · rcases List.mem_cons.1 hp with rfl | hp
      · simp
      · have := ih p hp; simp; omega
    · cases hd : cutsB d r with
      | nil => rw [hd] at hp; simp at hp; subst hp; simp
      | cons h t =>
        rw [hd] at hp ih
        rcases List.mem_cons.1 hp with rfl | hp
        · have := ih h (List.mem_cons_self ..); simp; omega
        · have := ih p (List.mem_cons_of_mem _ hp); simp; omega
end Go.PH
end

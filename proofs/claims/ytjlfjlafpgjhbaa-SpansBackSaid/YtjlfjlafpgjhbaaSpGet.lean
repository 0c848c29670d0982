/- The walks of spans' Get and of its reference's. -/
import Derived.Test.YtjlfjlafpgjhbaaSpHead
import Derived.Test.YtjlfjlafpgjhbaaOctRead2
import Derived.Test.YtjlfjlafpgjhbaaOctRef
import Derived.Test.YtjlfjlafpgjhbaaSpOfBase
namespace Go.PH
open Go.RowKit Go.Proofs

theorem mnum_ok {l : List UInt8} {x : Nat} (hx : x = 1 ∨ x = 2 ∨ x = 4 ∨ x = 8) (h : x ≤ l.length) : mnum l false (x : Int) = (unbe (l.take x), l.drop x, false) := by
  rw [mnum_yes (wideB_yes (by omega)), mtake_yes h]
theorem mnum_short {l : List UInt8} {x : Nat} (hx : x = 1 ∨ x = 2 ∨ x = 4 ∨ x = 8) (h : l.length < x) : mnum l false (x : Int) = (0, [], true) := by
  rw [mnum_yes (wideB_yes (by omega)), mtake_no (.inr (.inr (by omega)))]; rfl
theorem unbe_take {l : List UInt8} {x : Nat} : unbe (l.take x) < 256 ^ x := by
  have h1 := unbe_lt (l.take x)
  have h2 : (l.take x).length ≤ x := by simp; omega
  exact Nat.lt_of_lt_of_le h1 (Nat.pow_le_pow_right (by omega) h2)
def getSpans (k : Nat) (l : List UInt8) : List Sp := (List.range k).map fun i => (unbe ((l.drop (8 * i)).take 4), unbe ((l.drop (8 * i + 4)).take 4))
theorem getSpans_next (k : Nat) (l : List UInt8) : getSpans (k + 1) l = getSpans k l ++ [(unbe ((l.drop (8 * k)).take 4), unbe ((l.drop (8 * k + 4)).take 4))] := by
  unfold getSpans; rw [List.range_succ, List.map_append]; rfl
theorem getSpans_ok (k : Nat) (l : List UInt8) : spOK 4294967296 (getSpans k l) := by
  intro a ha
  obtain ⟨i, _, rfl⟩ := List.mem_map.1 ha
  exact ⟨unbe_take, unbe_take⟩
theorem getSpans_len (k : Nat) (l : List UInt8) : (getSpans k l).length = k := by simp [getSpans]
def getN (b : List UInt8) : Nat := unbe (b.take 2)
def spGetErr (b : List UInt8) : Nat :=
  if b.length < 2 then 4 else if getN b % 8 ≠ 0 ∨ 1000 < getN b / 8 then 5 else if b.length < 2 + getN b then 4 else if spRight (getSpans (getN b / 8) (b.drop 2)) = true then 0 else 5
def spGet (b : List UInt8) : List Sp := if spGetErr b = 0 then getSpans (getN b / 8) (b.drop 2) else []
def spGetN (b : List UInt8) : Nat := if spGetErr b = 0 then getN b + 2 else 0
theorem spGet_err {b : List UInt8} {e : Nat} (h : spGetErr b = e) (he : e ≠ 0) : spGet b = [] ∧ spGetN b = 0 := by
  unfold spGet spGetN; rw [h]; simp [he]
set_option maxRecDepth 20000 in
set_option maxHeartbeats 2000000 in
theorem spget_any (A : Option Addr) (n c : Nat) (b : List UInt8) (w : World) (hr : RdB w w.heap.size A n c b) (hn : n ≤ 140737488351232) :
    Calls Try.prog 27 #[.slice A n c] w fun e w' => ∃ A2 c2, e = .returned (.tuple #[.slice A2 (spGet b).length c2, .int .i64 (spGetN b), .int .i64 (spGetErr b)]) ∧ OwnS w' w.heap.size A2 (spGet b).length c2 (spGet b) ∧ Below w.heap.size w w' := by
  have hl := RdB.length hr
  by_cases h2 : b.length < 2
  · have hx : spGetErr b = 4 := by rw [spGetErr, if_pos h2]
    have HE := Lib.hid (spGet_err hx (by omega))
    have HX := Lib.hid hx
    clear hx
    have hm : mnum b false 2 = (0, [], true) := mnum_short (x := 2) (by omega) h2
    go_enter Try.func27, Try.ntmps27
    go_wp2_with (first | (with_reducible refine hold_append ?_) | (with_reducible refine hold_make ?_) | (with_reducible refine hold_copy ?_))
    refine (rdopen_any A n c b w hr (by omega)).mono ?_
    rintro e w1 ⟨rb, vb, rfl, hrbb, hvb, hR1, hB1⟩
    have hrn := rdnum_any hR1 2 (by omega) (by omega)
    rw [hm] at hrn
    go_wp2_with (first | (with_reducible refine hold_append ?_) | (with_reducible refine hold_make ?_) | (with_reducible refine hold_copy ?_))
    refine hrn.mono ?_
    rintro e w2 ⟨rfl, hR2, hg2⟩
    have hB2 := hB1.grown hg2 hB1.size (fun g hg => by injection hg with hg; omega)
    go_wp2_with (first | (with_reducible refine hold_append ?_) | (with_reducible refine hold_make ?_) | (with_reducible refine hold_copy ?_))
    refine (rdbad_any hR2).mono ?_
    rintro e w3 ⟨rfl, rfl⟩
    go_wp2_with (first | (with_reducible refine hold_append ?_) | (with_reducible refine hold_make ?_) | (with_reducible refine hold_copy ?_))
    go_ret3
    rw [HE.out.1, HE.out.2, HX.out]
    exact ⟨none, 0, rfl, Own.none_ _ _ _ _, hB2⟩
  · have hm : mnum b false 2 = (unbe (b.take 2), b.drop 2, false) := mnum_ok (x := 2) (by omega) (by omega)
    have hN : getN b < 65536 := unbe_take
    have hgn : unbe (b.take 2) = getN b := rfl
    rw [hgn] at hm
    have hdl : (b.drop 2).length = b.length - 2 := by simp
    have HGE : Hid (spGetErr b = if getN b % 8 ≠ 0 ∨ 1000 < getN b / 8 then 5 else if b.length < 2 + getN b then 4 else if spRight (getSpans (getN b / 8) (b.drop 2)) = true then 0 else 5) := Lib.hid (by rw [spGetErr, if_neg h2])
    have HGS : Hid (spGetErr b = 0 → spGet b = getSpans (getN b / 8) (b.drop 2) ∧ spGetN b = getN b + 2) := Lib.hid (fun h => by unfold spGet spGetN; rw [h]; simp)
    go_enter Try.func27, Try.ntmps27
    go_wp2_with (first | (with_reducible refine hold_append ?_) | (with_reducible refine hold_make ?_) | (with_reducible refine hold_copy ?_))
    refine (rdopen_any A n c b w hr (by omega)).mono ?_
    rintro e w1 ⟨rb, vb, rfl, hrbb, hvb, hR1, hB1⟩
    have hrn := rdnum_any hR1 2 (by omega) (by omega)
    rw [hm] at hrn
    generalize getN b = N at *
    generalize hrest : b.drop 2 = rest at *
    have hrb : b.length = rest.length + 2 := by omega
    have HDL := Lib.hid hdl
    clear hdl
    clear hm hgn
    have hwN : IntKind.i64.wrap ((N : Nat) : Int) = (N : Int) := IntWalk.i64_in _ ⟨by omega, by omega⟩
    go_wp2_with (first | (with_reducible refine hold_append ?_) | (with_reducible refine hold_make ?_) | (with_reducible refine hold_copy ?_))
    refine hrn.mono ?_
    rintro e w2 ⟨rfl, hR2, hg2⟩
    have hB2 := hB1.grown hg2 hB1.size (fun g hg => by injection hg with hg; omega)
    have hz2 : w1.heap.size ≤ w2.heap.size := hg2.size
    clear hg2 hrn hR1
    have HREST := Lib.hid hrest
    clear hrest
    have HRB := Lib.hid hrb
    clear hrb
    obtain ⟨Q, hQ⟩ : ∃ Q, Q = N / 8 := ⟨_, rfl⟩
    have hq8 : (N : Int) / 8 = (Q : Int) := by omega
    rw [← hQ] at HGE HGS
    go_wp2_with (first | (with_reducible refine hold_append ?_) | (with_reducible refine hold_make ?_) | (with_reducible refine hold_copy ?_))
    refine (rdbad_any hR2).mono ?_
    rintro e w3 ⟨rfl, rfl⟩
    by_cases h8 : N % 8 = 0
    · have hd8 : ((N : Int) % 8 != 0) = false := by simp; omega
      by_cases hk : 1000 < Q
      · have hdk : (1000 : Int) < (Q : Int) := by omega
        have hx : spGetErr b = 5 := by rw [HGE.out, if_pos (.inr hk)]
        have HE := Lib.hid (spGet_err hx (by omega))
        have HX := Lib.hid hx
        clear hx hQ h8
        go_wp2_with (first | (with_reducible refine hold_append ?_) | (with_reducible refine hold_make ?_) | (with_reducible refine hold_copy ?_))
        go_ret3
        rw [HE.out.1, HE.out.2, HX.out]
        exact ⟨none, 0, rfl, Own.none_ _ _ _ _, hB2⟩
      · have hdk : decide ((1000 : Int) < (Q : Int)) = false := by simp; omega
        have hNQ := Lib.hid (show N = 8 * Q by omega)
        clear hQ
        go_wp2_with (first | (with_reducible refine hold_append ?_) | (with_reducible refine hold_make ?_) | (with_reducible refine hold_copy ?_))
        refine (rdleft_any hR2).mono ?_
        rintro e w4 ⟨rfl, rfl⟩
        by_cases hlr : rest.length < N
        · have hdl' : (rest.length : Int) < (N : Int) := by omega
          have hx : spGetErr b = 4 := by have := HRB.out; rw [HGE.out, if_neg (by omega), if_pos (by omega)]
          have HE := Lib.hid (spGet_err hx (by omega))
          have HX := Lib.hid hx
          clear hx h8
          go_wp2_with (first | (with_reducible refine hold_append ?_) | (with_reducible refine hold_make ?_) | (with_reducible refine hold_copy ?_))
          go_ret3
          rw [HE.out.1, HE.out.2, HX.out]
          exact ⟨none, 0, rfl, Own.none_ _ _ _ _, hB2⟩
        · have hdl' : ¬ (rest.length : Int) < (N : Int) := by omega
          have HGE2 : Hid (spGetErr b = if spRight (getSpans Q rest) = true then 0 else 5) := Lib.hid (by have := HRB.out; rw [HGE.out, if_neg (by omega), if_neg (by omega)])
          clear h8
          go_wp2_with (first | (with_reducible refine hold_append ?_) | (with_reducible refine hold_make ?_) | (with_reducible refine hold_copy ?_))
          go_loopw [31, 7] (fun s v wr => ∃ (k c2 : Nat) (A2 : Option Addr) (out : List Sp), k ≤ Q ∧ s = .int .i64 k ∧ v = .slice A2 out.length c2 ∧ out = getSpans k rest ∧ OwnS wr w1.heap.size A2 out.length c2 out ∧ Rdr (fun g => w.heap.size ≤ g ∧ g < w1.heap.size) wr (.pointer (some ⟨rb, 0, none⟩)) (some vb) (rest.drop (8 * k)) false ∧ w1.heap.size ≤ wr.heap.size ∧ Below w.heap.size w wr) (fun s _ _ => Q - (intOf s).toNat)
          case atStart => exact ⟨0, 0, none, [], by omega, rfl, rfl, by simp [getSpans], Own.none_ _ _ _ _, by simpa using hR2, hz2, hB2⟩
          case round =>
            clear hR2 hz2 hB2
            obtain ⟨k, c2, A2, out, hk', rfl, rfl, hout, ho, hR, hz, hBr⟩ := hrel
            have hkl : out.length = k := by rw [hout, getSpans_len]
            by_cases hlt : k < Q
            · have hdq : (k : Int) < (Q : Int) := by omega
              have hNQ' := hNQ.out
              have hn1 := rdnum_any hR 4 (by omega) (by omega)
              have hm1 : mnum (rest.drop (8 * k)) false 4 = (unbe ((rest.drop (8 * k)).take 4), (rest.drop (8 * k)).drop 4, false) := mnum_ok (x := 4) (by omega) (by simp; omega)
              rw [hm1] at hn1
              have hm2 : mnum ((rest.drop (8 * k)).drop 4) false 4 = (unbe ((rest.drop (8 * k + 4)).take 4), rest.drop (8 * (k + 1)), false) := by
                have := mnum_ok (l := rest.drop (8 * k + 4)) (x := 4) (by omega) (by simp; omega)
                rw [List.drop_drop]
                exact this.trans (by rw [List.drop_drop, show 8 * k + 4 + 4 = 8 * (k + 1) by omega])
              have HNX : Hid (getSpans (k + 1) rest = out ++ [(unbe ((rest.drop (8 * k)).take 4), unbe ((rest.drop (8 * k + 4)).take 4))]) := Lib.hid (by rw [getSpans_next, hout])
              have hv1 : unbe ((rest.drop (8 * k)).take 4) < 4294967296 := unbe_take
              have hv2 : unbe ((rest.drop (8 * k + 4)).take 4) < 4294967296 := unbe_take
              have hAF : ∀ g, blk A2 = some g → ¬ (w.heap.size ≤ g ∧ g < w1.heap.size) := fun g hg h => by have := (ho.blk_lt hg).1; omega
              have hFv : w.heap.size ≤ vb ∧ vb < w1.heap.size := hR.inF rfl
              have hvA : ∀ g, blk A2 = some g → some vb ≠ some g := fun g hg e => by injection e with e; subst e; exact hAF _ hg hFv
              clear hout hNQ' hm1
              generalize unbe ((rest.drop (8 * k)).take 4) = v1 at *
              generalize unbe ((rest.drop (8 * k + 4)).take 4) = v2 at *
              have hw1 : IntKind.u32.wrap ((v1 : Nat) : Int) = (v1 : Int) := IntWalk.u32_in _ ⟨by omega, by omega⟩
              have hw2 : IntKind.u32.wrap ((v2 : Nat) : Int) = (v2 : Int) := IntWalk.u32_in _ ⟨by omega, by omega⟩
              have HKL := Lib.hid hkl
              have hol : out.length ≤ 1000 := by omega
              clear hkl
              go_wp2_with (first | (with_reducible refine hold_append ?_) | (with_reducible refine hold_make ?_) | (with_reducible refine hold_copy ?_))
              refine hn1.mono ?_
              rintro e w5 ⟨rfl, hR5, hg5⟩
              have hB5 := hBr.grown hg5 hBr.size (fun g hg => by injection hg with hg; omega)
              have ho5 : OwnS w5 w1.heap.size A2 out.length c2 out := own_keep ho hg5 hvA
              have hz5 : w1.heap.size ≤ w5.heap.size := Nat.le_trans hz hg5.size
              have hn2 := rdnum_any hR5 4 (by omega) (by omega)
              rw [hm2] at hn2
              clear hn1 hg5 hm2
              go_wp2_with (first | (with_reducible refine hold_append ?_) | (with_reducible refine hold_make ?_) | (with_reducible refine hold_copy ?_))
              refine hn2.mono ?_
              rintro e w6 ⟨rfl, hR6, hg6⟩
              have hB6 := hB5.grown hg6 hB5.size (fun g hg => by injection hg with hg; omega)
              have ho6 : OwnS w6 w1.heap.size A2 out.length c2 out := own_keep ho5 hg6 hvA
              have hz6 : w1.heap.size ≤ w6.heap.size := Nat.le_trans hz5 hg6.size
              clear hn2 hg6 hR5 ho5 ho hR
              go_wp2_with (first | (with_reducible refine hold_append ?_) | (with_reducible refine hold_make ?_) | (with_reducible refine hold_copy ?_))
              refine unhold (wp_push slS Try.underlying22 rfl rfl rfl rfl rfl v1 v2 rfl rfl ho6 (by omega) hz6 ?_)
              intro A7 c7 w7 ho7 hg7 _ hB7
              have hR7 := hR6.kept hg7 hAF
              have hz7 : w1.heap.size ≤ w7.heap.size := Nat.le_trans hz6 hg7.size
              have hB67 := hB6.trans (hB7.mono (by have := hB1.size; omega))
              go_wp2_with (first | (with_reducible refine hold_append ?_) | (with_reducible refine hold_make ?_) | (with_reducible refine hold_copy ?_))
              have hkl := HKL.out
              exact ⟨⟨k + 1, c7, A7, out ++ [(v1, v2)], by omega, by go_num, by simp, HNX.out.symm, by simpa using ho7, hR7, hz7, hB67⟩, by simp [intOf]; omega⟩
            · obtain rfl : k = Q := by omega
              have hdq : decide ((k : Int) < (k : Int)) = false := by simp
              have hok := getSpans_ok k rest
              rw [← hout] at hok
              have hrr := right_any A2 out.length c2 out _ wr ho.rd hok (Nat.le_refl _) (by omega)
              have HO := Lib.hid hout
              have hbase := hB1.size
              cases hri : spRight out
              · rw [hri] at hrr
                have hx : spGetErr b = 5 := by rw [HGE2.out, ← HO.out, hri]; rfl
                have HE := Lib.hid (spGet_err hx (by omega))
                have HX := Lib.hid hx
                clear hx hout hri hkl
                go_wp2_with (first | (with_reducible refine hold_append ?_) | (with_reducible refine hold_make ?_) | (with_reducible refine hold_copy ?_))
                refine hrr.mono ?_
                rintro e w8 ⟨rfl, hB8⟩
                have hB9 := hBr.trans (hB8.mono hBr.size)
                go_wp2_with (first | (with_reducible refine hold_append ?_) | (with_reducible refine hold_make ?_) | (with_reducible refine hold_copy ?_))
                go_ret3
                rw [HE.out.1, HE.out.2, HX.out]
                exact ⟨none, 0, rfl, Own.none_ _ _ _ _, hB9⟩
              · rw [hri] at hrr
                have hx : spGetErr b = 0 := by rw [HGE2.out, ← HO.out, hri]; rfl
                have hgs := HGS.out hx
                rw [← HO.out] at hgs
                have HG := Lib.hid hgs
                have HX := Lib.hid hx
                have hw2 : IntKind.i64.wrap ((N : Int) + 2) = ((N + 2 : Nat) : Int) := by rw [IntWalk.i64_in _ ⟨by omega, by omega⟩]; omega
                clear hx hout hri hgs hkl
                go_wp2_with (first | (with_reducible refine hold_append ?_) | (with_reducible refine hold_make ?_) | (with_reducible refine hold_copy ?_))
                refine hrr.mono ?_
                rintro e w8 ⟨rfl, hB8⟩
                have hB9 := hBr.trans (hB8.mono hBr.size)
                have ho8 := below_ownS ho hB8
                have ho9 := ho8.base_le hbase
                go_wp2_with (first | (with_reducible refine hold_append ?_) | (with_reducible refine hold_make ?_) | (with_reducible refine hold_copy ?_))
                go_ret3
                rw [HG.out.1, HG.out.2, HX.out]
                exact ⟨A2, c2, by first | rfl | simp, ho9, hB9⟩
    · have hd8 : ((N : Int) % 8 != 0) = true := by simp; omega
      have hx : spGetErr b = 5 := by rw [HGE.out, if_pos (.inl h8)]
      have HE := Lib.hid (spGet_err hx (by omega))
      have HX := Lib.hid hx
      clear hx h8 hQ
      go_wp2_with (first | (with_reducible refine hold_append ?_) | (with_reducible refine hold_make ?_) | (with_reducible refine hold_copy ?_))
      go_ret3
      rw [HE.out.1, HE.out.2, HX.out]
      exact ⟨none, 0, rfl, Own.none_ _ _ _ _, hB2⟩
set_option maxRecDepth 20000 in
set_option maxHeartbeats 2000000 in
theorem rspget_any (A : Option Addr) (n c : Nat) (b : List UInt8) (w : World) (hr : RdB w w.heap.size A n c b) (hn : n ≤ 140737488351232) :
    Calls Try.prog 28 #[.slice A n c] w fun e w' => ∃ A2 c2, e = .returned (.tuple #[.slice A2 (spGet b).length c2, .int .i64 (spGetN b), .int .i64 (spGetErr b)]) ∧ OwnS w' w.heap.size A2 (spGet b).length c2 (spGet b) ∧ Below w.heap.size w w' := by
  have hl := RdB.length hr
  by_cases h2 : b.length < 2
  · have hx : spGetErr b = 4 := by rw [spGetErr, if_pos h2]
    have HE := Lib.hid (spGet_err hx (by omega))
    have HX := Lib.hid hx
    clear hx
    have hm : mnum b false 2 = (0, [], true) := mnum_short (x := 2) (by omega) h2
    go_enter Try.func28, Try.ntmps28
    go_wp2_with (first | (with_reducible refine hold_append ?_) | (with_reducible refine hold_make ?_) | (with_reducible refine hold_copy ?_))
    refine (qopen_any A n c b w hr (by omega)).mono ?_
    rintro e w1 ⟨vb, rfl, hvb, hR1, hB1⟩
    have hrn := qnum_any hR1 2 (by omega) (by omega)
    rw [hm] at hrn
    go_wp2_with (first | (with_reducible refine hold_append ?_) | (with_reducible refine hold_make ?_) | (with_reducible refine hold_copy ?_))
    refine hrn.mono ?_
    rintro e w2 ⟨rfl, hR2, hg2⟩
    have hB2 := hB1.grown hg2 hB1.size (fun g hg => by injection hg with hg; omega)
    obtain ⟨A9, n9, c9, q0, q1, _⟩ := hR2
    go_wp2_with (first | (with_reducible refine hold_append ?_) | (with_reducible refine hold_make ?_) | (with_reducible refine hold_copy ?_))
    go_ret3
    rw [HE.out.1, HE.out.2, HX.out]
    exact ⟨none, 0, rfl, Own.none_ _ _ _ _, hB2⟩
  · have hm : mnum b false 2 = (unbe (b.take 2), b.drop 2, false) := mnum_ok (x := 2) (by omega) (by omega)
    have hN : getN b < 65536 := unbe_take
    have hgn : unbe (b.take 2) = getN b := rfl
    rw [hgn] at hm
    have hdl : (b.drop 2).length = b.length - 2 := by simp
    have HGE : Hid (spGetErr b = if getN b % 8 ≠ 0 ∨ 1000 < getN b / 8 then 5 else if b.length < 2 + getN b then 4 else if spRight (getSpans (getN b / 8) (b.drop 2)) = true then 0 else 5) := Lib.hid (by rw [spGetErr, if_neg h2])
    have HGS : Hid (spGetErr b = 0 → spGet b = getSpans (getN b / 8) (b.drop 2) ∧ spGetN b = getN b + 2) := Lib.hid (fun h => by unfold spGet spGetN; rw [h]; simp)
    go_enter Try.func28, Try.ntmps28
    go_wp2_with (first | (with_reducible refine hold_append ?_) | (with_reducible refine hold_make ?_) | (with_reducible refine hold_copy ?_))
    refine (qopen_any A n c b w hr (by omega)).mono ?_
    rintro e w1 ⟨vb, rfl, hvb, hR1, hB1⟩
    have hrn := qnum_any hR1 2 (by omega) (by omega)
    rw [hm] at hrn
    generalize getN b = N at *
    generalize hrest : b.drop 2 = rest at *
    have hrb : b.length = rest.length + 2 := by omega
    have HDL := Lib.hid hdl
    clear hdl
    clear hm hgn
    have hwN : IntKind.i64.wrap ((N : Nat) : Int) = (N : Int) := IntWalk.i64_in _ ⟨by omega, by omega⟩
    go_wp2_with (first | (with_reducible refine hold_append ?_) | (with_reducible refine hold_make ?_) | (with_reducible refine hold_copy ?_))
    refine hrn.mono ?_
    rintro e w2 ⟨rfl, hR2, hg2⟩
    have hB2 := hB1.grown hg2 hB1.size (fun g hg => by injection hg with hg; omega)
    have hz2 : w1.heap.size ≤ w2.heap.size := hg2.size
    clear hg2 hrn hR1
    have HREST := Lib.hid hrest
    clear hrest
    have HRB := Lib.hid hrb
    clear hrb
    obtain ⟨Q, hQ⟩ : ∃ Q, Q = N / 8 := ⟨_, rfl⟩
    rw [← hQ] at HGE HGS
    have hR2' := hR2
    obtain ⟨A9, n9, c9, q0, q1, _, _, qr, _⟩ := hR2'
    have hl9 := RdB.length qr
    subst hl9
    by_cases h8 : N % 8 = 0
    · have hd8 : ((N : Int) % 8 != 0) = false := by simp; omega
      by_cases hk : 1000 < Q
      · have hdk : (8000 : Int) < (N : Int) := by omega
        have hx : spGetErr b = 5 := by rw [HGE.out, if_pos (.inr hk)]
        have HE := Lib.hid (spGet_err hx (by omega))
        have HX := Lib.hid hx
        clear hx hQ h8
        go_wp2_with (first | (with_reducible refine hold_append ?_) | (with_reducible refine hold_make ?_) | (with_reducible refine hold_copy ?_))
        go_ret3
        rw [HE.out.1, HE.out.2, HX.out]
        exact ⟨none, 0, rfl, Own.none_ _ _ _ _, hB2⟩
      · have hdk : decide ((8000 : Int) < (N : Int)) = false := by simp; omega
        have hNQ := Lib.hid (show N = 8 * Q by omega)
        clear hQ
        by_cases hlr : rest.length < N
        · have hdl' : (rest.length : Int) < (N : Int) := by omega
          have hx : spGetErr b = 4 := by have := HRB.out; rw [HGE.out, if_neg (by omega), if_pos (by omega)]
          have HE := Lib.hid (spGet_err hx (by omega))
          have HX := Lib.hid hx
          clear hx h8
          go_wp2_with (first | (with_reducible refine hold_append ?_) | (with_reducible refine hold_make ?_) | (with_reducible refine hold_copy ?_))
          go_ret3
          rw [HE.out.1, HE.out.2, HX.out]
          exact ⟨none, 0, rfl, Own.none_ _ _ _ _, hB2⟩
        · have hdl' : ¬ (rest.length : Int) < (N : Int) := by omega
          have HGE2 : Hid (spGetErr b = if spRight (getSpans Q rest) = true then 0 else 5) := Lib.hid (by have := HRB.out; rw [HGE.out, if_neg (by omega), if_neg (by omega)])
          clear h8
          go_wp2_with (first | (with_reducible refine hold_append ?_) | (with_reducible refine hold_make ?_) | (with_reducible refine hold_copy ?_))
          go_loopw [8, 7] (fun s v wr => ∃ (k k8 c2 : Nat) (A2 : Option Addr) (out : List Sp), k ≤ Q ∧ s = .int .i64 k8 ∧ k8 = 8 * k ∧ v = .slice A2 out.length c2 ∧ out = getSpans k rest ∧ OwnS wr w1.heap.size A2 out.length c2 out ∧ Qrd (fun g => w.heap.size ≤ g ∧ g < w1.heap.size) wr vb (rest.drop (8 * k)) false ∧ w1.heap.size ≤ wr.heap.size ∧ Below w.heap.size w wr) (fun s _ _ => 8 * Q - (intOf s).toNat)
          case atStart => exact ⟨0, 0, 0, none, [], by omega, rfl, rfl, rfl, by simp [getSpans], Own.none_ _ _ _ _, by simpa using hR2, hz2, hB2⟩
          case round =>
            clear hR2 hz2 hB2 q0 q1 qr
            obtain ⟨k, k8, c2, A2, out, hk', rfl, hk8, rfl, hout, ho, hR, hz, hBr⟩ := hrel
            have hNQ' := hNQ.out
            have HK8 := Lib.hid hk8
            have hdq0 : (k8 : Int) < (N : Int) ↔ k < Q := by omega
            clear hNQ'
            have hkl : out.length = k := by rw [hout, getSpans_len]
            by_cases hlt : k < Q
            · have hdq : (k8 : Int) < (N : Int) := hdq0.2 hlt
              have hk8b : k8 ≤ 8000 := by omega
              clear hk8 hdq0
              have hNQ' := hNQ.out
              have hn1 := qnum_any hR 4 (by omega) (by omega)
              have hm1 : mnum (rest.drop (8 * k)) false 4 = (unbe ((rest.drop (8 * k)).take 4), (rest.drop (8 * k)).drop 4, false) := mnum_ok (x := 4) (by omega) (by simp; omega)
              rw [hm1] at hn1
              have hm2 : mnum ((rest.drop (8 * k)).drop 4) false 4 = (unbe ((rest.drop (8 * k + 4)).take 4), rest.drop (8 * (k + 1)), false) := by
                have := mnum_ok (l := rest.drop (8 * k + 4)) (x := 4) (by omega) (by simp; omega)
                rw [List.drop_drop]
                exact this.trans (by rw [List.drop_drop, show 8 * k + 4 + 4 = 8 * (k + 1) by omega])
              have HNX : Hid (getSpans (k + 1) rest = out ++ [(unbe ((rest.drop (8 * k)).take 4), unbe ((rest.drop (8 * k + 4)).take 4))]) := Lib.hid (by rw [getSpans_next, hout])
              have hv1 : unbe ((rest.drop (8 * k)).take 4) < 4294967296 := unbe_take
              have hv2 : unbe ((rest.drop (8 * k + 4)).take 4) < 4294967296 := unbe_take
              have hAF : ∀ g, blk A2 = some g → ¬ (w.heap.size ≤ g ∧ g < w1.heap.size) := fun g hg h => by have := (ho.blk_lt hg).1; omega
              have hFv : w.heap.size ≤ vb ∧ vb < w1.heap.size := hR.inF
              have hvA : ∀ g, blk A2 = some g → some vb ≠ some g := fun g hg e => by injection e with e; subst e; exact hAF _ hg hFv
              clear hout hNQ' hm1
              generalize unbe ((rest.drop (8 * k)).take 4) = v1 at *
              generalize unbe ((rest.drop (8 * k + 4)).take 4) = v2 at *
              have hw1 : IntKind.u32.wrap ((v1 : Nat) : Int) = (v1 : Int) := IntWalk.u32_in _ ⟨by omega, by omega⟩
              have hw2 : IntKind.u32.wrap ((v2 : Nat) : Int) = (v2 : Int) := IntWalk.u32_in _ ⟨by omega, by omega⟩
              have HKL := Lib.hid hkl
              have hol : out.length ≤ 1000 := by omega
              clear hkl
              go_wp2_with (first | (with_reducible refine hold_append ?_) | (with_reducible refine hold_make ?_) | (with_reducible refine hold_copy ?_))
              refine hn1.mono ?_
              rintro e w5 ⟨rfl, hR5, hg5⟩
              have hB5 := hBr.grown hg5 hBr.size (fun g hg => by injection hg with hg; omega)
              have ho5 : OwnS w5 w1.heap.size A2 out.length c2 out := own_keep ho hg5 hvA
              have hz5 : w1.heap.size ≤ w5.heap.size := Nat.le_trans hz hg5.size
              have hn2 := qnum_any hR5 4 (by omega) (by omega)
              rw [hm2] at hn2
              clear hn1 hg5 hm2
              go_wp2_with (first | (with_reducible refine hold_append ?_) | (with_reducible refine hold_make ?_) | (with_reducible refine hold_copy ?_))
              refine hn2.mono ?_
              rintro e w6 ⟨rfl, hR6, hg6⟩
              have hB6 := hB5.grown hg6 hB5.size (fun g hg => by injection hg with hg; omega)
              have ho6 : OwnS w6 w1.heap.size A2 out.length c2 out := own_keep ho5 hg6 hvA
              have hz6 : w1.heap.size ≤ w6.heap.size := Nat.le_trans hz5 hg6.size
              clear hn2 hg6 hR5 ho5 ho hR
              go_wp2_with (first | (with_reducible refine hold_append ?_) | (with_reducible refine hold_make ?_) | (with_reducible refine hold_copy ?_))
              refine unhold (wp_push slS Try.underlying22 rfl rfl rfl rfl rfl v1 v2 rfl rfl ho6 (by omega) hz6 ?_)
              intro A7 c7 w7 ho7 hg7 _ hB7
              have hR7 := hR6.kept hg7 hAF
              have hz7 : w1.heap.size ≤ w7.heap.size := Nat.le_trans hz6 hg7.size
              have hB67 := hB6.trans (hB7.mono (by have := hB1.size; omega))
              go_wp2_with (first | (with_reducible refine hold_append ?_) | (with_reducible refine hold_make ?_) | (with_reducible refine hold_copy ?_))
              have hkl := HKL.out
              have hk8 := HK8.out
              have hNQ' := hNQ.out
              exact ⟨⟨k + 1, k8 + 8, c7, A7, out ++ [(v1, v2)], by omega, by go_num, by omega, by simp, HNX.out.symm, by simpa using ho7, hR7, hz7, hB67⟩, by simp [intOf]; omega⟩
            · obtain rfl : k = Q := by omega
              have hdq : ¬ (k8 : Int) < (N : Int) := fun h => absurd (hdq0.1 h) (by omega)
              clear hk8 hdq0
              have hok := getSpans_ok k rest
              rw [← hout] at hok
              have hrr := rright_any A2 out.length c2 out _ wr ho.rd hok (Nat.le_refl _) (by omega)
              have HO := Lib.hid hout
              have hbase := hB1.size
              cases hri : spRight out
              · rw [hri] at hrr
                have hx : spGetErr b = 5 := by rw [HGE2.out, ← HO.out, hri]; rfl
                have HE := Lib.hid (spGet_err hx (by omega))
                have HX := Lib.hid hx
                clear hx hout hri hkl
                go_wp2_with (first | (with_reducible refine hold_append ?_) | (with_reducible refine hold_make ?_) | (with_reducible refine hold_copy ?_))
                refine hrr.mono ?_
                rintro e w8 ⟨rfl, hB8⟩
                have hB9 := hBr.trans (hB8.mono hBr.size)
                go_wp2_with (first | (with_reducible refine hold_append ?_) | (with_reducible refine hold_make ?_) | (with_reducible refine hold_copy ?_))
                go_ret3
                rw [HE.out.1, HE.out.2, HX.out]
                exact ⟨none, 0, rfl, Own.none_ _ _ _ _, hB9⟩
              · rw [hri] at hrr
                have hx : spGetErr b = 0 := by rw [HGE2.out, ← HO.out, hri]; rfl
                have hgs := HGS.out hx
                rw [← HO.out] at hgs
                have HG := Lib.hid hgs
                have HX := Lib.hid hx
                have hw2 : IntKind.i64.wrap ((N : Int) + 2) = ((N + 2 : Nat) : Int) := by rw [IntWalk.i64_in _ ⟨by omega, by omega⟩]; omega
                clear hx hout hri hgs hkl
                go_wp2_with (first | (with_reducible refine hold_append ?_) | (with_reducible refine hold_make ?_) | (with_reducible refine hold_copy ?_))
                refine hrr.mono ?_
                rintro e w8 ⟨rfl, hB8⟩
                have hB9 := hBr.trans (hB8.mono hBr.size)
                have ho8 := below_ownS ho hB8
                have ho9 := ho8.base_le hbase
                go_wp2_with (first | (with_reducible refine hold_append ?_) | (with_reducible refine hold_make ?_) | (with_reducible refine hold_copy ?_))
                go_ret3
                rw [HG.out.1, HG.out.2, HX.out]
                exact ⟨A2, c2, by first | rfl | simp, ho9, hB9⟩
    · have hd8 : ((N : Int) % 8 != 0) = true := by simp; omega
      have hx : spGetErr b = 5 := by rw [HGE.out, if_pos (.inl h8)]
      have HE := Lib.hid (spGet_err hx (by omega))
      have HX := Lib.hid hx
      clear hx h8 hQ
      go_wp2_with (first | (with_reducible refine hold_append ?_) | (with_reducible refine hold_make ?_) | (with_reducible refine hold_copy ?_))
      go_ret3
      rw [HE.out.1, HE.out.2, HX.out]
      exact ⟨none, 0, rfl, Own.none_ _ _ _ _, hB2⟩
end Go.PH

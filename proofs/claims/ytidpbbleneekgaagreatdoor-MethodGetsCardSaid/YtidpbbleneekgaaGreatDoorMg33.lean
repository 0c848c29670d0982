/- Texts laid together: MdRd4, MdRd5, MdRd6, MdRd7, MdMap0. -/
import Derived.Test.YtidpbbleneekgaaGreatDoorMg05
import Derived.Test.YtidpbbleneekgaaGreatDoorMg14
import Derived.Test.YtidpbbleneekgaaGreatDoorMg16
import Derived.Test.YtidpbbleneekgaaGreatDoorMg26
import Derived.Test.YtidpbbleneekgaaGreatDoorMg32
set_option linter.all false
set_option linter.unusedSimpArgs false
set_option linter.unusedVariables false
section
/- The method reader's reader of sets: the walk of the program. -/
namespace Go.PH
open Go.RowKit Go.Proofs

theorem spGetN_len (b : List UInt8) : spGetN b ≤ b.length := by
 unfold spGetN
 split
 ·rename_i h
  unfold spGetErr at h
  split at h
  ·omega
  split at h
  ·omega
  split at h
  ·omega
  ·omega
 ·exact Nat.zero_le _
set_option maxRecDepth 20000 in
set_option maxHeartbeats 1000000 in
theorem mrd_set {w : World} {B rb ab : Nat} {l : List UInt8} {bad : Bool} (is : Bool) (h : MRd w B rb l bad) (hB : B ≤ rb) (ha : Box w ab 52 #[.bool is, .int .u64 0, .string ⟨#[]⟩, .int .u32 0, .string ⟨#[]⟩, .string ⟨#[]⟩, .slice none 0 0, .int .u8 0, .int .u64 0, .string ⟨#[]⟩, .slice none 0 0, .slice none 0 0]) (hab : B ≤ ab) (hne : ab ≠ rb) :
  Calls Tryz.prog 47 #[.pointer (some ⟨rb, 0, none⟩), .pointer (some ⟨ab, 0, none⟩)] w fun e w' => ∃ A2 c2, OctR w B rb ab (if (bad || decide (spGetErr l ≠ 0)) = true then l else l.drop (spGetN l)) (bad || decide (spGetErr l ≠ 0)) #[.bool is, .int .u64 0, .string ⟨#[]⟩, .int .u32 0, .string ⟨#[]⟩, .string ⟨#[]⟩, .slice A2 (spGet l).length c2, .int .u8 0, .int .u64 0, .string ⟨#[]⟩, .slice none 0 0, .slice none 0 0] e w' ∧ OwnS w' w.heap.size A2 (spGet l).length c2 (spGet l) := by
 have hnl := spGetN_len l
 obtain ⟨lr, hlr⟩ : ∃ y, y = (if (bad || decide (spGetErr l ≠ 0)) = true then l else l.drop (spGetN l)) := ⟨_, rfl⟩
 obtain ⟨br, hbr⟩ : ∃ y, y = (bad || decide (spGetErr l ≠ 0)) := ⟨_, rfl⟩
 rw [← hlr, ← hbr]
 have HLR := Lib.hid hlr
 have HBR := Lib.hid hbr
 clear hlr hbr
 obtain ⟨A, m, c, hbx, hr, hm⟩ := h
 have hln : l.length = m := RdB.length hr
 have hbw := hbx.lt
 have haw := ha.lt
 have hBw : B ≤ w.heap.size := by omega
 have hgt := spget_any A m c l w (rd_wide hr hBw) hm
 have c0 := hbx.c0
 generalize spGetErr l = er at *
 generalize spGetN l = n at *
 go_enter Tryz.func47, Tryz.ntmps47
 go_wp2_with (with_reducible refine h_A ?_)
 refine hgt.mono ?_
 rintro e w4 ⟨A2, c2, rfl, ho4, hB2⟩
 have hK4 := (KP.refl B rb ab w).below hBw hB2
 have hb4 := hbx.below hB2
 have ha4 := ha.below hB2
 have hr4 := hr.below (hB2.mono hBw)
 have hs4 := hB2.size
 clear hgt c0 hbx ha hr hB2
 go_wp2_with (with_reducible refine h_B ?_)
 refine unhold (wp_box (v := .slice A2 (spGet l).length c2) (vs := [.slice A2 (spGet l).length c2]) rfl rfl rfl rfl ha4 rfl (by kernel_rfl) (by simp) (by simp; rfl) #[.bool is, .int .u64 0, .string ⟨#[]⟩, .int .u32 0, .string ⟨#[]⟩, .string ⟨#[]⟩, .slice A2 (spGet l).length c2, .int .u8 0, .int .u64 0, .string ⟨#[]⟩, .slice none 0 0, .slice none 0 0] (by simp) ?_)
 intro w5 ha5 hg5 _
 have hb5 := hb4.grown hg5 (sne (by omega))
 have hr5 := hr4.grown hg5 (by have := ha4.lt; omega) (fun g hg => by injection hg with hg; omega)
 have hK5 := hK4.grown hBw hg5 (fun g hg => by injection hg with hg; exact ⟨by omega, .inr (.inl hg.symm)⟩)
 have ho5 : OwnS w5 w.heap.size A2 (spGet l).length c2 (spGet l) := own_stays ho4 hg5 (fun g hg e => by injection e with e; have := (ho4.blk_lt hg).1; omega)
 clear hb4 ha4 hr4 hK4 ho4 hg5
 have hM5 : MRd w5 B rb l bad := ⟨A, m, c, hb5, hr5, hm⟩
 cases br
 ·have hb0 : bad = false ∧ er = 0 := by
   have := HBR.out.symm
   simpa using this
  obtain ⟨hb0, he0⟩ := hb0
  subst hb0 he0
  have htk := mtk_ok hM5 hB n hnl
  go_wp2_with (with_reducible refine h_A ?_)
  refine htk.mono ?_
  rintro e w6 ⟨rfl, hM6, hg6⟩
  have ha6 := ha5.grown hg6 (sne (by omega))
  have hK6 := hK5.grown hBw hg6 (fun g hg => by injection hg with hg; exact ⟨by omega, .inl hg.symm⟩)
  have ho6 := own_stays ho5 hg6 (fun g hg e => by injection e with e; have := (ho5.blk_lt hg).1; omega)
  go_wp2_with (with_reducible refine h_A ?_)
  go_end0
  have e2 := HLR.out
  simp at e2
  rw [e2]
  exact ⟨A2, c2, ⟨rfl, ha6, hM6, hK6⟩, ho6⟩
 ·have hb0 : bad = true ∨ er ≠ 0 := by
   have := HBR.out.symm
   simpa using this
  have htk := mtk_bad hM5 hB (n : Int) (er : Int) (hb0.imp id (fun h => by omega))
  go_wp2_with (with_reducible refine h_A ?_)
  refine htk.mono ?_
  rintro e w6 ⟨rfl, hM6, hg6⟩
  have ha6 := ha5.grown hg6 (sne (by omega))
  have hK6 := hK5.grown hBw hg6 (fun g hg => by injection hg with hg; exact ⟨by omega, .inl hg.symm⟩)
  have ho6 := own_stays ho5 hg6 (fun g hg e => by injection e with e; have := (ho5.blk_lt hg).1; omega)
  go_wp2_with (with_reducible refine h_A ?_)
  go_end0
  have e2 : lr = l := by rw [HLR.out, ← HBR.out, if_pos rfl]
  rw [e2]
  exact ⟨A2, c2, ⟨rfl, ha6, hM6, hK6⟩, ho6⟩
end Go.PH
end
section
/- What each of the method reader's readers answers, in one form. -/
namespace Go.PH
open Go.RowKit Go.Proofs

/-- an argument was read -/
def ArgRd (w : World) (B rb ab : Nat) (kd : UInt8) (is : Bool) (l : List UInt8) (bad : Bool) (e : Ending) (w' : World) : Prop := ∃ (a : Ag) (h : AH) (l' : List UInt8) (bad' : Bool), e = .returned (.tuple #[]) ∧ Box w' ab 52 (agV a h) ∧ RA w' (FN w.heap.size w') a h ∧ MRd w' B rb l' bad' ∧ KP B rb ab w w' ∧ a.is = is ∧
 ∀ (a' : Ag) (rest : List UInt8), bad = false → l = byA kd a' ++ rest → okA kd a' = true → AB a' → a'.is = is → a = a' ∧ l' = rest ∧ bad' = false
theorem drop_back (X rest : List UInt8) : (X ++ rest).drop ((X ++ rest).length - rest.length) = rest := by
 rw [List.length_append, Nat.add_sub_cancel, List.drop_left]
theorem num_arg {w w' : World} {B rb ab : Nat} {is : Bool} {l : List UInt8} {bad : Bool} {e : Ending} (kd : UInt8) (k : Nat) (hk : k = 1 ∨ k = 2 ∨ k = 4) (hby : ∀ a, byA kd a = be k a.n) (hok : ∀ a, okA kd a = true → a.n < 256 ^ k ∧ sameA a (agN a) = true)
  (h : OctR w B rb ab (if (bad || (mnum l false (k : Int)).2.2) = true then l else l.drop (l.length - (mnum l false (k : Int)).2.1.length)) (bad || (mnum l false (k : Int)).2.2) #[.bool is, .int .u64 ((mnum l false (k : Int)).1 : Int), .string ⟨#[]⟩, .int .u32 0, .string ⟨#[]⟩, .string ⟨#[]⟩, .slice none 0 0, .int .u8 0, .int .u64 0, .string ⟨#[]⟩, .slice none 0 0, .slice none 0 0] e w') : ArgRd w B rb ab kd is l bad e w' := by
 obtain ⟨rfl, hb, hm, hK⟩ := h
 refine ⟨⟨is, (mnum l false (k : Int)).1, [], xd0, [], vl0⟩, ah0, _, _, rfl, hb, ?_, hm, hK, rfl, ?_⟩
 ·have hz := RA.zero w' (FN w.heap.size w') is
  exact ⟨mnum_lt l false k, hz.s, hz.x, hz.q, hz.ok, hz.c, hz.v⟩
 ·intro a' rest hbad hl hka _ his
  obtain ⟨h1, h2⟩ := hok a' hka
  rw [hby] at hl
  have e1 := mnum_at k (by omega) a'.n h1 rest
  subst hl hbad
  rw [e1]
  have e2 : a' = agN a' := (sameA_iff _ _).1 h2
  have e3 : a'.is = true := by rw [e2]; rfl
  refine ⟨?_, by simp, rfl⟩
  rw [e2]
  simp only [agN]
  rw [← his, e3]
theorem txt_arg {w w' : World} {B rb ab : Nat} {is : Bool} {l : List UInt8} {bad : Bool} {e : Ending} (kd : UInt8) (k : Nat) (hk : k = 1 ∨ k = 2) (most : Nat) (hms : 256 ^ k ≤ most + 1) (hmx : most ≤ 65535) (hby : ∀ a, byA kd a = putsText [] a.s (k : Int)) (hok : ∀ a, okA kd a = true → textErr a.s.length (k : Int) = 0 ∧ sameA a (agS a) = true)
  (h : OctR w B rb ab (if (bad || (mtext l false (k : Int) (most : Int)).2.2) = true then l else l.drop (l.length - (mtext l false (k : Int) (most : Int)).2.1.length)) (bad || (mtext l false (k : Int) (most : Int)).2.2) #[.bool is, .int .u64 0, .string (str (mtext l false (k : Int) (most : Int)).1), .int .u32 0, .string ⟨#[]⟩, .string ⟨#[]⟩, .slice none 0 0, .int .u8 0, .int .u64 0, .string ⟨#[]⟩, .slice none 0 0, .slice none 0 0] e w') : ArgRd w B rb ab kd is l bad e w' := by
 obtain ⟨rfl, hb, hm, hK⟩ := h
 refine ⟨⟨is, 0, (mtext l false (k : Int) (most : Int)).1, xd0, [], vl0⟩, ah0, _, _, rfl, hb, ?_, hm, hK, rfl, ?_⟩
 ·have hz := RA.zero w' (FN w.heap.size w') is
  exact ⟨hz.n, by have := mtext_slen l false k most; show (mtext l false (k : Int) (most : Int)).1.length ≤ _; omega, hz.x, hz.q, hz.ok, hz.c, hz.v⟩
 ·intro a' rest hbad hl hka _ his
  obtain ⟨h1, h2⟩ := hok a' hka
  obtain ⟨h3, h4⟩ := text_ok hk h1
  rw [hby, h4] at hl
  have e1 := mtext_app2 k (by omega) a'.s rest most h3 (by omega)
  subst hl hbad
  rw [e1]
  have e2 : a' = agS a' := (sameA_iff _ _).1 h2
  have e3 : a'.is = true := by rw [e2]; rfl
  refine ⟨?_, (by rw [if_neg (by simp)]; exact drop_back _ _), rfl⟩
  rw [e2]
  simp only [agS]
  rw [← his, e3]
theorem bit_arg {w w' : World} {B rb ab : Nat} {is : Bool} {l : List UInt8} {bad : Bool} {e : Ending} (h : OctR w B rb ab l bad #[.bool is, .int .u64 0, .string ⟨#[]⟩, .int .u32 0, .string ⟨#[]⟩, .string ⟨#[]⟩, .slice none 0 0, .int .u8 0, .int .u64 0, .string ⟨#[]⟩, .slice none 0 0, .slice none 0 0] e w') : ArgRd w B rb ab 98 is l bad e w' := by
 obtain ⟨rfl, hb, hm, hK⟩ := h
 refine ⟨ag0 is, ah0, _, _, rfl, hb, RA.zero _ _ _, hm, hK, rfl, ?_⟩
 intro a' rest hbad hl hka _ his
 have h2 : sameA a' (ag0 a'.is) = true := hka
 have e2 : a' = ag0 a'.is := (sameA_iff _ _).1 h2
 refine ⟨by rw [e2, ← his], ?_, hbad⟩
 rw [hl]
 rfl
theorem value_arg {w w' : World} {B rb ab : Nat} {is : Bool} {l : List UInt8} {bad : Bool} {e : Ending} (x : Vl) (n : Nat) (er : Int) (hg : vget l = (x, n, er)) (h1 : VH)
  (h : OctR w B rb ab (if (bad || decide (er ≠ 0)) = true then l else l.drop n) (bad || decide (er ≠ 0)) #[.bool is, .int .u64 0, .string ⟨#[]⟩, .int .u32 0, .string ⟨#[]⟩, .string ⟨#[]⟩, .slice none 0 0, .int .u8 (x.kind : Int), .int .u64 (x.n : Int), .string (str x.s), .slice h1.A1 x.keys.length h1.c1, .slice h1.A2 x.list.length h1.c2] e w') (hv : RV w' (FN w.heap.size w') x h1) : ArgRd w B rb ab 118 is l bad e w' := by
 obtain ⟨rfl, hb, hm, hK⟩ := h
 refine ⟨⟨is, 0, [], xd0, [], x⟩, ⟨none, 0, h1⟩, _, _, rfl, hb, ?_, hm, hK, rfl, ?_⟩
 ·have hz := RA.zero w' (FN w.heap.size w') is
  exact ⟨hz.n, hz.s, hz.x, hz.q, hz.ok, hz.c, hv⟩
 ·intro a' rest hbad hl hka hab his
  have h2 : (decide (errV a'.v = 0) && sameA a' (agX2 a')) = true := hka
  rw [Bool.and_eq_true, decide_eq_true_eq] at h2
  obtain ⟨h3, h4⟩ := h2
  have e2 : a' = agX2 a' := (sameA_iff _ _).1 h4
  have e3 : a'.is = true := by rw [e2]; rfl
  have hl' : l = vlB a'.v ++ rest := by
   rw [hl]
   show vlP a'.v ++ rest = _
   rw [vlP, if_pos h3]
  rw [hl', vget_ok hab.v h3] at hg
  injection hg with g1 g2
  injection g2 with g2 g3
  subst g1 g2 g3 hbad
  refine ⟨?_, ?_, rfl⟩
  ·rw [e2]
   simp only [agX2]
   rw [← his, e3]
  ·rw [if_neg (by simp), hl', List.drop_left]
theorem getR_wf (l : List UInt8) : (getR l).1.wf := by
 have h0 : xd00.wf := ⟨by decide, by decide, by decide⟩
 unfold getR
 split
 ·exact h0
 ·split
  ·refine ⟨Nat.mod_lt _ (by decide), ?_, ?_⟩
   ·have := mtext_slen (mnum l false 4).2.1 (mnum l false 4).2.2 1 255
    exact Nat.le_trans this (by decide)
   ·have := mtext_slen (getT (mnum l false 4).2.1 (mnum l false 4).2.2).2.1 (getT (mnum l false 4).2.1 (mnum l false 4).2.2).2.2 1 255
    exact Nat.le_trans this (by decide)
  ·exact h0
theorem name_arg {w w' : World} {B rb ab : Nat} {is : Bool} {l : List UInt8} {bad : Bool} {e : Ending} (x : Xd) (n er : Nat) (hg : getR l = (x, n, er))
  (h : OctR w B rb ab (if (bad || decide (er ≠ 0)) = true then l else l.drop n) (bad || decide (er ≠ 0)) #[.bool is, .int .u64 0, .string ⟨#[]⟩, .int .u32 (x.fmt : Int), .string (str x.glob), .string (str x.bran), .slice none 0 0, .int .u8 0, .int .u64 0, .string ⟨#[]⟩, .slice none 0 0, .slice none 0 0] e w') : ArgRd w B rb ab 120 is l bad e w' := by
 obtain ⟨rfl, hb, hm, hK⟩ := h
 have hwf := getR_wf l
 rw [hg] at hwf
 refine ⟨⟨is, 0, [], x, [], vl0⟩, ah0, _, _, rfl, hb, ?_, hm, hK, rfl, ?_⟩
 ·have hz := RA.zero w' (FN w.heap.size w') is
  exact ⟨hz.n, hz.s, hwf, hz.q, hz.ok, hz.c, hz.v⟩
 ·intro a' rest hbad hl hka hab his
  have h2 : (decide (((a'.x.err : Nat) : Int) = 0) && sameA a' (agX a')) = true := hka
  rw [Bool.and_eq_true, decide_eq_true_eq] at h2
  obtain ⟨h3, h4⟩ := h2
  have e2 : a' = agX a' := (sameA_iff _ _).1 h4
  have e3 : a'.is = true := by rw [e2]; rfl
  have hok : a'.x.ok = true := by
   cases hk : a'.x.ok
   ·simp [Xd.err, hk] at h3
   ·rfl
  have hl' : l = a'.x.bytes ++ rest := by
   rw [hl]
   show a'.x.put ++ rest = _
   rw [Xd.put_ok hok]
  rw [hl', getR_bytes hab.x hok] at hg
  injection hg with g1 g2
  injection g2 with g2 g3
  subst g1 g2 g3 hbad
  refine ⟨?_, ?_, rfl⟩
  ·rw [e2]
   simp only [agX]
   rw [← his, e3]
  ·rw [if_neg (by simp), hl', List.drop_left]
end Go.PH
end
section
/- What the method reader's reader of sets answers; all nine in one form. -/
namespace Go.PH
open Go.RowKit Go.Proofs

theorem spGet_okM (b : List UInt8) : spOK 4294967296 (spGet b) := by
 unfold spGet
 split
 ·exact getSpans_ok _ _
 ·intro z hz; cases hz
theorem set_arg {w w' : World} {B rb ab : Nat} {is : Bool} {l : List UInt8} {bad : Bool} {e : Ending} (A2 : Option Addr) (c2 : Nat)
  (h : OctR w B rb ab (if (bad || decide (spGetErr l ≠ 0)) = true then l else l.drop (spGetN l)) (bad || decide (spGetErr l ≠ 0)) #[.bool is, .int .u64 0, .string ⟨#[]⟩, .int .u32 0, .string ⟨#[]⟩, .string ⟨#[]⟩, .slice A2 (spGet l).length c2, .int .u8 0, .int .u64 0, .string ⟨#[]⟩, .slice none 0 0, .slice none 0 0] e w') (ho : OwnS w' w.heap.size A2 (spGet l).length c2 (spGet l)) (hlen : (spGet l).length ≤ 140737488351232) : ArgRd w B rb ab 114 is l bad e w' := by
 obtain ⟨rfl, hb, hm, hK⟩ := h
 refine ⟨⟨is, 0, [], xd0, spGet l, vl0⟩, ⟨A2, c2, ⟨none, 0, none, 0⟩⟩, _, _, rfl, hb, ?_, hm, hK, rfl, ?_⟩
 ·have hz := RA.zero w' (FN w.heap.size w') is
  refine ⟨hz.n, hz.s, hz.x, RdX.of_own ho (fun g hg => ?_), spGet_okM l, hlen, hz.v⟩
  have := ho.blk_lt hg
  exact ⟨this.1, this.2⟩
 ·intro a' rest hbad hl hka hab his
  have h2 : (decide (((spPutErr a'.q : Nat) : Int) = 0) && sameA a' (agQ a')) = true := hka
  rw [Bool.and_eq_true, decide_eq_true_eq] at h2
  obtain ⟨h3, h4⟩ := h2
  have e2 : a' = agQ a' := (sameA_iff _ _).1 h4
  have e3 : a'.is = true := by rw [e2]; rfl
  have hl' : l = spPut a'.q ++ rest := hl
  have hrl : spRight a'.q = true ∧ a'.q.length ≤ 1000 := by
   unfold spPutErr at h3
   split at h3
   ·rename_i hr
    split at h3
    ·exact ⟨hr, by omega⟩
    ·omega
   ·omega
  obtain ⟨g1, g2, g3⟩ := put_got rest hrl.1 hrl.2 hab.q
  rw [← hl'] at g1 g2 g3
  subst hbad
  rw [g1, g2, g3]
  refine ⟨?_, ?_, rfl⟩
  ·rw [e2]
   simp only [agQ]
   rw [← his, e3]
  ·rw [if_neg (by simp), hl', List.drop_left]
end Go.PH
end
section
/- All of the method reader's readers in one form. -/
namespace Go.PH
open Go.RowKit Go.Proofs

/-- the reader of a kind -/
def rdFn (kd : UInt8) : FuncId :=
 if kd = 98 then 40 else if kd = 110 then 41 else if kd = 119 then 42 else if kd = 100 then 43
 else if kd = 115 then 44 else if kd = 116 then 45 else if kd = 120 then 46 else if kd = 114 then 47 else 48
theorem num_ok {a : Ag} {k : Nat} (h : (decide (a.n < k) && sameA a (agN a)) = true) : a.n < k ∧ sameA a (agN a) = true := by
 rw [Bool.and_eq_true, decide_eq_true_eq] at h; exact h
theorem txt_ok {a : Ag} {k : Int} (h : (decide (textErr a.s.length k = 0) && sameA a (agS a)) = true) : textErr a.s.length k = 0 ∧ sameA a (agS a) = true := by
 rw [Bool.and_eq_true, decide_eq_true_eq] at h; exact h
theorem mrd_any (kd : UInt8) (hk : kd ∈ kindL) {w : World} {B rb ab : Nat} {l : List UInt8} {bad : Bool} (is : Bool) (h : MRd w B rb l bad) (hB : B ≤ rb) (ha : Box w ab 52 #[.bool is, .int .u64 0, .string ⟨#[]⟩, .int .u32 0, .string ⟨#[]⟩, .string ⟨#[]⟩, .slice none 0 0, .int .u8 0, .int .u64 0, .string ⟨#[]⟩, .slice none 0 0, .slice none 0 0]) (hab : B ≤ ab) (hne : ab ≠ rb) (hT : UTabs w) :
  Calls Tryz.prog (rdFn kd) #[.pointer (some ⟨rb, 0, none⟩), .pointer (some ⟨ab, 0, none⟩)] w (ArgRd w B rb ab kd is l bad) := by
 unfold kindL at hk
 simp only [List.mem_cons, List.not_mem_nil, or_false] at hk
 rcases hk with rfl | rfl | rfl | rfl | rfl | rfl | rfl | rfl | rfl
 ·exact (mrd_bit h ha).mono fun e w' hh => bit_arg hh
 ·exact (mrd_byte is h hB ha hab hne _ rfl (mnum_len _ _ _)).mono fun e w' hh => num_arg 110 1 (.inl rfl) (fun a => rfl) (fun a h => num_ok h) hh
 ·exact (mrd_word is h hB ha hab hne _ rfl (mnum_len _ _ _)).mono fun e w' hh => num_arg 119 2 (.inr (.inl rfl)) (fun a => rfl) (fun a h => num_ok h) hh
 ·exact (mrd_long is h hB ha hab hne _ rfl (mnum_len _ _ _)).mono fun e w' hh => num_arg 100 4 (.inr (.inr rfl)) (fun a => rfl) (fun a h => num_ok h) hh
 ·exact (mrd_short is h hB ha hab hne _ rfl (mtext_len _ _ _ _)).mono fun e w' hh => txt_arg 115 1 (.inl rfl) 255 (by decide) (by decide) (fun a => rfl) (fun a h => txt_ok h) hh
 ·exact (mrd_text is h hB ha hab hne _ rfl (mtext_len _ _ _ _)).mono fun e w' hh => txt_arg 116 2 (.inr rfl) 65535 (by decide) (by decide) (fun a => rfl) (fun a h => txt_ok h) hh
 ·exact (mrd_name is h hB ha hab hne (getR l).1 (getR l).2.1 (getR l).2.2 rfl).mono fun e w' hh => name_arg _ _ _ rfl hh
 ·exact (mrd_set is h hB ha hab hne).mono fun e w' ⟨A2, c2, hh, ho⟩ => set_arg A2 c2 hh ho (by
   unfold spGet
   split
   ·rw [getSpans_len]
    have hN : getN l < 65536 := unbe_take
    omega
   ·simp)
 ·exact (mrd_value is h hB ha hab hne hT (vget l).1 (vget l).2.1 (vget l).2.2 rfl).mono fun e w' ⟨h1, hh, hv⟩ => value_arg _ _ _ rfl h1 hh hv
end Go.PH
end
section
/- The readers' map: what lies in it. -/
namespace Go.PH
open Go.RowKit Go.Proofs

set_option maxRecDepth 20000 in
theorem readers_map (w : World) : Calls Tryz.prog 21 #[] w fun e w' => ∃ mb, e = .returned (.map (some mb)) ∧ Below w.heap.size w w' ∧ w.heap.size ≤ mb ∧ mb < w'.heap.size ∧ ∀ W : World, W.heap[mb]? = w'.heap[mb]? → ∀ kd ∈ kindL, (Instr.lookup 62 (.map (some mb)) (.int .u8 (kd.toNat : Int)) false).run Tryz.prog W = .ok (.func (.func (rdFn kd)) #[] #[]) W := by
 have hmk := fun W => run_makeMap (P := Tryz.prog) 62 W
 have hmap := World.ownsMap_made w Tryz.prog 5 rawV
 have hB := (Below.refl w.heap.size w).alloc (Nat.le_refl _) (.map #[] 0)
 go_enter Tryz.func21, Tryz.ntmps21
 go_wp2_with (with_reducible refine h_M ?_)
 obtain ⟨mb, hmb⟩ : ∃ m, m = w.heap.size := ⟨_, rfl⟩
 rw [← hmb] at hmap ⊢
 have hmw : w.heap.size ≤ mb := by omega
 clear hmb hmk
 generalize (w.alloc (.map #[] 0)) = v1 at *
 refine unhold (wpList_insert_own (H := Value) _ rfl _ _ _ 62 rfl 5 64 u8_keyedM Tryz.underlying62 rawV _ _ _ rfl hmap (by simp [maxLen]) _ _ (.int .u8 98) rfl rfl (Maps.keyOf_int_mk Tryz.underlying5 (by decide)) _ [] rfl ?_)
 intro v2 hmap2 hgm
 have hB2 := hB.grown hgm hB.size (fun g hg => by injection hg with hg; omega)
 clear hmap hgm hB
 have hmap := hmap2
 have hB := hB2
 clear hmap2 hB2
 generalize v2 = v1 at *
 go_wp2_with (with_reducible refine h_M ?_)
 refine unhold (wpList_insert_own (H := Value) _ rfl _ _ _ 62 rfl 5 64 u8_keyedM Tryz.underlying62 rawV _ _ _ rfl hmap (by simp [maxLen]) _ _ (.int .u8 110) rfl rfl (Maps.keyOf_int_mk Tryz.underlying5 (by decide)) _ [] rfl ?_)
 intro v2 hmap2 hgm
 have hB2 := hB.grown hgm hB.size (fun g hg => by injection hg with hg; omega)
 clear hmap hgm hB
 have hmap := hmap2
 have hB := hB2
 clear hmap2 hB2
 generalize v2 = v1 at *
 go_wp2_with (with_reducible refine h_M ?_)
 refine unhold (wpList_insert_own (H := Value) _ rfl _ _ _ 62 rfl 5 64 u8_keyedM Tryz.underlying62 rawV _ _ _ rfl hmap (by simp [maxLen]) _ _ (.int .u8 119) rfl rfl (Maps.keyOf_int_mk Tryz.underlying5 (by decide)) _ [] rfl ?_)
 intro v2 hmap2 hgm
 have hB2 := hB.grown hgm hB.size (fun g hg => by injection hg with hg; omega)
 clear hmap hgm hB
 have hmap := hmap2
 have hB := hB2
 clear hmap2 hB2
 generalize v2 = v1 at *
 go_wp2_with (with_reducible refine h_M ?_)
 refine unhold (wpList_insert_own (H := Value) _ rfl _ _ _ 62 rfl 5 64 u8_keyedM Tryz.underlying62 rawV _ _ _ rfl hmap (by simp [maxLen]) _ _ (.int .u8 100) rfl rfl (Maps.keyOf_int_mk Tryz.underlying5 (by decide)) _ [] rfl ?_)
 intro v2 hmap2 hgm
 have hB2 := hB.grown hgm hB.size (fun g hg => by injection hg with hg; omega)
 clear hmap hgm hB
 have hmap := hmap2
 have hB := hB2
 clear hmap2 hB2
 generalize v2 = v1 at *
 go_wp2_with (with_reducible refine h_M ?_)
 refine unhold (wpList_insert_own (H := Value) _ rfl _ _ _ 62 rfl 5 64 u8_keyedM Tryz.underlying62 rawV _ _ _ rfl hmap (by simp [maxLen]) _ _ (.int .u8 115) rfl rfl (Maps.keyOf_int_mk Tryz.underlying5 (by decide)) _ [] rfl ?_)
 intro v2 hmap2 hgm
 have hB2 := hB.grown hgm hB.size (fun g hg => by injection hg with hg; omega)
 clear hmap hgm hB
 have hmap := hmap2
 have hB := hB2
 clear hmap2 hB2
 generalize v2 = v1 at *
 go_wp2_with (with_reducible refine h_M ?_)
 refine unhold (wpList_insert_own (H := Value) _ rfl _ _ _ 62 rfl 5 64 u8_keyedM Tryz.underlying62 rawV _ _ _ rfl hmap (by simp [maxLen]) _ _ (.int .u8 116) rfl rfl (Maps.keyOf_int_mk Tryz.underlying5 (by decide)) _ [] rfl ?_)
 intro v2 hmap2 hgm
 have hB2 := hB.grown hgm hB.size (fun g hg => by injection hg with hg; omega)
 clear hmap hgm hB
 have hmap := hmap2
 have hB := hB2
 clear hmap2 hB2
 generalize v2 = v1 at *
 go_wp2_with (with_reducible refine h_M ?_)
 refine unhold (wpList_insert_own (H := Value) _ rfl _ _ _ 62 rfl 5 64 u8_keyedM Tryz.underlying62 rawV _ _ _ rfl hmap (by simp [maxLen]) _ _ (.int .u8 120) rfl rfl (Maps.keyOf_int_mk Tryz.underlying5 (by decide)) _ [] rfl ?_)
 intro v2 hmap2 hgm
 have hB2 := hB.grown hgm hB.size (fun g hg => by injection hg with hg; omega)
 clear hmap hgm hB
 have hmap := hmap2
 have hB := hB2
 clear hmap2 hB2
 generalize v2 = v1 at *
 go_wp2_with (with_reducible refine h_M ?_)
 refine unhold (wpList_insert_own (H := Value) _ rfl _ _ _ 62 rfl 5 64 u8_keyedM Tryz.underlying62 rawV _ _ _ rfl hmap (by simp [maxLen]) _ _ (.int .u8 114) rfl rfl (Maps.keyOf_int_mk Tryz.underlying5 (by decide)) _ [] rfl ?_)
 intro v2 hmap2 hgm
 have hB2 := hB.grown hgm hB.size (fun g hg => by injection hg with hg; omega)
 clear hmap hgm hB
 have hmap := hmap2
 have hB := hB2
 clear hmap2 hB2
 generalize v2 = v1 at *
 go_wp2_with (with_reducible refine h_M ?_)
 refine unhold (wpList_insert_own (H := Value) _ rfl _ _ _ 62 rfl 5 64 u8_keyedM Tryz.underlying62 rawV _ _ _ rfl hmap (by simp [maxLen]) _ _ (.int .u8 118) rfl rfl (Maps.keyOf_int_mk Tryz.underlying5 (by decide)) _ [] rfl ?_)
 intro v2 hmap2 hgm
 have hB2 := hB.grown hgm hB.size (fun g hg => by injection hg with hg; omega)
 clear hmap hgm hB
 have hmap := hmap2
 have hB := hB2
 clear hmap2 hB2
 generalize v2 = v1 at *
 go_wp2_with (with_reducible refine h_M ?_)
 go_ret
 refine ⟨mb, rfl, hB, hmw, ?_, fun W hW kd hk => ?_⟩
 ·obtain ⟨es, clock, hb, _⟩ := hmap
  exact (Array.getElem?_eq_some_iff.1 hb).1
 obtain ⟨es, clock, hb, F, hx, hy⟩ := hmap
 have hmapW : W.ownsMap Tryz.prog 5 rawV mb _ _ := ⟨es, clock, hW.trans hb, F, hx, hy⟩
 unfold kindL at hk
 simp only [List.mem_cons, List.not_mem_nil, or_false] at hk
 rcases hk with rfl | rfl | rfl | rfl | rfl | rfl | rfl | rfl | rfl
 ·obtain ⟨v, ps, hrun, hv⟩ := hmapW.lookup (t := 62) u8_keyedM Tryz.underlying62 (z := .nilFunc) (by kernel_rfl) (zd := .held .nilFunc) (zp := []) rfl (key := .int .u8 98) (kl := .int .u8 98) (Maps.keyOf_int_mk Tryz.underlying5 (by decide))
  have h2 := congrArg Prod.fst (Option.some.inj hv)
  have h3 : DataW.held v = DataW.held (.func (.func 40) #[] #[]) := h2.trans (by kernel_rfl)
  have h4 : v = .func (.func 40) #[] #[] := by injection h3
  rw [h4] at hrun
  exact hrun
 ·obtain ⟨v, ps, hrun, hv⟩ := hmapW.lookup (t := 62) u8_keyedM Tryz.underlying62 (z := .nilFunc) (by kernel_rfl) (zd := .held .nilFunc) (zp := []) rfl (key := .int .u8 110) (kl := .int .u8 110) (Maps.keyOf_int_mk Tryz.underlying5 (by decide))
  have h2 := congrArg Prod.fst (Option.some.inj hv)
  have h3 : DataW.held v = DataW.held (.func (.func 41) #[] #[]) := h2.trans (by kernel_rfl)
  have h4 : v = .func (.func 41) #[] #[] := by injection h3
  rw [h4] at hrun
  exact hrun
 ·obtain ⟨v, ps, hrun, hv⟩ := hmapW.lookup (t := 62) u8_keyedM Tryz.underlying62 (z := .nilFunc) (by kernel_rfl) (zd := .held .nilFunc) (zp := []) rfl (key := .int .u8 119) (kl := .int .u8 119) (Maps.keyOf_int_mk Tryz.underlying5 (by decide))
  have h2 := congrArg Prod.fst (Option.some.inj hv)
  have h3 : DataW.held v = DataW.held (.func (.func 42) #[] #[]) := h2.trans (by kernel_rfl)
  have h4 : v = .func (.func 42) #[] #[] := by injection h3
  rw [h4] at hrun
  exact hrun
 ·obtain ⟨v, ps, hrun, hv⟩ := hmapW.lookup (t := 62) u8_keyedM Tryz.underlying62 (z := .nilFunc) (by kernel_rfl) (zd := .held .nilFunc) (zp := []) rfl (key := .int .u8 100) (kl := .int .u8 100) (Maps.keyOf_int_mk Tryz.underlying5 (by decide))
  have h2 := congrArg Prod.fst (Option.some.inj hv)
  have h3 : DataW.held v = DataW.held (.func (.func 43) #[] #[]) := h2.trans (by kernel_rfl)
  have h4 : v = .func (.func 43) #[] #[] := by injection h3
  rw [h4] at hrun
  exact hrun
 ·obtain ⟨v, ps, hrun, hv⟩ := hmapW.lookup (t := 62) u8_keyedM Tryz.underlying62 (z := .nilFunc) (by kernel_rfl) (zd := .held .nilFunc) (zp := []) rfl (key := .int .u8 115) (kl := .int .u8 115) (Maps.keyOf_int_mk Tryz.underlying5 (by decide))
  have h2 := congrArg Prod.fst (Option.some.inj hv)
  have h3 : DataW.held v = DataW.held (.func (.func 44) #[] #[]) := h2.trans (by kernel_rfl)
  have h4 : v = .func (.func 44) #[] #[] := by injection h3
  rw [h4] at hrun
  exact hrun
 ·obtain ⟨v, ps, hrun, hv⟩ := hmapW.lookup (t := 62) u8_keyedM Tryz.underlying62 (z := .nilFunc) (by kernel_rfl) (zd := .held .nilFunc) (zp := []) rfl (key := .int .u8 116) (kl := .int .u8 116) (Maps.keyOf_int_mk Tryz.underlying5 (by decide))
  have h2 := congrArg Prod.fst (Option.some.inj hv)
  have h3 : DataW.held v = DataW.held (.func (.func 45) #[] #[]) := h2.trans (by kernel_rfl)
  have h4 : v = .func (.func 45) #[] #[] := by injection h3
  rw [h4] at hrun
  exact hrun
 ·obtain ⟨v, ps, hrun, hv⟩ := hmapW.lookup (t := 62) u8_keyedM Tryz.underlying62 (z := .nilFunc) (by kernel_rfl) (zd := .held .nilFunc) (zp := []) rfl (key := .int .u8 120) (kl := .int .u8 120) (Maps.keyOf_int_mk Tryz.underlying5 (by decide))
  have h2 := congrArg Prod.fst (Option.some.inj hv)
  have h3 : DataW.held v = DataW.held (.func (.func 46) #[] #[]) := h2.trans (by kernel_rfl)
  have h4 : v = .func (.func 46) #[] #[] := by injection h3
  rw [h4] at hrun
  exact hrun
 ·obtain ⟨v, ps, hrun, hv⟩ := hmapW.lookup (t := 62) u8_keyedM Tryz.underlying62 (z := .nilFunc) (by kernel_rfl) (zd := .held .nilFunc) (zp := []) rfl (key := .int .u8 114) (kl := .int .u8 114) (Maps.keyOf_int_mk Tryz.underlying5 (by decide))
  have h2 := congrArg Prod.fst (Option.some.inj hv)
  have h3 : DataW.held v = DataW.held (.func (.func 47) #[] #[]) := h2.trans (by kernel_rfl)
  have h4 : v = .func (.func 47) #[] #[] := by injection h3
  rw [h4] at hrun
  exact hrun
 ·obtain ⟨v, ps, hrun, hv⟩ := hmapW.lookup (t := 62) u8_keyedM Tryz.underlying62 (z := .nilFunc) (by kernel_rfl) (zd := .held .nilFunc) (zp := []) rfl (key := .int .u8 118) (kl := .int .u8 118) (Maps.keyOf_int_mk Tryz.underlying5 (by decide))
  have h2 := congrArg Prod.fst (Option.some.inj hv)
  have h3 : DataW.held v = DataW.held (.func (.func 48) #[] #[]) := h2.trans (by kernel_rfl)
  have h4 : v = .func (.func 48) #[] #[] := by injection h3
  rw [h4] at hrun
  exact hrun
end Go.PH
end

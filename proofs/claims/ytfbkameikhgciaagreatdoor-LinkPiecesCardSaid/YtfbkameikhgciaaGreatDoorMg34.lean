/- Texts laid together: MdRd4, MdRd5, MdRd6, MdRd7, MdMap0. -/
import Derived.Test.YtfbkameikhgciaaGreatDoorMg08
import Derived.Test.YtfbkameikhgciaaGreatDoorMg16
import Derived.Test.YtfbkameikhgciaaGreatDoorMg26
import Derived.Test.YtfbkameikhgciaaGreatDoorMg32
import Derived.Test.YtfbkameikhgciaaGreatDoorMg33
set_option linter.all false
set_option linter.unusedSimpArgs false
set_option linter.unusedVariables false
set_option maxRecDepth 20000
set_option maxHeartbeats 8000000
section
namespace Go.PH
open Go.RowKit Go.Proofs
theorem X3 (b : List UInt8) : qn b ≤ b.length := by
 unfold qn
 split
 ·rename_i h
  unfold zL at h
  split at h
  ·omega
  split at h
  ·omega
  split at h
  ·omega
  ·omega
 ·exact Nat.zero_le _
theorem VO {w : World} {B rb ab : Nat} {l : List UInt8} {bad : Bool} (is : Bool) (h : MRd w B rb l bad) (hB : B ≤ rb) (ha : Box w ab 80 #[.bool is, .int .u64 0, .string ⟨#[]⟩, .int .u32 0, .string ⟨#[]⟩, .string ⟨#[]⟩, .slice none 0 0, .int .u8 0, .int .u64 0, .string ⟨#[]⟩, .slice none 0 0, .slice none 0 0]) (hab : B ≤ ab) (hne : ab ≠ rb) :
  Calls Tryz.prog 134 #[.pointer (some ⟨rb, 0, none⟩), .pointer (some ⟨ab, 0, none⟩)] w fun e w' => ∃ A2 c2, OctR w B rb ab (if (bad || decide (zL l ≠ 0)) = true then l else l.drop (qn l)) (bad || decide (zL l ≠ 0)) #[.bool is, .int .u64 0, .string ⟨#[]⟩, .int .u32 0, .string ⟨#[]⟩, .string ⟨#[]⟩, .slice A2 (xG l).length c2, .int .u8 0, .int .u64 0, .string ⟨#[]⟩, .slice none 0 0, .slice none 0 0] e w' ∧ OwnS w' w.heap.size A2 (xG l).length c2 (xG l) := by
 have hnl := X3 l
 obtain ⟨lr, hlr⟩ : ∃ y, y = (if (bad || decide (zL l ≠ 0)) = true then l else l.drop (qn l)) := ⟨_, rfl⟩
 obtain ⟨br, hbr⟩ : ∃ y, y = (bad || decide (zL l ≠ 0)) := ⟨_, rfl⟩
 rw [← hlr, ← hbr]
 have HLR := Lib.hid hlr
 have HBR := Lib.hid hbr
 clear hlr hbr
 obtain ⟨A, m, c, hbx, hr, hm⟩ := h
 have hln : l.length = m := RdB.length hr
 have hbw := hbx.lt
 have haw := ha.lt
 have hBw : B ≤ w.heap.size := by omega
 have hgt := JC A m c l w (jQ hr hBw) hm
 have c0 := hbx.c0
 generalize zL l = er at *
 generalize qn l = n at *
 go_enter Tryz.func134, Tryz.ntmps134
 go_wp2_with (with_reducible refine h_A ?_)
 refine hgt.mono ?_
 rintro e w4 ⟨A2, c2, rfl, ho4, hB2⟩
 have hK4 := (KP.refl B rb ab w).below hBw hB2
 have hb4 := hbx.below hB2
 have ha4 := ha.below hB2
 have hr4 := hr.below (hB2.mono hBw)
 have hs4 := hB2.size
 clear hgt c0 hbx ha hr hB2
 go_wp2_with (with_reducible refine h_B ?_)
 refine zc (zm (v := .slice A2 (xG l).length c2) (vs := [.slice A2 (xG l).length c2]) rfl rfl rfl rfl ha4 rfl (by kernel_rfl) (by simp) (by simp; rfl) #[.bool is, .int .u64 0, .string ⟨#[]⟩, .int .u32 0, .string ⟨#[]⟩, .string ⟨#[]⟩, .slice A2 (xG l).length c2, .int .u8 0, .int .u64 0, .string ⟨#[]⟩, .slice none 0 0, .slice none 0 0] (by simp) ?_)
 intro w5 ha5 hg5 _
 have hb5 := hb4.grown hg5 (sne (by omega))
 have hr5 := hr4.grown hg5 (by have := ha4.lt; omega) (fun g hg => by injection hg with hg; omega)
 have hK5 := hK4.grown hBw hg5 (fun g hg => by injection hg with hg; exact ⟨by omega, .inr (.inl hg.symm)⟩)
 have ho5 : OwnS w5 w.heap.size A2 (xG l).length c2 (xG l) := zf ho4 hg5 (fun g hg e => by injection e with e; have := (ho4.blk_lt hg).1; omega)
 clear hb4 ha4 hr4 hK4 ho4 hg5
 have hM5 : MRd w5 B rb l bad := ⟨A, m, c, hb5, hr5, hm⟩
 cases br
 ·have hb0 : bad = false ∧ er = 0 := by
   have := HBR.out.symm
   simpa using this
  obtain ⟨hb0, he0⟩ := hb0
  subst hb0 he0
  have htk := Xf hM5 hB n hnl
  go_wp2_with (with_reducible refine h_A ?_)
  refine htk.mono ?_
  rintro e w6 ⟨rfl, hM6, hg6⟩
  have ha6 := ha5.grown hg6 (sne (by omega))
  have hK6 := hK5.grown hBw hg6 (fun g hg => by injection hg with hg; exact ⟨by omega, .inl hg.symm⟩)
  have ho6 := zf ho5 hg6 (fun g hg e => by injection e with e; have := (ho5.blk_lt hg).1; omega)
  go_wp2_with (with_reducible refine h_A ?_)
  go_end0
  have e2 := HLR.out
  simp at e2
  rw [e2]
  exact ⟨A2, c2, ⟨rfl, ha6, hM6, hK6⟩, ho6⟩
 ·have hb0 : bad = true ∨ er ≠ 0 := by
   have := HBR.out.symm
   simpa using this
  have htk := kZ hM5 hB (n : Int) (er : Int) (hb0.imp id (fun h => by omega))
  go_wp2_with (with_reducible refine h_A ?_)
  refine htk.mono ?_
  rintro e w6 ⟨rfl, hM6, hg6⟩
  have ha6 := ha5.grown hg6 (sne (by omega))
  have hK6 := hK5.grown hBw hg6 (fun g hg => by injection hg with hg; exact ⟨by omega, .inl hg.symm⟩)
  have ho6 := zf ho5 hg6 (fun g hg e => by injection e with e; have := (ho5.blk_lt hg).1; omega)
  go_wp2_with (with_reducible refine h_A ?_)
  go_end0
  have e2 : lr = l := by rw [HLR.out, ← HBR.out, if_pos rfl]
  rw [e2]
  exact ⟨A2, c2, ⟨rfl, ha6, hM6, hK6⟩, ho6⟩
end Go.PH
end
section
namespace Go.PH
open Go.RowKit Go.Proofs
def Ya (w : World) (B rb ab : Nat) (kd : UInt8) (is : Bool) (l : List UInt8) (bad : Bool) (e : Ending) (w' : World) : Prop := ∃ (a : Ag) (h : AH) (l' : List UInt8) (bad' : Bool), e = .returned (.tuple #[]) ∧ Box w' ab 80 (agV a h) ∧ RA w' (FN w.heap.size w') a h ∧ MRd w' B rb l' bad' ∧ KP B rb ab w w' ∧ a.is = is ∧
 ∀ (a' : Ag) (rest : List UInt8), bad = false → l = byA kd a' ++ rest → okA kd a' = true → AB a' → a'.is = is → a = a' ∧ l' = rest ∧ bad' = false
theorem Jp (X rest : List UInt8) : (X ++ rest).drop ((X ++ rest).length - rest.length) = rest := by
 rw [List.length_append, Nat.add_sub_cancel, List.drop_left]
theorem YI {w w' : World} {B rb ab : Nat} {is : Bool} {l : List UInt8} {bad : Bool} {e : Ending} (kd : UInt8) (k : Nat) (hk : k = 1 ∨ k = 2 ∨ k = 4) (hby : ∀ a, byA kd a = be k a.n) (hok : ∀ a, okA kd a = true → a.n < 256 ^ k ∧ zI a (agN a) = true)
  (h : OctR w B rb ab (if (bad || (mnum l false (k : Int)).2.2) = true then l else l.drop (l.length - (mnum l false (k : Int)).2.1.length)) (bad || (mnum l false (k : Int)).2.2) #[.bool is, .int .u64 ((mnum l false (k : Int)).1 : Int), .string ⟨#[]⟩, .int .u32 0, .string ⟨#[]⟩, .string ⟨#[]⟩, .slice none 0 0, .int .u8 0, .int .u64 0, .string ⟨#[]⟩, .slice none 0 0, .slice none 0 0] e w') : Ya w B rb ab kd is l bad e w' := by
 obtain ⟨rfl, hb, hm, hK⟩ := h
 refine ⟨⟨is, (mnum l false (k : Int)).1, [], xd0, [], vl0⟩, ah0, _, _, rfl, hb, ?_, hm, hK, rfl, ?_⟩
 ·have hz := RA.zero w' (FN w.heap.size w') is
  exact ⟨qo l false k, hz.s, hz.x, hz.q, hz.ok, hz.c, hz.v⟩
 ·intro a' rest hbad hl hka _ his
  obtain ⟨h1, h2⟩ := hok a' hka
  rw [hby] at hl
  have e1 := qg k (by omega) a'.n h1 rest
  subst hl hbad
  rw [e1]
  have e2 : a' = agN a' := (zJ _ _).1 h2
  have e3 : a'.is = true := by rw [e2]; rfl
  refine ⟨?_, by simp, rfl⟩
  rw [e2]
  simp only [agN]
  rw [← his, e3]
theorem Jq {w w' : World} {B rb ab : Nat} {is : Bool} {l : List UInt8} {bad : Bool} {e : Ending} (kd : UInt8) (k : Nat) (hk : k = 1 ∨ k = 2) (most : Nat) (hms : 256 ^ k ≤ most + 1) (hmx : most ≤ 65535) (hby : ∀ a, byA kd a = zF [] a.s (k : Int)) (hok : ∀ a, okA kd a = true → zw a.s.length (k : Int) = 0 ∧ zI a (agS a) = true)
  (h : OctR w B rb ab (if (bad || (zR l false (k : Int) (most : Int)).2.2) = true then l else l.drop (l.length - (zR l false (k : Int) (most : Int)).2.1.length)) (bad || (zR l false (k : Int) (most : Int)).2.2) #[.bool is, .int .u64 0, .string (str (zR l false (k : Int) (most : Int)).1), .int .u32 0, .string ⟨#[]⟩, .string ⟨#[]⟩, .slice none 0 0, .int .u8 0, .int .u64 0, .string ⟨#[]⟩, .slice none 0 0, .slice none 0 0] e w') : Ya w B rb ab kd is l bad e w' := by
 obtain ⟨rfl, hb, hm, hK⟩ := h
 refine ⟨⟨is, 0, (zR l false (k : Int) (most : Int)).1, xd0, [], vl0⟩, ah0, _, _, rfl, hb, ?_, hm, hK, rfl, ?_⟩
 ·have hz := RA.zero w' (FN w.heap.size w') is
  exact ⟨hz.n, by have := xJ l false k most; show (zR l false (k : Int) (most : Int)).1.length ≤ _; omega, hz.x, hz.q, hz.ok, hz.c, hz.v⟩
 ·intro a' rest hbad hl hka _ his
  obtain ⟨h1, h2⟩ := hok a' hka
  obtain ⟨h3, h4⟩ := vf hk h1
  rw [hby, h4] at hl
  have e1 := qU k (by omega) a'.s rest most h3 (by omega)
  subst hl hbad
  rw [e1]
  have e2 : a' = agS a' := (zJ _ _).1 h2
  have e3 : a'.is = true := by rw [e2]; rfl
  refine ⟨?_, (by rw [if_neg (by simp)]; exact Jp _ _), rfl⟩
  rw [e2]
  simp only [agS]
  rw [← his, e3]
theorem VM {w w' : World} {B rb ab : Nat} {is : Bool} {l : List UInt8} {bad : Bool} {e : Ending} (h : OctR w B rb ab l bad #[.bool is, .int .u64 0, .string ⟨#[]⟩, .int .u32 0, .string ⟨#[]⟩, .string ⟨#[]⟩, .slice none 0 0, .int .u8 0, .int .u64 0, .string ⟨#[]⟩, .slice none 0 0, .slice none 0 0] e w') : Ya w B rb ab 98 is l bad e w' := by
 obtain ⟨rfl, hb, hm, hK⟩ := h
 refine ⟨ag0 is, ah0, _, _, rfl, hb, RA.zero _ _ _, hm, hK, rfl, ?_⟩
 intro a' rest hbad hl hka _ his
 have h2 : zI a' (ag0 a'.is) = true := hka
 have e2 : a' = ag0 a'.is := (zJ _ _).1 h2
 refine ⟨by rw [e2, ← his], ?_, hbad⟩
 rw [hl]
 rfl
theorem Jr {w w' : World} {B rb ab : Nat} {is : Bool} {l : List UInt8} {bad : Bool} {e : Ending} (x : Vl) (n : Nat) (er : Int) (hg : vget l = (x, n, er)) (h1 : VH)
  (h : OctR w B rb ab (if (bad || decide (er ≠ 0)) = true then l else l.drop n) (bad || decide (er ≠ 0)) #[.bool is, .int .u64 0, .string ⟨#[]⟩, .int .u32 0, .string ⟨#[]⟩, .string ⟨#[]⟩, .slice none 0 0, .int .u8 (x.kind : Int), .int .u64 (x.n : Int), .string (str x.s), .slice h1.A1 x.keys.length h1.c1, .slice h1.A2 x.list.length h1.c2] e w') (hv : RV w' (FN w.heap.size w') x h1) : Ya w B rb ab 118 is l bad e w' := by
 obtain ⟨rfl, hb, hm, hK⟩ := h
 refine ⟨⟨is, 0, [], xd0, [], x⟩, ⟨none, 0, h1⟩, _, _, rfl, hb, ?_, hm, hK, rfl, ?_⟩
 ·have hz := RA.zero w' (FN w.heap.size w') is
  exact ⟨hz.n, hz.s, hz.x, hz.q, hz.ok, hz.c, hv⟩
 ·intro a' rest hbad hl hka hab his
  have h2 : (decide (errV a'.v = 0) && zI a' (agX2 a')) = true := hka
  rw [Bool.and_eq_true, decide_eq_true_eq] at h2
  obtain ⟨h3, h4⟩ := h2
  have e2 : a' = agX2 a' := (zJ _ _).1 h4
  have e3 : a'.is = true := by rw [e2]; rfl
  have hl' : l = vlB a'.v ++ rest := by
   rw [hl]
   show vlP a'.v ++ rest = _
   rw [vlP, if_pos h3]
  rw [hl', VU hab.v h3] at hg
  injection hg with g1 g2
  injection g2 with g2 g3
  subst g1 g2 g3 hbad
  refine ⟨?_, ?_, rfl⟩
  ·rw [e2]
   simp only [agX2]
   rw [← his, e3]
  ·rw [if_neg (by simp), hl', List.drop_left]
theorem VN (l : List UInt8) : (getR l).1.wf := by
 have h0 : xd00.wf := ⟨by decide, by decide, by decide⟩
 unfold getR
 split
 ·exact h0
 ·split
  ·refine ⟨Nat.mod_lt _ (by decide), ?_, ?_⟩
   ·have := xJ (mnum l false 4).2.1 (mnum l false 4).2.2 1 255
    exact Nat.le_trans this (by decide)
   ·have := xJ (getT (mnum l false 4).2.1 (mnum l false 4).2.2).2.1 (getT (mnum l false 4).2.1 (mnum l false 4).2.2).2.2 1 255
    exact Nat.le_trans this (by decide)
  ·exact h0
theorem Kv {w w' : World} {B rb ab : Nat} {is : Bool} {l : List UInt8} {bad : Bool} {e : Ending} (x : Xd) (n er : Nat) (hg : getR l = (x, n, er))
  (h : OctR w B rb ab (if (bad || decide (er ≠ 0)) = true then l else l.drop n) (bad || decide (er ≠ 0)) #[.bool is, .int .u64 0, .string ⟨#[]⟩, .int .u32 (x.fmt : Int), .string (str x.glob), .string (str x.bran), .slice none 0 0, .int .u8 0, .int .u64 0, .string ⟨#[]⟩, .slice none 0 0, .slice none 0 0] e w') : Ya w B rb ab 120 is l bad e w' := by
 obtain ⟨rfl, hb, hm, hK⟩ := h
 have hwf := VN l
 rw [hg] at hwf
 refine ⟨⟨is, 0, [], x, [], vl0⟩, ah0, _, _, rfl, hb, ?_, hm, hK, rfl, ?_⟩
 ·have hz := RA.zero w' (FN w.heap.size w') is
  exact ⟨hz.n, hz.s, hwf, hz.q, hz.ok, hz.c, hz.v⟩
 ·intro a' rest hbad hl hka hab his
  have h2 : (decide (((a'.x.err : Nat) : Int) = 0) && zI a' (agX a')) = true := hka
  rw [Bool.and_eq_true, decide_eq_true_eq] at h2
  obtain ⟨h3, h4⟩ := h2
  have e2 : a' = agX a' := (zJ _ _).1 h4
  have e3 : a'.is = true := by rw [e2]; rfl
  have hok : a'.x.ok = true := by
   cases hk : a'.x.ok
   ·simp [Xd.err, hk] at h3
   ·rfl
  have hl' : l = a'.x.bytes ++ rest := by
   rw [hl]
   show a'.x.put ++ rest = _
   rw [Xd.put_ok hok]
  rw [hl', XX hab.x hok] at hg
  injection hg with g1 g2
  injection g2 with g2 g3
  subst g1 g2 g3 hbad
  refine ⟨?_, ?_, rfl⟩
  ·rw [e2]
   simp only [agX]
   rw [← his, e3]
  ·rw [if_neg (by simp), hl', List.drop_left]
end Go.PH
end
section
namespace Go.PH
open Go.RowKit Go.Proofs
theorem Jo (b : List UInt8) : spOK 4294967296 (xG b) := by
 unfold xG
 split
 ·exact vd _ _
 ·intro z hz; cases hz
theorem VL {w w' : World} {B rb ab : Nat} {is : Bool} {l : List UInt8} {bad : Bool} {e : Ending} (A2 : Option Addr) (c2 : Nat)
  (h : OctR w B rb ab (if (bad || decide (zL l ≠ 0)) = true then l else l.drop (qn l)) (bad || decide (zL l ≠ 0)) #[.bool is, .int .u64 0, .string ⟨#[]⟩, .int .u32 0, .string ⟨#[]⟩, .string ⟨#[]⟩, .slice A2 (xG l).length c2, .int .u8 0, .int .u64 0, .string ⟨#[]⟩, .slice none 0 0, .slice none 0 0] e w') (ho : OwnS w' w.heap.size A2 (xG l).length c2 (xG l)) (hlen : (xG l).length ≤ 140737488351232) : Ya w B rb ab 114 is l bad e w' := by
 obtain ⟨rfl, hb, hm, hK⟩ := h
 refine ⟨⟨is, 0, [], xd0, xG l, vl0⟩, ⟨A2, c2, ⟨none, 0, none, 0⟩⟩, _, _, rfl, hb, ?_, hm, hK, rfl, ?_⟩
 ·have hz := RA.zero w' (FN w.heap.size w') is
  refine ⟨hz.n, hz.s, hz.x, RdX.of_own ho (fun g hg => ?_), Jo l, hlen, hz.v⟩
  have := ho.blk_lt hg
  exact ⟨this.1, this.2⟩
 ·intro a' rest hbad hl hka hab his
  have h2 : (decide (((yd a'.q : Nat) : Int) = 0) && zI a' (agQ a')) = true := hka
  rw [Bool.and_eq_true, decide_eq_true_eq] at h2
  obtain ⟨h3, h4⟩ := h2
  have e2 : a' = agQ a' := (zJ _ _).1 h4
  have e3 : a'.is = true := by rw [e2]; rfl
  have hl' : l = yQ a'.q ++ rest := hl
  have hrl : zN a'.q = true ∧ a'.q.length ≤ 1000 := by
   unfold yd at h3
   split at h3
   ·rename_i hr
    split at h3
    ·exact ⟨hr, by omega⟩
    ·omega
   ·omega
  obtain ⟨g1, g2, g3⟩ := V1 rest hrl.1 hrl.2 hab.q
  rw [← hl'] at g1 g2 g3
  subst hbad
  rw [g1, g2, g3]
  refine ⟨?_, ?_, rfl⟩
  ·rw [e2]
   simp only [agQ]
   rw [← his, e3]
  ·rw [if_neg (by simp), hl', List.drop_left]
end Go.PH
end
section
namespace Go.PH
open Go.RowKit Go.Proofs
def rdFn (kd : UInt8) : FuncId :=
 if kd = 98 then 127 else if kd = 110 then 128 else if kd = 119 then 129 else if kd = 100 then 130
 else if kd = 115 then 131 else if kd = 116 then 132 else if kd = 120 then 133 else if kd = 114 then 134 else 135
theorem Jn {a : Ag} {k : Nat} (h : (decide (a.n < k) && zI a (agN a)) = true) : a.n < k ∧ zI a (agN a) = true := by
 rw [Bool.and_eq_true, decide_eq_true_eq] at h; exact h
theorem K0 {a : Ag} {k : Int} (h : (decide (zw a.s.length k = 0) && zI a (agS a)) = true) : zw a.s.length k = 0 ∧ zI a (agS a) = true := by
 rw [Bool.and_eq_true, decide_eq_true_eq] at h; exact h
theorem VK (kd : UInt8) (hk : kd ∈ jO) {w : World} {B rb ab : Nat} {l : List UInt8} {bad : Bool} (is : Bool) (h : MRd w B rb l bad) (hB : B ≤ rb) (ha : Box w ab 80 #[.bool is, .int .u64 0, .string ⟨#[]⟩, .int .u32 0, .string ⟨#[]⟩, .string ⟨#[]⟩, .slice none 0 0, .int .u8 0, .int .u64 0, .string ⟨#[]⟩, .slice none 0 0, .slice none 0 0]) (hab : B ≤ ab) (hne : ab ≠ rb) (hT : UTabs w) :
  Calls Tryz.prog (rdFn kd) #[.pointer (some ⟨rb, 0, none⟩), .pointer (some ⟨ab, 0, none⟩)] w (Ya w B rb ab kd is l bad) := by
 unfold jO at hk
 simp only [List.mem_cons, List.not_mem_nil, or_false] at hk
 rcases hk with rfl | rfl | rfl | rfl | rfl | rfl | rfl | rfl | rfl
 ·exact (VP h ha).mono fun e w' hh => VM hh
 ·exact (KA is h hB ha hab hne _ rfl (xp _ _ _)).mono fun e w' hh => YI 110 1 (.inl rfl) (fun a => rfl) (fun a h => Jn h) hh
 ·exact (KC is h hB ha hab hne _ rfl (xp _ _ _)).mono fun e w' hh => YI 119 2 (.inr (.inl rfl)) (fun a => rfl) (fun a h => Jn h) hh
 ·exact (KD is h hB ha hab hne _ rfl (xp _ _ _)).mono fun e w' hh => YI 100 4 (.inr (.inr rfl)) (fun a => rfl) (fun a h => Jn h) hh
 ·exact (Jt is h hB ha hab hne _ rfl (qI _ _ _ _)).mono fun e w' hh => Jq 115 1 (.inl rfl) 255 (by decide) (by decide) (fun a => rfl) (fun a h => K0 h) hh
 ·exact (KE is h hB ha hab hne _ rfl (qI _ _ _ _)).mono fun e w' hh => Jq 116 2 (.inr rfl) 65535 (by decide) (by decide) (fun a => rfl) (fun a h => K0 h) hh
 ·exact (Kz is h hB ha hab hne (getR l).1 (getR l).2.1 (getR l).2.2 rfl).mono fun e w' hh => Kv _ _ _ rfl hh
 ·exact (VO is h hB ha hab hne).mono fun e w' ⟨A2, c2, hh, ho⟩ => VL A2 c2 hh ho (by
   unfold xG
   split
   ·rw [j3]
    have hN : getN l < 65536 := qm
    omega
   ·simp)
 ·exact (Js is h hB ha hab hne hT (vget l).1 (vget l).2.1 (vget l).2.2 rfl).mono fun e w' ⟨h1, hh, hv⟩ => Jr _ _ _ rfl h1 hh hv
end Go.PH
end
section
namespace Go.PH
open Go.RowKit Go.Proofs
theorem YH (w : World) : Calls Tryz.prog 109 #[] w fun e w' => ∃ mb, e = .returned (.map (some mb)) ∧ Below w.heap.size w w' ∧ w.heap.size ≤ mb ∧ mb < w'.heap.size ∧ ∀ W : World, W.heap[mb]? = w'.heap[mb]? → ∀ kd ∈ jO, (Instr.lookup 195 (.map (some mb)) (.int .u8 (kd.toNat : Int)) false).run Tryz.prog W = .ok (.func (.func (rdFn kd)) #[] #[]) W := by
 have hmk := fun W => run_makeMap (P := Tryz.prog) 195 W
 have hmap := World.ownsMap_made w Tryz.prog 5 rawV
 have hB := (Below.refl w.heap.size w).alloc (Nat.le_refl _) (.map #[] 0)
 go_enter Tryz.func109, Tryz.ntmps109
 go_wp2_with (with_reducible refine h_M ?_)
 obtain ⟨mb, hmb⟩ : ∃ m, m = w.heap.size := ⟨_, rfl⟩
 rw [← hmb] at hmap ⊢
 have hmw : w.heap.size ≤ mb := by omega
 clear hmb hmk
 generalize (w.alloc (.map #[] 0)) = v1 at *
 refine zc (ze (H := Value) _ rfl _ _ _ 195 rfl 5 197 zl Tryz.underlying195 rawV _ _ _ rfl hmap (by simp [maxLen]) _ _ (.int .u8 98) rfl rfl (Maps.keyOf_int_mk Tryz.underlying5 (by decide)) _ [] rfl ?_)
 intro v2 hmap2 hgm
 have hB2 := hB.grown hgm hB.size (fun g hg => by injection hg with hg; omega)
 clear hmap hgm hB
 have hmap := hmap2
 have hB := hB2
 clear hmap2 hB2
 generalize v2 = v1 at *
 go_wp2_with (with_reducible refine h_M ?_)
 refine zc (ze (H := Value) _ rfl _ _ _ 195 rfl 5 197 zl Tryz.underlying195 rawV _ _ _ rfl hmap (by simp [maxLen]) _ _ (.int .u8 110) rfl rfl (Maps.keyOf_int_mk Tryz.underlying5 (by decide)) _ [] rfl ?_)
 intro v2 hmap2 hgm
 have hB2 := hB.grown hgm hB.size (fun g hg => by injection hg with hg; omega)
 clear hmap hgm hB
 have hmap := hmap2
 have hB := hB2
 clear hmap2 hB2
 generalize v2 = v1 at *
 go_wp2_with (with_reducible refine h_M ?_)
 refine zc (ze (H := Value) _ rfl _ _ _ 195 rfl 5 197 zl Tryz.underlying195 rawV _ _ _ rfl hmap (by simp [maxLen]) _ _ (.int .u8 119) rfl rfl (Maps.keyOf_int_mk Tryz.underlying5 (by decide)) _ [] rfl ?_)
 intro v2 hmap2 hgm
 have hB2 := hB.grown hgm hB.size (fun g hg => by injection hg with hg; omega)
 clear hmap hgm hB
 have hmap := hmap2
 have hB := hB2
 clear hmap2 hB2
 generalize v2 = v1 at *
 go_wp2_with (with_reducible refine h_M ?_)
 refine zc (ze (H := Value) _ rfl _ _ _ 195 rfl 5 197 zl Tryz.underlying195 rawV _ _ _ rfl hmap (by simp [maxLen]) _ _ (.int .u8 100) rfl rfl (Maps.keyOf_int_mk Tryz.underlying5 (by decide)) _ [] rfl ?_)
 intro v2 hmap2 hgm
 have hB2 := hB.grown hgm hB.size (fun g hg => by injection hg with hg; omega)
 clear hmap hgm hB
 have hmap := hmap2
 have hB := hB2
 clear hmap2 hB2
 generalize v2 = v1 at *
 go_wp2_with (with_reducible refine h_M ?_)
 refine zc (ze (H := Value) _ rfl _ _ _ 195 rfl 5 197 zl Tryz.underlying195 rawV _ _ _ rfl hmap (by simp [maxLen]) _ _ (.int .u8 115) rfl rfl (Maps.keyOf_int_mk Tryz.underlying5 (by decide)) _ [] rfl ?_)
 intro v2 hmap2 hgm
 have hB2 := hB.grown hgm hB.size (fun g hg => by injection hg with hg; omega)
 clear hmap hgm hB
 have hmap := hmap2
 have hB := hB2
 clear hmap2 hB2
 generalize v2 = v1 at *
 go_wp2_with (with_reducible refine h_M ?_)
 refine zc (ze (H := Value) _ rfl _ _ _ 195 rfl 5 197 zl Tryz.underlying195 rawV _ _ _ rfl hmap (by simp [maxLen]) _ _ (.int .u8 116) rfl rfl (Maps.keyOf_int_mk Tryz.underlying5 (by decide)) _ [] rfl ?_)
 intro v2 hmap2 hgm
 have hB2 := hB.grown hgm hB.size (fun g hg => by injection hg with hg; omega)
 clear hmap hgm hB
 have hmap := hmap2
 have hB := hB2
 clear hmap2 hB2
 generalize v2 = v1 at *
 go_wp2_with (with_reducible refine h_M ?_)
 refine zc (ze (H := Value) _ rfl _ _ _ 195 rfl 5 197 zl Tryz.underlying195 rawV _ _ _ rfl hmap (by simp [maxLen]) _ _ (.int .u8 120) rfl rfl (Maps.keyOf_int_mk Tryz.underlying5 (by decide)) _ [] rfl ?_)
 intro v2 hmap2 hgm
 have hB2 := hB.grown hgm hB.size (fun g hg => by injection hg with hg; omega)
 clear hmap hgm hB
 have hmap := hmap2
 have hB := hB2
 clear hmap2 hB2
 generalize v2 = v1 at *
 go_wp2_with (with_reducible refine h_M ?_)
 refine zc (ze (H := Value) _ rfl _ _ _ 195 rfl 5 197 zl Tryz.underlying195 rawV _ _ _ rfl hmap (by simp [maxLen]) _ _ (.int .u8 114) rfl rfl (Maps.keyOf_int_mk Tryz.underlying5 (by decide)) _ [] rfl ?_)
 intro v2 hmap2 hgm
 have hB2 := hB.grown hgm hB.size (fun g hg => by injection hg with hg; omega)
 clear hmap hgm hB
 have hmap := hmap2
 have hB := hB2
 clear hmap2 hB2
 generalize v2 = v1 at *
 go_wp2_with (with_reducible refine h_M ?_)
 refine zc (ze (H := Value) _ rfl _ _ _ 195 rfl 5 197 zl Tryz.underlying195 rawV _ _ _ rfl hmap (by simp [maxLen]) _ _ (.int .u8 118) rfl rfl (Maps.keyOf_int_mk Tryz.underlying5 (by decide)) _ [] rfl ?_)
 intro v2 hmap2 hgm
 have hB2 := hB.grown hgm hB.size (fun g hg => by injection hg with hg; omega)
 clear hmap hgm hB
 have hmap := hmap2
 have hB := hB2
 clear hmap2 hB2
 generalize v2 = v1 at *
 go_wp2_with (with_reducible refine h_M ?_)
 go_ret
 refine ⟨mb, rfl, hB, hmw, ?_, fun W hW kd hk => ?_⟩
 ·obtain ⟨es, clock, hb, _⟩ := hmap
  exact (Array.getElem?_eq_some_iff.1 hb).1
 obtain ⟨es, clock, hb, F, hx, hy⟩ := hmap
 have hmapW : W.ownsMap Tryz.prog 5 rawV mb _ _ := ⟨es, clock, hW.trans hb, F, hx, hy⟩
 unfold jO at hk
 simp only [List.mem_cons, List.not_mem_nil, or_false] at hk
 rcases hk with rfl | rfl | rfl | rfl | rfl | rfl | rfl | rfl | rfl
 ·obtain ⟨v, ps, hrun, hv⟩ := hmapW.lookup (t := 195) zl Tryz.underlying195 (z := .nilFunc) (by kernel_rfl) (zd := .held .nilFunc) (zp := []) rfl (key := .int .u8 98) (kl := .int .u8 98) (Maps.keyOf_int_mk Tryz.underlying5 (by decide))
  have h2 := congrArg Prod.fst (Option.some.inj hv)
  have h3 : DataW.held v = DataW.held (.func (.func 127) #[] #[]) := h2.trans (by kernel_rfl)
  have h4 : v = .func (.func 127) #[] #[] := by injection h3
  rw [h4] at hrun
  exact hrun
 ·obtain ⟨v, ps, hrun, hv⟩ := hmapW.lookup (t := 195) zl Tryz.underlying195 (z := .nilFunc) (by kernel_rfl) (zd := .held .nilFunc) (zp := []) rfl (key := .int .u8 110) (kl := .int .u8 110) (Maps.keyOf_int_mk Tryz.underlying5 (by decide))
  have h2 := congrArg Prod.fst (Option.some.inj hv)
  have h3 : DataW.held v = DataW.held (.func (.func 128) #[] #[]) := h2.trans (by kernel_rfl)
  have h4 : v = .func (.func 128) #[] #[] := by injection h3
  rw [h4] at hrun
  exact hrun
 ·obtain ⟨v, ps, hrun, hv⟩ := hmapW.lookup (t := 195) zl Tryz.underlying195 (z := .nilFunc) (by kernel_rfl) (zd := .held .nilFunc) (zp := []) rfl (key := .int .u8 119) (kl := .int .u8 119) (Maps.keyOf_int_mk Tryz.underlying5 (by decide))
  have h2 := congrArg Prod.fst (Option.some.inj hv)
  have h3 : DataW.held v = DataW.held (.func (.func 129) #[] #[]) := h2.trans (by kernel_rfl)
  have h4 : v = .func (.func 129) #[] #[] := by injection h3
  rw [h4] at hrun
  exact hrun
 ·obtain ⟨v, ps, hrun, hv⟩ := hmapW.lookup (t := 195) zl Tryz.underlying195 (z := .nilFunc) (by kernel_rfl) (zd := .held .nilFunc) (zp := []) rfl (key := .int .u8 100) (kl := .int .u8 100) (Maps.keyOf_int_mk Tryz.underlying5 (by decide))
  have h2 := congrArg Prod.fst (Option.some.inj hv)
  have h3 : DataW.held v = DataW.held (.func (.func 130) #[] #[]) := h2.trans (by kernel_rfl)
  have h4 : v = .func (.func 130) #[] #[] := by injection h3
  rw [h4] at hrun
  exact hrun
 ·obtain ⟨v, ps, hrun, hv⟩ := hmapW.lookup (t := 195) zl Tryz.underlying195 (z := .nilFunc) (by kernel_rfl) (zd := .held .nilFunc) (zp := []) rfl (key := .int .u8 115) (kl := .int .u8 115) (Maps.keyOf_int_mk Tryz.underlying5 (by decide))
  have h2 := congrArg Prod.fst (Option.some.inj hv)
  have h3 : DataW.held v = DataW.held (.func (.func 131) #[] #[]) := h2.trans (by kernel_rfl)
  have h4 : v = .func (.func 131) #[] #[] := by injection h3
  rw [h4] at hrun
  exact hrun
 ·obtain ⟨v, ps, hrun, hv⟩ := hmapW.lookup (t := 195) zl Tryz.underlying195 (z := .nilFunc) (by kernel_rfl) (zd := .held .nilFunc) (zp := []) rfl (key := .int .u8 116) (kl := .int .u8 116) (Maps.keyOf_int_mk Tryz.underlying5 (by decide))
  have h2 := congrArg Prod.fst (Option.some.inj hv)
  have h3 : DataW.held v = DataW.held (.func (.func 132) #[] #[]) := h2.trans (by kernel_rfl)
  have h4 : v = .func (.func 132) #[] #[] := by injection h3
  rw [h4] at hrun
  exact hrun
 ·obtain ⟨v, ps, hrun, hv⟩ := hmapW.lookup (t := 195) zl Tryz.underlying195 (z := .nilFunc) (by kernel_rfl) (zd := .held .nilFunc) (zp := []) rfl (key := .int .u8 120) (kl := .int .u8 120) (Maps.keyOf_int_mk Tryz.underlying5 (by decide))
  have h2 := congrArg Prod.fst (Option.some.inj hv)
  have h3 : DataW.held v = DataW.held (.func (.func 133) #[] #[]) := h2.trans (by kernel_rfl)
  have h4 : v = .func (.func 133) #[] #[] := by injection h3
  rw [h4] at hrun
  exact hrun
 ·obtain ⟨v, ps, hrun, hv⟩ := hmapW.lookup (t := 195) zl Tryz.underlying195 (z := .nilFunc) (by kernel_rfl) (zd := .held .nilFunc) (zp := []) rfl (key := .int .u8 114) (kl := .int .u8 114) (Maps.keyOf_int_mk Tryz.underlying5 (by decide))
  have h2 := congrArg Prod.fst (Option.some.inj hv)
  have h3 : DataW.held v = DataW.held (.func (.func 134) #[] #[]) := h2.trans (by kernel_rfl)
  have h4 : v = .func (.func 134) #[] #[] := by injection h3
  rw [h4] at hrun
  exact hrun
 ·obtain ⟨v, ps, hrun, hv⟩ := hmapW.lookup (t := 195) zl Tryz.underlying195 (z := .nilFunc) (by kernel_rfl) (zd := .held .nilFunc) (zp := []) rfl (key := .int .u8 118) (kl := .int .u8 118) (Maps.keyOf_int_mk Tryz.underlying5 (by decide))
  have h2 := congrArg Prod.fst (Option.some.inj hv)
  have h3 : DataW.held v = DataW.held (.func (.func 135) #[] #[]) := h2.trans (by kernel_rfl)
  have h4 : v = .func (.func 135) #[] #[] := by injection h3
  rw [h4] at hrun
  exact hrun
end Go.PH
end

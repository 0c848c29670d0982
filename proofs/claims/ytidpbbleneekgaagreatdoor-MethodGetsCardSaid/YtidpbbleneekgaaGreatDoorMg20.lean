/- Texts laid together: VlReadR. -/
import Derived.Deep.CutRange
import Derived.Deep.CutBlock
import Derived.Test.YtidpbbleneekgaaGreatDoorMg01
import Derived.Test.YtidpbbleneekgaaGreatDoorMg03
import Derived.Test.YtidpbbleneekgaaGreatDoorMg18
set_option linter.all false
set_option linter.unusedSimpArgs false
set_option linter.unusedVariables false
section
/- A value off bytes: the walk of the document's read. -/
namespace Go.PH
open Go.RowKit Go.Proofs

def txC (s : List UInt8) : List Value := [txV s]
theorem txShape : RecShape txC 1 where
 len _ := rfl
 one a u hu := by simp [txC] at hu; subst hu; rfl
 pos := by omega
theorem rowC_tx (l : List (List UInt8)) : rowC txC l = l.map txV := by
 induction l with
 | nil => rfl
 | cons x l ih => rw [rowC_cons, ih]; rfl
/-- what the document's reader answers: some value; the one that the program's reader reads, if it reads one -/
def RReadR (w : World) (F : Nat → Prop) (B b n : Nat) (r : Option (Vl × List UInt8 × Nat)) (e : Ending) (w' : World) : Prop :=
 ∃ (x : Vl) (h : VH) (m : Int) (ok : Bool) (l2 : List UInt8) (bad2 : Bool), e = .returned (.tuple #[.agg (vlV x h), .int .i64 m, .bool ok]) ∧ RV w' (FN w.heap.size w') x h ∧ Qrd F w' b l2 bad2 ∧ KP B b b w w' ∧ -1 ≤ m ∧ m < (n : Int) ∧ (ok = true → 0 ≤ m) ∧
  ∀ q, r = some q → x = q.1 ∧ l2 = q.2.1 ∧ m = (q.2.2 : Int) ∧ ok = true ∧ bad2 = false
def RReadC (f : Nat) : Prop := ∀ (d n : Nat) (F : Nat → Prop) (B b : Nat) (l : List UInt8) (bad : Bool) (w : World), d + f = 7 → Qrd F w b l bad → (∀ g, F g → B ≤ g ∧ g < w.heap.size) → n ≤ 200 →
  Calls Tryz.prog 95 #[.pointer (some ⟨b, 0, none⟩), .int .i64 (d : Int), .int .i64 (n : Int)] w (RReadR w F B b n (vreadB f n l bad))
/-- what holds behind the switch -/
def RMid (F : Nat → Prop) (B b n rb xb : Nat) (w : World) (r : Option (Vl × List UInt8 × Nat)) (s2 : Value) (wx : World) : Prop :=
 ∃ (x : Vl) (h : VH) (m : Nat) (l2 : List UInt8) (bad2 : Bool), s2 = .int .i64 (m : Int) ∧ Box wx xb 50 (vlV x h) ∧ RV wx (FN (xb + 1) wx) x h ∧ Qrd F wx b l2 bad2 ∧ KP B b b w wx ∧ Box wx rb 50 #[.int .u8 0, .int .u64 0, .string ⟨#[]⟩, .slice none 0 0, .slice none 0 0] ∧ m < n ∧
  Hid (∀ q, r = some q → x = q.1 ∧ l2 = q.2.1 ∧ m = q.2.2 ∧ bad2 = false)
theorem vl_one (x : Vl) (h : VH) : ∀ u ∈ [Value.int .u8 (x.kind : Int), .int .u64 (x.n : Int), .string (str x.s), .slice h.A1 x.keys.length h.c1, .slice h.A2 x.list.length h.c2], u.oneCell' = true := by
 intro u hu; simp at hu; rcases hu with rfl | rfl | rfl | rfl | rfl <;> rfl
set_option maxRecDepth 20000 in
set_option maxHeartbeats 16000000 in
theorem rread_zero : RReadC 0 := by
 intro d n F B b l bad w hdf hr hF hn
 have hb := hr.inF
 have hbB := hF b hb
 have hbw := hbB.2
 have hBw : B ≤ w.heap.size := by omega
 obtain ⟨rr, hrr⟩ : ∃ q, q = vreadB 0 n l bad := ⟨_, rfl⟩
 rw [← hrr]
 have HRR := Lib.hid hrr
 clear hrr
 have hk1 := mnum1_lt l bad
 obtain ⟨q1, hq1⟩ : ∃ q, q = mnum l bad 1 := ⟨_, rfl⟩
 rw [← hq1] at hk1
 obtain ⟨k, l1, b1⟩ := q1
 simp only at hk1
 have HQ1 := Lib.hid hq1
 clear hq1
 obtain ⟨rb, w1, hrb, hrv, hRB, hB1⟩ := alloc_stepV w #[.int .u8 0, .int .u64 0, .string ⟨#[]⟩, .slice none 0 0, .slice none 0 0] 50
 have hr1 := hr.below hB1
 have hKP1 := (KP.refl B b b w).below hBw hB1
 go_enter Tryz.func95, Tryz.ntmps95
 go_upto_region 1 with fail
 rw [← hrb, ← hrv]
 have hrw : w.heap.size ≤ rb := by omega
 clear hrb hrv hr hB1
 have h1 := qnum_any hr1 1 (by omega) (by omega)
 rw [← HQ1.out] at h1
 go_wp2_with (with_reducible refine h_A ?_)
 refine h1.mono ?_
 rintro e w3 ⟨rfl, hr3, hg3⟩
 have hRB3 := hRB.grown hg3 (sne (by omega))
 have hKP3 := hKP1.grown hBw hg3 (fun g hg => by injection hg with hg; subst hg; exact ⟨hbB.1, .inl rfl⟩)
 clear h1 hr1 hKP1 hRB hg3
 try simp only at hr3
 obtain ⟨xb, w4, hxb, hxv, hX, hB4⟩ := alloc_stepV w3 #[.int .u8 (k : Int), .int .u64 0, .string ⟨#[]⟩, .slice none 0 0, .slice none 0 0] 50
 have hR := hr3.below hB4
 have hRBl := hRB3.lt
 have hRBx := hRB3.below hB4
 have hKP := hKP3.below hBw hB4
 have hrx : rb < xb := by omega
 have hxw : w.heap.size ≤ xb := by omega
 go_upto_region 3 with fail
 rw [← hxb, ← hxv]
 clear hxb hxv hB4 hRB3 hr3 hKP3 hRBl
 have HR0 : Hid (rr = none) := Lib.hid (by rw [HRR.out, vreadB_bad _ _ _ _ (.inr (.inr rfl))])
 obtain rfl : d = 7 := by omega
 have c0 := hX.c0
 have c1 := hX.c1
 have c2 := hX.c2
 have c3 := hX.c3
 have c4 := hX.c4
 by_cases h0 : n = 0
 ·have g0 : (n : Int) - 1 < 0 := by omega
  clear h0
  go_wp2_with (with_reducible refine h_B ?_)
  refine unhold (wp_box (v := .agg #[.int .u8 (k : Int), .int .u64 0, .string ⟨#[]⟩, .slice none 0 0, .slice none 0 0]) (vs := [.int .u8 (k : Int), .int .u64 0, .string ⟨#[]⟩, .slice none 0 0, .slice none 0 0]) rfl rfl rfl rfl hRBx rfl (by kernel_rfl) (by simp) (by intro u hu; simp at hu; rcases hu with rfl | rfl | rfl | rfl <;> rfl) #[.int .u8 (k : Int), .int .u64 0, .string ⟨#[]⟩, .slice none 0 0, .slice none 0 0] (by simp) ?_)
  intro w8 hRB8 hg8 _
  have hR8 := hR.kept hg8 (fun g hg hFg => by injection hg with hg; have := hF g hFg; omega)
  have hKP8 := hKP.grown hBw hg8 (fun g hg => by injection hg with hg; exact ⟨by omega, .inr (.inr (by omega))⟩)
  go_wp2_with (with_reducible refine h_A ?_)
  refine ret_box_tmp2x rfl hRB8 rfl rfl rfl Tryz.underlying50 rfl (by kernel_rfl) rfl ?_
  rw [HR0.out]
  exact ⟨.mk k 0 [] [] [], ⟨none, 0, none, 0⟩, (n : Int) - 1, false, l1, b1, rfl, RV.leaf _ _ _ _ _ (by omega) (by omega) (by simp), hR8, hKP8, by omega, by omega, (fun h => by cases h), fun q hq => by cases hq⟩
 ·have g0 : ¬ (n : Int) - 1 < 0 := by omega
  clear h0
  go_wp2_with (with_reducible refine h_B ?_)
  refine unhold (wp_box (v := .agg #[.int .u8 (k : Int), .int .u64 0, .string ⟨#[]⟩, .slice none 0 0, .slice none 0 0]) (vs := [.int .u8 (k : Int), .int .u64 0, .string ⟨#[]⟩, .slice none 0 0, .slice none 0 0]) rfl rfl rfl rfl hRBx rfl (by kernel_rfl) (by simp) (by intro u hu; simp at hu; rcases hu with rfl | rfl | rfl | rfl <;> rfl) #[.int .u8 (k : Int), .int .u64 0, .string ⟨#[]⟩, .slice none 0 0, .slice none 0 0] (by simp) ?_)
  intro w8 hRB8 hg8 _
  have hR8 := hR.kept hg8 (fun g hg hFg => by injection hg with hg; have := hF g hFg; omega)
  have hKP8 := hKP.grown hBw hg8 (fun g hg => by injection hg with hg; exact ⟨by omega, .inr (.inr (by omega))⟩)
  go_wp2_with (with_reducible refine h_A ?_)
  refine ret_box_tmp2x rfl hRB8 rfl rfl rfl Tryz.underlying50 rfl (by kernel_rfl) rfl ?_
  rw [HR0.out]
  exact ⟨.mk k 0 [] [] [], ⟨none, 0, none, 0⟩, (n : Int) - 1, false, l1, b1, rfl, RV.leaf _ _ _ _ _ (by omega) (by omega) (by simp), hR8, hKP8, by omega, by omega, (fun h => by cases h), fun q hq => by cases hq⟩
theorem vloop_step {rd : Nat → List UInt8 → Option (Vl × List UInt8 × Nat)} {m : Bool} {c n : Nat} {l : List UInt8} {p : List (List UInt8) × List Vl × List UInt8 × Nat} (h : vloop rd m (c + 1) n l = some p) :
  (m = true → (mtext l false 1 255).2.2 = false) ∧ ∃ r, rd n (if m then (mtext l false 1 255).2.1 else l) = some r ∧ ∃ q, vloop rd m c r.2.2 r.2.1 = some q ∧ p = (if m then (mtext l false 1 255).1 :: q.1 else q.1, r.1 :: q.2.1, q.2.2) := by
 have hb : m = true → (mtext l false 1 255).2.2 = false := fun hm => by
  subst hm
  cases hb : (mtext l false 1 255).2.2
  ·rfl
  ·rw [vloop_bad hb] at h; cases h
 refine ⟨hb, ?_⟩
 cases hr : rd n (if m then (mtext l false 1 255).2.1 else l) with
 | none => rw [vloop_none hr] at h; cases h
 | some r =>
  rw [vloop_some hb hr] at h
  obtain ⟨q, h1, h2⟩ := Option.map_eq_some_iff.1 h
  exact ⟨r, rfl, q, h1, h2.symm⟩
theorem vreadB_some {f n : Nat} {l : List UInt8} {bad : Bool} {q : Vl × List UInt8 × Nat} (h : vreadB (f + 1) n l bad = some q) {k : Nat} {l1 : List UInt8} {b1 : Bool} (hq : (k, l1, b1) = mnum l bad 1) : bad = false ∧ b1 = false := by
 unfold vreadB at h
 cases bad
 ·rw [if_neg (by decide), vread] at h
  refine ⟨rfl, ?_⟩
  split at h
  ·cases h
  ·rename_i hno
   rw [← hq] at hno
   cases b1
   ·rfl
   ·exact absurd (.inr rfl) hno
 ·rw [if_pos rfl] at h; cases h
set_option maxRecDepth 20000 in
set_option maxHeartbeats 16000000 in
theorem rread_succ (f : Nat) (hrec : RReadC f) : RReadC (f + 1) := by
 intro d n F B b l bad w hdf hr hF hn
 have hb := hr.inF
 have hbB := hF b hb
 have hbw := hbB.2
 have hBw : B ≤ w.heap.size := by omega
 obtain ⟨rr, hrr⟩ : ∃ q, q = vreadB (f + 1) n l bad := ⟨_, rfl⟩
 rw [← hrr]
 have HRR := Lib.hid hrr
 clear hrr
 have hk1 := mnum1_lt l bad
 obtain ⟨q1, hq1⟩ : ∃ q, q = mnum l bad 1 := ⟨_, rfl⟩
 rw [← hq1] at hk1
 obtain ⟨k, l1, b1⟩ := q1
 simp only at hk1
 have HQ1 := Lib.hid hq1
 clear hq1
 obtain ⟨rb, w1, hrb, hrv, hRB, hB1⟩ := alloc_stepV w #[.int .u8 0, .int .u64 0, .string ⟨#[]⟩, .slice none 0 0, .slice none 0 0] 50
 have hr1 := hr.below hB1
 have hKP1 := (KP.refl B b b w).below hBw hB1
 go_enter Tryz.func95, Tryz.ntmps95
 go_upto_region 1 with fail
 rw [← hrb, ← hrv]
 have hrw : w.heap.size ≤ rb := by omega
 clear hrb hrv hr hB1
 have h1 := qnum_any hr1 1 (by omega) (by omega)
 rw [← HQ1.out] at h1
 go_wp2_with (with_reducible refine h_A ?_)
 refine h1.mono ?_
 rintro e w3 ⟨rfl, hr3, hg3⟩
 have hRB3 := hRB.grown hg3 (sne (by omega))
 have hKP3 := hKP1.grown hBw hg3 (fun g hg => by injection hg with hg; subst hg; exact ⟨hbB.1, .inl rfl⟩)
 clear h1 hr1 hKP1 hRB hg3
 try simp only at hr3
 obtain ⟨xb, w4, hxb, hxv, hX, hB4⟩ := alloc_stepV w3 #[.int .u8 (k : Int), .int .u64 0, .string ⟨#[]⟩, .slice none 0 0, .slice none 0 0] 50
 have hR := hr3.below hB4
 have hRBl := hRB3.lt
 have hRBx := hRB3.below hB4
 have hKP := hKP3.below hBw hB4
 have hrx : rb < xb := by omega
 have hxw : w.heap.size ≤ xb := by omega
 go_upto_region 3 with fail
 rw [← hxb, ← hxv]
 clear hxb hxv hB4 hRB3 hr3 hKP3 hRBl
 have gd : (d : Int) ≤ 6 := by omega
 by_cases h0 : n = 0
 ·have HR0 : Hid (rr = none) := Lib.hid (by rw [HRR.out, vreadB_bad _ _ _ _ (.inl h0)])
  have g0 : (n : Int) - 1 < 0 := by omega
  have z0 := hX.c0
  have z1 := hX.c1
  have z2 := hX.c2
  have z3 := hX.c3
  have z4 := hX.c4
  clear h0
  go_wp2_with (with_reducible refine h_B ?_)
  refine unhold (wp_box (v := .agg #[.int .u8 (k : Int), .int .u64 0, .string ⟨#[]⟩, .slice none 0 0, .slice none 0 0]) (vs := [.int .u8 (k : Int), .int .u64 0, .string ⟨#[]⟩, .slice none 0 0, .slice none 0 0]) rfl rfl rfl rfl hRBx rfl (by kernel_rfl) (by simp) (by intro u hu; simp at hu; rcases hu with rfl | rfl | rfl | rfl <;> rfl) #[.int .u8 (k : Int), .int .u64 0, .string ⟨#[]⟩, .slice none 0 0, .slice none 0 0] (by simp) ?_)
  intro w8 hRB8 hg8 _
  have hR8 := hR.kept hg8 (fun g hg hFg => by injection hg with hg; have := hF g hFg; omega)
  have hKP8 := hKP.grown hBw hg8 (fun g hg => by injection hg with hg; exact ⟨by omega, .inr (.inr (by omega))⟩)
  go_wp2_with (with_reducible refine h_A ?_)
  refine ret_box_tmp2x rfl hRB8 rfl rfl rfl Tryz.underlying50 rfl (by kernel_rfl) rfl ?_
  rw [HR0.out]
  exact ⟨.mk k 0 [] [] [], ⟨none, 0, none, 0⟩, (n : Int) - 1, false, l1, b1, rfl, RV.leaf _ _ _ _ _ (by omega) (by omega) (by simp), hR8, hKP8, by omega, by omega, (fun h => by cases h), fun q hq => by cases hq⟩
 have g0 : ¬ (n : Int) - 1 < 0 := by omega
 have hn1 : ((n : Int) - 1) = ((n - 1 : Nat) : Int) := by omega
 have HV : Hid (∀ q, rr = some q → b1 = false ∧ (if k = 240 then some ((.mk 240 0 [] [] [] : Vl), l1, n - 1)
  else if k = 8 ∨ k = 2 then (if (mnum l1 b1 1).2.2 = true then none else some (.mk k (mnum l1 b1 1).1 [] [] [], (mnum l1 b1 1).2.1, n - 1))
  else if k = 50 ∨ k = 49 then (if (mnum l1 b1 8).2.2 = true then none else some (.mk k (mnum l1 b1 8).1 [] [] [], (mnum l1 b1 8).2.1, n - 1))
  else if k = 149 then (if (mtext l1 b1 2 4096).2.2 = true then none else some (.mk 149 0 (mtext l1 b1 2 4096).1 [] [], (mtext l1 b1 2 4096).2.1, n - 1))
  else if k = 160 then (if (mtext l1 b1 4 4096).2.2 = true then none else some (.mk 160 0 (mtext l1 b1 4 4096).1 [] [], (mtext l1 b1 4 4096).2.1, n - 1))
  else if k = 168 ∨ k = 169 then (vmany (vread f) (decide (k = 168)) (n - 1) l1).map (fun q => (.mk k 0 [] q.1 q.2.1, q.2.2)) else none) = some q) := Lib.hid (fun q hq => by
  have e := HRR.out.symm.trans hq
  obtain ⟨e1, e2⟩ := vreadB_some e HQ1.out
  subst e1 e2
  refine ⟨rfl, ?_⟩
  have e3 : vread (f + 1) n l = some q := e
  rw [vread_at HQ1.out h0] at e3
  exact e3)
 clear HRR HQ1
 have x0 := hX.c0
 generalize hkI : (k : Int) = kI at *
 have HKI := Lib.hid hkI
 clear hkI
 go_upto_block 0 with fail
 clear x0
 go_cut [2, 10, 11, 12, 13, 14, 15] from 32 to 107 (fun s2 _ _ _ _ _ _ wx => RMid F B b n rb xb w rr s2 wx)
 case first =>
  by_cases k8 : k = 8
  ·subst k8
   obtain rfl : kI = 8 := by rw [← HKI.out]; rfl
   have HV2 : Hid (∀ q, rr = some q → (mnum l1 b1 1).2.2 = false ∧ q = (.mk 8 (mnum l1 b1 1).1 [] [] [], (mnum l1 b1 1).2.1, n - 1)) := Lib.hid (fun q hq => by
    obtain ⟨hb1, hv⟩ := HV.out q hq
    subst hb1
    rw [if_neg (by decide), if_pos (.inl rfl)] at hv
    split at hv
    ·cases hv
    ·rename_i hno
     injection hv with hv
     exact ⟨by simpa using hno, hv.symm⟩)
   clear HV
   have h2 := qnum_any hR 1 (by omega) (by omega)
   have hlt := mnum_lt l1 b1 1
   obtain ⟨T, hT⟩ : ∃ t, t = mnum l1 b1 1 := ⟨_, rfl⟩
   rw [← hT] at h2 hlt HV2
   obtain ⟨x, l2, b2⟩ := T
   simp only at h2 hlt
   clear hT
   go_wp2_with (with_reducible refine h_B ?_)
   refine h2.mono ?_
   rintro e w6 ⟨rfl, hR2, hg2⟩
   have hX2 := hX.grown hg2 (sne (by omega))
   have hRB2 := hRBx.grown hg2 (sne (by omega))
   have hKP2 := hKP.grown hBw hg2 (fun g hg => by injection hg with hg; subst hg; exact ⟨hbB.1, .inl rfl⟩)
   clear h2 hX hR hRBx hKP hg2
   try simp only at hR2
   go_wp2_with (with_reducible refine h_B ?_)
   refine unhold (wp_box (v := .int .u64 (x : Int)) (vs := [.int .u64 (x : Int)]) rfl rfl rfl rfl hX2 rfl (by kernel_rfl) (by simp) (by simp; rfl) #[.int .u8 8, .int .u64 (x : Int), .string ⟨#[]⟩, .slice none 0 0, .slice none 0 0] (by simp) ?_)
   intro w7 hX7 hg8 _
   have hR7 := hR2.kept hg8 (fun g hg hFg => by injection hg with hg; have := hF g hFg; omega)
   have hRB7 := hRB2.grown hg8 (sne (by omega))
   have hKP7 := hKP2.grown hBw hg8 (fun g hg => by injection hg with hg; exact ⟨by omega, .inr (.inr (by omega))⟩)
   go_wp2_with (with_reducible refine h_A ?_)
   go_meet
   exact ⟨.mk 8 x [] [] [], ⟨none, 0, none, 0⟩, n - 1, l2, b2, (by first | rfl | rw [hn1]), hX7, RV.leaf _ _ _ _ _ (by omega) (by omega) (by simp), hR7, hKP7, hRB7, by omega, Lib.hid (fun q hq => by
    obtain ⟨e1, e2⟩ := HV2.out q hq
    rw [e2]
    exact ⟨rfl, rfl, rfl, e1⟩)⟩
  by_cases k2 : k = 2
  ·subst k2
   obtain rfl : kI = 2 := by rw [← HKI.out]; rfl
   have HV2 : Hid (∀ q, rr = some q → (mnum l1 b1 1).2.2 = false ∧ q = (.mk 2 (mnum l1 b1 1).1 [] [] [], (mnum l1 b1 1).2.1, n - 1)) := Lib.hid (fun q hq => by
    obtain ⟨hb1, hv⟩ := HV.out q hq
    subst hb1
    rw [if_neg (by decide), if_pos (.inr rfl)] at hv
    split at hv
    ·cases hv
    ·rename_i hno
     injection hv with hv
     exact ⟨by simpa using hno, hv.symm⟩)
   clear HV
   have h2 := qnum_any hR 1 (by omega) (by omega)
   have hlt := mnum_lt l1 b1 1
   obtain ⟨T, hT⟩ : ∃ t, t = mnum l1 b1 1 := ⟨_, rfl⟩
   rw [← hT] at h2 hlt HV2
   obtain ⟨x, l2, b2⟩ := T
   simp only at h2 hlt
   clear hT
   go_wp2_with (with_reducible refine h_B ?_)
   refine h2.mono ?_
   rintro e w6 ⟨rfl, hR2, hg2⟩
   have hX2 := hX.grown hg2 (sne (by omega))
   have hRB2 := hRBx.grown hg2 (sne (by omega))
   have hKP2 := hKP.grown hBw hg2 (fun g hg => by injection hg with hg; subst hg; exact ⟨hbB.1, .inl rfl⟩)
   clear h2 hX hR hRBx hKP hg2
   try simp only at hR2
   go_wp2_with (with_reducible refine h_B ?_)
   refine unhold (wp_box (v := .int .u64 (x : Int)) (vs := [.int .u64 (x : Int)]) rfl rfl rfl rfl hX2 rfl (by kernel_rfl) (by simp) (by simp; rfl) #[.int .u8 2, .int .u64 (x : Int), .string ⟨#[]⟩, .slice none 0 0, .slice none 0 0] (by simp) ?_)
   intro w7 hX7 hg8 _
   have hR7 := hR2.kept hg8 (fun g hg hFg => by injection hg with hg; have := hF g hFg; omega)
   have hRB7 := hRB2.grown hg8 (sne (by omega))
   have hKP7 := hKP2.grown hBw hg8 (fun g hg => by injection hg with hg; exact ⟨by omega, .inr (.inr (by omega))⟩)
   go_wp2_with (with_reducible refine h_A ?_)
   go_meet
   exact ⟨.mk 2 x [] [] [], ⟨none, 0, none, 0⟩, n - 1, l2, b2, (by first | rfl | rw [hn1]), hX7, RV.leaf _ _ _ _ _ (by omega) (by omega) (by simp), hR7, hKP7, hRB7, by omega, Lib.hid (fun q hq => by
    obtain ⟨e1, e2⟩ := HV2.out q hq
    rw [e2]
    exact ⟨rfl, rfl, rfl, e1⟩)⟩
  by_cases k50 : k = 50
  ·subst k50
   obtain rfl : kI = 50 := by rw [← HKI.out]; rfl
   have HV2 : Hid (∀ q, rr = some q → (mnum l1 b1 8).2.2 = false ∧ q = (.mk 50 (mnum l1 b1 8).1 [] [] [], (mnum l1 b1 8).2.1, n - 1)) := Lib.hid (fun q hq => by
    obtain ⟨hb1, hv⟩ := HV.out q hq
    subst hb1
    rw [if_neg (by decide), if_neg (by decide), if_pos (.inl rfl)] at hv
    split at hv
    ·cases hv
    ·rename_i hno
     injection hv with hv
     exact ⟨by simpa using hno, hv.symm⟩)
   clear HV
   have h2 := qnum_any hR 8 (by omega) (by omega)
   have hlt := mnum_lt l1 b1 8
   obtain ⟨T, hT⟩ : ∃ t, t = mnum l1 b1 8 := ⟨_, rfl⟩
   rw [← hT] at h2 hlt HV2
   obtain ⟨x, l2, b2⟩ := T
   simp only at h2 hlt
   clear hT
   go_wp2_with (with_reducible refine h_B ?_)
   refine h2.mono ?_
   rintro e w6 ⟨rfl, hR2, hg2⟩
   have hX2 := hX.grown hg2 (sne (by omega))
   have hRB2 := hRBx.grown hg2 (sne (by omega))
   have hKP2 := hKP.grown hBw hg2 (fun g hg => by injection hg with hg; subst hg; exact ⟨hbB.1, .inl rfl⟩)
   clear h2 hX hR hRBx hKP hg2
   try simp only at hR2
   go_wp2_with (with_reducible refine h_B ?_)
   refine unhold (wp_box (v := .int .u64 (x : Int)) (vs := [.int .u64 (x : Int)]) rfl rfl rfl rfl hX2 rfl (by kernel_rfl) (by simp) (by simp; rfl) #[.int .u8 50, .int .u64 (x : Int), .string ⟨#[]⟩, .slice none 0 0, .slice none 0 0] (by simp) ?_)
   intro w7 hX7 hg8 _
   have hR7 := hR2.kept hg8 (fun g hg hFg => by injection hg with hg; have := hF g hFg; omega)
   have hRB7 := hRB2.grown hg8 (sne (by omega))
   have hKP7 := hKP2.grown hBw hg8 (fun g hg => by injection hg with hg; exact ⟨by omega, .inr (.inr (by omega))⟩)
   go_wp2_with (with_reducible refine h_A ?_)
   go_meet
   exact ⟨.mk 50 x [] [] [], ⟨none, 0, none, 0⟩, n - 1, l2, b2, (by first | rfl | rw [hn1]), hX7, RV.leaf _ _ _ _ _ (by omega) (by omega) (by simp), hR7, hKP7, hRB7, by omega, Lib.hid (fun q hq => by
    obtain ⟨e1, e2⟩ := HV2.out q hq
    rw [e2]
    exact ⟨rfl, rfl, rfl, e1⟩)⟩
  by_cases k49 : k = 49
  ·subst k49
   obtain rfl : kI = 49 := by rw [← HKI.out]; rfl
   have HV2 : Hid (∀ q, rr = some q → (mnum l1 b1 8).2.2 = false ∧ q = (.mk 49 (mnum l1 b1 8).1 [] [] [], (mnum l1 b1 8).2.1, n - 1)) := Lib.hid (fun q hq => by
    obtain ⟨hb1, hv⟩ := HV.out q hq
    subst hb1
    rw [if_neg (by decide), if_neg (by decide), if_pos (.inr rfl)] at hv
    split at hv
    ·cases hv
    ·rename_i hno
     injection hv with hv
     exact ⟨by simpa using hno, hv.symm⟩)
   clear HV
   have h2 := qnum_any hR 8 (by omega) (by omega)
   have hlt := mnum_lt l1 b1 8
   obtain ⟨T, hT⟩ : ∃ t, t = mnum l1 b1 8 := ⟨_, rfl⟩
   rw [← hT] at h2 hlt HV2
   obtain ⟨x, l2, b2⟩ := T
   simp only at h2 hlt
   clear hT
   go_wp2_with (with_reducible refine h_B ?_)
   refine h2.mono ?_
   rintro e w6 ⟨rfl, hR2, hg2⟩
   have hX2 := hX.grown hg2 (sne (by omega))
   have hRB2 := hRBx.grown hg2 (sne (by omega))
   have hKP2 := hKP.grown hBw hg2 (fun g hg => by injection hg with hg; subst hg; exact ⟨hbB.1, .inl rfl⟩)
   clear h2 hX hR hRBx hKP hg2
   try simp only at hR2
   go_wp2_with (with_reducible refine h_B ?_)
   refine unhold (wp_box (v := .int .u64 (x : Int)) (vs := [.int .u64 (x : Int)]) rfl rfl rfl rfl hX2 rfl (by kernel_rfl) (by simp) (by simp; rfl) #[.int .u8 49, .int .u64 (x : Int), .string ⟨#[]⟩, .slice none 0 0, .slice none 0 0] (by simp) ?_)
   intro w7 hX7 hg8 _
   have hR7 := hR2.kept hg8 (fun g hg hFg => by injection hg with hg; have := hF g hFg; omega)
   have hRB7 := hRB2.grown hg8 (sne (by omega))
   have hKP7 := hKP2.grown hBw hg8 (fun g hg => by injection hg with hg; exact ⟨by omega, .inr (.inr (by omega))⟩)
   go_wp2_with (with_reducible refine h_A ?_)
   go_meet
   exact ⟨.mk 49 x [] [] [], ⟨none, 0, none, 0⟩, n - 1, l2, b2, (by first | rfl | rw [hn1]), hX7, RV.leaf _ _ _ _ _ (by omega) (by omega) (by simp), hR7, hKP7, hRB7, by omega, Lib.hid (fun q hq => by
    obtain ⟨e1, e2⟩ := HV2.out q hq
    rw [e2]
    exact ⟨rfl, rfl, rfl, e1⟩)⟩
  by_cases k149 : k = 149
  ·subst k149
   obtain rfl : kI = 149 := by rw [← HKI.out]; rfl
   have HV2 : Hid (∀ q, rr = some q → (mtext l1 b1 2 4096).2.2 = false ∧ q = (.mk 149 0 (mtext l1 b1 2 4096).1 [] [], (mtext l1 b1 2 4096).2.1, n - 1)) := Lib.hid (fun q hq => by
    obtain ⟨hb1, hv⟩ := HV.out q hq
    subst hb1
    rw [if_neg (by decide), if_neg (by decide), if_neg (by decide), if_pos rfl] at hv
    split at hv
    ·cases hv
    ·rename_i hno
     injection hv with hv
     exact ⟨by simpa using hno, hv.symm⟩)
   clear HV
   have h2 := qtext_any hR 2 4096 (by omega) (by omega) (by omega) (by omega)
   have hlt := mtext_slen l1 b1 2 4096
   rw [show ((4096 : Nat) : Int) = 4096 from rfl] at hlt
   obtain ⟨T, hT⟩ : ∃ t, t = mtext l1 b1 2 4096 := ⟨_, rfl⟩
   rw [← hT] at h2 hlt HV2
   obtain ⟨x, l2, b2⟩ := T
   simp only at h2 hlt
   clear hT
   go_wp2_with (with_reducible refine h_B ?_)
   refine h2.mono ?_
   rintro e w6 ⟨rfl, hR2, hg2⟩
   have hX2 := hX.grown hg2 (sne (by omega))
   have hRB2 := hRBx.grown hg2 (sne (by omega))
   have hKP2 := hKP.grown hBw hg2 (fun g hg => by injection hg with hg; subst hg; exact ⟨hbB.1, .inl rfl⟩)
   clear h2 hX hR hRBx hKP hg2
   try simp only at hR2
   go_wp2_with (with_reducible refine h_B ?_)
   refine unhold (wp_box (v := .string (str x)) (vs := [.string (str x)]) rfl rfl rfl rfl hX2 rfl (by kernel_rfl) (by simp) (by simp; rfl) #[.int .u8 149, .int .u64 0, .string (str x), .slice none 0 0, .slice none 0 0] (by simp) ?_)
   intro w7 hX7 hg8 _
   have hR7 := hR2.kept hg8 (fun g hg hFg => by injection hg with hg; have := hF g hFg; omega)
   have hRB7 := hRB2.grown hg8 (sne (by omega))
   have hKP7 := hKP2.grown hBw hg8 (fun g hg => by injection hg with hg; exact ⟨by omega, .inr (.inr (by omega))⟩)
   go_wp2_with (with_reducible refine h_A ?_)
   go_meet
   exact ⟨.mk 149 0 x [] [], ⟨none, 0, none, 0⟩, n - 1, l2, b2, (by first | rfl | rw [hn1]), hX7, RV.leaf _ _ _ _ _ (by omega) (by omega) (by omega), hR7, hKP7, hRB7, by omega, Lib.hid (fun q hq => by
    obtain ⟨e1, e2⟩ := HV2.out q hq
    rw [e2]
    exact ⟨rfl, rfl, rfl, e1⟩)⟩
  by_cases k160 : k = 160
  ·subst k160
   obtain rfl : kI = 160 := by rw [← HKI.out]; rfl
   have HV2 : Hid (∀ q, rr = some q → (mtext l1 b1 4 4096).2.2 = false ∧ q = (.mk 160 0 (mtext l1 b1 4 4096).1 [] [], (mtext l1 b1 4 4096).2.1, n - 1)) := Lib.hid (fun q hq => by
    obtain ⟨hb1, hv⟩ := HV.out q hq
    subst hb1
    rw [if_neg (by decide), if_neg (by decide), if_neg (by decide), if_neg (by decide), if_pos rfl] at hv
    split at hv
    ·cases hv
    ·rename_i hno
     injection hv with hv
     exact ⟨by simpa using hno, hv.symm⟩)
   clear HV
   have h2 := qtext_any hR 4 4096 (by omega) (by omega) (by omega) (by omega)
   have hlt := mtext_slen l1 b1 4 4096
   rw [show ((4096 : Nat) : Int) = 4096 from rfl] at hlt
   obtain ⟨T, hT⟩ : ∃ t, t = mtext l1 b1 4 4096 := ⟨_, rfl⟩
   rw [← hT] at h2 hlt HV2
   obtain ⟨x, l2, b2⟩ := T
   simp only at h2 hlt
   clear hT
   go_wp2_with (with_reducible refine h_B ?_)
   refine h2.mono ?_
   rintro e w6 ⟨rfl, hR2, hg2⟩
   have hX2 := hX.grown hg2 (sne (by omega))
   have hRB2 := hRBx.grown hg2 (sne (by omega))
   have hKP2 := hKP.grown hBw hg2 (fun g hg => by injection hg with hg; subst hg; exact ⟨hbB.1, .inl rfl⟩)
   clear h2 hX hR hRBx hKP hg2
   try simp only at hR2
   go_wp2_with (with_reducible refine h_B ?_)
   refine unhold (wp_box (v := .string (str x)) (vs := [.string (str x)]) rfl rfl rfl rfl hX2 rfl (by kernel_rfl) (by simp) (by simp; rfl) #[.int .u8 160, .int .u64 0, .string (str x), .slice none 0 0, .slice none 0 0] (by simp) ?_)
   intro w7 hX7 hg8 _
   have hR7 := hR2.kept hg8 (fun g hg hFg => by injection hg with hg; have := hF g hFg; omega)
   have hRB7 := hRB2.grown hg8 (sne (by omega))
   have hKP7 := hKP2.grown hBw hg8 (fun g hg => by injection hg with hg; exact ⟨by omega, .inr (.inr (by omega))⟩)
   go_wp2_with (with_reducible refine h_A ?_)
   go_meet
   exact ⟨.mk 160 0 x [] [], ⟨none, 0, none, 0⟩, n - 1, l2, b2, (by first | rfl | rw [hn1]), hX7, RV.leaf _ _ _ _ _ (by omega) (by omega) (by omega), hR7, hKP7, hRB7, by omega, Lib.hid (fun q hq => by
    obtain ⟨e1, e2⟩ := HV2.out q hq
    rw [e2]
    exact ⟨rfl, rfl, rfl, e1⟩)⟩
  by_cases k168 : k = 168
  ·subst k168
   obtain rfl : kI = 168 := by rw [← HKI.out]; rfl
   obtain ⟨vm, hvm⟩ : ∃ q, q = vmany (vread f) true (n - 1) l1 := ⟨_, rfl⟩
   have HV2 : Hid (∀ q, rr = some q → b1 = false ∧ ∃ q0, vm = some q0 ∧ q = (.mk 168 0 [] q0.1 q0.2.1, q0.2.2)) := Lib.hid (fun q hq => by
    obtain ⟨hb1, hv⟩ := HV.out q hq
    rw [if_neg (by decide), if_neg (by decide), if_neg (by decide), if_neg (by decide), if_neg (by decide), if_pos (.inl rfl)] at hv
    obtain ⟨q0, e1, e2⟩ := Option.map_eq_some_iff.1 hv
    exact ⟨hb1, q0, hvm.trans e1, e2.symm⟩)
   have HVM := Lib.hid hvm
   clear HV hvm
   have h2 := qnum_any hR 4 (by omega) (by omega)
   obtain ⟨T, hT⟩ : ∃ t, t = mnum l1 b1 4 := ⟨_, rfl⟩
   rw [← hT] at h2
   obtain ⟨SZ, l2, b2⟩ := T
   simp only at h2
   have HT := Lib.hid hT
   clear hT
   go_wp2_with (with_reducible refine h_B ?_)
   refine h2.mono ?_
   rintro e w6 ⟨rfl, hR2, hg2⟩
   have hX2 := hX.grown hg2 (sne (by omega))
   have hRB2 := hRBx.grown hg2 (sne (by omega))
   have hKP2 := hKP.grown hBw hg2 (fun g hg => by injection hg with hg; subst hg; exact ⟨hbB.1, .inl rfl⟩)
   clear h2 hX hR hRBx hKP hg2
   try simp only at hR2
   have h3 := qnum_any hR2 4 (by omega) (by omega)
   have hlt := mnum_lt l2 b2 4
   obtain ⟨T, hT⟩ : ∃ t, t = mnum l2 b2 4 := ⟨_, rfl⟩
   rw [← hT] at h3 hlt
   obtain ⟨CN, l3, b3⟩ := T
   simp only at h3 hlt
   have HT3 := Lib.hid hT
   clear hT
   go_wp2_with (with_reducible refine h_B ?_)
   refine h3.mono ?_
   rintro e w7 ⟨rfl, hR3, hg3⟩
   have hX3 := hX2.grown hg3 (sne (by omega))
   have hRB3 := hRB2.grown hg3 (sne (by omega))
   have hKP3 := hKP2.grown hBw hg3 (fun g hg => by injection hg with hg; subst hg; exact ⟨hbB.1, .inl rfl⟩)
   clear h3 hX2 hR2 hRB2 hKP2 hg3
   try simp only at hR3
   have HC0 : Hid (∀ q0, b1 = false → vm = some q0 → b3 = false ∧ CN < 200 ∧ vloop (vread f) true CN (n - 1) l3 = some q0) := Lib.hid (fun q0 hb1 hq => by
    subst hb1
    have e := HVM.out
    unfold vmany at e
    rw [← HT.out, hq] at e
    simp only at e
    rw [← HT3.out] at e
    simp only at e
    split at e
    ·cases e
    ·rename_i hno
     split at e
     ·cases e
     ·rename_i q1 hq1
      split at e
      ·injection e with e
       subst e
       refine ⟨?_, by omega, hq1⟩
       cases b3
       ·rfl
       ·exact absurd (.inl rfl) hno
      ·cases e)
   clear HVM HT HT3
   have hS3 : MnS w7 (xb + 1) [] none 0 none 0 [] := MnS.nil _ _
   go_wp2_with (with_reducible refine h_A ?_)
   go_loopw [2, 11] (fun s2 s11 wr => ∃ (i ni : Nat) (KS : List (List UInt8)) (AK : Option Addr) (cK : Nat) (A : Option Addr) (c : Nat) (xs : List (Vl × VH)) (li : List UInt8) (bi : Bool), i ≤ 200 ∧ s11 = .int .u64 (i : Int) ∧ s2 = .int .i64 (ni : Int) ∧ ni < n ∧ Hid (xs.length = i) ∧ KS.length ≤ i ∧ Hid (∀ k ∈ KS, k.length ≤ 255) ∧ MnS wr (xb + 1) KS AK cK A c xs ∧
     Box wr xb 50 #[.int .u8 168, .int .u64 0, .string ⟨#[]⟩, .slice AK KS.length cK, .slice A i c] ∧ Qrd F wr b li bi ∧ KP B b b w wr ∧ Box wr rb 50 #[.int .u8 0, .int .u64 0, .string ⟨#[]⟩, .slice none 0 0, .slice none 0 0] ∧ Hid (∀ q0, b1 = false → vm = some q0 → bi = false ∧ CN < 200 ∧ i ≤ CN ∧ ∃ p, vloop (vread f) true (CN - i) ni li = some p ∧ q0 = (KS ++ p.1, xs.map (·.1) ++ p.2.1, p.2.2))) (fun _ s11 _ => 200 - (RowKit.intOf s11).toNat)
   case atStart => exact ⟨0, n - 1, [], none, 0, none, 0, [], l3, b3, by omega, rfl, by first | rfl | rw [hn1], by omega, Lib.hid rfl, by simp, Lib.hid (fun k hk => by cases hk), hS3, hX3, hR3, hKP3, hRB3, Lib.hid (fun q0 h1 h2 => by
    obtain ⟨e1, e2, e3⟩ := HC0.out q0 h1 h2
    exact ⟨e1, e2, by omega, q0, by rw [Nat.sub_zero]; exact e3, by simp⟩)⟩
   case round =>
    clear hS3 hX3 hR3 hKP3 hRB3 HC0 hn1
    obtain ⟨i, ni, KS, AK, cK, A, c, xs, li, bi, hi, rfl, rfl, hni, hxl, hkl, hk255, hS, hX, hR, hKP, hRB, HC⟩ := hrel
    obtain ⟨L, hL⟩ : ∃ L, L = xs.map (·.1) := ⟨_, rfl⟩
    obtain rfl : i = L.length := by rw [hL, List.length_map, hxl.out]
    have HL := Lib.hid hL
    clear hL
    have hcb : ∃ A' c', wr.cell? ⟨b, 0, none⟩ = some (.slice A' li.length c') ∧ wr.cell? ⟨b, 1, none⟩ = some (.bool bi) := by
     obtain ⟨A', n', c', e0, e1, _, _, hr', _⟩ := hR
     exact ⟨A', c', by rw [RdB.length hr']; exact e0, e1⟩
    obtain ⟨_, _, _, hcb⟩ := hcb
    by_cases hgo : L.length < CN ∧ L.length < 200 ∧ bi = false
    ·obtain ⟨g1, g2, rfl⟩ := hgo
     have g3 : (L.length : Int) < (CN : Int) := by omega
     have g4 : (L.length : Int) < 200 := by omega
     have x0 := hX.c0
     have h2 := qtext_any hR 1 255 (by omega) (by omega) (by omega) (by omega)
     have hts := mtext_slen li false 1 255
     rw [show ((255 : Nat) : Int) = 255 from rfl] at hts
     obtain ⟨T, hT⟩ : ∃ t, t = mtext li false 1 255 := ⟨_, rfl⟩
     rw [← hT] at h2 hts
     obtain ⟨ks, lj, bj⟩ := T
     simp only at h2 hts
     have HTX := Lib.hid hT
     clear hT
     go_wp2_with (with_reducible refine h_A ?_)
     refine h2.mono ?_
     rintro e w5 ⟨rfl, hR5, hg5⟩
     have hX5 := hX.grown hg5 (sne (by omega))
     have hRB5 := hRB.grown hg5 (sne (by omega))
     have hKP5 := hKP.grown hBw hg5 (fun g hg => by injection hg with hg; subst hg; exact ⟨hbB.1, .inl rfl⟩)
     have hS5 := hS.box hg5 (by omega)
     clear h2 hX hR hRB hKP hg5 hS x0
     try simp only at hR5
     have hownK : Own w5 (xb + 1) 9 1 AK KS.length cK (rowC txC KS) := by rw [rowC_tx]; exact hS5.kown
     have x3 := hX5.c3
     have hX5l := hX5.lt
     go_wp2_with (with_reducible refine h_A ?_)
     refine unhold (wp_rec (W := w5) txShape slTx Tryz.underlying47 rfl rfl rfl rfl rfl ks rfl hownK (by omega) (by omega) (by omega) ?_)
     intro A4 c4 w6 ho6 hg6 hA6 _
     rw [rowC_tx] at ho6
     have hS6 := hS5.pushK ho6 hg6 hA6
     have hnb : ∀ g', blk AK = some g' → xb + 1 ≤ g' ∧ w.heap.size ≤ g' := fun g' hg' => by have := (hS5.kown.blk_lt hg').1; omega
     have hX6 := hX5.grown hg6 (by intro e; have := hnb _ e.symm; omega)
     have hRB6 := hRB5.grown hg6 (by intro e; have := hnb _ e.symm; omega)
     have hR6 := hR5.kept hg6 (fun g hg hFg => by have := hnb g hg; have := hF g hFg; omega)
     have hKP6 := hKP5.grown hBw hg6 (fun g hg => by have := hnb g hg; exact ⟨by omega, .inr (.inr this.2)⟩)
     clear x3 hX5 hR5 hRB5 hKP5 hS5 hownK ho6 hg6 hA6 hnb
     go_wp2_with (with_reducible refine h_B ?_)
     refine unhold (wp_box (v := .slice A4 (KS.length + 1) c4) (vs := [.slice A4 (KS.length + 1) c4]) rfl rfl rfl rfl hX6 rfl (by kernel_rfl) (by simp) (by simp; rfl) #[.int .u8 168, .int .u64 0, .string ⟨#[]⟩, .slice A4 (KS.length + 1) c4, .slice A L.length c] (by simp) ?_)
     intro w7 hX7 hg7 _
     have hS := hS6.box hg7 (by omega)
     have hRB := hRB6.grown hg7 (sne (by omega))
     have hR := hR6.kept hg7 (fun g' hg' hFg => by injection hg' with hg'; have := hF g' hFg; omega)
     have hKP := hKP6.grown hBw hg7 (fun g' hg' => by injection hg' with hg'; exact ⟨by omega, .inr (.inr (by omega))⟩)
     clear hS6 hRB6 hR6 hKP6 hX6 hg7
     obtain ⟨KS2, hKS2⟩ : ∃ K, K = KS ++ [ks] := ⟨_, rfl⟩
     have hl2' : KS2.length = KS.length + 1 := by rw [hKS2]; simp
     have hk2 : Hid (∀ k ∈ KS2, k.length ≤ 255) := Lib.hid (fun k hk => by
      rw [hKS2] at hk
      rcases List.mem_append.1 hk with h | h
      ·exact hk255.out k h
      ·rw [List.mem_singleton.1 h]; exact hts)
     rw [← hKS2] at hS
     have hkl2 : KS2.length ≤ L.length + 1 := by omega
     have hX : Box w7 xb 50 #[.int .u8 168, .int .u64 0, .string ⟨#[]⟩, .slice A4 KS2.length c4, .slice A L.length c] := by rw [hl2']; exact hX7
     simp only [← hl2']
     have HC2 : Hid (∀ q0, b1 = false → vm = some q0 → ∃ r, vread f ni lj = some r ∧ bj = false ∧ CN < 200 ∧ ∃ p, vloop (vread f) true (CN - (L.length + 1)) r.2.2 r.2.1 = some p ∧ q0 = (KS2 ++ p.1, xs.map (·.1) ++ ([r.1] ++ p.2.1), p.2.2)) := Lib.hid (fun q0 hb1 hq => by
      obtain ⟨_, e2, e3, p, e4, e5⟩ := HC.out q0 hb1 hq
      rw [show CN - L.length = (CN - (L.length + 1)) + 1 by omega] at e4
      obtain ⟨s1, r, s2, p2, s3, s4⟩ := vloop_step e4
      rw [← HTX.out] at s1 s2 s4
      refine ⟨r, s2, s1 rfl, e2, p2, s3, ?_⟩
      rw [e5, s4, hKS2]
      simp)
     clear HC hX7 HTX hk255 hkl hl2' hts hKS2
     have hni0 : ni ≤ 200 := by omega
     obtain ⟨rr2, hrr2⟩ : ∃ q, q = vreadB f ni lj bj := ⟨_, rfl⟩
     have hrd := hrec (d + 1) ni F B b lj bj _ (by omega) hR (fun g hg => ⟨(hF g hg).1, Nat.lt_of_lt_of_le (hF g hg).2 hKP.size⟩) hni0
     have hd1 : ((d + 1 : Nat) : Int) = (d : Int) + 1 := by omega
     rw [← hrr2, hd1] at hrd
     have HRR2 := Lib.hid hrr2
     have hX7l := hX.lt
     have hgs := hKP.size
     clear hrr2 hd1
     go_wp2_with (with_reducible refine h_A ?_)
     refine hrd.mono ?_
     rintro e w8 ⟨x, h, m, ok, l9, b9, rfl, hV, hR8, hK8, hm1, hm2, hm3, hx9⟩
     have HX9 := Lib.hid hx9
     have hX8 := hK8.box hX (by omega) (by omega)
     have hRB8 := hK8.box hRB (by omega) (by omega)
     have hS8 := hK8.mns hS (by omega) (by omega)
     have hKP8 := hKP.trans hK8
     have h4 : ∀ g, blk A = some g ∨ blk A4 = some g → g < w7.heap.size := fun g hg => hg.elim (fun e => (hS.own.blk_lt e).2) (fun e => (hS.kown.blk_lt e).2)
     have hs8 := hK8.size
     clear hrd hx9 hX hRB hS hR hKP hK8
     try clear x0
     unfold vlV
     obtain ⟨vb, w9, hvb, hvv, hVB, hB9⟩ := alloc_stepV w8 #[.int .u8 (x.kind : Int), .int .u64 (x.n : Int), .string (str x.s), .slice h.A1 x.keys.length h.c1, .slice h.A2 x.list.length h.c2] 50
     go_upto_region 27 with fail
     rw [← hvb, ← hvv]
     have hX9 := hX8.below hB9
     have hRB9 := hRB8.below hB9
     have hS9 := hS8.below hB9
     have hKP9 := hKP8.below hBw hB9
     have hR9 := hR8.below hB9
     have hs9 := hB9.size
     have hV9 : RV w9 (FN w7.heap.size w9) x h := (hV.keep (fun g hg => hB9.block g hg.2) hs9).mono (fun g hg => ⟨hg.1, Nat.lt_of_lt_of_le hg.2 hs9⟩)
     clear hvb hvv hX8 hRB8 hS8 hKP8 hR8 hV hB9
     cases ok
     ·have HNO : Hid (∀ q, rr = some q → False) := Lib.hid (fun q hq => by
       obtain ⟨hb1, q0, e1, e2⟩ := HV2.out q hq
       obtain ⟨r, f1, f2, _⟩ := HC2.out q0 hb1 e1
       have e3 : rr2 = some r := by rw [HRR2.out]; first | exact f1 | (rw [f2]; exact f1)
       have := (HX9.out r e3).2.2.2.1
       cases this)
      clear HX9 HC2 HV2 hm3
      have hrv := hS9.rv (k := 168) (B := w.heap.size) (by omega) (by omega) (fun x hx => by have := hk2.out x hx; omega) (by omega) (by rw [hxl.out]; omega)
      rw [← HL.out] at hrv
      have z0 := hX9.c0
      have z1 := hX9.c1
      have z2 := hX9.c2
      have z3 := hX9.c3
      have z4 := hX9.c4
      go_wp2_with (with_reducible refine h_B ?_)
      refine unhold (wp_box (v := .agg #[.int .u8 168, .int .u64 0, .string ⟨#[]⟩, .slice A4 KS2.length c4, .slice A L.length c]) (vs := [.int .u8 168, .int .u64 0, .string ⟨#[]⟩, .slice A4 KS2.length c4, .slice A L.length c]) rfl rfl rfl rfl hRB9 rfl (by kernel_rfl) (by simp) (by intro u hu; simp at hu; rcases hu with rfl | rfl | rfl | rfl | rfl <;> rfl) #[.int .u8 168, .int .u64 0, .string ⟨#[]⟩, .slice A4 KS2.length c4, .slice A L.length c] (by simp) ?_)
      intro wa hRBa hga _
      have hRa := hR9.kept hga (fun g hg hFg => by injection hg with hg; have := hF g hFg; omega)
      have hKPa := hKP9.grown hBw hga (fun g hg => by injection hg with hg; exact ⟨by omega, .inr (.inr (by omega))⟩)
      have hSa := hS9.box hga (by omega)
      have hrva := hSa.rv (k := 168) (B := w.heap.size) (by omega) (by omega) (fun x hx => by have := hk2.out x hx; omega) (by omega) (by rw [hxl.out]; omega)
      rw [← HL.out] at hrva
      go_wp2_with (with_reducible refine h_A ?_)
      refine ret_box_tmp2x rfl hRBa rfl rfl rfl Tryz.underlying50 rfl (by kernel_rfl) rfl ?_
      exact ⟨.mk 168 0 [] KS2 L, ⟨A4, c4, A, c⟩, m, false, l9, b9, rfl, hrva, hRa, hKPa, hm1, by omega, (fun h => by cases h), fun q hq => absurd hq (fun hq => (HNO.out q hq))⟩
     ·obtain ⟨mn, rfl⟩ : ∃ k : Nat, m = (k : Int) := ⟨m.toNat, by have := hm3 rfl; omega⟩
      have HC3 : Hid (∀ q0, b1 = false → vm = some q0 → b9 = false ∧ CN < 200 ∧ L.length + 1 ≤ CN ∧ ∃ p, vloop (vread f) true (CN - (L.length + 1)) mn l9 = some p ∧ q0 = (KS2 ++ p.1, (xs ++ [(x, h)]).map (·.1) ++ p.2.1, p.2.2)) := Lib.hid (fun q0 hb1 hq => by
       obtain ⟨r, f1, f2, f3, p, f4, f5⟩ := HC2.out q0 hb1 hq
       have e3 : rr2 = some r := by rw [HRR2.out]; first | exact f1 | (rw [f2]; exact f1)
       obtain ⟨s1, s2, s3, _, s5⟩ := HX9.out r e3
       obtain rfl : mn = r.2.2 := by omega
       refine ⟨s5, f3, by omega, p, by rw [s2]; exact f4, ?_⟩
       rw [f5, s1]
       simp)
      clear HX9 HC2 hm3 HRR2
      have y0 := hVB.c0
      have y1 := hVB.c1
      have y2 := hVB.c2
      have y3 := hVB.c3
      have y4 := hVB.c4
      have x4 := hX9.c4
      have hown5 : Own w9 (xb + 1) 50 5 A L.length c (rowC vlC xs) := hxl.out ▸ hS9.own
      go_wp2_with (with_reducible refine h_A ?_)
      refine unhold (wp_rec (W := w9) vlShape slVl Tryz.underlying48 rfl rfl rfl rfl rfl (x, h) rfl hown5 (by omega) (by omega) (by omega) ?_)
      intro A9 c9 wA ho9 hgA hA9 _
      have hSA := hS9.push h4 hX7l hV9 (by rw [hxl.out]; exact ho9) hgA hA9
      have hnb : ∀ g', blk A = some g' → xb + 1 ≤ g' ∧ w.heap.size ≤ g' := fun g' hg' => by have := (hS9.own.blk_lt hg').1; omega
      have hXA := hX9.grown hgA (by intro e; have := hnb _ e.symm; omega)
      have hRBA := hRB9.grown hgA (by intro e; have := hnb _ e.symm; omega)
      have hRA := hR9.kept hgA (fun g hg hFg => by have := hnb g hg; have := hF g hFg; omega)
      have hKPA := hKP9.grown hBw hgA (fun g hg => by have := hnb g hg; exact ⟨by omega, .inr (.inr this.2)⟩)
      clear y0 y1 y2 y3 y4 x4 hX9 hR9 hRB9 hKP9 hS9 hown5 ho9 hgA hA9 hnb hVB hV9
      go_wp2_with (with_reducible refine h_B ?_)
      refine unhold (wp_box (v := .slice A9 (L.length + 1) c9) (vs := [.slice A9 (L.length + 1) c9]) rfl rfl rfl rfl hXA rfl (by kernel_rfl) (by simp) (by simp; rfl) #[.int .u8 168, .int .u64 0, .string ⟨#[]⟩, .slice A4 KS2.length c4, .slice A9 (L.length + 1) c9] (by simp) ?_)
      intro wC hXC hgC _
      have hSC := hSA.box hgC (by omega)
      have hRBC := hRBA.grown hgC (sne (by omega))
      have hRC := hRA.kept hgC (fun g' hg' hFg => by injection hg' with hg'; have := hF g' hFg; omega)
      have hKPC := hKPA.grown hBw hgC (fun g' hg' => by injection hg' with hg'; exact ⟨by omega, .inr (.inr (by omega))⟩)
      go_wp2_with (with_reducible refine h_A ?_)
      exact ⟨⟨L.length + 1, mn, KS2, A4, c4, A9, c9, xs ++ [(x, h)], l9, b9, by omega, by go_num, rfl, by omega, Lib.hid (by rw [List.length_append, hxl.out]; rfl), hkl2, hk2, hSC, hXC, hRC, hKPC, hRBC, HC3⟩, by simp [RowKit.intOf]; omega⟩
    ·have HGO := Lib.hid hgo
     clear hgo
     have hrv := hS.rv (k := 168) (B := xb + 1) (by omega) (by omega) (fun x hx => by have := hk255.out x hx; omega) (by omega) (by rw [hxl.out]; omega)
     rw [← HL.out] at hrv
     have HEND : Hid (∀ q, rr = some q → (.mk 168 0 [] KS L : Vl) = q.1 ∧ li = q.2.1 ∧ ni = q.2.2 ∧ bi = false) := Lib.hid (fun q hq => by
      obtain ⟨hb1, q0, e1, e2⟩ := HV2.out q hq
      obtain ⟨f1, f2, f3, p, f4, f5⟩ := HC.out q0 hb1 e1
      have hcl : CN - L.length = 0 := by
       have := HGO.out
       by_cases h : L.length < CN
       ·exact absurd ⟨h, by omega, f1⟩ this
       ·omega
      rw [hcl, vloop] at f4
      injection f4 with f4
      subst f4
      simp only [List.append_nil] at f5
      rw [e2, f5, HL.out]
      exact ⟨rfl, rfl, rfl, f1⟩)
     clear HC HV2
     by_cases g1 : L.length < CN
     ·have g3 : (L.length : Int) < (CN : Int) := by omega
      by_cases g2 : L.length < 200
      ·have g4 : (L.length : Int) < 200 := by omega
       cases bi
       ·exact absurd ⟨g1, g2, rfl⟩ HGO.out
       ·go_wp2_with (with_reducible refine h_A ?_)
        go_meet
        exact ⟨.mk 168 0 [] KS L, ⟨AK, cK, A, c⟩, ni, li, _, rfl, hX, hrv, hR, hKP, hRB, hni, HEND⟩
      ·have g4 : ¬ (L.length : Int) < 200 := by omega
       go_wp2_with (with_reducible refine h_A ?_)
       go_meet
       exact ⟨.mk 168 0 [] KS L, ⟨AK, cK, A, c⟩, ni, li, _, rfl, hX, hrv, hR, hKP, hRB, hni, HEND⟩
     ·have g3 : ¬ (L.length : Int) < (CN : Int) := by omega
      go_wp2_with (with_reducible refine h_A ?_)
      go_meet
      exact ⟨.mk 168 0 [] KS L, ⟨AK, cK, A, c⟩, ni, li, _, rfl, hX, hrv, hR, hKP, hRB, hni, HEND⟩
  by_cases k169 : k = 169
  ·subst k169
   obtain rfl : kI = 169 := by rw [← HKI.out]; rfl
   obtain ⟨vm, hvm⟩ : ∃ q, q = vmany (vread f) false (n - 1) l1 := ⟨_, rfl⟩
   have HV2 : Hid (∀ q, rr = some q → b1 = false ∧ ∃ q0, vm = some q0 ∧ q = (.mk 169 0 [] q0.1 q0.2.1, q0.2.2)) := Lib.hid (fun q hq => by
    obtain ⟨hb1, hv⟩ := HV.out q hq
    rw [if_neg (by decide), if_neg (by decide), if_neg (by decide), if_neg (by decide), if_neg (by decide), if_pos (.inr rfl)] at hv
    obtain ⟨q0, e1, e2⟩ := Option.map_eq_some_iff.1 hv
    exact ⟨hb1, q0, hvm.trans e1, e2.symm⟩)
   have HVM := Lib.hid hvm
   clear HV hvm
   have h2 := qnum_any hR 4 (by omega) (by omega)
   obtain ⟨T, hT⟩ : ∃ t, t = mnum l1 b1 4 := ⟨_, rfl⟩
   rw [← hT] at h2
   obtain ⟨SZ, l2, b2⟩ := T
   simp only at h2
   have HT := Lib.hid hT
   clear hT
   go_wp2_with (with_reducible refine h_B ?_)
   refine h2.mono ?_
   rintro e w6 ⟨rfl, hR2, hg2⟩
   have hX2 := hX.grown hg2 (sne (by omega))
   have hRB2 := hRBx.grown hg2 (sne (by omega))
   have hKP2 := hKP.grown hBw hg2 (fun g hg => by injection hg with hg; subst hg; exact ⟨hbB.1, .inl rfl⟩)
   clear h2 hX hR hRBx hKP hg2
   try simp only at hR2
   have h3 := qnum_any hR2 4 (by omega) (by omega)
   have hlt := mnum_lt l2 b2 4
   obtain ⟨T, hT⟩ : ∃ t, t = mnum l2 b2 4 := ⟨_, rfl⟩
   rw [← hT] at h3 hlt
   obtain ⟨CN, l3, b3⟩ := T
   simp only at h3 hlt
   have HT3 := Lib.hid hT
   clear hT
   go_wp2_with (with_reducible refine h_B ?_)
   refine h3.mono ?_
   rintro e w7 ⟨rfl, hR3, hg3⟩
   have hX3 := hX2.grown hg3 (sne (by omega))
   have hRB3 := hRB2.grown hg3 (sne (by omega))
   have hKP3 := hKP2.grown hBw hg3 (fun g hg => by injection hg with hg; subst hg; exact ⟨hbB.1, .inl rfl⟩)
   clear h3 hX2 hR2 hRB2 hKP2 hg3
   try simp only at hR3
   have HC0 : Hid (∀ q0, b1 = false → vm = some q0 → b3 = false ∧ CN < 200 ∧ vloop (vread f) false CN (n - 1) l3 = some q0) := Lib.hid (fun q0 hb1 hq => by
    subst hb1
    have e := HVM.out
    unfold vmany at e
    rw [← HT.out, hq] at e
    simp only at e
    rw [← HT3.out] at e
    simp only at e
    split at e
    ·cases e
    ·rename_i hno
     split at e
     ·cases e
     ·rename_i q1 hq1
      split at e
      ·injection e with e
       subst e
       refine ⟨?_, by omega, hq1⟩
       cases b3
       ·rfl
       ·exact absurd (.inl rfl) hno
      ·cases e)
   clear HVM HT HT3
   have hS3 : MnS w7 (xb + 1) [] none 0 none 0 [] := MnS.nil _ _
   go_wp2_with (with_reducible refine h_A ?_)
   go_loopw [2, 11] (fun s2 s11 wr => ∃ (i ni : Nat) (KS : List (List UInt8)) (AK : Option Addr) (cK : Nat) (A : Option Addr) (c : Nat) (xs : List (Vl × VH)) (li : List UInt8) (bi : Bool), i ≤ 200 ∧ s11 = .int .u64 (i : Int) ∧ s2 = .int .i64 (ni : Int) ∧ ni < n ∧ Hid (xs.length = i) ∧ KS.length ≤ i ∧ Hid (∀ k ∈ KS, k.length ≤ 255) ∧ MnS wr (xb + 1) KS AK cK A c xs ∧
     Box wr xb 50 #[.int .u8 169, .int .u64 0, .string ⟨#[]⟩, .slice AK KS.length cK, .slice A i c] ∧ Qrd F wr b li bi ∧ KP B b b w wr ∧ Box wr rb 50 #[.int .u8 0, .int .u64 0, .string ⟨#[]⟩, .slice none 0 0, .slice none 0 0] ∧ Hid (∀ q0, b1 = false → vm = some q0 → bi = false ∧ CN < 200 ∧ i ≤ CN ∧ ∃ p, vloop (vread f) false (CN - i) ni li = some p ∧ q0 = (KS ++ p.1, xs.map (·.1) ++ p.2.1, p.2.2))) (fun _ s11 _ => 200 - (RowKit.intOf s11).toNat)
   case atStart => exact ⟨0, n - 1, [], none, 0, none, 0, [], l3, b3, by omega, rfl, by first | rfl | rw [hn1], by omega, Lib.hid rfl, by simp, Lib.hid (fun k hk => by cases hk), hS3, hX3, hR3, hKP3, hRB3, Lib.hid (fun q0 h1 h2 => by
    obtain ⟨e1, e2, e3⟩ := HC0.out q0 h1 h2
    exact ⟨e1, e2, by omega, q0, by rw [Nat.sub_zero]; exact e3, by simp⟩)⟩
   case round =>
    clear hS3 hX3 hR3 hKP3 hRB3 HC0 hn1
    obtain ⟨i, ni, KS, AK, cK, A, c, xs, li, bi, hi, rfl, rfl, hni, hxl, hkl, hk255, hS, hX, hR, hKP, hRB, HC⟩ := hrel
    obtain ⟨L, hL⟩ : ∃ L, L = xs.map (·.1) := ⟨_, rfl⟩
    obtain rfl : i = L.length := by rw [hL, List.length_map, hxl.out]
    have HL := Lib.hid hL
    clear hL
    have hcb : ∃ A' c', wr.cell? ⟨b, 0, none⟩ = some (.slice A' li.length c') ∧ wr.cell? ⟨b, 1, none⟩ = some (.bool bi) := by
     obtain ⟨A', n', c', e0, e1, _, _, hr', _⟩ := hR
     exact ⟨A', c', by rw [RdB.length hr']; exact e0, e1⟩
    obtain ⟨_, _, _, hcb⟩ := hcb
    by_cases hgo : L.length < CN ∧ L.length < 200 ∧ bi = false
    ·obtain ⟨g1, g2, rfl⟩ := hgo
     have g3 : (L.length : Int) < (CN : Int) := by omega
     have g4 : (L.length : Int) < 200 := by omega
     have x0 := hX.c0
     obtain ⟨w7, rfl⟩ : ∃ q, q = wr := ⟨_, rfl⟩
     obtain ⟨KS2, rfl⟩ : ∃ q, q = KS := ⟨_, rfl⟩
     obtain ⟨A4, rfl⟩ : ∃ q, q = AK := ⟨_, rfl⟩
     obtain ⟨c4, rfl⟩ : ∃ q, q = cK := ⟨_, rfl⟩
     obtain ⟨lj, rfl⟩ : ∃ q, q = li := ⟨_, rfl⟩
     have hk2 := hk255
     have hkl2 : KS2.length ≤ L.length + 1 := by omega
     have HC2 : Hid (∀ q0, b1 = false → vm = some q0 → ∃ r, vread f ni lj = some r ∧ false = false ∧ CN < 200 ∧ ∃ p, vloop (vread f) false (CN - (L.length + 1)) r.2.2 r.2.1 = some p ∧ q0 = (KS2 ++ p.1, xs.map (·.1) ++ ([r.1] ++ p.2.1), p.2.2)) := Lib.hid (fun q0 hb1 hq => by
      obtain ⟨_, e2, e3, p, e4, e5⟩ := HC.out q0 hb1 hq
      rw [show CN - L.length = (CN - (L.length + 1)) + 1 by omega] at e4
      obtain ⟨s1, r, s2, p2, s3, s4⟩ := vloop_step e4
      refine ⟨r, s2, rfl, e2, p2, s3, ?_⟩
      rw [e5, s4]
      simp)
     clear HC hk255 hkl
     have hni0 : ni ≤ 200 := by omega
     obtain ⟨rr2, hrr2⟩ : ∃ q, q = vreadB f ni lj false := ⟨_, rfl⟩
     have hrd := hrec (d + 1) ni F B b lj false _ (by omega) hR (fun g hg => ⟨(hF g hg).1, Nat.lt_of_lt_of_le (hF g hg).2 hKP.size⟩) hni0
     have hd1 : ((d + 1 : Nat) : Int) = (d : Int) + 1 := by omega
     rw [← hrr2, hd1] at hrd
     have HRR2 := Lib.hid hrr2
     have hX7l := hX.lt
     have hgs := hKP.size
     clear hrr2 hd1
     go_wp2_with (with_reducible refine h_A ?_)
     refine hrd.mono ?_
     rintro e w8 ⟨x, h, m, ok, l9, b9, rfl, hV, hR8, hK8, hm1, hm2, hm3, hx9⟩
     have HX9 := Lib.hid hx9
     have hX8 := hK8.box hX (by omega) (by omega)
     have hRB8 := hK8.box hRB (by omega) (by omega)
     have hS8 := hK8.mns hS (by omega) (by omega)
     have hKP8 := hKP.trans hK8
     have h4 : ∀ g, blk A = some g ∨ blk A4 = some g → g < w7.heap.size := fun g hg => hg.elim (fun e => (hS.own.blk_lt e).2) (fun e => (hS.kown.blk_lt e).2)
     have hs8 := hK8.size
     clear hrd hx9 hX hRB hS hR hKP hK8
     try clear x0
     unfold vlV
     obtain ⟨vb, w9, hvb, hvv, hVB, hB9⟩ := alloc_stepV w8 #[.int .u8 (x.kind : Int), .int .u64 (x.n : Int), .string (str x.s), .slice h.A1 x.keys.length h.c1, .slice h.A2 x.list.length h.c2] 50
     go_upto_region 27 with fail
     rw [← hvb, ← hvv]
     have hX9 := hX8.below hB9
     have hRB9 := hRB8.below hB9
     have hS9 := hS8.below hB9
     have hKP9 := hKP8.below hBw hB9
     have hR9 := hR8.below hB9
     have hs9 := hB9.size
     have hV9 : RV w9 (FN w7.heap.size w9) x h := (hV.keep (fun g hg => hB9.block g hg.2) hs9).mono (fun g hg => ⟨hg.1, Nat.lt_of_lt_of_le hg.2 hs9⟩)
     clear hvb hvv hX8 hRB8 hS8 hKP8 hR8 hV hB9
     cases ok
     ·have HNO : Hid (∀ q, rr = some q → False) := Lib.hid (fun q hq => by
       obtain ⟨hb1, q0, e1, e2⟩ := HV2.out q hq
       obtain ⟨r, f1, f2, _⟩ := HC2.out q0 hb1 e1
       have e3 : rr2 = some r := by rw [HRR2.out]; first | exact f1 | (rw [f2]; exact f1)
       have := (HX9.out r e3).2.2.2.1
       cases this)
      clear HX9 HC2 HV2 hm3
      have hrv := hS9.rv (k := 169) (B := w.heap.size) (by omega) (by omega) (fun x hx => by have := hk2.out x hx; omega) (by omega) (by rw [hxl.out]; omega)
      rw [← HL.out] at hrv
      have z0 := hX9.c0
      have z1 := hX9.c1
      have z2 := hX9.c2
      have z3 := hX9.c3
      have z4 := hX9.c4
      go_wp2_with (with_reducible refine h_B ?_)
      refine unhold (wp_box (v := .agg #[.int .u8 169, .int .u64 0, .string ⟨#[]⟩, .slice A4 KS2.length c4, .slice A L.length c]) (vs := [.int .u8 169, .int .u64 0, .string ⟨#[]⟩, .slice A4 KS2.length c4, .slice A L.length c]) rfl rfl rfl rfl hRB9 rfl (by kernel_rfl) (by simp) (by intro u hu; simp at hu; rcases hu with rfl | rfl | rfl | rfl | rfl <;> rfl) #[.int .u8 169, .int .u64 0, .string ⟨#[]⟩, .slice A4 KS2.length c4, .slice A L.length c] (by simp) ?_)
      intro wa hRBa hga _
      have hRa := hR9.kept hga (fun g hg hFg => by injection hg with hg; have := hF g hFg; omega)
      have hKPa := hKP9.grown hBw hga (fun g hg => by injection hg with hg; exact ⟨by omega, .inr (.inr (by omega))⟩)
      have hSa := hS9.box hga (by omega)
      have hrva := hSa.rv (k := 169) (B := w.heap.size) (by omega) (by omega) (fun x hx => by have := hk2.out x hx; omega) (by omega) (by rw [hxl.out]; omega)
      rw [← HL.out] at hrva
      go_wp2_with (with_reducible refine h_A ?_)
      refine ret_box_tmp2x rfl hRBa rfl rfl rfl Tryz.underlying50 rfl (by kernel_rfl) rfl ?_
      exact ⟨.mk 169 0 [] KS2 L, ⟨A4, c4, A, c⟩, m, false, l9, b9, rfl, hrva, hRa, hKPa, hm1, by omega, (fun h => by cases h), fun q hq => absurd hq (fun hq => (HNO.out q hq))⟩
     ·obtain ⟨mn, rfl⟩ : ∃ k : Nat, m = (k : Int) := ⟨m.toNat, by have := hm3 rfl; omega⟩
      have HC3 : Hid (∀ q0, b1 = false → vm = some q0 → b9 = false ∧ CN < 200 ∧ L.length + 1 ≤ CN ∧ ∃ p, vloop (vread f) false (CN - (L.length + 1)) mn l9 = some p ∧ q0 = (KS2 ++ p.1, (xs ++ [(x, h)]).map (·.1) ++ p.2.1, p.2.2)) := Lib.hid (fun q0 hb1 hq => by
       obtain ⟨r, f1, f2, f3, p, f4, f5⟩ := HC2.out q0 hb1 hq
       have e3 : rr2 = some r := by rw [HRR2.out]; first | exact f1 | (rw [f2]; exact f1)
       obtain ⟨s1, s2, s3, _, s5⟩ := HX9.out r e3
       obtain rfl : mn = r.2.2 := by omega
       refine ⟨s5, f3, by omega, p, by rw [s2]; exact f4, ?_⟩
       rw [f5, s1]
       simp)
      clear HX9 HC2 hm3 HRR2
      have y0 := hVB.c0
      have y1 := hVB.c1
      have y2 := hVB.c2
      have y3 := hVB.c3
      have y4 := hVB.c4
      have x4 := hX9.c4
      have hown5 : Own w9 (xb + 1) 50 5 A L.length c (rowC vlC xs) := hxl.out ▸ hS9.own
      go_wp2_with (with_reducible refine h_A ?_)
      refine unhold (wp_rec (W := w9) vlShape slVl Tryz.underlying48 rfl rfl rfl rfl rfl (x, h) rfl hown5 (by omega) (by omega) (by omega) ?_)
      intro A9 c9 wA ho9 hgA hA9 _
      have hSA := hS9.push h4 hX7l hV9 (by rw [hxl.out]; exact ho9) hgA hA9
      have hnb : ∀ g', blk A = some g' → xb + 1 ≤ g' ∧ w.heap.size ≤ g' := fun g' hg' => by have := (hS9.own.blk_lt hg').1; omega
      have hXA := hX9.grown hgA (by intro e; have := hnb _ e.symm; omega)
      have hRBA := hRB9.grown hgA (by intro e; have := hnb _ e.symm; omega)
      have hRA := hR9.kept hgA (fun g hg hFg => by have := hnb g hg; have := hF g hFg; omega)
      have hKPA := hKP9.grown hBw hgA (fun g hg => by have := hnb g hg; exact ⟨by omega, .inr (.inr this.2)⟩)
      clear y0 y1 y2 y3 y4 x4 hX9 hR9 hRB9 hKP9 hS9 hown5 ho9 hgA hA9 hnb hVB hV9
      go_wp2_with (with_reducible refine h_B ?_)
      refine unhold (wp_box (v := .slice A9 (L.length + 1) c9) (vs := [.slice A9 (L.length + 1) c9]) rfl rfl rfl rfl hXA rfl (by kernel_rfl) (by simp) (by simp; rfl) #[.int .u8 169, .int .u64 0, .string ⟨#[]⟩, .slice A4 KS2.length c4, .slice A9 (L.length + 1) c9] (by simp) ?_)
      intro wC hXC hgC _
      have hSC := hSA.box hgC (by omega)
      have hRBC := hRBA.grown hgC (sne (by omega))
      have hRC := hRA.kept hgC (fun g' hg' hFg => by injection hg' with hg'; have := hF g' hFg; omega)
      have hKPC := hKPA.grown hBw hgC (fun g' hg' => by injection hg' with hg'; exact ⟨by omega, .inr (.inr (by omega))⟩)
      go_wp2_with (with_reducible refine h_A ?_)
      exact ⟨⟨L.length + 1, mn, KS2, A4, c4, A9, c9, xs ++ [(x, h)], l9, b9, by omega, by go_num, rfl, by omega, Lib.hid (by rw [List.length_append, hxl.out]; rfl), hkl2, hk2, hSC, hXC, hRC, hKPC, hRBC, HC3⟩, by simp [RowKit.intOf]; omega⟩
    ·have HGO := Lib.hid hgo
     clear hgo
     have hrv := hS.rv (k := 169) (B := xb + 1) (by omega) (by omega) (fun x hx => by have := hk255.out x hx; omega) (by omega) (by rw [hxl.out]; omega)
     rw [← HL.out] at hrv
     have HEND : Hid (∀ q, rr = some q → (.mk 169 0 [] KS L : Vl) = q.1 ∧ li = q.2.1 ∧ ni = q.2.2 ∧ bi = false) := Lib.hid (fun q hq => by
      obtain ⟨hb1, q0, e1, e2⟩ := HV2.out q hq
      obtain ⟨f1, f2, f3, p, f4, f5⟩ := HC.out q0 hb1 e1
      have hcl : CN - L.length = 0 := by
       have := HGO.out
       by_cases h : L.length < CN
       ·exact absurd ⟨h, by omega, f1⟩ this
       ·omega
      rw [hcl, vloop] at f4
      injection f4 with f4
      subst f4
      simp only [List.append_nil] at f5
      rw [e2, f5, HL.out]
      exact ⟨rfl, rfl, rfl, f1⟩)
     clear HC HV2
     by_cases g1 : L.length < CN
     ·have g3 : (L.length : Int) < (CN : Int) := by omega
      by_cases g2 : L.length < 200
      ·have g4 : (L.length : Int) < 200 := by omega
       cases bi
       ·exact absurd ⟨g1, g2, rfl⟩ HGO.out
       ·go_wp2_with (with_reducible refine h_A ?_)
        go_meet
        exact ⟨.mk 169 0 [] KS L, ⟨AK, cK, A, c⟩, ni, li, _, rfl, hX, hrv, hR, hKP, hRB, hni, HEND⟩
      ·have g4 : ¬ (L.length : Int) < 200 := by omega
       go_wp2_with (with_reducible refine h_A ?_)
       go_meet
       exact ⟨.mk 169 0 [] KS L, ⟨AK, cK, A, c⟩, ni, li, _, rfl, hX, hrv, hR, hKP, hRB, hni, HEND⟩
     ·have g3 : ¬ (L.length : Int) < (CN : Int) := by omega
      go_wp2_with (with_reducible refine h_A ?_)
      go_meet
      exact ⟨.mk 169 0 [] KS L, ⟨AK, cK, A, c⟩, ni, li, _, rfl, hX, hrv, hR, hKP, hRB, hni, HEND⟩
  have HEND : Hid (∀ q, rr = some q → (.mk k 0 [] [] [] : Vl) = q.1 ∧ l1 = q.2.1 ∧ n - 1 = q.2.2 ∧ b1 = false) := Lib.hid (fun q hq => by
   obtain ⟨hb1, hv⟩ := HV.out q hq
   by_cases k240 : k = 240
   ·rw [if_pos k240] at hv
    injection hv with hv
    subst hv k240
    exact ⟨rfl, rfl, rfl, hb1⟩
   ·rw [if_neg k240, if_neg (by omega), if_neg (by omega), if_neg k149, if_neg k160, if_neg (by omega)] at hv
    cases hv)
  have j8 : (kI == 8) = false := by rw [← HKI.out]; simp; omega
  have j2 : (kI == 2) = false := by rw [← HKI.out]; simp; omega
  have j49 : (kI == 49) = false := by rw [← HKI.out]; simp; omega
  have j50 : (kI == 50) = false := by rw [← HKI.out]; simp; omega
  have j149 : (kI == 149) = false := by rw [← HKI.out]; simp; omega
  have j160 : (kI == 160) = false := by rw [← HKI.out]; simp; omega
  have j168 : (kI == 168) = false := by rw [← HKI.out]; simp; omega
  have j169 : (kI == 169) = false := by rw [← HKI.out]; simp; omega
  clear k8 k2 k49 k50 k149 k160 k168 k169
  have hX7 := hX
  rw [← HKI.out] at hX7
  go_wp2_with (with_reducible refine h_A ?_)
  go_meet
  exact ⟨.mk k 0 [] [] [], ⟨none, 0, none, 0⟩, n - 1, l1, b1, (by first | rfl | rw [hn1]), hX7, RV.leaf _ _ _ _ _ (by omega) (by omega) (by simp), hR, hKP, hRBx, by omega, HEND⟩
 case rest =>
  obtain ⟨x, h, m, l2, b2, rfl, hX, hV, hR, hKP, hRB, hmn, HX⟩ := hcut
  have hcb : wc.cell? ⟨b, 1, none⟩ = some (.bool b2) := by
   obtain ⟨A', n', c', e0, e1, _⟩ := hR
   exact e1
  unfold vlV at hX
  clear HV HKI
  go_upto_region 31 with fail
  refine rg_start (fun W : World => Box W xb 50 #[.int .u8 (x.kind : Int), .int .u64 (x.n : Int), .string (str x.s), .slice h.A1 x.keys.length h.c1, .slice h.A2 x.list.length h.c2] ∧ W.cell? ⟨b, 1, none⟩ = some (.bool b2)) (by kernel_rfl) ?_
  have hS : Box wc.drew xb 50 #[.int .u8 (x.kind : Int), .int .u64 (x.n : Int), .string (str x.s), .slice h.A1 x.keys.length h.c1, .slice h.A2 x.list.length h.c2] ∧ wc.drew.cell? ⟨b, 1, none⟩ = some (.bool b2) := ⟨hX, hcb⟩
  have hV : RV wc.drew (FN (xb + 1) wc.drew) x h := hV.keep (fun g hg => rfl) (Nat.le_refl _)
  have hR := hR.drew
  have hKP := hKP.drew
  have hRB : Box wc.drew rb 50 #[.int .u8 0, .int .u64 0, .string ⟨#[]⟩, .slice none 0 0, .slice none 0 0] := hRB
  clear hX hcb
  generalize wc.drew = wd at *
  refine rg_take 0 (v := ?_) rfl (by kernel_rfl) (by kernel_rfl) (by kernel_rfl) hS rfl ?_ ?_
  rotate_left
  ·intro wS hSw; have y0 := hSw.1.cell (j := 0) rfl; have y1 := hSw.1.cell (j := 1) rfl; have y2 := hSw.1.cell (j := 2) rfl; have y3 := hSw.1.cell (j := 3) rfl; have y4 := hSw.1.cell (j := 4) rfl; go_simp; (with_reducible rfl)
  simp only [List.getElem_toArray, List.getElem_cons_zero, Act.put, List.setIfInBounds_toArray, List.set_cons_zero, List.set_cons_succ]
  refine rg_t 1 hS ?_
  simp only [g_S, Act.put]
  refine rg_t 2 hS ?_
  simp only [g_S, Act.put]
  refine rg_t 3 hS ?_
  simp only [g_S, Act.put]
  refine rg_t 4 hS ?_
  simp only [g_S, Act.put]
  refine rg_take 5 (v := ?_) rfl (by kernel_rfl) (by kernel_rfl) (by kernel_rfl) hS rfl ?_ ?_
  rotate_left
  ·intro wS hSw; have y0 := hSw.2; go_simp; (with_reducible rfl)
  simp only [g_S, Act.put]
  refine rg_t 6 hS ?_
  simp only [g_S, Act.put]
  refine rg_one 7 rfl (by kernel_rfl) rfl (fun K hK => ?_)
  refine op_box (g := rb) (j := 0) (v := .agg #[.int .u8 (x.kind : Int), .int .u64 (x.n : Int), .string (str x.s), .slice h.A1 x.keys.length h.c1, .slice h.A2 x.list.length h.c2]) (vs := [.int .u8 (x.kind : Int), .int .u64 (x.n : Int), .string (str x.s), .slice h.A1 x.keys.length h.c1, .slice h.A2 x.list.length h.c2]) rfl rfl rfl hRB rfl (by kernel_rfl) (by simp) (vl_one x h) #[.int .u8 (x.kind : Int), .int .u64 (x.n : Int), .string (str x.s), .slice h.A1 x.keys.length h.c1, .slice h.A2 x.list.length h.c2] (by simp) ?_
  intro we hRBe hge _
  have hS2 : Box we xb 50 #[.int .u8 (x.kind : Int), .int .u64 (x.n : Int), .string (str x.s), .slice h.A1 x.keys.length h.c1, .slice h.A2 x.list.length h.c2] ∧ we.cell? ⟨b, 1, none⟩ = some (.bool b2) := ⟨hS.1.grown hge (sne (by omega)), hge.cell hS.2 (by intro e; have e2 : b = rb := (by simpa using e); omega)⟩
  have hRe := hR.kept hge (fun g hg hFg => by injection hg with hg; have := hF g hFg; omega)
  have hKPe := hKP.grown hBw hge (fun g hg => by injection hg with hg; exact ⟨by omega, .inr (.inr (by omega))⟩)
  refine hK _ _ hS2 ?_; clear hK K
  try simp only [g_S, Act.put]
  refine rg_t 8 hS2 ?_
  simp only [g_S, Act.put]
  refine rg_t 9 hS2 ?_
  simp only [g_S, Act.put]
  refine rg_end (by kernel_rfl) ?_
  go_wp2_with (with_reducible refine h_A ?_)
  refine ret_box_tmp2x rfl hRBe rfl rfl rfl Tryz.underlying50 rfl (by kernel_rfl) rfl ?_
  refine ⟨x, h, (m : Int), !b2, l2, b2, rfl, ?_, hRe, hKPe, by omega, by omega, (fun _ => by omega), fun q hq => ?_⟩
  ·exact (hV.keep (fun g hg => hge.block g hg.2 (by intro e; injection e with e; have := hg.1; omega)) hge.size).mono (fun g hg => ⟨by have := hg.1; omega, Nat.lt_of_lt_of_le hg.2 hge.size⟩)
  ·obtain ⟨e1, e2, e3, e4⟩ := HX.out q hq
   exact ⟨e1, e2, by rw [e3], by rw [e4]; rfl, e4⟩
theorem rread_any : ∀ f, RReadC f
 | 0 => rread_zero
 | f + 1 => rread_succ f (rread_any f)
end Go.PH
end

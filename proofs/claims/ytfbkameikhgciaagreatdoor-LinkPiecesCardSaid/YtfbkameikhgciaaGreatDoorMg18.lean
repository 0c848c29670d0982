/- Texts laid together: VlRead. -/
import Derived.Test.YtfbkameikhgciaaGreatDoorMg17
set_option linter.all false
set_option linter.unusedSimpArgs false
set_option linter.unusedVariables false
set_option maxRecDepth 20000
set_option maxHeartbeats 8000000
section
namespace Go.PH
open Go.RowKit Go.Proofs
theorem RV.leaf (w : World) (F : Nat → Prop) (k n : Nat) (s : List UInt8) (hk : k < 256) (hn : n < 18446744073709551616) (hs : s.length ≤ 140737488351232) : RV w F (.mk k n s [] []) ⟨none, 0, none, 0⟩ :=
 ⟨[], hk, hn, hs, RdX.nil _ _ _ _ _ (by simp [maxLen]), fun k hk => (by cases hk), (by show (0 : Nat) ≤ _; omega), (by show (0 : Nat) ≤ _; omega), RdX.nil _ _ _ _ _ (by simp [maxLen]), rfl, fun p hp => by cases hp⟩
theorem jR (f n : Nat) (l : List UInt8) (bad : Bool) (h : n = 0 ∨ (mnum l bad 1).2.2 = true ∨ f = 0) : jZ f n l bad = none := by
 unfold jZ
 cases bad
 ·rw [if_neg (by decide)]
  cases f with
  | zero => rw [yx]
  | succ f =>
   have h' : n = 0 ∨ (mnum l false 1).2.2 = true := by
    rcases h with h | h | h
    ·exact .inl h
    ·exact .inr h
    ·cases h
   rw [yx, if_pos h']
 ·exact if_pos rfl
theorem KM {f n k : Nat} {l l1 : List UInt8} (h : (k, l1, false) = mnum l false 1) (hn : n ≠ 0) : yx (f + 1) n l =
  if k = 240 then some (.mk 240 0 [] [] [], l1, n - 1)
  else if k = 8 ∨ k = 2 then (if (mnum l1 false 1).2.2 = true then none else some (.mk k (mnum l1 false 1).1 [] [] [], (mnum l1 false 1).2.1, n - 1))
  else if k = 50 ∨ k = 49 then (if (mnum l1 false 8).2.2 = true then none else some (.mk k (mnum l1 false 8).1 [] [] [], (mnum l1 false 8).2.1, n - 1))
  else if k = 149 then (if (zR l1 false 2 4096).2.2 = true then none else some (.mk 149 0 (zR l1 false 2 4096).1 [] [], (zR l1 false 2 4096).2.1, n - 1))
  else if k = 160 then (if (zR l1 false 4 4096).2.2 = true then none else some (.mk 160 0 (zR l1 false 4 4096).1 [] [], (zR l1 false 4 4096).2.1, n - 1))
  else if k = 168 ∨ k = 169 then (j4 (yx f) (decide (k = 168)) (n - 1) l1).map (fun q => (.mk k 0 [] q.1 q.2.1, q.2.2)) else none := by
 have h' : ¬ (n = 0 ∨ (mnum l false 1).2.2 = true) := by
  rw [← h]
  rintro (e | e)
  ·exact hn e
  ·cases e
 by_cases hk : k = 168 ∨ k = 169
 ·have hv := X4 (f := f) h' (by rw [← h]; exact hk)
  rw [← h] at hv
  rw [hv, if_neg (by omega), if_neg (by omega), if_neg (by omega), if_neg (by omega), if_neg (by omega), if_pos hk]
 ·rw [yx, if_neg h', ← h]
  simp only
  rw [if_neg hk, if_neg hk]
theorem Jy : YK 0 := by
 intro d n F B pb vb v l bad w hdf hr hp hFp hF hBp hn
 have hvb := hr.inF rfl
 have hvB := hF vb hvb
 have hpv : pb ≠ vb := fun e => hFp (e ▸ hvb)
 have hpw := hp.lt
 have hBw : B ≤ w.heap.size := by omega
 obtain ⟨rr, hrr⟩ : ∃ q, q = jZ 0 n l bad := ⟨_, rfl⟩
 rw [← hrr]
 have HRR := Lib.hid hrr
 clear hrr
 have hk1 := Xi l bad
 obtain ⟨q1, hq1⟩ : ∃ q, q = mnum l bad 1 := ⟨_, rfl⟩
 rw [← hq1] at hk1
 obtain ⟨k, l1, b1⟩ := q1
 simp only at hk1
 have HQ1 := Lib.hid hq1
 clear hq1
 obtain ⟨rb, w1, hrb, hrv, hRB, hB1⟩ := zo w #[.int .u8 0, .int .u64 0, .string ⟨#[]⟩, .slice none 0 0, .slice none 0 0] 78
 have hr1 := hr.below hB1
 have hp1 := hp.below hB1
 have hKP1 := (KP.refl B pb vb w).below hBw hB1
 have c1 := hp1.c1
 go_enter Tryz.func177, Tryz.ntmps177
 go_upto_region 1 with fail
 rw [← hrb, ← hrv]
 have hrw : w.heap.size ≤ rb := by omega
 clear hrb hrv hr hp hB1
 go_wp2_with (with_reducible refine h_B ?_)
 refine zc (zm (v := .int .i64 ((n : Int) - 1)) (vs := [.int .i64 ((n : Int) - 1)]) rfl rfl rfl rfl hp1 rfl (by kernel_rfl) (by simp) (by simp; rfl) #[v, .int .i64 ((n : Int) - 1)] (by simp) ?_)
 intro w2 hp2 hg2 _
 have hRB2 := hRB.grown hg2 (sne (by omega))
 have hr2 := hr1.kept hg2 (fun g hg => by injection hg with hg; subst hg; exact hFp)
 have hKP2 := hKP1.grown hBw hg2 (fun g hg => by injection hg with hg; subst hg; exact ⟨hBp, .inl rfl⟩)
 clear c1 hr1 hp1 hKP1 hRB hg2
 have c0 := hp2.c0
 have h1 := zP hr2 1 (by omega) (by omega)
 rw [← HQ1.out] at h1
 go_wp2_with (with_reducible refine h_B ?_)
 refine h1.mono ?_
 rintro e w3 ⟨rfl, hr3, hg3⟩
 have hRB3 := hRB2.grown hg3 (sne (by omega))
 have hp3 := hp2.grown hg3 (sne (by omega))
 have hKP3 := hKP2.grown hBw hg3 (fun g hg => by injection hg with hg; subst hg; exact ⟨hvB.1, .inr (.inl rfl)⟩)
 clear c0 h1 hr2 hp2 hKP2 hRB2 hg3
 try simp only at hr3
 have hz := Box.new w3 #[.int .u8 0, .int .u64 0, .string ⟨#[]⟩, .slice none 0 0, .slice none 0 0] 78
 have hBz := (Below.refl w3.heap.size w3).alloc (Nat.le_refl _) (.cells #[.int .u8 0, .int .u64 0, .string ⟨#[]⟩, .slice none 0 0, .slice none 0 0] 78)
 have hRBl := hRB3.lt
 go_wp2_with (with_reducible refine h_B ?_)
 obtain ⟨xb, hxb⟩ : ∃ g, g = w3.heap.size := ⟨_, rfl⟩
 rw [← hxb] at hz hRBl ⊢
 have hr4 := hr3.below hBz
 have hp4 := hp3.below hBz
 have hRB4 := hRB3.below hBz
 have hKP4 := hKP3.below hBw hBz
 have hxa : w3.heap.size ≤ xb := by omega
 have hxa2 : xb ≤ w3.heap.size := by omega
 have hB3 : B ≤ w3.heap.size := Nat.le_trans hBw hKP3.size
 have hKPa := (KP.refl B pb vb w3).below hB3 hBz
 have hxw : w.heap.size ≤ xb := by omega
 have hpx : pb ≠ xb := by omega
 have hvx : vb ≠ xb := by omega
 clear hxb hr3 hp3 hBz
 generalize (w3.alloc (.cells #[.int .u8 0, .int .u64 0, .string ⟨#[]⟩, .slice none 0 0, .slice none 0 0] 78)) = w4 at *
 refine zc (zm (v := .agg #[.int .u8 (k : Int), .int .u64 0, .string ⟨#[]⟩, .slice none 0 0, .slice none 0 0]) (vs := [.int .u8 (k : Int), .int .u64 0, .string ⟨#[]⟩, .slice none 0 0, .slice none 0 0]) rfl rfl rfl rfl hz rfl (by kernel_rfl) (by simp) (by intro u hu; simp at hu; rcases hu with rfl | rfl | rfl | rfl <;> rfl) #[.int .u8 (k : Int), .int .u64 0, .string ⟨#[]⟩, .slice none 0 0, .slice none 0 0] (by simp) ?_)
 intro w5 hX hg5 _
 have hR := hr4.kept hg5 (fun g hg hFg => by injection hg with hg; have := hF g hFg; omega)
 have hP := hp4.grown hg5 (sne (by omega))
 have hRB := hRB4.grown hg5 (sne (by omega))
 have hKP := hKP4.grown hBw hg5 (fun g hg => by injection hg with hg; exact ⟨by omega, .inr (.inr (by omega))⟩)
 replace hKPa := hKPa.grown hB3 hg5 (fun g hg => by injection hg with hg; exact ⟨by omega, .inr (.inr (by omega))⟩)
 clear hz hr4 hp4 hRB4 hKP4 hg5
 have c1 := hP.c1
 have HR0 : Hid (rr = none) := Lib.hid (by rw [HRR.out, jR _ _ _ _ (.inr (.inr rfl))])
 obtain rfl : d = 7 := by omega
 by_cases h0 : n = 0
 ·have g0 : ¬ (0 : Int) ≤ (n : Int) - 1 := by omega
  have hmu := yL hR hP false (.inl rfl)
  go_wp2_with (with_reducible refine h_A ?_)
  refine hmu.mono ?_
  rintro e w9 ⟨rfl, rfl⟩
  go_wp2_with (with_reducible refine h_A ?_)
  rw [HR0.out]
  exact ⟨rfl, rfl, hKP⟩
 ·have g0 : (0 : Int) ≤ (n : Int) - 1 := by omega
  have hmu := yL hR hP false (.inl rfl)
  go_wp2_with (with_reducible refine h_A ?_)
  refine hmu.mono ?_
  rintro e w9 ⟨rfl, rfl⟩
  go_wp2_with (with_reducible refine h_A ?_)
  rw [HR0.out]
  exact ⟨rfl, rfl, hKP⟩
theorem Jz (f : Nat) (hrec : YK f) : YK (f + 1) := by
 intro d n F B pb vb v l bad w hdf hr hp hFp hF hBp hn
 have hvb := hr.inF rfl
 have hvB := hF vb hvb
 have hpv : pb ≠ vb := fun e => hFp (e ▸ hvb)
 have hpw := hp.lt
 have hBw : B ≤ w.heap.size := by omega
 obtain ⟨rr, hrr⟩ : ∃ q, q = jZ (f + 1) n l bad := ⟨_, rfl⟩
 rw [← hrr]
 have HRR := Lib.hid hrr
 clear hrr
 have hk1 := Xi l bad
 obtain ⟨q1, hq1⟩ : ∃ q, q = mnum l bad 1 := ⟨_, rfl⟩
 rw [← hq1] at hk1
 obtain ⟨k, l1, b1⟩ := q1
 simp only at hk1
 have HQ1 := Lib.hid hq1
 clear hq1
 obtain ⟨rb, w1, hrb, hrv, hRB, hB1⟩ := zo w #[.int .u8 0, .int .u64 0, .string ⟨#[]⟩, .slice none 0 0, .slice none 0 0] 78
 have hr1 := hr.below hB1
 have hp1 := hp.below hB1
 have hKP1 := (KP.refl B pb vb w).below hBw hB1
 have c1 := hp1.c1
 go_enter Tryz.func177, Tryz.ntmps177
 go_upto_region 1 with fail
 rw [← hrb, ← hrv]
 have hrw : w.heap.size ≤ rb := by omega
 clear hrb hrv hr hp hB1
 go_wp2_with (with_reducible refine h_B ?_)
 refine zc (zm (v := .int .i64 ((n : Int) - 1)) (vs := [.int .i64 ((n : Int) - 1)]) rfl rfl rfl rfl hp1 rfl (by kernel_rfl) (by simp) (by simp; rfl) #[v, .int .i64 ((n : Int) - 1)] (by simp) ?_)
 intro w2 hp2 hg2 _
 have hRB2 := hRB.grown hg2 (sne (by omega))
 have hr2 := hr1.kept hg2 (fun g hg => by injection hg with hg; subst hg; exact hFp)
 have hKP2 := hKP1.grown hBw hg2 (fun g hg => by injection hg with hg; subst hg; exact ⟨hBp, .inl rfl⟩)
 clear c1 hr1 hp1 hKP1 hRB hg2
 have c0 := hp2.c0
 have h1 := zP hr2 1 (by omega) (by omega)
 rw [← HQ1.out] at h1
 go_wp2_with (with_reducible refine h_B ?_)
 refine h1.mono ?_
 rintro e w3 ⟨rfl, hr3, hg3⟩
 have hRB3 := hRB2.grown hg3 (sne (by omega))
 have hp3 := hp2.grown hg3 (sne (by omega))
 have hKP3 := hKP2.grown hBw hg3 (fun g hg => by injection hg with hg; subst hg; exact ⟨hvB.1, .inr (.inl rfl)⟩)
 clear c0 h1 hr2 hp2 hKP2 hRB2 hg3
 try simp only at hr3
 have hz := Box.new w3 #[.int .u8 0, .int .u64 0, .string ⟨#[]⟩, .slice none 0 0, .slice none 0 0] 78
 have hBz := (Below.refl w3.heap.size w3).alloc (Nat.le_refl _) (.cells #[.int .u8 0, .int .u64 0, .string ⟨#[]⟩, .slice none 0 0, .slice none 0 0] 78)
 have hRBl := hRB3.lt
 go_wp2_with (with_reducible refine h_B ?_)
 obtain ⟨xb, hxb⟩ : ∃ g, g = w3.heap.size := ⟨_, rfl⟩
 rw [← hxb] at hz hRBl ⊢
 have hr4 := hr3.below hBz
 have hp4 := hp3.below hBz
 have hRB4 := hRB3.below hBz
 have hKP4 := hKP3.below hBw hBz
 have hxa : w3.heap.size ≤ xb := by omega
 have hxa2 : xb ≤ w3.heap.size := by omega
 have hB3 : B ≤ w3.heap.size := Nat.le_trans hBw hKP3.size
 have hKPa := (KP.refl B pb vb w3).below hB3 hBz
 have hxw : w.heap.size ≤ xb := by omega
 have hpx : pb ≠ xb := by omega
 have hvx : vb ≠ xb := by omega
 clear hxb hr3 hp3 hBz
 generalize (w3.alloc (.cells #[.int .u8 0, .int .u64 0, .string ⟨#[]⟩, .slice none 0 0, .slice none 0 0] 78)) = w4 at *
 refine zc (zm (v := .agg #[.int .u8 (k : Int), .int .u64 0, .string ⟨#[]⟩, .slice none 0 0, .slice none 0 0]) (vs := [.int .u8 (k : Int), .int .u64 0, .string ⟨#[]⟩, .slice none 0 0, .slice none 0 0]) rfl rfl rfl rfl hz rfl (by kernel_rfl) (by simp) (by intro u hu; simp at hu; rcases hu with rfl | rfl | rfl | rfl <;> rfl) #[.int .u8 (k : Int), .int .u64 0, .string ⟨#[]⟩, .slice none 0 0, .slice none 0 0] (by simp) ?_)
 intro w5 hX hg5 _
 have hR := hr4.kept hg5 (fun g hg hFg => by injection hg with hg; have := hF g hFg; omega)
 have hP := hp4.grown hg5 (sne (by omega))
 have hRB := hRB4.grown hg5 (sne (by omega))
 have hKP := hKP4.grown hBw hg5 (fun g hg => by injection hg with hg; exact ⟨by omega, .inr (.inr (by omega))⟩)
 replace hKPa := hKPa.grown hB3 hg5 (fun g hg => by injection hg with hg; exact ⟨by omega, .inr (.inr (by omega))⟩)
 clear hz hr4 hp4 hRB4 hKP4 hg5
 have c1 := hP.c1
 have gd : (d : Int) ≤ 6 := by omega
 by_cases h0 : n = 0
 ·have HR0 : Hid (rr = none) := Lib.hid (by rw [HRR.out, jR _ _ _ _ (.inl h0)])
  have g0 : ¬ (0 : Int) ≤ (n : Int) - 1 := by omega
  have hmu := yL hR hP false (.inl rfl)
  go_wp2_with (with_reducible refine h_A ?_)
  refine hmu.mono ?_
  rintro e w9 ⟨rfl, rfl⟩
  go_wp2_with (with_reducible refine h_A ?_)
  rw [HR0.out]
  exact ⟨rfl, rfl, hKP⟩
 have g0 : (0 : Int) ≤ (n : Int) - 1 := by omega
 cases b1
 case true =>
  have HR0 : Hid (rr = none) := Lib.hid (by rw [HRR.out, jR _ _ _ _ (.inr (.inl (by rw [← HQ1.out])))])
  have hmu := yL hR hP true (.inr rfl)
  go_wp2_with (with_reducible refine h_A ?_)
  refine hmu.mono ?_
  rintro e w9 ⟨rfl, rfl⟩
  go_wp2_with (with_reducible refine h_A ?_)
  rw [HR0.out]
  exact ⟨rfl, rfl, hKP⟩
 case false =>
  obtain rfl : bad = false := by
   cases bad
   ·rfl
   ·have := HQ1.out
    rw [KJ] at this
    injection this with _ this
    injection this with _ this
    cases this
  have hrr : rr = yx (f + 1) n l := HRR.out
  rw [KM HQ1.out h0] at hrr
  have HV := Lib.hid hrr
  clear HRR HQ1 hrr
  have hn1 : ((n : Int) - 1) = ((n - 1 : Nat) : Int) := by omega
  have hmu := yJ hR hP
  go_wp2_with (with_reducible refine h_A ?_)
  refine hmu.mono ?_
  rintro e w6 ⟨rfl, rfl⟩
  clear hmu c1
  rw [hn1] at hP
  have x0 := hX.c0
  generalize hkI : (k : Int) = kI at *
  have HKI := Lib.hid hkI
  clear x0 hkI
  by_cases k240 : k = 240
  ·subst k240
   obtain rfl : kI = 240 := by rw [← HKI.out]; rfl
   have HR0 : Hid (rr = some (.mk 240 0 [] [] [], l1, n - 1)) := Lib.hid (by rw [HV.out, if_pos rfl])
   clear HV
   have hmu2 := yJ hR hP
   have x0 := hX.c0
   go_wp2_with (with_reducible refine h_A ?_)
   refine hmu2.mono ?_
   rintro e w9 ⟨rfl, rfl⟩
   clear hmu2 x0
   have x0 := hX.c0
   have x1 := hX.c1
   have x2 := hX.c2
   have x3 := hX.c3
   have x4 := hX.c4
   go_wp2_with (with_reducible refine h_B ?_)
   refine zc (zm (v := .agg #[.int .u8 240, .int .u64 0, .string ⟨#[]⟩, .slice none 0 0, .slice none 0 0]) (vs := [.int .u8 240, .int .u64 0, .string ⟨#[]⟩, .slice none 0 0, .slice none 0 0]) rfl rfl rfl rfl hRB rfl (by kernel_rfl) (by simp) (by intro u hu; simp at hu; rcases hu with rfl | rfl | rfl | rfl | rfl <;> rfl) #[.int .u8 240, .int .u64 0, .string ⟨#[]⟩, .slice none 0 0, .slice none 0 0] (by simp) ?_)
   intro w8 hRB8 hg8 _
   have hR8 := hR.kept hg8 (fun g hg hFg => by injection hg with hg; have := hF g hFg; omega)
   have hP8 := hP.grown hg8 (sne (by omega))
   have hKP8 := hKP.grown hBw hg8 (fun g hg => by injection hg with hg; exact ⟨by omega, .inr (.inr (by omega))⟩)
   go_wp2_with (with_reducible refine h_A ?_)
   refine yP rfl hRB8 rfl Tryz.underlying78 rfl (by kernel_rfl) rfl ?_
   rw [HR0.out]
   exact ⟨⟨none, 0, none, 0⟩, rfl, RV.leaf _ _ _ _ _ (by omega) (by omega) (by simp), hR8, hP8, hKP8⟩
  by_cases k8 : k = 8
  ·subst k8
   obtain rfl : kI = 8 := by rw [← HKI.out]; rfl
   have HV2 : Hid (rr = if (mnum l1 false 1).2.2 = true then none else some (.mk 8 (mnum l1 false 1).1 [] [] [], (mnum l1 false 1).2.1, n - 1)) := Lib.hid (by rw [HV.out, if_neg (by decide), if_pos (.inl rfl)])
   clear HV
   have x0 := hX.c0
   have c0 := hP.c0
   have h2 := zP hR 1 (by omega) (by omega)
   have hlt := qo l1 false 1
   obtain ⟨T, hT⟩ : ∃ t, t = mnum l1 false 1 := ⟨_, rfl⟩
   rw [← hT] at h2 hlt HV2
   obtain ⟨x, l2, b2⟩ := T
   simp only at h2 hlt
   clear hT
   go_wp2_with (with_reducible refine h_B ?_)
   refine h2.mono ?_
   rintro e w6 ⟨rfl, hR2, hg2⟩
   replace hR := hR2
   replace hP := hP.grown hg2 (sne (by omega))
   replace hX := hX.grown hg2 (sne (by omega))
   replace hRB := hRB.grown hg2 (sne (by omega))
   replace hKP := hKP.grown hBw hg2 (fun g hg => by injection hg with hg; subst hg; exact ⟨hvB.1, .inr (.inl rfl)⟩)
   clear hR2 hg2 c0 x0
   clear h2
   go_wp2_with (with_reducible refine h_B ?_)
   refine zc (zm (v := .int .u64 (x : Int)) (vs := [.int .u64 (x : Int)]) rfl rfl rfl rfl hX rfl (by kernel_rfl) (by simp) (by simp; rfl) #[.int .u8 8, .int .u64 (x : Int), .string ⟨#[]⟩, .slice none 0 0, .slice none 0 0] (by simp) ?_)
   intro w7 hX7 hg8 _
   replace hR := hR.kept hg8 (fun g hg hFg => by injection hg with hg; have := hF g hFg; omega)
   replace hP := hP.grown hg8 (sne (by omega))
   replace hRB := hRB.grown hg8 (sne (by omega))
   replace hKP := hKP.grown hBw hg8 (fun g hg => by injection hg with hg; exact ⟨by omega, .inr (.inr (by omega))⟩)
   clear hg8
   clear hX
   have hX := hX7
   clear hX7
   cases b2
   ·have HR0 := Lib.hid (show rr = some (.mk 8 x [] [] [], l2, n - 1) by rw [HV2.out]; rfl)
    clear HV2
    have hmu2 := yJ hR hP
    have x0 := hX.c0
    go_wp2_with (with_reducible refine h_A ?_)
    refine hmu2.mono ?_
    rintro e w9 ⟨rfl, rfl⟩
    clear hmu2 x0
    have x0 := hX.c0
    have x1 := hX.c1
    have x2 := hX.c2
    have x3 := hX.c3
    have x4 := hX.c4
    go_wp2_with (with_reducible refine h_B ?_)
    refine zc (zm (v := .agg #[.int .u8 8, .int .u64 (x : Int), .string ⟨#[]⟩, .slice none 0 0, .slice none 0 0]) (vs := [.int .u8 8, .int .u64 (x : Int), .string ⟨#[]⟩, .slice none 0 0, .slice none 0 0]) rfl rfl rfl rfl hRB rfl (by kernel_rfl) (by simp) (by intro u hu; simp at hu; rcases hu with rfl | rfl | rfl | rfl | rfl <;> rfl) #[.int .u8 8, .int .u64 (x : Int), .string ⟨#[]⟩, .slice none 0 0, .slice none 0 0] (by simp) ?_)
    intro w8 hRB8 hg8 _
    have hR8 := hR.kept hg8 (fun g hg hFg => by injection hg with hg; have := hF g hFg; omega)
    have hP8 := hP.grown hg8 (sne (by omega))
    have hKP8 := hKP.grown hBw hg8 (fun g hg => by injection hg with hg; exact ⟨by omega, .inr (.inr (by omega))⟩)
    go_wp2_with (with_reducible refine h_A ?_)
    refine yP rfl hRB8 rfl Tryz.underlying78 rfl (by kernel_rfl) rfl ?_
    rw [HR0.out]
    exact ⟨⟨none, 0, none, 0⟩, rfl, RV.leaf _ _ _ _ _ (by omega) (by omega) (by simp), hR8, hP8, hKP8⟩
   ·have HR0 := Lib.hid (show rr = none by rw [HV2.out]; rfl)
    clear HV2
    have hmu2 := yL hR hP true (.inr rfl)
    go_wp2_with (with_reducible refine h_A ?_)
    refine hmu2.mono ?_
    rintro e w9 ⟨rfl, rfl⟩
    go_wp2_with (with_reducible refine h_A ?_)
    rw [HR0.out]
    exact ⟨rfl, rfl, hKP⟩
  by_cases k2 : k = 2
  ·subst k2
   obtain rfl : kI = 2 := by rw [← HKI.out]; rfl
   have HV2 : Hid (rr = if (mnum l1 false 1).2.2 = true then none else some (.mk 2 (mnum l1 false 1).1 [] [] [], (mnum l1 false 1).2.1, n - 1)) := Lib.hid (by rw [HV.out, if_neg (by decide), if_pos (.inr rfl)])
   clear HV
   have x0 := hX.c0
   have c0 := hP.c0
   have h2 := zP hR 1 (by omega) (by omega)
   have hlt := qo l1 false 1
   obtain ⟨T, hT⟩ : ∃ t, t = mnum l1 false 1 := ⟨_, rfl⟩
   rw [← hT] at h2 hlt HV2
   obtain ⟨x, l2, b2⟩ := T
   simp only at h2 hlt
   clear hT
   go_wp2_with (with_reducible refine h_B ?_)
   refine h2.mono ?_
   rintro e w6 ⟨rfl, hR2, hg2⟩
   replace hR := hR2
   replace hP := hP.grown hg2 (sne (by omega))
   replace hX := hX.grown hg2 (sne (by omega))
   replace hRB := hRB.grown hg2 (sne (by omega))
   replace hKP := hKP.grown hBw hg2 (fun g hg => by injection hg with hg; subst hg; exact ⟨hvB.1, .inr (.inl rfl)⟩)
   clear hR2 hg2 c0 x0
   clear h2
   go_wp2_with (with_reducible refine h_B ?_)
   refine zc (zm (v := .int .u64 (x : Int)) (vs := [.int .u64 (x : Int)]) rfl rfl rfl rfl hX rfl (by kernel_rfl) (by simp) (by simp; rfl) #[.int .u8 2, .int .u64 (x : Int), .string ⟨#[]⟩, .slice none 0 0, .slice none 0 0] (by simp) ?_)
   intro w7 hX7 hg8 _
   replace hR := hR.kept hg8 (fun g hg hFg => by injection hg with hg; have := hF g hFg; omega)
   replace hP := hP.grown hg8 (sne (by omega))
   replace hRB := hRB.grown hg8 (sne (by omega))
   replace hKP := hKP.grown hBw hg8 (fun g hg => by injection hg with hg; exact ⟨by omega, .inr (.inr (by omega))⟩)
   clear hg8
   clear hX
   have hX := hX7
   clear hX7
   cases b2
   ·have HR0 := Lib.hid (show rr = some (.mk 2 x [] [] [], l2, n - 1) by rw [HV2.out]; rfl)
    clear HV2
    have hmu2 := yJ hR hP
    have x0 := hX.c0
    go_wp2_with (with_reducible refine h_A ?_)
    refine hmu2.mono ?_
    rintro e w9 ⟨rfl, rfl⟩
    clear hmu2 x0
    have x0 := hX.c0
    have x1 := hX.c1
    have x2 := hX.c2
    have x3 := hX.c3
    have x4 := hX.c4
    go_wp2_with (with_reducible refine h_B ?_)
    refine zc (zm (v := .agg #[.int .u8 2, .int .u64 (x : Int), .string ⟨#[]⟩, .slice none 0 0, .slice none 0 0]) (vs := [.int .u8 2, .int .u64 (x : Int), .string ⟨#[]⟩, .slice none 0 0, .slice none 0 0]) rfl rfl rfl rfl hRB rfl (by kernel_rfl) (by simp) (by intro u hu; simp at hu; rcases hu with rfl | rfl | rfl | rfl | rfl <;> rfl) #[.int .u8 2, .int .u64 (x : Int), .string ⟨#[]⟩, .slice none 0 0, .slice none 0 0] (by simp) ?_)
    intro w8 hRB8 hg8 _
    have hR8 := hR.kept hg8 (fun g hg hFg => by injection hg with hg; have := hF g hFg; omega)
    have hP8 := hP.grown hg8 (sne (by omega))
    have hKP8 := hKP.grown hBw hg8 (fun g hg => by injection hg with hg; exact ⟨by omega, .inr (.inr (by omega))⟩)
    go_wp2_with (with_reducible refine h_A ?_)
    refine yP rfl hRB8 rfl Tryz.underlying78 rfl (by kernel_rfl) rfl ?_
    rw [HR0.out]
    exact ⟨⟨none, 0, none, 0⟩, rfl, RV.leaf _ _ _ _ _ (by omega) (by omega) (by simp), hR8, hP8, hKP8⟩
   ·have HR0 := Lib.hid (show rr = none by rw [HV2.out]; rfl)
    clear HV2
    have hmu2 := yL hR hP true (.inr rfl)
    go_wp2_with (with_reducible refine h_A ?_)
    refine hmu2.mono ?_
    rintro e w9 ⟨rfl, rfl⟩
    go_wp2_with (with_reducible refine h_A ?_)
    rw [HR0.out]
    exact ⟨rfl, rfl, hKP⟩
  by_cases k50 : k = 50
  ·subst k50
   obtain rfl : kI = 50 := by rw [← HKI.out]; rfl
   have HV2 : Hid (rr = if (mnum l1 false 8).2.2 = true then none else some (.mk 50 (mnum l1 false 8).1 [] [] [], (mnum l1 false 8).2.1, n - 1)) := Lib.hid (by rw [HV.out, if_neg (by decide), if_neg (by decide), if_pos (.inl rfl)])
   clear HV
   have x0 := hX.c0
   have c0 := hP.c0
   have h2 := zP hR 8 (by omega) (by omega)
   have hlt := qo l1 false 8
   obtain ⟨T, hT⟩ : ∃ t, t = mnum l1 false 8 := ⟨_, rfl⟩
   rw [← hT] at h2 hlt HV2
   obtain ⟨x, l2, b2⟩ := T
   simp only at h2 hlt
   clear hT
   go_wp2_with (with_reducible refine h_B ?_)
   refine h2.mono ?_
   rintro e w6 ⟨rfl, hR2, hg2⟩
   replace hR := hR2
   replace hP := hP.grown hg2 (sne (by omega))
   replace hX := hX.grown hg2 (sne (by omega))
   replace hRB := hRB.grown hg2 (sne (by omega))
   replace hKP := hKP.grown hBw hg2 (fun g hg => by injection hg with hg; subst hg; exact ⟨hvB.1, .inr (.inl rfl)⟩)
   clear hR2 hg2 c0 x0
   clear h2
   go_wp2_with (with_reducible refine h_B ?_)
   refine zc (zm (v := .int .u64 (x : Int)) (vs := [.int .u64 (x : Int)]) rfl rfl rfl rfl hX rfl (by kernel_rfl) (by simp) (by simp; rfl) #[.int .u8 50, .int .u64 (x : Int), .string ⟨#[]⟩, .slice none 0 0, .slice none 0 0] (by simp) ?_)
   intro w7 hX7 hg8 _
   replace hR := hR.kept hg8 (fun g hg hFg => by injection hg with hg; have := hF g hFg; omega)
   replace hP := hP.grown hg8 (sne (by omega))
   replace hRB := hRB.grown hg8 (sne (by omega))
   replace hKP := hKP.grown hBw hg8 (fun g hg => by injection hg with hg; exact ⟨by omega, .inr (.inr (by omega))⟩)
   clear hg8
   clear hX
   have hX := hX7
   clear hX7
   cases b2
   ·have HR0 := Lib.hid (show rr = some (.mk 50 x [] [] [], l2, n - 1) by rw [HV2.out]; rfl)
    clear HV2
    have hmu2 := yJ hR hP
    have x0 := hX.c0
    go_wp2_with (with_reducible refine h_A ?_)
    refine hmu2.mono ?_
    rintro e w9 ⟨rfl, rfl⟩
    clear hmu2 x0
    have x0 := hX.c0
    have x1 := hX.c1
    have x2 := hX.c2
    have x3 := hX.c3
    have x4 := hX.c4
    go_wp2_with (with_reducible refine h_B ?_)
    refine zc (zm (v := .agg #[.int .u8 50, .int .u64 (x : Int), .string ⟨#[]⟩, .slice none 0 0, .slice none 0 0]) (vs := [.int .u8 50, .int .u64 (x : Int), .string ⟨#[]⟩, .slice none 0 0, .slice none 0 0]) rfl rfl rfl rfl hRB rfl (by kernel_rfl) (by simp) (by intro u hu; simp at hu; rcases hu with rfl | rfl | rfl | rfl | rfl <;> rfl) #[.int .u8 50, .int .u64 (x : Int), .string ⟨#[]⟩, .slice none 0 0, .slice none 0 0] (by simp) ?_)
    intro w8 hRB8 hg8 _
    have hR8 := hR.kept hg8 (fun g hg hFg => by injection hg with hg; have := hF g hFg; omega)
    have hP8 := hP.grown hg8 (sne (by omega))
    have hKP8 := hKP.grown hBw hg8 (fun g hg => by injection hg with hg; exact ⟨by omega, .inr (.inr (by omega))⟩)
    go_wp2_with (with_reducible refine h_A ?_)
    refine yP rfl hRB8 rfl Tryz.underlying78 rfl (by kernel_rfl) rfl ?_
    rw [HR0.out]
    exact ⟨⟨none, 0, none, 0⟩, rfl, RV.leaf _ _ _ _ _ (by omega) (by omega) (by simp), hR8, hP8, hKP8⟩
   ·have HR0 := Lib.hid (show rr = none by rw [HV2.out]; rfl)
    clear HV2
    have hmu2 := yL hR hP true (.inr rfl)
    go_wp2_with (with_reducible refine h_A ?_)
    refine hmu2.mono ?_
    rintro e w9 ⟨rfl, rfl⟩
    go_wp2_with (with_reducible refine h_A ?_)
    rw [HR0.out]
    exact ⟨rfl, rfl, hKP⟩
  by_cases k49 : k = 49
  ·subst k49
   obtain rfl : kI = 49 := by rw [← HKI.out]; rfl
   have HV2 : Hid (rr = if (mnum l1 false 8).2.2 = true then none else some (.mk 49 (mnum l1 false 8).1 [] [] [], (mnum l1 false 8).2.1, n - 1)) := Lib.hid (by rw [HV.out, if_neg (by decide), if_neg (by decide), if_pos (.inr rfl)])
   clear HV
   have x0 := hX.c0
   have c0 := hP.c0
   have h2 := zP hR 8 (by omega) (by omega)
   have hlt := qo l1 false 8
   obtain ⟨T, hT⟩ : ∃ t, t = mnum l1 false 8 := ⟨_, rfl⟩
   rw [← hT] at h2 hlt HV2
   obtain ⟨x, l2, b2⟩ := T
   simp only at h2 hlt
   clear hT
   go_wp2_with (with_reducible refine h_B ?_)
   refine h2.mono ?_
   rintro e w6 ⟨rfl, hR2, hg2⟩
   replace hR := hR2
   replace hP := hP.grown hg2 (sne (by omega))
   replace hX := hX.grown hg2 (sne (by omega))
   replace hRB := hRB.grown hg2 (sne (by omega))
   replace hKP := hKP.grown hBw hg2 (fun g hg => by injection hg with hg; subst hg; exact ⟨hvB.1, .inr (.inl rfl)⟩)
   clear hR2 hg2 c0 x0
   clear h2
   go_wp2_with (with_reducible refine h_B ?_)
   refine zc (zm (v := .int .u64 (x : Int)) (vs := [.int .u64 (x : Int)]) rfl rfl rfl rfl hX rfl (by kernel_rfl) (by simp) (by simp; rfl) #[.int .u8 49, .int .u64 (x : Int), .string ⟨#[]⟩, .slice none 0 0, .slice none 0 0] (by simp) ?_)
   intro w7 hX7 hg8 _
   replace hR := hR.kept hg8 (fun g hg hFg => by injection hg with hg; have := hF g hFg; omega)
   replace hP := hP.grown hg8 (sne (by omega))
   replace hRB := hRB.grown hg8 (sne (by omega))
   replace hKP := hKP.grown hBw hg8 (fun g hg => by injection hg with hg; exact ⟨by omega, .inr (.inr (by omega))⟩)
   clear hg8
   clear hX
   have hX := hX7
   clear hX7
   cases b2
   ·have HR0 := Lib.hid (show rr = some (.mk 49 x [] [] [], l2, n - 1) by rw [HV2.out]; rfl)
    clear HV2
    have hmu2 := yJ hR hP
    have x0 := hX.c0
    go_wp2_with (with_reducible refine h_A ?_)
    refine hmu2.mono ?_
    rintro e w9 ⟨rfl, rfl⟩
    clear hmu2 x0
    have x0 := hX.c0
    have x1 := hX.c1
    have x2 := hX.c2
    have x3 := hX.c3
    have x4 := hX.c4
    go_wp2_with (with_reducible refine h_B ?_)
    refine zc (zm (v := .agg #[.int .u8 49, .int .u64 (x : Int), .string ⟨#[]⟩, .slice none 0 0, .slice none 0 0]) (vs := [.int .u8 49, .int .u64 (x : Int), .string ⟨#[]⟩, .slice none 0 0, .slice none 0 0]) rfl rfl rfl rfl hRB rfl (by kernel_rfl) (by simp) (by intro u hu; simp at hu; rcases hu with rfl | rfl | rfl | rfl | rfl <;> rfl) #[.int .u8 49, .int .u64 (x : Int), .string ⟨#[]⟩, .slice none 0 0, .slice none 0 0] (by simp) ?_)
    intro w8 hRB8 hg8 _
    have hR8 := hR.kept hg8 (fun g hg hFg => by injection hg with hg; have := hF g hFg; omega)
    have hP8 := hP.grown hg8 (sne (by omega))
    have hKP8 := hKP.grown hBw hg8 (fun g hg => by injection hg with hg; exact ⟨by omega, .inr (.inr (by omega))⟩)
    go_wp2_with (with_reducible refine h_A ?_)
    refine yP rfl hRB8 rfl Tryz.underlying78 rfl (by kernel_rfl) rfl ?_
    rw [HR0.out]
    exact ⟨⟨none, 0, none, 0⟩, rfl, RV.leaf _ _ _ _ _ (by omega) (by omega) (by simp), hR8, hP8, hKP8⟩
   ·have HR0 := Lib.hid (show rr = none by rw [HV2.out]; rfl)
    clear HV2
    have hmu2 := yL hR hP true (.inr rfl)
    go_wp2_with (with_reducible refine h_A ?_)
    refine hmu2.mono ?_
    rintro e w9 ⟨rfl, rfl⟩
    go_wp2_with (with_reducible refine h_A ?_)
    rw [HR0.out]
    exact ⟨rfl, rfl, hKP⟩
  by_cases k149 : k = 149
  ·subst k149
   obtain rfl : kI = 149 := by rw [← HKI.out]; rfl
   have HV2 : Hid (rr = if (zR l1 false 2 4096).2.2 = true then none else some (.mk 149 0 (zR l1 false 2 4096).1 [] [], (zR l1 false 2 4096).2.1, n - 1)) := Lib.hid (by rw [HV.out, if_neg (by decide), if_neg (by decide), if_neg (by decide), if_pos rfl])
   clear HV
   have x0 := hX.c0
   have c0 := hP.c0
   have h2 := xl hR 2 4096 (by omega) (by omega) (by omega) (by omega)
   have hlt := xJ l1 false 2 4096
   rw [show ((4096 : Nat) : Int) = 4096 from rfl] at hlt
   obtain ⟨T, hT⟩ : ∃ t, t = zR l1 false 2 4096 := ⟨_, rfl⟩
   rw [← hT] at h2 hlt HV2
   obtain ⟨x, l2, b2⟩ := T
   simp only at h2 hlt
   clear hT
   go_wp2_with (with_reducible refine h_B ?_)
   refine h2.mono ?_
   rintro e w6 ⟨rfl, hR2, hg2⟩
   replace hR := hR2
   replace hP := hP.grown hg2 (sne (by omega))
   replace hX := hX.grown hg2 (sne (by omega))
   replace hRB := hRB.grown hg2 (sne (by omega))
   replace hKP := hKP.grown hBw hg2 (fun g hg => by injection hg with hg; subst hg; exact ⟨hvB.1, .inr (.inl rfl)⟩)
   clear hR2 hg2 c0 x0
   clear h2
   go_wp2_with (with_reducible refine h_B ?_)
   refine zc (zm (v := .string (str x)) (vs := [.string (str x)]) rfl rfl rfl rfl hX rfl (by kernel_rfl) (by simp) (by simp; rfl) #[.int .u8 149, .int .u64 0, .string (str x), .slice none 0 0, .slice none 0 0] (by simp) ?_)
   intro w7 hX7 hg8 _
   replace hR := hR.kept hg8 (fun g hg hFg => by injection hg with hg; have := hF g hFg; omega)
   replace hP := hP.grown hg8 (sne (by omega))
   replace hRB := hRB.grown hg8 (sne (by omega))
   replace hKP := hKP.grown hBw hg8 (fun g hg => by injection hg with hg; exact ⟨by omega, .inr (.inr (by omega))⟩)
   clear hg8
   clear hX
   have hX := hX7
   clear hX7
   cases b2
   ·have HR0 := Lib.hid (show rr = some (.mk 149 0 x [] [], l2, n - 1) by rw [HV2.out]; rfl)
    clear HV2
    have hmu2 := yJ hR hP
    have x0 := hX.c0
    go_wp2_with (with_reducible refine h_A ?_)
    refine hmu2.mono ?_
    rintro e w9 ⟨rfl, rfl⟩
    clear hmu2 x0
    have x0 := hX.c0
    have x1 := hX.c1
    have x2 := hX.c2
    have x3 := hX.c3
    have x4 := hX.c4
    go_wp2_with (with_reducible refine h_B ?_)
    refine zc (zm (v := .agg #[.int .u8 149, .int .u64 0, .string (str x), .slice none 0 0, .slice none 0 0]) (vs := [.int .u8 149, .int .u64 0, .string (str x), .slice none 0 0, .slice none 0 0]) rfl rfl rfl rfl hRB rfl (by kernel_rfl) (by simp) (by intro u hu; simp at hu; rcases hu with rfl | rfl | rfl | rfl | rfl <;> rfl) #[.int .u8 149, .int .u64 0, .string (str x), .slice none 0 0, .slice none 0 0] (by simp) ?_)
    intro w8 hRB8 hg8 _
    have hR8 := hR.kept hg8 (fun g hg hFg => by injection hg with hg; have := hF g hFg; omega)
    have hP8 := hP.grown hg8 (sne (by omega))
    have hKP8 := hKP.grown hBw hg8 (fun g hg => by injection hg with hg; exact ⟨by omega, .inr (.inr (by omega))⟩)
    go_wp2_with (with_reducible refine h_A ?_)
    refine yP rfl hRB8 rfl Tryz.underlying78 rfl (by kernel_rfl) rfl ?_
    rw [HR0.out]
    exact ⟨⟨none, 0, none, 0⟩, rfl, RV.leaf _ _ _ _ _ (by omega) (by omega) (by omega), hR8, hP8, hKP8⟩
   ·have HR0 := Lib.hid (show rr = none by rw [HV2.out]; rfl)
    clear HV2
    have hmu2 := yL hR hP true (.inr rfl)
    go_wp2_with (with_reducible refine h_A ?_)
    refine hmu2.mono ?_
    rintro e w9 ⟨rfl, rfl⟩
    go_wp2_with (with_reducible refine h_A ?_)
    rw [HR0.out]
    exact ⟨rfl, rfl, hKP⟩
  by_cases k160 : k = 160
  ·subst k160
   obtain rfl : kI = 160 := by rw [← HKI.out]; rfl
   have HV2 : Hid (rr = if (zR l1 false 4 4096).2.2 = true then none else some (.mk 160 0 (zR l1 false 4 4096).1 [] [], (zR l1 false 4 4096).2.1, n - 1)) := Lib.hid (by rw [HV.out, if_neg (by decide), if_neg (by decide), if_neg (by decide), if_neg (by decide), if_pos rfl])
   clear HV
   have x0 := hX.c0
   have c0 := hP.c0
   have h2 := xl hR 4 4096 (by omega) (by omega) (by omega) (by omega)
   have hlt := xJ l1 false 4 4096
   rw [show ((4096 : Nat) : Int) = 4096 from rfl] at hlt
   obtain ⟨T, hT⟩ : ∃ t, t = zR l1 false 4 4096 := ⟨_, rfl⟩
   rw [← hT] at h2 hlt HV2
   obtain ⟨x, l2, b2⟩ := T
   simp only at h2 hlt
   clear hT
   go_wp2_with (with_reducible refine h_B ?_)
   refine h2.mono ?_
   rintro e w6 ⟨rfl, hR2, hg2⟩
   replace hR := hR2
   replace hP := hP.grown hg2 (sne (by omega))
   replace hX := hX.grown hg2 (sne (by omega))
   replace hRB := hRB.grown hg2 (sne (by omega))
   replace hKP := hKP.grown hBw hg2 (fun g hg => by injection hg with hg; subst hg; exact ⟨hvB.1, .inr (.inl rfl)⟩)
   clear hR2 hg2 c0 x0
   clear h2
   go_wp2_with (with_reducible refine h_B ?_)
   refine zc (zm (v := .string (str x)) (vs := [.string (str x)]) rfl rfl rfl rfl hX rfl (by kernel_rfl) (by simp) (by simp; rfl) #[.int .u8 160, .int .u64 0, .string (str x), .slice none 0 0, .slice none 0 0] (by simp) ?_)
   intro w7 hX7 hg8 _
   replace hR := hR.kept hg8 (fun g hg hFg => by injection hg with hg; have := hF g hFg; omega)
   replace hP := hP.grown hg8 (sne (by omega))
   replace hRB := hRB.grown hg8 (sne (by omega))
   replace hKP := hKP.grown hBw hg8 (fun g hg => by injection hg with hg; exact ⟨by omega, .inr (.inr (by omega))⟩)
   clear hg8
   clear hX
   have hX := hX7
   clear hX7
   cases b2
   ·have HR0 := Lib.hid (show rr = some (.mk 160 0 x [] [], l2, n - 1) by rw [HV2.out]; rfl)
    clear HV2
    have hmu2 := yJ hR hP
    have x0 := hX.c0
    go_wp2_with (with_reducible refine h_A ?_)
    refine hmu2.mono ?_
    rintro e w9 ⟨rfl, rfl⟩
    clear hmu2 x0
    have x0 := hX.c0
    have x1 := hX.c1
    have x2 := hX.c2
    have x3 := hX.c3
    have x4 := hX.c4
    go_wp2_with (with_reducible refine h_B ?_)
    refine zc (zm (v := .agg #[.int .u8 160, .int .u64 0, .string (str x), .slice none 0 0, .slice none 0 0]) (vs := [.int .u8 160, .int .u64 0, .string (str x), .slice none 0 0, .slice none 0 0]) rfl rfl rfl rfl hRB rfl (by kernel_rfl) (by simp) (by intro u hu; simp at hu; rcases hu with rfl | rfl | rfl | rfl | rfl <;> rfl) #[.int .u8 160, .int .u64 0, .string (str x), .slice none 0 0, .slice none 0 0] (by simp) ?_)
    intro w8 hRB8 hg8 _
    have hR8 := hR.kept hg8 (fun g hg hFg => by injection hg with hg; have := hF g hFg; omega)
    have hP8 := hP.grown hg8 (sne (by omega))
    have hKP8 := hKP.grown hBw hg8 (fun g hg => by injection hg with hg; exact ⟨by omega, .inr (.inr (by omega))⟩)
    go_wp2_with (with_reducible refine h_A ?_)
    refine yP rfl hRB8 rfl Tryz.underlying78 rfl (by kernel_rfl) rfl ?_
    rw [HR0.out]
    exact ⟨⟨none, 0, none, 0⟩, rfl, RV.leaf _ _ _ _ _ (by omega) (by omega) (by omega), hR8, hP8, hKP8⟩
   ·have HR0 := Lib.hid (show rr = none by rw [HV2.out]; rfl)
    clear HV2
    have hmu2 := yL hR hP true (.inr rfl)
    go_wp2_with (with_reducible refine h_A ?_)
    refine hmu2.mono ?_
    rintro e w9 ⟨rfl, rfl⟩
    go_wp2_with (with_reducible refine h_A ?_)
    rw [HR0.out]
    exact ⟨rfl, rfl, hKP⟩
  by_cases k168 : k = 168
  ·subst k168
   obtain rfl : kI = 168 := by rw [← HKI.out]; rfl
   have HV2 : Hid (rr = (j4 (yx f) true (n - 1) l1).map (fun q => (.mk 168 0 [] q.1 q.2.1, q.2.2))) := Lib.hid (by rw [HV.out, if_neg (by decide), if_neg (by decide), if_neg (by decide), if_neg (by decide), if_neg (by decide), if_pos (.inl rfl)]; rfl)
   clear HV
   have x0 := hX.c0
   have hmn := KN f hrec d (n - 1) F B pb vb xb v l1 w3 _ (by omega) ⟨hR, hP, hX, hFp, fun g hg => ⟨(hF g hg).1, Nat.lt_of_lt_of_le (hF g hg).2 hKP3.size⟩, Nat.lt_of_lt_of_le hpw hKP3.size, hBp, hB3, hxa, by omega, hKPa⟩
   obtain ⟨vm, hvm⟩ : ∃ q, q = j4 (yx f) true (n - 1) l1 := ⟨_, rfl⟩
   rw [← hvm] at hmn HV2
   clear hvm
   cases vm with
   | none =>
    have HR0 := Lib.hid (show rr = none by rw [HV2.out]; rfl)
    clear HV2
    go_wp2_with (with_reducible refine h_A ?_)
    refine hmn.mono ?_
    rintro e w7 ⟨rfl, hK2⟩
    go_wp2_with (with_reducible refine h_A ?_)
    rw [HR0.out]
    exact ⟨rfl, rfl, hKP3.trans hK2⟩
   | some q =>
    obtain ⟨KS, L, lq, nq⟩ := q
    have HR0 := Lib.hid (show rr = some (.mk 168 0 [] KS L, lq, nq) by rw [HV2.out]; rfl)
    clear HV2
    go_wp2_with (with_reducible refine h_A ?_)
    refine hmn.mono ?_
    rintro e w7 ⟨AK, cK, A, c, xs, rfl, hxs, hS, hR2, hP2, hX2, hK2, hk255, hK200, hL200⟩
    simp only at hxs hS hR2 hP2 hX2 hk255 hK200 hL200
    have hRB2 := hK2.box hRB3 (by omega) (by omega)
    clear x0 hmn hX hR hP hRB hKP
    have hmu2 := yJ hR2 hP2
    go_wp2_with (with_reducible refine h_A ?_)
    refine hmu2.mono ?_
    rintro e w9 ⟨rfl, rfl⟩
    clear hmu2
    have hR := hR2
    have hP := hP2
    have hRB := hRB2
    have hKP := hKP3.trans hK2
    have x0 := hX2.c0
    have x1 := hX2.c1
    have x2 := hX2.c2
    have x3 := hX2.c3
    have x4 := hX2.c4
    go_wp2_with (with_reducible refine h_B ?_)
    refine zc (zm (v := .agg #[.int .u8 168, .int .u64 0, .string ⟨#[]⟩, .slice AK KS.length cK, .slice A L.length c]) (vs := [.int .u8 168, .int .u64 0, .string ⟨#[]⟩, .slice AK KS.length cK, .slice A L.length c]) rfl rfl rfl rfl hRB rfl (by kernel_rfl) (by simp) (by intro u hu; simp at hu; rcases hu with rfl | rfl | rfl | rfl | rfl <;> rfl) #[.int .u8 168, .int .u64 0, .string ⟨#[]⟩, .slice AK KS.length cK, .slice A L.length c] (by simp) ?_)
    intro w8 hRB8 hg8 _
    have hR8 := hR.kept hg8 (fun g hg hFg => by injection hg with hg; have := hF g hFg; omega)
    have hP8 := hP.grown hg8 (sne (by omega))
    have hKP8 := hKP.grown hBw hg8 (fun g hg => by injection hg with hg; exact ⟨by omega, .inr (.inr (by omega))⟩)
    go_wp2_with (with_reducible refine h_A ?_)
    refine yP rfl hRB8 rfl Tryz.underlying78 rfl (by kernel_rfl) rfl ?_
    rw [HR0.out]
    have hS8 := hS.box hg8 (by omega)
    have hrv := hS8.rv (k := 168) (B := w.heap.size) (by omega) (by omega) (fun x hx => by have := hk255 x hx; omega) (by omega) (by rw [← hxs, List.length_map] at hL200; omega)
    rw [hxs] at hrv
    exact ⟨⟨AK, cK, A, c⟩, rfl, hrv, hR8, hP8, hKP8⟩
  by_cases k169 : k = 169
  ·subst k169
   obtain rfl : kI = 169 := by rw [← HKI.out]; rfl
   have HV2 : Hid (rr = (j4 (yx f) false (n - 1) l1).map (fun q => (.mk 169 0 [] q.1 q.2.1, q.2.2))) := Lib.hid (by rw [HV.out, if_neg (by decide), if_neg (by decide), if_neg (by decide), if_neg (by decide), if_neg (by decide), if_pos (.inr rfl)]; rfl)
   clear HV
   have x0 := hX.c0
   have hmn := JA f hrec d (n - 1) F B pb vb xb v l1 w3 _ (by omega) ⟨hR, hP, hX, hFp, fun g hg => ⟨(hF g hg).1, Nat.lt_of_lt_of_le (hF g hg).2 hKP3.size⟩, Nat.lt_of_lt_of_le hpw hKP3.size, hBp, hB3, hxa, by omega, hKPa⟩
   obtain ⟨vm, hvm⟩ : ∃ q, q = j4 (yx f) false (n - 1) l1 := ⟨_, rfl⟩
   rw [← hvm] at hmn HV2
   clear hvm
   cases vm with
   | none =>
    have HR0 := Lib.hid (show rr = none by rw [HV2.out]; rfl)
    clear HV2
    go_wp2_with (with_reducible refine h_A ?_)
    refine hmn.mono ?_
    rintro e w7 ⟨rfl, hK2⟩
    go_wp2_with (with_reducible refine h_A ?_)
    rw [HR0.out]
    exact ⟨rfl, rfl, hKP3.trans hK2⟩
   | some q =>
    obtain ⟨KS, L, lq, nq⟩ := q
    have HR0 := Lib.hid (show rr = some (.mk 169 0 [] KS L, lq, nq) by rw [HV2.out]; rfl)
    clear HV2
    go_wp2_with (with_reducible refine h_A ?_)
    refine hmn.mono ?_
    rintro e w7 ⟨AK, cK, A, c, xs, rfl, hxs, hS, hR2, hP2, hX2, hK2, hk255, hK200, hL200⟩
    simp only at hxs hS hR2 hP2 hX2 hk255 hK200 hL200
    have hRB2 := hK2.box hRB3 (by omega) (by omega)
    clear x0 hmn hX hR hP hRB hKP
    have hmu2 := yJ hR2 hP2
    go_wp2_with (with_reducible refine h_A ?_)
    refine hmu2.mono ?_
    rintro e w9 ⟨rfl, rfl⟩
    clear hmu2
    have hR := hR2
    have hP := hP2
    have hRB := hRB2
    have hKP := hKP3.trans hK2
    have x0 := hX2.c0
    have x1 := hX2.c1
    have x2 := hX2.c2
    have x3 := hX2.c3
    have x4 := hX2.c4
    go_wp2_with (with_reducible refine h_B ?_)
    refine zc (zm (v := .agg #[.int .u8 169, .int .u64 0, .string ⟨#[]⟩, .slice AK KS.length cK, .slice A L.length c]) (vs := [.int .u8 169, .int .u64 0, .string ⟨#[]⟩, .slice AK KS.length cK, .slice A L.length c]) rfl rfl rfl rfl hRB rfl (by kernel_rfl) (by simp) (by intro u hu; simp at hu; rcases hu with rfl | rfl | rfl | rfl | rfl <;> rfl) #[.int .u8 169, .int .u64 0, .string ⟨#[]⟩, .slice AK KS.length cK, .slice A L.length c] (by simp) ?_)
    intro w8 hRB8 hg8 _
    have hR8 := hR.kept hg8 (fun g hg hFg => by injection hg with hg; have := hF g hFg; omega)
    have hP8 := hP.grown hg8 (sne (by omega))
    have hKP8 := hKP.grown hBw hg8 (fun g hg => by injection hg with hg; exact ⟨by omega, .inr (.inr (by omega))⟩)
    go_wp2_with (with_reducible refine h_A ?_)
    refine yP rfl hRB8 rfl Tryz.underlying78 rfl (by kernel_rfl) rfl ?_
    rw [HR0.out]
    have hS8 := hS.box hg8 (by omega)
    have hrv := hS8.rv (k := 169) (B := w.heap.size) (by omega) (by omega) (fun x hx => by have := hk255 x hx; omega) (by omega) (by rw [← hxs, List.length_map] at hL200; omega)
    rw [hxs] at hrv
    exact ⟨⟨AK, cK, A, c⟩, rfl, hrv, hR8, hP8, hKP8⟩
  have HR0 : Hid (rr = none) := Lib.hid (by rw [HV.out, if_neg k240, if_neg (by omega), if_neg (by omega), if_neg k149, if_neg k160, if_neg (by omega)])
  have g240 : (kI == 240) = false := by have := HKI.out; simp; omega
  have g8 : (kI == 8) = false := by have := HKI.out; simp; omega
  have g2 : (kI == 2) = false := by have := HKI.out; simp; omega
  have g50 : (kI == 50) = false := by have := HKI.out; simp; omega
  have g49 : (kI == 49) = false := by have := HKI.out; simp; omega
  have g149 : (kI == 149) = false := by have := HKI.out; simp; omega
  have g160 : (kI == 160) = false := by have := HKI.out; simp; omega
  have g168 : (kI == 168) = false := by have := HKI.out; simp; omega
  have g169 : (kI == 169) = false := by have := HKI.out; simp; omega
  clear HV k240 k8 k2 k50 k49 k149 k160 k168 k169 HKI
  have x0 := hX.c0
  have hmu2 := yL hR hP false (.inl rfl)
  go_wp2_with (with_reducible refine h_A ?_)
  refine hmu2.mono ?_
  rintro e w9 ⟨rfl, rfl⟩
  go_wp2_with (with_reducible refine h_A ?_)
  rw [HR0.out]
  exact ⟨rfl, rfl, hKP⟩
theorem Xk : ∀ f, YK f
 | 0 => Jy
 | f + 1 => Jz f (Xk f)
end Go.PH
end

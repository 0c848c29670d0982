/- Texts laid together: VlManyA. -/
import Derived.Deep.CutRange
import Derived.Test.YtfbkameikhgciaaGreatDoorMg01
import Derived.Test.YtfbkameikhgciaaGreatDoorMg02
import Derived.Test.YtfbkameikhgciaaGreatDoorMg13
import Derived.Test.YtfbkameikhgciaaGreatDoorMg16
set_option linter.all false
set_option linter.unusedSimpArgs false
set_option linter.unusedVariables false
set_option maxRecDepth 20000
set_option maxHeartbeats 8000000
section
namespace Go.PH
open Go.RowKit Go.Proofs
def zaE (w : World) (F : Nat → Prop) (B pb vb : Nat) (v : Value) (r : Option (Vl × List UInt8 × Nat)) (e : Ending) (w' : World) : Prop := match r with
 | none => e = .panicked PAN ∧ KP B pb vb w w'
 | some q => ∃ h, e = .returned (.agg (vlV q.1 h)) ∧ RV w' (FN w.heap.size w') q.1 h ∧ Rdr F w' v (some vb) q.2.1 false ∧ Box w' pb 255 #[v, .int .i64 (q.2.2 : Int)] ∧ KP B pb vb w w'
def YK (f : Nat) : Prop := ∀ (d n : Nat) (F : Nat → Prop) (B pb vb : Nat) (v : Value) (l : List UInt8) (bad : Bool) (w : World), d + f = 7 → Rdr F w v (some vb) l bad → Box w pb 255 #[v, .int .i64 (n : Int)] → ¬ F pb → (∀ g, F g → B ≤ g ∧ g < w.heap.size) → B ≤ pb → n ≤ 200 →
  Calls Tryz.prog 177 #[.pointer (some ⟨pb, 0, none⟩), .int .i64 (d : Int)] w (zaE w F B pb vb v (jZ f n l bad))
def VW (a : World) (F : Nat → Prop) (B pb vb xb : Nat) (v : Value) (kd : Int) (r : Option (List (List UInt8) × List Vl × List UInt8 × Nat)) (e : Ending) (w' : World) : Prop := match r with
 | none => e = .panicked PAN ∧ KP B pb vb a w'
 | some q => ∃ AK cK A c xs, e = .returned (.tuple #[]) ∧ xs.map (·.1) = q.2.1 ∧ MnS w' (xb + 1) q.1 AK cK A c xs ∧ Rdr F w' v (some vb) q.2.2.1 false ∧ Box w' pb 255 #[v, .int .i64 (q.2.2.2 : Int)] ∧
   Box w' xb 78 #[.int .u8 kd, .int .u64 0, .string ⟨#[]⟩, .slice AK q.1.length cK, .slice A q.2.1.length c] ∧ KP B pb vb a w' ∧ (∀ k ∈ q.1, k.length ≤ 255) ∧ q.1.length ≤ 200 ∧ q.2.1.length ≤ 200
structure MPre (w a : World) (F : Nat → Prop) (B pb vb xb n : Nat) (v : Value) (l : List UInt8) (kd : Int) : Prop where
 hr : Rdr F w v (some vb) l false
 hp : Box w pb 255 #[v, .int .i64 (n : Int)]
 hx : Box w xb 78 #[.int .u8 kd, .int .u64 0, .string ⟨#[]⟩, .slice none 0 0, .slice none 0 0]
 hFp : ¬ F pb
 hF : ∀ g, F g → B ≤ g ∧ g < a.heap.size
 hpa : pb < a.heap.size
 hBp : B ≤ pb
 hBa : B ≤ a.heap.size
 hxa : a.heap.size ≤ xb
 hn : n ≤ 200
 hK : KP B pb vb a w
theorem Xl (kd : Int) (m : Bool) (hkm : (kd = 168 ∧ m = true) ∨ (kd = 169 ∧ m = false)) (f : Nat) (hrec : YK f) (d n : Nat) (F : Nat → Prop) (B pb vb xb : Nat) (v : Value) (l : List UInt8) (a w : World) (hd : d + 1 + f = 7) (hpre : MPre w a F B pb vb xb n v l kd) :
  Calls Tryz.prog 184 #[.pointer (some ⟨pb, 0, none⟩), .pointer (some ⟨xb, 0, none⟩), .int .i64 (d : Int)] w (VW a F B pb vb xb v kd (j4 (yx f) m n l)) := by
 obtain ⟨hr, hp, hx, hFp, hF, hpa, hBp, hBa, hxa, hn, hK⟩ := hpre
 have hvb := hr.inF rfl
 have hvB := hF vb hvb
 have hpv : pb ≠ vb := fun e => hFp (e ▸ hvb)
 have hxw := hx.lt
 obtain ⟨q1, hq1⟩ : ∃ q, q = mnum l false 4 := ⟨_, rfl⟩
 obtain ⟨r, hR⟩ : ∃ r, r = j4 (yx f) m n l := ⟨_, rfl⟩
 rw [← hR]
 unfold j4 at hR
 rw [← hq1] at hR
 obtain ⟨q2, hq2⟩ : ∃ q, q = mnum q1.2.1 q1.2.2 4 := ⟨_, rfl⟩
 rw [← hq2] at hR
 have h1 := zP hr 4 (by omega) (by omega)
 rw [← hq1] at h1
 have hl2 := qo l false 4
 rw [← hq1] at hl2
 have hl3 := qo q1.2.1 q1.2.2 4
 have hlen3 := xp q1.2.1 q1.2.2 4
 rw [← hq2] at hl3 hlen3
 obtain ⟨SZ, l2, b2⟩ := q1
 obtain ⟨CN, l3, b3⟩ := q2
 simp only at hR h1 hl2 hl3 hlen3
 have HQ2 : Hid ((CN, l3, b3) = mnum l2 b2 4) := Lib.hid hq2
 have HR := Lib.hid hR
 clear hq1 hq2 hR
 have c0 := hp.c0
 go_enter Tryz.func184, Tryz.ntmps184
 go_wp2_with (with_reducible refine h_A ?_)
 refine h1.mono ?_
 rintro e w2 ⟨rfl, hr2, hg2⟩
 have hp2 := hp.grown hg2 (sne (by omega))
 have hx2 := hx.grown hg2 (sne (by omega))
 have hK2 := hK.grown hBa hg2 (fun g e => by injection e with e; subst e; exact ⟨hvB.1, .inr (.inl rfl)⟩)
 clear h1 c0 hr hp hx hK hg2
 have c0 := hp2.c0
 have h2 := yh hr2
 go_wp2_with (with_reducible refine h_A ?_)
 refine h2.mono ?_
 rintro e w3 ⟨rfl, rfl⟩
 clear h2
 have hlm := hr2.len
 have h3 := zP hr2 4 (by omega) (by omega)
 rw [← HQ2.out] at h3
 go_wp2_with (with_reducible refine h_A ?_)
 refine h3.mono ?_
 rintro e w4 ⟨rfl, hr4, hg4⟩
 have hp4 := hp2.grown hg4 (sne (by omega))
 have hx4 := hx2.grown hg4 (sne (by omega))
 have hK4 := hK2.grown hBa hg4 (fun g e => by injection e with e; subst e; exact ⟨hvB.1, .inr (.inl rfl)⟩)
 clear h3 c0 hr2 hp2 hx2 hK2 hg4
 try simp only at hr4
 have c0 := hp4.c0
 by_cases hsz : l2.length < SZ
 ·have HR0 : Hid (r = none) := Lib.hid (by rw [HR.out, if_pos (.inr (.inl hsz))])
  have g1 : ¬ (SZ : Int) ≤ (l2.length : Int) := by omega
  clear hsz HR HQ2
  have hmu := yL hr4 hp4 false (.inl rfl)
  clear hl2 hl3 hlen3 hxw hrec hd hn
  go_wp2_with (with_reducible refine h_A ?_)
  refine hmu.mono ?_
  rintro e w5 ⟨rfl, rfl⟩
  go_wp2_with (with_reducible refine h_A ?_)
  rw [HR0.out]
  exact ⟨rfl, rfl, hK4⟩
 ·have g1 : (SZ : Int) ≤ (l2.length : Int) := by omega
  by_cases hcn : 200 ≤ CN
  ·have HR0 : Hid (r = none) := Lib.hid (by rw [HR.out, if_pos (.inr (.inr hcn))])
   have hno : decide ((CN : Int) < 200) = false ∨ b3 = true := .inl (decide_eq_false (by omega))
   clear hsz hcn HR HQ2
   have hmu := yL hr4 hp4 _ hno
   clear hl2 hl3 hlen3 hxw hrec hd hn
   go_wp2_with (with_reducible refine h_A ?_)
   refine hmu.mono ?_
   rintro e w5 ⟨rfl, rfl⟩
   go_wp2_with (with_reducible refine h_A ?_)
   rw [HR0.out]
   exact ⟨rfl, rfl, hK4⟩
  ·have g2 : (CN : Int) < 200 := by omega
   cases b3
   ·have hmu := yJ hr4 hp4
    have HR2 : Hid (r = match xm (yx f) m CN n l3 with | none => none | some q => if l2.length - q.2.2.1.length = SZ then some q else none) := Lib.hid (by rw [HR.out, if_neg (fun h => by rcases h with h | h | h <;> first | omega | cases h)]; cases xm (yx f) m CN n l3 <;> rfl)
    go_wp2_with (with_reducible refine h_A ?_)
    refine hmu.mono ?_
    rintro e w5 ⟨rfl, rfl⟩
    clear hmu c0 HR HQ2
    go_wp2_with (with_reducible refine h_A ?_)
    go_loopw [35] (fun s wr => ∃ (i : Nat) (KS : List (List UInt8)) (AK : Option Addr) (cK : Nat) (A : Option Addr) (c : Nat) (xs : List (Vl × VH)) (li : List UInt8) (ni : Nat), i ≤ CN ∧ s = .int .u64 (i : Int) ∧ Hid (xs.length = i) ∧ KS.length ≤ i ∧ Hid (∀ k ∈ KS, k.length ≤ 255) ∧ ni ≤ 200 ∧ MnS wr (xb + 1) KS AK cK A c xs ∧ Rdr F wr v (some vb) li false ∧ Box wr pb 255 #[v, .int .i64 (ni : Int)] ∧ Box wr xb 78 #[.int .u8 kd, .int .u64 0, .string ⟨#[]⟩, .slice AK KS.length cK, .slice A i c] ∧ KP B pb vb a wr ∧ Hid (xm (yx f) m CN n l3 = (xm (yx f) m (CN - i) ni li).map fun q => (KS ++ q.1, xs.map (·.1) ++ q.2.1, q.2.2))) (fun s _ => CN - (RowKit.intOf s).toNat)
    case atStart => exact ⟨0, [], none, 0, none, 0, [], l3, n, by omega, rfl, Lib.hid rfl, by simp, Lib.hid (fun k hk => by cases hk), hn, MnS.nil _ _, hr4, hp4, hx4, hK4, Lib.hid (by
     rw [Nat.sub_zero]
     cases xm (yx f) m CN n l3 <;> rfl)⟩
    case round =>
     clear hr4 hp4 hx4 hK4 hn
     obtain ⟨i, KS, AK, cK, A, c, xs, li, ni, hi, rfl, hxl, hkl, hk255, hni, hS, hR, hP, hX, hKP, HC⟩ := hrel
     have hd1 : ((d + 1 : Nat) : Int) = IntKind.i64.wrap ((d : Int) + 1) := by rw [IntWalk.i64_in _ ⟨by omega, by omega⟩]; omega
     by_cases hlt : i < CN
     ·have g3 : (i : Int) < (CN : Int) := by omega
      obtain ⟨cn, hcn1⟩ : ∃ cn, CN - i = cn + 1 := ⟨CN - i - 1, by omega⟩
      have hcn2 : CN - (i + 1) = cn := by omega
      obtain ⟨T, hT⟩ : ∃ t, t = zR li false 1 255 := ⟨_, rfl⟩
      have hts := xJ li false 1 255
      rw [show ((255 : Nat) : Int) = 255 from rfl, ← hT] at hts
      have htx := fun (W : World) (h : Rdr F W v (some vb) li false) => xl h 1 255 (by omega) (by omega) (by omega) (by omega)
      rw [← hT] at htx
      obtain ⟨ks, lk, bk⟩ := T
      simp only at hts htx
      obtain ⟨lj, hlj⟩ : ∃ q, q = (if m = true then lk else li) := ⟨_, rfl⟩
      obtain ⟨bj, hbj⟩ : ∃ q, q = (if m = true then bk else false) := ⟨_, rfl⟩
      obtain ⟨rr, hrr⟩ : ∃ q, q = jZ f ni lj bj := ⟨_, rfl⟩
      have HN : Hid (rr = none → r = none) := Lib.hid (fun e => by
       rw [HR2.out, HC.out, hcn1]
       cases m
       ·rw [vK (by rw [if_neg (by decide)]; rw [← e, hrr, hbj, hlj]; rfl)]; rfl
       ·cases bk
        ·rw [vK (by rw [if_pos rfl, ← hT]; rw [← e, hrr, hlj, hbj]; rfl)]; rfl
        ·rw [Jw (by rw [← hT])]; rfl)
      have HSm : Hid (∀ q, rr = some q → xm (yx f) m CN n l3 = (xm (yx f) m (CN - (i + 1)) q.2.2 q.2.1).map fun p => ((if m = true then KS ++ [ks] else KS) ++ p.1, (xs.map (·.1) ++ [q.1]) ++ p.2.1, p.2.2)) := Lib.hid (fun q e => by
       cases m
       ·rw [HC.out, hcn1, hcn2, vL (r := q) (fun h => by cases h) (by rw [if_neg (by decide)]; rw [← e, hrr, hbj, hlj]; rfl)]
        cases xm (yx f) false cn q.2.2 q.2.1 <;> simp
       ·cases bk
        ·rw [HC.out, hcn1, hcn2, vL (r := q) (fun _ => by rw [← hT]) (by rw [if_pos rfl, ← hT]; rw [← e, hrr, hlj, hbj]; rfl), ← hT]
         cases xm (yx f) true cn q.2.2 q.2.1 <;> simp
        ·rw [hrr, hbj] at e; cases e)
      have hni' := hni
      have hcond := hX.c0
      go_upto_if 41 with fail
      clear hcond HC hT
      go_cut [35] from 37 to 55 (fun s wx => s = .int .u64 (i : Int) ∧ ∃ (KS2 : List (List UInt8)) (AK2 : Option Addr) (cK2 : Nat), Hid (KS2 = if m = true then KS ++ [ks] else KS) ∧ KS2.length ≤ i + 1 ∧ Hid (∀ k ∈ KS2, k.length ≤ 255) ∧ MnS wx (xb + 1) KS2 AK2 cK2 A c xs ∧ Box wx xb 78 #[.int .u8 kd, .int .u64 0, .string ⟨#[]⟩, .slice AK2 KS2.length cK2, .slice A i c] ∧ Rdr F wx v (some vb) lj bj ∧ Box wx pb 255 #[v, .int .i64 (ni : Int)] ∧ KP B pb vb a wx)
      case first =>
       rcases hkm with ⟨rfl, rfl⟩ | ⟨rfl, rfl⟩
       ·obtain rfl : lj = lk := hlj
        obtain rfl : bj = bk := hbj
        go_upto_region 7 with fail
        refine zD (fun W : World => Box W pb 255 #[v, .int .i64 (ni : Int)]) (by kernel_rfl) ?_
        replace hS : MnS wr.drew (xb + 1) KS AK cK A c xs := hS.on (fun g _ _ => rfl) (Nat.le_refl _)
        replace hR : Rdr F wr.drew v (some vb) li false := hR.drew
        replace hP : Box wr.drew pb 255 #[v, .int .i64 (ni : Int)] := hP
        replace hX : Box wr.drew xb 78 #[.int .u8 168, .int .u64 0, .string ⟨#[]⟩, .slice AK KS.length cK, .slice A i c] := hX
        replace hKP : KP B pb vb a wr.drew := hKP.drew
        have htx := htx wr.drew hR
        generalize wr.drew = wd at *
        refine rg_t 0 hP ?_
        simp only [List.getElem_toArray, List.getElem_cons_zero, Act.put, List.setIfInBounds_toArray, List.set_cons_zero, List.set_cons_succ]
        refine rg_t 1 hP ?_
        simp only [g_S, Act.put]
        refine rg_t 2 hP ?_
        simp only [g_S, Act.put]
        refine rg_t 3 hP ?_
        simp only [g_S, Act.put]
        refine rg_t 5 hP ?_
        simp only [g_S, Act.put]
        refine rg_t 6 hP ?_
        simp only [g_S, Act.put]
        refine rg_t 7 hP ?_
        simp only [g_S, Act.put]
        refine zv 8 (v := ?_) rfl (by kernel_rfl) (by kernel_rfl) (by kernel_rfl) hP rfl ?_ ?_
        rotate_left
        ·intro wS hSw; have k0 := hSw.cell (j := 0) rfl; go_simp; (with_reducible rfl)
        simp only [g_S, Act.put]
        have z3 := hX.c3
        refine xc 4 9 rfl rfl (by kernel_rfl) rfl rfl (fun K hKK => ?_) (fun K hKK => ?_)
        ·go_simp
         refine hKK _ _ hP ?_
         clear hKK K z3
         try simp only [g_S, Act.put]
         refine zi 9 rfl (by kernel_rfl) rfl (fun K hKK => ?_)
         go_simp
         refine htx.mono ?_
         rintro e wt ⟨rfl, hR2, hg2⟩
         try clear z3
         replace hS := hS.box hg2 (by omega)
         replace hX := hX.grown hg2 (sne (by omega))
         replace hP := hP.grown hg2 (sne (by omega))
         replace hKP := hKP.grown hBa hg2 (fun g e => by injection e with e; subst e; exact ⟨hvB.1, .inr (.inl rfl)⟩)
         clear hR htx
         have hR := hR2
         clear hR2 hg2
         refine hKK _ _ hP ?_
         clear hKK K
         try simp only [g_S, Act.put]
         refine zi 10 rfl (by kernel_rfl) rfl (fun K hKK => ?_)
         go_simp
         have hM := Box.new wt #[.string (str ks)] 9
         have hBm := (Below.refl wt.heap.size wt).alloc (Nat.le_refl _) (.cells #[.string (str ks)] 9)
         refine hKK _ _ (hP.below hBm) ?_
         clear hKK K
         try simp only [g_S, Act.put]
         obtain ⟨mb, hmb⟩ : ∃ g, g = wt.heap.size := ⟨_, rfl⟩
         rw [← hmb] at hM ⊢
         clear hmb
         replace hS := hS.below hBm
         replace hX := hX.below hBm
         replace hR := hR.below hBm
         replace hP := hP.below hBm
         replace hKP := hKP.below hBa hBm
         generalize (wt.alloc (.cells #[.string (str ks)] 9)) = wm at *
         have hownK : Own _ (xb + 1) 9 1 AK KS.length cK (KS.map txV) := hS.kown
         refine zi 11 rfl (by kernel_rfl) rfl (fun K hKK => ?_)
         refine qz (ops := #[]) slTx Tryz.underlying22 rfl rfl rfl hownK (jC (n := 1) (sz := 1) hM rfl (by decide)) (by intro u hu; simp at hu; subst hu; rfl) (by omega) (by unfold maxLen; omega) (by have := hX.lt; omega) ?_
         intro A4 c4 w6 ho6 hg6 hA6
         have hez : KS.map txV ++ (#[Value.string (str ks)] : Array Value).toList = (KS ++ [ks]).map txV := by rw [List.map_append]; rfl
         rw [hez] at ho6
         clear hez
         have hA6' : blk A4 = blk AK ∨ ∀ g, blk A4 = some g → _ ≤ g := hA6.imp id (fun e g hg => by rw [e] at hg; injection hg with hg; exact Nat.le_of_eq hg)
         have hS6 := hS.pushK ho6 hg6 hA6'
         have hnb : ∀ g', blk AK = some g' → xb + 1 ≤ g' ∧ a.heap.size ≤ g' := fun g' hg' => by have := (hS.kown.blk_lt hg').1; omega
         have hX6 := hX.grown hg6 (by intro e; have := hnb _ e.symm; omega)
         have hP6 := hP.grown hg6 (by intro e; have := hnb _ e.symm; omega)
         have hR6 := hR.kept hg6 (fun g hg hFg => by have := hnb g hg; have := hF g hFg; omega)
         have hKP6 := hKP.grown hBa hg6 (fun g hg => by have := hnb g hg; exact ⟨by omega, .inr (.inr this.2)⟩)
         refine hKK _ _ hP6 ?_
         clear hKK K hS hX hP hR hKP hM hownK hg6 hA6 hA6' ho6 hnb
         try simp only [g_S, Act.put]
         refine rg_t 12 hP6 ?_
         simp only [g_S, Act.put]
         refine rg_t 13 hP6 ?_
         simp only [g_S, Act.put]
         refine zi 14 rfl (by kernel_rfl) rfl (fun K hKK => ?_)
         refine zM (g := xb) (j := 3) (v := .slice A4 (KS.length + 1) c4) (vs := [.slice A4 (KS.length + 1) c4]) rfl rfl rfl hX6 rfl (by kernel_rfl) (by simp) (by simp; rfl) #[.int .u8 168, .int .u64 0, .string ⟨#[]⟩, .slice A4 (KS.length + 1) c4, .slice A i c] (by simp) ?_
         intro wk hX7 hg7 _
         have hS := hS6.box hg7 (by omega)
         have hP := hP6.grown hg7 (sne (by omega))
         have hR := hR6.kept hg7 (fun g' hg' hFg => by injection hg' with hg'; have := hF g' hFg; omega)
         have hKP := hKP6.grown hBa hg7 (fun g' hg' => by injection hg' with hg'; exact ⟨by omega, .inr (.inr (by omega))⟩)
         refine hKK _ _ hP ?_
         clear hKK K hS6 hP6 hR6 hKP6 hX6 hg7
         try simp only [g_S, Act.put]
         refine zK (by kernel_rfl) ?_
         obtain ⟨KS2, hKS2⟩ : ∃ K, K = KS ++ [ks] := ⟨_, rfl⟩
         have hl2' : KS2.length = KS.length + 1 := by rw [hKS2]; simp
         have hk2 : Hid (∀ k ∈ KS2, k.length ≤ 255) := Lib.hid (fun k hk => by
          rw [hKS2] at hk
          rcases List.mem_append.1 hk with h | h
          ·exact hk255.out k h
          ·rw [List.mem_singleton.1 h]; exact hts)
         have HKS2 := Lib.hid hKS2
         rw [← hKS2] at hS
         have hkl2 : KS2.length ≤ i + 1 := by omega
         have hX : Box wk xb 78 #[.int .u8 168, .int .u64 0, .string ⟨#[]⟩, .slice A4 KS2.length c4, .slice A i c] := by rw [hl2']; exact hX7
         go_wp2_with fail
         go_meet
         exact ⟨rfl, KS2, A4, c4, Lib.hid (by simpa using HKS2.out), hkl2, hk2, hS, hX, hR, hP, hKP⟩
        ·go_simp
         refine htx.mono ?_
         rintro e wt ⟨rfl, hR2, hg2⟩
         try clear z3
         replace hS := hS.box hg2 (by omega)
         replace hX := hX.grown hg2 (sne (by omega))
         replace hP := hP.grown hg2 (sne (by omega))
         replace hKP := hKP.grown hBa hg2 (fun g e => by injection e with e; subst e; exact ⟨hvB.1, .inr (.inl rfl)⟩)
         clear hR htx
         have hR := hR2
         clear hR2 hg2
         refine hKK _ _ hP ?_
         clear hKK K
         try simp only [g_S, Act.put]
         have z3 := hX.c3
         refine xc 4 10 rfl rfl (by kernel_rfl) rfl rfl (fun K hKK => ?_) (fun K hKK => ?_)
         ·go_simp
          refine hKK _ _ hP ?_
          clear hKK K z3
          try simp only [g_S, Act.put]
          refine zi 10 rfl (by kernel_rfl) rfl (fun K hKK => ?_)
          go_simp
          have hM := Box.new wt #[.string (str ks)] 9
          have hBm := (Below.refl wt.heap.size wt).alloc (Nat.le_refl _) (.cells #[.string (str ks)] 9)
          refine hKK _ _ (hP.below hBm) ?_
          clear hKK K
          try simp only [g_S, Act.put]
          obtain ⟨mb, hmb⟩ : ∃ g, g = wt.heap.size := ⟨_, rfl⟩
          rw [← hmb] at hM ⊢
          clear hmb
          replace hS := hS.below hBm
          replace hX := hX.below hBm
          replace hR := hR.below hBm
          replace hP := hP.below hBm
          replace hKP := hKP.below hBa hBm
          generalize (wt.alloc (.cells #[.string (str ks)] 9)) = wm at *
          have hownK : Own _ (xb + 1) 9 1 AK KS.length cK (KS.map txV) := hS.kown
          refine zi 11 rfl (by kernel_rfl) rfl (fun K hKK => ?_)
          refine qz (ops := #[]) slTx Tryz.underlying22 rfl rfl rfl hownK (jC (n := 1) (sz := 1) hM rfl (by decide)) (by intro u hu; simp at hu; subst hu; rfl) (by omega) (by unfold maxLen; omega) (by have := hX.lt; omega) ?_
          intro A4 c4 w6 ho6 hg6 hA6
          have hez : KS.map txV ++ (#[Value.string (str ks)] : Array Value).toList = (KS ++ [ks]).map txV := by rw [List.map_append]; rfl
          rw [hez] at ho6
          clear hez
          have hA6' : blk A4 = blk AK ∨ ∀ g, blk A4 = some g → _ ≤ g := hA6.imp id (fun e g hg => by rw [e] at hg; injection hg with hg; exact Nat.le_of_eq hg)
          have hS6 := hS.pushK ho6 hg6 hA6'
          have hnb : ∀ g', blk AK = some g' → xb + 1 ≤ g' ∧ a.heap.size ≤ g' := fun g' hg' => by have := (hS.kown.blk_lt hg').1; omega
          have hX6 := hX.grown hg6 (by intro e; have := hnb _ e.symm; omega)
          have hP6 := hP.grown hg6 (by intro e; have := hnb _ e.symm; omega)
          have hR6 := hR.kept hg6 (fun g hg hFg => by have := hnb g hg; have := hF g hFg; omega)
          have hKP6 := hKP.grown hBa hg6 (fun g hg => by have := hnb g hg; exact ⟨by omega, .inr (.inr this.2)⟩)
          refine hKK _ _ hP6 ?_
          clear hKK K hS hX hP hR hKP hM hownK hg6 hA6 hA6' ho6 hnb
          try simp only [g_S, Act.put]
          refine rg_t 12 hP6 ?_
          simp only [g_S, Act.put]
          refine rg_t 13 hP6 ?_
          simp only [g_S, Act.put]
          refine zi 14 rfl (by kernel_rfl) rfl (fun K hKK => ?_)
          refine zM (g := xb) (j := 3) (v := .slice A4 (KS.length + 1) c4) (vs := [.slice A4 (KS.length + 1) c4]) rfl rfl rfl hX6 rfl (by kernel_rfl) (by simp) (by simp; rfl) #[.int .u8 168, .int .u64 0, .string ⟨#[]⟩, .slice A4 (KS.length + 1) c4, .slice A i c] (by simp) ?_
          intro wk hX7 hg7 _
          have hS := hS6.box hg7 (by omega)
          have hP := hP6.grown hg7 (sne (by omega))
          have hR := hR6.kept hg7 (fun g' hg' hFg => by injection hg' with hg'; have := hF g' hFg; omega)
          have hKP := hKP6.grown hBa hg7 (fun g' hg' => by injection hg' with hg'; exact ⟨by omega, .inr (.inr (by omega))⟩)
          refine hKK _ _ hP ?_
          clear hKK K hS6 hP6 hR6 hKP6 hX6 hg7
          try simp only [g_S, Act.put]
          refine zK (by kernel_rfl) ?_
          obtain ⟨KS2, hKS2⟩ : ∃ K, K = KS ++ [ks] := ⟨_, rfl⟩
          have hl2' : KS2.length = KS.length + 1 := by rw [hKS2]; simp
          have hk2 : Hid (∀ k ∈ KS2, k.length ≤ 255) := Lib.hid (fun k hk => by
           rw [hKS2] at hk
           rcases List.mem_append.1 hk with h | h
           ·exact hk255.out k h
           ·rw [List.mem_singleton.1 h]; exact hts)
          have HKS2 := Lib.hid hKS2
          rw [← hKS2] at hS
          have hkl2 : KS2.length ≤ i + 1 := by omega
          have hX : Box wk xb 78 #[.int .u8 168, .int .u64 0, .string ⟨#[]⟩, .slice A4 KS2.length c4, .slice A i c] := by rw [hl2']; exact hX7
          go_wp2_with fail
          go_meet
          exact ⟨rfl, KS2, A4, c4, Lib.hid (by simpa using HKS2.out), hkl2, hk2, hS, hX, hR, hP, hKP⟩
         ·clear z3
          go_simp
          have hM := Box.new wt #[.string (str ks)] 9
          have hBm := (Below.refl wt.heap.size wt).alloc (Nat.le_refl _) (.cells #[.string (str ks)] 9)
          refine hKK _ _ (hP.below hBm) ?_
          clear hKK K
          try simp only [g_S, Act.put]
          obtain ⟨mb, hmb⟩ : ∃ g, g = wt.heap.size := ⟨_, rfl⟩
          rw [← hmb] at hM ⊢
          clear hmb
          replace hS := hS.below hBm
          replace hX := hX.below hBm
          replace hR := hR.below hBm
          replace hP := hP.below hBm
          replace hKP := hKP.below hBa hBm
          generalize (wt.alloc (.cells #[.string (str ks)] 9)) = wm at *
          have z3 := hX.c3
          refine zi 4 rfl (by kernel_rfl) rfl (fun K hKK => ?_)
          go_simp
          refine hKK _ _ hP ?_
          clear hKK K z3
          try simp only [g_S, Act.put]
          have hownK : Own _ (xb + 1) 9 1 AK KS.length cK (KS.map txV) := hS.kown
          refine zi 11 rfl (by kernel_rfl) rfl (fun K hKK => ?_)
          refine qz (ops := #[]) slTx Tryz.underlying22 rfl rfl rfl hownK (jC (n := 1) (sz := 1) hM rfl (by decide)) (by intro u hu; simp at hu; subst hu; rfl) (by omega) (by unfold maxLen; omega) (by have := hX.lt; omega) ?_
          intro A4 c4 w6 ho6 hg6 hA6
          have hez : KS.map txV ++ (#[Value.string (str ks)] : Array Value).toList = (KS ++ [ks]).map txV := by rw [List.map_append]; rfl
          rw [hez] at ho6
          clear hez
          have hA6' : blk A4 = blk AK ∨ ∀ g, blk A4 = some g → _ ≤ g := hA6.imp id (fun e g hg => by rw [e] at hg; injection hg with hg; exact Nat.le_of_eq hg)
          have hS6 := hS.pushK ho6 hg6 hA6'
          have hnb : ∀ g', blk AK = some g' → xb + 1 ≤ g' ∧ a.heap.size ≤ g' := fun g' hg' => by have := (hS.kown.blk_lt hg').1; omega
          have hX6 := hX.grown hg6 (by intro e; have := hnb _ e.symm; omega)
          have hP6 := hP.grown hg6 (by intro e; have := hnb _ e.symm; omega)
          have hR6 := hR.kept hg6 (fun g hg hFg => by have := hnb g hg; have := hF g hFg; omega)
          have hKP6 := hKP.grown hBa hg6 (fun g hg => by have := hnb g hg; exact ⟨by omega, .inr (.inr this.2)⟩)
          refine hKK _ _ hP6 ?_
          clear hKK K hS hX hP hR hKP hM hownK hg6 hA6 hA6' ho6 hnb
          try simp only [g_S, Act.put]
          refine rg_t 12 hP6 ?_
          simp only [g_S, Act.put]
          refine rg_t 13 hP6 ?_
          simp only [g_S, Act.put]
          refine zi 14 rfl (by kernel_rfl) rfl (fun K hKK => ?_)
          refine zM (g := xb) (j := 3) (v := .slice A4 (KS.length + 1) c4) (vs := [.slice A4 (KS.length + 1) c4]) rfl rfl rfl hX6 rfl (by kernel_rfl) (by simp) (by simp; rfl) #[.int .u8 168, .int .u64 0, .string ⟨#[]⟩, .slice A4 (KS.length + 1) c4, .slice A i c] (by simp) ?_
          intro wk hX7 hg7 _
          have hS := hS6.box hg7 (by omega)
          have hP := hP6.grown hg7 (sne (by omega))
          have hR := hR6.kept hg7 (fun g' hg' hFg => by injection hg' with hg'; have := hF g' hFg; omega)
          have hKP := hKP6.grown hBa hg7 (fun g' hg' => by injection hg' with hg'; exact ⟨by omega, .inr (.inr (by omega))⟩)
          refine hKK _ _ hP ?_
          clear hKK K hS6 hP6 hR6 hKP6 hX6 hg7
          try simp only [g_S, Act.put]
          refine zK (by kernel_rfl) ?_
          obtain ⟨KS2, hKS2⟩ : ∃ K, K = KS ++ [ks] := ⟨_, rfl⟩
          have hl2' : KS2.length = KS.length + 1 := by rw [hKS2]; simp
          have hk2 : Hid (∀ k ∈ KS2, k.length ≤ 255) := Lib.hid (fun k hk => by
           rw [hKS2] at hk
           rcases List.mem_append.1 hk with h | h
           ·exact hk255.out k h
           ·rw [List.mem_singleton.1 h]; exact hts)
          have HKS2 := Lib.hid hKS2
          rw [← hKS2] at hS
          have hkl2 : KS2.length ≤ i + 1 := by omega
          have hX : Box wk xb 78 #[.int .u8 168, .int .u64 0, .string ⟨#[]⟩, .slice A4 KS2.length c4, .slice A i c] := by rw [hl2']; exact hX7
          go_wp2_with fail
          go_meet
          exact ⟨rfl, KS2, A4, c4, Lib.hid (by simpa using HKS2.out), hkl2, hk2, hS, hX, hR, hP, hKP⟩
       ·obtain rfl : lj = li := hlj
        obtain rfl : bj = false := hbj
        go_wp2_with (with_reducible refine h_A ?_)
        go_meet
        exact ⟨rfl, KS, AK, cK, Lib.hid (by rw [if_neg (by decide)]), by omega, hk255, hS, hX, hR, hP, hKP⟩
      case rest =>
       obtain ⟨rfl, KS2, AK2, cK2, HKS2, hkl2, hk2, hS, hX, hR, hP, hKP⟩ := hcut
       rw [← HKS2.out] at HSm
       clear HKS2 hk255 hkl hts hlj hbj htx
       go_upto_region 8 with fail
       refine Jv (fun _ => True) (by kernel_rfl) ?_
       replace hS : MnS wc.drew (xb + 1) KS2 AK2 cK2 A c xs := hS.on (fun g _ _ => rfl) (Nat.le_refl _)
       replace hR : Rdr F wc.drew v (some vb) lj bj := hR.drew
       replace hP : Box wc.drew pb 255 #[v, .int .i64 (ni : Int)] := hP
       replace hX : Box wc.drew xb 78 #[.int .u8 kd, .int .u64 0, .string ⟨#[]⟩, .slice AK2 KS2.length cK2, .slice A i c] := hX
       replace hKP : KP B pb vb a wc.drew := hKP.drew
       generalize wc.drew = wd at *
       refine zH ?_ 0 (v := ?_) rfl (by kernel_rfl) (by kernel_rfl) (by kernel_rfl) trivial rfl ?_ ?_
       ·repeat (first | refine zC ?_ | refine zu ?_ | exact zz _ _ _)
       rotate_left
       ·intro wS _; go_simp; (with_reducible rfl)
       try simp only [g_S, Act.put]
       refine zH ?_ 1 (v := ?_) rfl (by kernel_rfl) (by kernel_rfl) (by kernel_rfl) trivial rfl ?_ ?_
       ·repeat (first | refine zC ?_ | refine zu ?_ | exact zz _ _ _)
       rotate_left
       ·intro wS _; go_simp; (with_reducible rfl)
       try simp only [g_S, Act.put]
       refine zH ?_ 2 (v := ?_) rfl (by kernel_rfl) (by kernel_rfl) (by kernel_rfl) trivial rfl ?_ ?_
       ·repeat (first | refine zC ?_ | refine zu ?_ | exact zz _ _ _)
       rotate_left
       ·intro wS _; go_simp; (with_reducible rfl)
       try simp only [g_S, Act.put]
       refine zH ?_ 4 (v := ?_) rfl (by kernel_rfl) (by kernel_rfl) (by kernel_rfl) trivial rfl ?_ ?_
       ·repeat (first | refine zC ?_ | refine zu ?_ | exact zz _ _ _)
       rotate_left
       ·intro wS _; go_simp; (with_reducible rfl)
       try simp only [g_S, Act.put]
       refine zH ?_ 5 (v := ?_) rfl (by kernel_rfl) (by kernel_rfl) (by kernel_rfl) trivial rfl ?_ ?_
       ·repeat (first | refine zC ?_ | refine zu ?_ | exact zz _ _ _)
       rotate_left
       ·intro wS _; go_simp; (with_reducible rfl)
       try simp only [g_S, Act.put]
       refine zH ?_ 6 (v := ?_) rfl (by kernel_rfl) (by kernel_rfl) (by kernel_rfl) trivial rfl ?_ ?_
       ·repeat (first | refine zC ?_ | refine zu ?_ | exact zz _ _ _)
       rotate_left
       ·intro wS _; go_simp; (with_reducible rfl)
       try simp only [g_S, Act.put]
       cases hrc : rr with
       | none =>
        have HR0 : Hid (r = none) := Lib.hid (HN.out hrc)
        rw [hrc] at hrr
        clear hrc HN HSm
        refine Xg 3 7 9 rfl rfl rfl (by kernel_rfl) rfl rfl rfl (fun K hKK => ?_) (fun K hKK => ?_) (fun K hKK => ?_)
        ·have z4 := hX.c4
         go_simp
         refine hKK _ _ trivial ?_
         clear hKK K
         try simp only [g_S, Act.put]
         clear z4
         refine zH ?_ 8 (v := ?_) rfl (by kernel_rfl) (by kernel_rfl) (by kernel_rfl) trivial rfl ?_ ?_
         ·repeat (first | refine zC ?_ | refine zu ?_ | exact zz _ _ _)
         rotate_left
         ·intro wS _; go_simp; (with_reducible rfl)
         try simp only [g_S, Act.put]
         refine xc 7 9 rfl rfl (by kernel_rfl) rfl rfl (fun K hKK => ?_) (fun K hKK => ?_)
         ·have hrd := hrec (d + 1) ni F B pb vb v lj bj wd (by omega) hR hP hFp (fun g hg => ⟨(hF g hg).1, Nat.lt_of_lt_of_le (hF g hg).2 hKP.size⟩) hBp hni
          rw [← hrr, hd1] at hrd
          go_simp
          refine hrd.mono ?_
          rintro e wq hres
          clear hrd
          obtain ⟨rfl, hk2⟩ := hres
          exact ⟨rfl, by rw [HR0.out]; exact ⟨rfl, hKP.trans hk2⟩⟩
         ·go_simp
          have hM := Box.new wd #[.int .u8 0, .int .u64 0, .string ⟨#[]⟩, .slice none 0 0, .slice none 0 0] 78
          have hBm := (Below.refl wd.heap.size wd).alloc (Nat.le_refl _) (.cells #[.int .u8 0, .int .u64 0, .string ⟨#[]⟩, .slice none 0 0, .slice none 0 0] 78)
          refine hKK _ _ trivial ?_
          clear hKK K
          try simp only [g_S, Act.put]
          obtain ⟨mb, hmb⟩ : ∃ g, g = wd.heap.size := ⟨_, rfl⟩
          rw [← hmb] at hM ⊢
          replace hS := hS.below hBm
          replace hX := hX.below hBm
          replace hR := hR.below hBm
          replace hP := hP.below hBm
          have hma : a.heap.size ≤ mb := by rw [hmb]; exact hKP.size
          replace hKP := hKP.below hBa hBm
          have hszm := hBm.size
          clear hmb
          generalize (wd.alloc (.cells #[.int .u8 0, .int .u64 0, .string ⟨#[]⟩, .slice none 0 0, .slice none 0 0] 78)) = wm at *
          refine zi 7 rfl (by kernel_rfl) rfl (fun K hKK => ?_)
          have hrd := hrec (d + 1) ni F B pb vb v lj bj wm (by omega) hR hP hFp (fun g hg => ⟨(hF g hg).1, Nat.lt_of_lt_of_le (hF g hg).2 hKP.size⟩) hBp hni
          rw [← hrr, hd1] at hrd
          go_simp
          refine hrd.mono ?_
          rintro e wq hres
          clear hrd
          obtain ⟨rfl, hk2⟩ := hres
          exact ⟨rfl, by rw [HR0.out]; exact ⟨rfl, hKP.trans hk2⟩⟩
        ·have hrd := hrec (d + 1) ni F B pb vb v lj bj wd (by omega) hR hP hFp (fun g hg => ⟨(hF g hg).1, Nat.lt_of_lt_of_le (hF g hg).2 hKP.size⟩) hBp hni
         rw [← hrr, hd1] at hrd
         go_simp
         refine hrd.mono ?_
         rintro e wq hres
         clear hrd
         obtain ⟨rfl, hk2⟩ := hres
         exact ⟨rfl, by rw [HR0.out]; exact ⟨rfl, hKP.trans hk2⟩⟩
        ·go_simp
         have hM := Box.new wd #[.int .u8 0, .int .u64 0, .string ⟨#[]⟩, .slice none 0 0, .slice none 0 0] 78
         have hBm := (Below.refl wd.heap.size wd).alloc (Nat.le_refl _) (.cells #[.int .u8 0, .int .u64 0, .string ⟨#[]⟩, .slice none 0 0, .slice none 0 0] 78)
         refine hKK _ _ trivial ?_
         clear hKK K
         try simp only [g_S, Act.put]
         obtain ⟨mb, hmb⟩ : ∃ g, g = wd.heap.size := ⟨_, rfl⟩
         rw [← hmb] at hM ⊢
         replace hS := hS.below hBm
         replace hX := hX.below hBm
         replace hR := hR.below hBm
         replace hP := hP.below hBm
         have hma : a.heap.size ≤ mb := by rw [hmb]; exact hKP.size
         replace hKP := hKP.below hBa hBm
         have hszm := hBm.size
         clear hmb
         generalize (wd.alloc (.cells #[.int .u8 0, .int .u64 0, .string ⟨#[]⟩, .slice none 0 0, .slice none 0 0] 78)) = wm at *
         refine xc 3 7 rfl rfl (by kernel_rfl) rfl rfl (fun K hKK => ?_) (fun K hKK => ?_)
         ·have z4 := hX.c4
          go_simp
          refine hKK _ _ trivial ?_
          clear hKK K
          try simp only [g_S, Act.put]
          clear z4
          refine zH ?_ 8 (v := ?_) rfl (by kernel_rfl) (by kernel_rfl) (by kernel_rfl) trivial rfl ?_ ?_
          ·repeat (first | refine zC ?_ | refine zu ?_ | exact zz _ _ _)
          rotate_left
          ·intro wS _; go_simp; (with_reducible rfl)
          try simp only [g_S, Act.put]
          refine zi 7 rfl (by kernel_rfl) rfl (fun K hKK => ?_)
          have hrd := hrec (d + 1) ni F B pb vb v lj bj wm (by omega) hR hP hFp (fun g hg => ⟨(hF g hg).1, Nat.lt_of_lt_of_le (hF g hg).2 hKP.size⟩) hBp hni
          rw [← hrr, hd1] at hrd
          go_simp
          refine hrd.mono ?_
          rintro e wq hres
          clear hrd
          obtain ⟨rfl, hk2⟩ := hres
          exact ⟨rfl, by rw [HR0.out]; exact ⟨rfl, hKP.trans hk2⟩⟩
         ·have hrd := hrec (d + 1) ni F B pb vb v lj bj wm (by omega) hR hP hFp (fun g hg => ⟨(hF g hg).1, Nat.lt_of_lt_of_le (hF g hg).2 hKP.size⟩) hBp hni
          rw [← hrr, hd1] at hrd
          go_simp
          refine hrd.mono ?_
          rintro e wq hres
          clear hrd
          obtain ⟨rfl, hk2⟩ := hres
          exact ⟨rfl, by rw [HR0.out]; exact ⟨rfl, hKP.trans hk2⟩⟩
       | some q =>
        have HT := Lib.hid (HSm.out q hrc)
        rw [hrc] at hrr
        clear hrc HN HSm
        obtain ⟨x, lq, nq⟩ := q
        have hnq : nq ≤ 200 := by
         unfold jZ at hrr
         split at hrr
         ·cases hrr
         ·exact Nat.le_trans (va f ni lj x lq nq hrr.symm).2 hni'
        refine Xg 3 7 9 rfl rfl rfl (by kernel_rfl) rfl rfl rfl (fun K hKK => ?_) (fun K hKK => ?_) (fun K hKK => ?_)
        ·have z4 := hX.c4
         go_simp
         refine hKK _ _ trivial ?_
         clear hKK K
         try simp only [g_S, Act.put]
         clear z4
         refine zH ?_ 8 (v := ?_) rfl (by kernel_rfl) (by kernel_rfl) (by kernel_rfl) trivial rfl ?_ ?_
         ·repeat (first | refine zC ?_ | refine zu ?_ | exact zz _ _ _)
         rotate_left
         ·intro wS _; go_simp; (with_reducible rfl)
         try simp only [g_S, Act.put]
         refine xc 7 9 rfl rfl (by kernel_rfl) rfl rfl (fun K hKK => ?_) (fun K hKK => ?_)
         ·have hrd := hrec (d + 1) ni F B pb vb v lj bj wd (by omega) hR hP hFp (fun g hg => ⟨(hF g hg).1, Nat.lt_of_lt_of_le (hF g hg).2 hKP.size⟩) hBp hni
          rw [← hrr, hd1] at hrd
          go_simp
          refine hrd.mono ?_
          rintro e wq hres
          clear hrd
          obtain ⟨hx, rfl, hV, hR2, hP2, hk2⟩ := hres
          unfold vlV
          have h4 : ∀ g, blk A = some g ∨ blk AK2 = some g → g < wd.heap.size := fun g hg => hg.elim (fun e => (hS.own.blk_lt e).2) (fun e => (hS.kown.blk_lt e).2)
          have hbs4 : xb + 1 ≤ wd.heap.size := hX.lt
          replace hS := hk2.mns hS (by omega) (by omega)
          replace hX := hk2.box hX (by omega) (by omega)
          clear hR hP
          have hR := hR2
          have hP := hP2
          replace hKP := hKP.trans hk2
          clear hR2 hP2 hk2
          obtain ⟨W4, hW4⟩ : ∃ g, g = wd.heap.size := ⟨_, rfl⟩
          rw [← hW4] at h4 hbs4 hV
          clear hW4
          refine hKK _ _ trivial ?_
          clear hKK K
          try simp only [g_S, Act.put]
          refine zi 9 rfl (by kernel_rfl) rfl (fun K hKK => ?_)
          go_simp
          have hM := Box.new wq #[.int .u8 0, .int .u64 0, .string ⟨#[]⟩, .slice none 0 0, .slice none 0 0] 78
          have hBm := (Below.refl wq.heap.size wq).alloc (Nat.le_refl _) (.cells #[.int .u8 0, .int .u64 0, .string ⟨#[]⟩, .slice none 0 0, .slice none 0 0] 78)
          refine hKK _ _ trivial ?_
          clear hKK K
          try simp only [g_S, Act.put]
          obtain ⟨mb, hmb⟩ : ∃ g, g = wq.heap.size := ⟨_, rfl⟩
          rw [← hmb] at hM ⊢
          replace hS := hS.below hBm
          replace hX := hX.below hBm
          replace hR := hR.below hBm
          replace hP := hP.below hBm
          have hma : a.heap.size ≤ mb := by rw [hmb]; exact hKP.size
          replace hKP := hKP.below hBa hBm
          have hszm := hBm.size
          clear hmb
          replace hV := (hV.keep (fun g hg => hBm.block g hg.2) hszm).mono (fun g hg => (⟨hg.1, Nat.lt_of_lt_of_le hg.2 hszm⟩ : FN W4 _ g))
          generalize (wq.alloc (.cells #[.int .u8 0, .int .u64 0, .string ⟨#[]⟩, .slice none 0 0, .slice none 0 0] 78)) = wm at *
          have hil := hxl.out
          subst hil
          have hown5 : Own _ (xb + 1) 78 5 A xs.length c (rowC vlC xs) := hS.own
          refine zi 10 rfl (by kernel_rfl) rfl (fun K hKK => ?_)
          refine qz (ops := #[]) slVl Tryz.underlying76 rfl rfl rfl hown5 (jC (n := 1) (sz := 5) hM rfl (by decide)) (by intro u hu; simp at hu; rcases hu with rfl | rfl | rfl | rfl | rfl <;> rfl) (by omega) (by unfold maxLen; omega) (by have := hX.lt; omega) ?_
          intro A4 c4 w6 ho6 hg6 hA6
          have hez : rowC vlC xs ++ (#[.int .u8 0, .int .u64 0, .string ⟨#[]⟩, .slice none 0 0, .slice none 0 0]).toList = rowC vlC (xs ++ [(vl0, (⟨none, 0, none, 0⟩ : VH))]) := by rw [yR]; rfl
          rw [hez] at ho6
          clear hez
          have hA6' : blk A4 = blk A ∨ ∀ g, blk A4 = some g → _ ≤ g := hA6.imp id (fun e g hg => by rw [e] at hg; injection hg with hg; exact Nat.le_of_eq hg)
          have hS6 := hS.push h4 hbs4 (RV.zero _ _) ho6 hg6 hA6'
          have hV6 := hS.fresh h4 hbs4 hV hg6 hA6'
          have hnb : ∀ g', blk A = some g' → xb + 1 ≤ g' ∧ a.heap.size ≤ g' := fun g' hg' => by have := (hS.own.blk_lt hg').1; omega
          have hX6 := hX.grown hg6 (by intro e; have := hnb _ e.symm; omega)
          have hP6 := hP.grown hg6 (by intro e; have := hnb _ e.symm; omega)
          have hR6 := hR.kept hg6 (fun g hg hFg => by have := hnb g hg; have := hF g hFg; omega)
          have hKP6 := hKP.grown hBa hg6 (fun g hg => by have := hnb g hg; exact ⟨by omega, .inr (.inr this.2)⟩)
          refine hKK _ _ trivial ?_
          clear hKK K
          obtain ⟨g, cur, rfl, hbg, hbox, hcs, hset⟩ := qT vlShape ho6
          clear hS hX hP hR hKP hV hM hown5 hg6 hA6 hA6' ho6 hnb h4
          try simp only [g_S, Act.put]
          have g5 : (xs.length : Int) < (xs.length : Int) + 1 := by omega
          have g6 : xs.length < xs.length + 1 := by omega
          refine zH ?_ 11 (v := ?_) rfl (by kernel_rfl) (by kernel_rfl) (by kernel_rfl) trivial rfl ?_ ?_
          ·repeat (first | refine zC ?_ | refine zu ?_ | exact zz _ _ _)
          rotate_left
          ·intro wS _; go_simp; (with_reducible rfl)
          try simp only [g_S, Act.put]
          refine zH ?_ 13 (v := ?_) rfl (by kernel_rfl) (by kernel_rfl) (by kernel_rfl) trivial rfl ?_ ?_
          ·repeat (first | refine zC ?_ | refine zu ?_ | exact zz _ _ _)
          rotate_left
          ·intro wS _; go_simp; (with_reducible rfl)
          try simp only [g_S, Act.put]
          refine zH ?_ 14 (v := ?_) rfl (by kernel_rfl) (by kernel_rfl) (by kernel_rfl) trivial rfl ?_ ?_
          ·repeat (first | refine zC ?_ | refine zu ?_ | exact zz _ _ _)
          rotate_left
          ·intro wS _; go_simp; (with_reducible rfl)
          try simp only [g_S, Act.put]
          have hgx : g ≠ xb := by omega
          refine xc 12 15 rfl rfl (by kernel_rfl) rfl rfl (fun K hKK => ?_) (fun K hKK => ?_)
          ·refine zM (g := g) (j := xs.length * 5) (v := .agg #[.int .u8 (x.kind : Int), .int .u64 (x.n : Int), .string (str x.s), .slice hx.A1 x.keys.length hx.c1, .slice hx.A2 x.list.length hx.c2]) (vs := vlC (x, hx)) rfl rfl rfl hbox rfl (by kernel_rfl) (by have : (vlC (x, hx)).length = 5 := rfl; omega) (vlShape.one _) _ rfl ?_
           intro w8 hbox8 hg8 _
           have hS8 := hS6.setlast hV6 (hset (x, hx) w8 _ rfl hbox8) hg8
           have hX8 := hX6.grown hg8 (sne (by omega))
           have hP8 := hP6.grown hg8 (sne (by omega))
           have hR8 := hR6.kept hg8 (fun g' hg' hFg => by injection hg' with hg'; have := hF g' hFg; omega)
           have hKP8 := hKP6.grown hBa hg8 (fun g' hg' => by injection hg' with hg'; exact ⟨by omega, .inr (.inr (by omega))⟩)
           clear hS6 hX6 hP6 hR6 hKP6 hV6 hg8 hbox hbox8
           have hS6 := hS8
           have hX6 := hX8
           have hP6 := hP8
           have hR6 := hR8
           have hKP6 := hKP8
           clear hS8 hX8 hP8 hR8 hKP8
           refine hKK _ _ trivial ?_
           clear hKK K
           refine zi 15 rfl (by kernel_rfl) rfl (fun K hKK => ?_)
           refine zM (g := xb) (j := 4) (v := .slice (some ⟨g, 0, none⟩) (xs.length + 1) c4) (vs := [.slice (some ⟨g, 0, none⟩) (xs.length + 1) c4]) rfl rfl rfl hX6 rfl (by kernel_rfl) (by simp) (by simp; rfl) #[.int .u8 kd, .int .u64 0, .string ⟨#[]⟩, .slice AK2 KS2.length cK2, .slice (some ⟨g, 0, none⟩) (xs.length + 1) c4] (by simp) ?_
           intro w7 hX7 hg7 _
           replace hS6 := hS6.box hg7 (by omega)
           have hP7 := hP6.grown hg7 (sne (by omega))
           have hR7 := hR6.kept hg7 (fun g' hg' hFg => by injection hg' with hg'; have := hF g' hFg; omega)
           have hKP7 := hKP6.grown hBa hg7 (fun g' hg' => by injection hg' with hg'; exact ⟨by omega, .inr (.inr (by omega))⟩)
           try replace hV6 := (hV6.keep (fun g' hg' => hg7.block g' hg'.2.1 (by intro e; injection e with e; have := hg'.1; omega)) hg7.size).mono (fun g' hg' => (⟨hg'.1, Nat.lt_of_lt_of_le hg'.2.1 hg7.size, hg'.2.2⟩ : FB2 (xb + 1) _ _ w7 g'))
           clear hX6 hP6 hR6 hKP6
           have hX6 := hX7
           have hP6 := hP7
           have hR6 := hR7
           have hKP6 := hKP7
           clear hX7 hP7 hR7 hKP7
           refine hKK _ _ trivial ?_
           clear hKK K
           refine xF (by kernel_rfl) ?_
           go_wp2_with (with_reducible refine h_A ?_)
           exact ⟨⟨xs.length + 1, KS2, AK2, cK2, some ⟨g, 0, none⟩, c4, xs ++ [(x, hx)], lq, nq, by omega, by go_num, Lib.hid (by simp), by omega, hk2, hnq, hS6, hR6, hP6, hX6, hKP6, Lib.hid (by rw [List.map_append]; exact HT.out)⟩, by simp [RowKit.intOf]; omega⟩
          ·refine zM (g := xb) (j := 4) (v := .slice (some ⟨g, 0, none⟩) (xs.length + 1) c4) (vs := [.slice (some ⟨g, 0, none⟩) (xs.length + 1) c4]) rfl rfl rfl hX6 rfl (by kernel_rfl) (by simp) (by simp; rfl) #[.int .u8 kd, .int .u64 0, .string ⟨#[]⟩, .slice AK2 KS2.length cK2, .slice (some ⟨g, 0, none⟩) (xs.length + 1) c4] (by simp) ?_
           intro w7 hX7 hg7 _
           replace hS6 := hS6.box hg7 (by omega)
           have hP7 := hP6.grown hg7 (sne (by omega))
           have hR7 := hR6.kept hg7 (fun g' hg' hFg => by injection hg' with hg'; have := hF g' hFg; omega)
           have hKP7 := hKP6.grown hBa hg7 (fun g' hg' => by injection hg' with hg'; exact ⟨by omega, .inr (.inr (by omega))⟩)
           try replace hV6 := (hV6.keep (fun g' hg' => hg7.block g' hg'.2.1 (by intro e; injection e with e; have := hg'.1; omega)) hg7.size).mono (fun g' hg' => (⟨hg'.1, Nat.lt_of_lt_of_le hg'.2.1 hg7.size, hg'.2.2⟩ : FB2 (xb + 1) _ _ w7 g'))
           clear hX6 hP6 hR6 hKP6
           have hX6 := hX7
           have hP6 := hP7
           have hR6 := hR7
           have hKP6 := hKP7
           clear hX7 hP7 hR7 hKP7
           refine hKK _ _ trivial ?_
           clear hKK K
           replace hbox := hbox.grown hg7 (sne (by omega))
           refine zi 12 rfl (by kernel_rfl) rfl (fun K hKK => ?_)
           refine zM (g := g) (j := xs.length * 5) (v := .agg #[.int .u8 (x.kind : Int), .int .u64 (x.n : Int), .string (str x.s), .slice hx.A1 x.keys.length hx.c1, .slice hx.A2 x.list.length hx.c2]) (vs := vlC (x, hx)) rfl rfl rfl hbox rfl (by kernel_rfl) (by have : (vlC (x, hx)).length = 5 := rfl; omega) (vlShape.one _) _ rfl ?_
           intro w8 hbox8 hg8 _
           have hS8 := hS6.setlast hV6 (hset (x, hx) w8 _ rfl hbox8) hg8
           have hX8 := hX6.grown hg8 (sne (by omega))
           have hP8 := hP6.grown hg8 (sne (by omega))
           have hR8 := hR6.kept hg8 (fun g' hg' hFg => by injection hg' with hg'; have := hF g' hFg; omega)
           have hKP8 := hKP6.grown hBa hg8 (fun g' hg' => by injection hg' with hg'; exact ⟨by omega, .inr (.inr (by omega))⟩)
           clear hS6 hX6 hP6 hR6 hKP6 hV6 hg8 hbox hbox8
           have hS6 := hS8
           have hX6 := hX8
           have hP6 := hP8
           have hR6 := hR8
           have hKP6 := hKP8
           clear hS8 hX8 hP8 hR8 hKP8
           refine hKK _ _ trivial ?_
           clear hKK K
           refine xF (by kernel_rfl) ?_
           go_wp2_with (with_reducible refine h_A ?_)
           exact ⟨⟨xs.length + 1, KS2, AK2, cK2, some ⟨g, 0, none⟩, c4, xs ++ [(x, hx)], lq, nq, by omega, by go_num, Lib.hid (by simp), by omega, hk2, hnq, hS6, hR6, hP6, hX6, hKP6, Lib.hid (by rw [List.map_append]; exact HT.out)⟩, by simp [RowKit.intOf]; omega⟩
         ·go_simp
          have hM := Box.new wd #[.int .u8 0, .int .u64 0, .string ⟨#[]⟩, .slice none 0 0, .slice none 0 0] 78
          have hBm := (Below.refl wd.heap.size wd).alloc (Nat.le_refl _) (.cells #[.int .u8 0, .int .u64 0, .string ⟨#[]⟩, .slice none 0 0, .slice none 0 0] 78)
          refine hKK _ _ trivial ?_
          clear hKK K
          try simp only [g_S, Act.put]
          obtain ⟨mb, hmb⟩ : ∃ g, g = wd.heap.size := ⟨_, rfl⟩
          rw [← hmb] at hM ⊢
          replace hS := hS.below hBm
          replace hX := hX.below hBm
          replace hR := hR.below hBm
          replace hP := hP.below hBm
          have hma : a.heap.size ≤ mb := by rw [hmb]; exact hKP.size
          replace hKP := hKP.below hBa hBm
          have hszm := hBm.size
          clear hmb
          generalize (wd.alloc (.cells #[.int .u8 0, .int .u64 0, .string ⟨#[]⟩, .slice none 0 0, .slice none 0 0] 78)) = wm at *
          refine zi 7 rfl (by kernel_rfl) rfl (fun K hKK => ?_)
          have hrd := hrec (d + 1) ni F B pb vb v lj bj wm (by omega) hR hP hFp (fun g hg => ⟨(hF g hg).1, Nat.lt_of_lt_of_le (hF g hg).2 hKP.size⟩) hBp hni
          rw [← hrr, hd1] at hrd
          go_simp
          refine hrd.mono ?_
          rintro e wq hres
          clear hrd
          obtain ⟨hx, rfl, hV, hR2, hP2, hk2⟩ := hres
          unfold vlV
          have h4 : ∀ g, blk A = some g ∨ blk AK2 = some g → g < wm.heap.size := fun g hg => hg.elim (fun e => (hS.own.blk_lt e).2) (fun e => (hS.kown.blk_lt e).2)
          have hbs4 : xb + 1 ≤ wm.heap.size := hX.lt
          replace hS := hk2.mns hS (by omega) (by omega)
          replace hX := hk2.box hX (by omega) (by omega)
          replace hM := hk2.box hM (by omega) (by omega)
          clear hR hP
          have hR := hR2
          have hP := hP2
          replace hKP := hKP.trans hk2
          clear hR2 hP2 hk2
          obtain ⟨W4, hW4⟩ : ∃ g, g = wm.heap.size := ⟨_, rfl⟩
          rw [← hW4] at h4 hbs4 hV
          clear hW4
          refine hKK _ _ trivial ?_
          clear hKK K
          try simp only [g_S, Act.put]
          have hil := hxl.out
          subst hil
          have hown5 : Own _ (xb + 1) 78 5 A xs.length c (rowC vlC xs) := hS.own
          refine zi 10 rfl (by kernel_rfl) rfl (fun K hKK => ?_)
          refine qz (ops := #[]) slVl Tryz.underlying76 rfl rfl rfl hown5 (jC (n := 1) (sz := 5) hM rfl (by decide)) (by intro u hu; simp at hu; rcases hu with rfl | rfl | rfl | rfl | rfl <;> rfl) (by omega) (by unfold maxLen; omega) (by have := hX.lt; omega) ?_
          intro A4 c4 w6 ho6 hg6 hA6
          have hez : rowC vlC xs ++ (#[.int .u8 0, .int .u64 0, .string ⟨#[]⟩, .slice none 0 0, .slice none 0 0]).toList = rowC vlC (xs ++ [(vl0, (⟨none, 0, none, 0⟩ : VH))]) := by rw [yR]; rfl
          rw [hez] at ho6
          clear hez
          have hA6' : blk A4 = blk A ∨ ∀ g, blk A4 = some g → _ ≤ g := hA6.imp id (fun e g hg => by rw [e] at hg; injection hg with hg; exact Nat.le_of_eq hg)
          have hS6 := hS.push h4 hbs4 (RV.zero _ _) ho6 hg6 hA6'
          have hV6 := hS.fresh h4 hbs4 hV hg6 hA6'
          have hnb : ∀ g', blk A = some g' → xb + 1 ≤ g' ∧ a.heap.size ≤ g' := fun g' hg' => by have := (hS.own.blk_lt hg').1; omega
          have hX6 := hX.grown hg6 (by intro e; have := hnb _ e.symm; omega)
          have hP6 := hP.grown hg6 (by intro e; have := hnb _ e.symm; omega)
          have hR6 := hR.kept hg6 (fun g hg hFg => by have := hnb g hg; have := hF g hFg; omega)
          have hKP6 := hKP.grown hBa hg6 (fun g hg => by have := hnb g hg; exact ⟨by omega, .inr (.inr this.2)⟩)
          refine hKK _ _ trivial ?_
          clear hKK K
          obtain ⟨g, cur, rfl, hbg, hbox, hcs, hset⟩ := qT vlShape ho6
          clear hS hX hP hR hKP hV hM hown5 hg6 hA6 hA6' ho6 hnb h4
          try simp only [g_S, Act.put]
          have g5 : (xs.length : Int) < (xs.length : Int) + 1 := by omega
          have g6 : xs.length < xs.length + 1 := by omega
          refine zH ?_ 11 (v := ?_) rfl (by kernel_rfl) (by kernel_rfl) (by kernel_rfl) trivial rfl ?_ ?_
          ·repeat (first | refine zC ?_ | refine zu ?_ | exact zz _ _ _)
          rotate_left
          ·intro wS _; go_simp; (with_reducible rfl)
          try simp only [g_S, Act.put]
          refine zH ?_ 13 (v := ?_) rfl (by kernel_rfl) (by kernel_rfl) (by kernel_rfl) trivial rfl ?_ ?_
          ·repeat (first | refine zC ?_ | refine zu ?_ | exact zz _ _ _)
          rotate_left
          ·intro wS _; go_simp; (with_reducible rfl)
          try simp only [g_S, Act.put]
          refine zH ?_ 14 (v := ?_) rfl (by kernel_rfl) (by kernel_rfl) (by kernel_rfl) trivial rfl ?_ ?_
          ·repeat (first | refine zC ?_ | refine zu ?_ | exact zz _ _ _)
          rotate_left
          ·intro wS _; go_simp; (with_reducible rfl)
          try simp only [g_S, Act.put]
          have hgx : g ≠ xb := by omega
          refine xc 12 15 rfl rfl (by kernel_rfl) rfl rfl (fun K hKK => ?_) (fun K hKK => ?_)
          ·refine zM (g := g) (j := xs.length * 5) (v := .agg #[.int .u8 (x.kind : Int), .int .u64 (x.n : Int), .string (str x.s), .slice hx.A1 x.keys.length hx.c1, .slice hx.A2 x.list.length hx.c2]) (vs := vlC (x, hx)) rfl rfl rfl hbox rfl (by kernel_rfl) (by have : (vlC (x, hx)).length = 5 := rfl; omega) (vlShape.one _) _ rfl ?_
           intro w8 hbox8 hg8 _
           have hS8 := hS6.setlast hV6 (hset (x, hx) w8 _ rfl hbox8) hg8
           have hX8 := hX6.grown hg8 (sne (by omega))
           have hP8 := hP6.grown hg8 (sne (by omega))
           have hR8 := hR6.kept hg8 (fun g' hg' hFg => by injection hg' with hg'; have := hF g' hFg; omega)
           have hKP8 := hKP6.grown hBa hg8 (fun g' hg' => by injection hg' with hg'; exact ⟨by omega, .inr (.inr (by omega))⟩)
           clear hS6 hX6 hP6 hR6 hKP6 hV6 hg8 hbox hbox8
           have hS6 := hS8
           have hX6 := hX8
           have hP6 := hP8
           have hR6 := hR8
           have hKP6 := hKP8
           clear hS8 hX8 hP8 hR8 hKP8
           refine hKK _ _ trivial ?_
           clear hKK K
           refine zi 15 rfl (by kernel_rfl) rfl (fun K hKK => ?_)
           refine zM (g := xb) (j := 4) (v := .slice (some ⟨g, 0, none⟩) (xs.length + 1) c4) (vs := [.slice (some ⟨g, 0, none⟩) (xs.length + 1) c4]) rfl rfl rfl hX6 rfl (by kernel_rfl) (by simp) (by simp; rfl) #[.int .u8 kd, .int .u64 0, .string ⟨#[]⟩, .slice AK2 KS2.length cK2, .slice (some ⟨g, 0, none⟩) (xs.length + 1) c4] (by simp) ?_
           intro w7 hX7 hg7 _
           replace hS6 := hS6.box hg7 (by omega)
           have hP7 := hP6.grown hg7 (sne (by omega))
           have hR7 := hR6.kept hg7 (fun g' hg' hFg => by injection hg' with hg'; have := hF g' hFg; omega)
           have hKP7 := hKP6.grown hBa hg7 (fun g' hg' => by injection hg' with hg'; exact ⟨by omega, .inr (.inr (by omega))⟩)
           try replace hV6 := (hV6.keep (fun g' hg' => hg7.block g' hg'.2.1 (by intro e; injection e with e; have := hg'.1; omega)) hg7.size).mono (fun g' hg' => (⟨hg'.1, Nat.lt_of_lt_of_le hg'.2.1 hg7.size, hg'.2.2⟩ : FB2 (xb + 1) _ _ w7 g'))
           clear hX6 hP6 hR6 hKP6
           have hX6 := hX7
           have hP6 := hP7
           have hR6 := hR7
           have hKP6 := hKP7
           clear hX7 hP7 hR7 hKP7
           refine hKK _ _ trivial ?_
           clear hKK K
           refine xF (by kernel_rfl) ?_
           go_wp2_with (with_reducible refine h_A ?_)
           exact ⟨⟨xs.length + 1, KS2, AK2, cK2, some ⟨g, 0, none⟩, c4, xs ++ [(x, hx)], lq, nq, by omega, by go_num, Lib.hid (by simp), by omega, hk2, hnq, hS6, hR6, hP6, hX6, hKP6, Lib.hid (by rw [List.map_append]; exact HT.out)⟩, by simp [RowKit.intOf]; omega⟩
          ·refine zM (g := xb) (j := 4) (v := .slice (some ⟨g, 0, none⟩) (xs.length + 1) c4) (vs := [.slice (some ⟨g, 0, none⟩) (xs.length + 1) c4]) rfl rfl rfl hX6 rfl (by kernel_rfl) (by simp) (by simp; rfl) #[.int .u8 kd, .int .u64 0, .string ⟨#[]⟩, .slice AK2 KS2.length cK2, .slice (some ⟨g, 0, none⟩) (xs.length + 1) c4] (by simp) ?_
           intro w7 hX7 hg7 _
           replace hS6 := hS6.box hg7 (by omega)
           have hP7 := hP6.grown hg7 (sne (by omega))
           have hR7 := hR6.kept hg7 (fun g' hg' hFg => by injection hg' with hg'; have := hF g' hFg; omega)
           have hKP7 := hKP6.grown hBa hg7 (fun g' hg' => by injection hg' with hg'; exact ⟨by omega, .inr (.inr (by omega))⟩)
           try replace hV6 := (hV6.keep (fun g' hg' => hg7.block g' hg'.2.1 (by intro e; injection e with e; have := hg'.1; omega)) hg7.size).mono (fun g' hg' => (⟨hg'.1, Nat.lt_of_lt_of_le hg'.2.1 hg7.size, hg'.2.2⟩ : FB2 (xb + 1) _ _ w7 g'))
           clear hX6 hP6 hR6 hKP6
           have hX6 := hX7
           have hP6 := hP7
           have hR6 := hR7
           have hKP6 := hKP7
           clear hX7 hP7 hR7 hKP7
           refine hKK _ _ trivial ?_
           clear hKK K
           replace hbox := hbox.grown hg7 (sne (by omega))
           refine zi 12 rfl (by kernel_rfl) rfl (fun K hKK => ?_)
           refine zM (g := g) (j := xs.length * 5) (v := .agg #[.int .u8 (x.kind : Int), .int .u64 (x.n : Int), .string (str x.s), .slice hx.A1 x.keys.length hx.c1, .slice hx.A2 x.list.length hx.c2]) (vs := vlC (x, hx)) rfl rfl rfl hbox rfl (by kernel_rfl) (by have : (vlC (x, hx)).length = 5 := rfl; omega) (vlShape.one _) _ rfl ?_
           intro w8 hbox8 hg8 _
           have hS8 := hS6.setlast hV6 (hset (x, hx) w8 _ rfl hbox8) hg8
           have hX8 := hX6.grown hg8 (sne (by omega))
           have hP8 := hP6.grown hg8 (sne (by omega))
           have hR8 := hR6.kept hg8 (fun g' hg' hFg => by injection hg' with hg'; have := hF g' hFg; omega)
           have hKP8 := hKP6.grown hBa hg8 (fun g' hg' => by injection hg' with hg'; exact ⟨by omega, .inr (.inr (by omega))⟩)
           clear hS6 hX6 hP6 hR6 hKP6 hV6 hg8 hbox hbox8
           have hS6 := hS8
           have hX6 := hX8
           have hP6 := hP8
           have hR6 := hR8
           have hKP6 := hKP8
           clear hS8 hX8 hP8 hR8 hKP8
           refine hKK _ _ trivial ?_
           clear hKK K
           refine xF (by kernel_rfl) ?_
           go_wp2_with (with_reducible refine h_A ?_)
           exact ⟨⟨xs.length + 1, KS2, AK2, cK2, some ⟨g, 0, none⟩, c4, xs ++ [(x, hx)], lq, nq, by omega, by go_num, Lib.hid (by simp), by omega, hk2, hnq, hS6, hR6, hP6, hX6, hKP6, Lib.hid (by rw [List.map_append]; exact HT.out)⟩, by simp [RowKit.intOf]; omega⟩
        ·have hrd := hrec (d + 1) ni F B pb vb v lj bj wd (by omega) hR hP hFp (fun g hg => ⟨(hF g hg).1, Nat.lt_of_lt_of_le (hF g hg).2 hKP.size⟩) hBp hni
         rw [← hrr, hd1] at hrd
         go_simp
         refine hrd.mono ?_
         rintro e wq hres
         clear hrd
         obtain ⟨hx, rfl, hV, hR2, hP2, hk2⟩ := hres
         unfold vlV
         have h4 : ∀ g, blk A = some g ∨ blk AK2 = some g → g < wd.heap.size := fun g hg => hg.elim (fun e => (hS.own.blk_lt e).2) (fun e => (hS.kown.blk_lt e).2)
         have hbs4 : xb + 1 ≤ wd.heap.size := hX.lt
         replace hS := hk2.mns hS (by omega) (by omega)
         replace hX := hk2.box hX (by omega) (by omega)
         clear hR hP
         have hR := hR2
         have hP := hP2
         replace hKP := hKP.trans hk2
         clear hR2 hP2 hk2
         obtain ⟨W4, hW4⟩ : ∃ g, g = wd.heap.size := ⟨_, rfl⟩
         rw [← hW4] at h4 hbs4 hV
         clear hW4
         refine hKK _ _ trivial ?_
         clear hKK K
         try simp only [g_S, Act.put]
         refine xc 3 9 rfl rfl (by kernel_rfl) rfl rfl (fun K hKK => ?_) (fun K hKK => ?_)
         ·have z4 := hX.c4
          go_simp
          refine hKK _ _ trivial ?_
          clear hKK K
          try simp only [g_S, Act.put]
          clear z4
          refine zH ?_ 8 (v := ?_) rfl (by kernel_rfl) (by kernel_rfl) (by kernel_rfl) trivial rfl ?_ ?_
          ·repeat (first | refine zC ?_ | refine zu ?_ | exact zz _ _ _)
          rotate_left
          ·intro wS _; go_simp; (with_reducible rfl)
          try simp only [g_S, Act.put]
          refine zi 9 rfl (by kernel_rfl) rfl (fun K hKK => ?_)
          go_simp
          have hM := Box.new wq #[.int .u8 0, .int .u64 0, .string ⟨#[]⟩, .slice none 0 0, .slice none 0 0] 78
          have hBm := (Below.refl wq.heap.size wq).alloc (Nat.le_refl _) (.cells #[.int .u8 0, .int .u64 0, .string ⟨#[]⟩, .slice none 0 0, .slice none 0 0] 78)
          refine hKK _ _ trivial ?_
          clear hKK K
          try simp only [g_S, Act.put]
          obtain ⟨mb, hmb⟩ : ∃ g, g = wq.heap.size := ⟨_, rfl⟩
          rw [← hmb] at hM ⊢
          replace hS := hS.below hBm
          replace hX := hX.below hBm
          replace hR := hR.below hBm
          replace hP := hP.below hBm
          have hma : a.heap.size ≤ mb := by rw [hmb]; exact hKP.size
          replace hKP := hKP.below hBa hBm
          have hszm := hBm.size
          clear hmb
          replace hV := (hV.keep (fun g hg => hBm.block g hg.2) hszm).mono (fun g hg => (⟨hg.1, Nat.lt_of_lt_of_le hg.2 hszm⟩ : FN W4 _ g))
          generalize (wq.alloc (.cells #[.int .u8 0, .int .u64 0, .string ⟨#[]⟩, .slice none 0 0, .slice none 0 0] 78)) = wm at *
          have hil := hxl.out
          subst hil
          have hown5 : Own _ (xb + 1) 78 5 A xs.length c (rowC vlC xs) := hS.own
          refine zi 10 rfl (by kernel_rfl) rfl (fun K hKK => ?_)
          refine qz (ops := #[]) slVl Tryz.underlying76 rfl rfl rfl hown5 (jC (n := 1) (sz := 5) hM rfl (by decide)) (by intro u hu; simp at hu; rcases hu with rfl | rfl | rfl | rfl | rfl <;> rfl) (by omega) (by unfold maxLen; omega) (by have := hX.lt; omega) ?_
          intro A4 c4 w6 ho6 hg6 hA6
          have hez : rowC vlC xs ++ (#[.int .u8 0, .int .u64 0, .string ⟨#[]⟩, .slice none 0 0, .slice none 0 0]).toList = rowC vlC (xs ++ [(vl0, (⟨none, 0, none, 0⟩ : VH))]) := by rw [yR]; rfl
          rw [hez] at ho6
          clear hez
          have hA6' : blk A4 = blk A ∨ ∀ g, blk A4 = some g → _ ≤ g := hA6.imp id (fun e g hg => by rw [e] at hg; injection hg with hg; exact Nat.le_of_eq hg)
          have hS6 := hS.push h4 hbs4 (RV.zero _ _) ho6 hg6 hA6'
          have hV6 := hS.fresh h4 hbs4 hV hg6 hA6'
          have hnb : ∀ g', blk A = some g' → xb + 1 ≤ g' ∧ a.heap.size ≤ g' := fun g' hg' => by have := (hS.own.blk_lt hg').1; omega
          have hX6 := hX.grown hg6 (by intro e; have := hnb _ e.symm; omega)
          have hP6 := hP.grown hg6 (by intro e; have := hnb _ e.symm; omega)
          have hR6 := hR.kept hg6 (fun g hg hFg => by have := hnb g hg; have := hF g hFg; omega)
          have hKP6 := hKP.grown hBa hg6 (fun g hg => by have := hnb g hg; exact ⟨by omega, .inr (.inr this.2)⟩)
          refine hKK _ _ trivial ?_
          clear hKK K
          obtain ⟨g, cur, rfl, hbg, hbox, hcs, hset⟩ := qT vlShape ho6
          clear hS hX hP hR hKP hV hM hown5 hg6 hA6 hA6' ho6 hnb h4
          try simp only [g_S, Act.put]
          have g5 : (xs.length : Int) < (xs.length : Int) + 1 := by omega
          have g6 : xs.length < xs.length + 1 := by omega
          refine zH ?_ 11 (v := ?_) rfl (by kernel_rfl) (by kernel_rfl) (by kernel_rfl) trivial rfl ?_ ?_
          ·repeat (first | refine zC ?_ | refine zu ?_ | exact zz _ _ _)
          rotate_left
          ·intro wS _; go_simp; (with_reducible rfl)
          try simp only [g_S, Act.put]
          refine zH ?_ 13 (v := ?_) rfl (by kernel_rfl) (by kernel_rfl) (by kernel_rfl) trivial rfl ?_ ?_
          ·repeat (first | refine zC ?_ | refine zu ?_ | exact zz _ _ _)
          rotate_left
          ·intro wS _; go_simp; (with_reducible rfl)
          try simp only [g_S, Act.put]
          refine zH ?_ 14 (v := ?_) rfl (by kernel_rfl) (by kernel_rfl) (by kernel_rfl) trivial rfl ?_ ?_
          ·repeat (first | refine zC ?_ | refine zu ?_ | exact zz _ _ _)
          rotate_left
          ·intro wS _; go_simp; (with_reducible rfl)
          try simp only [g_S, Act.put]
          have hgx : g ≠ xb := by omega
          refine xc 12 15 rfl rfl (by kernel_rfl) rfl rfl (fun K hKK => ?_) (fun K hKK => ?_)
          ·refine zM (g := g) (j := xs.length * 5) (v := .agg #[.int .u8 (x.kind : Int), .int .u64 (x.n : Int), .string (str x.s), .slice hx.A1 x.keys.length hx.c1, .slice hx.A2 x.list.length hx.c2]) (vs := vlC (x, hx)) rfl rfl rfl hbox rfl (by kernel_rfl) (by have : (vlC (x, hx)).length = 5 := rfl; omega) (vlShape.one _) _ rfl ?_
           intro w8 hbox8 hg8 _
           have hS8 := hS6.setlast hV6 (hset (x, hx) w8 _ rfl hbox8) hg8
           have hX8 := hX6.grown hg8 (sne (by omega))
           have hP8 := hP6.grown hg8 (sne (by omega))
           have hR8 := hR6.kept hg8 (fun g' hg' hFg => by injection hg' with hg'; have := hF g' hFg; omega)
           have hKP8 := hKP6.grown hBa hg8 (fun g' hg' => by injection hg' with hg'; exact ⟨by omega, .inr (.inr (by omega))⟩)
           clear hS6 hX6 hP6 hR6 hKP6 hV6 hg8 hbox hbox8
           have hS6 := hS8
           have hX6 := hX8
           have hP6 := hP8
           have hR6 := hR8
           have hKP6 := hKP8
           clear hS8 hX8 hP8 hR8 hKP8
           refine hKK _ _ trivial ?_
           clear hKK K
           refine zi 15 rfl (by kernel_rfl) rfl (fun K hKK => ?_)
           refine zM (g := xb) (j := 4) (v := .slice (some ⟨g, 0, none⟩) (xs.length + 1) c4) (vs := [.slice (some ⟨g, 0, none⟩) (xs.length + 1) c4]) rfl rfl rfl hX6 rfl (by kernel_rfl) (by simp) (by simp; rfl) #[.int .u8 kd, .int .u64 0, .string ⟨#[]⟩, .slice AK2 KS2.length cK2, .slice (some ⟨g, 0, none⟩) (xs.length + 1) c4] (by simp) ?_
           intro w7 hX7 hg7 _
           replace hS6 := hS6.box hg7 (by omega)
           have hP7 := hP6.grown hg7 (sne (by omega))
           have hR7 := hR6.kept hg7 (fun g' hg' hFg => by injection hg' with hg'; have := hF g' hFg; omega)
           have hKP7 := hKP6.grown hBa hg7 (fun g' hg' => by injection hg' with hg'; exact ⟨by omega, .inr (.inr (by omega))⟩)
           try replace hV6 := (hV6.keep (fun g' hg' => hg7.block g' hg'.2.1 (by intro e; injection e with e; have := hg'.1; omega)) hg7.size).mono (fun g' hg' => (⟨hg'.1, Nat.lt_of_lt_of_le hg'.2.1 hg7.size, hg'.2.2⟩ : FB2 (xb + 1) _ _ w7 g'))
           clear hX6 hP6 hR6 hKP6
           have hX6 := hX7
           have hP6 := hP7
           have hR6 := hR7
           have hKP6 := hKP7
           clear hX7 hP7 hR7 hKP7
           refine hKK _ _ trivial ?_
           clear hKK K
           refine xF (by kernel_rfl) ?_
           go_wp2_with (with_reducible refine h_A ?_)
           exact ⟨⟨xs.length + 1, KS2, AK2, cK2, some ⟨g, 0, none⟩, c4, xs ++ [(x, hx)], lq, nq, by omega, by go_num, Lib.hid (by simp), by omega, hk2, hnq, hS6, hR6, hP6, hX6, hKP6, Lib.hid (by rw [List.map_append]; exact HT.out)⟩, by simp [RowKit.intOf]; omega⟩
          ·refine zM (g := xb) (j := 4) (v := .slice (some ⟨g, 0, none⟩) (xs.length + 1) c4) (vs := [.slice (some ⟨g, 0, none⟩) (xs.length + 1) c4]) rfl rfl rfl hX6 rfl (by kernel_rfl) (by simp) (by simp; rfl) #[.int .u8 kd, .int .u64 0, .string ⟨#[]⟩, .slice AK2 KS2.length cK2, .slice (some ⟨g, 0, none⟩) (xs.length + 1) c4] (by simp) ?_
           intro w7 hX7 hg7 _
           replace hS6 := hS6.box hg7 (by omega)
           have hP7 := hP6.grown hg7 (sne (by omega))
           have hR7 := hR6.kept hg7 (fun g' hg' hFg => by injection hg' with hg'; have := hF g' hFg; omega)
           have hKP7 := hKP6.grown hBa hg7 (fun g' hg' => by injection hg' with hg'; exact ⟨by omega, .inr (.inr (by omega))⟩)
           try replace hV6 := (hV6.keep (fun g' hg' => hg7.block g' hg'.2.1 (by intro e; injection e with e; have := hg'.1; omega)) hg7.size).mono (fun g' hg' => (⟨hg'.1, Nat.lt_of_lt_of_le hg'.2.1 hg7.size, hg'.2.2⟩ : FB2 (xb + 1) _ _ w7 g'))
           clear hX6 hP6 hR6 hKP6
           have hX6 := hX7
           have hP6 := hP7
           have hR6 := hR7
           have hKP6 := hKP7
           clear hX7 hP7 hR7 hKP7
           refine hKK _ _ trivial ?_
           clear hKK K
           replace hbox := hbox.grown hg7 (sne (by omega))
           refine zi 12 rfl (by kernel_rfl) rfl (fun K hKK => ?_)
           refine zM (g := g) (j := xs.length * 5) (v := .agg #[.int .u8 (x.kind : Int), .int .u64 (x.n : Int), .string (str x.s), .slice hx.A1 x.keys.length hx.c1, .slice hx.A2 x.list.length hx.c2]) (vs := vlC (x, hx)) rfl rfl rfl hbox rfl (by kernel_rfl) (by have : (vlC (x, hx)).length = 5 := rfl; omega) (vlShape.one _) _ rfl ?_
           intro w8 hbox8 hg8 _
           have hS8 := hS6.setlast hV6 (hset (x, hx) w8 _ rfl hbox8) hg8
           have hX8 := hX6.grown hg8 (sne (by omega))
           have hP8 := hP6.grown hg8 (sne (by omega))
           have hR8 := hR6.kept hg8 (fun g' hg' hFg => by injection hg' with hg'; have := hF g' hFg; omega)
           have hKP8 := hKP6.grown hBa hg8 (fun g' hg' => by injection hg' with hg'; exact ⟨by omega, .inr (.inr (by omega))⟩)
           clear hS6 hX6 hP6 hR6 hKP6 hV6 hg8 hbox hbox8
           have hS6 := hS8
           have hX6 := hX8
           have hP6 := hP8
           have hR6 := hR8
           have hKP6 := hKP8
           clear hS8 hX8 hP8 hR8 hKP8
           refine hKK _ _ trivial ?_
           clear hKK K
           refine xF (by kernel_rfl) ?_
           go_wp2_with (with_reducible refine h_A ?_)
           exact ⟨⟨xs.length + 1, KS2, AK2, cK2, some ⟨g, 0, none⟩, c4, xs ++ [(x, hx)], lq, nq, by omega, by go_num, Lib.hid (by simp), by omega, hk2, hnq, hS6, hR6, hP6, hX6, hKP6, Lib.hid (by rw [List.map_append]; exact HT.out)⟩, by simp [RowKit.intOf]; omega⟩
         ·go_simp
          have hM := Box.new wq #[.int .u8 0, .int .u64 0, .string ⟨#[]⟩, .slice none 0 0, .slice none 0 0] 78
          have hBm := (Below.refl wq.heap.size wq).alloc (Nat.le_refl _) (.cells #[.int .u8 0, .int .u64 0, .string ⟨#[]⟩, .slice none 0 0, .slice none 0 0] 78)
          refine hKK _ _ trivial ?_
          clear hKK K
          try simp only [g_S, Act.put]
          obtain ⟨mb, hmb⟩ : ∃ g, g = wq.heap.size := ⟨_, rfl⟩
          rw [← hmb] at hM ⊢
          replace hS := hS.below hBm
          replace hX := hX.below hBm
          replace hR := hR.below hBm
          replace hP := hP.below hBm
          have hma : a.heap.size ≤ mb := by rw [hmb]; exact hKP.size
          replace hKP := hKP.below hBa hBm
          have hszm := hBm.size
          clear hmb
          replace hV := (hV.keep (fun g hg => hBm.block g hg.2) hszm).mono (fun g hg => (⟨hg.1, Nat.lt_of_lt_of_le hg.2 hszm⟩ : FN W4 _ g))
          generalize (wq.alloc (.cells #[.int .u8 0, .int .u64 0, .string ⟨#[]⟩, .slice none 0 0, .slice none 0 0] 78)) = wm at *
          refine zi 3 rfl (by kernel_rfl) rfl (fun K hKK => ?_)
          have z4 := hX.c4
          go_simp
          refine hKK _ _ trivial ?_
          clear hKK K
          try simp only [g_S, Act.put]
          clear z4
          refine zH ?_ 8 (v := ?_) rfl (by kernel_rfl) (by kernel_rfl) (by kernel_rfl) trivial rfl ?_ ?_
          ·repeat (first | refine zC ?_ | refine zu ?_ | exact zz _ _ _)
          rotate_left
          ·intro wS _; go_simp; (with_reducible rfl)
          try simp only [g_S, Act.put]
          have hil := hxl.out
          subst hil
          have hown5 : Own _ (xb + 1) 78 5 A xs.length c (rowC vlC xs) := hS.own
          refine zi 10 rfl (by kernel_rfl) rfl (fun K hKK => ?_)
          refine qz (ops := #[]) slVl Tryz.underlying76 rfl rfl rfl hown5 (jC (n := 1) (sz := 5) hM rfl (by decide)) (by intro u hu; simp at hu; rcases hu with rfl | rfl | rfl | rfl | rfl <;> rfl) (by omega) (by unfold maxLen; omega) (by have := hX.lt; omega) ?_
          intro A4 c4 w6 ho6 hg6 hA6
          have hez : rowC vlC xs ++ (#[.int .u8 0, .int .u64 0, .string ⟨#[]⟩, .slice none 0 0, .slice none 0 0]).toList = rowC vlC (xs ++ [(vl0, (⟨none, 0, none, 0⟩ : VH))]) := by rw [yR]; rfl
          rw [hez] at ho6
          clear hez
          have hA6' : blk A4 = blk A ∨ ∀ g, blk A4 = some g → _ ≤ g := hA6.imp id (fun e g hg => by rw [e] at hg; injection hg with hg; exact Nat.le_of_eq hg)
          have hS6 := hS.push h4 hbs4 (RV.zero _ _) ho6 hg6 hA6'
          have hV6 := hS.fresh h4 hbs4 hV hg6 hA6'
          have hnb : ∀ g', blk A = some g' → xb + 1 ≤ g' ∧ a.heap.size ≤ g' := fun g' hg' => by have := (hS.own.blk_lt hg').1; omega
          have hX6 := hX.grown hg6 (by intro e; have := hnb _ e.symm; omega)
          have hP6 := hP.grown hg6 (by intro e; have := hnb _ e.symm; omega)
          have hR6 := hR.kept hg6 (fun g hg hFg => by have := hnb g hg; have := hF g hFg; omega)
          have hKP6 := hKP.grown hBa hg6 (fun g hg => by have := hnb g hg; exact ⟨by omega, .inr (.inr this.2)⟩)
          refine hKK _ _ trivial ?_
          clear hKK K
          obtain ⟨g, cur, rfl, hbg, hbox, hcs, hset⟩ := qT vlShape ho6
          clear hS hX hP hR hKP hV hM hown5 hg6 hA6 hA6' ho6 hnb h4
          try simp only [g_S, Act.put]
          have g5 : (xs.length : Int) < (xs.length : Int) + 1 := by omega
          have g6 : xs.length < xs.length + 1 := by omega
          refine zH ?_ 11 (v := ?_) rfl (by kernel_rfl) (by kernel_rfl) (by kernel_rfl) trivial rfl ?_ ?_
          ·repeat (first | refine zC ?_ | refine zu ?_ | exact zz _ _ _)
          rotate_left
          ·intro wS _; go_simp; (with_reducible rfl)
          try simp only [g_S, Act.put]
          refine zH ?_ 13 (v := ?_) rfl (by kernel_rfl) (by kernel_rfl) (by kernel_rfl) trivial rfl ?_ ?_
          ·repeat (first | refine zC ?_ | refine zu ?_ | exact zz _ _ _)
          rotate_left
          ·intro wS _; go_simp; (with_reducible rfl)
          try simp only [g_S, Act.put]
          refine zH ?_ 14 (v := ?_) rfl (by kernel_rfl) (by kernel_rfl) (by kernel_rfl) trivial rfl ?_ ?_
          ·repeat (first | refine zC ?_ | refine zu ?_ | exact zz _ _ _)
          rotate_left
          ·intro wS _; go_simp; (with_reducible rfl)
          try simp only [g_S, Act.put]
          have hgx : g ≠ xb := by omega
          refine xc 12 15 rfl rfl (by kernel_rfl) rfl rfl (fun K hKK => ?_) (fun K hKK => ?_)
          ·refine zM (g := g) (j := xs.length * 5) (v := .agg #[.int .u8 (x.kind : Int), .int .u64 (x.n : Int), .string (str x.s), .slice hx.A1 x.keys.length hx.c1, .slice hx.A2 x.list.length hx.c2]) (vs := vlC (x, hx)) rfl rfl rfl hbox rfl (by kernel_rfl) (by have : (vlC (x, hx)).length = 5 := rfl; omega) (vlShape.one _) _ rfl ?_
           intro w8 hbox8 hg8 _
           have hS8 := hS6.setlast hV6 (hset (x, hx) w8 _ rfl hbox8) hg8
           have hX8 := hX6.grown hg8 (sne (by omega))
           have hP8 := hP6.grown hg8 (sne (by omega))
           have hR8 := hR6.kept hg8 (fun g' hg' hFg => by injection hg' with hg'; have := hF g' hFg; omega)
           have hKP8 := hKP6.grown hBa hg8 (fun g' hg' => by injection hg' with hg'; exact ⟨by omega, .inr (.inr (by omega))⟩)
           clear hS6 hX6 hP6 hR6 hKP6 hV6 hg8 hbox hbox8
           have hS6 := hS8
           have hX6 := hX8
           have hP6 := hP8
           have hR6 := hR8
           have hKP6 := hKP8
           clear hS8 hX8 hP8 hR8 hKP8
           refine hKK _ _ trivial ?_
           clear hKK K
           refine zi 15 rfl (by kernel_rfl) rfl (fun K hKK => ?_)
           refine zM (g := xb) (j := 4) (v := .slice (some ⟨g, 0, none⟩) (xs.length + 1) c4) (vs := [.slice (some ⟨g, 0, none⟩) (xs.length + 1) c4]) rfl rfl rfl hX6 rfl (by kernel_rfl) (by simp) (by simp; rfl) #[.int .u8 kd, .int .u64 0, .string ⟨#[]⟩, .slice AK2 KS2.length cK2, .slice (some ⟨g, 0, none⟩) (xs.length + 1) c4] (by simp) ?_
           intro w7 hX7 hg7 _
           replace hS6 := hS6.box hg7 (by omega)
           have hP7 := hP6.grown hg7 (sne (by omega))
           have hR7 := hR6.kept hg7 (fun g' hg' hFg => by injection hg' with hg'; have := hF g' hFg; omega)
           have hKP7 := hKP6.grown hBa hg7 (fun g' hg' => by injection hg' with hg'; exact ⟨by omega, .inr (.inr (by omega))⟩)
           try replace hV6 := (hV6.keep (fun g' hg' => hg7.block g' hg'.2.1 (by intro e; injection e with e; have := hg'.1; omega)) hg7.size).mono (fun g' hg' => (⟨hg'.1, Nat.lt_of_lt_of_le hg'.2.1 hg7.size, hg'.2.2⟩ : FB2 (xb + 1) _ _ w7 g'))
           clear hX6 hP6 hR6 hKP6
           have hX6 := hX7
           have hP6 := hP7
           have hR6 := hR7
           have hKP6 := hKP7
           clear hX7 hP7 hR7 hKP7
           refine hKK _ _ trivial ?_
           clear hKK K
           refine xF (by kernel_rfl) ?_
           go_wp2_with (with_reducible refine h_A ?_)
           exact ⟨⟨xs.length + 1, KS2, AK2, cK2, some ⟨g, 0, none⟩, c4, xs ++ [(x, hx)], lq, nq, by omega, by go_num, Lib.hid (by simp), by omega, hk2, hnq, hS6, hR6, hP6, hX6, hKP6, Lib.hid (by rw [List.map_append]; exact HT.out)⟩, by simp [RowKit.intOf]; omega⟩
          ·refine zM (g := xb) (j := 4) (v := .slice (some ⟨g, 0, none⟩) (xs.length + 1) c4) (vs := [.slice (some ⟨g, 0, none⟩) (xs.length + 1) c4]) rfl rfl rfl hX6 rfl (by kernel_rfl) (by simp) (by simp; rfl) #[.int .u8 kd, .int .u64 0, .string ⟨#[]⟩, .slice AK2 KS2.length cK2, .slice (some ⟨g, 0, none⟩) (xs.length + 1) c4] (by simp) ?_
           intro w7 hX7 hg7 _
           replace hS6 := hS6.box hg7 (by omega)
           have hP7 := hP6.grown hg7 (sne (by omega))
           have hR7 := hR6.kept hg7 (fun g' hg' hFg => by injection hg' with hg'; have := hF g' hFg; omega)
           have hKP7 := hKP6.grown hBa hg7 (fun g' hg' => by injection hg' with hg'; exact ⟨by omega, .inr (.inr (by omega))⟩)
           try replace hV6 := (hV6.keep (fun g' hg' => hg7.block g' hg'.2.1 (by intro e; injection e with e; have := hg'.1; omega)) hg7.size).mono (fun g' hg' => (⟨hg'.1, Nat.lt_of_lt_of_le hg'.2.1 hg7.size, hg'.2.2⟩ : FB2 (xb + 1) _ _ w7 g'))
           clear hX6 hP6 hR6 hKP6
           have hX6 := hX7
           have hP6 := hP7
           have hR6 := hR7
           have hKP6 := hKP7
           clear hX7 hP7 hR7 hKP7
           refine hKK _ _ trivial ?_
           clear hKK K
           replace hbox := hbox.grown hg7 (sne (by omega))
           refine zi 12 rfl (by kernel_rfl) rfl (fun K hKK => ?_)
           refine zM (g := g) (j := xs.length * 5) (v := .agg #[.int .u8 (x.kind : Int), .int .u64 (x.n : Int), .string (str x.s), .slice hx.A1 x.keys.length hx.c1, .slice hx.A2 x.list.length hx.c2]) (vs := vlC (x, hx)) rfl rfl rfl hbox rfl (by kernel_rfl) (by have : (vlC (x, hx)).length = 5 := rfl; omega) (vlShape.one _) _ rfl ?_
           intro w8 hbox8 hg8 _
           have hS8 := hS6.setlast hV6 (hset (x, hx) w8 _ rfl hbox8) hg8
           have hX8 := hX6.grown hg8 (sne (by omega))
           have hP8 := hP6.grown hg8 (sne (by omega))
           have hR8 := hR6.kept hg8 (fun g' hg' hFg => by injection hg' with hg'; have := hF g' hFg; omega)
           have hKP8 := hKP6.grown hBa hg8 (fun g' hg' => by injection hg' with hg'; exact ⟨by omega, .inr (.inr (by omega))⟩)
           clear hS6 hX6 hP6 hR6 hKP6 hV6 hg8 hbox hbox8
           have hS6 := hS8
           have hX6 := hX8
           have hP6 := hP8
           have hR6 := hR8
           have hKP6 := hKP8
           clear hS8 hX8 hP8 hR8 hKP8
           refine hKK _ _ trivial ?_
           clear hKK K
           refine xF (by kernel_rfl) ?_
           go_wp2_with (with_reducible refine h_A ?_)
           exact ⟨⟨xs.length + 1, KS2, AK2, cK2, some ⟨g, 0, none⟩, c4, xs ++ [(x, hx)], lq, nq, by omega, by go_num, Lib.hid (by simp), by omega, hk2, hnq, hS6, hR6, hP6, hX6, hKP6, Lib.hid (by rw [List.map_append]; exact HT.out)⟩, by simp [RowKit.intOf]; omega⟩
        ·go_simp
         have hM := Box.new wd #[.int .u8 0, .int .u64 0, .string ⟨#[]⟩, .slice none 0 0, .slice none 0 0] 78
         have hBm := (Below.refl wd.heap.size wd).alloc (Nat.le_refl _) (.cells #[.int .u8 0, .int .u64 0, .string ⟨#[]⟩, .slice none 0 0, .slice none 0 0] 78)
         refine hKK _ _ trivial ?_
         clear hKK K
         try simp only [g_S, Act.put]
         obtain ⟨mb, hmb⟩ : ∃ g, g = wd.heap.size := ⟨_, rfl⟩
         rw [← hmb] at hM ⊢
         replace hS := hS.below hBm
         replace hX := hX.below hBm
         replace hR := hR.below hBm
         replace hP := hP.below hBm
         have hma : a.heap.size ≤ mb := by rw [hmb]; exact hKP.size
         replace hKP := hKP.below hBa hBm
         have hszm := hBm.size
         clear hmb
         generalize (wd.alloc (.cells #[.int .u8 0, .int .u64 0, .string ⟨#[]⟩, .slice none 0 0, .slice none 0 0] 78)) = wm at *
         refine xc 3 7 rfl rfl (by kernel_rfl) rfl rfl (fun K hKK => ?_) (fun K hKK => ?_)
         ·have z4 := hX.c4
          go_simp
          refine hKK _ _ trivial ?_
          clear hKK K
          try simp only [g_S, Act.put]
          clear z4
          refine zH ?_ 8 (v := ?_) rfl (by kernel_rfl) (by kernel_rfl) (by kernel_rfl) trivial rfl ?_ ?_
          ·repeat (first | refine zC ?_ | refine zu ?_ | exact zz _ _ _)
          rotate_left
          ·intro wS _; go_simp; (with_reducible rfl)
          try simp only [g_S, Act.put]
          refine zi 7 rfl (by kernel_rfl) rfl (fun K hKK => ?_)
          have hrd := hrec (d + 1) ni F B pb vb v lj bj wm (by omega) hR hP hFp (fun g hg => ⟨(hF g hg).1, Nat.lt_of_lt_of_le (hF g hg).2 hKP.size⟩) hBp hni
          rw [← hrr, hd1] at hrd
          go_simp
          refine hrd.mono ?_
          rintro e wq hres
          clear hrd
          obtain ⟨hx, rfl, hV, hR2, hP2, hk2⟩ := hres
          unfold vlV
          have h4 : ∀ g, blk A = some g ∨ blk AK2 = some g → g < wm.heap.size := fun g hg => hg.elim (fun e => (hS.own.blk_lt e).2) (fun e => (hS.kown.blk_lt e).2)
          have hbs4 : xb + 1 ≤ wm.heap.size := hX.lt
          replace hS := hk2.mns hS (by omega) (by omega)
          replace hX := hk2.box hX (by omega) (by omega)
          replace hM := hk2.box hM (by omega) (by omega)
          clear hR hP
          have hR := hR2
          have hP := hP2
          replace hKP := hKP.trans hk2
          clear hR2 hP2 hk2
          obtain ⟨W4, hW4⟩ : ∃ g, g = wm.heap.size := ⟨_, rfl⟩
          rw [← hW4] at h4 hbs4 hV
          clear hW4
          refine hKK _ _ trivial ?_
          clear hKK K
          try simp only [g_S, Act.put]
          have hil := hxl.out
          subst hil
          have hown5 : Own _ (xb + 1) 78 5 A xs.length c (rowC vlC xs) := hS.own
          refine zi 10 rfl (by kernel_rfl) rfl (fun K hKK => ?_)
          refine qz (ops := #[]) slVl Tryz.underlying76 rfl rfl rfl hown5 (jC (n := 1) (sz := 5) hM rfl (by decide)) (by intro u hu; simp at hu; rcases hu with rfl | rfl | rfl | rfl | rfl <;> rfl) (by omega) (by unfold maxLen; omega) (by have := hX.lt; omega) ?_
          intro A4 c4 w6 ho6 hg6 hA6
          have hez : rowC vlC xs ++ (#[.int .u8 0, .int .u64 0, .string ⟨#[]⟩, .slice none 0 0, .slice none 0 0]).toList = rowC vlC (xs ++ [(vl0, (⟨none, 0, none, 0⟩ : VH))]) := by rw [yR]; rfl
          rw [hez] at ho6
          clear hez
          have hA6' : blk A4 = blk A ∨ ∀ g, blk A4 = some g → _ ≤ g := hA6.imp id (fun e g hg => by rw [e] at hg; injection hg with hg; exact Nat.le_of_eq hg)
          have hS6 := hS.push h4 hbs4 (RV.zero _ _) ho6 hg6 hA6'
          have hV6 := hS.fresh h4 hbs4 hV hg6 hA6'
          have hnb : ∀ g', blk A = some g' → xb + 1 ≤ g' ∧ a.heap.size ≤ g' := fun g' hg' => by have := (hS.own.blk_lt hg').1; omega
          have hX6 := hX.grown hg6 (by intro e; have := hnb _ e.symm; omega)
          have hP6 := hP.grown hg6 (by intro e; have := hnb _ e.symm; omega)
          have hR6 := hR.kept hg6 (fun g hg hFg => by have := hnb g hg; have := hF g hFg; omega)
          have hKP6 := hKP.grown hBa hg6 (fun g hg => by have := hnb g hg; exact ⟨by omega, .inr (.inr this.2)⟩)
          refine hKK _ _ trivial ?_
          clear hKK K
          obtain ⟨g, cur, rfl, hbg, hbox, hcs, hset⟩ := qT vlShape ho6
          clear hS hX hP hR hKP hV hM hown5 hg6 hA6 hA6' ho6 hnb h4
          try simp only [g_S, Act.put]
          have g5 : (xs.length : Int) < (xs.length : Int) + 1 := by omega
          have g6 : xs.length < xs.length + 1 := by omega
          refine zH ?_ 11 (v := ?_) rfl (by kernel_rfl) (by kernel_rfl) (by kernel_rfl) trivial rfl ?_ ?_
          ·repeat (first | refine zC ?_ | refine zu ?_ | exact zz _ _ _)
          rotate_left
          ·intro wS _; go_simp; (with_reducible rfl)
          try simp only [g_S, Act.put]
          refine zH ?_ 13 (v := ?_) rfl (by kernel_rfl) (by kernel_rfl) (by kernel_rfl) trivial rfl ?_ ?_
          ·repeat (first | refine zC ?_ | refine zu ?_ | exact zz _ _ _)
          rotate_left
          ·intro wS _; go_simp; (with_reducible rfl)
          try simp only [g_S, Act.put]
          refine zH ?_ 14 (v := ?_) rfl (by kernel_rfl) (by kernel_rfl) (by kernel_rfl) trivial rfl ?_ ?_
          ·repeat (first | refine zC ?_ | refine zu ?_ | exact zz _ _ _)
          rotate_left
          ·intro wS _; go_simp; (with_reducible rfl)
          try simp only [g_S, Act.put]
          have hgx : g ≠ xb := by omega
          refine xc 12 15 rfl rfl (by kernel_rfl) rfl rfl (fun K hKK => ?_) (fun K hKK => ?_)
          ·refine zM (g := g) (j := xs.length * 5) (v := .agg #[.int .u8 (x.kind : Int), .int .u64 (x.n : Int), .string (str x.s), .slice hx.A1 x.keys.length hx.c1, .slice hx.A2 x.list.length hx.c2]) (vs := vlC (x, hx)) rfl rfl rfl hbox rfl (by kernel_rfl) (by have : (vlC (x, hx)).length = 5 := rfl; omega) (vlShape.one _) _ rfl ?_
           intro w8 hbox8 hg8 _
           have hS8 := hS6.setlast hV6 (hset (x, hx) w8 _ rfl hbox8) hg8
           have hX8 := hX6.grown hg8 (sne (by omega))
           have hP8 := hP6.grown hg8 (sne (by omega))
           have hR8 := hR6.kept hg8 (fun g' hg' hFg => by injection hg' with hg'; have := hF g' hFg; omega)
           have hKP8 := hKP6.grown hBa hg8 (fun g' hg' => by injection hg' with hg'; exact ⟨by omega, .inr (.inr (by omega))⟩)
           clear hS6 hX6 hP6 hR6 hKP6 hV6 hg8 hbox hbox8
           have hS6 := hS8
           have hX6 := hX8
           have hP6 := hP8
           have hR6 := hR8
           have hKP6 := hKP8
           clear hS8 hX8 hP8 hR8 hKP8
           refine hKK _ _ trivial ?_
           clear hKK K
           refine zi 15 rfl (by kernel_rfl) rfl (fun K hKK => ?_)
           refine zM (g := xb) (j := 4) (v := .slice (some ⟨g, 0, none⟩) (xs.length + 1) c4) (vs := [.slice (some ⟨g, 0, none⟩) (xs.length + 1) c4]) rfl rfl rfl hX6 rfl (by kernel_rfl) (by simp) (by simp; rfl) #[.int .u8 kd, .int .u64 0, .string ⟨#[]⟩, .slice AK2 KS2.length cK2, .slice (some ⟨g, 0, none⟩) (xs.length + 1) c4] (by simp) ?_
           intro w7 hX7 hg7 _
           replace hS6 := hS6.box hg7 (by omega)
           have hP7 := hP6.grown hg7 (sne (by omega))
           have hR7 := hR6.kept hg7 (fun g' hg' hFg => by injection hg' with hg'; have := hF g' hFg; omega)
           have hKP7 := hKP6.grown hBa hg7 (fun g' hg' => by injection hg' with hg'; exact ⟨by omega, .inr (.inr (by omega))⟩)
           try replace hV6 := (hV6.keep (fun g' hg' => hg7.block g' hg'.2.1 (by intro e; injection e with e; have := hg'.1; omega)) hg7.size).mono (fun g' hg' => (⟨hg'.1, Nat.lt_of_lt_of_le hg'.2.1 hg7.size, hg'.2.2⟩ : FB2 (xb + 1) _ _ w7 g'))
           clear hX6 hP6 hR6 hKP6
           have hX6 := hX7
           have hP6 := hP7
           have hR6 := hR7
           have hKP6 := hKP7
           clear hX7 hP7 hR7 hKP7
           refine hKK _ _ trivial ?_
           clear hKK K
           refine xF (by kernel_rfl) ?_
           go_wp2_with (with_reducible refine h_A ?_)
           exact ⟨⟨xs.length + 1, KS2, AK2, cK2, some ⟨g, 0, none⟩, c4, xs ++ [(x, hx)], lq, nq, by omega, by go_num, Lib.hid (by simp), by omega, hk2, hnq, hS6, hR6, hP6, hX6, hKP6, Lib.hid (by rw [List.map_append]; exact HT.out)⟩, by simp [RowKit.intOf]; omega⟩
          ·refine zM (g := xb) (j := 4) (v := .slice (some ⟨g, 0, none⟩) (xs.length + 1) c4) (vs := [.slice (some ⟨g, 0, none⟩) (xs.length + 1) c4]) rfl rfl rfl hX6 rfl (by kernel_rfl) (by simp) (by simp; rfl) #[.int .u8 kd, .int .u64 0, .string ⟨#[]⟩, .slice AK2 KS2.length cK2, .slice (some ⟨g, 0, none⟩) (xs.length + 1) c4] (by simp) ?_
           intro w7 hX7 hg7 _
           replace hS6 := hS6.box hg7 (by omega)
           have hP7 := hP6.grown hg7 (sne (by omega))
           have hR7 := hR6.kept hg7 (fun g' hg' hFg => by injection hg' with hg'; have := hF g' hFg; omega)
           have hKP7 := hKP6.grown hBa hg7 (fun g' hg' => by injection hg' with hg'; exact ⟨by omega, .inr (.inr (by omega))⟩)
           try replace hV6 := (hV6.keep (fun g' hg' => hg7.block g' hg'.2.1 (by intro e; injection e with e; have := hg'.1; omega)) hg7.size).mono (fun g' hg' => (⟨hg'.1, Nat.lt_of_lt_of_le hg'.2.1 hg7.size, hg'.2.2⟩ : FB2 (xb + 1) _ _ w7 g'))
           clear hX6 hP6 hR6 hKP6
           have hX6 := hX7
           have hP6 := hP7
           have hR6 := hR7
           have hKP6 := hKP7
           clear hX7 hP7 hR7 hKP7
           refine hKK _ _ trivial ?_
           clear hKK K
           replace hbox := hbox.grown hg7 (sne (by omega))
           refine zi 12 rfl (by kernel_rfl) rfl (fun K hKK => ?_)
           refine zM (g := g) (j := xs.length * 5) (v := .agg #[.int .u8 (x.kind : Int), .int .u64 (x.n : Int), .string (str x.s), .slice hx.A1 x.keys.length hx.c1, .slice hx.A2 x.list.length hx.c2]) (vs := vlC (x, hx)) rfl rfl rfl hbox rfl (by kernel_rfl) (by have : (vlC (x, hx)).length = 5 := rfl; omega) (vlShape.one _) _ rfl ?_
           intro w8 hbox8 hg8 _
           have hS8 := hS6.setlast hV6 (hset (x, hx) w8 _ rfl hbox8) hg8
           have hX8 := hX6.grown hg8 (sne (by omega))
           have hP8 := hP6.grown hg8 (sne (by omega))
           have hR8 := hR6.kept hg8 (fun g' hg' hFg => by injection hg' with hg'; have := hF g' hFg; omega)
           have hKP8 := hKP6.grown hBa hg8 (fun g' hg' => by injection hg' with hg'; exact ⟨by omega, .inr (.inr (by omega))⟩)
           clear hS6 hX6 hP6 hR6 hKP6 hV6 hg8 hbox hbox8
           have hS6 := hS8
           have hX6 := hX8
           have hP6 := hP8
           have hR6 := hR8
           have hKP6 := hKP8
           clear hS8 hX8 hP8 hR8 hKP8
           refine hKK _ _ trivial ?_
           clear hKK K
           refine xF (by kernel_rfl) ?_
           go_wp2_with (with_reducible refine h_A ?_)
           exact ⟨⟨xs.length + 1, KS2, AK2, cK2, some ⟨g, 0, none⟩, c4, xs ++ [(x, hx)], lq, nq, by omega, by go_num, Lib.hid (by simp), by omega, hk2, hnq, hS6, hR6, hP6, hX6, hKP6, Lib.hid (by rw [List.map_append]; exact HT.out)⟩, by simp [RowKit.intOf]; omega⟩
         ·have hrd := hrec (d + 1) ni F B pb vb v lj bj wm (by omega) hR hP hFp (fun g hg => ⟨(hF g hg).1, Nat.lt_of_lt_of_le (hF g hg).2 hKP.size⟩) hBp hni
          rw [← hrr, hd1] at hrd
          go_simp
          refine hrd.mono ?_
          rintro e wq hres
          clear hrd
          obtain ⟨hx, rfl, hV, hR2, hP2, hk2⟩ := hres
          unfold vlV
          have h4 : ∀ g, blk A = some g ∨ blk AK2 = some g → g < wm.heap.size := fun g hg => hg.elim (fun e => (hS.own.blk_lt e).2) (fun e => (hS.kown.blk_lt e).2)
          have hbs4 : xb + 1 ≤ wm.heap.size := hX.lt
          replace hS := hk2.mns hS (by omega) (by omega)
          replace hX := hk2.box hX (by omega) (by omega)
          replace hM := hk2.box hM (by omega) (by omega)
          clear hR hP
          have hR := hR2
          have hP := hP2
          replace hKP := hKP.trans hk2
          clear hR2 hP2 hk2
          obtain ⟨W4, hW4⟩ : ∃ g, g = wm.heap.size := ⟨_, rfl⟩
          rw [← hW4] at h4 hbs4 hV
          clear hW4
          refine hKK _ _ trivial ?_
          clear hKK K
          try simp only [g_S, Act.put]
          refine zi 3 rfl (by kernel_rfl) rfl (fun K hKK => ?_)
          have z4 := hX.c4
          go_simp
          refine hKK _ _ trivial ?_
          clear hKK K
          try simp only [g_S, Act.put]
          clear z4
          refine zH ?_ 8 (v := ?_) rfl (by kernel_rfl) (by kernel_rfl) (by kernel_rfl) trivial rfl ?_ ?_
          ·repeat (first | refine zC ?_ | refine zu ?_ | exact zz _ _ _)
          rotate_left
          ·intro wS _; go_simp; (with_reducible rfl)
          try simp only [g_S, Act.put]
          have hil := hxl.out
          subst hil
          have hown5 : Own _ (xb + 1) 78 5 A xs.length c (rowC vlC xs) := hS.own
          refine zi 10 rfl (by kernel_rfl) rfl (fun K hKK => ?_)
          refine qz (ops := #[]) slVl Tryz.underlying76 rfl rfl rfl hown5 (jC (n := 1) (sz := 5) hM rfl (by decide)) (by intro u hu; simp at hu; rcases hu with rfl | rfl | rfl | rfl | rfl <;> rfl) (by omega) (by unfold maxLen; omega) (by have := hX.lt; omega) ?_
          intro A4 c4 w6 ho6 hg6 hA6
          have hez : rowC vlC xs ++ (#[.int .u8 0, .int .u64 0, .string ⟨#[]⟩, .slice none 0 0, .slice none 0 0]).toList = rowC vlC (xs ++ [(vl0, (⟨none, 0, none, 0⟩ : VH))]) := by rw [yR]; rfl
          rw [hez] at ho6
          clear hez
          have hA6' : blk A4 = blk A ∨ ∀ g, blk A4 = some g → _ ≤ g := hA6.imp id (fun e g hg => by rw [e] at hg; injection hg with hg; exact Nat.le_of_eq hg)
          have hS6 := hS.push h4 hbs4 (RV.zero _ _) ho6 hg6 hA6'
          have hV6 := hS.fresh h4 hbs4 hV hg6 hA6'
          have hnb : ∀ g', blk A = some g' → xb + 1 ≤ g' ∧ a.heap.size ≤ g' := fun g' hg' => by have := (hS.own.blk_lt hg').1; omega
          have hX6 := hX.grown hg6 (by intro e; have := hnb _ e.symm; omega)
          have hP6 := hP.grown hg6 (by intro e; have := hnb _ e.symm; omega)
          have hR6 := hR.kept hg6 (fun g hg hFg => by have := hnb g hg; have := hF g hFg; omega)
          have hKP6 := hKP.grown hBa hg6 (fun g hg => by have := hnb g hg; exact ⟨by omega, .inr (.inr this.2)⟩)
          refine hKK _ _ trivial ?_
          clear hKK K
          obtain ⟨g, cur, rfl, hbg, hbox, hcs, hset⟩ := qT vlShape ho6
          clear hS hX hP hR hKP hV hM hown5 hg6 hA6 hA6' ho6 hnb h4
          try simp only [g_S, Act.put]
          have g5 : (xs.length : Int) < (xs.length : Int) + 1 := by omega
          have g6 : xs.length < xs.length + 1 := by omega
          refine zH ?_ 11 (v := ?_) rfl (by kernel_rfl) (by kernel_rfl) (by kernel_rfl) trivial rfl ?_ ?_
          ·repeat (first | refine zC ?_ | refine zu ?_ | exact zz _ _ _)
          rotate_left
          ·intro wS _; go_simp; (with_reducible rfl)
          try simp only [g_S, Act.put]
          refine zH ?_ 13 (v := ?_) rfl (by kernel_rfl) (by kernel_rfl) (by kernel_rfl) trivial rfl ?_ ?_
          ·repeat (first | refine zC ?_ | refine zu ?_ | exact zz _ _ _)
          rotate_left
          ·intro wS _; go_simp; (with_reducible rfl)
          try simp only [g_S, Act.put]
          refine zH ?_ 14 (v := ?_) rfl (by kernel_rfl) (by kernel_rfl) (by kernel_rfl) trivial rfl ?_ ?_
          ·repeat (first | refine zC ?_ | refine zu ?_ | exact zz _ _ _)
          rotate_left
          ·intro wS _; go_simp; (with_reducible rfl)
          try simp only [g_S, Act.put]
          have hgx : g ≠ xb := by omega
          refine xc 12 15 rfl rfl (by kernel_rfl) rfl rfl (fun K hKK => ?_) (fun K hKK => ?_)
          ·refine zM (g := g) (j := xs.length * 5) (v := .agg #[.int .u8 (x.kind : Int), .int .u64 (x.n : Int), .string (str x.s), .slice hx.A1 x.keys.length hx.c1, .slice hx.A2 x.list.length hx.c2]) (vs := vlC (x, hx)) rfl rfl rfl hbox rfl (by kernel_rfl) (by have : (vlC (x, hx)).length = 5 := rfl; omega) (vlShape.one _) _ rfl ?_
           intro w8 hbox8 hg8 _
           have hS8 := hS6.setlast hV6 (hset (x, hx) w8 _ rfl hbox8) hg8
           have hX8 := hX6.grown hg8 (sne (by omega))
           have hP8 := hP6.grown hg8 (sne (by omega))
           have hR8 := hR6.kept hg8 (fun g' hg' hFg => by injection hg' with hg'; have := hF g' hFg; omega)
           have hKP8 := hKP6.grown hBa hg8 (fun g' hg' => by injection hg' with hg'; exact ⟨by omega, .inr (.inr (by omega))⟩)
           clear hS6 hX6 hP6 hR6 hKP6 hV6 hg8 hbox hbox8
           have hS6 := hS8
           have hX6 := hX8
           have hP6 := hP8
           have hR6 := hR8
           have hKP6 := hKP8
           clear hS8 hX8 hP8 hR8 hKP8
           refine hKK _ _ trivial ?_
           clear hKK K
           refine zi 15 rfl (by kernel_rfl) rfl (fun K hKK => ?_)
           refine zM (g := xb) (j := 4) (v := .slice (some ⟨g, 0, none⟩) (xs.length + 1) c4) (vs := [.slice (some ⟨g, 0, none⟩) (xs.length + 1) c4]) rfl rfl rfl hX6 rfl (by kernel_rfl) (by simp) (by simp; rfl) #[.int .u8 kd, .int .u64 0, .string ⟨#[]⟩, .slice AK2 KS2.length cK2, .slice (some ⟨g, 0, none⟩) (xs.length + 1) c4] (by simp) ?_
           intro w7 hX7 hg7 _
           replace hS6 := hS6.box hg7 (by omega)
           have hP7 := hP6.grown hg7 (sne (by omega))
           have hR7 := hR6.kept hg7 (fun g' hg' hFg => by injection hg' with hg'; have := hF g' hFg; omega)
           have hKP7 := hKP6.grown hBa hg7 (fun g' hg' => by injection hg' with hg'; exact ⟨by omega, .inr (.inr (by omega))⟩)
           try replace hV6 := (hV6.keep (fun g' hg' => hg7.block g' hg'.2.1 (by intro e; injection e with e; have := hg'.1; omega)) hg7.size).mono (fun g' hg' => (⟨hg'.1, Nat.lt_of_lt_of_le hg'.2.1 hg7.size, hg'.2.2⟩ : FB2 (xb + 1) _ _ w7 g'))
           clear hX6 hP6 hR6 hKP6
           have hX6 := hX7
           have hP6 := hP7
           have hR6 := hR7
           have hKP6 := hKP7
           clear hX7 hP7 hR7 hKP7
           refine hKK _ _ trivial ?_
           clear hKK K
           refine xF (by kernel_rfl) ?_
           go_wp2_with (with_reducible refine h_A ?_)
           exact ⟨⟨xs.length + 1, KS2, AK2, cK2, some ⟨g, 0, none⟩, c4, xs ++ [(x, hx)], lq, nq, by omega, by go_num, Lib.hid (by simp), by omega, hk2, hnq, hS6, hR6, hP6, hX6, hKP6, Lib.hid (by rw [List.map_append]; exact HT.out)⟩, by simp [RowKit.intOf]; omega⟩
          ·refine zM (g := xb) (j := 4) (v := .slice (some ⟨g, 0, none⟩) (xs.length + 1) c4) (vs := [.slice (some ⟨g, 0, none⟩) (xs.length + 1) c4]) rfl rfl rfl hX6 rfl (by kernel_rfl) (by simp) (by simp; rfl) #[.int .u8 kd, .int .u64 0, .string ⟨#[]⟩, .slice AK2 KS2.length cK2, .slice (some ⟨g, 0, none⟩) (xs.length + 1) c4] (by simp) ?_
           intro w7 hX7 hg7 _
           replace hS6 := hS6.box hg7 (by omega)
           have hP7 := hP6.grown hg7 (sne (by omega))
           have hR7 := hR6.kept hg7 (fun g' hg' hFg => by injection hg' with hg'; have := hF g' hFg; omega)
           have hKP7 := hKP6.grown hBa hg7 (fun g' hg' => by injection hg' with hg'; exact ⟨by omega, .inr (.inr (by omega))⟩)
           try replace hV6 := (hV6.keep (fun g' hg' => hg7.block g' hg'.2.1 (by intro e; injection e with e; have := hg'.1; omega)) hg7.size).mono (fun g' hg' => (⟨hg'.1, Nat.lt_of_lt_of_le hg'.2.1 hg7.size, hg'.2.2⟩ : FB2 (xb + 1) _ _ w7 g'))
           clear hX6 hP6 hR6 hKP6
           have hX6 := hX7
           have hP6 := hP7
           have hR6 := hR7
           have hKP6 := hKP7
           clear hX7 hP7 hR7 hKP7
           refine hKK _ _ trivial ?_
           clear hKK K
           replace hbox := hbox.grown hg7 (sne (by omega))
           refine zi 12 rfl (by kernel_rfl) rfl (fun K hKK => ?_)
           refine zM (g := g) (j := xs.length * 5) (v := .agg #[.int .u8 (x.kind : Int), .int .u64 (x.n : Int), .string (str x.s), .slice hx.A1 x.keys.length hx.c1, .slice hx.A2 x.list.length hx.c2]) (vs := vlC (x, hx)) rfl rfl rfl hbox rfl (by kernel_rfl) (by have : (vlC (x, hx)).length = 5 := rfl; omega) (vlShape.one _) _ rfl ?_
           intro w8 hbox8 hg8 _
           have hS8 := hS6.setlast hV6 (hset (x, hx) w8 _ rfl hbox8) hg8
           have hX8 := hX6.grown hg8 (sne (by omega))
           have hP8 := hP6.grown hg8 (sne (by omega))
           have hR8 := hR6.kept hg8 (fun g' hg' hFg => by injection hg' with hg'; have := hF g' hFg; omega)
           have hKP8 := hKP6.grown hBa hg8 (fun g' hg' => by injection hg' with hg'; exact ⟨by omega, .inr (.inr (by omega))⟩)
           clear hS6 hX6 hP6 hR6 hKP6 hV6 hg8 hbox hbox8
           have hS6 := hS8
           have hX6 := hX8
           have hP6 := hP8
           have hR6 := hR8
           have hKP6 := hKP8
           clear hS8 hX8 hP8 hR8 hKP8
           refine hKK _ _ trivial ?_
           clear hKK K
           refine xF (by kernel_rfl) ?_
           go_wp2_with (with_reducible refine h_A ?_)
           exact ⟨⟨xs.length + 1, KS2, AK2, cK2, some ⟨g, 0, none⟩, c4, xs ++ [(x, hx)], lq, nq, by omega, by go_num, Lib.hid (by simp), by omega, hk2, hnq, hS6, hR6, hP6, hX6, hKP6, Lib.hid (by rw [List.map_append]; exact HT.out)⟩, by simp [RowKit.intOf]; omega⟩
     ·have hie : i = CN := by omega
      subst hie
      have g3 : ¬ (i : Int) < (i : Int) := by omega
      have HL : Hid (xm (yx f) m i n l3 = some (KS, xs.map (·.1), li, ni)) := Lib.hid (by rw [HC.out, Nat.sub_self, xm]; simp)
      have hle := (Yd (va f) _ _ _ _ _ HL.out).1
      simp only at hle
      have c0 := hP.c0
      have h5 := yh hR
      go_wp2_with (with_reducible refine h_A ?_)
      refine h5.mono ?_
      rintro e w6 ⟨rfl, rfl⟩
      clear h5
      have hsub : IntKind.i64.wrap ((l2.length : Int) - (li.length : Int)) = ((l2.length - li.length : Nat) : Int) := by rw [IntWalk.i64_in _ ⟨by omega, by omega⟩]; omega
      by_cases heq : l2.length - li.length = SZ
      ·have HR0 : Hid (r = some (KS, xs.map (·.1), li, ni)) := Lib.hid (by rw [HR2.out, HL.out]; simp only; rw [if_pos heq])
       have hmu := yJ hR hP
       have heq2 : (((l2.length - li.length : Nat) : Int) == (SZ : Int)) = true := by simp; omega
       go_wp2_with (with_reducible refine h_A ?_)
       refine hmu.mono ?_
       rintro e w7 ⟨rfl, rfl⟩
       go_wp2_with (with_reducible refine h_A ?_)
       go_end0
       rw [HR0.out]
       have hil := hxl.out
       subst hil
       exact ⟨AK, cK, A, c, xs, rfl, rfl, hS, hR, hP, (by rw [List.length_map]; exact hX), hKP, hk255.out, (by show KS.length ≤ 200; omega), (by show (xs.map (·.1)).length ≤ 200; rw [List.length_map]; omega)⟩
      ·have HR0 : Hid (r = none) := Lib.hid (by rw [HR2.out, HL.out]; simp only; rw [if_neg heq])
       have heq2 : (((l2.length - li.length : Nat) : Int) == (SZ : Int)) = false := by simp; omega
       have hmu := yL hR hP false (.inl rfl)
       go_wp2_with (with_reducible refine h_A ?_)
       refine hmu.mono ?_
       rintro e w7 ⟨rfl, rfl⟩
       go_wp2_with (with_reducible refine h_A ?_)
       rw [HR0.out]
       exact ⟨rfl, rfl, hKP⟩
   ·have HR0 : Hid (r = none) := Lib.hid (by rw [HR.out, if_pos (.inl rfl)])
    have hmu := yL hr4 hp4 true (.inr rfl)
    clear hl2 hl3 hlen3 hxw hrec hd hn
    go_wp2_with (with_reducible refine h_A ?_)
    refine hmu.mono ?_
    rintro e w5 ⟨rfl, rfl⟩
    go_wp2_with (with_reducible refine h_A ?_)
    rw [HR0.out]
    exact ⟨rfl, rfl, hK4⟩
theorem JA (f : Nat) (hrec : YK f) (d n : Nat) (F : Nat → Prop) (B pb vb xb : Nat) (v : Value) (l : List UInt8) (a w : World) (hd : d + 1 + f = 7) (hpre : MPre w a F B pb vb xb n v l 169) :
  Calls Tryz.prog 184 #[.pointer (some ⟨pb, 0, none⟩), .pointer (some ⟨xb, 0, none⟩), .int .i64 (d : Int)] w (VW a F B pb vb xb v 169 (j4 (yx f) false n l)) := Xl 169 false (.inr ⟨rfl, rfl⟩) f hrec d n F B pb vb xb v l a w hd hpre
theorem KN (f : Nat) (hrec : YK f) (d n : Nat) (F : Nat → Prop) (B pb vb xb : Nat) (v : Value) (l : List UInt8) (a w : World) (hd : d + 1 + f = 7) (hpre : MPre w a F B pb vb xb n v l 168) :
  Calls Tryz.prog 184 #[.pointer (some ⟨pb, 0, none⟩), .pointer (some ⟨xb, 0, none⟩), .int .i64 (d : Int)] w (VW a F B pb vb xb v 168 (j4 (yx f) true n l)) := Xl 168 true (.inl ⟨rfl, rfl⟩) f hrec d n F B pb vb xb v l a w hd hpre
end Go.PH
end

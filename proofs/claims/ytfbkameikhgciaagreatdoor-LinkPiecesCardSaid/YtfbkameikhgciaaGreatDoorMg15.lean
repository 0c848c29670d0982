/- Texts laid together: VlPut, VlPut2, VlOneMath. -/
import Derived.Test.YtfbkameikhgciaaGreatDoorMg00
import Derived.Test.YtfbkameikhgciaaGreatDoorMg07
import Derived.Test.YtfbkameikhgciaaGreatDoorMg12
import Derived.Test.YtfbkameikhgciaaGreatDoorMg14
set_option linter.all false
set_option linter.unusedSimpArgs false
set_option linter.unusedVariables false
set_option maxRecDepth 20000
set_option maxHeartbeats 8000000
section
namespace Go.PH
open Go.RowKit Go.Proofs
theorem qk {k n sl KL LL : Nat} {ko pl al : Bool} (h : mayF k n sl KL LL ko pl al = true) :
  (k = 8 ∨ k = 2 ∨ k = 49 ∨ k = 50 ∨ k = 240 ∨ k = 160 ∨ k = 149 ∨ k = 168 ∨ k = 169) ∧ sl ≤ 4096 ∧ (k = 168 → KL = LL ∧ ko = true) ∧ al = true := by
 unfold mayF at h
 simp only [Bool.and_eq_true, Bool.or_eq_true, decide_eq_true_eq] at h
 obtain ⟨⟨⟨⟨⟨h1, h2⟩, h3⟩, h4⟩, h5⟩, h6⟩ := h
 refine ⟨?_, h4, fun hk => ?_, h6⟩
 ·repeat' split at h5
  all_goals first | omega | (exact absurd h5 (by simp))
 ·subst hk
  simp at h5
  exact ⟨h5.1.1, h5.1.2⟩
theorem KB.on {w w3 w4 : World} {row : Option Nat} (h : KB w w3 row) (hB : Below w3.heap.size w3 w4) : KB w w4 row := ⟨Nat.le_trans h.1 hB.size, fun g hg hne => (hB.block g (Nat.lt_of_lt_of_le hg h.1)).trans (h.2 g hg hne)⟩
def VPut (w : World) (base : Nat) (row : Option Nat) (R : List UInt8) (e : Ending) (w' : World) : Prop := ∃ A2 c2, e = .returned (.slice A2 R.length c2) ∧ OwnB w' base A2 R.length c2 R ∧ KB w w' row ∧ Below base w w'
def Kh (v : Vl) : Prop := ∀ (h : VH) (base : Nat) (A : Option Addr) (n c : Nat) (l : List UInt8) (w : World), RV w (fun g => g < base) v h → OwnB w base A n c l → base ≤ w.heap.size → mayV zV v = true → n + (vlB v).length ≤ 100000000 →
  Calls Tryz.prog 124 #[.slice A n c, .agg (vlV v h)] w (VPut w base (blk A) (l ++ vlB v))
theorem Jb (v : Vl) (ih : ∀ x ∈ v.list, Kh x) : Kh v := by
 intro h base A n c l w hv hown hbase hmay hN
 unfold vlV VPut
 obtain ⟨xb, w1, hxb, hxv, hX, hB1⟩ := zo w #[.int .u8 (v.kind : Int), .int .u64 (v.n : Int), .string (str v.s), .slice h.A1 v.keys.length h.c1, .slice h.A2 v.list.length h.c2] 78
 rw [Z7] at hN ⊢
 rw [kT] at hmay
 obtain ⟨hkinds, hs4, hmapK, hall⟩ := qk hmay
 obtain ⟨hk256, hn64, _, hkb, hKb, hLb⟩ := hv.bounds
 have hnl : l.length = n := RdB.length hown.rd
 have hblkA : ∀ g, blk A = some g → base ≤ g ∧ g < w.heap.size := fun g hg => hown.blk_lt hg
 have hown1 := zg hown hB1
 have hxge : base ≤ xb := by omega
 have hxne : some xb ≠ blk A := by intro e; have := (hblkA _ e.symm).2; omega
 have hku : Value.int .u8 (v.kind : Int) = u8v (UInt8.ofNat v.kind) := by rw [YR, UInt8.toNat_ofNat']; congr; omega
 have hB2 := (Below.refl w1.heap.size w1).alloc (Nat.le_refl _) (.cells #[.int .u8 (v.kind : Int)] 5)
 have hnew := zaa (size := 1) w1 #[.int .u8 (v.kind : Int)] 5 (0, 0) 1 1 rfl (by omega) (by simp [maxLen])
 have hown2 := zg hown1 hB2
 have hX2 := hX.below hB2
 have c0 := hX.c0
 have c1 := hX.c1
 have c2 := hX.c2
 have c3 := hX.c3
 have c4 := hX.c4
 have hs1 := hB1.size
 have hs2 := hB2.size
 obtain ⟨INN, hINN⟩ : ∃ I, I = innB v := ⟨_, rfl⟩
 rw [← hINN] at hN ⊢
 obtain ⟨R, hR⟩ : ∃ R, R = l ++ UInt8.ofNat v.kind :: yj v.kind v.n v.s INN := ⟨_, rfl⟩
 rw [← hR]
 have hn1 : n + 1 ≤ 100000000 := by
  have := hN
  rw [List.length_cons] at this
  omega
 have hRl : R.length ≤ 100000000 := by rw [hR, List.length_append, hnl]; exact hN
 have HIN := Lib.hid hINN
 have HR := Lib.hid hR
 have HX := Lib.hid (And.intro hkinds (And.intro hs4 (And.intro hmapK (And.intro hall (And.intro hku hmay)))))
 clear hINN hR hN hkinds hs4 hmapK hall hku hown hown1 hmay
 go_enter Tryz.func124, Tryz.ntmps124
 go_upto_region 1 with fail
 rw [← hxb, ← hxv]
 clear hxb hxv
 go_wp2_with (with_reducible refine h_A ?_)
 refine zc (yn slB rfl rfl rfl rfl hown2 hnew (by intro u hu; simp at hu; subst hu; rfl) (by omega) (by unfold maxLen; omega) (by omega) ?_)
 intro A3 q3 w3 ho3 hg3 _
 have hX3 := hX2.grown hg3 hxne
 have hBb3 : Below base w w3 := ((hB1.mono hbase).trans (hB2.mono (by omega))).grown hg3 (by omega) (fun g hg => (hblkA g hg).1)
 have hK3 : KB w w3 (blk A) := ⟨hBb3.size, fun g hg hne => (hg3.block g (by omega) (fun e => hne e.symm)).trans ((hB2.block g (by omega)).trans (hB1.block g hg))⟩
 have hs3 : base ≤ w3.heap.size := Nat.le_trans hbase hBb3.size
 rw [show l.map u8v ++ #[Value.int .u8 (v.kind : Int)].toList = (l ++ [UInt8.ofNat v.kind]).map u8v by simp [HX.out.2.2.2.2.1]] at ho3
 obtain ⟨l1, hl1⟩ : ∃ l1, l1 = l ++ [UInt8.ofNat v.kind] := ⟨_, rfl⟩
 rw [← hl1] at ho3
 have HR2 : Hid (R = l1 ++ yj v.kind v.n v.s INN) := Lib.hid (by rw [HR.out, hl1]; simp)
 have hl1n : l1.length = n + 1 := by rw [hl1]; simp [hnl]
 generalize n + 1 = n1 at *
 have hv3 := hv.under hBb3 hbase
 clear hX hX2 hB1 hB2 hnew hown2 hg3 hl1 HR c0 c1 c2 c3 c4 hs1 hs2 hv hnl
 have hX3' := hX3
 have hkinds := HX.out.1
 have hs4 := HX.out.2.1
 have hmapK := HX.out.2.2.1
 have hall := HX.out.2.2.2.1
 clear HX
 have HMK := Lib.hid hmapK
 have HAL := Lib.hid hall
 clear hmapK hall
 obtain ⟨K1, j1, K2, j2⟩ := h
 generalize hkd : v.kind = kd at *
 have HKD := Lib.hid hkd
 clear hkd
 rcases hkinds with hk | hk | hk | hk | hk | hk | hk | hk | hk
 ·subst hk
  generalize hkI : (((8 : Nat) : Int)) = k at *
  obtain rfl : k = 8 := by rw [← hkI]; rfl
  clear hkI
  have c0 := hX3.c0
  have c1 := hX3.c1
  have c2 := hX3.c2
  have c3 := hX3.c3
  have c4 := hX3.c4
  have hp := zX A3 n1 q3 l1 v.n 1 w3 ho3.rd hn64 (by omega)
  rw [yy (by decide)] at hp
  rw [show l1 ++ be (Int.toNat 1) v.n = R by rw [HR2.out]; simp [yj]] at hp
  go_wp2_with (with_reducible refine h_A ?_)
  refine hp.mono ?_
  rintro e w4 ⟨A4, c4', rfl, ho4, hB4⟩
  clear hp c0 c1 c2 c3 c4
  go_wp2_with (with_reducible refine h_A ?_)
  go_ret
  exact ⟨A4, c4', rfl, ho4.base_le hs3, hK3.on hB4, hBb3.trans (hB4.mono hs3)⟩
 ·subst hk
  generalize hkI : (((2 : Nat) : Int)) = k at *
  obtain rfl : k = 2 := by rw [← hkI]; rfl
  clear hkI
  have c0 := hX3.c0
  have c1 := hX3.c1
  have c2 := hX3.c2
  have c3 := hX3.c3
  have c4 := hX3.c4
  have hp := zX A3 n1 q3 l1 v.n 1 w3 ho3.rd hn64 (by omega)
  rw [yy (by decide)] at hp
  rw [show l1 ++ be (Int.toNat 1) v.n = R by rw [HR2.out]; simp [yj]] at hp
  go_wp2_with (with_reducible refine h_A ?_)
  refine hp.mono ?_
  rintro e w4 ⟨A4, c4', rfl, ho4, hB4⟩
  clear hp c0 c1 c2 c3 c4
  go_wp2_with (with_reducible refine h_A ?_)
  go_ret
  exact ⟨A4, c4', rfl, ho4.base_le hs3, hK3.on hB4, hBb3.trans (hB4.mono hs3)⟩
 ·subst hk
  generalize hkI : (((49 : Nat) : Int)) = k at *
  obtain rfl : k = 49 := by rw [← hkI]; rfl
  clear hkI
  have c0 := hX3.c0
  have c1 := hX3.c1
  have c2 := hX3.c2
  have c3 := hX3.c3
  have c4 := hX3.c4
  have hp := zX A3 n1 q3 l1 v.n 8 w3 ho3.rd hn64 (by omega)
  rw [yy (by decide)] at hp
  rw [show l1 ++ be (Int.toNat 8) v.n = R by rw [HR2.out]; simp [yj]] at hp
  go_wp2_with (with_reducible refine h_A ?_)
  refine hp.mono ?_
  rintro e w4 ⟨A4, c4', rfl, ho4, hB4⟩
  clear hp c0 c1 c2 c3 c4
  go_wp2_with (with_reducible refine h_A ?_)
  go_ret
  exact ⟨A4, c4', rfl, ho4.base_le hs3, hK3.on hB4, hBb3.trans (hB4.mono hs3)⟩
 ·subst hk
  generalize hkI : (((50 : Nat) : Int)) = k at *
  obtain rfl : k = 50 := by rw [← hkI]; rfl
  clear hkI
  have c0 := hX3.c0
  have c1 := hX3.c1
  have c2 := hX3.c2
  have c3 := hX3.c3
  have c4 := hX3.c4
  have hp := zX A3 n1 q3 l1 v.n 8 w3 ho3.rd hn64 (by omega)
  rw [yy (by decide)] at hp
  rw [show l1 ++ be (Int.toNat 8) v.n = R by rw [HR2.out]; simp [yj]] at hp
  go_wp2_with (with_reducible refine h_A ?_)
  refine hp.mono ?_
  rintro e w4 ⟨A4, c4', rfl, ho4, hB4⟩
  clear hp c0 c1 c2 c3 c4
  go_wp2_with (with_reducible refine h_A ?_)
  go_ret
  exact ⟨A4, c4', rfl, ho4.base_le hs3, hK3.on hB4, hBb3.trans (hB4.mono hs3)⟩
 ·subst hk
  generalize hkI : (((240 : Nat) : Int)) = k at *
  obtain rfl : k = 240 := by rw [← hkI]; rfl
  clear hkI
  have c0 := hX3.c0
  have c1 := hX3.c1
  have c2 := hX3.c2
  have c3 := hX3.c3
  have c4 := hX3.c4
  obtain rfl : R = l1 := by rw [HR2.out]; simp [yj]
  subst hl1n
  go_wp2_with (with_reducible refine h_A ?_)
  go_ret
  exact ⟨A3, q3, rfl, ho3, hK3, hBb3⟩
 ·subst hk
  generalize hkI : (((160 : Nat) : Int)) = k at *
  obtain rfl : k = 160 := by rw [← hkI]; rfl
  clear hkI
  have c0 := hX3.c0
  have c1 := hX3.c1
  have c2 := hX3.c2
  have c3 := hX3.c3
  have c4 := hX3.c4
  have hte : zw v.s.length 4 = 0 := by simp [zw]; omega
  have hp := yF A3 n1 q3 l1 v.s 4 w3 ho3.rd (by omega) (by omega)
  rw [yp hte, hte] at hp
  rw [show l1 ++ be (Int.toNat 4) v.s.length ++ v.s = R by rw [HR2.out]; simp [yj]] at hp
  clear hte
  go_wp2_with (with_reducible refine h_A ?_)
  refine hp.mono ?_
  rintro e w4 ⟨A4, c4', rfl, ho4, hB4⟩
  clear hp c0 c1 c2 c3 c4
  go_wp2_with (with_reducible refine h_A ?_)
  go_ret
  exact ⟨A4, c4', rfl, ho4.base_le hs3, hK3.on hB4, hBb3.trans (hB4.mono hs3)⟩
 ·subst hk
  generalize hkI : (((149 : Nat) : Int)) = k at *
  obtain rfl : k = 149 := by rw [← hkI]; rfl
  clear hkI
  have c0 := hX3.c0
  have c1 := hX3.c1
  have c2 := hX3.c2
  have c3 := hX3.c3
  have c4 := hX3.c4
  have hte : zw v.s.length 2 = 0 := by simp [zw]; omega
  have hp := yF A3 n1 q3 l1 v.s 2 w3 ho3.rd (by omega) (by omega)
  rw [yp hte, hte] at hp
  rw [show l1 ++ be (Int.toNat 2) v.s.length ++ v.s = R by rw [HR2.out]; simp [yj]] at hp
  clear hte
  go_wp2_with (with_reducible refine h_A ?_)
  refine hp.mono ?_
  rintro e w4 ⟨A4, c4', rfl, ho4, hB4⟩
  clear hp c0 c1 c2 c3 c4
  go_wp2_with (with_reducible refine h_A ?_)
  go_ret
  exact ⟨A4, c4', rfl, ho4.base_le hs3, hK3.on hB4, hBb3.trans (hB4.mono hs3)⟩
 ·subst hk
  generalize hkI : (((168 : Nat) : Int)) = k at *
  obtain rfl : k = 168 := by rw [← hkI]; rfl
  clear hkI
  have c0 := hX3.c0
  have c1 := hX3.c1
  have c2 := hX3.c2
  have c3 := hX3.c3
  have c4 := hX3.c4
  rw [show yj 168 v.n v.s INN = be 4 INN.length ++ INN by simp [yj]] at HR2
  have hINl : INN.length ≤ 100000000 := by have := hRl; rw [HR2.out] at this; simp at this; omega
  have hel := fun {i : Nat} (hi : i < v.list.length) => (hv3.mono (fun g hg => Nat.lt_of_lt_of_le hg hs3)).elem hi
  have hky := fun {i : Nat} (hi : i < v.keys.length) => (hv3.mono (fun g hg => Nat.lt_of_lt_of_le hg hs3)).key hi
  simp only at hel hky
  obtain ⟨hKL, hko⟩ := HMK.out rfl
  obtain ⟨N, hN⟩ : ∃ N, N = v.list.length := ⟨_, rfl⟩
  rw [← hN] at hX3 hX3' hLb c0 c1 c2 c3 c4 hKL ⊢
  have HIT : Hid (be 4 N ++ yl true v.keys v.list = INN) := Lib.hid (by rw [HIN.out, innB, HKD.out, hN]; rfl)
  have HN := Lib.hid hN
  have HKLN := Lib.hid hKL
  have HKO := Lib.hid hko
  clear hKL hko
  have hp := zX none 0 0 [] N 4 w3 (Rd.nil _ _ _ _ (by simp [maxLen]) _) (by omega) (by omega)
  rw [yy (by decide), List.nil_append, show Int.toNat 4 = 4 from rfl] at hp
  have hP4 : (be 4 N).length = 4 := zn 4 N
  generalize be 4 N = P0 at *
  have HP4 := Lib.hid hP4
  have HV := Lib.hid hv3
  have HHN1 := Lib.hid hl1n
  have IH := Lib.hid ih
  clear hN hP4 hv3 hl1n ih hkb hblkA hxge hxne hs4 hk256
  go_wp2_with (with_reducible refine h_A ?_)
  refine hp.mono ?_
  rintro e w4 ⟨A4, c4', rfl, ho4, hB4⟩
  have hX4 := hX3.below hB4
  clear hp c0 c1 c2 c3 c4
  have c0 := hX4.c0
  have c1 := hX4.c1
  have c2 := hX4.c2
  have c3 := hX4.c3
  have c4 := hX4.c4
  go_wp2_with (with_reducible refine h_A ?_)
  clear c0 c1 c2 c3 c4 hX4
  go_loopw [5, 58] (fun s5 s58 wr => ∃ (i ni ci : Nat) (Ai : Option Addr) (li : List UInt8), i ≤ N ∧ s5 = .slice Ai ni ci ∧ s58 = .int .i64 i ∧ OwnB wr w3.heap.size Ai ni ci li ∧ Below w3.heap.size w3 wr ∧ Hid (li ++ yl true (v.keys.drop i) (v.list.drop i) = INN)) (fun _ s58 _ => N - (RowKit.intOf s58).toNat)
  case atStart => exact ⟨0, P0.length, c4', A4, P0, by omega, rfl, rfl, ho4, hB4, Lib.hid HIT.out⟩
  case round =>
   clear ho4 hB4
   obtain ⟨i, ni, ci, Ai, li, hi, rfl, rfl, hoI, hB, HC⟩ := hrel
   have hX4 := hX3'.below hB
   have hlen : ni ≤ INN.length := by have := RdB.length hoI.rd; rw [← HC.out, List.length_append]; omega
   have hszr := hB.size
   by_cases hlt : i < N
   ·have g1 : (i : Int) < (N : Int) := by omega
    have hil : i < v.list.length := by rw [← HN.out]; exact hlt
    obtain ⟨b, off, hx, rfl, hvx, HX⟩ := hel hil
    obtain ⟨k0, k1, k2, k3, k4⟩ := HX wr hB
    have hik : i < v.keys.length := by rw [HKLN.out]; exact hlt
    obtain ⟨bk, offk, rfl, HXK⟩ := hky hik
    have HD : Hid (yl true (v.keys.drop i) (v.list.drop i) = ((be 1 v.keys[i].length ++ v.keys[i]) ++ vlB v.list[i]) ++ yl true (v.keys.drop (i + 1)) (v.list.drop (i + 1))) := Lib.hid (Ji hil hik)
    have hkl : v.keys[i].length ≤ 255 := by
     have h1 := HKO.out
     rw [xw, Bool.and_eq_true, List.all_eq_true] at h1
     have h2 := h1.1 _ (List.getElem_mem hik)
     unfold jj at h2
     simp only [Bool.and_eq_true, decide_eq_true_eq] at h2
     exact h2.1.2
    have hmx : mayV zV v.list[i] = true := List.all_eq_true.1 HAL.out _ (List.getElem_mem hil)
    have hrec := IH.out _ (List.getElem_mem hil)
    clear HX hel hky
    generalize v.list[i] = x at *
    generalize v.keys[i] = ky at *
    obtain ⟨yb, w5, hyb, hyv, hY, hB5⟩ := zo wr #[.int .u8 (x.kind : Int), .int .u64 (x.n : Int), .string (str x.s), .slice hx.A1 x.keys.length hx.c1, .slice hx.A2 x.list.length hx.c2] 78
    have hB35 := hB.trans (hB5.mono hszr)
    have hX5 := hX4.below hB5
    have hoI5 := zg hoI hB5
    have hsz5 := hB35.size
    go_upto_region 19 with fail
    rw [← hyb, ← hyv]
    clear hyb hyv k0 k1 k2 k3 k4 hX4 hoI
    have c0 := hX5.c0
    have c1 := hX5.c1
    have c2 := hX5.c2
    have c3 := hX5.c3
    have c4 := hX5.c4
    have y0 := HXK w5 hB35
    have hte : zw ky.length 1 = 0 := by simp [zw]; omega
    have hpk := yF Ai ni ci li ky 1 w5 hoI5.rd (by omega) (by omega)
    rw [yp hte, hte] at hpk
    obtain ⟨M, hM⟩ : ∃ M, M = li ++ be (Int.toNat 1) ky.length ++ ky := ⟨_, rfl⟩
    rw [← hM] at hpk
    have HC2 : Hid (M ++ vlB x ++ yl true (v.keys.drop (i + 1)) (v.list.drop (i + 1)) = INN) := Lib.hid (by rw [← HC.out, HD.out, hM]; simp [List.append_assoc])
    have HML : Hid (M.length + (vlB x).length ≤ INN.length) := Lib.hid (by rw [← HC2.out]; simp [List.length_append])
    clear hM hte
    go_wp2_with (with_reducible refine h_A ?_)
    refine hpk.mono ?_
    rintro e w6 ⟨A6, c6, rfl, ho6, hB6⟩
    have hB36 := hB35.trans (hB6.mono hsz5)
    have hY6 := hY.below hB6
    have ho6' := ho6.base_le hsz5
    clear hpk y0 c0 c1 c2 c3 c4 hX5 hY hoI5 ho6
    have hr1 := hrec hx w3.heap.size A6 M.length c6 M w6 (hvx.under hB36 (Nat.le_refl _)) ho6' hB36.size hmx (by have := HML.out; omega)
    unfold vlV VPut at hr1
    obtain ⟨L2, hL2⟩ : ∃ L, L = M ++ vlB x := ⟨_, rfl⟩
    rw [← hL2] at hr1 HC2
    clear hL2 hrec hvx
    have d0 := hY6.c0
    have d1 := hY6.c1
    have d2 := hY6.c2
    have d3 := hY6.c3
    have d4 := hY6.c4
    go_wp2_with (with_reducible refine h_A ?_)
    refine hr1.mono ?_
    rintro e w7 ⟨A7, c7, rfl, ho7, _, hB7⟩
    clear hr1 d0 d1 d2 d3 d4
    go_wp2_with (with_reducible refine h_A ?_)
    exact ⟨⟨i + 1, L2.length, c7, A7, L2, by omega, rfl, by go_num, ho7, hB36.trans hB7, HC2⟩, by simp [RowKit.intOf]; omega⟩
   ·have g1 : ¬ (i : Int) < (N : Int) := by omega
    have hle : li = INN := by
     have h := HC.out
     rw [List.drop_eq_nil_of_le (show v.list.length ≤ i by rw [← HN.out]; omega), xy, List.append_nil] at h
     exact h
    subst hle
    have hln : li.length = ni := RdB.length hoI.rd
    have hob := zg ho3 hB
    have hp := zX A3 n1 q3 l1 ni 4 wr hob.rd (by omega) (by omega)
    rw [yy (by decide), show Int.toNat 4 = 4 from rfl] at hp
    obtain ⟨M, hM⟩ : ∃ M, M = l1 ++ be 4 ni := ⟨_, rfl⟩
    rw [← hM] at hp
    have HRM : Hid (R = M ++ li) := Lib.hid (by rw [HR2.out, hM, hln, List.append_assoc])
    have hMl : M.length + ni = R.length := by rw [HRM.out, List.length_append, hln]
    clear hM hln hel hky
    have c0 := hX4.c0
    have c1 := hX4.c1
    have c2 := hX4.c2
    have c3 := hX4.c3
    have c4 := hX4.c4
    go_wp2_with (with_reducible refine h_A ?_)
    refine hp.mono ?_
    rintro e w8 ⟨A8, c8, rfl, ho8, hB8⟩
    have hoI8 := zg hoI hB8
    have hsz8 := hB8.size
    clear hp
    go_wp2_with (with_reducible refine h_A ?_)
    refine zc (yn slB rfl rfl rfl rfl ho8 hoI8.rd (zU _) (by omega) (by unfold maxLen; omega) hsz8 ?_)
    intro A9 c9 w9 ho9 hg9 _
    have hB9 : Below w3.heap.size w3 w9 := (hB.trans (hB8.mono hszr)).grown hg9 (Nat.le_trans hszr hsz8) (fun g hg => by have := (ho8.blk_lt hg).1; omega)
    rw [← List.map_append, ← HRM.out, hMl] at ho9
    rw [hMl]
    clear c0 c1 c2 c3 c4
    go_wp2_with (with_reducible refine h_A ?_)
    go_ret
    exact ⟨A9, c9, rfl, ho9.base_le (by omega), hK3.on hB9, hBb3.trans (hB9.mono hs3)⟩
 ·subst hk
  generalize hkI : (((169 : Nat) : Int)) = k at *
  obtain rfl : k = 169 := by rw [← hkI]; rfl
  clear hkI
  have c0 := hX3.c0
  have c1 := hX3.c1
  have c2 := hX3.c2
  have c3 := hX3.c3
  have c4 := hX3.c4
  rw [show yj 169 v.n v.s INN = be 4 INN.length ++ INN by simp [yj]] at HR2
  have hINl : INN.length ≤ 100000000 := by have := hRl; rw [HR2.out] at this; simp at this; omega
  have hel := fun {i : Nat} (hi : i < v.list.length) => (hv3.mono (fun g hg => Nat.lt_of_lt_of_le hg hs3)).elem hi
  simp only at hel
  obtain ⟨N, hN⟩ : ∃ N, N = v.list.length := ⟨_, rfl⟩
  rw [← hN] at hX3 hX3' hLb c0 c1 c2 c3 c4 ⊢
  have HIT : Hid (be 4 N ++ yl false v.keys v.list = INN) := Lib.hid (by rw [HIN.out, innB, HKD.out, hN]; rfl)
  have HN := Lib.hid hN
  have hp := zX none 0 0 [] N 4 w3 (Rd.nil _ _ _ _ (by simp [maxLen]) _) (by omega) (by omega)
  rw [yy (by decide), List.nil_append, show Int.toNat 4 = 4 from rfl] at hp
  have hP4 : (be 4 N).length = 4 := zn 4 N
  generalize be 4 N = P0 at *
  have HP4 := Lib.hid hP4
  have HV := Lib.hid hv3
  have HHN1 := Lib.hid hl1n
  have IH := Lib.hid ih
  clear hN hP4 hv3 hl1n ih hkb hblkA hxge hxne hs4 hk256
  go_wp2_with (with_reducible refine h_A ?_)
  refine hp.mono ?_
  rintro e w4 ⟨A4, c4', rfl, ho4, hB4⟩
  have hX4 := hX3.below hB4
  clear hp c0 c1 c2 c3 c4
  have c0 := hX4.c0
  have c1 := hX4.c1
  have c2 := hX4.c2
  have c3 := hX4.c3
  have c4 := hX4.c4
  go_wp2_with (with_reducible refine h_A ?_)
  clear c0 c1 c2 c3 c4 hX4
  go_loopw [5, 58] (fun s5 s58 wr => ∃ (i ni ci : Nat) (Ai : Option Addr) (li : List UInt8), i ≤ N ∧ s5 = .slice Ai ni ci ∧ s58 = .int .i64 i ∧ OwnB wr w3.heap.size Ai ni ci li ∧ Below w3.heap.size w3 wr ∧ Hid (li ++ yl false (v.keys.drop i) (v.list.drop i) = INN)) (fun _ s58 _ => N - (RowKit.intOf s58).toNat)
  case atStart => exact ⟨0, P0.length, c4', A4, P0, by omega, rfl, rfl, ho4, hB4, Lib.hid HIT.out⟩
  case round =>
   clear ho4 hB4
   obtain ⟨i, ni, ci, Ai, li, hi, rfl, rfl, hoI, hB, HC⟩ := hrel
   have hX4 := hX3'.below hB
   have hlen : ni ≤ INN.length := by have := RdB.length hoI.rd; rw [← HC.out, List.length_append]; omega
   have hszr := hB.size
   by_cases hlt : i < N
   ·have g1 : (i : Int) < (N : Int) := by omega
    have hil : i < v.list.length := by rw [← HN.out]; exact hlt
    obtain ⟨b, off, hx, rfl, hvx, HX⟩ := hel hil
    obtain ⟨k0, k1, k2, k3, k4⟩ := HX wr hB
    have HD : Hid (yl false (v.keys.drop i) (v.list.drop i) = vlB v.list[i] ++ yl false (v.keys.drop (i + 1)) (v.list.drop (i + 1))) := Lib.hid (XW hil _ _)
    have hmx : mayV zV v.list[i] = true := List.all_eq_true.1 HAL.out _ (List.getElem_mem hil)
    have hrec := IH.out _ (List.getElem_mem hil)
    clear HX hel
    generalize v.list[i] = x at *
    obtain ⟨yb, w5, hyb, hyv, hY, hB5⟩ := zo wr #[.int .u8 (x.kind : Int), .int .u64 (x.n : Int), .string (str x.s), .slice hx.A1 x.keys.length hx.c1, .slice hx.A2 x.list.length hx.c2] 78
    have hB35 := hB.trans (hB5.mono hszr)
    have hX5 := hX4.below hB5
    have hoI5 := zg hoI hB5
    have hsz5 := hB35.size
    go_upto_region 19 with fail
    rw [← hyb, ← hyv]
    clear hyb hyv k0 k1 k2 k3 k4 hX4 hoI
    have c0 := hX5.c0
    have c1 := hX5.c1
    have c2 := hX5.c2
    have c3 := hX5.c3
    have c4 := hX5.c4
    have HC2 : Hid (li ++ vlB x ++ yl false (v.keys.drop (i + 1)) (v.list.drop (i + 1)) = INN) := Lib.hid (by rw [← HC.out, HD.out, List.append_assoc])
    have hln := RdB.length hoI5.rd
    have HML : Hid (ni + (vlB x).length ≤ INN.length) := Lib.hid (by rw [← HC2.out, ← hln]; simp [List.length_append])
    clear hln
    have hr1 := hrec hx w3.heap.size Ai ni ci li w5 (hvx.under hB35 (Nat.le_refl _)) hoI5 hB35.size hmx (by have := HML.out; omega)
    unfold vlV VPut at hr1
    obtain ⟨L2, hL2⟩ : ∃ L, L = li ++ vlB x := ⟨_, rfl⟩
    rw [← hL2] at hr1 HC2
    clear hL2 hrec hvx
    have d0 := hY.c0
    have d1 := hY.c1
    have d2 := hY.c2
    have d3 := hY.c3
    have d4 := hY.c4
    go_wp2_with (with_reducible refine h_A ?_)
    refine hr1.mono ?_
    rintro e w7 ⟨A7, c7, rfl, ho7, _, hB7⟩
    clear hr1 d0 d1 d2 d3 d4 c0 c1 c2 c3 c4
    go_wp2_with (with_reducible refine h_A ?_)
    exact ⟨⟨i + 1, L2.length, c7, A7, L2, by omega, rfl, by go_num, ho7, hB35.trans hB7, HC2⟩, by simp [RowKit.intOf]; omega⟩
   ·have g1 : ¬ (i : Int) < (N : Int) := by omega
    have hle : li = INN := by
     have h := HC.out
     rw [List.drop_eq_nil_of_le (show v.list.length ≤ i by rw [← HN.out]; omega), xy, List.append_nil] at h
     exact h
    subst hle
    have hln : li.length = ni := RdB.length hoI.rd
    have hob := zg ho3 hB
    have hp := zX A3 n1 q3 l1 ni 4 wr hob.rd (by omega) (by omega)
    rw [yy (by decide), show Int.toNat 4 = 4 from rfl] at hp
    obtain ⟨M, hM⟩ : ∃ M, M = l1 ++ be 4 ni := ⟨_, rfl⟩
    rw [← hM] at hp
    have HRM : Hid (R = M ++ li) := Lib.hid (by rw [HR2.out, hM, hln, List.append_assoc])
    have hMl : M.length + ni = R.length := by rw [HRM.out, List.length_append, hln]
    clear hM hln hel
    have c0 := hX4.c0
    have c1 := hX4.c1
    have c2 := hX4.c2
    have c3 := hX4.c3
    have c4 := hX4.c4
    go_wp2_with (with_reducible refine h_A ?_)
    refine hp.mono ?_
    rintro e w8 ⟨A8, c8, rfl, ho8, hB8⟩
    have hoI8 := zg hoI hB8
    have hsz8 := hB8.size
    clear hp
    go_wp2_with (with_reducible refine h_A ?_)
    refine zc (yn slB rfl rfl rfl rfl ho8 hoI8.rd (zU _) (by omega) (by unfold maxLen; omega) hsz8 ?_)
    intro A9 c9 w9 ho9 hg9 _
    have hB9 : Below w3.heap.size w3 w9 := (hB.trans (hB8.mono hszr)).grown hg9 (Nat.le_trans hszr hsz8) (fun g hg => by have := (ho8.blk_lt hg).1; omega)
    rw [← List.map_append, ← HRM.out, hMl] at ho9
    rw [hMl]
    clear c0 c1 c2 c3 c4
    go_wp2_with (with_reducible refine h_A ?_)
    go_ret
    exact ⟨A9, c9, rfl, ho9.base_le (by omega), hK3.on hB9, hBb3.trans (hB9.mono hs3)⟩
theorem Ki (v : Vl) : Kh v := Vl.ind (P := Kh) Jb v
end Go.PH
end
section
namespace Go.PH
open Go.RowKit Go.Proofs
theorem Kg {p : List UInt8 → Bool} (m : Bool) (l : List Vl) (hx : ∀ x ∈ l, ∀ q : Int, mayV p x = true → 0 ≤ cntV x q → ((vlB x).length : Int) + 256 ≤ 5000 * (q - cntV x q)) :
  ∀ (ks : List (List UInt8)) (q : Int), (m = true → ∀ k ∈ ks, k.length ≤ 255) → l.all (mayV p) = true → 0 ≤ cntL l q → ((yl m ks l).length : Int) ≤ 5000 * (q - cntL l q) := by
 induction l with
 | nil => intro ks q _ _ _; rw [xy, cntL]; simp
 | cons x l ih =>
  intro ks q hk ha hq
  rw [yX]
  rw [List.all_cons, Bool.and_eq_true] at ha
  by_cases h0 : q < 0
  ·rw [Y9 _ h0] at hq; omega
  rw [Zf _ _ h0] at hq ⊢
  have h1 := jM l (cntV x q)
  have h2 := hx x (List.mem_cons_self ..) q ha.1 (by omega)
  have h3 := ih (fun y hy => hx y (List.mem_cons_of_mem _ hy)) ks.tail (cntV x q) (fun e k hm => hk e k (List.mem_of_mem_tail hm)) ha.2 hq
  have h4 : ((if m = true then be 1 (ks.headD []).length ++ ks.headD [] else []) : List UInt8).length ≤ 256 := by
   split
   ·rename_i hm
    have : (ks.headD []).length ≤ 255 := by
     cases ks with
     | nil => simp
     | cons k ks => exact hk hm k (List.mem_cons_self ..)
    rw [List.length_append, zn]
    omega
   ·simp
  rw [List.length_append, List.length_append]
  omega
theorem YD {v : Vl} : ∀ q : Int, mayV zV v = true → 0 ≤ cntV v q → ((vlB v).length : Int) + 256 ≤ 5000 * (q - cntV v q) := by
 refine Vl.ind (P := fun v => ∀ q : Int, mayV zV v = true → 0 ≤ cntV v q → ((vlB v).length : Int) + 256 ≤ 5000 * (q - cntV v q)) ?_ v
 intro v ih q hm hq
 rw [kT] at hm
 obtain ⟨hk, hs, hK, ha⟩ := qk hm
 rw [Z7, List.length_cons]
 rw [Ze] at hq ⊢
 have hle := jM v.list (q - 1)
 have hmany := Kg (decide (v.kind = 168)) v.list ih v.keys (q - 1) (fun e k hk' => by
  have h1 := (hK (of_decide_eq_true e)).2
  rw [xw, Bool.and_eq_true, List.all_eq_true] at h1
  have h2 := h1.1 _ hk'
  unfold jj at h2
  simp only [Bool.and_eq_true, decide_eq_true_eq] at h2
  exact h2.1.2) ha hq
 have hr : (yj v.kind v.n v.s (innB v)).length ≤ 4100 ∨ (yj v.kind v.n v.s (innB v)).length ≤ 8 + (yl (decide (v.kind = 168)) v.keys v.list).length := by
  unfold yj
  split
  ·left; rw [zn]; omega
  split
  ·left; rw [zn]; omega
  split
  ·left; rw [List.length_append, zn]; omega
  split
  ·left; rw [List.length_append, zn]; omega
  split
  ·right; rw [List.length_append, zn, innB, List.length_append, zn]; omega
  ·left; simp
 omega
def vlP (v : Vl) : List UInt8 := if errV v = 0 then vlB v else []
theorem kR {v : Vl} (h : errV v = 0) : 0 ≤ cntV v 200 ∧ mayV zV v = true := by
 unfold errV at h
 split at h
 ·omega
 split at h
 ·omega
 split at h
 ·rename_i h1 h2 h3
  exact ⟨by omega, h3⟩
 ·omega
theorem XP (v : Vl) (h : VH) (w : World) (hv : RVw w v h) (hT : UTabs w) : Calls Tryz.prog 105 #[.agg (vlV v h)] w fun e w' => ∃ A2 c2, e = .returned (.tuple #[.slice A2 (vlP v).length c2, .int .i64 (errV v)]) ∧ Own w' w.heap.size 5 1 A2 (vlP v).length c2 ((vlP v).map u8v) ∧ Below w.heap.size w w' := by
 obtain ⟨xb, w1, hxb, hxv, hX, hB1⟩ := zo w #[.int .u8 (v.kind : Int), .int .u64 (v.n : Int), .string (str v.s), .slice h.A1 v.keys.length h.c1, .slice h.A2 v.list.length h.c2] 78
 have hv1 := hv.up hB1
 have hck := vG v h w1 hv1 (hT.on hB1)
 have hs1 := hB1.size
 have c0 := hX.c0
 have c1 := hX.c1
 have c2 := hX.c2
 have c3 := hX.c3
 have c4 := hX.c4
 by_cases he : errV v = 0
 ·obtain ⟨hc, hm⟩ := kR he
  have hlen := YD 200 hm hc
  have hcl := jL v 200
  have hp := fun W (hW : Below w1.heap.size w1 W) => Ki v h W.heap.size none 0 0 [] W (hv1.up hW) (Own.none_ _ _ _ _) (Nat.le_refl _) hm (by omega)
  rw [show vlP v = vlB v by unfold vlP; rw [if_pos he]]
  rw [he] at hck ⊢
  unfold VPut at hp
  rw [List.nil_append] at hp
  generalize vlB v = L at *
  have HP := Lib.hid hp
  clear he hc hm hlen hcl hp hv hT hv1
  unfold vlV at *
  go_enter Tryz.func105, Tryz.ntmps105
  go_upto_region 1 with fail
  rw [← hxb, ← hxv]
  clear hxb hxv
  go_wp2_with (with_reducible refine h_A ?_)
  refine hck.mono ?_
  rintro e w2 ⟨rfl, hB2⟩
  have hX2 := hX.below hB2
  have hp := HP.out w2 hB2
  clear HP c0 c1 c2 c3 c4 hck
  have c0 := hX2.c0
  have c1 := hX2.c1
  have c2 := hX2.c2
  have c3 := hX2.c3
  have c4 := hX2.c4
  go_wp2_with (with_reducible refine h_A ?_)
  refine hp.mono ?_
  rintro e w3 ⟨A2, c2', rfl, ho, _, hB3⟩
  go_wp2_with (with_reducible refine h_A ?_)
  go_ret2
  exact ⟨A2, c2', rfl, ho.base_le (Nat.le_trans hs1 hB2.size), hB1.trans ((hB2.trans (hB3.mono hB2.size)).mono hs1)⟩
 ·rw [show vlP v = [] by unfold vlP; rw [if_neg he]]
  generalize errV v = r at *
  have g1 : (r != 0) = true := by simp; omega
  have g2 : (r == 0) = false := by simp; omega
  clear he hv hT hv1
  unfold vlV at *
  go_enter Tryz.func105, Tryz.ntmps105
  go_upto_region 1 with fail
  rw [← hxb, ← hxv]
  clear hxb hxv
  go_wp2_with (with_reducible refine h_A ?_)
  refine hck.mono ?_
  rintro e w2 ⟨rfl, hB2⟩
  clear hck
  go_wp2_with (with_reducible refine h_A ?_)
  go_ret2
  exact ⟨none, 0, rfl, Own.none_ _ _ _ _, hB1.trans (hB2.mono hs1)⟩
end Go.PH
end
section
namespace Go.PH
theorem YJ {i n m : Nat} {R S : List UInt8} (h : be i n ++ R = be i m ++ S) : be i n = be i m ∧ R = S := List.append_inj h (by rw [zn, zn])
theorem jb {i n m : Nat} {R S : List UInt8} (hn : n < 256 ^ i) (hm : m < 256 ^ i) (h : be i n ++ R = be i m ++ S) : n = m ∧ R = S := by
 obtain ⟨h1, h2⟩ := YJ h
 have h3 := congrArg unbe h1
 rw [jE, jE, Nat.mod_eq_of_lt hn, Nat.mod_eq_of_lt hm] at h3
 exact ⟨h3, h2⟩
theorem kf {i : Nat} {s t R S : List UInt8} (hs : s.length < 256 ^ i) (ht : t.length < 256 ^ i) (h : (be i s.length ++ s) ++ R = (be i t.length ++ t) ++ S) : s = t ∧ R = S := by
 rw [List.append_assoc, List.append_assoc] at h
 obtain ⟨h1, h2⟩ := jb hs ht h
 exact List.append_inj h2 h1
theorem vc {k n sl KL LL : Nat} {ko pl al : Bool} (h : mayF k n sl KL LL ko pl al = true) :
  (k ≠ 168 → KL = 0) ∧ (k ≠ 168 → k ≠ 169 → LL = 0) ∧ (k ≠ 149 → k ≠ 160 → sl = 0) ∧ (k = 8 → n ≤ 1) ∧ (k = 2 → n ≤ 255) ∧ (k ≠ 8 → k ≠ 2 → k ≠ 49 → k ≠ 50 → n = 0) := by
 unfold mayF at h
 simp only [Bool.and_eq_true, Bool.or_eq_true, decide_eq_true_eq] at h
 obtain ⟨⟨⟨⟨⟨h1, h2⟩, h3⟩, h4⟩, h5⟩, h6⟩ := h
 refine ⟨fun h => by omega, fun h h' => by omega, fun h h' => by omega, fun h => ?_, fun h => ?_, fun e1 e2 e3 e4 => ?_⟩
 ·subst h; simpa using h5
 ·subst h; simpa using h5
 ·rw [if_neg e1, if_neg e2, if_neg (by omega)] at h5
  repeat' split at h5
  all_goals simp at h5
  all_goals first | exact h5 | exact h5.2
inductive VB : Vl → Prop
 | mk {v : Vl} (hk : v.kind < 256) (hn : v.n < 18446744073709551616) (hl : ∀ x ∈ v.list, VB x) : VB v
theorem VB.parts {v : Vl} (h : VB v) : v.kind < 256 ∧ v.n < 18446744073709551616 ∧ ∀ x ∈ v.list, VB x := by
 cases h with
 | mk a b c => exact ⟨a, b, c⟩
theorem RV.vb {w : World} {F : Nat → Prop} {v : Vl} {h : VH} (hv : RV w F v h) : VB v := by
 induction hv with
 | mk xs a1 a2 a3 a4 a5 a6 a7 a8 a9 _ ih =>
  refine ⟨a1, a2, fun x hx => ?_⟩
  rw [← a9] at hx
  obtain ⟨p, hp, rfl⟩ := List.mem_map.1 hx
  exact ih p hp
def VC (v : Vl) : Prop := ∃ q : Int, q ≤ 200 ∧ 0 ≤ cntV v q
theorem jD : ∀ (l : List Vl) (q : Int), 0 ≤ cntL l q → (l.length : Int) ≤ q ∧ ∀ x ∈ l, ∃ p : Int, p ≤ q ∧ 0 ≤ cntV x p
 | [], q, h => by rw [cntL] at h; exact ⟨by simpa using h, fun x hx => by cases hx⟩
 | y :: l, q, h => by
  by_cases h0 : q < 0
  ·rw [Y9 _ h0] at h; omega
  rw [Zf _ _ h0] at h
  obtain ⟨h1, h2⟩ := jD l (cntV y q) h
  have h3 := jL y q
  have h4 := jM l (cntV y q)
  refine ⟨by simp; omega, fun x hx => ?_⟩
  rcases List.mem_cons.1 hx with rfl | hx
  ·exact ⟨q, Int.le_refl _, by omega⟩
  ·obtain ⟨p, hp, hp2⟩ := h2 x hx
   exact ⟨p, by omega, hp2⟩
theorem VC.parts {v : Vl} (h : VC v) : v.list.length ≤ 200 ∧ ∀ x ∈ v.list, VC x := by
 obtain ⟨q, hq, h0⟩ := h
 rw [Ze] at h0
 obtain ⟨h1, h2⟩ := jD _ _ h0
 exact ⟨by omega, fun x hx => by obtain ⟨p, hp, hp2⟩ := h2 x hx; exact ⟨p, by omega, hp2⟩⟩
def Cut (v : Vl) : Prop := ∀ (u : Vl) (R S : List UInt8), mayV zV u = true → VB u → VC u → vlB v ++ R = vlB u ++ S → v = u ∧ R = S
theorem KK (m : Bool) (l : List Vl) (hc : ∀ x ∈ l, Cut x) : ∀ (l' : List Vl) (ks ks' : List (List UInt8)) (R S : List UInt8), l.length = l'.length → (m = true → ks.length = l.length ∧ ks'.length = l'.length) → (m = true → (∀ k ∈ ks, k.length ≤ 255) ∧ ∀ k ∈ ks', k.length ≤ 255) →
  (∀ y ∈ l', mayV zV y = true ∧ VB y ∧ VC y) → yl m ks l ++ R = yl m ks' l' ++ S → (m = true → ks = ks') ∧ l = l' ∧ R = S := by
 induction l with
 | nil =>
  intro l' ks ks' R S hl hks hk hy h
  obtain rfl : l' = [] := List.length_eq_zero_iff.1 hl.symm
  rw [xy, xy] at h
  refine ⟨fun e => ?_, rfl, h⟩
  obtain ⟨h1, h2⟩ := hks e
  rw [List.length_eq_zero_iff.1 h1, List.length_eq_zero_iff.1 h2]
 | cons x l ih =>
  intro l' ks ks' R S hl hks hk hy h
  cases l' with
  | nil => simp at hl
  | cons y l' =>
   rw [yX, yX] at h
   have hyy := hy y (List.mem_cons_self ..)
   have go : ∀ (R' S' : List UInt8), (vlB x ++ yl m ks.tail l) ++ R' = (vlB y ++ yl m ks'.tail l') ++ S' → x = y ∧ (m = true → ks.tail = ks'.tail) ∧ l = l' ∧ R' = S' := by
    intro R' S' h'
    rw [List.append_assoc, List.append_assoc] at h'
    obtain ⟨e1, h2⟩ := hc x (List.mem_cons_self ..) y _ _ hyy.1 hyy.2.1 hyy.2.2 h'
    obtain ⟨e2, e3, e4⟩ := ih (fun z hz => hc z (List.mem_cons_of_mem _ hz)) l' ks.tail ks'.tail R' S' (by simpa using hl) (fun e => by obtain ⟨a, b⟩ := hks e; simp at a b ⊢; omega)
     (fun e => ⟨fun k hm => (hk e).1 k (List.mem_of_mem_tail hm), fun k hm => (hk e).2 k (List.mem_of_mem_tail hm)⟩) (fun z hz => hy z (List.mem_cons_of_mem _ hz)) h2
    exact ⟨e1, e2, e3, e4⟩
   cases m
   ·simp only [Bool.false_eq_true, if_false, List.nil_append] at h
    obtain ⟨e1, _, e3, e4⟩ := go R S h
    exact ⟨fun e => (by cases e), by rw [e1, e3], e4⟩
   ·obtain ⟨n1, n2⟩ := hks rfl
    obtain ⟨k1, k2⟩ := hk rfl
    cases ks with
    | nil => simp at n1
    | cons k ks =>
     cases ks' with
     | nil => simp at n2
     | cons k' ks' =>
      simp only [if_true, List.headD_cons, List.append_assoc] at h
      have hk1 := k1 k (List.mem_cons_self ..)
      have hk2 := k2 k' (List.mem_cons_self ..)
      obtain ⟨e0, h1⟩ := kf (i := 1) (s := k) (t := k') (R := vlB x ++ (yl true ks l ++ R)) (S := vlB y ++ (yl true ks' l' ++ S)) (by omega) (by omega) (by simpa [List.append_assoc] using h)
      obtain ⟨e1, e2, e3, e4⟩ := go R S (by simpa [List.append_assoc] using h1)
      refine ⟨fun _ => ?_, by rw [e1, e3], e4⟩
      have := e2 rfl
      simp at this
      rw [e0, this]
theorem Jx {v u : Vl} (h1 : v.kind = u.kind) (h2 : v.n = u.n) (h3 : v.s = u.s) (h4 : v.keys = u.keys) (h5 : v.list = u.list) : v = u := by rw [v.eta, u.eta, h1, h2, h3, h4, h5]
theorem qd {α : Type} {l : List α} (h : l.length = 0) : l = [] := List.length_eq_zero_iff.1 h
theorem Xj {v : Vl} (h : xR v.keys zV = true) : ∀ k ∈ v.keys, k.length ≤ 255 := fun k hk' => by
 rw [xw, Bool.and_eq_true, List.all_eq_true] at h
 have h2 := h.1 _ hk'
 unfold jj at h2
 simp only [Bool.and_eq_true, decide_eq_true_eq] at h2
 exact h2.1.2
theorem VV (v : Vl) : mayV zV v = true → VB v → VC v → Cut v := by
 refine Vl.ind (P := fun v => mayV zV v = true → VB v → VC v → Cut v) ?_ v
 intro v ih hm hb hc u R S hm' hb' hc' h
 rw [kT] at hm hm'
 obtain ⟨k1, s1, m1, a1⟩ := qk hm
 obtain ⟨_, s2, m2, a2⟩ := qk hm'
 obtain ⟨p1, p2, p3, p4, p5, p6⟩ := vc hm
 obtain ⟨q1, q2, q3, q4, q5, q6⟩ := vc hm'
 obtain ⟨b1, b2, b3⟩ := hb.parts
 obtain ⟨d1, d2, d3⟩ := hb'.parts
 obtain ⟨c1, c2⟩ := hc.parts
 obtain ⟨f1, f2⟩ := hc'.parts
 clear hm hm' hb hb' hc hc'
 rw [Z7, Z7, List.cons_append, List.cons_append, List.cons.injEq] at h
 obtain ⟨hk, h⟩ := h
 have hkk : v.kind = u.kind := by
  have := congrArg UInt8.toNat hk
  simp only [UInt8.toNat_ofNat'] at this
  omega
 rw [hkk] at k1 m1 p1 p2 p3 p4 p5 p6 h
 have hmany : ∀ m : Bool, m = decide (u.kind = 168) → (u.kind = 168 ∨ u.kind = 169) → innB v ++ R = innB u ++ S → v = u ∧ R = S := by
  intro m hmm hk2 hin
  unfold innB at hin
  rw [hkk, ← hmm, List.append_assoc, List.append_assoc] at hin
  obtain ⟨e1, h2⟩ := jb (i := 4) (by omega) (by omega) hin
  obtain ⟨e2, e3, e4⟩ := KK m v.list (fun x hx => ih x hx (List.all_eq_true.1 a1 x hx) (b3 x hx) (c2 x hx)) u.list v.keys u.keys R S e1
   (fun e => by rw [hmm] at e; have := of_decide_eq_true e; exact ⟨(m1 this).1, (m2 this).1⟩)
   (fun e => by rw [hmm] at e; have := of_decide_eq_true e; exact ⟨Xj (m1 this).2, Xj (m2 this).2⟩)
   (fun y hy => ⟨List.all_eq_true.1 a2 y hy, d3 y hy, f2 y hy⟩) h2
  refine ⟨Jx hkk ?_ ?_ ?_ e3, e4⟩
  ·rw [p6 (by omega) (by omega) (by omega) (by omega), q6 (by omega) (by omega) (by omega) (by omega)]
  ·rw [qd (p3 (by omega) (by omega)), qd (q3 (by omega) (by omega))]
  ·by_cases e : u.kind = 168
   ·exact e2 (by rw [hmm, decide_eq_true e])
   ·rw [qd (p1 e), qd (q1 e)]
 have hnum : ∀ i : Nat, v.n < 256 ^ i → u.n < 256 ^ i → u.kind ≠ 168 → u.kind ≠ 169 → u.kind ≠ 149 → u.kind ≠ 160 → be i v.n ++ R = be i u.n ++ S → v = u ∧ R = S := by
  intro i g1 g2 e1 e2 e3 e4 h2
  obtain ⟨h3, h4⟩ := jb g1 g2 h2
  exact ⟨Jx hkk h3 (by rw [qd (p3 e3 e4), qd (q3 e3 e4)]) (by rw [qd (p1 e1), qd (q1 e1)]) (by rw [qd (p2 e1 e2), qd (q2 e1 e2)]), h4⟩
 have htxt : ∀ i : Nat, v.s.length < 256 ^ i → u.s.length < 256 ^ i → u.kind ≠ 168 → u.kind ≠ 169 → (u.kind = 149 ∨ u.kind = 160) → (be i v.s.length ++ v.s) ++ R = (be i u.s.length ++ u.s) ++ S → v = u ∧ R = S := by
  intro i g1 g2 e1 e2 e3 h2
  obtain ⟨h3, h4⟩ := kf g1 g2 h2
  exact ⟨Jx hkk (by rw [p6 (by omega) (by omega) (by omega) (by omega), q6 (by omega) (by omega) (by omega) (by omega)]) h3 (by rw [qd (p1 e1), qd (q1 e1)]) (by rw [qd (p2 e1 e2), qd (q2 e1 e2)]), h4⟩
 rcases k1 with e | e | e | e | e | e | e | e | e
 ·refine hnum 1 (by have := p4 e; omega) (by have := q4 e; omega) (by omega) (by omega) (by omega) (by omega) ?_
  unfold yj at h; rw [e] at h; simpa using h
 ·refine hnum 1 (by have := p5 e; omega) (by have := q5 e; omega) (by omega) (by omega) (by omega) (by omega) ?_
  unfold yj at h; rw [e] at h; simpa using h
 ·refine hnum 8 (by omega) (by omega) (by omega) (by omega) (by omega) (by omega) ?_
  unfold yj at h; rw [e] at h; simpa using h
 ·refine hnum 8 (by omega) (by omega) (by omega) (by omega) (by omega) (by omega) ?_
  unfold yj at h; rw [e] at h; simpa using h
 ·refine hnum 0 (by rw [p6 (by omega) (by omega) (by omega) (by omega)]; decide) (by rw [q6 (by omega) (by omega) (by omega) (by omega)]; decide) (by omega) (by omega) (by omega) (by omega) ?_
  unfold yj at h; rw [e] at h; simpa [be] using h
 ·refine htxt 4 (by omega) (by omega) (by omega) (by omega) (by omega) ?_
  unfold yj at h; rw [e] at h; simpa [List.append_assoc] using h
 ·refine htxt 2 (by omega) (by omega) (by omega) (by omega) (by omega) ?_
  unfold yj at h; rw [e] at h; simpa [List.append_assoc] using h
 ·refine hmany true (by rw [e]; rfl) (by omega) ?_
  unfold yj at h; rw [e] at h
  simp only [List.append_assoc] at h
  exact (YJ (i := 4) (by simpa using h)).2
 ·refine hmany false (by rw [e]; rfl) (by omega) ?_
  unfold yj at h; rw [e] at h
  simp only [List.append_assoc] at h
  exact (YJ (i := 4) (by simpa using h)).2
end Go.PH
end

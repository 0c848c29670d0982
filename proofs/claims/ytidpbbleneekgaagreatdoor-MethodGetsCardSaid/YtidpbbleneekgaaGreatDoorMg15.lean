/- Texts laid together: VlBytesR, VlOneMath. -/
import Derived.Test.YtidpbbleneekgaaGreatDoorMg01
import Derived.Test.YtidpbbleneekgaaGreatDoorMg03
import Derived.Test.YtidpbbleneekgaaGreatDoorMg14
set_option linter.all false
set_option linter.unusedSimpArgs false
set_option linter.unusedVariables false
section
/- A value's bytes: the walk of the document's program. -/
namespace Go.PH
open Go.RowKit Go.Proofs

def VByte (w : World) (R : List UInt8) (e : Ending) (w' : World) : Prop := ∃ A2 c2, e = .returned (.slice A2 R.length c2) ∧ OwnB w' w.heap.size A2 R.length c2 R ∧ Below w.heap.size w w'
def VByteC (v : Vl) : Prop := ∀ (h : VH) (w : World), RVw w v h → mayV utf8B v = true → (vlB v).length ≤ 100000000 → Calls Tryz.prog 97 #[.agg (vlV v h)] w (VByte w (vlB v))
set_option maxRecDepth 20000 in
set_option maxHeartbeats 4000000 in
theorem vbyte_step (v : Vl) (ih : ∀ x ∈ v.list, VByteC x) : VByteC v := by
 intro h w hv hmay hN
 unfold vlV VByte
 obtain ⟨xb, w1, hxb, hxv, hX, hB1⟩ := alloc_stepV w #[.int .u8 (v.kind : Int), .int .u64 (v.n : Int), .string (str v.s), .slice h.A1 v.keys.length h.c1, .slice h.A2 v.list.length h.c2] 50
 rw [vlB_eq] at hN ⊢
 rw [mayV_eq] at hmay
 obtain ⟨hkinds, hs4, hmapK, hall⟩ := mayF_parts hmay
 obtain ⟨hk256, hn64, _, hkb, hKb, hLb⟩ := hv.bounds
 have hku : Value.int .u8 (v.kind : Int) = u8v (UInt8.ofNat v.kind) := by rw [u8v_eq, UInt8.toNat_ofNat']; congr; omega
 have hs1 := hB1.size
 have hlit0 := own_lit (w := w1) w1.heap.size #[.int .u8 (v.kind : Int)] 5 1 (Nat.le_refl _) (by simp [maxLen]) rfl (size := 1) (by omega)
 have hlit : OwnB (w1.alloc (.cells #[.int .u8 (v.kind : Int)] 5)) w1.heap.size (some ⟨w1.heap.size, 0, none⟩) 1 1 [UInt8.ofNat v.kind] := by
  have e : [UInt8.ofNat v.kind].map u8v = #[Value.int .u8 (v.kind : Int)].toList := by simp [hku]
  unfold OwnB
  rw [e]
  exact hlit0
 have hB2 := (Below.refl w1.heap.size w1).alloc (Nat.le_refl _) (.cells #[.int .u8 (v.kind : Int)] 5)
 have hv1 := hv.up hB1
 obtain ⟨INN, hINN⟩ : ∃ I, I = innB v := ⟨_, rfl⟩
 rw [← hINN] at hN ⊢
 obtain ⟨R, hR⟩ : ∃ R, R = UInt8.ofNat v.kind :: restB v.kind v.n v.s INN := ⟨_, rfl⟩
 rw [← hR] at hN ⊢
 have HIN := Lib.hid hINN
 have HR := Lib.hid hR
 have HMAY := Lib.hid hmay
 have HMK := Lib.hid hmapK
 have HAL := Lib.hid hall
 have IH := Lib.hid ih
 clear hINN hR hmapK hall hku hlit0 hmay ih hv
 obtain ⟨K1, j1, K2, j2⟩ := h
 generalize hkd : v.kind = kd at *
 have HKD := Lib.hid hkd
 clear hkd
 rcases hkinds with hk | hk | hk | hk | hk | hk | hk | hk | hk
 ·subst hk
  generalize hkI : (((8 : Nat) : Int)) = k at *
  obtain rfl : k = 8 := by rw [← hkI]; rfl
  clear hkI
  have c0 := hX.c0
  have c1 := hX.c1
  have c2 := hX.c2
  have c3 := hX.c3
  have c4 := hX.c4
  go_enter Tryz.func97, Tryz.ntmps97
  go_upto_region 1 with fail
  rw [← hxb, ← hxv]
  clear hxb hxv
  go_upto_region 2 with fail
  have hX2 := hX.below hB2
  generalize (w1.alloc (.cells #[.int .u8 8] 5)) = w2 at *
  have hB := hB1.trans (hB2.mono hs1)
  have hv2 := hv1.up hB2
  have hs2 := hB2.size
  generalize hlb : w1.heap.size = lb at *
  have HXB : Hid (xb ≠ lb) := Lib.hid (by have := hX.lt; omega)
  have HLB := Lib.hid hlb
  clear c0 c1 c2 c3 c4 hX hv1 hlb hB1
  have c0 := hX2.c0
  have c1 := hX2.c1
  have c2 := hX2.c2
  have c3 := hX2.c3
  have c4 := hX2.c4
  go_wp2_with (with_reducible refine h_A ?_)
  have hRe : [UInt8.ofNat 8] ++ [UInt8.ofNat v.n] = R := by rw [HR.out]; simp [restB, be]
  have hRl : R.length = 1 + 1 := by rw [← hRe]; rfl
  have hku2 : Value.int .u8 ((v.n : Int) % 256) = u8v (UInt8.ofNat v.n) := by rw [u8v_eq, UInt8.toNat_ofNat']; first | (congr; done) | (congr; omega)
  have hnew := rd_new (size := 1) w2 #[.int .u8 ((v.n : Int) % 256)] 5 (0, 0) 1 1 rfl (by omega) (by simp [maxLen])
  have hB3 := (Below.refl w2.heap.size w2).alloc (Nat.le_refl _) (.cells #[.int .u8 ((v.n : Int) % 256)] 5)
  have hol := own_below hlit hB3
  have hs3 := hB3.size
  have e8 : [UInt8.ofNat 8].map u8v ++ #[Value.int .u8 ((v.n : Int) % 256)].toList = R.map u8v := by rw [← hRe]; simp [hku2]
  have HRL := Lib.hid hRl
  clear c0 c1 c2 c3 c4 hku2 hRl
  refine unhold (wp_app slB rfl rfl rfl rfl hol hnew (by intro u hu; simp at hu; subst hu; rfl) (by omega) (by unfold maxLen; omega) (by omega) ?_)
  intro A4 q4 w4 ho4 hg4 _
  have hBw := (hB.trans (hB3.mono hB.size)).grown hg4 (Nat.le_trans hB.size hs3) (fun g hg => by have h9 : some lb = some g := hg; injection h9 with h9; omega)
  rw [e8] at ho4
  clear hRe e8
  go_wp2_with (with_reducible refine h_A ?_)
  go_ret
  exact ⟨A4, q4, by rw [HRL.out]; rfl, by rw [HRL.out]; exact ho4.base_le hs1, hBw⟩
 ·subst hk
  generalize hkI : (((2 : Nat) : Int)) = k at *
  obtain rfl : k = 2 := by rw [← hkI]; rfl
  clear hkI
  have c0 := hX.c0
  have c1 := hX.c1
  have c2 := hX.c2
  have c3 := hX.c3
  have c4 := hX.c4
  go_enter Tryz.func97, Tryz.ntmps97
  go_upto_region 1 with fail
  rw [← hxb, ← hxv]
  clear hxb hxv
  go_upto_region 2 with fail
  have hX2 := hX.below hB2
  generalize (w1.alloc (.cells #[.int .u8 2] 5)) = w2 at *
  have hB := hB1.trans (hB2.mono hs1)
  have hv2 := hv1.up hB2
  have hs2 := hB2.size
  generalize hlb : w1.heap.size = lb at *
  have HXB : Hid (xb ≠ lb) := Lib.hid (by have := hX.lt; omega)
  have HLB := Lib.hid hlb
  clear c0 c1 c2 c3 c4 hX hv1 hlb hB1
  have c0 := hX2.c0
  have c1 := hX2.c1
  have c2 := hX2.c2
  have c3 := hX2.c3
  have c4 := hX2.c4
  go_wp2_with (with_reducible refine h_A ?_)
  have hRe : [UInt8.ofNat 2] ++ [UInt8.ofNat v.n] = R := by rw [HR.out]; simp [restB, be]
  have hRl : R.length = 1 + 1 := by rw [← hRe]; rfl
  have hku2 : Value.int .u8 ((v.n : Int) % 256) = u8v (UInt8.ofNat v.n) := by rw [u8v_eq, UInt8.toNat_ofNat']; first | (congr; done) | (congr; omega)
  have hnew := rd_new (size := 1) w2 #[.int .u8 ((v.n : Int) % 256)] 5 (0, 0) 1 1 rfl (by omega) (by simp [maxLen])
  have hB3 := (Below.refl w2.heap.size w2).alloc (Nat.le_refl _) (.cells #[.int .u8 ((v.n : Int) % 256)] 5)
  have hol := own_below hlit hB3
  have hs3 := hB3.size
  have e8 : [UInt8.ofNat 2].map u8v ++ #[Value.int .u8 ((v.n : Int) % 256)].toList = R.map u8v := by rw [← hRe]; simp [hku2]
  have HRL := Lib.hid hRl
  clear c0 c1 c2 c3 c4 hku2 hRl
  refine unhold (wp_app slB rfl rfl rfl rfl hol hnew (by intro u hu; simp at hu; subst hu; rfl) (by omega) (by unfold maxLen; omega) (by omega) ?_)
  intro A4 q4 w4 ho4 hg4 _
  have hBw := (hB.trans (hB3.mono hB.size)).grown hg4 (Nat.le_trans hB.size hs3) (fun g hg => by have h9 : some lb = some g := hg; injection h9 with h9; omega)
  rw [e8] at ho4
  clear hRe e8
  go_wp2_with (with_reducible refine h_A ?_)
  go_ret
  exact ⟨A4, q4, by rw [HRL.out]; rfl, by rw [HRL.out]; exact ho4.base_le hs1, hBw⟩
 ·subst hk
  generalize hkI : (((49 : Nat) : Int)) = k at *
  obtain rfl : k = 49 := by rw [← hkI]; rfl
  clear hkI
  have c0 := hX.c0
  have c1 := hX.c1
  have c2 := hX.c2
  have c3 := hX.c3
  have c4 := hX.c4
  go_enter Tryz.func97, Tryz.ntmps97
  go_upto_region 1 with fail
  rw [← hxb, ← hxv]
  clear hxb hxv
  go_upto_region 2 with fail
  have hX2 := hX.below hB2
  generalize (w1.alloc (.cells #[.int .u8 49] 5)) = w2 at *
  have hB := hB1.trans (hB2.mono hs1)
  have hv2 := hv1.up hB2
  have hs2 := hB2.size
  generalize hlb : w1.heap.size = lb at *
  have HXB : Hid (xb ≠ lb) := Lib.hid (by have := hX.lt; omega)
  have HLB := Lib.hid hlb
  clear c0 c1 c2 c3 c4 hX hv1 hlb hB1
  have c0 := hX2.c0
  have c1 := hX2.c1
  have c2 := hX2.c2
  have c3 := hX2.c3
  have c4 := hX2.c4
  go_wp2_with (with_reducible refine h_A ?_)
  have hRe : [UInt8.ofNat 49] ++ be 8 v.n = R := by rw [HR.out]; simp [restB]
  have hRl : R.length = 1 + 8 := by rw [← hRe, List.length_append, be_length]; rfl
  have hp := rnumber_any v.n 8 w2 hn64 (by omega)
  refine hp.mono ?_
  rintro e w3 ⟨A3, c3', rfl, ho3, hB3⟩
  have hol := own_below hlit hB3
  have hs3 := hB3.size
  clear hp c0 c1 c2 c3 c4
  go_wp2_with (with_reducible refine h_A ?_)
  refine unhold (wp_app slB rfl rfl rfl rfl hol ho3.rd (map_one _) (by omega) (by unfold maxLen; omega) (by omega) ?_)
  intro A4 q4 w4 ho4 hg4 _
  have hBw := (hB.trans (hB3.mono hB.size)).grown hg4 (Nat.le_trans hB.size hs3) (fun g hg => by have h9 : some lb = some g := hg; injection h9 with h9; omega)
  rw [← List.map_append, hRe] at ho4
  clear hRe
  go_wp2_with (with_reducible refine h_A ?_)
  go_ret
  exact ⟨A4, q4, by rw [hRl]; rfl, by rw [hRl]; exact ho4.base_le hs1, hBw⟩
 ·subst hk
  generalize hkI : (((50 : Nat) : Int)) = k at *
  obtain rfl : k = 50 := by rw [← hkI]; rfl
  clear hkI
  have c0 := hX.c0
  have c1 := hX.c1
  have c2 := hX.c2
  have c3 := hX.c3
  have c4 := hX.c4
  go_enter Tryz.func97, Tryz.ntmps97
  go_upto_region 1 with fail
  rw [← hxb, ← hxv]
  clear hxb hxv
  go_upto_region 2 with fail
  have hX2 := hX.below hB2
  generalize (w1.alloc (.cells #[.int .u8 50] 5)) = w2 at *
  have hB := hB1.trans (hB2.mono hs1)
  have hv2 := hv1.up hB2
  have hs2 := hB2.size
  generalize hlb : w1.heap.size = lb at *
  have HXB : Hid (xb ≠ lb) := Lib.hid (by have := hX.lt; omega)
  have HLB := Lib.hid hlb
  clear c0 c1 c2 c3 c4 hX hv1 hlb hB1
  have c0 := hX2.c0
  have c1 := hX2.c1
  have c2 := hX2.c2
  have c3 := hX2.c3
  have c4 := hX2.c4
  go_wp2_with (with_reducible refine h_A ?_)
  have hRe : [UInt8.ofNat 50] ++ be 8 v.n = R := by rw [HR.out]; simp [restB]
  have hRl : R.length = 1 + 8 := by rw [← hRe, List.length_append, be_length]; rfl
  have hp := rnumber_any v.n 8 w2 hn64 (by omega)
  refine hp.mono ?_
  rintro e w3 ⟨A3, c3', rfl, ho3, hB3⟩
  have hol := own_below hlit hB3
  have hs3 := hB3.size
  clear hp c0 c1 c2 c3 c4
  go_wp2_with (with_reducible refine h_A ?_)
  refine unhold (wp_app slB rfl rfl rfl rfl hol ho3.rd (map_one _) (by omega) (by unfold maxLen; omega) (by omega) ?_)
  intro A4 q4 w4 ho4 hg4 _
  have hBw := (hB.trans (hB3.mono hB.size)).grown hg4 (Nat.le_trans hB.size hs3) (fun g hg => by have h9 : some lb = some g := hg; injection h9 with h9; omega)
  rw [← List.map_append, hRe] at ho4
  clear hRe
  go_wp2_with (with_reducible refine h_A ?_)
  go_ret
  exact ⟨A4, q4, by rw [hRl]; rfl, by rw [hRl]; exact ho4.base_le hs1, hBw⟩
 ·subst hk
  generalize hkI : (((240 : Nat) : Int)) = k at *
  obtain rfl : k = 240 := by rw [← hkI]; rfl
  clear hkI
  have c0 := hX.c0
  have c1 := hX.c1
  have c2 := hX.c2
  have c3 := hX.c3
  have c4 := hX.c4
  go_enter Tryz.func97, Tryz.ntmps97
  go_upto_region 1 with fail
  rw [← hxb, ← hxv]
  clear hxb hxv
  go_upto_region 2 with fail
  have hX2 := hX.below hB2
  generalize (w1.alloc (.cells #[.int .u8 240] 5)) = w2 at *
  have hB := hB1.trans (hB2.mono hs1)
  have hv2 := hv1.up hB2
  have hs2 := hB2.size
  generalize hlb : w1.heap.size = lb at *
  have HXB : Hid (xb ≠ lb) := Lib.hid (by have := hX.lt; omega)
  have HLB := Lib.hid hlb
  clear c0 c1 c2 c3 c4 hX hv1 hlb hB1
  have c0 := hX2.c0
  have c1 := hX2.c1
  have c2 := hX2.c2
  have c3 := hX2.c3
  have c4 := hX2.c4
  go_wp2_with (with_reducible refine h_A ?_)
  have hRe : [UInt8.ofNat 240] = R := by rw [HR.out]; simp [restB]
  rw [← hRe]
  go_ret
  exact ⟨_, _, rfl, hlit.base_le hs1, hB⟩
 ·have has := str_size v.s
  subst hk
  generalize hkI : (((160 : Nat) : Int)) = k at *
  obtain rfl : k = 160 := by rw [← hkI]; rfl
  clear hkI
  have c0 := hX.c0
  have c1 := hX.c1
  have c2 := hX.c2
  have c3 := hX.c3
  have c4 := hX.c4
  go_enter Tryz.func97, Tryz.ntmps97
  go_upto_region 1 with fail
  rw [← hxb, ← hxv]
  clear hxb hxv
  go_upto_region 2 with fail
  have hX2 := hX.below hB2
  generalize (w1.alloc (.cells #[.int .u8 160] 5)) = w2 at *
  have hB := hB1.trans (hB2.mono hs1)
  have hv2 := hv1.up hB2
  have hs2 := hB2.size
  generalize hlb : w1.heap.size = lb at *
  have HXB : Hid (xb ≠ lb) := Lib.hid (by have := hX.lt; omega)
  have HLB := Lib.hid hlb
  clear c0 c1 c2 c3 c4 hX hv1 hlb hB1
  have c0 := hX2.c0
  have c1 := hX2.c1
  have c2 := hX2.c2
  have c3 := hX2.c3
  have c4 := hX2.c4
  go_wp2_with (with_reducible refine h_A ?_)
  have hRe : ([UInt8.ofNat 160] ++ be 4 v.s.length) ++ v.s = R := by rw [HR.out]; simp [restB]
  have HRL : Hid (R.length = 1 + 4 + v.s.length) := Lib.hid (by rw [← hRe, List.length_append, List.length_append, be_length]; rfl)
  have hp := rnumber_any v.s.length 4 w2 (by omega) (by omega)
  refine hp.mono ?_
  rintro e w3 ⟨A3, c3', rfl, ho3, hB3⟩
  have hol := own_below hlit hB3
  have hs3 := hB3.size
  have hX3 := hX2.below hB3
  clear hp c0 c1 c2 c3 c4
  go_wp2_with (with_reducible refine h_A ?_)
  refine unhold (wp_app slB rfl rfl rfl rfl hol ho3.rd (map_one _) (by omega) (by unfold maxLen; omega) (by omega) ?_)
  intro A4 q4 w4 ho4 hg4 _
  have hBw := (hB.trans (hB3.mono hB.size)).grown hg4 (Nat.le_trans hB.size hs3) (fun g hg => by have h9 : some lb = some g := hg; injection h9 with h9; omega)
  have hX4 := hX3.grown hg4 (by intro e; have h9 : some xb = some lb := e; injection h9 with h9; exact HXB.out h9)
  have hs4' := hg4.size
  rw [← List.map_append] at ho4
  have c0 := hX4.c0
  have c1 := hX4.c1
  have c2 := hX4.c2
  have c3 := hX4.c3
  have c4 := hX4.c4
  go_wp2_with (with_reducible refine h_A ?_)
  refine unhold (wp_app_strW slB Tryz.underlying9 rfl rfl rfl rfl ho4 (by omega) (by omega) (by omega) ?_)
  intro A5 q5 w5 ho5 hg5
  have hBx := hBw.grown hg5 hBw.size (fun g hg => by have := (ho4.blk_lt hg).1; omega)
  rw [← List.map_append, hRe] at ho5
  clear hRe c0 c1 c2 c3 c4
  go_wp2_with (with_reducible refine h_A ?_)
  go_ret
  exact ⟨A5, q5, by rw [HRL.out]; rfl, by rw [HRL.out]; exact ho5.base_le hs1, hBx⟩
 ·have has := str_size v.s
  subst hk
  generalize hkI : (((149 : Nat) : Int)) = k at *
  obtain rfl : k = 149 := by rw [← hkI]; rfl
  clear hkI
  have c0 := hX.c0
  have c1 := hX.c1
  have c2 := hX.c2
  have c3 := hX.c3
  have c4 := hX.c4
  go_enter Tryz.func97, Tryz.ntmps97
  go_upto_region 1 with fail
  rw [← hxb, ← hxv]
  clear hxb hxv
  go_upto_region 2 with fail
  have hX2 := hX.below hB2
  generalize (w1.alloc (.cells #[.int .u8 149] 5)) = w2 at *
  have hB := hB1.trans (hB2.mono hs1)
  have hv2 := hv1.up hB2
  have hs2 := hB2.size
  generalize hlb : w1.heap.size = lb at *
  have HXB : Hid (xb ≠ lb) := Lib.hid (by have := hX.lt; omega)
  have HLB := Lib.hid hlb
  clear c0 c1 c2 c3 c4 hX hv1 hlb hB1
  have c0 := hX2.c0
  have c1 := hX2.c1
  have c2 := hX2.c2
  have c3 := hX2.c3
  have c4 := hX2.c4
  go_wp2_with (with_reducible refine h_A ?_)
  have hRe : ([UInt8.ofNat 149] ++ be 2 v.s.length) ++ v.s = R := by rw [HR.out]; simp [restB]
  have HRL : Hid (R.length = 1 + 2 + v.s.length) := Lib.hid (by rw [← hRe, List.length_append, List.length_append, be_length]; rfl)
  have hp := rnumber_any v.s.length 2 w2 (by omega) (by omega)
  refine hp.mono ?_
  rintro e w3 ⟨A3, c3', rfl, ho3, hB3⟩
  have hol := own_below hlit hB3
  have hs3 := hB3.size
  have hX3 := hX2.below hB3
  clear hp c0 c1 c2 c3 c4
  go_wp2_with (with_reducible refine h_A ?_)
  refine unhold (wp_app slB rfl rfl rfl rfl hol ho3.rd (map_one _) (by omega) (by unfold maxLen; omega) (by omega) ?_)
  intro A4 q4 w4 ho4 hg4 _
  have hBw := (hB.trans (hB3.mono hB.size)).grown hg4 (Nat.le_trans hB.size hs3) (fun g hg => by have h9 : some lb = some g := hg; injection h9 with h9; omega)
  have hX4 := hX3.grown hg4 (by intro e; have h9 : some xb = some lb := e; injection h9 with h9; exact HXB.out h9)
  have hs4' := hg4.size
  rw [← List.map_append] at ho4
  have c0 := hX4.c0
  have c1 := hX4.c1
  have c2 := hX4.c2
  have c3 := hX4.c3
  have c4 := hX4.c4
  go_wp2_with (with_reducible refine h_A ?_)
  refine unhold (wp_app_strW slB Tryz.underlying9 rfl rfl rfl rfl ho4 (by omega) (by omega) (by omega) ?_)
  intro A5 q5 w5 ho5 hg5
  have hBx := hBw.grown hg5 hBw.size (fun g hg => by have := (ho4.blk_lt hg).1; omega)
  rw [← List.map_append, hRe] at ho5
  clear hRe c0 c1 c2 c3 c4
  go_wp2_with (with_reducible refine h_A ?_)
  go_ret
  exact ⟨A5, q5, by rw [HRL.out]; rfl, by rw [HRL.out]; exact ho5.base_le hs1, hBx⟩
 ·subst hk
  generalize hkI : (((168 : Nat) : Int)) = k at *
  obtain rfl : k = 168 := by rw [← hkI]; rfl
  clear hkI
  have c0 := hX.c0
  have c1 := hX.c1
  have c2 := hX.c2
  have c3 := hX.c3
  have c4 := hX.c4
  go_enter Tryz.func97, Tryz.ntmps97
  go_upto_region 1 with fail
  rw [← hxb, ← hxv]
  clear hxb hxv
  go_upto_region 2 with fail
  have hX2 := hX.below hB2
  generalize (w1.alloc (.cells #[.int .u8 168] 5)) = w2 at *
  have hB := hB1.trans (hB2.mono hs1)
  have hv2 := hv1.up hB2
  have hs2 := hB2.size
  generalize hlb : w1.heap.size = lb at *
  have HXB : Hid (xb ≠ lb) := Lib.hid (by have := hX.lt; omega)
  have HLB := Lib.hid hlb
  clear c0 c1 c2 c3 c4 hX hv1 hlb hB1
  have c0 := hX2.c0
  have c1 := hX2.c1
  have c2 := hX2.c2
  have c3 := hX2.c3
  have c4 := hX2.c4
  go_wp2_with (with_reducible refine h_A ?_)
  have HR2 : Hid (R = [UInt8.ofNat 168] ++ be 4 INN.length ++ INN) := Lib.hid (by rw [HR.out]; simp [restB])
  have hINl : INN.length ≤ 100000000 := by have := hN; rw [HR2.out] at this; simp [List.length_append, be_length] at this; omega
  have hRl : R.length = 5 + INN.length := by rw [HR2.out]; simp [List.length_append, be_length]; omega
  have hel := fun {i : Nat} (hi : i < v.list.length) => hv2.elem hi
  have hky := fun {i : Nat} (hi : i < v.keys.length) => hv2.key hi
  simp only at hel hky
  obtain ⟨N, hNN⟩ : ∃ N, N = v.list.length := ⟨_, rfl⟩
  rw [← hNN] at hX2 hLb c0 c1 c2 c3 c4 ⊢
  have HN := Lib.hid hNN
  have HIT : Hid (be 4 N ++ manyB true v.keys v.list = INN) := Lib.hid (by rw [HIN.out, innB, HKD.out, hNN]; rfl)
  obtain ⟨hKL, hko⟩ := (by first | exact HMK.out rfl | exact HMK.out trivial : v.keys.length = v.list.length ∧ _ = true)
  rw [← hNN] at hKL
  have HKLN := Lib.hid hKL
  have HKO := Lib.hid hko
  clear hKL hko
  have HRL := Lib.hid hRl
  have hp := rnumber_any N 4 w2 (by omega) (by omega)
  have hP4 : (be 4 N).length = 4 := be_length 4 N
  generalize be 4 N = P0 at *
  have hlw2 : lb < w2.heap.size := (hlit.blk_lt (g := lb) rfl).2
  clear hNN hRl hv2 hkb hs4 hN hs2 hk256
  refine hp.mono ?_
  rintro e w4 ⟨A4, c4', rfl, ho4, hB4⟩
  have hX4 := hX2.below hB4
  have ho4' : OwnB w4 w2.heap.size A4 4 c4' P0 := ho4
  clear hp c0 c1 c2 c3 c4 ho4 hP4
  have c0 := hX4.c0
  have c1 := hX4.c1
  have c2 := hX4.c2
  have c3 := hX4.c3
  have c4 := hX4.c4
  go_wp2_with (with_reducible refine h_A ?_)
  clear c0 c1 c2 c3 c4 hX4
  go_loopw [4, 5] (fun s4 s5 wr => ∃ (i ni ci : Nat) (Ai : Option Addr) (li : List UInt8), i ≤ N ∧ s4 = .slice Ai ni ci ∧ s5 = .int .i64 i ∧ OwnB wr w2.heap.size Ai ni ci li ∧ Below w2.heap.size w2 wr ∧ Hid (li ++ manyB true (v.keys.drop i) (v.list.drop i) = INN)) (fun _ s5 _ => N - (RowKit.intOf s5).toNat)
  case atStart => exact ⟨0, 4, c4', A4, P0, by omega, rfl, rfl, ho4', hB4, Lib.hid HIT.out⟩
  case round =>
   clear ho4' hB4
   obtain ⟨i, ni, ci, Ai, li, hi, rfl, rfl, hoI, hBr, HC⟩ := hrel
   have hX4 := hX2.below hBr
   have hlen : ni ≤ INN.length := by have := RdB.length hoI.rd; rw [← HC.out, List.length_append]; omega
   have hszr := hBr.size
   have c0 := hX4.c0
   have c1 := hX4.c1
   have c2 := hX4.c2
   have c3 := hX4.c3
   have c4 := hX4.c4
   by_cases hlt : i < N
   ·have g1 : (i : Int) < (N : Int) := by omega
    have hil : i < v.list.length := by rw [← HN.out]; exact hlt
    obtain ⟨b, off, hx, rfl, hvx, HXE⟩ := hel hil
    have hmx : mayV utf8B v.list[i] = true := List.all_eq_true.1 HAL.out _ (List.getElem_mem hil)
    have hrec := IH.out _ (List.getElem_mem hil) hx
    have hik : i < v.keys.length := by rw [HKLN.out]; exact hlt
    obtain ⟨bk, offk, rfl, HXK⟩ := hky hik
    have HD : Hid (manyB true (v.keys.drop i) (v.list.drop i) = ((be 1 v.keys[i].length ++ v.keys[i]) ++ vlB v.list[i]) ++ manyB true (v.keys.drop (i + 1)) (v.list.drop (i + 1))) := Lib.hid (manyB_map hil hik)
    have hkl : v.keys[i].length ≤ 255 := by
     have h1 := HKO.out
     rw [keysOk_eq, Bool.and_eq_true, List.all_eq_true] at h1
     have h2 := h1.1 _ (List.getElem_mem hik)
     unfold keyOk at h2
     simp only [Bool.and_eq_true, decide_eq_true_eq] at h2
     exact h2.1.2
    have y0 := HXK wr hBr
    clear hel hky
    generalize v.list[i] = x at *
    generalize v.keys[i] = ky at *
    have hss := str_size ky
    have HC2 : Hid ((((li ++ [UInt8.ofNat ky.length]) ++ ky) ++ vlB x) ++ manyB true (v.keys.drop (i + 1)) (v.list.drop (i + 1)) = INN) := Lib.hid (by rw [← HC.out, HD.out]; simp [be])
    have hvl : ni + 1 + ky.length + (vlB x).length ≤ INN.length := by have := RdB.length hoI.rd; rw [← HC2.out]; simp [List.length_append]; omega
    have hku2 : Value.int .u8 (ky.length : Int) = u8v (UInt8.ofNat ky.length) := by rw [u8v_eq, UInt8.toNat_ofNat']; congr 1; omega
    have hnew := rd_new (size := 1) wr #[.int .u8 (ky.length : Int)] 5 (0, 0) 1 1 rfl (by omega) (by simp [maxLen])
    have hBa := (Below.refl wr.heap.size wr).alloc (Nat.le_refl _) (.cells #[.int .u8 (ky.length : Int)] 5)
    have e8 : li.map u8v ++ #[Value.int .u8 (ky.length : Int)].toList = (li ++ [UInt8.ofNat ky.length]).map u8v := by simp [hku2]
    have hoIa := own_below hoI hBa
    have hXa := hX4.below hBa
    have hBra := hBr.trans (hBa.mono hszr)
    have hsza := hBa.size
    clear hku2
    go_wp2_with (with_reducible refine h_A ?_)
    refine unhold (wp_app slB rfl rfl rfl rfl hoIa hnew (by intro u hu; simp at hu; subst hu; rfl) (by omega) (by unfold maxLen; omega) (by omega) ?_)
    intro A3 q3 w3 ho3 hg3 _
    have hBr3 := hBra.grown hg3 hBra.size (fun g hg => by have := (hoIa.blk_lt hg).1; omega)
    have hX3 := hXa.grown hg3 (by intro e; have := (hoIa.blk_lt e.symm).1; have := hX2.lt; omega)
    have y0 := HXK w3 hBr3
    have hsz3 := hBr3.size
    rw [e8] at ho3
    clear e8 hoIa hnew hBa hXa hX4 c0 c1 c2 c3 c4 hg3 hoI
    have c0 := hX3.c0
    have c1 := hX3.c1
    have c2 := hX3.c2
    have c3 := hX3.c3
    have c4 := hX3.c4
    go_wp2_with (with_reducible refine h_A ?_)
    refine unhold (wp_app_strW slB Tryz.underlying9 rfl rfl rfl rfl ho3 (by omega) (by omega) (by omega) ?_)
    intro A4 q4 w4 ho4 hg4
    have hBr4 := hBr3.grown hg4 hBr3.size (fun g hg => by have := (ho3.blk_lt hg).1; omega)
    have hX4 := hX3.grown hg4 (by intro e; have := (ho3.blk_lt e.symm).1; have := hX2.lt; omega)
    have hsz4 := hBr4.size
    rw [← List.map_append] at ho4
    obtain ⟨k0, k1, k2, k3, k4⟩ := HXE w4 hBr4
    have hrec := hrec w4 (hvx.up hBr4) hmx (by omega)
    unfold VByte vlV at hrec
    generalize vlB x = B at *
    clear y0 hX3 hg4 ho3 c0 c1 c2 c3 c4 HXE hvx HXK
    have c0 := hX4.c0
    have c1 := hX4.c1
    have c2 := hX4.c2
    have c3 := hX4.c3
    have c4 := hX4.c4
    go_wp2_with (with_reducible refine h_A ?_)
    refine hrec.mono ?_
    rintro e w5 ⟨A5, c5, rfl, ho5, hB5⟩
    have hoI5 := own_below ho4 hB5
    have hBr5 := hBr4.trans (hB5.mono hsz4)
    have hsz5 := hB5.size
    clear hrec k0 k1 k2 k3 k4 c0 c1 c2 c3 c4 hX4 ho4
    go_wp2_with (with_reducible refine h_A ?_)
    refine unhold (wp_app slB rfl rfl rfl rfl hoI5 ho5.rd (map_one _) (by omega) (by unfold maxLen; omega) (by omega) ?_)
    intro A6 c6 w6 ho6 hg6 _
    have hBr6 := hBr5.grown hg6 hBr5.size (fun g hg => by have := (hoI5.blk_lt hg).1; omega)
    rw [← List.map_append] at ho6
    go_wp2_with (with_reducible refine h_A ?_)
    exact ⟨⟨i + 1, ni + 1 + ky.length + B.length, c6, A6, ((li ++ [UInt8.ofNat ky.length]) ++ ky) ++ B, by omega, rfl, by go_num, ho6, hBr6, HC2⟩, by simp [RowKit.intOf]; omega⟩
   ·have g1 : ¬ (i : Int) < (N : Int) := by omega
    have hle : li = INN := by
     have h := HC.out
     rw [List.drop_eq_nil_of_le (show v.list.length ≤ i by rw [← HN.out]; omega), manyB_nil, List.append_nil] at h
     exact h
    subst hle
    have hln : li.length = ni := RdB.length hoI.rd
    have hp := rnumber_any ni 4 wr (by omega) (by omega)
    have HB9 := hB.trans (hBr.mono hB.size)
    have hol := own_below hlit hBr
    have HRM : Hid (R = ([UInt8.ofNat 168] ++ be 4 ni) ++ li) := Lib.hid (by rw [HR2.out, hln])
    have HR5 : Hid (R.length = 1 + 4 + ni) := Lib.hid (by rw [HRL.out, hln])
    clear hel hky hln
    go_wp2_with (with_reducible refine h_A ?_)
    refine hp.mono ?_
    rintro e w8 ⟨A8, c8, rfl, ho8, hB8⟩
    have hoI8 := own_below hoI hB8
    have hol8 := own_below hol hB8
    have hsz8 := hB8.size
    have hB98 := HB9.trans (hB8.mono (by omega))
    clear hp c0 c1 c2 c3 c4 hX4 hoI hol
    go_wp2_with (with_reducible refine h_A ?_)
    refine unhold (wp_app slB rfl rfl rfl rfl hol8 ho8.rd (map_one _) (by omega) (by unfold maxLen; omega) (by omega) ?_)
    intro A9 c9 w9 ho9 hg9 _
    have hBx := hB98.grown hg9 hB98.size (fun g hg => by have h9 : some lb = some g := hg; injection h9 with h9; omega)
    have hoI9 := own_stays hoI8 hg9 (fun g hg e => by have h9 : some lb = some g := e; injection h9 with h9; have := (hoI8.blk_lt hg).1; omega)
    have hsz9 := hg9.size
    rw [← List.map_append] at ho9
    clear hoI8 hol8 hg9
    go_wp2_with (with_reducible refine h_A ?_)
    refine unhold (wp_app slB rfl rfl rfl rfl ho9 hoI9.rd (map_one _) (by omega) (by unfold maxLen; omega) (by omega) ?_)
    intro A10 c10 w10 ho10 hg10 _
    have hBy := hBx.grown hg10 hBx.size (fun g hg => by have := (ho9.blk_lt hg).1; omega)
    rw [← List.map_append, ← HRM.out] at ho10
    go_wp2_with (with_reducible refine h_A ?_)
    go_ret
    exact ⟨A10, c10, by rw [HR5.out]; rfl, by rw [HR5.out]; exact ho10.base_le hs1, hBy⟩
 ·subst hk
  generalize hkI : (((169 : Nat) : Int)) = k at *
  obtain rfl : k = 169 := by rw [← hkI]; rfl
  clear hkI
  have c0 := hX.c0
  have c1 := hX.c1
  have c2 := hX.c2
  have c3 := hX.c3
  have c4 := hX.c4
  go_enter Tryz.func97, Tryz.ntmps97
  go_upto_region 1 with fail
  rw [← hxb, ← hxv]
  clear hxb hxv
  go_upto_region 2 with fail
  have hX2 := hX.below hB2
  generalize (w1.alloc (.cells #[.int .u8 169] 5)) = w2 at *
  have hB := hB1.trans (hB2.mono hs1)
  have hv2 := hv1.up hB2
  have hs2 := hB2.size
  generalize hlb : w1.heap.size = lb at *
  have HXB : Hid (xb ≠ lb) := Lib.hid (by have := hX.lt; omega)
  have HLB := Lib.hid hlb
  clear c0 c1 c2 c3 c4 hX hv1 hlb hB1
  have c0 := hX2.c0
  have c1 := hX2.c1
  have c2 := hX2.c2
  have c3 := hX2.c3
  have c4 := hX2.c4
  go_wp2_with (with_reducible refine h_A ?_)
  have HR2 : Hid (R = [UInt8.ofNat 169] ++ be 4 INN.length ++ INN) := Lib.hid (by rw [HR.out]; simp [restB])
  have hINl : INN.length ≤ 100000000 := by have := hN; rw [HR2.out] at this; simp [List.length_append, be_length] at this; omega
  have hRl : R.length = 5 + INN.length := by rw [HR2.out]; simp [List.length_append, be_length]; omega
  have hel := fun {i : Nat} (hi : i < v.list.length) => hv2.elem hi
  have hky := fun {i : Nat} (hi : i < v.keys.length) => hv2.key hi
  simp only at hel hky
  obtain ⟨N, hNN⟩ : ∃ N, N = v.list.length := ⟨_, rfl⟩
  rw [← hNN] at hX2 hLb c0 c1 c2 c3 c4 ⊢
  have HN := Lib.hid hNN
  have HIT : Hid (be 4 N ++ manyB false v.keys v.list = INN) := Lib.hid (by rw [HIN.out, innB, HKD.out, hNN]; rfl)
  have HRL := Lib.hid hRl
  have hp := rnumber_any N 4 w2 (by omega) (by omega)
  have hP4 : (be 4 N).length = 4 := be_length 4 N
  generalize be 4 N = P0 at *
  have hlw2 : lb < w2.heap.size := (hlit.blk_lt (g := lb) rfl).2
  clear hNN hRl hv2 hkb hs4 hN hs2 hk256
  refine hp.mono ?_
  rintro e w4 ⟨A4, c4', rfl, ho4, hB4⟩
  have hX4 := hX2.below hB4
  have ho4' : OwnB w4 w2.heap.size A4 4 c4' P0 := ho4
  clear hp c0 c1 c2 c3 c4 ho4 hP4
  have c0 := hX4.c0
  have c1 := hX4.c1
  have c2 := hX4.c2
  have c3 := hX4.c3
  have c4 := hX4.c4
  go_wp2_with (with_reducible refine h_A ?_)
  clear c0 c1 c2 c3 c4 hX4
  go_loopw [4, 5] (fun s4 s5 wr => ∃ (i ni ci : Nat) (Ai : Option Addr) (li : List UInt8), i ≤ N ∧ s4 = .slice Ai ni ci ∧ s5 = .int .i64 i ∧ OwnB wr w2.heap.size Ai ni ci li ∧ Below w2.heap.size w2 wr ∧ Hid (li ++ manyB false (v.keys.drop i) (v.list.drop i) = INN)) (fun _ s5 _ => N - (RowKit.intOf s5).toNat)
  case atStart => exact ⟨0, 4, c4', A4, P0, by omega, rfl, rfl, ho4', hB4, Lib.hid HIT.out⟩
  case round =>
   clear ho4' hB4
   obtain ⟨i, ni, ci, Ai, li, hi, rfl, rfl, hoI, hBr, HC⟩ := hrel
   have hX4 := hX2.below hBr
   have hlen : ni ≤ INN.length := by have := RdB.length hoI.rd; rw [← HC.out, List.length_append]; omega
   have hszr := hBr.size
   have c0 := hX4.c0
   have c1 := hX4.c1
   have c2 := hX4.c2
   have c3 := hX4.c3
   have c4 := hX4.c4
   by_cases hlt : i < N
   ·have g1 : (i : Int) < (N : Int) := by omega
    have hil : i < v.list.length := by rw [← HN.out]; exact hlt
    obtain ⟨b, off, hx, rfl, hvx, HXE⟩ := hel hil
    have hmx : mayV utf8B v.list[i] = true := List.all_eq_true.1 HAL.out _ (List.getElem_mem hil)
    have hrec := IH.out _ (List.getElem_mem hil) hx
    obtain ⟨k0, k1, k2, k3, k4⟩ := HXE wr hBr
    have hrec := hrec wr (hvx.up hBr) hmx
    have HD : Hid (manyB false (v.keys.drop i) (v.list.drop i) = vlB v.list[i] ++ manyB false (v.keys.drop (i + 1)) (v.list.drop (i + 1))) := Lib.hid (manyB_list hil _ _)
    clear HXE hel hky hvx
    generalize v.list[i] = x at *
    have HC2 : Hid ((li ++ vlB x) ++ manyB false (v.keys.drop (i + 1)) (v.list.drop (i + 1)) = INN) := Lib.hid (by rw [← HC.out, HD.out, List.append_assoc])
    have hvl : ni + (vlB x).length ≤ INN.length := by have := RdB.length hoI.rd; rw [← HC2.out]; simp [List.length_append]; omega
    have hrec := hrec (by omega)
    unfold VByte vlV at hrec
    generalize vlB x = B at *
    go_wp2_with (with_reducible refine h_A ?_)
    refine hrec.mono ?_
    rintro e w5 ⟨A5, c5, rfl, ho5, hB5⟩
    have hoI5 := own_below hoI hB5
    have hBr5 := hBr.trans (hB5.mono hszr)
    have hsz5 := hB5.size
    clear hrec k0 k1 k2 k3 k4 c0 c1 c2 c3 c4 hX4 hoI
    go_wp2_with (with_reducible refine h_A ?_)
    refine unhold (wp_app slB rfl rfl rfl rfl hoI5 ho5.rd (map_one _) (by omega) (by unfold maxLen; omega) (by omega) ?_)
    intro A6 c6 w6 ho6 hg6 _
    have hBr6 := hBr5.grown hg6 hBr5.size (fun g hg => by have := (hoI5.blk_lt hg).1; omega)
    rw [← List.map_append] at ho6
    go_wp2_with (with_reducible refine h_A ?_)
    exact ⟨⟨i + 1, ni + B.length, c6, A6, li ++ B, by omega, rfl, by go_num, ho6, hBr6, HC2⟩, by simp [RowKit.intOf]; omega⟩
   ·have g1 : ¬ (i : Int) < (N : Int) := by omega
    have hle : li = INN := by
     have h := HC.out
     rw [List.drop_eq_nil_of_le (show v.list.length ≤ i by rw [← HN.out]; omega), manyB_nil, List.append_nil] at h
     exact h
    subst hle
    have hln : li.length = ni := RdB.length hoI.rd
    have hp := rnumber_any ni 4 wr (by omega) (by omega)
    have HB9 := hB.trans (hBr.mono hB.size)
    have hol := own_below hlit hBr
    have HRM : Hid (R = ([UInt8.ofNat 169] ++ be 4 ni) ++ li) := Lib.hid (by rw [HR2.out, hln])
    have HR5 : Hid (R.length = 1 + 4 + ni) := Lib.hid (by rw [HRL.out, hln])
    clear hel hky hln
    go_wp2_with (with_reducible refine h_A ?_)
    refine hp.mono ?_
    rintro e w8 ⟨A8, c8, rfl, ho8, hB8⟩
    have hoI8 := own_below hoI hB8
    have hol8 := own_below hol hB8
    have hsz8 := hB8.size
    have hB98 := HB9.trans (hB8.mono (by omega))
    clear hp c0 c1 c2 c3 c4 hX4 hoI hol
    go_wp2_with (with_reducible refine h_A ?_)
    refine unhold (wp_app slB rfl rfl rfl rfl hol8 ho8.rd (map_one _) (by omega) (by unfold maxLen; omega) (by omega) ?_)
    intro A9 c9 w9 ho9 hg9 _
    have hBx := hB98.grown hg9 hB98.size (fun g hg => by have h9 : some lb = some g := hg; injection h9 with h9; omega)
    have hoI9 := own_stays hoI8 hg9 (fun g hg e => by have h9 : some lb = some g := e; injection h9 with h9; have := (hoI8.blk_lt hg).1; omega)
    have hsz9 := hg9.size
    rw [← List.map_append] at ho9
    clear hoI8 hol8 hg9
    go_wp2_with (with_reducible refine h_A ?_)
    refine unhold (wp_app slB rfl rfl rfl rfl ho9 hoI9.rd (map_one _) (by omega) (by unfold maxLen; omega) (by omega) ?_)
    intro A10 c10 w10 ho10 hg10 _
    have hBy := hBx.grown hg10 hBx.size (fun g hg => by have := (ho9.blk_lt hg).1; omega)
    rw [← List.map_append, ← HRM.out] at ho10
    go_wp2_with (with_reducible refine h_A ?_)
    go_ret
    exact ⟨A10, c10, by rw [HR5.out]; rfl, by rw [HR5.out]; exact ho10.base_le hs1, hBy⟩
theorem vbyte_any (v : Vl) : VByteC v := Vl.ind (P := VByteC) vbyte_step v
end Go.PH
end
section
/- Values and arguments that may be are told by their bytes: plain mathematics. -/
namespace Go.PH

theorem be_part {i n m : Nat} {R S : List UInt8} (h : be i n ++ R = be i m ++ S) : be i n = be i m ∧ R = S := List.append_inj h (by rw [be_length, be_length])
theorem be_cut {i n m : Nat} {R S : List UInt8} (hn : n < 256 ^ i) (hm : m < 256 ^ i) (h : be i n ++ R = be i m ++ S) : n = m ∧ R = S := by
 obtain ⟨h1, h2⟩ := be_part h
 have h3 := congrArg unbe h1
 rw [unbe_be, unbe_be, Nat.mod_eq_of_lt hn, Nat.mod_eq_of_lt hm] at h3
 exact ⟨h3, h2⟩
theorem text_cut {i : Nat} {s t R S : List UInt8} (hs : s.length < 256 ^ i) (ht : t.length < 256 ^ i) (h : (be i s.length ++ s) ++ R = (be i t.length ++ t) ++ S) : s = t ∧ R = S := by
 rw [List.append_assoc, List.append_assoc] at h
 obtain ⟨h1, h2⟩ := be_cut hs ht h
 exact List.append_inj h2 h1
theorem mayF_full {k n sl KL LL : Nat} {ko pl al : Bool} (h : mayF k n sl KL LL ko pl al = true) :
  (k ≠ 168 → KL = 0) ∧ (k ≠ 168 → k ≠ 169 → LL = 0) ∧ (k ≠ 149 → k ≠ 160 → sl = 0) ∧ (k = 8 → n ≤ 1) ∧ (k = 2 → n ≤ 255) ∧ (k ≠ 8 → k ≠ 2 → k ≠ 49 → k ≠ 50 → n = 0) := by
 unfold mayF at h
 simp only [Bool.and_eq_true, Bool.or_eq_true, decide_eq_true_eq] at h
 obtain ⟨⟨⟨⟨⟨h1, h2⟩, h3⟩, h4⟩, h5⟩, h6⟩ := h
 refine ⟨fun h => by omega, fun h h' => by omega, fun h h' => by omega, fun h => ?_, fun h => ?_, fun e1 e2 e3 e4 => ?_⟩
 ·subst h; simpa using h5
 ·subst h; simpa using h5
 ·rw [if_neg e1, if_neg e2, if_neg (by omega)] at h5
  repeat' split at h5
  all_goals simp at h5
  all_goals first | exact h5 | exact h5.2
/-- numbers of a value lie within their kinds -/
inductive VB : Vl → Prop
 | mk {v : Vl} (hk : v.kind < 256) (hn : v.n < 18446744073709551616) (hl : ∀ x ∈ v.list, VB x) : VB v
theorem VB.parts {v : Vl} (h : VB v) : v.kind < 256 ∧ v.n < 18446744073709551616 ∧ ∀ x ∈ v.list, VB x := by
 cases h with
 | mk a b c => exact ⟨a, b, c⟩
theorem RV.vb {w : World} {F : Nat → Prop} {v : Vl} {h : VH} (hv : RV w F v h) : VB v := by
 induction hv with
 | mk xs a1 a2 a3 a4 a5 a6 a7 a8 a9 _ ih =>
  refine ⟨a1, a2, fun x hx => ?_⟩
  rw [← a9] at hx
  obtain ⟨p, hp, rfl⟩ := List.mem_map.1 hx
  exact ih p hp
/-- there are at most two hundred values in it -/
def VC (v : Vl) : Prop := ∃ q : Int, q ≤ 200 ∧ 0 ≤ cntV v q
theorem cntL_lenV : ∀ (l : List Vl) (q : Int), 0 ≤ cntL l q → (l.length : Int) ≤ q ∧ ∀ x ∈ l, ∃ p : Int, p ≤ q ∧ 0 ≤ cntV x p
 | [], q, h => by rw [cntL] at h; exact ⟨by simpa using h, fun x hx => by cases hx⟩
 | y :: l, q, h => by
  by_cases h0 : q < 0
  ·rw [cntL_neg _ h0] at h; omega
  rw [cntL_pos _ _ h0] at h
  obtain ⟨h1, h2⟩ := cntL_lenV l (cntV y q) h
  have h3 := cntV_le y q
  have h4 := cntL_le l (cntV y q)
  refine ⟨by simp; omega, fun x hx => ?_⟩
  rcases List.mem_cons.1 hx with rfl | hx
  ·exact ⟨q, Int.le_refl _, by omega⟩
  ·obtain ⟨p, hp, hp2⟩ := h2 x hx
   exact ⟨p, by omega, hp2⟩
theorem VC.parts {v : Vl} (h : VC v) : v.list.length ≤ 200 ∧ ∀ x ∈ v.list, VC x := by
 obtain ⟨q, hq, h0⟩ := h
 rw [cntV_eq] at h0
 obtain ⟨h1, h2⟩ := cntL_lenV _ _ h0
 exact ⟨by omega, fun x hx => by obtain ⟨p, hp, hp2⟩ := h2 x hx; exact ⟨p, by omega, hp2⟩⟩
def Cut (v : Vl) : Prop := ∀ (u : Vl) (R S : List UInt8), mayV utf8B u = true → VB u → VC u → vlB v ++ R = vlB u ++ S → v = u ∧ R = S
theorem many_cut (m : Bool) (l : List Vl) (hc : ∀ x ∈ l, Cut x) : ∀ (l' : List Vl) (ks ks' : List (List UInt8)) (R S : List UInt8), l.length = l'.length → (m = true → ks.length = l.length ∧ ks'.length = l'.length) → (m = true → (∀ k ∈ ks, k.length ≤ 255) ∧ ∀ k ∈ ks', k.length ≤ 255) →
  (∀ y ∈ l', mayV utf8B y = true ∧ VB y ∧ VC y) → manyB m ks l ++ R = manyB m ks' l' ++ S → (m = true → ks = ks') ∧ l = l' ∧ R = S := by
 induction l with
 | nil =>
  intro l' ks ks' R S hl hks hk hy h
  obtain rfl : l' = [] := List.length_eq_zero_iff.1 hl.symm
  rw [manyB_nil, manyB_nil] at h
  refine ⟨fun e => ?_, rfl, h⟩
  obtain ⟨h1, h2⟩ := hks e
  rw [List.length_eq_zero_iff.1 h1, List.length_eq_zero_iff.1 h2]
 | cons x l ih =>
  intro l' ks ks' R S hl hks hk hy h
  cases l' with
  | nil => simp at hl
  | cons y l' =>
   rw [manyB_cons, manyB_cons] at h
   have hyy := hy y (List.mem_cons_self ..)
   have go : ∀ (R' S' : List UInt8), (vlB x ++ manyB m ks.tail l) ++ R' = (vlB y ++ manyB m ks'.tail l') ++ S' → x = y ∧ (m = true → ks.tail = ks'.tail) ∧ l = l' ∧ R' = S' := by
    intro R' S' h'
    rw [List.append_assoc, List.append_assoc] at h'
    obtain ⟨e1, h2⟩ := hc x (List.mem_cons_self ..) y _ _ hyy.1 hyy.2.1 hyy.2.2 h'
    obtain ⟨e2, e3, e4⟩ := ih (fun z hz => hc z (List.mem_cons_of_mem _ hz)) l' ks.tail ks'.tail R' S' (by simpa using hl) (fun e => by obtain ⟨a, b⟩ := hks e; simp at a b ⊢; omega)
     (fun e => ⟨fun k hm => (hk e).1 k (List.mem_of_mem_tail hm), fun k hm => (hk e).2 k (List.mem_of_mem_tail hm)⟩) (fun z hz => hy z (List.mem_cons_of_mem _ hz)) h2
    exact ⟨e1, e2, e3, e4⟩
   cases m
   ·simp only [Bool.false_eq_true, if_false, List.nil_append] at h
    obtain ⟨e1, _, e3, e4⟩ := go R S h
    exact ⟨fun e => (by cases e), by rw [e1, e3], e4⟩
   ·obtain ⟨n1, n2⟩ := hks rfl
    obtain ⟨k1, k2⟩ := hk rfl
    cases ks with
    | nil => simp at n1
    | cons k ks =>
     cases ks' with
     | nil => simp at n2
     | cons k' ks' =>
      simp only [if_true, List.headD_cons, List.append_assoc] at h
      have hk1 := k1 k (List.mem_cons_self ..)
      have hk2 := k2 k' (List.mem_cons_self ..)
      obtain ⟨e0, h1⟩ := text_cut (i := 1) (s := k) (t := k') (R := vlB x ++ (manyB true ks l ++ R)) (S := vlB y ++ (manyB true ks' l' ++ S)) (by omega) (by omega) (by simpa [List.append_assoc] using h)
      obtain ⟨e1, e2, e3, e4⟩ := go R S (by simpa [List.append_assoc] using h1)
      refine ⟨fun _ => ?_, by rw [e1, e3], e4⟩
      have := e2 rfl
      simp at this
      rw [e0, this]
theorem vl_ext {v u : Vl} (h1 : v.kind = u.kind) (h2 : v.n = u.n) (h3 : v.s = u.s) (h4 : v.keys = u.keys) (h5 : v.list = u.list) : v = u := by rw [v.eta, u.eta, h1, h2, h3, h4, h5]
theorem nil_of {α : Type} {l : List α} (h : l.length = 0) : l = [] := List.length_eq_zero_iff.1 h
theorem keys_255 {v : Vl} (h : keysOk v.keys utf8B = true) : ∀ k ∈ v.keys, k.length ≤ 255 := fun k hk' => by
 rw [keysOk_eq, Bool.and_eq_true, List.all_eq_true] at h
 have h2 := h.1 _ hk'
 unfold keyOk at h2
 simp only [Bool.and_eq_true, decide_eq_true_eq] at h2
 exact h2.1.2
theorem vlB_cut (v : Vl) : mayV utf8B v = true → VB v → VC v → Cut v := by
 refine Vl.ind (P := fun v => mayV utf8B v = true → VB v → VC v → Cut v) ?_ v
 intro v ih hm hb hc u R S hm' hb' hc' h
 rw [mayV_eq] at hm hm'
 obtain ⟨k1, s1, m1, a1⟩ := mayF_parts hm
 obtain ⟨_, s2, m2, a2⟩ := mayF_parts hm'
 obtain ⟨p1, p2, p3, p4, p5, p6⟩ := mayF_full hm
 obtain ⟨q1, q2, q3, q4, q5, q6⟩ := mayF_full hm'
 obtain ⟨b1, b2, b3⟩ := hb.parts
 obtain ⟨d1, d2, d3⟩ := hb'.parts
 obtain ⟨c1, c2⟩ := hc.parts
 obtain ⟨f1, f2⟩ := hc'.parts
 clear hm hm' hb hb' hc hc'
 rw [vlB_eq, vlB_eq, List.cons_append, List.cons_append, List.cons.injEq] at h
 obtain ⟨hk, h⟩ := h
 have hkk : v.kind = u.kind := by
  have := congrArg UInt8.toNat hk
  simp only [UInt8.toNat_ofNat'] at this
  omega
 rw [hkk] at k1 m1 p1 p2 p3 p4 p5 p6 h
 have hmany : ∀ m : Bool, m = decide (u.kind = 168) → (u.kind = 168 ∨ u.kind = 169) → innB v ++ R = innB u ++ S → v = u ∧ R = S := by
  intro m hmm hk2 hin
  unfold innB at hin
  rw [hkk, ← hmm, List.append_assoc, List.append_assoc] at hin
  obtain ⟨e1, h2⟩ := be_cut (i := 4) (by omega) (by omega) hin
  obtain ⟨e2, e3, e4⟩ := many_cut m v.list (fun x hx => ih x hx (List.all_eq_true.1 a1 x hx) (b3 x hx) (c2 x hx)) u.list v.keys u.keys R S e1
   (fun e => by rw [hmm] at e; have := of_decide_eq_true e; exact ⟨(m1 this).1, (m2 this).1⟩)
   (fun e => by rw [hmm] at e; have := of_decide_eq_true e; exact ⟨keys_255 (m1 this).2, keys_255 (m2 this).2⟩)
   (fun y hy => ⟨List.all_eq_true.1 a2 y hy, d3 y hy, f2 y hy⟩) h2
  refine ⟨vl_ext hkk ?_ ?_ ?_ e3, e4⟩
  ·rw [p6 (by omega) (by omega) (by omega) (by omega), q6 (by omega) (by omega) (by omega) (by omega)]
  ·rw [nil_of (p3 (by omega) (by omega)), nil_of (q3 (by omega) (by omega))]
  ·by_cases e : u.kind = 168
   ·exact e2 (by rw [hmm, decide_eq_true e])
   ·rw [nil_of (p1 e), nil_of (q1 e)]
 have hnum : ∀ i : Nat, v.n < 256 ^ i → u.n < 256 ^ i → u.kind ≠ 168 → u.kind ≠ 169 → u.kind ≠ 149 → u.kind ≠ 160 → be i v.n ++ R = be i u.n ++ S → v = u ∧ R = S := by
  intro i g1 g2 e1 e2 e3 e4 h2
  obtain ⟨h3, h4⟩ := be_cut g1 g2 h2
  exact ⟨vl_ext hkk h3 (by rw [nil_of (p3 e3 e4), nil_of (q3 e3 e4)]) (by rw [nil_of (p1 e1), nil_of (q1 e1)]) (by rw [nil_of (p2 e1 e2), nil_of (q2 e1 e2)]), h4⟩
 have htxt : ∀ i : Nat, v.s.length < 256 ^ i → u.s.length < 256 ^ i → u.kind ≠ 168 → u.kind ≠ 169 → (u.kind = 149 ∨ u.kind = 160) → (be i v.s.length ++ v.s) ++ R = (be i u.s.length ++ u.s) ++ S → v = u ∧ R = S := by
  intro i g1 g2 e1 e2 e3 h2
  obtain ⟨h3, h4⟩ := text_cut g1 g2 h2
  exact ⟨vl_ext hkk (by rw [p6 (by omega) (by omega) (by omega) (by omega), q6 (by omega) (by omega) (by omega) (by omega)]) h3 (by rw [nil_of (p1 e1), nil_of (q1 e1)]) (by rw [nil_of (p2 e1 e2), nil_of (q2 e1 e2)]), h4⟩
 rcases k1 with e | e | e | e | e | e | e | e | e
 ·refine hnum 1 (by have := p4 e; omega) (by have := q4 e; omega) (by omega) (by omega) (by omega) (by omega) ?_
  unfold restB at h; rw [e] at h; simpa using h
 ·refine hnum 1 (by have := p5 e; omega) (by have := q5 e; omega) (by omega) (by omega) (by omega) (by omega) ?_
  unfold restB at h; rw [e] at h; simpa using h
 ·refine hnum 8 (by omega) (by omega) (by omega) (by omega) (by omega) (by omega) ?_
  unfold restB at h; rw [e] at h; simpa using h
 ·refine hnum 8 (by omega) (by omega) (by omega) (by omega) (by omega) (by omega) ?_
  unfold restB at h; rw [e] at h; simpa using h
 ·refine hnum 0 (by rw [p6 (by omega) (by omega) (by omega) (by omega)]; decide) (by rw [q6 (by omega) (by omega) (by omega) (by omega)]; decide) (by omega) (by omega) (by omega) (by omega) ?_
  unfold restB at h; rw [e] at h; simpa [be] using h
 ·refine htxt 4 (by omega) (by omega) (by omega) (by omega) (by omega) ?_
  unfold restB at h; rw [e] at h; simpa [List.append_assoc] using h
 ·refine htxt 2 (by omega) (by omega) (by omega) (by omega) (by omega) ?_
  unfold restB at h; rw [e] at h; simpa [List.append_assoc] using h
 ·refine hmany true (by rw [e]; rfl) (by omega) ?_
  unfold restB at h; rw [e] at h
  simp only [List.append_assoc] at h
  exact (be_part (i := 4) (by simpa using h)).2
 ·refine hmany false (by rw [e]; rfl) (by omega) ?_
  unfold restB at h; rw [e] at h
  simp only [List.append_assoc] at h
  exact (be_part (i := 4) (by simpa using h)).2
end Go.PH
end

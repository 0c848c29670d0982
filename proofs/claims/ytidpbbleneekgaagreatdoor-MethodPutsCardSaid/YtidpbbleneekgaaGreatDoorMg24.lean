/- Texts laid together: VlBytesR, VlPutR. -/
import Derived.Test.YtidpbbleneekgaaGreatDoorMg01
import Derived.Test.YtidpbbleneekgaaGreatDoorMg02
import Derived.Test.YtidpbbleneekgaaGreatDoorMg05
import Derived.Test.YtidpbbleneekgaaGreatDoorMg17
import Derived.Test.YtidpbbleneekgaaGreatDoorMg23
section
/- A value's bytes: the walk of the document's program. -/
set_option linter.all false
set_option linter.unusedSimpArgs false
set_option linter.unusedVariables false
namespace Go.PH
open Go.RowKit Go.Proofs

def VByte (w : World) (R : List UInt8) (e : Ending) (w' : World) : Prop := ∃ A2 c2, e = .returned (.slice A2 R.length c2) ∧ OwnB w' w.heap.size A2 R.length c2 R ∧ Below w.heap.size w w'
def VByteC (v : Vl) : Prop := ∀ (h : VH) (w : World), RVw w v h → mayV utf8B v = true → (vlB v).length ≤ 100000000 → Calls Tryz.prog 97 #[.agg (vlV v h)] w (VByte w (vlB v))
set_option maxRecDepth 20000 in
set_option maxHeartbeats 4000000 in
theorem vbyte_step (v : Vl) (ih : ∀ x ∈ v.list, VByteC x) : VByteC v := by
  intro h w hv hmay hN
  unfold vlV VByte
  obtain ⟨xb, w1, hxb, hxv, hX, hB1⟩ := alloc_stepV w #[.int .u8 (v.kind : Int), .int .u64 (v.n : Int), .string (str v.s), .slice h.A1 v.keys.length h.c1, .slice h.A2 v.list.length h.c2] 50
  rw [vlB_eq] at hN ⊢
  rw [mayV_eq] at hmay
  obtain ⟨hkinds, hs4, hmapK, hall⟩ := mayF_parts hmay
  obtain ⟨hk256, hn64, _, hkb, hKb, hLb⟩ := hv.bounds
  have hku : Value.int .u8 (v.kind : Int) = u8v (UInt8.ofNat v.kind) := by rw [u8v_eq, UInt8.toNat_ofNat']; congr; omega
  have hs1 := hB1.size
  have hlit0 := own_lit (w := w1) w1.heap.size #[.int .u8 (v.kind : Int)] 5 1 (Nat.le_refl _) (by simp [maxLen]) rfl (size := 1) (by omega)
  have hlit : OwnB (w1.alloc (.cells #[.int .u8 (v.kind : Int)] 5)) w1.heap.size (some ⟨w1.heap.size, 0, none⟩) 1 1 [UInt8.ofNat v.kind] := by
    have e : [UInt8.ofNat v.kind].map u8v = #[Value.int .u8 (v.kind : Int)].toList := by simp [hku]
    unfold OwnB
    rw [e]
    exact hlit0
  have hB2 := (Below.refl w1.heap.size w1).alloc (Nat.le_refl _) (.cells #[.int .u8 (v.kind : Int)] 5)
  have hv1 := hv.up hB1
  obtain ⟨INN, hINN⟩ : ∃ I, I = innB v := ⟨_, rfl⟩
  rw [← hINN] at hN ⊢
  obtain ⟨R, hR⟩ : ∃ R, R = UInt8.ofNat v.kind :: restB v.kind v.n v.s INN := ⟨_, rfl⟩
  rw [← hR] at hN ⊢
  have HIN := Lib.hid hINN
  have HR := Lib.hid hR
  have HMAY := Lib.hid hmay
  have HMK := Lib.hid hmapK
  have HAL := Lib.hid hall
  have IH := Lib.hid ih
  clear hINN hR hmapK hall hku hlit0 hmay ih hv
  obtain ⟨K1, j1, K2, j2⟩ := h
  generalize hkd : v.kind = kd at *
  have HKD := Lib.hid hkd
  clear hkd
  rcases hkinds with hk | hk | hk | hk | hk | hk | hk | hk | hk
  · subst hk
    generalize hkI : (((8 : Nat) : Int)) = k at *
    obtain rfl : k = 8 := by rw [← hkI]; rfl
    clear hkI
    have c0 := hX.cell (j := 0) rfl
    have c1 := hX.cell (j := 1) rfl
    have c2 := hX.cell (j := 2) rfl
    have c3 := hX.cell (j := 3) rfl
    have c4 := hX.cell (j := 4) rfl
    go_enter Tryz.func97, Tryz.ntmps97
    go_upto_region 1 with fail
    rw [← hxb, ← hxv]
    clear hxb hxv
    go_upto_region 2 with fail
    have hX2 := hX.below hB2
    generalize (w1.alloc (.cells #[.int .u8 8] 5)) = w2 at *
    have hB := hB1.trans (hB2.mono hs1)
    have hv2 := hv1.up hB2
    have hs2 := hB2.size
    generalize hlb : w1.heap.size = lb at *
    have HXB : Hid (xb ≠ lb) := Lib.hid (by have := hX.lt; omega)
    have HLB := Lib.hid hlb
    clear c0 c1 c2 c3 c4 hX hv1 hlb hB1
    have c0 := hX2.cell (j := 0) rfl
    have c1 := hX2.cell (j := 1) rfl
    have c2 := hX2.cell (j := 2) rfl
    have c3 := hX2.cell (j := 3) rfl
    have c4 := hX2.cell (j := 4) rfl
    go_wp2_with (first | (with_reducible refine hold_append ?_) | (with_reducible refine hold_make ?_) | (with_reducible refine hold_copy ?_))
    have hRe : [UInt8.ofNat 8] ++ [UInt8.ofNat v.n] = R := by rw [HR.out]; simp [restB, be]
    have hRl : R.length = 1 + 1 := by rw [← hRe]; rfl
    have hku2 : Value.int .u8 ((v.n : Int) % 256) = u8v (UInt8.ofNat v.n) := by rw [u8v_eq, UInt8.toNat_ofNat']; first | (congr; done) | (congr; omega)
    have hnew := rd_new (size := 1) w2 #[.int .u8 ((v.n : Int) % 256)] 5 (0, 0) 1 1 rfl (by omega) (by simp [maxLen])
    have hB3 := (Below.refl w2.heap.size w2).alloc (Nat.le_refl _) (.cells #[.int .u8 ((v.n : Int) % 256)] 5)
    have hol := own_below hlit hB3
    have hs3 := hB3.size
    have e8 : [UInt8.ofNat 8].map u8v ++ #[Value.int .u8 ((v.n : Int) % 256)].toList = R.map u8v := by rw [← hRe]; simp [hku2]
    have HRL := Lib.hid hRl
    clear c0 c1 c2 c3 c4 hku2 hRl
    refine unhold (wp_app slB rfl rfl rfl rfl hol hnew (by intro u hu; simp at hu; subst hu; rfl) (by omega) (by unfold maxLen; omega) (by omega) ?_)
    intro A4 q4 w4 ho4 hg4 _
    have hBw := (hB.trans (hB3.mono hB.size)).grown hg4 (Nat.le_trans hB.size hs3) (fun g hg => by have h9 : some lb = some g := hg; injection h9 with h9; omega)
    rw [e8] at ho4
    clear hRe e8
    go_wp2_with (first | (with_reducible refine hold_append ?_) | (with_reducible refine hold_make ?_) | (with_reducible refine hold_copy ?_))
    go_ret
    exact ⟨A4, q4, by rw [HRL.out]; rfl, by rw [HRL.out]; exact ho4.base_le hs1, hBw⟩
  · subst hk
    generalize hkI : (((2 : Nat) : Int)) = k at *
    obtain rfl : k = 2 := by rw [← hkI]; rfl
    clear hkI
    have c0 := hX.cell (j := 0) rfl
    have c1 := hX.cell (j := 1) rfl
    have c2 := hX.cell (j := 2) rfl
    have c3 := hX.cell (j := 3) rfl
    have c4 := hX.cell (j := 4) rfl
    go_enter Tryz.func97, Tryz.ntmps97
    go_upto_region 1 with fail
    rw [← hxb, ← hxv]
    clear hxb hxv
    go_upto_region 2 with fail
    have hX2 := hX.below hB2
    generalize (w1.alloc (.cells #[.int .u8 2] 5)) = w2 at *
    have hB := hB1.trans (hB2.mono hs1)
    have hv2 := hv1.up hB2
    have hs2 := hB2.size
    generalize hlb : w1.heap.size = lb at *
    have HXB : Hid (xb ≠ lb) := Lib.hid (by have := hX.lt; omega)
    have HLB := Lib.hid hlb
    clear c0 c1 c2 c3 c4 hX hv1 hlb hB1
    have c0 := hX2.cell (j := 0) rfl
    have c1 := hX2.cell (j := 1) rfl
    have c2 := hX2.cell (j := 2) rfl
    have c3 := hX2.cell (j := 3) rfl
    have c4 := hX2.cell (j := 4) rfl
    go_wp2_with (first | (with_reducible refine hold_append ?_) | (with_reducible refine hold_make ?_) | (with_reducible refine hold_copy ?_))
    have hRe : [UInt8.ofNat 2] ++ [UInt8.ofNat v.n] = R := by rw [HR.out]; simp [restB, be]
    have hRl : R.length = 1 + 1 := by rw [← hRe]; rfl
    have hku2 : Value.int .u8 ((v.n : Int) % 256) = u8v (UInt8.ofNat v.n) := by rw [u8v_eq, UInt8.toNat_ofNat']; first | (congr; done) | (congr; omega)
    have hnew := rd_new (size := 1) w2 #[.int .u8 ((v.n : Int) % 256)] 5 (0, 0) 1 1 rfl (by omega) (by simp [maxLen])
    have hB3 := (Below.refl w2.heap.size w2).alloc (Nat.le_refl _) (.cells #[.int .u8 ((v.n : Int) % 256)] 5)
    have hol := own_below hlit hB3
    have hs3 := hB3.size
    have e8 : [UInt8.ofNat 2].map u8v ++ #[Value.int .u8 ((v.n : Int) % 256)].toList = R.map u8v := by rw [← hRe]; simp [hku2]
    have HRL := Lib.hid hRl
    clear c0 c1 c2 c3 c4 hku2 hRl
    refine unhold (wp_app slB rfl rfl rfl rfl hol hnew (by intro u hu; simp at hu; subst hu; rfl) (by omega) (by unfold maxLen; omega) (by omega) ?_)
    intro A4 q4 w4 ho4 hg4 _
    have hBw := (hB.trans (hB3.mono hB.size)).grown hg4 (Nat.le_trans hB.size hs3) (fun g hg => by have h9 : some lb = some g := hg; injection h9 with h9; omega)
    rw [e8] at ho4
    clear hRe e8
    go_wp2_with (first | (with_reducible refine hold_append ?_) | (with_reducible refine hold_make ?_) | (with_reducible refine hold_copy ?_))
    go_ret
    exact ⟨A4, q4, by rw [HRL.out]; rfl, by rw [HRL.out]; exact ho4.base_le hs1, hBw⟩
  · subst hk
    generalize hkI : (((49 : Nat) : Int)) = k at *
    obtain rfl : k = 49 := by rw [← hkI]; rfl
    clear hkI
    have c0 := hX.cell (j := 0) rfl
    have c1 := hX.cell (j := 1) rfl
    have c2 := hX.cell (j := 2) rfl
    have c3 := hX.cell (j := 3) rfl
    have c4 := hX.cell (j := 4) rfl
    go_enter Tryz.func97, Tryz.ntmps97
    go_upto_region 1 with fail
    rw [← hxb, ← hxv]
    clear hxb hxv
    go_upto_region 2 with fail
    have hX2 := hX.below hB2
    generalize (w1.alloc (.cells #[.int .u8 49] 5)) = w2 at *
    have hB := hB1.trans (hB2.mono hs1)
    have hv2 := hv1.up hB2
    have hs2 := hB2.size
    generalize hlb : w1.heap.size = lb at *
    have HXB : Hid (xb ≠ lb) := Lib.hid (by have := hX.lt; omega)
    have HLB := Lib.hid hlb
    clear c0 c1 c2 c3 c4 hX hv1 hlb hB1
    have c0 := hX2.cell (j := 0) rfl
    have c1 := hX2.cell (j := 1) rfl
    have c2 := hX2.cell (j := 2) rfl
    have c3 := hX2.cell (j := 3) rfl
    have c4 := hX2.cell (j := 4) rfl
    go_wp2_with (first | (with_reducible refine hold_append ?_) | (with_reducible refine hold_make ?_) | (with_reducible refine hold_copy ?_))
    have hRe : [UInt8.ofNat 49] ++ be 8 v.n = R := by rw [HR.out]; simp [restB]
    have hRl : R.length = 1 + 8 := by rw [← hRe, List.length_append, be_length]; rfl
    have hp := rnumber_any v.n 8 w2 hn64 (by omega)
    refine hp.mono ?_
    rintro e w3 ⟨A3, c3', rfl, ho3, hB3⟩
    have hol := own_below hlit hB3
    have hs3 := hB3.size
    clear hp c0 c1 c2 c3 c4
    go_wp2_with (first | (with_reducible refine hold_append ?_) | (with_reducible refine hold_make ?_) | (with_reducible refine hold_copy ?_))
    refine unhold (wp_app slB rfl rfl rfl rfl hol ho3.rd (map_one _) (by omega) (by unfold maxLen; omega) (by omega) ?_)
    intro A4 q4 w4 ho4 hg4 _
    have hBw := (hB.trans (hB3.mono hB.size)).grown hg4 (Nat.le_trans hB.size hs3) (fun g hg => by have h9 : some lb = some g := hg; injection h9 with h9; omega)
    rw [← List.map_append, hRe] at ho4
    clear hRe
    go_wp2_with (first | (with_reducible refine hold_append ?_) | (with_reducible refine hold_make ?_) | (with_reducible refine hold_copy ?_))
    go_ret
    exact ⟨A4, q4, by rw [hRl]; rfl, by rw [hRl]; exact ho4.base_le hs1, hBw⟩
  · subst hk
    generalize hkI : (((50 : Nat) : Int)) = k at *
    obtain rfl : k = 50 := by rw [← hkI]; rfl
    clear hkI
    have c0 := hX.cell (j := 0) rfl
    have c1 := hX.cell (j := 1) rfl
    have c2 := hX.cell (j := 2) rfl
    have c3 := hX.cell (j := 3) rfl
    have c4 := hX.cell (j := 4) rfl
    go_enter Tryz.func97, Tryz.ntmps97
    go_upto_region 1 with fail
    rw [← hxb, ← hxv]
    clear hxb hxv
    go_upto_region 2 with fail
    have hX2 := hX.below hB2
    generalize (w1.alloc (.cells #[.int .u8 50] 5)) = w2 at *
    have hB := hB1.trans (hB2.mono hs1)
    have hv2 := hv1.up hB2
    have hs2 := hB2.size
    generalize hlb : w1.heap.size = lb at *
    have HXB : Hid (xb ≠ lb) := Lib.hid (by have := hX.lt; omega)
    have HLB := Lib.hid hlb
    clear c0 c1 c2 c3 c4 hX hv1 hlb hB1
    have c0 := hX2.cell (j := 0) rfl
    have c1 := hX2.cell (j := 1) rfl
    have c2 := hX2.cell (j := 2) rfl
    have c3 := hX2.cell (j := 3) rfl
    have c4 := hX2.cell (j := 4) rfl
    go_wp2_with (first | (with_reducible refine hold_append ?_) | (with_reducible refine hold_make ?_) | (with_reducible refine hold_copy ?_))
    have hRe : [UInt8.ofNat 50] ++ be 8 v.n = R := by rw [HR.out]; simp [restB]
    have hRl : R.length = 1 + 8 := by rw [← hRe, List.length_append, be_length]; rfl
    have hp := rnumber_any v.n 8 w2 hn64 (by omega)
    refine hp.mono ?_
    rintro e w3 ⟨A3, c3', rfl, ho3, hB3⟩
    have hol := own_below hlit hB3
    have hs3 := hB3.size
    clear hp c0 c1 c2 c3 c4
    go_wp2_with (first | (with_reducible refine hold_append ?_) | (with_reducible refine hold_make ?_) | (with_reducible refine hold_copy ?_))
    refine unhold (wp_app slB rfl rfl rfl rfl hol ho3.rd (map_one _) (by omega) (by unfold maxLen; omega) (by omega) ?_)
    intro A4 q4 w4 ho4 hg4 _
    have hBw := (hB.trans (hB3.mono hB.size)).grown hg4 (Nat.le_trans hB.size hs3) (fun g hg => by have h9 : some lb = some g := hg; injection h9 with h9; omega)
    rw [← List.map_append, hRe] at ho4
    clear hRe
    go_wp2_with (first | (with_reducible refine hold_append ?_) | (with_reducible refine hold_make ?_) | (with_reducible refine hold_copy ?_))
    go_ret
    exact ⟨A4, q4, by rw [hRl]; rfl, by rw [hRl]; exact ho4.base_le hs1, hBw⟩
  · subst hk
    generalize hkI : (((240 : Nat) : Int)) = k at *
    obtain rfl : k = 240 := by rw [← hkI]; rfl
    clear hkI
    have c0 := hX.cell (j := 0) rfl
    have c1 := hX.cell (j := 1) rfl
    have c2 := hX.cell (j := 2) rfl
    have c3 := hX.cell (j := 3) rfl
    have c4 := hX.cell (j := 4) rfl
    go_enter Tryz.func97, Tryz.ntmps97
    go_upto_region 1 with fail
    rw [← hxb, ← hxv]
    clear hxb hxv
    go_upto_region 2 with fail
    have hX2 := hX.below hB2
    generalize (w1.alloc (.cells #[.int .u8 240] 5)) = w2 at *
    have hB := hB1.trans (hB2.mono hs1)
    have hv2 := hv1.up hB2
    have hs2 := hB2.size
    generalize hlb : w1.heap.size = lb at *
    have HXB : Hid (xb ≠ lb) := Lib.hid (by have := hX.lt; omega)
    have HLB := Lib.hid hlb
    clear c0 c1 c2 c3 c4 hX hv1 hlb hB1
    have c0 := hX2.cell (j := 0) rfl
    have c1 := hX2.cell (j := 1) rfl
    have c2 := hX2.cell (j := 2) rfl
    have c3 := hX2.cell (j := 3) rfl
    have c4 := hX2.cell (j := 4) rfl
    go_wp2_with (first | (with_reducible refine hold_append ?_) | (with_reducible refine hold_make ?_) | (with_reducible refine hold_copy ?_))
    have hRe : [UInt8.ofNat 240] = R := by rw [HR.out]; simp [restB]
    rw [← hRe]
    go_ret
    exact ⟨_, _, rfl, hlit.base_le hs1, hB⟩
  · have has := str_size v.s
    subst hk
    generalize hkI : (((160 : Nat) : Int)) = k at *
    obtain rfl : k = 160 := by rw [← hkI]; rfl
    clear hkI
    have c0 := hX.cell (j := 0) rfl
    have c1 := hX.cell (j := 1) rfl
    have c2 := hX.cell (j := 2) rfl
    have c3 := hX.cell (j := 3) rfl
    have c4 := hX.cell (j := 4) rfl
    go_enter Tryz.func97, Tryz.ntmps97
    go_upto_region 1 with fail
    rw [← hxb, ← hxv]
    clear hxb hxv
    go_upto_region 2 with fail
    have hX2 := hX.below hB2
    generalize (w1.alloc (.cells #[.int .u8 160] 5)) = w2 at *
    have hB := hB1.trans (hB2.mono hs1)
    have hv2 := hv1.up hB2
    have hs2 := hB2.size
    generalize hlb : w1.heap.size = lb at *
    have HXB : Hid (xb ≠ lb) := Lib.hid (by have := hX.lt; omega)
    have HLB := Lib.hid hlb
    clear c0 c1 c2 c3 c4 hX hv1 hlb hB1
    have c0 := hX2.cell (j := 0) rfl
    have c1 := hX2.cell (j := 1) rfl
    have c2 := hX2.cell (j := 2) rfl
    have c3 := hX2.cell (j := 3) rfl
    have c4 := hX2.cell (j := 4) rfl
    go_wp2_with (first | (with_reducible refine hold_append ?_) | (with_reducible refine hold_make ?_) | (with_reducible refine hold_copy ?_))
    have hRe : ([UInt8.ofNat 160] ++ be 4 v.s.length) ++ v.s = R := by rw [HR.out]; simp [restB]
    have HRL : Hid (R.length = 1 + 4 + v.s.length) := Lib.hid (by rw [← hRe, List.length_append, List.length_append, be_length]; rfl)
    have hp := rnumber_any v.s.length 4 w2 (by omega) (by omega)
    refine hp.mono ?_
    rintro e w3 ⟨A3, c3', rfl, ho3, hB3⟩
    have hol := own_below hlit hB3
    have hs3 := hB3.size
    have hX3 := hX2.below hB3
    clear hp c0 c1 c2 c3 c4
    go_wp2_with (first | (with_reducible refine hold_append ?_) | (with_reducible refine hold_make ?_) | (with_reducible refine hold_copy ?_))
    refine unhold (wp_app slB rfl rfl rfl rfl hol ho3.rd (map_one _) (by omega) (by unfold maxLen; omega) (by omega) ?_)
    intro A4 q4 w4 ho4 hg4 _
    have hBw := (hB.trans (hB3.mono hB.size)).grown hg4 (Nat.le_trans hB.size hs3) (fun g hg => by have h9 : some lb = some g := hg; injection h9 with h9; omega)
    have hX4 := hX3.grown hg4 (by intro e; have h9 : some xb = some lb := e; injection h9 with h9; exact HXB.out h9)
    have hs4' := hg4.size
    rw [← List.map_append] at ho4
    have c0 := hX4.cell (j := 0) rfl
    have c1 := hX4.cell (j := 1) rfl
    have c2 := hX4.cell (j := 2) rfl
    have c3 := hX4.cell (j := 3) rfl
    have c4 := hX4.cell (j := 4) rfl
    go_wp2_with (first | (with_reducible refine hold_append ?_) | (with_reducible refine hold_make ?_) | (with_reducible refine hold_copy ?_))
    refine unhold (wp_app_strW slB Tryz.underlying9 rfl rfl rfl rfl ho4 (by omega) (by omega) (by omega) ?_)
    intro A5 q5 w5 ho5 hg5
    have hBx := hBw.grown hg5 hBw.size (fun g hg => by have := (ho4.blk_lt hg).1; omega)
    rw [← List.map_append, hRe] at ho5
    clear hRe c0 c1 c2 c3 c4
    go_wp2_with (first | (with_reducible refine hold_append ?_) | (with_reducible refine hold_make ?_) | (with_reducible refine hold_copy ?_))
    go_ret
    exact ⟨A5, q5, by rw [HRL.out]; rfl, by rw [HRL.out]; exact ho5.base_le hs1, hBx⟩
  · have has := str_size v.s
    subst hk
    generalize hkI : (((149 : Nat) : Int)) = k at *
    obtain rfl : k = 149 := by rw [← hkI]; rfl
    clear hkI
    have c0 := hX.cell (j := 0) rfl
    have c1 := hX.cell (j := 1) rfl
    have c2 := hX.cell (j := 2) rfl
    have c3 := hX.cell (j := 3) rfl
    have c4 := hX.cell (j := 4) rfl
    go_enter Tryz.func97, Tryz.ntmps97
    go_upto_region 1 with fail
    rw [← hxb, ← hxv]
    clear hxb hxv
    go_upto_region 2 with fail
    have hX2 := hX.below hB2
    generalize (w1.alloc (.cells #[.int .u8 149] 5)) = w2 at *
    have hB := hB1.trans (hB2.mono hs1)
    have hv2 := hv1.up hB2
    have hs2 := hB2.size
    generalize hlb : w1.heap.size = lb at *
    have HXB : Hid (xb ≠ lb) := Lib.hid (by have := hX.lt; omega)
    have HLB := Lib.hid hlb
    clear c0 c1 c2 c3 c4 hX hv1 hlb hB1
    have c0 := hX2.cell (j := 0) rfl
    have c1 := hX2.cell (j := 1) rfl
    have c2 := hX2.cell (j := 2) rfl
    have c3 := hX2.cell (j := 3) rfl
    have c4 := hX2.cell (j := 4) rfl
    go_wp2_with (first | (with_reducible refine hold_append ?_) | (with_reducible refine hold_make ?_) | (with_reducible refine hold_copy ?_))
    have hRe : ([UInt8.ofNat 149] ++ be 2 v.s.length) ++ v.s = R := by rw [HR.out]; simp [restB]
    have HRL : Hid (R.length = 1 + 2 + v.s.length) := Lib.hid (by rw [← hRe, List.length_append, List.length_append, be_length]; rfl)
    have hp := rnumber_any v.s.length 2 w2 (by omega) (by omega)
    refine hp.mono ?_
    rintro e w3 ⟨A3, c3', rfl, ho3, hB3⟩
    have hol := own_below hlit hB3
    have hs3 := hB3.size
    have hX3 := hX2.below hB3
    clear hp c0 c1 c2 c3 c4
    go_wp2_with (first | (with_reducible refine hold_append ?_) | (with_reducible refine hold_make ?_) | (with_reducible refine hold_copy ?_))
    refine unhold (wp_app slB rfl rfl rfl rfl hol ho3.rd (map_one _) (by omega) (by unfold maxLen; omega) (by omega) ?_)
    intro A4 q4 w4 ho4 hg4 _
    have hBw := (hB.trans (hB3.mono hB.size)).grown hg4 (Nat.le_trans hB.size hs3) (fun g hg => by have h9 : some lb = some g := hg; injection h9 with h9; omega)
    have hX4 := hX3.grown hg4 (by intro e; have h9 : some xb = some lb := e; injection h9 with h9; exact HXB.out h9)
    have hs4' := hg4.size
    rw [← List.map_append] at ho4
    have c0 := hX4.cell (j := 0) rfl
    have c1 := hX4.cell (j := 1) rfl
    have c2 := hX4.cell (j := 2) rfl
    have c3 := hX4.cell (j := 3) rfl
    have c4 := hX4.cell (j := 4) rfl
    go_wp2_with (first | (with_reducible refine hold_append ?_) | (with_reducible refine hold_make ?_) | (with_reducible refine hold_copy ?_))
    refine unhold (wp_app_strW slB Tryz.underlying9 rfl rfl rfl rfl ho4 (by omega) (by omega) (by omega) ?_)
    intro A5 q5 w5 ho5 hg5
    have hBx := hBw.grown hg5 hBw.size (fun g hg => by have := (ho4.blk_lt hg).1; omega)
    rw [← List.map_append, hRe] at ho5
    clear hRe c0 c1 c2 c3 c4
    go_wp2_with (first | (with_reducible refine hold_append ?_) | (with_reducible refine hold_make ?_) | (with_reducible refine hold_copy ?_))
    go_ret
    exact ⟨A5, q5, by rw [HRL.out]; rfl, by rw [HRL.out]; exact ho5.base_le hs1, hBx⟩
  · subst hk
    generalize hkI : (((168 : Nat) : Int)) = k at *
    obtain rfl : k = 168 := by rw [← hkI]; rfl
    clear hkI
    have c0 := hX.cell (j := 0) rfl
    have c1 := hX.cell (j := 1) rfl
    have c2 := hX.cell (j := 2) rfl
    have c3 := hX.cell (j := 3) rfl
    have c4 := hX.cell (j := 4) rfl
    go_enter Tryz.func97, Tryz.ntmps97
    go_upto_region 1 with fail
    rw [← hxb, ← hxv]
    clear hxb hxv
    go_upto_region 2 with fail
    have hX2 := hX.below hB2
    generalize (w1.alloc (.cells #[.int .u8 168] 5)) = w2 at *
    have hB := hB1.trans (hB2.mono hs1)
    have hv2 := hv1.up hB2
    have hs2 := hB2.size
    generalize hlb : w1.heap.size = lb at *
    have HXB : Hid (xb ≠ lb) := Lib.hid (by have := hX.lt; omega)
    have HLB := Lib.hid hlb
    clear c0 c1 c2 c3 c4 hX hv1 hlb hB1
    have c0 := hX2.cell (j := 0) rfl
    have c1 := hX2.cell (j := 1) rfl
    have c2 := hX2.cell (j := 2) rfl
    have c3 := hX2.cell (j := 3) rfl
    have c4 := hX2.cell (j := 4) rfl
    go_wp2_with (first | (with_reducible refine hold_append ?_) | (with_reducible refine hold_make ?_) | (with_reducible refine hold_copy ?_))
    have HR2 : Hid (R = [UInt8.ofNat 168] ++ be 4 INN.length ++ INN) := Lib.hid (by rw [HR.out]; simp [restB])
    have hINl : INN.length ≤ 100000000 := by have := hN; rw [HR2.out] at this; simp [List.length_append, be_length] at this; omega
    have hRl : R.length = 5 + INN.length := by rw [HR2.out]; simp [List.length_append, be_length]; omega
    have hel := fun {i : Nat} (hi : i < v.list.length) => hv2.elem hi
    have hky := fun {i : Nat} (hi : i < v.keys.length) => hv2.key hi
    simp only at hel hky
    obtain ⟨N, hNN⟩ : ∃ N, N = v.list.length := ⟨_, rfl⟩
    rw [← hNN] at hX2 hLb c0 c1 c2 c3 c4 ⊢
    have HN := Lib.hid hNN
    have HIT : Hid (be 4 N ++ manyB true v.keys v.list = INN) := Lib.hid (by rw [HIN.out, innB, HKD.out, hNN]; rfl)
    obtain ⟨hKL, hko⟩ := (by first | exact HMK.out rfl | exact HMK.out trivial : v.keys.length = v.list.length ∧ _ = true)
    rw [← hNN] at hKL
    have HKLN := Lib.hid hKL
    have HKO := Lib.hid hko
    clear hKL hko
    have HRL := Lib.hid hRl
    have hp := rnumber_any N 4 w2 (by omega) (by omega)
    have hP4 : (be 4 N).length = 4 := be_length 4 N
    generalize be 4 N = P0 at *
    have hlw2 : lb < w2.heap.size := (hlit.blk_lt (g := lb) rfl).2
    clear hNN hRl hv2 hkb hs4 hN hs2 hk256
    refine hp.mono ?_
    rintro e w4 ⟨A4, c4', rfl, ho4, hB4⟩
    have hX4 := hX2.below hB4
    have ho4' : OwnB w4 w2.heap.size A4 4 c4' P0 := ho4
    clear hp c0 c1 c2 c3 c4 ho4 hP4
    have c0 := hX4.cell (j := 0) rfl
    have c1 := hX4.cell (j := 1) rfl
    have c2 := hX4.cell (j := 2) rfl
    have c3 := hX4.cell (j := 3) rfl
    have c4 := hX4.cell (j := 4) rfl
    go_wp2_with (first | (with_reducible refine hold_append ?_) | (with_reducible refine hold_make ?_) | (with_reducible refine hold_copy ?_))
    clear c0 c1 c2 c3 c4 hX4
    go_loopw [4, 5] (fun s4 s5 wr => ∃ (i ni ci : Nat) (Ai : Option Addr) (li : List UInt8), i ≤ N ∧ s4 = .slice Ai ni ci ∧ s5 = .int .i64 i ∧ OwnB wr w2.heap.size Ai ni ci li ∧ Below w2.heap.size w2 wr ∧ Hid (li ++ manyB true (v.keys.drop i) (v.list.drop i) = INN)) (fun _ s5 _ => N - (RowKit.intOf s5).toNat)
    case atStart => exact ⟨0, 4, c4', A4, P0, by omega, rfl, rfl, ho4', hB4, Lib.hid HIT.out⟩
    case round =>
      clear ho4' hB4
      obtain ⟨i, ni, ci, Ai, li, hi, rfl, rfl, hoI, hBr, HC⟩ := hrel
      have hX4 := hX2.below hBr
      have hlen : ni ≤ INN.length := by have := RdB.length hoI.rd; rw [← HC.out, List.length_append]; omega
      have hszr := hBr.size
      have c0 := hX4.cell (j := 0) rfl
      have c1 := hX4.cell (j := 1) rfl
      have c2 := hX4.cell (j := 2) rfl
      have c3 := hX4.cell (j := 3) rfl
      have c4 := hX4.cell (j := 4) rfl
      by_cases hlt : i < N
      · have g1 : (i : Int) < (N : Int) := by omega
        have hil : i < v.list.length := by rw [← HN.out]; exact hlt
        obtain ⟨b, off, hx, rfl, hvx, HXE⟩ := hel hil
        have hmx : mayV utf8B v.list[i] = true := List.all_eq_true.1 HAL.out _ (List.getElem_mem hil)
        have hrec := IH.out _ (List.getElem_mem hil) hx
        have hik : i < v.keys.length := by rw [HKLN.out]; exact hlt
        obtain ⟨bk, offk, rfl, HXK⟩ := hky hik
        have HD : Hid (manyB true (v.keys.drop i) (v.list.drop i) = ((be 1 v.keys[i].length ++ v.keys[i]) ++ vlB v.list[i]) ++ manyB true (v.keys.drop (i + 1)) (v.list.drop (i + 1))) := Lib.hid (manyB_map hil hik)
        have hkl : v.keys[i].length ≤ 255 := by
          have h1 := HKO.out
          rw [keysOk_eq, Bool.and_eq_true, List.all_eq_true] at h1
          have h2 := h1.1 _ (List.getElem_mem hik)
          unfold keyOk at h2
          simp only [Bool.and_eq_true, decide_eq_true_eq] at h2
          exact h2.1.2
        have y0 := HXK wr hBr
        clear hel hky
        generalize v.list[i] = x at *
        generalize v.keys[i] = ky at *
        have hss := str_size ky
        have HC2 : Hid ((((li ++ [UInt8.ofNat ky.length]) ++ ky) ++ vlB x) ++ manyB true (v.keys.drop (i + 1)) (v.list.drop (i + 1)) = INN) := Lib.hid (by rw [← HC.out, HD.out]; simp [be])
        have hvl : ni + 1 + ky.length + (vlB x).length ≤ INN.length := by have := RdB.length hoI.rd; rw [← HC2.out]; simp [List.length_append]; omega
        have hku2 : Value.int .u8 (ky.length : Int) = u8v (UInt8.ofNat ky.length) := by rw [u8v_eq, UInt8.toNat_ofNat']; congr 1; omega
        have hnew := rd_new (size := 1) wr #[.int .u8 (ky.length : Int)] 5 (0, 0) 1 1 rfl (by omega) (by simp [maxLen])
        have hBa := (Below.refl wr.heap.size wr).alloc (Nat.le_refl _) (.cells #[.int .u8 (ky.length : Int)] 5)
        have e8 : li.map u8v ++ #[Value.int .u8 (ky.length : Int)].toList = (li ++ [UInt8.ofNat ky.length]).map u8v := by simp [hku2]
        have hoIa := own_below hoI hBa
        have hXa := hX4.below hBa
        have hBra := hBr.trans (hBa.mono hszr)
        have hsza := hBa.size
        clear hku2
        go_wp2_with (first | (with_reducible refine hold_append ?_) | (with_reducible refine hold_make ?_) | (with_reducible refine hold_copy ?_))
        refine unhold (wp_app slB rfl rfl rfl rfl hoIa hnew (by intro u hu; simp at hu; subst hu; rfl) (by omega) (by unfold maxLen; omega) (by omega) ?_)
        intro A3 q3 w3 ho3 hg3 _
        have hBr3 := hBra.grown hg3 hBra.size (fun g hg => by have := (hoIa.blk_lt hg).1; omega)
        have hX3 := hXa.grown hg3 (by intro e; have := (hoIa.blk_lt e.symm).1; have := hX2.lt; omega)
        have y0 := HXK w3 hBr3
        have hsz3 := hBr3.size
        rw [e8] at ho3
        clear e8 hoIa hnew hBa hXa hX4 c0 c1 c2 c3 c4 hg3 hoI
        have c0 := hX3.cell (j := 0) rfl
        have c1 := hX3.cell (j := 1) rfl
        have c2 := hX3.cell (j := 2) rfl
        have c3 := hX3.cell (j := 3) rfl
        have c4 := hX3.cell (j := 4) rfl
        go_wp2_with (first | (with_reducible refine hold_append ?_) | (with_reducible refine hold_make ?_) | (with_reducible refine hold_copy ?_))
        refine unhold (wp_app_strW slB Tryz.underlying9 rfl rfl rfl rfl ho3 (by omega) (by omega) (by omega) ?_)
        intro A4 q4 w4 ho4 hg4
        have hBr4 := hBr3.grown hg4 hBr3.size (fun g hg => by have := (ho3.blk_lt hg).1; omega)
        have hX4 := hX3.grown hg4 (by intro e; have := (ho3.blk_lt e.symm).1; have := hX2.lt; omega)
        have hsz4 := hBr4.size
        rw [← List.map_append] at ho4
        obtain ⟨k0, k1, k2, k3, k4⟩ := HXE w4 hBr4
        have hrec := hrec w4 (hvx.up hBr4) hmx (by omega)
        unfold VByte vlV at hrec
        generalize vlB x = B at *
        clear y0 hX3 hg4 ho3 c0 c1 c2 c3 c4 HXE hvx HXK
        have c0 := hX4.cell (j := 0) rfl
        have c1 := hX4.cell (j := 1) rfl
        have c2 := hX4.cell (j := 2) rfl
        have c3 := hX4.cell (j := 3) rfl
        have c4 := hX4.cell (j := 4) rfl
        go_wp2_with (first | (with_reducible refine hold_append ?_) | (with_reducible refine hold_make ?_) | (with_reducible refine hold_copy ?_))
        refine hrec.mono ?_
        rintro e w5 ⟨A5, c5, rfl, ho5, hB5⟩
        have hoI5 := own_below ho4 hB5
        have hBr5 := hBr4.trans (hB5.mono hsz4)
        have hsz5 := hB5.size
        clear hrec k0 k1 k2 k3 k4 c0 c1 c2 c3 c4 hX4 ho4
        go_wp2_with (first | (with_reducible refine hold_append ?_) | (with_reducible refine hold_make ?_) | (with_reducible refine hold_copy ?_))
        refine unhold (wp_app slB rfl rfl rfl rfl hoI5 ho5.rd (map_one _) (by omega) (by unfold maxLen; omega) (by omega) ?_)
        intro A6 c6 w6 ho6 hg6 _
        have hBr6 := hBr5.grown hg6 hBr5.size (fun g hg => by have := (hoI5.blk_lt hg).1; omega)
        rw [← List.map_append] at ho6
        go_wp2_with (first | (with_reducible refine hold_append ?_) | (with_reducible refine hold_make ?_) | (with_reducible refine hold_copy ?_))
        exact ⟨⟨i + 1, ni + 1 + ky.length + B.length, c6, A6, ((li ++ [UInt8.ofNat ky.length]) ++ ky) ++ B, by omega, rfl, by go_num, ho6, hBr6, HC2⟩, by simp [RowKit.intOf]; omega⟩
      · have g1 : ¬ (i : Int) < (N : Int) := by omega
        have hle : li = INN := by
          have h := HC.out
          rw [List.drop_eq_nil_of_le (show v.list.length ≤ i by rw [← HN.out]; omega), manyB_nil, List.append_nil] at h
          exact h
        subst hle
        have hln : li.length = ni := RdB.length hoI.rd
        have hp := rnumber_any ni 4 wr (by omega) (by omega)
        have HB9 := hB.trans (hBr.mono hB.size)
        have hol := own_below hlit hBr
        have HRM : Hid (R = ([UInt8.ofNat 168] ++ be 4 ni) ++ li) := Lib.hid (by rw [HR2.out, hln])
        have HR5 : Hid (R.length = 1 + 4 + ni) := Lib.hid (by rw [HRL.out, hln])
        clear hel hky hln
        go_wp2_with (first | (with_reducible refine hold_append ?_) | (with_reducible refine hold_make ?_) | (with_reducible refine hold_copy ?_))
        refine hp.mono ?_
        rintro e w8 ⟨A8, c8, rfl, ho8, hB8⟩
        have hoI8 := own_below hoI hB8
        have hol8 := own_below hol hB8
        have hsz8 := hB8.size
        have hB98 := HB9.trans (hB8.mono (by omega))
        clear hp c0 c1 c2 c3 c4 hX4 hoI hol
        go_wp2_with (first | (with_reducible refine hold_append ?_) | (with_reducible refine hold_make ?_) | (with_reducible refine hold_copy ?_))
        refine unhold (wp_app slB rfl rfl rfl rfl hol8 ho8.rd (map_one _) (by omega) (by unfold maxLen; omega) (by omega) ?_)
        intro A9 c9 w9 ho9 hg9 _
        have hBx := hB98.grown hg9 hB98.size (fun g hg => by have h9 : some lb = some g := hg; injection h9 with h9; omega)
        have hoI9 := own_stays hoI8 hg9 (fun g hg e => by have h9 : some lb = some g := e; injection h9 with h9; have := (hoI8.blk_lt hg).1; omega)
        have hsz9 := hg9.size
        rw [← List.map_append] at ho9
        clear hoI8 hol8 hg9
        go_wp2_with (first | (with_reducible refine hold_append ?_) | (with_reducible refine hold_make ?_) | (with_reducible refine hold_copy ?_))
        refine unhold (wp_app slB rfl rfl rfl rfl ho9 hoI9.rd (map_one _) (by omega) (by unfold maxLen; omega) (by omega) ?_)
        intro A10 c10 w10 ho10 hg10 _
        have hBy := hBx.grown hg10 hBx.size (fun g hg => by have := (ho9.blk_lt hg).1; omega)
        rw [← List.map_append, ← HRM.out] at ho10
        go_wp2_with (first | (with_reducible refine hold_append ?_) | (with_reducible refine hold_make ?_) | (with_reducible refine hold_copy ?_))
        go_ret
        exact ⟨A10, c10, by rw [HR5.out]; rfl, by rw [HR5.out]; exact ho10.base_le hs1, hBy⟩
  · subst hk
    generalize hkI : (((169 : Nat) : Int)) = k at *
    obtain rfl : k = 169 := by rw [← hkI]; rfl
    clear hkI
    have c0 := hX.cell (j := 0) rfl
    have c1 := hX.cell (j := 1) rfl
    have c2 := hX.cell (j := 2) rfl
    have c3 := hX.cell (j := 3) rfl
    have c4 := hX.cell (j := 4) rfl
    go_enter Tryz.func97, Tryz.ntmps97
    go_upto_region 1 with fail
    rw [← hxb, ← hxv]
    clear hxb hxv
    go_upto_region 2 with fail
    have hX2 := hX.below hB2
    generalize (w1.alloc (.cells #[.int .u8 169] 5)) = w2 at *
    have hB := hB1.trans (hB2.mono hs1)
    have hv2 := hv1.up hB2
    have hs2 := hB2.size
    generalize hlb : w1.heap.size = lb at *
    have HXB : Hid (xb ≠ lb) := Lib.hid (by have := hX.lt; omega)
    have HLB := Lib.hid hlb
    clear c0 c1 c2 c3 c4 hX hv1 hlb hB1
    have c0 := hX2.cell (j := 0) rfl
    have c1 := hX2.cell (j := 1) rfl
    have c2 := hX2.cell (j := 2) rfl
    have c3 := hX2.cell (j := 3) rfl
    have c4 := hX2.cell (j := 4) rfl
    go_wp2_with (first | (with_reducible refine hold_append ?_) | (with_reducible refine hold_make ?_) | (with_reducible refine hold_copy ?_))
    have HR2 : Hid (R = [UInt8.ofNat 169] ++ be 4 INN.length ++ INN) := Lib.hid (by rw [HR.out]; simp [restB])
    have hINl : INN.length ≤ 100000000 := by have := hN; rw [HR2.out] at this; simp [List.length_append, be_length] at this; omega
    have hRl : R.length = 5 + INN.length := by rw [HR2.out]; simp [List.length_append, be_length]; omega
    have hel := fun {i : Nat} (hi : i < v.list.length) => hv2.elem hi
    have hky := fun {i : Nat} (hi : i < v.keys.length) => hv2.key hi
    simp only at hel hky
    obtain ⟨N, hNN⟩ : ∃ N, N = v.list.length := ⟨_, rfl⟩
    rw [← hNN] at hX2 hLb c0 c1 c2 c3 c4 ⊢
    have HN := Lib.hid hNN
    have HIT : Hid (be 4 N ++ manyB false v.keys v.list = INN) := Lib.hid (by rw [HIN.out, innB, HKD.out, hNN]; rfl)
    have HRL := Lib.hid hRl
    have hp := rnumber_any N 4 w2 (by omega) (by omega)
    have hP4 : (be 4 N).length = 4 := be_length 4 N
    generalize be 4 N = P0 at *
    have hlw2 : lb < w2.heap.size := (hlit.blk_lt (g := lb) rfl).2
    clear hNN hRl hv2 hkb hs4 hN hs2 hk256
    refine hp.mono ?_
    rintro e w4 ⟨A4, c4', rfl, ho4, hB4⟩
    have hX4 := hX2.below hB4
    have ho4' : OwnB w4 w2.heap.size A4 4 c4' P0 := ho4
    clear hp c0 c1 c2 c3 c4 ho4 hP4
    have c0 := hX4.cell (j := 0) rfl
    have c1 := hX4.cell (j := 1) rfl
    have c2 := hX4.cell (j := 2) rfl
    have c3 := hX4.cell (j := 3) rfl
    have c4 := hX4.cell (j := 4) rfl
    go_wp2_with (first | (with_reducible refine hold_append ?_) | (with_reducible refine hold_make ?_) | (with_reducible refine hold_copy ?_))
    clear c0 c1 c2 c3 c4 hX4
    go_loopw [4, 5] (fun s4 s5 wr => ∃ (i ni ci : Nat) (Ai : Option Addr) (li : List UInt8), i ≤ N ∧ s4 = .slice Ai ni ci ∧ s5 = .int .i64 i ∧ OwnB wr w2.heap.size Ai ni ci li ∧ Below w2.heap.size w2 wr ∧ Hid (li ++ manyB false (v.keys.drop i) (v.list.drop i) = INN)) (fun _ s5 _ => N - (RowKit.intOf s5).toNat)
    case atStart => exact ⟨0, 4, c4', A4, P0, by omega, rfl, rfl, ho4', hB4, Lib.hid HIT.out⟩
    case round =>
      clear ho4' hB4
      obtain ⟨i, ni, ci, Ai, li, hi, rfl, rfl, hoI, hBr, HC⟩ := hrel
      have hX4 := hX2.below hBr
      have hlen : ni ≤ INN.length := by have := RdB.length hoI.rd; rw [← HC.out, List.length_append]; omega
      have hszr := hBr.size
      have c0 := hX4.cell (j := 0) rfl
      have c1 := hX4.cell (j := 1) rfl
      have c2 := hX4.cell (j := 2) rfl
      have c3 := hX4.cell (j := 3) rfl
      have c4 := hX4.cell (j := 4) rfl
      by_cases hlt : i < N
      · have g1 : (i : Int) < (N : Int) := by omega
        have hil : i < v.list.length := by rw [← HN.out]; exact hlt
        obtain ⟨b, off, hx, rfl, hvx, HXE⟩ := hel hil
        have hmx : mayV utf8B v.list[i] = true := List.all_eq_true.1 HAL.out _ (List.getElem_mem hil)
        have hrec := IH.out _ (List.getElem_mem hil) hx
        obtain ⟨k0, k1, k2, k3, k4⟩ := HXE wr hBr
        have hrec := hrec wr (hvx.up hBr) hmx
        have HD : Hid (manyB false (v.keys.drop i) (v.list.drop i) = vlB v.list[i] ++ manyB false (v.keys.drop (i + 1)) (v.list.drop (i + 1))) := Lib.hid (manyB_list hil _ _)
        clear HXE hel hky hvx
        generalize v.list[i] = x at *
        have HC2 : Hid ((li ++ vlB x) ++ manyB false (v.keys.drop (i + 1)) (v.list.drop (i + 1)) = INN) := Lib.hid (by rw [← HC.out, HD.out, List.append_assoc])
        have hvl : ni + (vlB x).length ≤ INN.length := by have := RdB.length hoI.rd; rw [← HC2.out]; simp [List.length_append]; omega
        have hrec := hrec (by omega)
        unfold VByte vlV at hrec
        generalize vlB x = B at *
        go_wp2_with (first | (with_reducible refine hold_append ?_) | (with_reducible refine hold_make ?_) | (with_reducible refine hold_copy ?_))
        refine hrec.mono ?_
        rintro e w5 ⟨A5, c5, rfl, ho5, hB5⟩
        have hoI5 := own_below hoI hB5
        have hBr5 := hBr.trans (hB5.mono hszr)
        have hsz5 := hB5.size
        clear hrec k0 k1 k2 k3 k4 c0 c1 c2 c3 c4 hX4 hoI
        go_wp2_with (first | (with_reducible refine hold_append ?_) | (with_reducible refine hold_make ?_) | (with_reducible refine hold_copy ?_))
        refine unhold (wp_app slB rfl rfl rfl rfl hoI5 ho5.rd (map_one _) (by omega) (by unfold maxLen; omega) (by omega) ?_)
        intro A6 c6 w6 ho6 hg6 _
        have hBr6 := hBr5.grown hg6 hBr5.size (fun g hg => by have := (hoI5.blk_lt hg).1; omega)
        rw [← List.map_append] at ho6
        go_wp2_with (first | (with_reducible refine hold_append ?_) | (with_reducible refine hold_make ?_) | (with_reducible refine hold_copy ?_))
        exact ⟨⟨i + 1, ni + B.length, c6, A6, li ++ B, by omega, rfl, by go_num, ho6, hBr6, HC2⟩, by simp [RowKit.intOf]; omega⟩
      · have g1 : ¬ (i : Int) < (N : Int) := by omega
        have hle : li = INN := by
          have h := HC.out
          rw [List.drop_eq_nil_of_le (show v.list.length ≤ i by rw [← HN.out]; omega), manyB_nil, List.append_nil] at h
          exact h
        subst hle
        have hln : li.length = ni := RdB.length hoI.rd
        have hp := rnumber_any ni 4 wr (by omega) (by omega)
        have HB9 := hB.trans (hBr.mono hB.size)
        have hol := own_below hlit hBr
        have HRM : Hid (R = ([UInt8.ofNat 169] ++ be 4 ni) ++ li) := Lib.hid (by rw [HR2.out, hln])
        have HR5 : Hid (R.length = 1 + 4 + ni) := Lib.hid (by rw [HRL.out, hln])
        clear hel hky hln
        go_wp2_with (first | (with_reducible refine hold_append ?_) | (with_reducible refine hold_make ?_) | (with_reducible refine hold_copy ?_))
        refine hp.mono ?_
        rintro e w8 ⟨A8, c8, rfl, ho8, hB8⟩
        have hoI8 := own_below hoI hB8
        have hol8 := own_below hol hB8
        have hsz8 := hB8.size
        have hB98 := HB9.trans (hB8.mono (by omega))
        clear hp c0 c1 c2 c3 c4 hX4 hoI hol
        go_wp2_with (first | (with_reducible refine hold_append ?_) | (with_reducible refine hold_make ?_) | (with_reducible refine hold_copy ?_))
        refine unhold (wp_app slB rfl rfl rfl rfl hol8 ho8.rd (map_one _) (by omega) (by unfold maxLen; omega) (by omega) ?_)
        intro A9 c9 w9 ho9 hg9 _
        have hBx := hB98.grown hg9 hB98.size (fun g hg => by have h9 : some lb = some g := hg; injection h9 with h9; omega)
        have hoI9 := own_stays hoI8 hg9 (fun g hg e => by have h9 : some lb = some g := e; injection h9 with h9; have := (hoI8.blk_lt hg).1; omega)
        have hsz9 := hg9.size
        rw [← List.map_append] at ho9
        clear hoI8 hol8 hg9
        go_wp2_with (first | (with_reducible refine hold_append ?_) | (with_reducible refine hold_make ?_) | (with_reducible refine hold_copy ?_))
        refine unhold (wp_app slB rfl rfl rfl rfl ho9 hoI9.rd (map_one _) (by omega) (by unfold maxLen; omega) (by omega) ?_)
        intro A10 c10 w10 ho10 hg10 _
        have hBy := hBx.grown hg10 hBx.size (fun g hg => by have := (ho9.blk_lt hg).1; omega)
        rw [← List.map_append, ← HRM.out] at ho10
        go_wp2_with (first | (with_reducible refine hold_append ?_) | (with_reducible refine hold_make ?_) | (with_reducible refine hold_copy ?_))
        go_ret
        exact ⟨A10, c10, by rw [HR5.out]; rfl, by rw [HR5.out]; exact ho10.base_le hs1, hBy⟩
theorem vbyte_any (v : Vl) : VByteC v := Vl.ind (P := VByteC) vbyte_step v
end Go.PH
end
section
/- Put of a value: the walk of the document's program. -/
set_option linter.all false
set_option linter.unusedSimpArgs false
set_option linter.unusedVariables false
namespace Go.PH
open Go.RowKit Go.Proofs

set_option maxRecDepth 20000 in
theorem rvalput_any (v : Vl) (h : VH) (w : World) (hv : RVw w v h) : Calls Tryz.prog 74 #[.agg (vlV v h)] w fun e w' => ∃ A2 c2, e = .returned (.tuple #[.slice A2 (vlP v).length c2, .int .i64 (errV v)]) ∧ Own w' w.heap.size 5 1 A2 (vlP v).length c2 ((vlP v).map u8v) ∧ Below w.heap.size w w' := by
  obtain ⟨xb, w1, hxb, hxv, hX, hB1⟩ := alloc_stepV w #[.int .u8 (v.kind : Int), .int .u64 (v.n : Int), .string (str v.s), .slice h.A1 v.keys.length h.c1, .slice h.A2 v.list.length h.c2] 50
  have hv1 := hv.up hB1
  have hck := rvcheck_any v h w1 hv1
  have hs1 := hB1.size
  have c0 := hX.cell (j := 0) rfl
  have c1 := hX.cell (j := 1) rfl
  have c2 := hX.cell (j := 2) rfl
  have c3 := hX.cell (j := 3) rfl
  have c4 := hX.cell (j := 4) rfl
  by_cases he : errV v = 0
  · obtain ⟨hc, hm⟩ := errV_ok he
    have hlen := vlB_len 200 hm hc
    have hcl := cntV_le v 200
    have hp := fun W (hW : Below w1.heap.size w1 W) => vbyte_any v h W (hv1.up hW) hm (by omega)
    rw [show vlP v = vlB v by unfold vlP; rw [if_pos he]]
    rw [he] at hck ⊢
    unfold VByte at hp
    generalize vlB v = L at *
    have HP := Lib.hid hp
    clear he hc hm hlen hcl hp hv hv1
    unfold vlV at *
    go_enter Tryz.func74, Tryz.ntmps74
    go_upto_region 1 with fail
    rw [← hxb, ← hxv]
    clear hxb hxv
    go_wp2_with (first | (with_reducible refine hold_append ?_) | (with_reducible refine hold_make ?_) | (with_reducible refine hold_copy ?_))
    refine hck.mono ?_
    rintro e w2 ⟨rfl, hB2⟩
    have hX2 := hX.below hB2
    have hp := HP.out w2 hB2
    clear HP c0 c1 c2 c3 c4 hck
    have c0 := hX2.cell (j := 0) rfl
    have c1 := hX2.cell (j := 1) rfl
    have c2 := hX2.cell (j := 2) rfl
    have c3 := hX2.cell (j := 3) rfl
    have c4 := hX2.cell (j := 4) rfl
    go_wp2_with (first | (with_reducible refine hold_append ?_) | (with_reducible refine hold_make ?_) | (with_reducible refine hold_copy ?_))
    refine hp.mono ?_
    rintro e w3 ⟨A2, c2', rfl, ho, hB3⟩
    go_wp2_with (first | (with_reducible refine hold_append ?_) | (with_reducible refine hold_make ?_) | (with_reducible refine hold_copy ?_))
    go_ret2
    exact ⟨A2, c2', rfl, ho.base_le (Nat.le_trans hs1 hB2.size), hB1.trans ((hB2.trans (hB3.mono hB2.size)).mono hs1)⟩
  · rw [show vlP v = [] by unfold vlP; rw [if_neg he]]
    generalize errV v = r at *
    have g1 : (r != 0) = true := by simp; omega
    have g2 : (r == 0) = false := by simp; omega
    clear he hv hv1
    unfold vlV at *
    go_enter Tryz.func74, Tryz.ntmps74
    go_upto_region 1 with fail
    rw [← hxb, ← hxv]
    clear hxb hxv
    go_wp2_with (first | (with_reducible refine hold_append ?_) | (with_reducible refine hold_make ?_) | (with_reducible refine hold_copy ?_))
    refine hck.mono ?_
    rintro e w2 ⟨rfl, hB2⟩
    clear hck
    go_wp2_with (first | (with_reducible refine hold_append ?_) | (with_reducible refine hold_make ?_) | (with_reducible refine hold_copy ?_))
    go_ret2
    exact ⟨none, 0, rfl, Own.none_ _ _ _ _, hB1.trans (hB2.mono hs1)⟩
end Go.PH
end

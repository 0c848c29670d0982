/- Texts laid together: MdPut2, LkSend. -/
import Derived.Test.YtfbkameikhgciaaGreatDoorMg01
import Derived.Test.YtfbkameikhgciaaGreatDoorMg11
import Derived.Test.YtfbkameikhgciaaGreatDoorMg21
set_option linter.all false
set_option linter.unusedSimpArgs false
set_option linter.unusedVariables false
set_option maxRecDepth 20000
set_option maxHeartbeats 8000000
section
namespace Go.PH
open Go.RowKit Go.Proofs
structure SA where
 is : Bool
 n : Nat
 s : List UInt8
def saC (a : SA) : List Value := [.bool a.is, .int .u64 (a.n : Int), .string (str a.s), .int .u32 0, .string ⟨#[]⟩, .string ⟨#[]⟩, .slice none 0 0, .int .u8 0, .int .u64 0, .string ⟨#[]⟩, .slice none 0 0, .slice none 0 0]
theorem vY : RecShape saC 12 where
 len _ := rfl
 one a u hu := by simp [saC] at hu; rcases hu with rfl | rfl | rfl | rfl | rfl | rfl | rfl | rfl | rfl | rfl | rfl | rfl <;> rfl
 pos := by omega
def zy : List SA → Nat
 | [] => 0
 | a :: l => (if a.is then 1 else 0) + 2 * zy l
theorem kF (l : List SA) (a : SA) : zy (l ++ [a]) = zy l + (if a.is then 2 ^ l.length else 0) := by
 induction l with
 | nil => simp [zy]
 | cons b l ih =>
  simp only [List.cons_append, zy, ih, List.length_cons, Nat.pow_succ]
  generalize 2 ^ l.length = p
  generalize zy l = f
  cases a.is <;> cases b.is <;> simp <;> omega
theorem xP (l : List SA) : zy l < 2 ^ l.length := by
 induction l with
 | nil => simp [zy]
 | cons b l ih =>
  simp only [zy, List.length_cons, Nat.pow_succ]
  split <;> omega
theorem QG : ∀ k : Fin 8, ∀ f : Fin 256, f.val < 2 ^ k.val → bits .or .u64 ((f.val : Nat) : Int) ((2 ^ k.val : Nat) : Int) = ((f.val + 2 ^ k.val : Nat) : Int) := by decide +kernel
theorem qt (c : Nat) (w : World) : Calls Tryz.prog 70 #[.int .u8 (c : Int)] w fun e w' => e = .returned (.bool (decide (c ≤ 2))) ∧ w = w' := by
 by_cases h : c ≤ 2
 ·have h1 : (c : Int) ≤ 2 := by omega
  have h2 : decide (c ≤ 2) = true := by simpa using h
  rw [h2]
  clear h2
  go_enter Tryz.func70, Tryz.ntmps70
  go_wp2_with (with_reducible refine h_A ?_)
  go_ret
  exact ⟨rfl, rfl⟩
 ·have h1 : ¬ (c : Int) ≤ 2 := by omega
  have h2 : decide (c ≤ 2) = false := by simpa using h
  rw [h2]
  clear h2
  go_enter Tryz.func70, Tryz.ntmps70
  go_wp2_with (with_reducible refine h_A ?_)
  go_ret
  exact ⟨rfl, rfl⟩
theorem ZL (w : World) (a : Addr) (u : Value) : w.grownBy (w.setCell a u) (some a.block) :=
 ⟨rfl, rfl, rfl, by simp, fun k _ hk => Below.heap_setCell _ _ _ k (fun e => hk (by rw [e]))⟩
def qV (cls code : Nat) (sync : Bool) (flags : Nat) : List UInt8 := [UInt8.ofNat cls, UInt8.ofNat code] ++ (if cls ≤ 2 then [] else [1, if sync then 1 else 0]) ++ be 2 flags
theorem J3 (cls code : Nat) (sync : Bool) (L : List SA) (kd : List UInt8) (pm : Nat → List UInt8) (A : Option Addr) (n c : Nat) (w : World) (he : MEnv w) (hr : Rd w w.heap.size 12 A n c (rowC saC L)) (hk : yg (zZ cls code) = kd) (hf : (zZ cls code).isSome = true) (hn : n = kd.length) (hn8 : n ≤ 7) (hsy : sync = true → ¬ cls ≤ 2) (hc : cls < 256) (hcd : code < 256) (hpl : ∀ i, i < n → (pm i).length ≤ 70000)
  (hput : ∀ i (h : i < L.length) (h' : i < kd.length) (base : Nat) (W : World) (A' : Option Addr) (n' c' : Nat) (l : List UInt8), OwnB W base A' n' c' l → base ≤ W.heap.size → n' ≤ 100000000 → Calls Tryz.prog 71 #[.slice A' n' c', .int .u8 (kd[i].toNat : Int), .agg (saC L[i]).toArray] W (PutA W base (blk A') (l ++ pm i))) :
  Calls Tryz.prog 50 #[.agg #[.int .u8 (cls : Int), .int .u8 (code : Int), .bool sync, .slice A n c]] w fun e w' => ∃ A2 c2, e = .returned (.tuple #[.slice A2 (qV cls code sync (zy L) ++ (List.range n).flatMap pm).length c2, .int .i64 0]) ∧ OwnB w' w.heap.size A2 (qV cls code sync (zy L) ++ (List.range n).flatMap pm).length c2 (qV cls code sync (zy L) ++ (List.range n).flatMap pm) ∧ Below w.heap.size w w' := by
 obtain ⟨RES, hRES⟩ : ∃ RES, RES = qV cls code sync (zy L) ++ (List.range n).flatMap pm := ⟨_, rfl⟩
 rw [← hRES]
 have HRES := Lib.hid hRES
 clear hRES
 have hLl1 : L.length ≤ n := by have := yw vY hr; omega
 have hLl2 : n ≤ L.length := by have := yw vY hr; omega
 have hnk1 : n ≤ kd.length := by omega
 have hnk2 : kd.length ≤ n := by omega
 have hlen : ((n : Int) != ((str kd).size : Int)) = false := by rw [zj, hn]; simp
 have hlen2 : ((n : Int) != (kd.length : Int)) = false := by rw [hn]; simp
 clear hn
 have hkn := js cls code
 rw [hk, hf] at hkn
 have hkn0 := hkn (w.alloc (.cells #[.int .u8 (cls : Int), .int .u8 (code : Int), .bool sync, .slice A n c] 106)) (he.on ((Below.refl _ _).alloc (Nat.le_refl _) _))
 have hss := zj kd
 have hbm := Box.new w #[.int .u8 (cls : Int), .int .u8 (code : Int), .bool sync, .slice A n c] 106
 have hB0 := (Below.refl w.heap.size w).alloc (Nat.le_refl _) (.cells #[.int .u8 (cls : Int), .int .u8 (code : Int), .bool sync, .slice A n c] 106)
 have HPUT := Lib.hid hput
 have HPL := Lib.hid hpl
 have hr0 := fun W (hW : Below w.heap.size w W) => hr.below hW
 have hct := fun W => qt cls W
 clear hput hpl hk hf hkn hr he
 go_enter Tryz.func50, Tryz.ntmps50
 go_upto_region 1 with fail
 obtain ⟨mb, hmb⟩ : ∃ m, m = w.heap.size := ⟨_, rfl⟩
 rw [← hmb] at hbm ⊢
 have hmw : w.heap.size ≤ mb := by omega
 clear hmb
 generalize (w.alloc (.cells #[.int .u8 (cls : Int), .int .u8 (code : Int), .bool sync, .slice A n c] 106)) = w0 at *
 have x0 := hbm.c0
 have x1 := hbm.c1
 have x2 := hbm.c2
 have x3 := hbm.c3
 go_wp2_with (with_reducible refine h_A ?_)
 refine hkn0.mono ?_
 rintro e w1 ⟨rfl, hB1⟩
 have hbm1 := hbm.below hB1
 have hB01 := hB0.trans (hB1.mono hB0.size)
 clear x0 x1 x2 x3 hkn0 hbm hB0 hB1
 have x0 := hbm1.c0
 have x1 := hbm1.c1
 have x2 := hbm1.c2
 have x3 := hbm1.c3
 have hlt1 := hbm1.lt
 go_upto_region 2 with fail
 go_cut [38] from 12 to 88 (fun s wx => s = .bool false ∧ w1 = wx)
 case first =>
  cases sync
  ·go_wp2_with (with_reducible refine h_A ?_)
   go_meet
   case rel => exact ⟨rfl, rfl⟩
  ·have hd : decide (cls ≤ 2) = false := by simpa using hsy rfl
   go_wp2_with (with_reducible refine h_A ?_)
   refine (hct _).mono ?_
   rintro e w2 ⟨rfl, rfl⟩
   rw [hd]
   clear hd
   go_wp2_with (with_reducible refine h_A ?_)
   go_meet
   case rel => exact ⟨rfl, rfl⟩
 case rest =>
  obtain ⟨rfl, rfl⟩ := hcut
  have HSY := Lib.hid hsy
  clear hsy
  have ho1 : OwnB w1 (mb + 1) none 0 0 [] := Own.none_ _ _ _ _
  go_wp2_with (with_reducible refine h_A ?_)
  go_loopw [42, 6, 7] (fun s42 s6 s7 wr => ∃ (k c2 m : Nat) (A2 : Option Addr), k ≤ n ∧ s42 = .int .i64 k ∧ s6 = .slice A2 m c2 ∧ s7 = .int .u64 ((zy (L.take k) : Nat) : Int) ∧ OwnB wr (mb + 1) A2 m c2 ((List.range k).flatMap pm) ∧ m ≤ 70000 * k ∧ Box wr mb 106 #[.int .u8 (cls : Int), .int .u8 (code : Int), .bool sync, .slice A n c] ∧ Below w.heap.size w wr) (fun s _ _ _ => n - (RowKit.intOf s).toNat)
  case atStart => exact ⟨0, 0, 0, none, by omega, rfl, rfl, rfl, ho1, by omega, hbm1, hB01⟩
  case round =>
   obtain ⟨k, c2, m, A2, hk, rfl, rfl, rfl, ho, hm, hb, hB⟩ := hrel
   clear ho1 hbm1 hB01 x0 x1 x2 x3 hlen hlen2
   have hbsz := hb.lt
   by_cases hlt : k < n
   ·have hkn : (k : Int) < (n : Int) := by omega
    have hkd : k < kd.length := by omega
    have hsk : k < (str kd).size := by rw [hss]; exact hkd
    obtain ⟨ab, aoff, hA, _, hkL, hac⟩ := xW vY (hr0 wr hB) hlt
    have HFS : Hid (zy (L.take (k + 1)) = zy (L.take k) + (if L[k].is then 2 ^ k else 0)) := Lib.hid (by rw [List.take_succ_eq_append_getElem hkL, kF, List.length_take, Nat.min_eq_left (by omega)])
    have hfl := xP (L.take k)
    rw [List.length_take, Nat.min_eq_left (by omega : k ≤ L.length)] at hfl
    have hpk := HPUT.out k hkL hkd
    have hplk := HPL.out k hlt
    generalize L[k] = a at *
    obtain ⟨is, v, s⟩ := a
    have z0 : wr.cell? ⟨ab, aoff + k * 12, none⟩ = _ := hac 0 _ rfl
    have z1 := hac 1 _ rfl
    have z2 := hac 2 _ rfl
    have z3 := hac 3 _ rfl
    have z4 := hac 4 _ rfl
    have z5 := hac 5 _ rfl
    have z6 := hac 6 _ rfl
    have z7 := hac 7 _ rfl
    have z8 := hac 8 _ rfl
    have z9 := hac 9 _ rfl
    have zA := hac 10 _ rfl
    have zB := hac 11 _ rfl
    subst hA
    have hxb := Box.new wr #[.bool is, .int .u64 (v : Int), .string (str s), .int .u32 0, .string ⟨#[]⟩, .string ⟨#[]⟩, .slice none 0 0, .int .u8 0, .int .u64 0, .string ⟨#[]⟩, .slice none 0 0, .slice none 0 0] 80
    have hb2 := hb.alloc (.cells #[.bool is, .int .u64 (v : Int), .string (str s), .int .u32 0, .string ⟨#[]⟩, .string ⟨#[]⟩, .slice none 0 0, .int .u8 0, .int .u64 0, .string ⟨#[]⟩, .slice none 0 0, .slice none 0 0] 80)
    have hB2 := hB.alloc hB.size (.cells #[.bool is, .int .u64 (v : Int), .string (str s), .int .u32 0, .string ⟨#[]⟩, .string ⟨#[]⟩, .slice none 0 0, .int .u8 0, .int .u64 0, .string ⟨#[]⟩, .slice none 0 0, .slice none 0 0] 80)
    have ho2 : OwnB (wr.alloc (.cells #[.bool is, .int .u64 (v : Int), .string (str s), .int .u32 0, .string ⟨#[]⟩, .string ⟨#[]⟩, .slice none 0 0, .int .u8 0, .int .u64 0, .string ⟨#[]⟩, .slice none 0 0, .slice none 0 0] 80)) (mb + 1) A2 m c2 ((List.range k).flatMap pm) := ho.alloc _
    have hnx : ∀ g, blk A2 = some g → g < wr.heap.size ∧ mb < g := fun g hg => ⟨(ho.blk_lt hg).2, by have := (ho.blk_lt hg).1; omega⟩
    clear hac
    go_upto_region 10 with fail
    obtain ⟨xb, hxq⟩ : ∃ g, g = wr.heap.size := ⟨_, rfl⟩
    rw [← hxq] at hxb hnx ⊢
    clear hxq z0 z1 z2 z3 z4 z5 z6 z7 z8 z9 zA zB ho hb hB
    generalize (wr.alloc (.cells #[.bool is, .int .u64 (v : Int), .string (str s), .int .u32 0, .string ⟨#[]⟩, .string ⟨#[]⟩, .slice none 0 0, .int .u8 0, .int .u64 0, .string ⟨#[]⟩, .slice none 0 0, .slice none 0 0] 80)) = w2 at *
    go_cut [6, 10] from 43 to 64 (fun s6 s10 wx => ∃ (A3 : Option Addr) (c3 : Nat), s6 = .slice A3 (m + (pm k).length) c3 ∧ s10 = .bool true ∧ OwnB wx (mb + 1) A3 (m + (pm k).length) c3 ((List.range k).flatMap pm ++ pm k) ∧ Box wx mb 106 #[.int .u8 (cls : Int), .int .u8 (code : Int), .bool sync, .slice (some ⟨ab, aoff, none⟩) n c] ∧ Box wx xb 80 #[.bool is, .int .u64 (v : Int), .string (str s), .int .u32 0, .string ⟨#[]⟩, .string ⟨#[]⟩, .slice none 0 0, .int .u8 0, .int .u64 0, .string ⟨#[]⟩, .slice none 0 0, .slice none 0 0] ∧ Below w.heap.size w wx)
    case first =>
     as_aux_lemma =>
     refine zD (fun W : World => Box W xb 80 #[.bool is, .int .u64 (v : Int), .string (str s), .int .u32 0, .string ⟨#[]⟩, .string ⟨#[]⟩, .slice none 0 0, .int .u8 0, .int .u64 0, .string ⟨#[]⟩, .slice none 0 0, .slice none 0 0]) (by kernel_rfl) ?_
     have hS : Box w2.drew xb 80 #[.bool is, .int .u64 (v : Int), .string (str s), .int .u32 0, .string ⟨#[]⟩, .string ⟨#[]⟩, .slice none 0 0, .int .u8 0, .int .u64 0, .string ⟨#[]⟩, .slice none 0 0, .slice none 0 0] := hxb
     have hb3 : Box w2.drew mb 106 #[.int .u8 (cls : Int), .int .u8 (code : Int), .bool sync, .slice (some ⟨ab, aoff, none⟩) n c] := hb2
     have ho3 : OwnB w2.drew (mb + 1) A2 m c2 ((List.range k).flatMap pm) := Own.drewN ho2 1
     have hB3 : Below w.heap.size w w2.drew := za hB2 1
     clear hxb hb2 ho2 hB2
     generalize w2.drew = wd at *
     have hsz3 := hb3.lt
     refine rg_t 0 hS ?_
     simp only [List.getElem_toArray, List.getElem_cons_zero, Act.put, List.setIfInBounds_toArray, List.set_cons_zero, List.set_cons_succ]
     refine rg_t 1 hS ?_
     simp only [g_S, Act.put]
     refine rg_t 2 hS ?_
     simp only [g_S, Act.put]
     refine rg_t 3 hS ?_
     simp only [g_S, Act.put]
     refine zv 4 (v := ?_) rfl (by kernel_rfl) (by kernel_rfl) (by kernel_rfl) hS rfl ?_ ?_
     rotate_left
     ·intro wS hSw
      have x0 := hSw.c0
      have x1 := hSw.c1
      have x2 := hSw.c2
      have x3 := hSw.c3
      have x4 := hSw.c4
      have x5 := hSw.c5
      have x6 := hSw.c6
      have x7 := hSw.c7
      have x8 := hSw.c8
      have x9 := hSw.c9
      have xA := hSw.c10
      have xB := hSw.c11
      go_simp
      (with_reducible rfl)
     try simp only [g_S, Act.put]
     refine zi 5 rfl (by kernel_rfl) rfl (fun K hK => ?_)
     go_simp
     refine (hpk (mb + 1) wd A2 m c2 _ ho3 (by omega) (by omega)).mono ?_
     rintro e w5 ⟨A3, c3, rfl, ho5, hK5, hB5⟩
     have hS5 := hK5.box hS (fun e => by have := (hnx _ e).1; omega)
     have hb5 := hK5.box hb3 (fun e => by have := (hnx _ e).2; omega)
     have hB6 := hB3.trans (hB5.mono (by omega))
     have hlo : ((List.range k).flatMap pm ++ pm k).length = m + (pm k).length := by have := RdB.length ho3.rd; rw [List.length_append, this]
     rw [hlo] at ho5 ⊢
     refine hK _ _ hS5 ?_; clear hK K
     try simp only [g_S, Act.put]
     refine rg_t 6 hS5 ?_
     simp only [g_S, Act.put]
     refine rg_t 7 hS5 ?_
     simp only [g_S, Act.put]
     refine rg_t 8 hS5 ?_
     simp only [g_S, Act.put]
     refine rg_t 9 hS5 ?_
     simp only [g_S, Act.put]
     refine rg_t 10 hS5 ?_
     simp only [g_S, Act.put]
     refine zK (by kernel_rfl) ?_
     go_wp2_with fail
     go_meet
     exact ⟨A3, c3, rfl, rfl, ho5, hb5, hS5, hB6⟩
    case rest =>
     as_aux_lemma =>
     obtain ⟨A3, c3, rfl, rfl, ho5, hb5, hS5, hB6⟩ := hcut
     have HO : Hid ((List.range (k + 1)).flatMap pm = (List.range k).flatMap pm ++ pm k) := Lib.hid (by rw [List.range_succ, List.flatMap_append]; simp)
     have y0 := hS5.c0
     cases is
     ·have HF2 : Hid (zy (L.take (k + 1)) = zy (L.take k)) := Lib.hid (by rw [HFS.out]; simp)
      go_wp2_with (with_reducible refine h_A ?_)
      exact ⟨⟨k + 1, c3, m + (pm k).length, A3, by omega, by go_num, rfl, by rw [HF2.out], by rw [HO.out]; exact ho5, by omega, hb5, hB6⟩, by simp [RowKit.intOf]; omega⟩
     ·have HF2 : Hid (zy (L.take (k + 1)) = zy (L.take k) + 2 ^ k) := Lib.hid (by rw [HFS.out]; simp)
      have h256 : (2 : Nat) ^ k ≤ 2 ^ 7 := Nat.pow_le_pow_right (by omega) (by omega)
      have hor := QG ⟨k, by omega⟩ ⟨zy (L.take k), by omega⟩ hfl
      simp only at hor
      generalize zy (L.take k) = fl at *
      generalize hp : 2 ^ k = pk at *
      go_wp2_with (with_reducible refine h_A ?_)
      have hw : IntKind.u64.wrap ((2 : Int) ^ k) = (pk : Int) := by
       have e : (2 : Int) ^ k = ((2 ^ k : Nat) : Int) := by push_cast; rfl
       rw [e, hp]
       exact IntWalk.u64_in _ ⟨by omega, by omega⟩
      exact ⟨⟨k + 1, c3, m + (pm k).length, A3, by omega, by go_num, rfl, by rw [hw, hor, HF2.out], by rw [HO.out]; exact ho5, by omega, hb5, hB6⟩, by simp [RowKit.intOf]; omega⟩
   ·have hkk : k = n := by omega
    have hkn : ¬ (k : Int) < (n : Int) := by omega
    have HFL : Hid (zy (L.take k) = zy L) := Lib.hid (by rw [List.take_of_length_le (by omega)])
    have hfl := xP L
    have h256 : (2 : Nat) ^ L.length ≤ 2 ^ 7 := Nat.pow_le_pow_right (by omega) (by omega)
    have hfl8 : zy L < 256 := by omega
    clear hfl h256
    rw [HFL.out]
    generalize zy L = fl at *
    rw [hkk] at ho ⊢
    clear hkk HFL HPUT HPL hr0
    generalize (List.range n).flatMap pm = I at *
    have hIl := RdB.length ho.rd
    have HIL := Lib.hid hIl
    clear hIl
    have hwr := hB.size
    have x0 := hb.c0
    have x1 := hb.c1
    have x2 := hb.c2
    have x3 := hb.c3
    have hl2 := xe (w := wr) (mb + 1) #[.int .u8 (cls : Int), .int .u8 (code : Int)] 5 2 (by omega) (by simp [maxLen]) (size := 1) rfl (by omega)
    have hb2 := hb.alloc (.cells #[.int .u8 (cls : Int), .int .u8 (code : Int)] 5)
    have hB2 := hB.alloc hB.size (.cells #[.int .u8 (cls : Int), .int .u8 (code : Int)] 5)
    have ho2 : OwnB (wr.alloc (.cells #[.int .u8 (cls : Int), .int .u8 (code : Int)] 5)) (mb + 1) A2 m c2 I := ho.alloc _
    have hsep : ∀ g, blk A2 = some g → g < wr.heap.size := fun g hg => (ho.blk_lt hg).2
    go_upto_region 17 with fail
    obtain ⟨lb, hlb⟩ : ∃ g, g = wr.heap.size := ⟨_, rfl⟩
    rw [← hlb] at hl2 hsep hwr ⊢
    have hmbl : mb < lb := by rw [hlb]; exact hb.lt
    clear hlb ho hb hB x0 x1 x2 x3
    generalize (wr.alloc (.cells #[.int .u8 (cls : Int), .int .u8 (code : Int)] 5)) = w2 at *
    have hl2' : OwnB w2 (mb + 1) (some ⟨lb, 0, none⟩) 2 2 [UInt8.ofNat cls, UInt8.ofNat code] := by
     have e : ([UInt8.ofNat cls, UInt8.ofNat code].map u8v) = (#[.int .u8 (cls : Int), .int .u8 (code : Int)] : Array Value).toList := by
      simp [u8v, Nat.mod_eq_of_lt hc, Nat.mod_eq_of_lt hcd]
     show Own w2 (mb + 1) 5 1 (some ⟨lb, 0, none⟩) 2 2 _
     rw [e]
     exact hl2
    clear hl2
    have x0 := hb2.c0
    have x1 := hb2.c1
    have x2 := hb2.c2
    have x3 := hb2.c3
    have hcz := hct w2
    clear hct
    by_cases hcls : cls ≤ 2
    ·have hd : decide (cls ≤ 2) = true := by simpa using hcls
     have HH : Hid (RES = ([UInt8.ofNat cls, UInt8.ofNat code] ++ be 2 fl) ++ I)   := Lib.hid (by rw [HRES.out]; unfold qV; rw [if_pos hcls]; simp)
     rw [hd] at hcz
     clear hd hcls
     have hM : puts [UInt8.ofNat cls, UInt8.ofNat code] fl 2 = [UInt8.ofNat cls, UInt8.ofNat code] ++ be 2 fl := by unfold puts; rw [if_pos (by decide)]; rfl
     have hpt := zX (some ⟨lb, 0, none⟩) 2 2 [UInt8.ofNat cls, UInt8.ofNat code] fl 2 w2 hl2'.rd (by omega) (by omega)
     rw [hM] at hpt
     have hML : ([UInt8.ofNat cls, UInt8.ofNat code] ++ be 2 fl).length ≤ 10 := by simp [be]
     generalize [UInt8.ofNat cls, UInt8.ofNat code] ++ be 2 fl = M at *
     clear hM
     go_wp2_with (with_reducible refine h_A ?_)
     refine hcz.mono ?_
     rintro e w3 ⟨rfl, rfl⟩
     clear hcz
     go_wp2_with (with_reducible refine h_A ?_)
     refine hpt.mono ?_
     rintro e w4 ⟨A4, c4, rfl, ho4, hB4⟩
     have hszB := hB2.size
     have ho6 := zg ho2 hB4
     have hB6 := hB2.trans (hB4.mono hB2.size)
     have hsz6 := hB4.size
     clear x0 x1 x2 x3 hpt hb2 ho2 hB2 hB4
     go_wp2_with (with_reducible refine h_B ?_)
     refine zc (yn slB rfl rfl rfl rfl ho4 ho6.rd (zU _) (by omega) (by unfold maxLen; omega) hsz6 ?_)
     intro A7 c7 w7 ho7 hg7 hb7
     have hB7 := hB6.grown hg7 hB6.size (fun g hg => by have := (ho4.blk_lt hg).1; omega)
     have e : (M ++ I).length = M.length + m := by rw [List.length_append, HIL.out]
     rw [← List.map_append, ← e] at ho7
     go_wp2_with (with_reducible refine h_A ?_)
     go_ret2
     rw [HH.out]
     exact ⟨A7, c7, by rw [e]; rfl, Own.base_le ho7 (by omega), hB7⟩
    ·have hd : decide (cls ≤ 2) = false := by simpa using hcls
     have HHs : Hid (RES = (([UInt8.ofNat cls, UInt8.ofNat code] ++ [1, if sync then 1 else 0]) ++ be 2 fl) ++ I) := Lib.hid (by rw [HRES.out]; unfold qV; rw [if_neg hcls])
     rw [hd] at hcz
     clear hd hcls
     go_wp2_with (with_reducible refine h_A ?_)
     refine hcz.mono ?_
     rintro e w3 ⟨rfl, rfl⟩
     clear hcz
     have hlt2 := xe (w := w2) (mb + 1) #[.int .u8 1, .int .u8 0] 5 2 (by have := hb2.lt; omega) (by simp [maxLen]) (size := 1) rfl (by omega)
     have hlt2r : RdB (w2.alloc (.cells #[.int .u8 1, .int .u8 0] 5)) (w2.alloc (.cells #[.int .u8 1, .int .u8 0] 5)).heap.size (some ⟨w2.heap.size, 0, none⟩) 2 2 [1, 0] := hlt2.rd
     have hl3 : OwnB (w2.alloc (.cells #[.int .u8 1, .int .u8 0] 5)) (mb + 1) (some ⟨lb, 0, none⟩) 2 2 [UInt8.ofNat cls, UInt8.ofNat code] := hl2'.alloc _
     have ho3 : OwnB (w2.alloc (.cells #[.int .u8 1, .int .u8 0] 5)) (mb + 1) A2 m c2 I := ho2.alloc _
     have hb3 := hb2.alloc (.cells #[.int .u8 1, .int .u8 0] 5)
     have hB3 := hB2.alloc hB2.size (.cells #[.int .u8 1, .int .u8 0] 5)
     have hsz3 : mb + 1 ≤ (w2.alloc (.cells #[.int .u8 1, .int .u8 0] 5)).heap.size := hb3.lt
     clear x0 x1 x2 x3 hl2' ho2 hb2 hB2 hlt2
     go_wp2_with (with_reducible refine h_B ?_)
     refine zc (yn slB rfl rfl rfl rfl hl3 hlt2r (zU _) (by omega) (by unfold maxLen; omega) hsz3 ?_)
     intro A5 c5 w5 ho5 hg5 hb5
     have hne5 : ∀ g, blk A2 = some g → some g ≠ blk (some ⟨lb, 0, none⟩) := fun g hg e => by have := hsep g hg; injection e with e; simp at e; omega
     have ho2 := zf ho3 hg5 (fun g hg e => hne5 g hg e.symm)
     have hb2 := hb3.grown hg5 (by intro e; injection e with e; simp at e; omega)
     have hB2 := hB3.grown hg5 hB3.size (fun g hg => by injection hg with hg; simp at hg; omega)
     have hlb3 := (hl3.blk_lt (g := lb) rfl).2
     have hne6 : ∀ g, blk A2 = some g → ¬ blk A5 = some g := fun g hg e => by
      rcases hb5 with h5 | h5
      ·exact hne5 g hg (by rw [← h5, e])
      ·have h6 := hsep g hg; rw [h5] at e; injection e with e; omega
     rw [← List.map_append] at ho5
     clear hl3 ho3 hb3 hB3 hlt2r hg5 hb5
     cases sync
     ·have HH : Hid (RES = (([UInt8.ofNat cls, UInt8.ofNat code] ++ [1, 0]) ++ be 2 fl) ++ I) := Lib.hid (by rw [HHs.out]; rfl)
      clear HHs
      have hM : puts ([UInt8.ofNat cls, UInt8.ofNat code] ++ [1, 0]) fl 2 = ([UInt8.ofNat cls, UInt8.ofNat code] ++ [1, 0]) ++ be 2 fl := by unfold puts; rw [if_pos (by decide)]; rfl
      have hpt := zX A5 4 c5 ([UInt8.ofNat cls, UInt8.ofNat code] ++ [1, 0]) fl 2 w5 ho5.rd (by omega) (by omega)
      rw [hM] at hpt
      have hML : (([UInt8.ofNat cls, UInt8.ofNat code] ++ [1, 0]) ++ be 2 fl).length ≤ 10 := by simp [be]
      generalize ([UInt8.ofNat cls, UInt8.ofNat code] ++ [1, 0]) ++ be 2 fl = M at *
      clear hM
      have x0 := hb2.c0
      have x1 := hb2.c1
      have x2 := hb2.c2
      have x3 := hb2.c3
      go_wp2_with (with_reducible refine h_A ?_)
      refine hpt.mono ?_
      rintro e w4 ⟨A4, c4, rfl, ho4, hB4⟩
      have hszB := hB2.size
      have ho6 := zg ho2 hB4
      have hB6 := hB2.trans (hB4.mono hB2.size)
      have hsz6 := hB4.size
      clear x0 x1 x2 x3 hpt hb2 ho2 hB2 hB4
      go_wp2_with (with_reducible refine h_B ?_)
      refine zc (yn slB rfl rfl rfl rfl ho4 ho6.rd (zU _) (by omega) (by unfold maxLen; omega) hsz6 ?_)
      intro A7 c7 w7 ho7 hg7 hb7
      have hB7 := hB6.grown hg7 hB6.size (fun g hg => by have := (ho4.blk_lt hg).1; omega)
      have e : (M ++ I).length = M.length + m := by rw [List.length_append, HIL.out]
      rw [← List.map_append, ← e] at ho7
      go_wp2_with (with_reducible refine h_A ?_)
      go_ret2
      rw [HH.out]
      exact ⟨A7, c7, by rw [e]; rfl, Own.base_le ho7 (by omega), hB7⟩
     ·have HH : Hid (RES = (([UInt8.ofNat cls, UInt8.ofNat code] ++ [1, 1]) ++ be 2 fl) ++ I) := Lib.hid (by rw [HHs.out]; rfl)
      clear HHs
      have ho5' : Own w5 (mb + 1) 5 1 A5 4 c5 (([UInt8.ofNat cls, UInt8.ofNat code] ++ [1, 0]).map u8v) := ho5
      obtain ⟨g5, rfl, hwg, hbg, hgl, hcell, hfz, hst⟩ := OwnB.at_k ho5' (k := 3) (by omega)
      have hce : w5.cell? ⟨g5, 3, none⟩ = some (.int .u8 0) := hcell
      have hst1 : OwnB (w5.setCell ⟨g5, 3, none⟩ (.int .u8 1)) (mb + 1) (some ⟨g5, 0, none⟩) 4 c5 ([UInt8.ofNat cls, UInt8.ofNat code] ++ [1, 1]) := hst 1
      have hgs := ZL w5 ⟨g5, 3, none⟩ (.int .u8 1)
      have hb4 := hb2.grown hgs (by intro e; injection e with e; simp at e; omega)
      have hB4 := hB2.grown hgs hB2.size (fun g hg => by injection hg with hg; simp at hg; omega)
      have hbk : blk (some (⟨g5, 0, none⟩ : Addr)) = some g5 := rfl
      have ho4 := zf ho2 hgs (fun g hg e => by injection e with e; simp at e; exact hne6 g hg (by rw [hbk, e]))
      clear hcell hst hgs ho5 ho5' hB2 ho2
      have x0 := hb2.c0
      have x1 := hb2.c1
      have x2 := hb2.c2
      have x3 := hb2.c3
      go_upto_region 21 with fail
      clear x0 x1 x2 x3 hb2 hce hfz
      generalize (w5.setCell ⟨g5, 3, none⟩ (.int .u8 1)) = w6 at *
      have ho5 := hst1
      have hb2 := hb4
      have hB2 := hB4
      have ho2 := ho4
      clear hst1 hb4 hB4 ho4
      have hM : puts ([UInt8.ofNat cls, UInt8.ofNat code] ++ [1, 1]) fl 2 = ([UInt8.ofNat cls, UInt8.ofNat code] ++ [1, 1]) ++ be 2 fl := by unfold puts; rw [if_pos (by decide)]; rfl
      have hpt := zX (some ⟨g5, 0, none⟩) 4 c5 ([UInt8.ofNat cls, UInt8.ofNat code] ++ [1, 1]) fl 2 w6 ho5.rd (by omega) (by omega)
      rw [hM] at hpt
      have hML : (([UInt8.ofNat cls, UInt8.ofNat code] ++ [1, 1]) ++ be 2 fl).length ≤ 10 := by simp [be]
      generalize ([UInt8.ofNat cls, UInt8.ofNat code] ++ [1, 1]) ++ be 2 fl = M at *
      clear hM
      have x0 := hb2.c0
      have x1 := hb2.c1
      have x2 := hb2.c2
      have x3 := hb2.c3
      go_wp2_with (with_reducible refine h_A ?_)
      refine hpt.mono ?_
      rintro e w4 ⟨A4, c4, rfl, ho4, hB4⟩
      have hszB := hB2.size
      have ho6 := zg ho2 hB4
      have hB6 := hB2.trans (hB4.mono hB2.size)
      have hsz6 := hB4.size
      clear x0 x1 x2 x3 hpt hb2 ho2 hB2 hB4
      go_wp2_with (with_reducible refine h_B ?_)
      refine zc (yn slB rfl rfl rfl rfl ho4 ho6.rd (zU _) (by omega) (by unfold maxLen; omega) hsz6 ?_)
      intro A7 c7 w7 ho7 hg7 hb7
      have hB7 := hB6.grown hg7 hB6.size (fun g hg => by have := (ho4.blk_lt hg).1; omega)
      have e : (M ++ I).length = M.length + m := by rw [List.length_append, HIL.out]
      rw [← List.map_append, ← e] at ho7
      go_wp2_with (with_reducible refine h_A ?_)
      go_ret2
      rw [HH.out]
      exact ⟨A7, c7, by rw [e]; rfl, Own.base_le ho7 (by omega), hB7⟩
end Go.PH
end
section
namespace Go.PH
open Go.RowKit Go.Proofs
theorem jo (n : Nat) (s : List UInt8) (w : World) :
  Calls Tryz.prog 37 #[.int .u64 (n : Int), .string (str s)] w fun e w' => e = .returned (.agg #[.bool true, .int .u64 (n : Int), .string (str s), .int .u32 0, .string ⟨#[]⟩, .string ⟨#[]⟩, .slice none 0 0, .int .u8 0, .int .u64 0, .string ⟨#[]⟩, .slice none 0 0, .slice none 0 0]) ∧ Below w.heap.size w w' := by
 obtain ⟨rb, w0, hqb, hqv, hr, hB0⟩ := zr w #[.bool false, .int .u64 0, .string ⟨#[]⟩, .int .u32 0, .string ⟨#[]⟩, .string ⟨#[]⟩, .slice none 0 0, .int .u8 0, .int .u64 0, .string ⟨#[]⟩, .slice none 0 0, .slice none 0 0] 80
 have hrw : w.heap.size ≤ rb := by omega
 go_enter Tryz.func37, Tryz.ntmps37
 go_wp2_with (with_reducible refine h_B ?_)
 rw [← hqb, ← hqv]
 clear hqb hqv
 refine zc (zm (v := .agg #[.bool true, .int .u64 (n : Int), .string (str s), .int .u32 0, .string ⟨#[]⟩, .string ⟨#[]⟩, .slice none 0 0, .int .u8 0, .int .u64 0, .string ⟨#[]⟩, .slice none 0 0, .slice none 0 0]) (vs := [.bool true, .int .u64 (n : Int), .string (str s), .int .u32 0, .string ⟨#[]⟩, .string ⟨#[]⟩, .slice none 0 0, .int .u8 0, .int .u64 0, .string ⟨#[]⟩, .slice none 0 0, .slice none 0 0]) rfl rfl rfl rfl hr rfl (by kernel_rfl) (by simp) (by simp [Value.oneCell']) #[.bool true, .int .u64 (n : Int), .string (str s), .int .u32 0, .string ⟨#[]⟩, .string ⟨#[]⟩, .slice none 0 0, .int .u8 0, .int .u64 0, .string ⟨#[]⟩, .slice none 0 0, .slice none 0 0] (by simp) ?_)
 intro w1 hr1 hg1 hz1
 clear hz1
 have hB1 : Below w.heap.size w w1 := hB0.grown hg1 hB0.size (fun g hg => by injection hg with hg; omega)
 go_wp2_with (with_reducible refine h_B ?_)
 exact yP rfl hr1 rfl Tryz.underlying80 rfl (by kernel_rfl) rfl ⟨rfl, hB1⟩
def CtlC (code : Nat) (L : List SA) (bs : List UInt8) : Prop :=
 ∀ (A : Option Addr) (n c : Nat) (w : World), MEnv w → Rd w w.heap.size 12 A n c (rowC saC L) →
  Calls Tryz.prog 50 #[.agg #[.int .u8 1, .int .u8 (code : Int), .bool false, .slice A n c]] w fun e w' => ∃ A2 c2, e = .returned (.tuple #[.slice A2 bs.length c2, .int .i64 0]) ∧ OwnB w' w.heap.size A2 bs.length c2 bs ∧ Below w.heap.size w w'
def ctlB (sz : Nat) (bs : List UInt8) : List UInt8 := jh ((sz : Int) - 12) ⟨0, 0, [⟨0, bs⟩]⟩
theorem bplL : BPl 61 8 5 := ⟨by kernel_rfl, by omega⟩
theorem Wrote.from {w w1 w' : World} {T g off base : Nat} {cs : Array Value} {A : Option Addr} {l : List UInt8} (h : Wrote w1 T g off base cs A l w') (hB : Below w.heap.size w w1) : Wrote w T g off base cs A l w' := by
 obtain ⟨⟨A2, c2, h1, h2, h3, h4⟩, h5⟩ := h
 exact ⟨⟨A2, c2, h1, h2, h3, h4.imp id (fun e k hk => by have := e k hk; have := hB.size; omega)⟩, (KeepF.below hB).trans h5 (fun k hk => .inl hk)⟩
theorem kC (code : Nat) (L : List SA) (bs : List UInt8) (hctl : CtlC code L bs) (hbs : bs.length ≤ 10000) (lb sz base sn sc : Nat) (cs : Array Value) (p : Value) (SA : Option Addr) (l : List UInt8) (A : Option Addr) (n c : Nat) (w : World) (he : MEnv w) (hr : Rd w w.heap.size 12 A n c (rowC saC L))
  (hb : Box w lb 61 cs) (hs : cs.size = 8) (h4 : cs[4]? = some (.int .u64 (sz : Int))) (hsz : sz ≤ 1000000) (h5 : cs[5]? = some p) (hp : p = .pointer none ∨ p = bPtr lb 5) (h6 : cs[6]? = some (.slice SA sn sc)) (hown : Own w base 5 1 SA sn sc (l.map u8v)) (hne : blk SA ≠ some lb) (hbase : base ≤ w.heap.size) (hsn : sn ≤ 10000000000) :
  Calls Tryz.prog 36 #[.pointer (some ⟨lb, 0, none⟩), .int .u8 (code : Int), .slice A n c] w fun e w' => e = .returned (.tuple #[]) ∧ Wrote w 61 lb 5 base cs SA (l ++ ctlB sz bs) w' := by
 have hpt := hctl A n c w he hr
 clear hctl he hr
 go_enter Tryz.func36, Tryz.ntmps36
 go_wp2_with (with_reducible refine h_A ?_)
 refine hpt.mono ?_
 rintro e w1 ⟨A1, c1, rfl, hO1, hB1⟩
 have hcv := jg (P := Tryz.prog) Tryz.underlying55 Tryz.underlying9 Tryz.underlying5 hO1.rd
 obtain ⟨gb, w2, hqb, hqv, hG, hB12⟩ := zr w1 #[.int .u8 0, .string (str bs)] 84
 have hlit := xe (w := w1) w1.heap.size #[.int .u8 0, .string (str bs)] 84 1 (Nat.le_refl _) (by simp [maxLen]) (size := 2) rfl (by omega)
 rw [← hqv, ← hqb] at hlit
 have hrg : RdG w2 w2.heap.size (some ⟨gb, 0, none⟩) 1 1 [⟨0, bs⟩] := hlit.rd
 have hB2 : Below w.heap.size w w2 := hB1.trans (hB12.mono hB1.size)
 have hb2 := hb.below hB2
 have hbt := Xw lb sz ⟨0, 0, [⟨0, bs⟩]⟩ (some ⟨gb, 0, none⟩) 1 1 w2 (hb2.cell h4) hsz hrg ⟨by simp, by simp, by simp⟩ (by simp; omega) (by omega)
 clear hpt hlit hrg hG hB12
 unfold asV at hbt
 simp only at hbt
 rw [show (((0 : Nat)) : Int) = 0 from rfl] at hbt
 go_wp2_with (with_reducible refine h_A ?_)
 rw [← hqb, ← hqv]
 clear hqb hqv
 (with_reducible refine hbt.mono ?_)
 rintro e w3 ⟨rfl, hB3⟩
 have hB4 := hB2.trans (hB3.mono hB2.size)
 have hb3 := hb.below hB4
 have hO3 := zg hown hB4
 have hln : (jh ((sz : Int) - 12) ⟨0, 0, [⟨0, bs⟩]⟩).length ≤ 67125248 := by
  have h1 := vy (cutF ((sz : Int) - 12) ⟨0, 0, [⟨0, bs⟩]⟩)
  have h2 := YY ((sz : Int) - 12) ⟨0, 0, [⟨0, bs⟩]⟩
  unfold jh
  omega
 have hws := vX bplL w3 cs hb3 hs p h5 hp SA l (jh ((sz : Int) - 12) ⟨0, 0, [⟨0, bs⟩]⟩) h6 hO3 hne (by have := hB4.size; omega) (by omega)
 clear hbt hcv hb2 hB2 hB3
 go_wp2_with (with_reducible refine h_A ?_)
 refine hws.mono ?_
 rintro e w5 ⟨rfl, hW⟩
 go_wp2
 go_end0
 exact ⟨rfl, hW.from hB4⟩
end Go.PH
end

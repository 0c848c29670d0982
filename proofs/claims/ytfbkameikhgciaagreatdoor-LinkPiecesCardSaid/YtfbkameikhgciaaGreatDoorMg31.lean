/- Texts laid together: MdPutM, MdPutW. -/
import Derived.Test.YtfbkameikhgciaaGreatDoorMg22
import Derived.Test.YtfbkameikhgciaaGreatDoorMg29
set_option linter.all false
set_option linter.unusedSimpArgs false
set_option linter.unusedVariables false
set_option maxRecDepth 20000
set_option maxHeartbeats 8000000
section
namespace Go.PH
open Go.RowKit Go.Proofs
def toSA (a : Ag) : SA := ⟨a.is, 0, []⟩
theorem zaF (cls code : Nat) (sync : Bool) (L : List Ag) (kd : List UInt8) (pm : Nat → List UInt8) (okf : Nat → Bool) (A : Option Addr) (n c : Nat) (w : World) (he : MEnv w)
  (hel : ∀ (i : Nat) (hi : i < L.length), ∃ b off hx, A = some ⟨b, off, none⟩ ∧ RAw w L[i] hx ∧ ∀ W, Below w.heap.size w W → ∀ j u, (agC (L[i], hx))[j]? = some u → W.cell? ⟨b, off + i * 12 + j, none⟩ = some u) (hnL : n = L.length)
  (hk : yg (zZ cls code) = kd) (hf : (zZ cls code).isSome = true) (hn : n = kd.length) (hn8 : n ≤ 7) (hsy : sync = true → ¬ cls ≤ 2) (hc : cls < 256) (hcd : code < 256) (hpl : ∀ i, i < n → (pm i).length ≤ 2000000)
  (hput : ∀ i (h : i < L.length) (h' : i < kd.length) (hx : AH) (base : Nat) (W : World) (A' : Option Addr) (n' c' : Nat) (l : List UInt8), OwnB W base A' n' c' l → base ≤ W.heap.size → n' ≤ 100000000 → RA W (fun g => g < base) L[i] hx → Below w.heap.size w W → Calls Tryz.prog 71 #[.slice A' n' c', .int .u8 (kd[i].toNat : Int), .agg (agV L[i] hx)] W (PutG W base (blk A') (okf i) (l ++ pm i)))
  (RES : List UInt8) (E : Int) (HRES : Hid ((∀ i, i < n → okf i = true) → RES = qV cls code sync (zy (L.map toSA)) ++ (List.range n).flatMap pm ∧ E = 0)) (HNO : Hid (∀ i, i < n → okf i = false → RES = [] ∧ E = 80)) :
  Calls Tryz.prog 50 #[.agg #[.int .u8 (cls : Int), .int .u8 (code : Int), .bool sync, .slice A n c]] w fun e w' => ∃ A2 c2, e = .returned (.tuple #[.slice A2 RES.length c2, .int .i64 E]) ∧ OwnB w' w.heap.size A2 RES.length c2 RES ∧ Below w.heap.size w w' := by
 obtain ⟨L0, hL0⟩ : ∃ L0, L0 = L.map toSA := ⟨_, rfl⟩
 rw [← hL0] at HRES
 have hll : L0.length = L.length := by rw [hL0]; simp
 have HL0 := Lib.hid hL0
 clear hL0
 have hLl1 : L.length ≤ n := by omega
 have hLl2 : n ≤ L.length := by omega
 have hL01 : L0.length ≤ n := by omega
 have hL02 : n ≤ L0.length := by omega
 clear hnL hll
 have hnk1 : n ≤ kd.length := by omega
 have hnk2 : kd.length ≤ n := by omega
 have hlen : ((n : Int) != ((str kd).size : Int)) = false := by rw [zj, hn]; simp
 have hlen2 : ((n : Int) != (kd.length : Int)) = false := by rw [hn]; simp
 clear hn
 have hkn := js cls code
 rw [hk, hf] at hkn
 have hkn0 := hkn (w.alloc (.cells #[.int .u8 (cls : Int), .int .u8 (code : Int), .bool sync, .slice A n c] 106)) (he.on ((Below.refl _ _).alloc (Nat.le_refl _) _))
 have hss := zj kd
 have hbm := Box.new w #[.int .u8 (cls : Int), .int .u8 (code : Int), .bool sync, .slice A n c] 106
 have hB0 := (Below.refl w.heap.size w).alloc (Nat.le_refl _) (.cells #[.int .u8 (cls : Int), .int .u8 (code : Int), .bool sync, .slice A n c] 106)
 have HPUT := Lib.hid hput
 have HPL := Lib.hid hpl
 have HEL := Lib.hid hel
 have hct := fun W => qt cls W
 clear hput hpl hk hf hkn hel he
 go_enter Tryz.func50, Tryz.ntmps50
 go_upto_region 1 with fail
 obtain ⟨mb, hmb⟩ : ∃ m, m = w.heap.size := ⟨_, rfl⟩
 rw [← hmb] at hbm ⊢
 have hmw : w.heap.size ≤ mb := by omega
 clear hmb
 generalize (w.alloc (.cells #[.int .u8 (cls : Int), .int .u8 (code : Int), .bool sync, .slice A n c] 106)) = w0 at *
 have x0 := hbm.c0
 have x1 := hbm.c1
 have x2 := hbm.c2
 have x3 := hbm.c3
 go_wp2_with (with_reducible refine h_A ?_)
 refine hkn0.mono ?_
 rintro e w1 ⟨rfl, hB1⟩
 have hbm1 := hbm.below hB1
 have hB01 := hB0.trans (hB1.mono hB0.size)
 clear x0 x1 x2 x3 hkn0 hbm hB0 hB1
 have x0 := hbm1.c0
 have x1 := hbm1.c1
 have x2 := hbm1.c2
 have x3 := hbm1.c3
 have hlt1 := hbm1.lt
 go_upto_region 2 with fail
 go_cut [38] from 12 to 88 (fun s wx => s = .bool false ∧ w1 = wx)
 case first =>
  cases sync
  ·go_wp2_with (with_reducible refine h_A ?_)
   go_meet
   case rel => exact ⟨rfl, rfl⟩
  ·have hd : decide (cls ≤ 2) = false := by simpa using hsy rfl
   go_wp2_with (with_reducible refine h_A ?_)
   refine (hct _).mono ?_
   rintro e w2 ⟨rfl, rfl⟩
   rw [hd]
   clear hd
   go_wp2_with (with_reducible refine h_A ?_)
   go_meet
   case rel => exact ⟨rfl, rfl⟩
 case rest =>
  obtain ⟨rfl, rfl⟩ := hcut
  have HSY := Lib.hid hsy
  clear hsy
  have ho1 : OwnB w1 (mb + 1) none 0 0 [] := Own.none_ _ _ _ _
  go_wp2_with (with_reducible refine h_A ?_)
  go_loopw [42, 6, 7] (fun s42 s6 s7 wr => ∃ (k c2 m : Nat) (A2 : Option Addr), k ≤ n ∧ s42 = .int .i64 k ∧ s6 = .slice A2 m c2 ∧ s7 = .int .u64 ((zy (L0.take k) : Nat) : Int) ∧ OwnB wr (mb + 1) A2 m c2 ((List.range k).flatMap pm) ∧ m ≤ 2000000 * k ∧ Box wr mb 106 #[.int .u8 (cls : Int), .int .u8 (code : Int), .bool sync, .slice A n c] ∧ Below w.heap.size w wr ∧ Hid (∀ j, j < k → okf j = true)) (fun s _ _ _ => n - (RowKit.intOf s).toNat)
  case atStart => exact ⟨0, 0, 0, none, by omega, rfl, rfl, rfl, ho1, by omega, hbm1, hB01, Lib.hid (fun j hj => by omega)⟩
  case round =>
   obtain ⟨k, c2, m, A2, hk, rfl, rfl, rfl, ho, hm, hb, hB, HOK⟩ := hrel
   clear ho1 hbm1 hB01 x0 x1 x2 x3 hlen hlen2
   have hbsz := hb.lt
   by_cases hlt : k < n
   ·have hkn : (k : Int) < (n : Int) := by omega
    have hkd : k < kd.length := by omega
    have hsk : k < (str kd).size := by rw [hss]; exact hkd
    have hkL : k < L.length := by omega
    have hkL0 : k < L0.length := by omega
    obtain ⟨ab, aoff, hx, hA, hra, hac0⟩ := HEL.out k hkL
    have hac := hac0 wr hB
    clear hac0
    have HFS : Hid (zy (L0.take (k + 1)) = zy (L0.take k) + (if L[k].is then 2 ^ k else 0)) := Lib.hid (by rw [List.take_succ_eq_append_getElem hkL0, kF, List.length_take, Nat.min_eq_left (by omega)]; simp only [HL0.out, List.getElem_map]; rfl)
    have hfl := xP (L0.take k)
    rw [List.length_take, Nat.min_eq_left (by omega : k ≤ L0.length)] at hfl
    have hpk := HPUT.out k hkL hkd hx
    have hno := HNO.out k hlt
    have HNOK := Lib.hid hno
    clear hno
    obtain ⟨okk, hokk⟩ : ∃ o, o = okf k := ⟨_, rfl⟩
    rw [← hokk] at hpk HNOK
    have HOKK := Lib.hid hokk
    clear hokk
    have hplk := HPL.out k hlt
    generalize L[k] = a at *
    have z0 : wr.cell? ⟨ab, aoff + k * 12, none⟩ = _ := hac 0 _ rfl
    have z1 := hac 1 _ rfl
    have z2 := hac 2 _ rfl
    have z3 := hac 3 _ rfl
    have z4 := hac 4 _ rfl
    have z5 := hac 5 _ rfl
    have z6 := hac 6 _ rfl
    have z7 := hac 7 _ rfl
    have z8 := hac 8 _ rfl
    have z9 := hac 9 _ rfl
    have zA := hac 10 _ rfl
    have zB := hac 11 _ rfl
    subst hA
    have hxb := Box.new wr #[.bool a.is, .int .u64 (a.n : Int), .string (str a.s), .int .u32 (a.x.fmt : Int), .string (str a.x.glob), .string (str a.x.bran), .slice hx.A a.q.length hx.c, .int .u8 (a.v.kind : Int), .int .u64 (a.v.n : Int), .string (str a.v.s), .slice hx.h.A1 a.v.keys.length hx.h.c1, .slice hx.h.A2 a.v.list.length hx.h.c2] 80
    have hb2 := hb.alloc (.cells #[.bool a.is, .int .u64 (a.n : Int), .string (str a.s), .int .u32 (a.x.fmt : Int), .string (str a.x.glob), .string (str a.x.bran), .slice hx.A a.q.length hx.c, .int .u8 (a.v.kind : Int), .int .u64 (a.v.n : Int), .string (str a.v.s), .slice hx.h.A1 a.v.keys.length hx.h.c1, .slice hx.h.A2 a.v.list.length hx.h.c2] 80)
    have hB2 := hB.alloc hB.size (.cells #[.bool a.is, .int .u64 (a.n : Int), .string (str a.s), .int .u32 (a.x.fmt : Int), .string (str a.x.glob), .string (str a.x.bran), .slice hx.A a.q.length hx.c, .int .u8 (a.v.kind : Int), .int .u64 (a.v.n : Int), .string (str a.v.s), .slice hx.h.A1 a.v.keys.length hx.h.c1, .slice hx.h.A2 a.v.list.length hx.h.c2] 80)
    have ho2 : OwnB (wr.alloc (.cells #[.bool a.is, .int .u64 (a.n : Int), .string (str a.s), .int .u32 (a.x.fmt : Int), .string (str a.x.glob), .string (str a.x.bran), .slice hx.A a.q.length hx.c, .int .u8 (a.v.kind : Int), .int .u64 (a.v.n : Int), .string (str a.v.s), .slice hx.h.A1 a.v.keys.length hx.h.c1, .slice hx.h.A2 a.v.list.length hx.h.c2] 80)) (mb + 1) A2 m c2 ((List.range k).flatMap pm) := ho.alloc _
    have hnx : ∀ g, blk A2 = some g → g < wr.heap.size ∧ mb < g := fun g hg => ⟨(ho.blk_lt hg).2, by have := (ho.blk_lt hg).1; omega⟩
    clear hac
    unfold agV at hpk
    go_upto_region 10 with fail
    obtain ⟨xb, hxq⟩ : ∃ g, g = wr.heap.size := ⟨_, rfl⟩
    rw [← hxq] at hxb hnx ⊢
    clear hxq z0 z1 z2 z3 z4 z5 z6 z7 z8 z9 zA zB ho hb hB
    generalize (wr.alloc (.cells #[.bool a.is, .int .u64 (a.n : Int), .string (str a.s), .int .u32 (a.x.fmt : Int), .string (str a.x.glob), .string (str a.x.bran), .slice hx.A a.q.length hx.c, .int .u8 (a.v.kind : Int), .int .u64 (a.v.n : Int), .string (str a.v.s), .slice hx.h.A1 a.v.keys.length hx.h.c1, .slice hx.h.A2 a.v.list.length hx.h.c2] 80)) = w2 at *
    go_cut [6, 10] from 43 to 64 (fun s6 s10 wx => ∃ (A3 : Option Addr) (m3 c3 : Nat), s6 = .slice A3 m3 c3 ∧ s10 = .bool okk ∧ (okk = true → m3 = m + (pm k).length ∧ OwnB wx (mb + 1) A3 m3 c3 ((List.range k).flatMap pm ++ pm k)) ∧ Box wx mb 106 #[.int .u8 (cls : Int), .int .u8 (code : Int), .bool sync, .slice (some ⟨ab, aoff, none⟩) n c] ∧ Box wx xb 80 #[.bool a.is, .int .u64 (a.n : Int), .string (str a.s), .int .u32 (a.x.fmt : Int), .string (str a.x.glob), .string (str a.x.bran), .slice hx.A a.q.length hx.c, .int .u8 (a.v.kind : Int), .int .u64 (a.v.n : Int), .string (str a.v.s), .slice hx.h.A1 a.v.keys.length hx.h.c1, .slice hx.h.A2 a.v.list.length hx.h.c2] ∧ Below w.heap.size w wx)
    case first =>
     as_aux_lemma =>
     refine zD (fun W : World => Box W xb 80 #[.bool a.is, .int .u64 (a.n : Int), .string (str a.s), .int .u32 (a.x.fmt : Int), .string (str a.x.glob), .string (str a.x.bran), .slice hx.A a.q.length hx.c, .int .u8 (a.v.kind : Int), .int .u64 (a.v.n : Int), .string (str a.v.s), .slice hx.h.A1 a.v.keys.length hx.h.c1, .slice hx.h.A2 a.v.list.length hx.h.c2]) (by kernel_rfl) ?_
     have hS : Box w2.drew xb 80 #[.bool a.is, .int .u64 (a.n : Int), .string (str a.s), .int .u32 (a.x.fmt : Int), .string (str a.x.glob), .string (str a.x.bran), .slice hx.A a.q.length hx.c, .int .u8 (a.v.kind : Int), .int .u64 (a.v.n : Int), .string (str a.v.s), .slice hx.h.A1 a.v.keys.length hx.h.c1, .slice hx.h.A2 a.v.list.length hx.h.c2] := hxb
     have hb3 : Box w2.drew mb 106 #[.int .u8 (cls : Int), .int .u8 (code : Int), .bool sync, .slice (some ⟨ab, aoff, none⟩) n c] := hb2
     have ho3 : OwnB w2.drew (mb + 1) A2 m c2 ((List.range k).flatMap pm) := Own.drewN ho2 1
     have hB3 : Below w.heap.size w w2.drew := za hB2 1
     clear hxb hb2 ho2 hB2
     generalize w2.drew = wd at *
     have hsz3 := hb3.lt
     refine rg_t 0 hS ?_
     simp only [List.getElem_toArray, List.getElem_cons_zero, Act.put, List.setIfInBounds_toArray, List.set_cons_zero, List.set_cons_succ]
     refine rg_t 1 hS ?_
     simp only [g_S, Act.put]
     refine rg_t 2 hS ?_
     simp only [g_S, Act.put]
     refine rg_t 3 hS ?_
     simp only [g_S, Act.put]
     refine zv 4 (v := ?_) rfl (by kernel_rfl) (by kernel_rfl) (by kernel_rfl) hS rfl ?_ ?_
     rotate_left
     ·intro wS hSw
      have x0 := hSw.c0
      have x1 := hSw.c1
      have x2 := hSw.c2
      have x3 := hSw.c3
      have x4 := hSw.c4
      have x5 := hSw.c5
      have x6 := hSw.c6
      have x7 := hSw.c7
      have x8 := hSw.c8
      have x9 := hSw.c9
      have xA := hSw.c10
      have xB := hSw.c11
      go_simp
      (with_reducible rfl)
     try simp only [g_S, Act.put]
     refine zi 5 rfl (by kernel_rfl) rfl (fun K hK => ?_)
     go_simp
     refine (hpk (mb + 1) wd A2 m c2 _ ho3 (by omega) (by omega) ((hra.under hB3).mono (fun g hg => by omega)) hB3).mono ?_
     rintro e w5 ⟨A3, m3, c3, rfl, hB5, hK5, ho5⟩
     have hS5 := hK5.box hS (fun e => by have := (hnx _ e).1; omega)
     have hb5 := hK5.box hb3 (fun e => by have := (hnx _ e).2; omega)
     have hB6 := hB3.trans (hB5.mono (by omega))
     have hlo : ((List.range k).flatMap pm ++ pm k).length = m + (pm k).length := by have := RdB.length ho3.rd; rw [List.length_append, this]
     rw [hlo] at ho5
     refine hK _ _ hS5 ?_; clear hK K
     try simp only [g_S, Act.put]
     refine rg_t 6 hS5 ?_
     simp only [g_S, Act.put]
     refine rg_t 7 hS5 ?_
     simp only [g_S, Act.put]
     refine rg_t 8 hS5 ?_
     simp only [g_S, Act.put]
     refine rg_t 9 hS5 ?_
     simp only [g_S, Act.put]
     refine rg_t 10 hS5 ?_
     simp only [g_S, Act.put]
     refine zK (by kernel_rfl) ?_
     go_wp2_with fail
     go_meet
     exact ⟨A3, m3, c3, rfl, rfl, ho5, hb5, hS5, hB6⟩
    case rest =>
     as_aux_lemma =>
     obtain ⟨A3, m3, c3, rfl, rfl, ho5', hb5, hS5, hB6⟩ := hcut
     cases okk
     ·obtain ⟨e1, e2⟩ := HNOK.out rfl
      subst e1 e2
      clear ho5'
      go_wp2_with (with_reducible refine h_A ?_)
      go_ret2
      exact ⟨none, 0, rfl, Own.none_ _ _ _ _, hB6⟩
     obtain ⟨rfl, ho5⟩ := ho5' rfl
     clear ho5'
     have HOK2 : Hid (∀ j, j < k + 1 → okf j = true) := Lib.hid (fun j hj => by
      by_cases e : j = k
      ·subst e; exact HOKK.out.symm
      ·exact HOK.out j (by omega))
     have HO : Hid ((List.range (k + 1)).flatMap pm = (List.range k).flatMap pm ++ pm k) := Lib.hid (by rw [List.range_succ, List.flatMap_append]; simp)
     have y0 := hS5.c0
     generalize hais : a.is = is at *
     clear hais
     cases is
     ·have HF2 : Hid (zy (L0.take (k + 1)) = zy (L0.take k)) := Lib.hid (by rw [HFS.out]; simp)
      go_wp2_with (with_reducible refine h_A ?_)
      exact ⟨⟨k + 1, c3, m + (pm k).length, A3, by omega, by go_num, rfl, by rw [HF2.out], by rw [HO.out]; exact ho5, by omega, hb5, hB6, HOK2⟩, by simp [RowKit.intOf]; omega⟩
     ·have HF2 : Hid (zy (L0.take (k + 1)) = zy (L0.take k) + 2 ^ k) := Lib.hid (by rw [HFS.out]; simp)
      have h256 : (2 : Nat) ^ k ≤ 2 ^ 7 := Nat.pow_le_pow_right (by omega) (by omega)
      have hor := QG ⟨k, by omega⟩ ⟨zy (L0.take k), by omega⟩ hfl
      simp only at hor
      generalize zy (L0.take k) = fl at *
      generalize hp : 2 ^ k = pk at *
      go_wp2_with (with_reducible refine h_A ?_)
      have hw : IntKind.u64.wrap ((2 : Int) ^ k) = (pk : Int) := by
       have e : (2 : Int) ^ k = ((2 ^ k : Nat) : Int) := by push_cast; rfl
       rw [e, hp]
       exact IntWalk.u64_in _ ⟨by omega, by omega⟩
      exact ⟨⟨k + 1, c3, m + (pm k).length, A3, by omega, by go_num, rfl, by rw [hw, hor, HF2.out], by rw [HO.out]; exact ho5, by omega, hb5, hB6, HOK2⟩, by simp [RowKit.intOf]; omega⟩
   ·have hkk : k = n := by omega
    have hkn : ¬ (k : Int) < (n : Int) := by omega
    have HFL : Hid (zy (L0.take k) = zy L0) := Lib.hid (by rw [List.take_of_length_le (by omega)])
    have hfl := xP L0
    have h256 : (2 : Nat) ^ L0.length ≤ 2 ^ 7 := Nat.pow_le_pow_right (by omega) (by omega)
    have hfl8 : zy L0 < 256 := by omega
    clear hfl h256
    rw [HFL.out]
    generalize zy L0 = fl at *
    rw [hkk] at ho ⊢
    obtain ⟨hRES, hE⟩ := HRES.out (fun j hj => HOK.out j (by omega))
    subst hE
    have HRES := Lib.hid hRES
    clear hRES HNO HOK hkk HFL HPUT HPL HEL
    generalize (List.range n).flatMap pm = I at *
    have hIl := RdB.length ho.rd
    have HIL := Lib.hid hIl
    clear hIl
    have hwr := hB.size
    have x0 := hb.c0
    have x1 := hb.c1
    have x2 := hb.c2
    have x3 := hb.c3
    have hl2 := xe (w := wr) (mb + 1) #[.int .u8 (cls : Int), .int .u8 (code : Int)] 5 2 (by omega) (by simp [maxLen]) (size := 1) rfl (by omega)
    have hb2 := hb.alloc (.cells #[.int .u8 (cls : Int), .int .u8 (code : Int)] 5)
    have hB2 := hB.alloc hB.size (.cells #[.int .u8 (cls : Int), .int .u8 (code : Int)] 5)
    have ho2 : OwnB (wr.alloc (.cells #[.int .u8 (cls : Int), .int .u8 (code : Int)] 5)) (mb + 1) A2 m c2 I := ho.alloc _
    have hsep : ∀ g, blk A2 = some g → g < wr.heap.size := fun g hg => (ho.blk_lt hg).2
    go_upto_region 17 with fail
    obtain ⟨lb, hlb⟩ : ∃ g, g = wr.heap.size := ⟨_, rfl⟩
    rw [← hlb] at hl2 hsep hwr ⊢
    have hmbl : mb < lb := by rw [hlb]; exact hb.lt
    clear hlb ho hb hB x0 x1 x2 x3
    generalize (wr.alloc (.cells #[.int .u8 (cls : Int), .int .u8 (code : Int)] 5)) = w2 at *
    have hl2' : OwnB w2 (mb + 1) (some ⟨lb, 0, none⟩) 2 2 [UInt8.ofNat cls, UInt8.ofNat code] := by
     have e : ([UInt8.ofNat cls, UInt8.ofNat code].map u8v) = (#[.int .u8 (cls : Int), .int .u8 (code : Int)] : Array Value).toList := by
      simp [u8v, Nat.mod_eq_of_lt hc, Nat.mod_eq_of_lt hcd]
     show Own w2 (mb + 1) 5 1 (some ⟨lb, 0, none⟩) 2 2 _
     rw [e]
     exact hl2
    clear hl2
    have x0 := hb2.c0
    have x1 := hb2.c1
    have x2 := hb2.c2
    have x3 := hb2.c3
    have hcz := hct w2
    clear hct
    by_cases hcls : cls ≤ 2
    ·have hd : decide (cls ≤ 2) = true := by simpa using hcls
     have HH : Hid (RES = ([UInt8.ofNat cls, UInt8.ofNat code] ++ be 2 fl) ++ I)   := Lib.hid (by rw [HRES.out]; unfold qV; rw [if_pos hcls]; simp)
     rw [hd] at hcz
     clear hd hcls
     have hM : puts [UInt8.ofNat cls, UInt8.ofNat code] fl 2 = [UInt8.ofNat cls, UInt8.ofNat code] ++ be 2 fl := by unfold puts; rw [if_pos (by decide)]; rfl
     have hpt := zX (some ⟨lb, 0, none⟩) 2 2 [UInt8.ofNat cls, UInt8.ofNat code] fl 2 w2 hl2'.rd (by omega) (by omega)
     rw [hM] at hpt
     have hML : ([UInt8.ofNat cls, UInt8.ofNat code] ++ be 2 fl).length ≤ 10 := by simp [be]
     generalize [UInt8.ofNat cls, UInt8.ofNat code] ++ be 2 fl = M at *
     clear hM
     go_wp2_with (with_reducible refine h_A ?_)
     refine hcz.mono ?_
     rintro e w3 ⟨rfl, rfl⟩
     clear hcz
     go_wp2_with (with_reducible refine h_A ?_)
     refine hpt.mono ?_
     rintro e w4 ⟨A4, c4, rfl, ho4, hB4⟩
     have hszB := hB2.size
     have ho6 := zg ho2 hB4
     have hB6 := hB2.trans (hB4.mono hB2.size)
     have hsz6 := hB4.size
     clear x0 x1 x2 x3 hpt hb2 ho2 hB2 hB4
     go_wp2_with (with_reducible refine h_B ?_)
     refine zc (yn slB rfl rfl rfl rfl ho4 ho6.rd (zU _) (by omega) (by unfold maxLen; omega) hsz6 ?_)
     intro A7 c7 w7 ho7 hg7 hb7
     have hB7 := hB6.grown hg7 hB6.size (fun g hg => by have := (ho4.blk_lt hg).1; omega)
     have e : (M ++ I).length = M.length + m := by rw [List.length_append, HIL.out]
     rw [← List.map_append, ← e] at ho7
     go_wp2_with (with_reducible refine h_A ?_)
     go_ret2
     rw [HH.out]
     exact ⟨A7, c7, by rw [e]; rfl, Own.base_le ho7 (by omega), hB7⟩
    ·have hd : decide (cls ≤ 2) = false := by simpa using hcls
     have HHs : Hid (RES = (([UInt8.ofNat cls, UInt8.ofNat code] ++ [1, if sync then 1 else 0]) ++ be 2 fl) ++ I) := Lib.hid (by rw [HRES.out]; unfold qV; rw [if_neg hcls])
     rw [hd] at hcz
     clear hd hcls
     go_wp2_with (with_reducible refine h_A ?_)
     refine hcz.mono ?_
     rintro e w3 ⟨rfl, rfl⟩
     clear hcz
     have hlt2 := xe (w := w2) (mb + 1) #[.int .u8 1, .int .u8 0] 5 2 (by have := hb2.lt; omega) (by simp [maxLen]) (size := 1) rfl (by omega)
     have hlt2r : RdB (w2.alloc (.cells #[.int .u8 1, .int .u8 0] 5)) (w2.alloc (.cells #[.int .u8 1, .int .u8 0] 5)).heap.size (some ⟨w2.heap.size, 0, none⟩) 2 2 [1, 0] := hlt2.rd
     have hl3 : OwnB (w2.alloc (.cells #[.int .u8 1, .int .u8 0] 5)) (mb + 1) (some ⟨lb, 0, none⟩) 2 2 [UInt8.ofNat cls, UInt8.ofNat code] := hl2'.alloc _
     have ho3 : OwnB (w2.alloc (.cells #[.int .u8 1, .int .u8 0] 5)) (mb + 1) A2 m c2 I := ho2.alloc _
     have hb3 := hb2.alloc (.cells #[.int .u8 1, .int .u8 0] 5)
     have hB3 := hB2.alloc hB2.size (.cells #[.int .u8 1, .int .u8 0] 5)
     have hsz3 : mb + 1 ≤ (w2.alloc (.cells #[.int .u8 1, .int .u8 0] 5)).heap.size := hb3.lt
     clear x0 x1 x2 x3 hl2' ho2 hb2 hB2 hlt2
     go_wp2_with (with_reducible refine h_B ?_)
     refine zc (yn slB rfl rfl rfl rfl hl3 hlt2r (zU _) (by omega) (by unfold maxLen; omega) hsz3 ?_)
     intro A5 c5 w5 ho5 hg5 hb5
     have hne5 : ∀ g, blk A2 = some g → some g ≠ blk (some ⟨lb, 0, none⟩) := fun g hg e => by have := hsep g hg; injection e with e; simp at e; omega
     have ho2 := zf ho3 hg5 (fun g hg e => hne5 g hg e.symm)
     have hb2 := hb3.grown hg5 (by intro e; injection e with e; simp at e; omega)
     have hB2 := hB3.grown hg5 hB3.size (fun g hg => by injection hg with hg; simp at hg; omega)
     have hlb3 := (hl3.blk_lt (g := lb) rfl).2
     have hne6 : ∀ g, blk A2 = some g → ¬ blk A5 = some g := fun g hg e => by
      rcases hb5 with h5 | h5
      ·exact hne5 g hg (by rw [← h5, e])
      ·have h6 := hsep g hg; rw [h5] at e; injection e with e; omega
     rw [← List.map_append] at ho5
     clear hl3 ho3 hb3 hB3 hlt2r hg5 hb5
     cases sync
     ·have HH : Hid (RES = (([UInt8.ofNat cls, UInt8.ofNat code] ++ [1, 0]) ++ be 2 fl) ++ I) := Lib.hid (by rw [HHs.out]; rfl)
      clear HHs
      have hM : puts ([UInt8.ofNat cls, UInt8.ofNat code] ++ [1, 0]) fl 2 = ([UInt8.ofNat cls, UInt8.ofNat code] ++ [1, 0]) ++ be 2 fl := by unfold puts; rw [if_pos (by decide)]; rfl
      have hpt := zX A5 4 c5 ([UInt8.ofNat cls, UInt8.ofNat code] ++ [1, 0]) fl 2 w5 ho5.rd (by omega) (by omega)
      rw [hM] at hpt
      have hML : (([UInt8.ofNat cls, UInt8.ofNat code] ++ [1, 0]) ++ be 2 fl).length ≤ 10 := by simp [be]
      generalize ([UInt8.ofNat cls, UInt8.ofNat code] ++ [1, 0]) ++ be 2 fl = M at *
      clear hM
      have x0 := hb2.c0
      have x1 := hb2.c1
      have x2 := hb2.c2
      have x3 := hb2.c3
      go_wp2_with (with_reducible refine h_A ?_)
      refine hpt.mono ?_
      rintro e w4 ⟨A4, c4, rfl, ho4, hB4⟩
      have hszB := hB2.size
      have ho6 := zg ho2 hB4
      have hB6 := hB2.trans (hB4.mono hB2.size)
      have hsz6 := hB4.size
      clear x0 x1 x2 x3 hpt hb2 ho2 hB2 hB4
      go_wp2_with (with_reducible refine h_B ?_)
      refine zc (yn slB rfl rfl rfl rfl ho4 ho6.rd (zU _) (by omega) (by unfold maxLen; omega) hsz6 ?_)
      intro A7 c7 w7 ho7 hg7 hb7
      have hB7 := hB6.grown hg7 hB6.size (fun g hg => by have := (ho4.blk_lt hg).1; omega)
      have e : (M ++ I).length = M.length + m := by rw [List.length_append, HIL.out]
      rw [← List.map_append, ← e] at ho7
      go_wp2_with (with_reducible refine h_A ?_)
      go_ret2
      rw [HH.out]
      exact ⟨A7, c7, by rw [e]; rfl, Own.base_le ho7 (by omega), hB7⟩
     ·have HH : Hid (RES = (([UInt8.ofNat cls, UInt8.ofNat code] ++ [1, 1]) ++ be 2 fl) ++ I) := Lib.hid (by rw [HHs.out]; rfl)
      clear HHs
      have ho5' : Own w5 (mb + 1) 5 1 A5 4 c5 (([UInt8.ofNat cls, UInt8.ofNat code] ++ [1, 0]).map u8v) := ho5
      obtain ⟨g5, rfl, hwg, hbg, hgl, hcell, hfz, hst⟩ := OwnB.at_k ho5' (k := 3) (by omega)
      have hce : w5.cell? ⟨g5, 3, none⟩ = some (.int .u8 0) := hcell
      have hst1 : OwnB (w5.setCell ⟨g5, 3, none⟩ (.int .u8 1)) (mb + 1) (some ⟨g5, 0, none⟩) 4 c5 ([UInt8.ofNat cls, UInt8.ofNat code] ++ [1, 1]) := hst 1
      have hgs := ZL w5 ⟨g5, 3, none⟩ (.int .u8 1)
      have hb4 := hb2.grown hgs (by intro e; injection e with e; simp at e; omega)
      have hB4 := hB2.grown hgs hB2.size (fun g hg => by injection hg with hg; simp at hg; omega)
      have hbk : blk (some (⟨g5, 0, none⟩ : Addr)) = some g5 := rfl
      have ho4 := zf ho2 hgs (fun g hg e => by injection e with e; simp at e; exact hne6 g hg (by rw [hbk, e]))
      clear hcell hst hgs ho5 ho5' hB2 ho2
      have x0 := hb2.c0
      have x1 := hb2.c1
      have x2 := hb2.c2
      have x3 := hb2.c3
      go_upto_region 21 with fail
      clear x0 x1 x2 x3 hb2 hce hfz
      generalize (w5.setCell ⟨g5, 3, none⟩ (.int .u8 1)) = w6 at *
      have ho5 := hst1
      have hb2 := hb4
      have hB2 := hB4
      have ho2 := ho4
      clear hst1 hb4 hB4 ho4
      have hM : puts ([UInt8.ofNat cls, UInt8.ofNat code] ++ [1, 1]) fl 2 = ([UInt8.ofNat cls, UInt8.ofNat code] ++ [1, 1]) ++ be 2 fl := by unfold puts; rw [if_pos (by decide)]; rfl
      have hpt := zX (some ⟨g5, 0, none⟩) 4 c5 ([UInt8.ofNat cls, UInt8.ofNat code] ++ [1, 1]) fl 2 w6 ho5.rd (by omega) (by omega)
      rw [hM] at hpt
      have hML : (([UInt8.ofNat cls, UInt8.ofNat code] ++ [1, 1]) ++ be 2 fl).length ≤ 10 := by simp [be]
      generalize ([UInt8.ofNat cls, UInt8.ofNat code] ++ [1, 1]) ++ be 2 fl = M at *
      clear hM
      have x0 := hb2.c0
      have x1 := hb2.c1
      have x2 := hb2.c2
      have x3 := hb2.c3
      go_wp2_with (with_reducible refine h_A ?_)
      refine hpt.mono ?_
      rintro e w4 ⟨A4, c4, rfl, ho4, hB4⟩
      have hszB := hB2.size
      have ho6 := zg ho2 hB4
      have hB6 := hB2.trans (hB4.mono hB2.size)
      have hsz6 := hB4.size
      clear x0 x1 x2 x3 hpt hb2 ho2 hB2 hB4
      go_wp2_with (with_reducible refine h_B ?_)
      refine zc (yn slB rfl rfl rfl rfl ho4 ho6.rd (zU _) (by omega) (by unfold maxLen; omega) hsz6 ?_)
      intro A7 c7 w7 ho7 hg7 hb7
      have hB7 := hB6.grown hg7 hB6.size (fun g hg => by have := (ho4.blk_lt hg).1; omega)
      have e : (M ++ I).length = M.length + m := by rw [List.length_append, HIL.out]
      rw [← List.map_append, ← e] at ho7
      go_wp2_with (with_reducible refine h_A ?_)
      go_ret2
      rw [HH.out]
      exact ⟨A7, c7, by rw [e]; rfl, Own.base_le ho7 (by omega), hB7⟩
end Go.PH
end
section
namespace Go.PH
open Go.RowKit Go.Proofs
def xz (m : Mt) : List UInt8 := yg (zZ m.cls m.code)
def okI (m : Mt) (i : Nat) : Bool := match (xz m)[i]?, m.args[i]? with
 | some k, some a => okA k a
 | _, _ => true
def byI (m : Mt) (i : Nat) : List UInt8 := match (xz m)[i]?, m.args[i]? with
 | some k, some a => byA k a
 | _, _ => []
def Zm (m : Mt) : Bool := (zZ m.cls m.code).isSome && decide (m.args.length = (xz m).length) && !(m.sync && decide (m.cls ≤ 2))
def xC (m : Mt) : Bool := Zm m && (List.range m.args.length).all (okI m)
def putM (m : Mt) : List UInt8 := if xC m = true then qV m.cls m.code m.sync (zy (m.args.map toSA)) ++ (List.range m.args.length).flatMap (byI m) else []
def errM (m : Mt) : Int := if xC m = true then 0 else 80
theorem V0 : (List.range 9).all (fun c => (xQ c).all fun r => r.kinds.all (fun k => decide (k ∈ jO)) && decide (r.kinds.length ≤ 3)) = true := by decide +kernel
theorem qe (c k : Nat) : (∀ x ∈ yg (zZ c k), x ∈ jO) ∧ (yg (zZ c k)).length ≤ 3 := by
 cases h : zZ c k with
 | none => exact ⟨fun x hx => by simp [yg] at hx, by simp [yg]⟩
 | some r =>
  unfold zZ at h
  have hm := List.mem_of_find?_eq_some h
  have hc : c < 9 := by
   have := Y4 (c := c) (fun e => by rw [e] at hm; cases hm)
   omega
  have h1 := List.all_eq_true.1 V0 c (List.mem_range.2 hc)
  have h2 := List.all_eq_true.1 h1 r hm
  simp only [Bool.and_eq_true, List.all_eq_true, decide_eq_true_eq] at h2
  exact ⟨fun x hx => h2.1 x hx, h2.2⟩
def MPut (w : World) (m : Mt) (e : Ending) (w' : World) : Prop := ∃ A2 c2, e = .returned (.tuple #[.slice A2 (putM m).length c2, .int .i64 (errM m)]) ∧ OwnB w' w.heap.size A2 (putM m).length c2 (putM m) ∧ Below w.heap.size w w'
theorem KR (m : Mt) (A : Option Addr) (c : Nat) (w : World) (he : MEnv w) (hm : RMw w m A c)
  (hap : ∀ kd, kd ∈ yg (zZ m.cls m.code) → ∀ (a : Ag) (h : AH) (base : Nat) (A : Option Addr) (n c : Nat) (l : List UInt8) (W : World), OwnB W base A n c l → base ≤ W.heap.size → n ≤ 100000000 → RA W (fun g => g < base) a h → Below w.heap.size w W →
   Calls Tryz.prog 71 #[.slice A n c, .int .u8 (kd.toNat : Int), .agg (agV a h)] W (PutG W base (blk A) (okA kd a) (l ++ byA kd a))) : Calls Tryz.prog 50 #[.agg (mtV m A c)] w (MPut w m) := by
 unfold mtV
 obtain ⟨hko, hk3⟩ := qe m.cls m.code
 by_cases hf : Zm m = true
 ·unfold Zm at hf
  simp only [Bool.and_eq_true, decide_eq_true_eq] at hf
  obtain ⟨⟨h1, h2⟩, h3⟩ := hf
  unfold xz at h2
  refine zaF m.cls m.code m.sync m.args _ (byI m) (okI m) A m.args.length c w he (fun i hi => hm.elem hi) rfl rfl h1 h2 (by omega) (fun hs hc => ?_) hm.cls hm.code (fun i hi => ?_) ?_ (putM m) (errM m) (Lib.hid fun hok => ?_) (Lib.hid fun i hi hno => ?_)
  ·rw [hs, decide_eq_true hc] at h3; simp at h3
  ·unfold byI
   split
   ·exact Z1 _ _
   ·simp
  ·intro i h h' hx base W A' n' c' l hown hbase hn' ha hB
   have e1 : okI m i = okA (yg (zZ m.cls m.code))[i] m.args[i] := by unfold okI xz; rw [List.getElem?_eq_getElem h', List.getElem?_eq_getElem h]
   have e2 : byI m i = byA (yg (zZ m.cls m.code))[i] m.args[i] := by unfold byI xz; rw [List.getElem?_eq_getElem h', List.getElem?_eq_getElem h]
   rw [e1, e2]
   exact hap _ (List.getElem_mem h') _ hx base A' n' c' l W hown hbase hn' ha hB
  ·have hg : xC m = true := by
    unfold xC Zm xz
    simp only [Bool.and_eq_true, decide_eq_true_eq]
    exact ⟨⟨⟨h1, h2⟩, h3⟩, List.all_eq_true.2 fun i hi => hok i (List.mem_range.1 hi)⟩
   unfold putM errM
   rw [if_pos hg, if_pos hg]
   exact ⟨rfl, rfl⟩
  ·have hg : ¬ xC m = true := by
    unfold xC
    rw [Bool.and_eq_true]
    rintro ⟨_, ha⟩
    have := List.all_eq_true.1 ha i (List.mem_range.2 hi)
    rw [hno] at this
    cases this
   unfold putM errM
   rw [if_neg hg, if_neg hg]
   exact ⟨rfl, rfl⟩
 ·have hg : ¬ xC m = true := by unfold xC; simp [hf]
  have HP : putM m = [] := by unfold putM; rw [if_neg hg]
  have HE : errM m = 80 := by unfold errM; rw [if_neg hg]
  unfold MPut
  rw [HP, HE]
  clear hg HP HE
  obtain ⟨xb, w1, hxb, hxv, hX, hB1⟩ := zo w #[.int .u8 (m.cls : Int), .int .u8 (m.code : Int), .bool m.sync, .slice A m.args.length c] 106
  have hkn := js m.cls m.code w1 (he.on hB1)
  have c0 := hX.c0
  have c1 := hX.c1
  have c2 := hX.c2
  have c3 := hX.c3
  have hct := fun W => qt m.cls W
  unfold Zm xz at hf
  generalize hkd : yg (zZ m.cls m.code) = kd at *
  generalize (zZ m.cls m.code).isSome = is at *
  have hss := zj kd
  clear hap hko hk3 hkd hm he
  cases is
  ·clear hf hct
   go_enter Tryz.func50, Tryz.ntmps50
   go_upto_region 1 with fail
   rw [← hxb, ← hxv]
   clear hxb hxv
   go_wp2_with (with_reducible refine h_A ?_)
   refine hkn.mono ?_
   rintro e w2 ⟨rfl, hB2⟩
   have hX2 := hX.below hB2
   clear c0 c1 c2 c3
   have c0 := hX2.c0
   have c1 := hX2.c1
   have c2 := hX2.c2
   have c3 := hX2.c3
   go_wp2_with (with_reducible refine h_A ?_)
   go_ret2
   exact ⟨none, 0, rfl, Own.none_ _ _ _ _, hB1.trans (hB2.mono hB1.size)⟩
  ·by_cases hl : m.args.length = kd.length
   ·have hs : m.sync = true ∧ m.cls ≤ 2 := by
     simp only [hl, decide_true, Bool.and_true, Bool.true_and, Bool.not_eq_true', Bool.not_eq_true, Bool.not_eq_false'] at hf
     simpa using hf
    obtain ⟨hs, hcl⟩ := hs
    have hd : decide (m.cls ≤ 2) = true := by simpa using hcl
    simp only [hd] at hct
    have g1 : ((m.args.length : Int) != ((str kd).size : Int)) = false := by rw [hss, hl]; simp
    have g2 : ((m.args.length : Int) != (kd.length : Int)) = false := by rw [hl]; simp
    clear hf hl hcl hd
    generalize m.sync = sy at *
    subst hs
    go_enter Tryz.func50, Tryz.ntmps50
    go_upto_region 1 with fail
    rw [← hxb, ← hxv]
    clear hxb hxv
    go_wp2_with (with_reducible refine h_A ?_)
    refine hkn.mono ?_
    rintro e w2 ⟨rfl, hB2⟩
    have hX2 := hX.below hB2
    clear c0 c1 c2 c3
    have c0 := hX2.c0
    have c1 := hX2.c1
    have c2 := hX2.c2
    have c3 := hX2.c3
    go_wp2_with (with_reducible refine h_A ?_)
    refine (hct _).mono ?_
    rintro e w3 ⟨rfl, rfl⟩
    go_wp2_with (with_reducible refine h_A ?_)
    go_ret2
    exact ⟨none, 0, rfl, Own.none_ _ _ _ _, hB1.trans (hB2.mono hB1.size)⟩
   ·have g1 : ((m.args.length : Int) != ((str kd).size : Int)) = true := by rw [hss]; simp; omega
    have g2 : ((m.args.length : Int) != (kd.length : Int)) = true := by simp; omega
    clear hf hl hct
    go_enter Tryz.func50, Tryz.ntmps50
    go_upto_region 1 with fail
    rw [← hxb, ← hxv]
    clear hxb hxv
    go_wp2_with (with_reducible refine h_A ?_)
    refine hkn.mono ?_
    rintro e w2 ⟨rfl, hB2⟩
    have hX2 := hX.below hB2
    clear c0 c1 c2 c3
    have c0 := hX2.c0
    have c1 := hX2.c1
    have c2 := hX2.c2
    have c3 := hX2.c3
    go_wp2_with (with_reducible refine h_A ?_)
    go_ret2
    exact ⟨none, 0, rfl, Own.none_ _ _ _ _, hB1.trans (hB2.mono hB1.size)⟩
theorem KT (m : Mt) (A : Option Addr) (c : Nat) (w : World) (he : MEnv w) (hT : UTabs w) (hm : RMw w m A c) : Calls Tryz.prog 50 #[.agg (mtV m A c)] w (MPut w m) :=
 KR m A c w he hm fun kd hk a h base A n c l W hown hbase hn ha hB => Kf kd ((qe _ _).1 kd hk) a h base A n c l W hown hbase hn ha (hT.on hB)
end Go.PH
end

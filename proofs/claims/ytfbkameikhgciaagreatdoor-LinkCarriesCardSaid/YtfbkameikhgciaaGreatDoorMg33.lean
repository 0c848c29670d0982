/- Texts laid together: MdPutR. -/
import Derived.Test.YtfbkameikhgciaaGreatDoorMg14
import Derived.Test.YtfbkameikhgciaaGreatDoorMg30
import Derived.Test.YtfbkameikhgciaaGreatDoorMg32
set_option linter.all false
set_option linter.unusedSimpArgs false
set_option linter.unusedVariables false
section
/- Put of any method: the walk of the document's program. -/
namespace Go.PH
open Go.RowKit Go.Proofs

/-- the row of a method, as the document finds it -/
theorem ref_row (c k : Nat) : ∃ rw : RRow, (refFind c k).getD rr0 = rw ∧ rw.kinds = kindsO (findM c k) ∧ (refFind c k).isSome = (findM c k).isSome := by
 refine ⟨_, rfl, ?_, ?_⟩
 ·rw [ref_find]
  cases findM c k <;> rfl
 ·rw [ref_find]
  cases findM c k <;> rfl
def hd0 (cls code : Nat) (sync : Bool) : List UInt8 := [UInt8.ofNat cls, UInt8.ofNat code] ++ (if cls ≤ 2 then [] else [1, if sync then 1 else 0])
theorem headM_eq (cls code : Nat) (sync : Bool) (fl : Nat) (h : fl < 256) : headM cls code sync fl = hd0 cls code sync ++ [0, UInt8.ofNat fl] := by
 unfold headM hd0
 congr 1
 show be 2 fl = _
 have e : fl / 256 = 0 := by omega
 simp [be, e]
set_option maxRecDepth 20000 in
set_option maxHeartbeats 4000000 in
theorem rmput_gen (m : Mt) (A : Option Addr) (c : Nat) (w : World) (hm : RMw w m A c)
  (hap : ∀ kd, kd ∈ kindsO (findM m.cls m.code) → ∀ (a : Ag) (h : AH) (W : World), RAw W a h → Calls Tryz.prog 60 #[.int .u8 (kd.toNat : Int), .agg (agV a h)] W (ArgR W (okA kd a) (byA kd a))) : Calls Tryz.prog 43 #[.agg (mtV m A c)] w (MPut w m) := by
 unfold mtV MPut
 obtain ⟨xb, w1, hxb, hxv, hX, hB1⟩ := alloc_stepV w #[.int .u8 (m.cls : Int), .int .u8 (m.code : Int), .bool m.sync, .slice A m.args.length c] 106
 obtain ⟨hko, hk3⟩ := kinds_ok m.cls m.code
 have hfd := rfind_any m.cls m.code w1
 unfold RFindR at hfd
 obtain ⟨⟨rw_c, rw_k, rw_n, kd⟩, hrw, hkd, his⟩ := ref_row m.cls m.code
 rw [hrw, his] at hfd
 unfold rrV at hfd
 simp only at hkd hfd
 obtain ⟨RES, hRES⟩ : ∃ r, r = putM m := ⟨_, rfl⟩
 obtain ⟨E, hE⟩ : ∃ r, r = errM m := ⟨_, rfl⟩
 rw [← hRES, ← hE]
 have hss := str_size kd
 have hn47 := hm.c
 have hcl := hm.cls
 have hco := hm.code
 have x0 := hX.c0
 have x1 := hX.c1
 have x2 := hX.c2
 have x3 := hX.c3
 by_cases hf : formM m = true
 ·have HFM := Lib.hid hf
  unfold formM kindsM at hf
  simp only [Bool.and_eq_true, decide_eq_true_eq] at hf
  obtain ⟨⟨h1, h2⟩, h3⟩ := hf
  rw [h1] at hfd
  rw [← hkd] at h2 hko hk3 hap
  have HGOOD : Hid ((∀ i, i < m.args.length → okI m i = true) → RES = headM m.cls m.code m.sync (flagsM (m.args.map toSA)) ++ (List.range m.args.length).flatMap (byI m) ∧ E = 0) := Lib.hid fun hok => by
   have hg : goodM m = true := by
    unfold goodM
    rw [HFM.out, Bool.true_and]
    exact List.all_eq_true.2 fun i hi => hok i (List.mem_range.1 hi)
   rw [hRES, hE]
   unfold putM errM
   rw [if_pos hg, if_pos hg]
   exact ⟨rfl, rfl⟩
  have HNO : Hid (∀ i, i < m.args.length → okI m i = false → RES = [] ∧ E = 80) := Lib.hid fun i hi hno => by
   have hg : ¬ goodM m = true := by
    unfold goodM
    rw [Bool.and_eq_true]
    rintro ⟨_, ha⟩
    have := List.all_eq_true.1 ha i (List.mem_range.2 hi)
    rw [hno] at this
    cases this
   rw [hRES, hE]
   unfold putM errM
   rw [if_neg hg, if_neg hg]
   exact ⟨rfl, rfl⟩
  have HARG : Hid (∀ i (h : i < m.args.length) (h' : i < kd.length) (hx : AH) (W : World), RAw W m.args[i] hx → Calls Tryz.prog 60 #[.int .u8 (kd[i].toNat : Int), .agg (agV m.args[i] hx)] W (ArgR W (okI m i) (byI m i))) := Lib.hid fun i h h' hx W ha => by
   have e1 : okI m i = okA kd[i] m.args[i] := by unfold okI kindsM; rw [← hkd, List.getElem?_eq_getElem h', List.getElem?_eq_getElem h]
   have e2 : byI m i = byA kd[i] m.args[i] := by unfold byI kindsM; rw [← hkd, List.getElem?_eq_getElem h', List.getElem?_eq_getElem h]
   rw [e1, e2]
   exact hap _ (List.getElem_mem h') _ hx W ha
  have HPL : Hid (∀ i, (byI m i).length ≤ 2000000) := Lib.hid fun i => by
   unfold byI
   split
   ·exact byA_small _ _
   ·simp
  have hel := fun (i : Nat) (hi : i < m.args.length) => hm.elem hi
  have HEL := Lib.hid hel
  have hL0 : (m.args.map toSA).length = m.args.length := by simp
  have HSA : Hid (∀ i (h : i < m.args.length), (m.args.map toSA).drop i = toSA m.args[i] :: (m.args.map toSA).drop (i + 1)) := Lib.hid fun i h => by rw [List.drop_eq_getElem_cons (by simpa using h)]; simp
  generalize m.args.map toSA = L0 at *
  clear hap hel hko hRES hE hkd h1 his hrw hm
  obtain ⟨n, hn⟩ : ∃ n, n = m.args.length := ⟨_, rfl⟩
  rw [← hn] at hX hxv x3 h2 hL0 HGOOD HNO hn47 ⊢
  have HN := Lib.hid hn
  clear hn
  have hlen : ((n : Int) != ((str kd).size : Int)) = false := by rw [hss, h2]; simp
  have hlen2 : ((n : Int) != (kd.length : Int)) = false := by rw [h2]; simp
  have hM : n ≤ 3 := by omega
  have hnk1 : n ≤ kd.length := by omega
  have hnk2 : kd.length ≤ n := by omega
  have hL01 : L0.length ≤ n := by omega
  have hL02 : n ≤ L0.length := by omega
  clear h2 hL0
  have HKO := Lib.hid hk3
  obtain ⟨sy, hsy⟩ : ∃ s, s = m.sync := ⟨_, rfl⟩
  obtain ⟨cls, hcls⟩ : ∃ s, s = m.cls := ⟨_, rfl⟩
  obtain ⟨cod, hcod⟩ : ∃ s, s = m.code := ⟨_, rfl⟩
  rw [← hsy, ← hcls] at h3
  rw [← hsy, ← hcls, ← hcod] at HGOOD
  rw [← hsy, ← hcls, ← hcod] at hX hxv
  rw [← hsy] at x2
  rw [← hcls] at x0 hcl
  rw [← hcod] at x1 hco
  rw [← hcls, ← hcod] at hfd
  rw [← hcls, ← hcod, ← hsy]
  clear hsy hcls hcod hk3
  go_enter Tryz.func43, Tryz.ntmps43
  go_upto_region 1 with fail
  rw [← hxb, ← hxv]
  clear hxb hxv
  go_wp2_with (with_reducible refine h_A ?_)
  refine hfd.mono ?_
  rintro e w2 ⟨rfl, hB2⟩
  have hX2 := hX.below hB2
  have hB12 := hB1.trans (hB2.mono hB1.size)
  have hz := Box.new w2 #[.int .u8 0, .int .u8 0, .string ⟨#[]⟩, .string ⟨#[]⟩] 127
  have hXz := hX2.alloc (.cells #[.int .u8 0, .int .u8 0, .string ⟨#[]⟩, .string ⟨#[]⟩] 127)
  have hBz := hB12.alloc hB12.size (.cells #[.int .u8 0, .int .u8 0, .string ⟨#[]⟩, .string ⟨#[]⟩] 127)
  have hxz := hX2.lt
  have hwz := hB12.size
  clear hfd x0 x1 x2 x3 hX hB1 hB2
  go_wp2_with (with_reducible refine h_B ?_)
  obtain ⟨rb, hrb⟩ : ∃ g, g = w2.heap.size := ⟨_, rfl⟩
  rw [← hrb] at hz hxz hwz ⊢
  clear hrb
  generalize (w2.alloc (.cells #[.int .u8 0, .int .u8 0, .string ⟨#[]⟩, .string ⟨#[]⟩] 127)) = w3 at *
  refine unhold (wp_box (v := .agg #[.int .u8 (rw_c : Int), .int .u8 (rw_k : Int), .string (str rw_n), .string (str kd)]) (vs := [.int .u8 (rw_c : Int), .int .u8 (rw_k : Int), .string (str rw_n), .string (str kd)]) rfl rfl rfl rfl hz rfl (by kernel_rfl) (by simp) rr_one #[.int .u8 (rw_c : Int), .int .u8 (rw_k : Int), .string (str rw_n), .string (str kd)] (by simp) ?_)
  intro w5 hR hg5 hsz5
  have hX5 := hXz.grown hg5 (sne (by omega))
  have hB5 := hBz.grown hg5 hBz.size (fun g hg => by injection hg with hg; omega)
  clear hz hXz hBz hB12 hX2 hg5 hsz5
  have x0 := hX5.c0
  have x1 := hX5.c1
  have x2 := hX5.c2
  have x3 := hX5.c3
  have r3 := hR.c3
  have hxl := hX5.lt
  have hrl := hR.lt
  go_upto_region 2 with fail
  go_cut [39] from 20 to 39 (fun s wx => s = .bool false ∧ w5 = wx)
  case first =>
   cases sy
   ·go_wp2_with (with_reducible refine h_A ?_)
    go_meet
    case rel => exact ⟨rfl, rfl⟩
   ·have g3 : ¬ (cls : Int) ≤ 2 := by simp at h3; omega
    go_wp2_with (with_reducible refine h_A ?_)
    go_meet
    case rel => exact ⟨rfl, rfl⟩
  case rest =>
   obtain ⟨rfl, rfl⟩ := hcut
   clear h3
   have hl0 := own_lit (w := w5) (rb + 1) #[.int .u8 (cls : Int), .int .u8 (cod : Int)] 5 2 (by omega) (by simp [maxLen]) (size := 1) rfl (by omega)
   have hXa := hX5.alloc (.cells #[.int .u8 (cls : Int), .int .u8 (cod : Int)] 5)
   have hRa := hR.alloc (.cells #[.int .u8 (cls : Int), .int .u8 (cod : Int)] 5)
   have hBa := hB5.alloc hB5.size (.cells #[.int .u8 (cls : Int), .int .u8 (cod : Int)] 5)
   have el0 : #[Value.int .u8 (cls : Int), .int .u8 (cod : Int)].toList = [UInt8.ofNat cls, UInt8.ofNat cod].map u8v := by simp [u8v, Nat.mod_eq_of_lt hcl, Nat.mod_eq_of_lt hco]
   rw [el0] at hl0
   clear el0
   go_upto_region 5 with fail
   obtain ⟨lb, hlb⟩ : ∃ g, g = w5.heap.size := ⟨_, rfl⟩
   rw [← hlb] at hl0 hrl hxl ⊢
   have hszb := hB5.size
   rw [← hlb] at hszb
   clear hlb x0 x1 x2 x3 r3 hX5 hR hB5
   generalize (w5.alloc (.cells #[.int .u8 (cls : Int), .int .u8 (cod : Int)] 5)) = w6 at *
   have x0 := hXa.c0
   have x1 := hXa.c1
   have x2 := hXa.c2
   have x3 := hXa.c3
   by_cases hc2 : cls ≤ 2
   ·have g1 : ¬ (2 : Int) < (cls : Int) := by omega
    have ho6 := hl0
    have hX6 := hXa
    have hR6 := hRa
    have hB6 := hBa
    obtain ⟨H, hH⟩ : ∃ H, H = [UInt8.ofNat cls, UInt8.ofNat cod] := ⟨_, rfl⟩
    rw [← hH] at ho6
    have HH : Hid (H = hd0 cls cod sy) := Lib.hid (by rw [hH]; unfold hd0; rw [if_pos hc2]; simp)
    have hHl : H.length = 2 := by rw [hH]; rfl
    clear hH hl0 hXa hRa hBa x0 x1 x2 x3
    have x0 := hX6.c0
    have x1 := hX6.c1
    have x2 := hX6.c2
    have x3 := hX6.c3
    go_wp2_with (with_reducible refine h_A ?_)
    clear x0 x1 x2 x3
    go_loopw [7, 8] (fun s7 s8 wr => ∃ (k : Nat) (i : Int), k ≤ n ∧ i = (k : Int) - 1 ∧ s7 = .int .u8 ((flagsM (L0.drop k) : Nat) : Int) ∧ s8 = .int .i64 i ∧ OwnB wr (rb + 1) (some ⟨lb, 0, none⟩) 2 2 H ∧ Box wr xb 106 #[.int .u8 (cls : Int), .int .u8 (cod : Int), .bool sy, .slice A n c] ∧ Box wr rb 127 #[.int .u8 (rw_c : Int), .int .u8 (rw_k : Int), .string (str rw_n), .string (str kd)] ∧ Below w.heap.size w wr) (fun _ s8 _ => (RowKit.intOf s8 + 1).toNat)
    case atStart => exact ⟨n, (n : Int) - 1, by omega, rfl, by rw [List.drop_eq_nil_of_le hL01]; rfl, by first | rfl | go_num, ho6, hX6, hR6, hB6⟩
    case round =>
     clear ho6 hX6 hR6 hB6
     obtain ⟨k, i, hk, hik, rfl, rfl, ho6, hX6, hR6, hB6⟩ := hrel
     cases k with
     | succ j =>
      obtain rfl : i = (j : Int) := by omega
      have g0 : (0 : Int) ≤ (j : Int) := by omega
      have g9 : (j : Int) < (n : Int) := by omega
      have hjL : j < m.args.length := by rw [← HN.out]; omega
      obtain ⟨ab, aoff, hx, hA, _, hac⟩ := HEL.out j hjL
      have z0 : wr.cell? ⟨ab, aoff + j * 12, none⟩ = _ := hac wr hB6 0 _ rfl
      have HF : Hid (flagsM (L0.drop j) = (if m.args[j].is then 1 else 0) + 2 * flagsM (L0.drop (j + 1))) := Lib.hid (by rw [HSA.out j hjL, flagsM]; rfl)
      have hfl : flagsM (L0.drop (j + 1)) < 8 := by
       have h1 := flagsM_lt (L0.drop (j + 1))
       have h2 : 2 ^ (L0.drop (j + 1)).length ≤ 2 ^ 3 := Nat.pow_le_pow_right (by omega) (by rw [List.length_drop]; omega)
       omega
      clear hac hik
      generalize m.args[j].is = ais at *
      generalize flagsM (L0.drop (j + 1)) = fl at *
      subst hA
      have x0 := hX6.c0
      have x1 := hX6.c1
      have x2 := hX6.c2
      have x3 := hX6.c3
      cases ais
      ·have HF2 : Hid (flagsM (L0.drop j) = 2 * fl) := Lib.hid (by rw [HF.out]; simp)
       clear HF
       go_wp2_with (with_reducible refine h_A ?_)
       exact ⟨⟨j, (j : Int) - 1, by omega, rfl, by rw [HF2.out]; first | rfl | (congr; omega), by go_num, ho6, hX6, hR6, hB6⟩, by first | (simp [RowKit.intOf]; done) | (simp [RowKit.intOf]; omega)⟩
      ·have HF2 : Hid (flagsM (L0.drop j) = 2 * fl + 1) := Lib.hid (by rw [HF.out]; simp; omega)
       clear HF
       go_wp2_with (with_reducible refine h_A ?_)
       exact ⟨⟨j, (j : Int) - 1, by omega, rfl, by rw [HF2.out]; first | rfl | (congr; omega), by go_num, ho6, hX6, hR6, hB6⟩, by first | (simp [RowKit.intOf]; done) | (simp [RowKit.intOf]; omega)⟩
     | zero =>
      obtain rfl : i = -1 := by omega
      have hfl : flagsM L0 < 8 := by
       have h1 := flagsM_lt L0
       have h2 : 2 ^ L0.length ≤ 2 ^ 3 := Nat.pow_le_pow_right (by omega) (by omega)
       omega
      rw [List.drop_zero]
      generalize flagsM L0 = fl at *
      have hln := own_lit (w := wr) wr.heap.size #[.int .u8 0, .int .u8 (fl : Int)] 5 2 (Nat.le_refl _) (by simp [maxLen]) (size := 1) rfl (by omega)
      have eln : #[Value.int .u8 0, .int .u8 (fl : Int)].toList = [0, UInt8.ofNat fl].map u8v := by simp [u8v, Nat.mod_eq_of_lt (show fl < 256 by omega)]
      rw [eln] at hln
      have hlnr : RdB (wr.alloc (.cells #[.int .u8 0, .int .u8 (fl : Int)] 5)) (wr.alloc (.cells #[.int .u8 0, .int .u8 (fl : Int)] 5)).heap.size (some ⟨wr.heap.size, 0, none⟩) 2 2 [0, UInt8.ofNat fl] := hln.rd
      have ho7 : OwnB (wr.alloc (.cells #[.int .u8 0, .int .u8 (fl : Int)] 5)) (rb + 1) (some ⟨lb, 0, none⟩) 2 2 H := ho6.alloc _
      have hX7 := hX6.alloc (.cells #[.int .u8 0, .int .u8 (fl : Int)] 5)
      have hR7 := hR6.alloc (.cells #[.int .u8 0, .int .u8 (fl : Int)] 5)
      have hB7 := hB6.alloc hB6.size (.cells #[.int .u8 0, .int .u8 (fl : Int)] 5)
      have hsz7 : rb + 1 ≤ (wr.alloc (.cells #[.int .u8 0, .int .u8 (fl : Int)] 5)).heap.size := hR7.lt
      clear ho6 hX6 hR6 hB6 hln eln hik
      go_wp2_with (with_reducible refine h_A ?_)
      refine unhold (wp_app slB rfl rfl rfl rfl ho7 hlnr (map_one _) (by omega) (by unfold maxLen; omega) hsz7 ?_)
      intro A8 c8 w8 ho8 hg8 _
      have hX8 := hX7.grown hg8 (by intro e; have := (ho7.blk_lt e.symm).1; omega)
      have hR8 := hR7.grown hg8 (by intro e; have := (ho7.blk_lt e.symm).1; omega)
      have hB8 := hB7.grown hg8 hB7.size (fun g hg => by have := (ho7.blk_lt hg).1; omega)
      rw [← List.map_append] at ho8
      obtain ⟨H2, hH2⟩ : ∃ H2, H2 = H ++ [0, UInt8.ofNat fl] := ⟨_, rfl⟩
      rw [← hH2] at ho8
      have HH2 : Hid (headM cls cod sy fl = H2) := Lib.hid (by rw [headM_eq _ _ _ _ (by omega), hH2, HH.out])
      clear hH2 ho7 hX7 hR7 hB7 hg8 hlnr HH hHl
      have x0 := hX8.c0
      have x1 := hX8.c1
      have x2 := hX8.c2
      have x3 := hX8.c3
      go_wp2_with (with_reducible refine h_A ?_)
      clear x0 x1 x2 x3
      go_loopw [6, 9] (fun s6 s9 wr => ∃ (k n6 c6 : Nat) (A6 : Option Addr), k ≤ n ∧ s6 = .slice A6 n6 c6 ∧ s9 = .int .i64 (k : Int) ∧ OwnB wr (rb + 1) A6 n6 c6 (H2 ++ (List.range k).flatMap (byI m)) ∧ n6 ≤ 10 + 2000000 * k ∧ Box wr xb 106 #[.int .u8 (cls : Int), .int .u8 (cod : Int), .bool sy, .slice A n c] ∧ Box wr rb 127 #[.int .u8 (rw_c : Int), .int .u8 (rw_k : Int), .string (str rw_n), .string (str kd)] ∧ Below w.heap.size w wr ∧ Hid (∀ j, j < k → okI m j = true)) (fun _ s9 _ => n - (RowKit.intOf s9).toNat)
      case atStart => exact ⟨0, _, c8, A8, by omega, rfl, rfl, by simpa using ho8, by omega, hX8, hR8, hB8, Lib.hid (fun j hj => by omega)⟩
      case round =>
       clear ho8 hX8 hR8 hB8
       obtain ⟨k, n6, c9, A9, hk, rfl, rfl, ho6, hn6, hX6, hR6, hB6, HOK⟩ := hrel
       by_cases hlt : k < n
       ·have hkn : (k : Int) < (n : Int) := by omega
        have hkd : k < kd.length := by omega
        have hsk : k < (str kd).size := by rw [hss]; exact hkd
        have hkL : k < m.args.length := by rw [← HN.out]; exact hlt
        obtain ⟨ab, aoff, hx, hA, hra, HXA⟩ := HEL.out k hkL
        have harg := fun (W : World) (hW : Below w.heap.size w W) => HARG.out k hkL hkd hx W (hra.up hW)
        have HNOK : Hid (okI m k = false → RES = [] ∧ E = 80) := Lib.hid (HNO.out k hlt)
        have HOKK : Hid (∀ ok, ok = okI m k → ok = true → ∀ j, j < k + 1 → okI m j = true) := Lib.hid (fun ok h1 h2 j hj => by
         by_cases e : j = k
         ·subst e; rw [← h1, h2]
         ·exact HOK.out j (by omega))
        have HOB : Hid (H2 ++ (List.range (k + 1)).flatMap (byI m) = (H2 ++ (List.range k).flatMap (byI m)) ++ byI m k) := Lib.hid (by rw [List.range_succ, List.flatMap_append]; simp)
        have hpl := HPL.out k
        obtain ⟨okk, hokk⟩ : ∃ o, o = okI m k := ⟨_, rfl⟩
        rw [← hokk] at harg HNOK
        have HOKK2 : Hid (okk = true → ∀ j, j < k + 1 → okI m j = true) := Lib.hid (HOKK.out okk hokk)
        clear hra HOKK hokk
        generalize m.args[k] = a at *
        generalize (H2 ++ (List.range k).flatMap (byI m)) = J at *
        subst hA
        unfold agV at harg
        have hsz6 := hR6.lt
        have x0 := hX6.c0
        have x1 := hX6.c1
        have x2 := hX6.c2
        have x3 := hX6.c3
        go_upto_region 20 with fail
        clear x0 x1 x2 x3
        refine rg_start (fun W : World => Box W xb 106 #[.int .u8 (cls : Int), .int .u8 (cod : Int), .bool sy, .slice (some ⟨ab, aoff, none⟩) n c] ∧ Box W rb 127 #[.int .u8 (rw_c : Int), .int .u8 (rw_k : Int), .string (str rw_n), .string (str kd)] ∧ Below w.heap.size w W) (by kernel_rfl) ?_
        have hS : Box wr.drew xb 106 #[.int .u8 (cls : Int), .int .u8 (cod : Int), .bool sy, .slice (some ⟨ab, aoff, none⟩) n c] ∧ Box wr.drew rb 127 #[.int .u8 (rw_c : Int), .int .u8 (rw_k : Int), .string (str rw_n), .string (str kd)] ∧ Below w.heap.size w wr.drew := ⟨hX6, hR6, below_drewN hB6 1⟩
        have ho7 : OwnB wr.drew (rb + 1) A9 n6 c9 J := Own.drewN ho6 1
        have hsz7 : rb < wr.drew.heap.size := hsz6
        clear hX6 hR6 hB6 ho6 hsz6
        generalize wr.drew = wd at *
        refine rg_t 0 hS ?_
        simp only [List.getElem_toArray, List.getElem_cons_zero, Act.put, List.setIfInBounds_toArray, List.set_cons_zero, List.set_cons_succ]
        refine rg_take 1 (v := ?_) rfl (by kernel_rfl) (by kernel_rfl) (by kernel_rfl) hS rfl ?_ ?_
        rotate_left
        ·intro wS hSw; have k3 := hSw.2.1.cell (j := 3) rfl; go_simp; (with_reducible rfl)
        simp only [g_S, Act.put]
        refine rg_t 2 hS ?_
        simp only [g_S, Act.put]
        refine rg_t 3 hS ?_
        simp only [g_S, Act.put]
        refine rg_t 4 hS ?_
        simp only [g_S, Act.put]
        refine rg_take 5 (v := ?_) rfl (by kernel_rfl) (by kernel_rfl) (by kernel_rfl) hS rfl ?_ ?_
        rotate_left
        ·intro wS hSw; have k3 := hSw.1.cell (j := 3) rfl; go_simp; (with_reducible rfl)
        simp only [g_S, Act.put]
        refine rg_t 6 hS ?_
        simp only [g_S, Act.put]
        refine rg_t 7 hS ?_
        simp only [g_S, Act.put]
        refine rg_take 8 (v := ?_) rfl (by kernel_rfl) (by kernel_rfl) (by kernel_rfl) hS rfl ?_ ?_
        rotate_left
        ·intro wS hSw; have HX1 := HXA _ hSw.2.2; have k_0 := HX1 0 _ rfl; have k_1 := HX1 1 _ rfl; have k_2 := HX1 2 _ rfl; have k_3 := HX1 3 _ rfl; have k_4 := HX1 4 _ rfl; have k_5 := HX1 5 _ rfl; have k_6 := HX1 6 _ rfl; have k_7 := HX1 7 _ rfl; have k_8 := HX1 8 _ rfl; have k_9 := HX1 9 _ rfl; have k_10 := HX1 10 _ rfl; have k_11 := HX1 11 _ rfl; simp only [Nat.add_zero] at k_0; clear HX1; go_simp; (with_reducible rfl)
        simp only [g_S, Act.put]
        refine rg_one 9 rfl (by kernel_rfl) rfl (fun K hK => ?_)
        go_simp
        refine (harg wd hS.2.2).mono ?_
        rintro e w9 ⟨AC, nC, cC, rfl, hB9, hoC⟩
        obtain ⟨hX7, hR7, hB7⟩ := hS
        have hS : Box w9 xb 106 #[.int .u8 (cls : Int), .int .u8 (cod : Int), .bool sy, .slice (some ⟨ab, aoff, none⟩) n c] ∧ Box w9 rb 127 #[.int .u8 (rw_c : Int), .int .u8 (rw_k : Int), .string (str rw_n), .string (str kd)] ∧ Below w.heap.size w w9 := ⟨hX7.below hB9, hR7.below hB9, hB7.trans (hB9.mono hB7.size)⟩
        have ho9 := own_below ho7 hB9
        have hsz9 := hS.2.1.lt
        clear hX7 hR7 hB7 hB9 ho7 harg HXA hsz7
        refine hK _ _ hS ?_; clear hK K
        try simp only [g_S, Act.put]
        refine rg_t 10 hS ?_
        simp only [g_S, Act.put]
        refine rg_t 11 hS ?_
        simp only [g_S, Act.put]
        refine rg_t 12 hS ?_
        simp only [g_S, Act.put]
        refine rg_t 13 hS ?_
        simp only [g_S, Act.put]
        refine rg_t 14 hS ?_
        simp only [g_S, Act.put]
        refine rg_end (by kernel_rfl) ?_
        obtain ⟨hX6, hR6, hB6⟩ := hS
        cases okk
        ·obtain ⟨e1, e2⟩ := HNOK.out rfl
         subst e1 e2
         clear hoC
         go_wp2_with (with_reducible refine h_A ?_)
         go_ret2
         exact ⟨none, 0, rfl, Own.none_ _ _ _ _, hB6⟩
        ·obtain ⟨rfl, hoD⟩ := hoC rfl
         clear hoC
         go_wp2_with (with_reducible refine h_A ?_)
         refine unhold (wp_app slB rfl rfl rfl rfl ho9 hoD.rd (map_one _) (by omega) (by unfold maxLen; omega) (by omega) ?_)
         intro A10 c10 w10 ho10 hg10 _
         have hX10 := hX6.grown hg10 (by intro e; have := (ho9.blk_lt e.symm).1; omega)
         have hR10 := hR6.grown hg10 (by intro e; have := (ho9.blk_lt e.symm).1; omega)
         have hB10 := hB6.grown hg10 hB6.size (fun g hg => by have := (ho9.blk_lt hg).1; omega)
         rw [← List.map_append] at ho10
         clear hX6 hR6 hB6 ho9 hoD hg10
         go_wp2_with (with_reducible refine h_A ?_)
         exact ⟨⟨k + 1, _, c10, A10, by omega, rfl, by go_num, by rw [HOB.out]; exact ho10, by omega, hX10, hR10, hB10, Lib.hid (HOKK2.out (by first | rfl | trivial))⟩, by simp [RowKit.intOf]; omega⟩
       ·have hkk : k = n := by omega
        have hkn : ¬ (k : Int) < (n : Int) := by omega
        rw [hkk] at ho6
        obtain ⟨hRES, hE⟩ := HGOOD.out (fun j hj => HOK.out j (by omega))
        rw [HH2.out] at hRES
        rw [← hRES] at ho6
        obtain rfl : n6 = RES.length := (RdB.length ho6.rd).symm
        subst hE
        clear HGOOD HNO HOK hRES
        have x0 := hX6.c0
        have x1 := hX6.c1
        have x2 := hX6.c2
        have x3 := hX6.c3
        go_wp2_with (with_reducible refine h_A ?_)
        go_ret2
        exact ⟨A9, c9, rfl, ho6.base_le (by omega), hB6⟩
   ·have g1 : (2 : Int) < (cls : Int) := by omega
    cases sy
    ·have hl1 := own_lit (w := w6) w6.heap.size #[.int .u8 1, .int .u8 0] 5 2 (Nat.le_refl _) (by simp [maxLen]) (size := 1) rfl (by omega)
     have hl1r : RdB (w6.alloc (.cells #[.int .u8 1, .int .u8 0] 5)) (w6.alloc (.cells #[.int .u8 1, .int .u8 0] 5)).heap.size (some ⟨w6.heap.size, 0, none⟩) 2 2 [1, 0] := hl1.rd
     have hl2 : OwnB (w6.alloc (.cells #[.int .u8 1, .int .u8 0] 5)) (rb + 1) (some ⟨lb, 0, none⟩) 2 2 [UInt8.ofNat cls, UInt8.ofNat cod] := hl0.alloc _
     have hXb := hXa.alloc (.cells #[.int .u8 1, .int .u8 0] 5)
     have hRb := hRa.alloc (.cells #[.int .u8 1, .int .u8 0] 5)
     have hBb := hBa.alloc hBa.size (.cells #[.int .u8 1, .int .u8 0] 5)
     have hRl := hRa.lt
     go_wp2_with (with_reducible refine h_A ?_)
     refine unhold (wp_app slB rfl rfl rfl rfl hl2 hl1r (map_one _) (by omega) (by unfold maxLen; omega) (by have := hRb.lt; omega) ?_)
     intro A6 c6 w7 ho6 hg7 _
     have hX6 := hXb.grown hg7 (by intro e; have := (hl2.blk_lt e.symm).1; omega)
     have hR6 := hRb.grown hg7 (by intro e; have := (hl2.blk_lt e.symm).1; omega)
     have hB6 := hBb.grown hg7 hBb.size (fun g hg => by have := (hl2.blk_lt hg).1; omega)
     rw [← List.map_append] at ho6
     clear x0 x1 x2 x3 hl0 hl1 hl1r hl2 hXa hRa hBa hXb hRb hBb hg7
     obtain ⟨H, hH⟩ : ∃ H, H = [UInt8.ofNat cls, UInt8.ofNat cod] ++ [1, 0] := ⟨_, rfl⟩
     rw [← hH] at ho6
     have HH : Hid (H = hd0 cls cod false) := Lib.hid (by rw [hH]; unfold hd0; rw [if_neg hc2]; rfl)
     have hHl : H.length = 4 := by rw [hH]; rfl
     clear hH
     have x0 := hX6.c0
     have x1 := hX6.c1
     have x2 := hX6.c2
     have x3 := hX6.c3
     go_wp2_with (with_reducible refine h_A ?_)
     clear x0 x1 x2 x3
     go_loopw [7, 8] (fun s7 s8 wr => ∃ (k : Nat) (i : Int), k ≤ n ∧ i = (k : Int) - 1 ∧ s7 = .int .u8 ((flagsM (L0.drop k) : Nat) : Int) ∧ s8 = .int .i64 i ∧ OwnB wr (rb + 1) A6 4 c6 H ∧ Box wr xb 106 #[.int .u8 (cls : Int), .int .u8 (cod : Int), .bool false, .slice A n c] ∧ Box wr rb 127 #[.int .u8 (rw_c : Int), .int .u8 (rw_k : Int), .string (str rw_n), .string (str kd)] ∧ Below w.heap.size w wr) (fun _ s8 _ => (RowKit.intOf s8 + 1).toNat)
     case atStart => exact ⟨n, (n : Int) - 1, by omega, rfl, by rw [List.drop_eq_nil_of_le hL01]; rfl, by first | rfl | go_num, ho6, hX6, hR6, hB6⟩
     case round =>
      clear ho6 hX6 hR6 hB6
      obtain ⟨k, i, hk, hik, rfl, rfl, ho6, hX6, hR6, hB6⟩ := hrel
      cases k with
      | succ j =>
       obtain rfl : i = (j : Int) := by omega
       have g0 : (0 : Int) ≤ (j : Int) := by omega
       have g9 : (j : Int) < (n : Int) := by omega
       have hjL : j < m.args.length := by rw [← HN.out]; omega
       obtain ⟨ab, aoff, hx, hA, _, hac⟩ := HEL.out j hjL
       have z0 : wr.cell? ⟨ab, aoff + j * 12, none⟩ = _ := hac wr hB6 0 _ rfl
       have HF : Hid (flagsM (L0.drop j) = (if m.args[j].is then 1 else 0) + 2 * flagsM (L0.drop (j + 1))) := Lib.hid (by rw [HSA.out j hjL, flagsM]; rfl)
       have hfl : flagsM (L0.drop (j + 1)) < 8 := by
        have h1 := flagsM_lt (L0.drop (j + 1))
        have h2 : 2 ^ (L0.drop (j + 1)).length ≤ 2 ^ 3 := Nat.pow_le_pow_right (by omega) (by rw [List.length_drop]; omega)
        omega
       clear hac hik
       generalize m.args[j].is = ais at *
       generalize flagsM (L0.drop (j + 1)) = fl at *
       subst hA
       have x0 := hX6.c0
       have x1 := hX6.c1
       have x2 := hX6.c2
       have x3 := hX6.c3
       cases ais
       ·have HF2 : Hid (flagsM (L0.drop j) = 2 * fl) := Lib.hid (by rw [HF.out]; simp)
        clear HF
        go_wp2_with (with_reducible refine h_A ?_)
        exact ⟨⟨j, (j : Int) - 1, by omega, rfl, by rw [HF2.out]; first | rfl | (congr; omega), by go_num, ho6, hX6, hR6, hB6⟩, by first | (simp [RowKit.intOf]; done) | (simp [RowKit.intOf]; omega)⟩
       ·have HF2 : Hid (flagsM (L0.drop j) = 2 * fl + 1) := Lib.hid (by rw [HF.out]; simp; omega)
        clear HF
        go_wp2_with (with_reducible refine h_A ?_)
        exact ⟨⟨j, (j : Int) - 1, by omega, rfl, by rw [HF2.out]; first | rfl | (congr; omega), by go_num, ho6, hX6, hR6, hB6⟩, by first | (simp [RowKit.intOf]; done) | (simp [RowKit.intOf]; omega)⟩
      | zero =>
       obtain rfl : i = -1 := by omega
       have hfl : flagsM L0 < 8 := by
        have h1 := flagsM_lt L0
        have h2 : 2 ^ L0.length ≤ 2 ^ 3 := Nat.pow_le_pow_right (by omega) (by omega)
        omega
       rw [List.drop_zero]
       generalize flagsM L0 = fl at *
       have hln := own_lit (w := wr) wr.heap.size #[.int .u8 0, .int .u8 (fl : Int)] 5 2 (Nat.le_refl _) (by simp [maxLen]) (size := 1) rfl (by omega)
       have eln : #[Value.int .u8 0, .int .u8 (fl : Int)].toList = [0, UInt8.ofNat fl].map u8v := by simp [u8v, Nat.mod_eq_of_lt (show fl < 256 by omega)]
       rw [eln] at hln
       have hlnr : RdB (wr.alloc (.cells #[.int .u8 0, .int .u8 (fl : Int)] 5)) (wr.alloc (.cells #[.int .u8 0, .int .u8 (fl : Int)] 5)).heap.size (some ⟨wr.heap.size, 0, none⟩) 2 2 [0, UInt8.ofNat fl] := hln.rd
       have ho7 : OwnB (wr.alloc (.cells #[.int .u8 0, .int .u8 (fl : Int)] 5)) (rb + 1) A6 4 c6 H := ho6.alloc _
       have hX7 := hX6.alloc (.cells #[.int .u8 0, .int .u8 (fl : Int)] 5)
       have hR7 := hR6.alloc (.cells #[.int .u8 0, .int .u8 (fl : Int)] 5)
       have hB7 := hB6.alloc hB6.size (.cells #[.int .u8 0, .int .u8 (fl : Int)] 5)
       have hsz7 : rb + 1 ≤ (wr.alloc (.cells #[.int .u8 0, .int .u8 (fl : Int)] 5)).heap.size := hR7.lt
       clear ho6 hX6 hR6 hB6 hln eln hik
       go_wp2_with (with_reducible refine h_A ?_)
       refine unhold (wp_app slB rfl rfl rfl rfl ho7 hlnr (map_one _) (by omega) (by unfold maxLen; omega) hsz7 ?_)
       intro A8 c8 w8 ho8 hg8 _
       have hX8 := hX7.grown hg8 (by intro e; have := (ho7.blk_lt e.symm).1; omega)
       have hR8 := hR7.grown hg8 (by intro e; have := (ho7.blk_lt e.symm).1; omega)
       have hB8 := hB7.grown hg8 hB7.size (fun g hg => by have := (ho7.blk_lt hg).1; omega)
       rw [← List.map_append] at ho8
       obtain ⟨H2, hH2⟩ : ∃ H2, H2 = H ++ [0, UInt8.ofNat fl] := ⟨_, rfl⟩
       rw [← hH2] at ho8
       have HH2 : Hid (headM cls cod false fl = H2) := Lib.hid (by rw [headM_eq _ _ _ _ (by omega), hH2, HH.out])
       clear hH2 ho7 hX7 hR7 hB7 hg8 hlnr HH hHl
       have x0 := hX8.c0
       have x1 := hX8.c1
       have x2 := hX8.c2
       have x3 := hX8.c3
       go_wp2_with (with_reducible refine h_A ?_)
       clear x0 x1 x2 x3
       go_loopw [6, 9] (fun s6 s9 wr => ∃ (k n6 c6 : Nat) (A6 : Option Addr), k ≤ n ∧ s6 = .slice A6 n6 c6 ∧ s9 = .int .i64 (k : Int) ∧ OwnB wr (rb + 1) A6 n6 c6 (H2 ++ (List.range k).flatMap (byI m)) ∧ n6 ≤ 10 + 2000000 * k ∧ Box wr xb 106 #[.int .u8 (cls : Int), .int .u8 (cod : Int), .bool false, .slice A n c] ∧ Box wr rb 127 #[.int .u8 (rw_c : Int), .int .u8 (rw_k : Int), .string (str rw_n), .string (str kd)] ∧ Below w.heap.size w wr ∧ Hid (∀ j, j < k → okI m j = true)) (fun _ s9 _ => n - (RowKit.intOf s9).toNat)
       case atStart => exact ⟨0, _, c8, A8, by omega, rfl, rfl, by simpa using ho8, by omega, hX8, hR8, hB8, Lib.hid (fun j hj => by omega)⟩
       case round =>
        clear ho8 hX8 hR8 hB8
        obtain ⟨k, n6, c9, A9, hk, rfl, rfl, ho6, hn6, hX6, hR6, hB6, HOK⟩ := hrel
        by_cases hlt : k < n
        ·have hkn : (k : Int) < (n : Int) := by omega
         have hkd : k < kd.length := by omega
         have hsk : k < (str kd).size := by rw [hss]; exact hkd
         have hkL : k < m.args.length := by rw [← HN.out]; exact hlt
         obtain ⟨ab, aoff, hx, hA, hra, HXA⟩ := HEL.out k hkL
         have harg := fun (W : World) (hW : Below w.heap.size w W) => HARG.out k hkL hkd hx W (hra.up hW)
         have HNOK : Hid (okI m k = false → RES = [] ∧ E = 80) := Lib.hid (HNO.out k hlt)
         have HOKK : Hid (∀ ok, ok = okI m k → ok = true → ∀ j, j < k + 1 → okI m j = true) := Lib.hid (fun ok h1 h2 j hj => by
          by_cases e : j = k
          ·subst e; rw [← h1, h2]
          ·exact HOK.out j (by omega))
         have HOB : Hid (H2 ++ (List.range (k + 1)).flatMap (byI m) = (H2 ++ (List.range k).flatMap (byI m)) ++ byI m k) := Lib.hid (by rw [List.range_succ, List.flatMap_append]; simp)
         have hpl := HPL.out k
         obtain ⟨okk, hokk⟩ : ∃ o, o = okI m k := ⟨_, rfl⟩
         rw [← hokk] at harg HNOK
         have HOKK2 : Hid (okk = true → ∀ j, j < k + 1 → okI m j = true) := Lib.hid (HOKK.out okk hokk)
         clear hra HOKK hokk
         generalize m.args[k] = a at *
         generalize (H2 ++ (List.range k).flatMap (byI m)) = J at *
         subst hA
         unfold agV at harg
         have hsz6 := hR6.lt
         have x0 := hX6.c0
         have x1 := hX6.c1
         have x2 := hX6.c2
         have x3 := hX6.c3
         go_upto_region 20 with fail
         clear x0 x1 x2 x3
         refine rg_start (fun W : World => Box W xb 106 #[.int .u8 (cls : Int), .int .u8 (cod : Int), .bool false, .slice (some ⟨ab, aoff, none⟩) n c] ∧ Box W rb 127 #[.int .u8 (rw_c : Int), .int .u8 (rw_k : Int), .string (str rw_n), .string (str kd)] ∧ Below w.heap.size w W) (by kernel_rfl) ?_
         have hS : Box wr.drew xb 106 #[.int .u8 (cls : Int), .int .u8 (cod : Int), .bool false, .slice (some ⟨ab, aoff, none⟩) n c] ∧ Box wr.drew rb 127 #[.int .u8 (rw_c : Int), .int .u8 (rw_k : Int), .string (str rw_n), .string (str kd)] ∧ Below w.heap.size w wr.drew := ⟨hX6, hR6, below_drewN hB6 1⟩
         have ho7 : OwnB wr.drew (rb + 1) A9 n6 c9 J := Own.drewN ho6 1
         have hsz7 : rb < wr.drew.heap.size := hsz6
         clear hX6 hR6 hB6 ho6 hsz6
         generalize wr.drew = wd at *
         refine rg_t 0 hS ?_
         simp only [List.getElem_toArray, List.getElem_cons_zero, Act.put, List.setIfInBounds_toArray, List.set_cons_zero, List.set_cons_succ]
         refine rg_take 1 (v := ?_) rfl (by kernel_rfl) (by kernel_rfl) (by kernel_rfl) hS rfl ?_ ?_
         rotate_left
         ·intro wS hSw; have k3 := hSw.2.1.cell (j := 3) rfl; go_simp; (with_reducible rfl)
         simp only [g_S, Act.put]
         refine rg_t 2 hS ?_
         simp only [g_S, Act.put]
         refine rg_t 3 hS ?_
         simp only [g_S, Act.put]
         refine rg_t 4 hS ?_
         simp only [g_S, Act.put]
         refine rg_take 5 (v := ?_) rfl (by kernel_rfl) (by kernel_rfl) (by kernel_rfl) hS rfl ?_ ?_
         rotate_left
         ·intro wS hSw; have k3 := hSw.1.cell (j := 3) rfl; go_simp; (with_reducible rfl)
         simp only [g_S, Act.put]
         refine rg_t 6 hS ?_
         simp only [g_S, Act.put]
         refine rg_t 7 hS ?_
         simp only [g_S, Act.put]
         refine rg_take 8 (v := ?_) rfl (by kernel_rfl) (by kernel_rfl) (by kernel_rfl) hS rfl ?_ ?_
         rotate_left
         ·intro wS hSw; have HX1 := HXA _ hSw.2.2; have k_0 := HX1 0 _ rfl; have k_1 := HX1 1 _ rfl; have k_2 := HX1 2 _ rfl; have k_3 := HX1 3 _ rfl; have k_4 := HX1 4 _ rfl; have k_5 := HX1 5 _ rfl; have k_6 := HX1 6 _ rfl; have k_7 := HX1 7 _ rfl; have k_8 := HX1 8 _ rfl; have k_9 := HX1 9 _ rfl; have k_10 := HX1 10 _ rfl; have k_11 := HX1 11 _ rfl; simp only [Nat.add_zero] at k_0; clear HX1; go_simp; (with_reducible rfl)
         simp only [g_S, Act.put]
         refine rg_one 9 rfl (by kernel_rfl) rfl (fun K hK => ?_)
         go_simp
         refine (harg wd hS.2.2).mono ?_
         rintro e w9 ⟨AC, nC, cC, rfl, hB9, hoC⟩
         obtain ⟨hX7, hR7, hB7⟩ := hS
         have hS : Box w9 xb 106 #[.int .u8 (cls : Int), .int .u8 (cod : Int), .bool false, .slice (some ⟨ab, aoff, none⟩) n c] ∧ Box w9 rb 127 #[.int .u8 (rw_c : Int), .int .u8 (rw_k : Int), .string (str rw_n), .string (str kd)] ∧ Below w.heap.size w w9 := ⟨hX7.below hB9, hR7.below hB9, hB7.trans (hB9.mono hB7.size)⟩
         have ho9 := own_below ho7 hB9
         have hsz9 := hS.2.1.lt
         clear hX7 hR7 hB7 hB9 ho7 harg HXA hsz7
         refine hK _ _ hS ?_; clear hK K
         try simp only [g_S, Act.put]
         refine rg_t 10 hS ?_
         simp only [g_S, Act.put]
         refine rg_t 11 hS ?_
         simp only [g_S, Act.put]
         refine rg_t 12 hS ?_
         simp only [g_S, Act.put]
         refine rg_t 13 hS ?_
         simp only [g_S, Act.put]
         refine rg_t 14 hS ?_
         simp only [g_S, Act.put]
         refine rg_end (by kernel_rfl) ?_
         obtain ⟨hX6, hR6, hB6⟩ := hS
         cases okk
         ·obtain ⟨e1, e2⟩ := HNOK.out rfl
          subst e1 e2
          clear hoC
          go_wp2_with (with_reducible refine h_A ?_)
          go_ret2
          exact ⟨none, 0, rfl, Own.none_ _ _ _ _, hB6⟩
         ·obtain ⟨rfl, hoD⟩ := hoC rfl
          clear hoC
          go_wp2_with (with_reducible refine h_A ?_)
          refine unhold (wp_app slB rfl rfl rfl rfl ho9 hoD.rd (map_one _) (by omega) (by unfold maxLen; omega) (by omega) ?_)
          intro A10 c10 w10 ho10 hg10 _
          have hX10 := hX6.grown hg10 (by intro e; have := (ho9.blk_lt e.symm).1; omega)
          have hR10 := hR6.grown hg10 (by intro e; have := (ho9.blk_lt e.symm).1; omega)
          have hB10 := hB6.grown hg10 hB6.size (fun g hg => by have := (ho9.blk_lt hg).1; omega)
          rw [← List.map_append] at ho10
          clear hX6 hR6 hB6 ho9 hoD hg10
          go_wp2_with (with_reducible refine h_A ?_)
          exact ⟨⟨k + 1, _, c10, A10, by omega, rfl, by go_num, by rw [HOB.out]; exact ho10, by omega, hX10, hR10, hB10, Lib.hid (HOKK2.out (by first | rfl | trivial))⟩, by simp [RowKit.intOf]; omega⟩
        ·have hkk : k = n := by omega
         have hkn : ¬ (k : Int) < (n : Int) := by omega
         rw [hkk] at ho6
         obtain ⟨hRES, hE⟩ := HGOOD.out (fun j hj => HOK.out j (by omega))
         rw [HH2.out] at hRES
         rw [← hRES] at ho6
         obtain rfl : n6 = RES.length := (RdB.length ho6.rd).symm
         subst hE
         clear HGOOD HNO HOK hRES
         have x0 := hX6.c0
         have x1 := hX6.c1
         have x2 := hX6.c2
         have x3 := hX6.c3
         go_wp2_with (with_reducible refine h_A ?_)
         go_ret2
         exact ⟨A9, c9, rfl, ho6.base_le (by omega), hB6⟩
    ·have hl1 := own_lit (w := w6) w6.heap.size #[.int .u8 1, .int .u8 1] 5 2 (Nat.le_refl _) (by simp [maxLen]) (size := 1) rfl (by omega)
     have hl1r : RdB (w6.alloc (.cells #[.int .u8 1, .int .u8 1] 5)) (w6.alloc (.cells #[.int .u8 1, .int .u8 1] 5)).heap.size (some ⟨w6.heap.size, 0, none⟩) 2 2 [1, 1] := hl1.rd
     have hl2 : OwnB (w6.alloc (.cells #[.int .u8 1, .int .u8 1] 5)) (rb + 1) (some ⟨lb, 0, none⟩) 2 2 [UInt8.ofNat cls, UInt8.ofNat cod] := hl0.alloc _
     have hXb := hXa.alloc (.cells #[.int .u8 1, .int .u8 1] 5)
     have hRb := hRa.alloc (.cells #[.int .u8 1, .int .u8 1] 5)
     have hBb := hBa.alloc hBa.size (.cells #[.int .u8 1, .int .u8 1] 5)
     have hRl := hRa.lt
     go_wp2_with (with_reducible refine h_A ?_)
     refine unhold (wp_app slB rfl rfl rfl rfl hl2 hl1r (map_one _) (by omega) (by unfold maxLen; omega) (by have := hRb.lt; omega) ?_)
     intro A6 c6 w7 ho6 hg7 _
     have hX6 := hXb.grown hg7 (by intro e; have := (hl2.blk_lt e.symm).1; omega)
     have hR6 := hRb.grown hg7 (by intro e; have := (hl2.blk_lt e.symm).1; omega)
     have hB6 := hBb.grown hg7 hBb.size (fun g hg => by have := (hl2.blk_lt hg).1; omega)
     rw [← List.map_append] at ho6
     clear x0 x1 x2 x3 hl0 hl1 hl1r hl2 hXa hRa hBa hXb hRb hBb hg7
     obtain ⟨H, hH⟩ : ∃ H, H = [UInt8.ofNat cls, UInt8.ofNat cod] ++ [1, 1] := ⟨_, rfl⟩
     rw [← hH] at ho6
     have HH : Hid (H = hd0 cls cod true) := Lib.hid (by rw [hH]; unfold hd0; rw [if_neg hc2]; rfl)
     have hHl : H.length = 4 := by rw [hH]; rfl
     clear hH
     have x0 := hX6.c0
     have x1 := hX6.c1
     have x2 := hX6.c2
     have x3 := hX6.c3
     go_wp2_with (with_reducible refine h_A ?_)
     clear x0 x1 x2 x3
     go_loopw [7, 8] (fun s7 s8 wr => ∃ (k : Nat) (i : Int), k ≤ n ∧ i = (k : Int) - 1 ∧ s7 = .int .u8 ((flagsM (L0.drop k) : Nat) : Int) ∧ s8 = .int .i64 i ∧ OwnB wr (rb + 1) A6 4 c6 H ∧ Box wr xb 106 #[.int .u8 (cls : Int), .int .u8 (cod : Int), .bool true, .slice A n c] ∧ Box wr rb 127 #[.int .u8 (rw_c : Int), .int .u8 (rw_k : Int), .string (str rw_n), .string (str kd)] ∧ Below w.heap.size w wr) (fun _ s8 _ => (RowKit.intOf s8 + 1).toNat)
     case atStart => exact ⟨n, (n : Int) - 1, by omega, rfl, by rw [List.drop_eq_nil_of_le hL01]; rfl, by first | rfl | go_num, ho6, hX6, hR6, hB6⟩
     case round =>
      clear ho6 hX6 hR6 hB6
      obtain ⟨k, i, hk, hik, rfl, rfl, ho6, hX6, hR6, hB6⟩ := hrel
      cases k with
      | succ j =>
       obtain rfl : i = (j : Int) := by omega
       have g0 : (0 : Int) ≤ (j : Int) := by omega
       have g9 : (j : Int) < (n : Int) := by omega
       have hjL : j < m.args.length := by rw [← HN.out]; omega
       obtain ⟨ab, aoff, hx, hA, _, hac⟩ := HEL.out j hjL
       have z0 : wr.cell? ⟨ab, aoff + j * 12, none⟩ = _ := hac wr hB6 0 _ rfl
       have HF : Hid (flagsM (L0.drop j) = (if m.args[j].is then 1 else 0) + 2 * flagsM (L0.drop (j + 1))) := Lib.hid (by rw [HSA.out j hjL, flagsM]; rfl)
       have hfl : flagsM (L0.drop (j + 1)) < 8 := by
        have h1 := flagsM_lt (L0.drop (j + 1))
        have h2 : 2 ^ (L0.drop (j + 1)).length ≤ 2 ^ 3 := Nat.pow_le_pow_right (by omega) (by rw [List.length_drop]; omega)
        omega
       clear hac hik
       generalize m.args[j].is = ais at *
       generalize flagsM (L0.drop (j + 1)) = fl at *
       subst hA
       have x0 := hX6.c0
       have x1 := hX6.c1
       have x2 := hX6.c2
       have x3 := hX6.c3
       cases ais
       ·have HF2 : Hid (flagsM (L0.drop j) = 2 * fl) := Lib.hid (by rw [HF.out]; simp)
        clear HF
        go_wp2_with (with_reducible refine h_A ?_)
        exact ⟨⟨j, (j : Int) - 1, by omega, rfl, by rw [HF2.out]; first | rfl | (congr; omega), by go_num, ho6, hX6, hR6, hB6⟩, by first | (simp [RowKit.intOf]; done) | (simp [RowKit.intOf]; omega)⟩
       ·have HF2 : Hid (flagsM (L0.drop j) = 2 * fl + 1) := Lib.hid (by rw [HF.out]; simp; omega)
        clear HF
        go_wp2_with (with_reducible refine h_A ?_)
        exact ⟨⟨j, (j : Int) - 1, by omega, rfl, by rw [HF2.out]; first | rfl | (congr; omega), by go_num, ho6, hX6, hR6, hB6⟩, by first | (simp [RowKit.intOf]; done) | (simp [RowKit.intOf]; omega)⟩
      | zero =>
       obtain rfl : i = -1 := by omega
       have hfl : flagsM L0 < 8 := by
        have h1 := flagsM_lt L0
        have h2 : 2 ^ L0.length ≤ 2 ^ 3 := Nat.pow_le_pow_right (by omega) (by omega)
        omega
       rw [List.drop_zero]
       generalize flagsM L0 = fl at *
       have hln := own_lit (w := wr) wr.heap.size #[.int .u8 0, .int .u8 (fl : Int)] 5 2 (Nat.le_refl _) (by simp [maxLen]) (size := 1) rfl (by omega)
       have eln : #[Value.int .u8 0, .int .u8 (fl : Int)].toList = [0, UInt8.ofNat fl].map u8v := by simp [u8v, Nat.mod_eq_of_lt (show fl < 256 by omega)]
       rw [eln] at hln
       have hlnr : RdB (wr.alloc (.cells #[.int .u8 0, .int .u8 (fl : Int)] 5)) (wr.alloc (.cells #[.int .u8 0, .int .u8 (fl : Int)] 5)).heap.size (some ⟨wr.heap.size, 0, none⟩) 2 2 [0, UInt8.ofNat fl] := hln.rd
       have ho7 : OwnB (wr.alloc (.cells #[.int .u8 0, .int .u8 (fl : Int)] 5)) (rb + 1) A6 4 c6 H := ho6.alloc _
       have hX7 := hX6.alloc (.cells #[.int .u8 0, .int .u8 (fl : Int)] 5)
       have hR7 := hR6.alloc (.cells #[.int .u8 0, .int .u8 (fl : Int)] 5)
       have hB7 := hB6.alloc hB6.size (.cells #[.int .u8 0, .int .u8 (fl : Int)] 5)
       have hsz7 : rb + 1 ≤ (wr.alloc (.cells #[.int .u8 0, .int .u8 (fl : Int)] 5)).heap.size := hR7.lt
       clear ho6 hX6 hR6 hB6 hln eln hik
       go_wp2_with (with_reducible refine h_A ?_)
       refine unhold (wp_app slB rfl rfl rfl rfl ho7 hlnr (map_one _) (by omega) (by unfold maxLen; omega) hsz7 ?_)
       intro A8 c8 w8 ho8 hg8 _
       have hX8 := hX7.grown hg8 (by intro e; have := (ho7.blk_lt e.symm).1; omega)
       have hR8 := hR7.grown hg8 (by intro e; have := (ho7.blk_lt e.symm).1; omega)
       have hB8 := hB7.grown hg8 hB7.size (fun g hg => by have := (ho7.blk_lt hg).1; omega)
       rw [← List.map_append] at ho8
       obtain ⟨H2, hH2⟩ : ∃ H2, H2 = H ++ [0, UInt8.ofNat fl] := ⟨_, rfl⟩
       rw [← hH2] at ho8
       have HH2 : Hid (headM cls cod true fl = H2) := Lib.hid (by rw [headM_eq _ _ _ _ (by omega), hH2, HH.out])
       clear hH2 ho7 hX7 hR7 hB7 hg8 hlnr HH hHl
       have x0 := hX8.c0
       have x1 := hX8.c1
       have x2 := hX8.c2
       have x3 := hX8.c3
       go_wp2_with (with_reducible refine h_A ?_)
       clear x0 x1 x2 x3
       go_loopw [6, 9] (fun s6 s9 wr => ∃ (k n6 c6 : Nat) (A6 : Option Addr), k ≤ n ∧ s6 = .slice A6 n6 c6 ∧ s9 = .int .i64 (k : Int) ∧ OwnB wr (rb + 1) A6 n6 c6 (H2 ++ (List.range k).flatMap (byI m)) ∧ n6 ≤ 10 + 2000000 * k ∧ Box wr xb 106 #[.int .u8 (cls : Int), .int .u8 (cod : Int), .bool true, .slice A n c] ∧ Box wr rb 127 #[.int .u8 (rw_c : Int), .int .u8 (rw_k : Int), .string (str rw_n), .string (str kd)] ∧ Below w.heap.size w wr ∧ Hid (∀ j, j < k → okI m j = true)) (fun _ s9 _ => n - (RowKit.intOf s9).toNat)
       case atStart => exact ⟨0, _, c8, A8, by omega, rfl, rfl, by simpa using ho8, by omega, hX8, hR8, hB8, Lib.hid (fun j hj => by omega)⟩
       case round =>
        clear ho8 hX8 hR8 hB8
        obtain ⟨k, n6, c9, A9, hk, rfl, rfl, ho6, hn6, hX6, hR6, hB6, HOK⟩ := hrel
        by_cases hlt : k < n
        ·have hkn : (k : Int) < (n : Int) := by omega
         have hkd : k < kd.length := by omega
         have hsk : k < (str kd).size := by rw [hss]; exact hkd
         have hkL : k < m.args.length := by rw [← HN.out]; exact hlt
         obtain ⟨ab, aoff, hx, hA, hra, HXA⟩ := HEL.out k hkL
         have harg := fun (W : World) (hW : Below w.heap.size w W) => HARG.out k hkL hkd hx W (hra.up hW)
         have HNOK : Hid (okI m k = false → RES = [] ∧ E = 80) := Lib.hid (HNO.out k hlt)
         have HOKK : Hid (∀ ok, ok = okI m k → ok = true → ∀ j, j < k + 1 → okI m j = true) := Lib.hid (fun ok h1 h2 j hj => by
          by_cases e : j = k
          ·subst e; rw [← h1, h2]
          ·exact HOK.out j (by omega))
         have HOB : Hid (H2 ++ (List.range (k + 1)).flatMap (byI m) = (H2 ++ (List.range k).flatMap (byI m)) ++ byI m k) := Lib.hid (by rw [List.range_succ, List.flatMap_append]; simp)
         have hpl := HPL.out k
         obtain ⟨okk, hokk⟩ : ∃ o, o = okI m k := ⟨_, rfl⟩
         rw [← hokk] at harg HNOK
         have HOKK2 : Hid (okk = true → ∀ j, j < k + 1 → okI m j = true) := Lib.hid (HOKK.out okk hokk)
         clear hra HOKK hokk
         generalize m.args[k] = a at *
         generalize (H2 ++ (List.range k).flatMap (byI m)) = J at *
         subst hA
         unfold agV at harg
         have hsz6 := hR6.lt
         have x0 := hX6.c0
         have x1 := hX6.c1
         have x2 := hX6.c2
         have x3 := hX6.c3
         go_upto_region 20 with fail
         clear x0 x1 x2 x3
         refine rg_start (fun W : World => Box W xb 106 #[.int .u8 (cls : Int), .int .u8 (cod : Int), .bool true, .slice (some ⟨ab, aoff, none⟩) n c] ∧ Box W rb 127 #[.int .u8 (rw_c : Int), .int .u8 (rw_k : Int), .string (str rw_n), .string (str kd)] ∧ Below w.heap.size w W) (by kernel_rfl) ?_
         have hS : Box wr.drew xb 106 #[.int .u8 (cls : Int), .int .u8 (cod : Int), .bool true, .slice (some ⟨ab, aoff, none⟩) n c] ∧ Box wr.drew rb 127 #[.int .u8 (rw_c : Int), .int .u8 (rw_k : Int), .string (str rw_n), .string (str kd)] ∧ Below w.heap.size w wr.drew := ⟨hX6, hR6, below_drewN hB6 1⟩
         have ho7 : OwnB wr.drew (rb + 1) A9 n6 c9 J := Own.drewN ho6 1
         have hsz7 : rb < wr.drew.heap.size := hsz6
         clear hX6 hR6 hB6 ho6 hsz6
         generalize wr.drew = wd at *
         refine rg_t 0 hS ?_
         simp only [List.getElem_toArray, List.getElem_cons_zero, Act.put, List.setIfInBounds_toArray, List.set_cons_zero, List.set_cons_succ]
         refine rg_take 1 (v := ?_) rfl (by kernel_rfl) (by kernel_rfl) (by kernel_rfl) hS rfl ?_ ?_
         rotate_left
         ·intro wS hSw; have k3 := hSw.2.1.cell (j := 3) rfl; go_simp; (with_reducible rfl)
         simp only [g_S, Act.put]
         refine rg_t 2 hS ?_
         simp only [g_S, Act.put]
         refine rg_t 3 hS ?_
         simp only [g_S, Act.put]
         refine rg_t 4 hS ?_
         simp only [g_S, Act.put]
         refine rg_take 5 (v := ?_) rfl (by kernel_rfl) (by kernel_rfl) (by kernel_rfl) hS rfl ?_ ?_
         rotate_left
         ·intro wS hSw; have k3 := hSw.1.cell (j := 3) rfl; go_simp; (with_reducible rfl)
         simp only [g_S, Act.put]
         refine rg_t 6 hS ?_
         simp only [g_S, Act.put]
         refine rg_t 7 hS ?_
         simp only [g_S, Act.put]
         refine rg_take 8 (v := ?_) rfl (by kernel_rfl) (by kernel_rfl) (by kernel_rfl) hS rfl ?_ ?_
         rotate_left
         ·intro wS hSw; have HX1 := HXA _ hSw.2.2; have k_0 := HX1 0 _ rfl; have k_1 := HX1 1 _ rfl; have k_2 := HX1 2 _ rfl; have k_3 := HX1 3 _ rfl; have k_4 := HX1 4 _ rfl; have k_5 := HX1 5 _ rfl; have k_6 := HX1 6 _ rfl; have k_7 := HX1 7 _ rfl; have k_8 := HX1 8 _ rfl; have k_9 := HX1 9 _ rfl; have k_10 := HX1 10 _ rfl; have k_11 := HX1 11 _ rfl; simp only [Nat.add_zero] at k_0; clear HX1; go_simp; (with_reducible rfl)
         simp only [g_S, Act.put]
         refine rg_one 9 rfl (by kernel_rfl) rfl (fun K hK => ?_)
         go_simp
         refine (harg wd hS.2.2).mono ?_
         rintro e w9 ⟨AC, nC, cC, rfl, hB9, hoC⟩
         obtain ⟨hX7, hR7, hB7⟩ := hS
         have hS : Box w9 xb 106 #[.int .u8 (cls : Int), .int .u8 (cod : Int), .bool true, .slice (some ⟨ab, aoff, none⟩) n c] ∧ Box w9 rb 127 #[.int .u8 (rw_c : Int), .int .u8 (rw_k : Int), .string (str rw_n), .string (str kd)] ∧ Below w.heap.size w w9 := ⟨hX7.below hB9, hR7.below hB9, hB7.trans (hB9.mono hB7.size)⟩
         have ho9 := own_below ho7 hB9
         have hsz9 := hS.2.1.lt
         clear hX7 hR7 hB7 hB9 ho7 harg HXA hsz7
         refine hK _ _ hS ?_; clear hK K
         try simp only [g_S, Act.put]
         refine rg_t 10 hS ?_
         simp only [g_S, Act.put]
         refine rg_t 11 hS ?_
         simp only [g_S, Act.put]
         refine rg_t 12 hS ?_
         simp only [g_S, Act.put]
         refine rg_t 13 hS ?_
         simp only [g_S, Act.put]
         refine rg_t 14 hS ?_
         simp only [g_S, Act.put]
         refine rg_end (by kernel_rfl) ?_
         obtain ⟨hX6, hR6, hB6⟩ := hS
         cases okk
         ·obtain ⟨e1, e2⟩ := HNOK.out rfl
          subst e1 e2
          clear hoC
          go_wp2_with (with_reducible refine h_A ?_)
          go_ret2
          exact ⟨none, 0, rfl, Own.none_ _ _ _ _, hB6⟩
         ·obtain ⟨rfl, hoD⟩ := hoC rfl
          clear hoC
          go_wp2_with (with_reducible refine h_A ?_)
          refine unhold (wp_app slB rfl rfl rfl rfl ho9 hoD.rd (map_one _) (by omega) (by unfold maxLen; omega) (by omega) ?_)
          intro A10 c10 w10 ho10 hg10 _
          have hX10 := hX6.grown hg10 (by intro e; have := (ho9.blk_lt e.symm).1; omega)
          have hR10 := hR6.grown hg10 (by intro e; have := (ho9.blk_lt e.symm).1; omega)
          have hB10 := hB6.grown hg10 hB6.size (fun g hg => by have := (ho9.blk_lt hg).1; omega)
          rw [← List.map_append] at ho10
          clear hX6 hR6 hB6 ho9 hoD hg10
          go_wp2_with (with_reducible refine h_A ?_)
          exact ⟨⟨k + 1, _, c10, A10, by omega, rfl, by go_num, by rw [HOB.out]; exact ho10, by omega, hX10, hR10, hB10, Lib.hid (HOKK2.out (by first | rfl | trivial))⟩, by simp [RowKit.intOf]; omega⟩
        ·have hkk : k = n := by omega
         have hkn : ¬ (k : Int) < (n : Int) := by omega
         rw [hkk] at ho6
         obtain ⟨hRES, hE⟩ := HGOOD.out (fun j hj => HOK.out j (by omega))
         rw [HH2.out] at hRES
         rw [← hRES] at ho6
         obtain rfl : n6 = RES.length := (RdB.length ho6.rd).symm
         subst hE
         clear HGOOD HNO HOK hRES
         have x0 := hX6.c0
         have x1 := hX6.c1
         have x2 := hX6.c2
         have x3 := hX6.c3
         go_wp2_with (with_reducible refine h_A ?_)
         go_ret2
         exact ⟨A9, c9, rfl, ho6.base_le (by omega), hB6⟩
 ·have hg : ¬ goodM m = true := by unfold goodM; simp [hf]
  obtain rfl : RES = [] := by rw [hRES]; unfold putM; rw [if_neg hg]
  obtain rfl : E = 80 := by rw [hE]; unfold errM; rw [if_neg hg]
  unfold formM kindsM at hf
  rw [← hkd] at hf
  generalize (findM m.cls m.code).isSome = is at *
  clear hap hg hRES hE hko hk3 hkd hrw his hm
  cases is
  ·clear hf
   go_enter Tryz.func43, Tryz.ntmps43
   go_upto_region 1 with fail
   rw [← hxb, ← hxv]
   clear hxb hxv
   go_wp2_with (with_reducible refine h_A ?_)
   refine hfd.mono ?_
   rintro e w2 ⟨rfl, hB2⟩
   have hX2 := hX.below hB2
   have hB12 := hB1.trans (hB2.mono hB1.size)
   have hz := Box.new w2 #[.int .u8 0, .int .u8 0, .string ⟨#[]⟩, .string ⟨#[]⟩] 127
   have hXz := hX2.alloc (.cells #[.int .u8 0, .int .u8 0, .string ⟨#[]⟩, .string ⟨#[]⟩] 127)
   have hBz := hB12.alloc hB12.size (.cells #[.int .u8 0, .int .u8 0, .string ⟨#[]⟩, .string ⟨#[]⟩] 127)
   have hxz := hX2.lt
   have hwz := hB12.size
   clear hfd x0 x1 x2 x3 hX hB1 hB2
   go_wp2_with (with_reducible refine h_B ?_)
   obtain ⟨rb, hrb⟩ : ∃ g, g = w2.heap.size := ⟨_, rfl⟩
   rw [← hrb] at hz hxz hwz ⊢
   clear hrb
   generalize (w2.alloc (.cells #[.int .u8 0, .int .u8 0, .string ⟨#[]⟩, .string ⟨#[]⟩] 127)) = w3 at *
   refine unhold (wp_box (v := .agg #[.int .u8 (rw_c : Int), .int .u8 (rw_k : Int), .string (str rw_n), .string (str kd)]) (vs := [.int .u8 (rw_c : Int), .int .u8 (rw_k : Int), .string (str rw_n), .string (str kd)]) rfl rfl rfl rfl hz rfl (by kernel_rfl) (by simp) rr_one #[.int .u8 (rw_c : Int), .int .u8 (rw_k : Int), .string (str rw_n), .string (str kd)] (by simp) ?_)
   intro w5 hR hg5 hsz5
   have hX5 := hXz.grown hg5 (sne (by omega))
   have hB5 := hBz.grown hg5 hBz.size (fun g hg => by injection hg with hg; omega)
   clear hz hXz hBz hB12 hX2 hg5 hsz5
   have x0 := hX5.c0
   have x1 := hX5.c1
   have x2 := hX5.c2
   have x3 := hX5.c3
   have r3 := hR.c3
   go_wp2_with (with_reducible refine h_A ?_)
   go_ret2
   exact ⟨none, 0, rfl, Own.none_ _ _ _ _, hB5⟩
  ·by_cases hl : m.args.length = kd.length
   ·have hs : m.sync = true ∧ m.cls ≤ 2 := by
     simp only [hl, decide_true, Bool.and_true, Bool.true_and, Bool.not_eq_true', Bool.not_eq_true, Bool.not_eq_false'] at hf
     simpa using hf
    obtain ⟨hs, hc2⟩ := hs
    have g1 : ((m.args.length : Int) != ((str kd).size : Int)) = false := by rw [hss, hl]; simp
    have g2 : ((m.args.length : Int) != (kd.length : Int)) = false := by rw [hl]; simp
    have g3 : (m.cls : Int) ≤ 2 := by omega
    clear hf hl hc2
    generalize m.sync = sy at *
    subst hs
    go_enter Tryz.func43, Tryz.ntmps43
    go_upto_region 1 with fail
    rw [← hxb, ← hxv]
    clear hxb hxv
    go_wp2_with (with_reducible refine h_A ?_)
    refine hfd.mono ?_
    rintro e w2 ⟨rfl, hB2⟩
    have hX2 := hX.below hB2
    have hB12 := hB1.trans (hB2.mono hB1.size)
    have hz := Box.new w2 #[.int .u8 0, .int .u8 0, .string ⟨#[]⟩, .string ⟨#[]⟩] 127
    have hXz := hX2.alloc (.cells #[.int .u8 0, .int .u8 0, .string ⟨#[]⟩, .string ⟨#[]⟩] 127)
    have hBz := hB12.alloc hB12.size (.cells #[.int .u8 0, .int .u8 0, .string ⟨#[]⟩, .string ⟨#[]⟩] 127)
    have hxz := hX2.lt
    have hwz := hB12.size
    clear hfd x0 x1 x2 x3 hX hB1 hB2
    go_wp2_with (with_reducible refine h_B ?_)
    obtain ⟨rb, hrb⟩ : ∃ g, g = w2.heap.size := ⟨_, rfl⟩
    rw [← hrb] at hz hxz hwz ⊢
    clear hrb
    generalize (w2.alloc (.cells #[.int .u8 0, .int .u8 0, .string ⟨#[]⟩, .string ⟨#[]⟩] 127)) = w3 at *
    refine unhold (wp_box (v := .agg #[.int .u8 (rw_c : Int), .int .u8 (rw_k : Int), .string (str rw_n), .string (str kd)]) (vs := [.int .u8 (rw_c : Int), .int .u8 (rw_k : Int), .string (str rw_n), .string (str kd)]) rfl rfl rfl rfl hz rfl (by kernel_rfl) (by simp) rr_one #[.int .u8 (rw_c : Int), .int .u8 (rw_k : Int), .string (str rw_n), .string (str kd)] (by simp) ?_)
    intro w5 hR hg5 hsz5
    have hX5 := hXz.grown hg5 (sne (by omega))
    have hB5 := hBz.grown hg5 hBz.size (fun g hg => by injection hg with hg; omega)
    clear hz hXz hBz hB12 hX2 hg5 hsz5
    have x0 := hX5.c0
    have x1 := hX5.c1
    have x2 := hX5.c2
    have x3 := hX5.c3
    have r3 := hR.c3
    go_wp2_with (with_reducible refine h_A ?_)
    go_ret2
    exact ⟨none, 0, rfl, Own.none_ _ _ _ _, hB5⟩
   ·have g1 : ((m.args.length : Int) != ((str kd).size : Int)) = true := by rw [hss]; simp; omega
    have g2 : ((m.args.length : Int) != (kd.length : Int)) = true := by simp; omega
    clear hf hl
    go_enter Tryz.func43, Tryz.ntmps43
    go_upto_region 1 with fail
    rw [← hxb, ← hxv]
    clear hxb hxv
    go_wp2_with (with_reducible refine h_A ?_)
    refine hfd.mono ?_
    rintro e w2 ⟨rfl, hB2⟩
    have hX2 := hX.below hB2
    have hB12 := hB1.trans (hB2.mono hB1.size)
    have hz := Box.new w2 #[.int .u8 0, .int .u8 0, .string ⟨#[]⟩, .string ⟨#[]⟩] 127
    have hXz := hX2.alloc (.cells #[.int .u8 0, .int .u8 0, .string ⟨#[]⟩, .string ⟨#[]⟩] 127)
    have hBz := hB12.alloc hB12.size (.cells #[.int .u8 0, .int .u8 0, .string ⟨#[]⟩, .string ⟨#[]⟩] 127)
    have hxz := hX2.lt
    have hwz := hB12.size
    clear hfd x0 x1 x2 x3 hX hB1 hB2
    go_wp2_with (with_reducible refine h_B ?_)
    obtain ⟨rb, hrb⟩ : ∃ g, g = w2.heap.size := ⟨_, rfl⟩
    rw [← hrb] at hz hxz hwz ⊢
    clear hrb
    generalize (w2.alloc (.cells #[.int .u8 0, .int .u8 0, .string ⟨#[]⟩, .string ⟨#[]⟩] 127)) = w3 at *
    refine unhold (wp_box (v := .agg #[.int .u8 (rw_c : Int), .int .u8 (rw_k : Int), .string (str rw_n), .string (str kd)]) (vs := [.int .u8 (rw_c : Int), .int .u8 (rw_k : Int), .string (str rw_n), .string (str kd)]) rfl rfl rfl rfl hz rfl (by kernel_rfl) (by simp) rr_one #[.int .u8 (rw_c : Int), .int .u8 (rw_k : Int), .string (str rw_n), .string (str kd)] (by simp) ?_)
    intro w5 hR hg5 hsz5
    have hX5 := hXz.grown hg5 (sne (by omega))
    have hB5 := hBz.grown hg5 hBz.size (fun g hg => by injection hg with hg; omega)
    clear hz hXz hBz hB12 hX2 hg5 hsz5
    have x0 := hX5.c0
    have x1 := hX5.c1
    have x2 := hX5.c2
    have x3 := hX5.c3
    have r3 := hR.c3
    go_wp2_with (with_reducible refine h_A ?_)
    go_ret2
    exact ⟨none, 0, rfl, Own.none_ _ _ _ _, hB5⟩
end Go.PH
end

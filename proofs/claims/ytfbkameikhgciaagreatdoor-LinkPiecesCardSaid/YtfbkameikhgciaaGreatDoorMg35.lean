/- Texts laid together: MdGetGen, MdGetG, LpGet. -/
import Derived.Test.YtfbkameikhgciaaGreatDoorMg26
import Derived.Test.YtfbkameikhgciaaGreatDoorMg30
import Derived.Test.YtfbkameikhgciaaGreatDoorMg32
import Derived.Test.YtfbkameikhgciaaGreatDoorMg34
set_option linter.all false
set_option linter.unusedSimpArgs false
set_option linter.unusedVariables false
set_option maxRecDepth 20000
set_option maxHeartbeats 8000000
section
namespace Go.PH
open Go.RowKit Go.Proofs
def zat (w : World) (b : List UInt8) (e : Ending) (w' : World) : Prop := ∃ (m : Mt) (A : Option Addr) (c : Nat) (er : Int), e = .returned (.tuple #[.agg (mtV m A c), .int .i64 er]) ∧ RM w' (FN w.heap.size w') m A c ∧ Below w.heap.size w w' ∧ GetM b m er
theorem RM.zero (w : World) (F : Nat → Prop) : RM w F mt0 none 0 := ⟨by decide, by decide, ⟨[], rfl, RdX.nil _ _ _ _ _ (Nat.zero_le _), fun p hp => by cases hp⟩, Nat.zero_le _⟩
theorem Kr {l lr : List UInt8} {fl : Nat} (h : (fl, lr, false) = mnum l false 2) : 2 ≤ l.length ∧ lr = l.drop 2 := by
 rw [xV (by decide)] at h
 injection h with _ h
 unfold yT at h
 split at h
 ·injection h with _ h; cases h
 ·rename_i hn
  injection h with h1 _
  refine ⟨?_, h1⟩
  have : ¬ ((l.length : Int) < 2) := fun e => hn (.inr (.inr e))
  omega
theorem MpS.rm {w : World} {B bs : Nat} {A : Option Addr} {c : Nat} {xs : List (Ag × AH)} (h : MpS w bs A c xs) (hB : B ≤ bs) (cls code : Nat) (sync : Bool) (hc : cls < 256) (hd : code < 256) (hl : xs.length ≤ 140737488351232) : RM w (FN B w) ⟨cls, code, sync, xs.map (·.1)⟩ A c := by
 have hFB : ∀ g, FB bs A w g → FN B w g := fun g hg => ⟨Nat.le_trans hB hg.1, hg.2.1⟩
 refine ⟨hc, hd, ⟨xs, rfl, ?_, fun p hp => (h.el p hp).mono hFB⟩, by simpa using hl⟩
 have ho := h.own
 show RdX w (FN B w) 12 A (xs.map (·.1)).length c (rowC agC xs)
 rw [List.length_map]
 refine RdX.of_own ho (fun g hg => ?_)
 have := ho.blk_lt hg
 exact ⟨by omega, this.2⟩
theorem RM.ab {w : World} {F : Nat → Prop} {m : Mt} {A : Option Addr} {c : Nat} (hm : RM w F m A c) : MB m := by
 refine ⟨hm.cls, hm.code, fun x hx => ?_⟩
 obtain ⟨xs, e, _, h2⟩ := hm.row
 rw [← e] at hx
 obtain ⟨p, hp, rfl⟩ := List.mem_map.1 hx
 exact (h2 p hp).ab
theorem VJ (fl i : Nat) (h : fl < 18446744073709551616) : (bits BinOp.and IntKind.u64 ((fl : Int) / 2 ^ i) 1 == 1) = decide (fl / 2 ^ i % 2 = 1) := by
 have e : ((fl : Int) / 2 ^ i) = ((fl / 2 ^ i : Nat) : Int) := by rw [Int.natCast_ediv]; norm_cast
 have hl : fl / 2 ^ i ≤ fl := Nat.div_le_self _ _
 rw [e]
 generalize fl / 2 ^ i = q at *
 rw [and_one_u64 _ (by omega) (by omega)]
 by_cases h1 : q % 2 = 1
 ·rw [decide_eq_true h1]; simp; omega
 ·rw [decide_eq_false h1]; simp; omega
theorem MRd.grown {w w' : World} {B rb : Nat} {l : List UInt8} {bad : Bool} {row : Option Nat} (h : MRd w B rb l bad) (hB : B ≤ w.heap.size) (hg : w.grownBy w' row) (hr : ∀ g, row = some g → B ≤ g ∧ g ≠ rb) : MRd w' B rb l bad := by
 obtain ⟨A, n, c, hb, hr', hn⟩ := h
 exact ⟨A, n, c, hb.grown hg (fun e => (hr _ e.symm).2 rfl), hr'.grown hg hB (fun g hg => (hr g hg).1), hn⟩
theorem Ks (f : Nat → List UInt8) (h : ∀ i, (f i).length ≤ 2000000) : ∀ n, ((List.range n).flatMap f).length ≤ 2000000 * n := by
 intro n
 induction n with
 | zero => simp
 | succ n ih =>
  rw [List.range_succ, List.flatMap_append, List.length_append]
  have := h n
  simp only [List.flatMap_cons, List.flatMap_nil, List.append_nil]
  omega
theorem Kt (m : Mt) : (putM m).length ≤ 6000010 := by
 unfold putM
 split
 ·rename_i hg
  have hl : m.args.length ≤ 3 := by
   unfold xC Zm xz at hg
   simp only [Bool.and_eq_true, decide_eq_true_eq] at hg
   rw [hg.1.1.2]
   exact (qe _ _).2
  have h1 := Ks (byI m) (fun i => by
   unfold byI
   split
   ·exact Z1 _ _
   ·simp) m.args.length
  rw [List.length_append]
  have h2 : (qV m.cls m.code m.sync (zy (m.args.map toSA))).length ≤ 6 := by
   unfold qV
   split <;> simp [zn]
  omega
 ·simp
theorem zaB {kd : UInt8} (hk : kd ∈ jO) : ∀ (args : Array Value) (w : World), (callFunc (rdFn kd) args).run Tryz.prog w = .ok (.enter (rdFn kd) args) w := by
 unfold jO at hk
 simp only [List.mem_cons, List.not_mem_nil, or_false] at hk
 rcases hk with rfl | rfl | rfl | rfl | rfl | rfl | rfl | rfl | rfl <;> exact fun _ _ => rfl
theorem Ku (A : Option Addr) (n c : Nat) (b : List UInt8) (w : World) (he : MEnv w) (hr : RdB w w.heap.size A n c b) (hn : n ≤ 100000000)
  (hrd : ∀ kd, kd ∈ yg (zZ (b.getD 0 0).toNat (b.getD 1 0).toNat) → ∀ (W : World) (rb ab : Nat) (l : List UInt8) (bad is : Bool), MRd W w.heap.size rb l bad → w.heap.size ≤ rb → Box W ab 80 #[.bool is, .int .u64 0, .string ⟨#[]⟩, .int .u32 0, .string ⟨#[]⟩, .string ⟨#[]⟩, .slice none 0 0, .int .u8 0, .int .u64 0, .string ⟨#[]⟩, .slice none 0 0, .slice none 0 0] → w.heap.size ≤ ab → ab ≠ rb → Below w.heap.size w W →
   Calls Tryz.prog (rdFn kd) #[.pointer (some ⟨rb, 0, none⟩), .pointer (some ⟨ab, 0, none⟩)] W (Ya W w.heap.size rb ab kd is l bad))
  (hpt : ∀ (m : Mt) (A : Option Addr) (c : Nat) (W : World), m.cls = (b.getD 0 0).toNat → m.code = (b.getD 1 0).toNat → RMw W m A c → Below w.heap.size w W → Calls Tryz.prog 50 #[.agg (mtV m A c)] W (MPut W m)) : Calls Tryz.prog 87 #[.slice A n c] w (zat w b) := by
 have HRD0 := Lib.hid hrd
 have HPT00 := Lib.hid hpt
 clear hrd hpt
 obtain ⟨zb, w0, hqb, hqv, hz, hB0⟩ := xS w #[.int .u8 0, .int .u8 0, .bool false, .slice none 0 0] 106
 have hzw : w.heap.size ≤ zb := by omega
 have hln : b.length = n := RdB.length hr
 by_cases h2 : n < 2
 ·have g2 : (n : Int) < 2 := by omega
  go_enter Tryz.func87, Tryz.ntmps87
  go_upto_region 2 with fail
  rw [← hqb, ← hqv]
  clear hqb hqv
  go_wp2_with (with_reducible refine h_B ?_)
  refine zc (zm (v := .agg #[.int .u8 0, .int .u8 0, .bool false, .slice none 0 0]) (vs := [.int .u8 0, .int .u8 0, .bool false, .slice none 0 0]) rfl rfl rfl rfl hz rfl (by kernel_rfl) (by simp) jy #[.int .u8 0, .int .u8 0, .bool false, .slice none 0 0] (by simp) ?_)
  intro w1 hz1 hg1 _
  have hB1 := hB0.grown hg1 hB0.size (fun g hg => by injection hg with hg; omega)
  go_wp2_with (with_reducible refine h_A ?_)
  refine yU rfl hz1 rfl rfl Tryz.underlying106 rfl (by kernel_rfl) rfl ?_
  exact ⟨mt0, none, 0, 4, rfl, RM.zero _ _, hB1, .inl ⟨by omega, rfl, rfl⟩⟩
 ·have g2 : ¬ (n : Int) < 2 := by omega
  have g3 : (1 : Int) < (n : Int) := by omega
  have g4 : (0 : Int) < (n : Int) := by omega
  have g5 : 0 < n := by omega
  have g6 : 1 < n := by omega
  obtain ⟨x, y, r, hbx⟩ : ∃ x y r, b = x :: y :: r := by
   match b, hln with
   | [], h => simp at h; omega
   | [_], h => simp at h; omega
   | x :: y :: r, _ => exact ⟨x, y, r, rfl⟩
  obtain ⟨g, off, hA, hgw, hcell⟩ := hr.at_ (by omega)
  subst hA
  have TK0 : ∀ W, Below w.heap.size w W → W.cell? ⟨g, off, none⟩ = some (.int .u8 (x.toNat : Int)) ∧ W.cell? ⟨g, off + 1, none⟩ = some (.int .u8 (y.toNat : Int)) := fun W hW =>
   ⟨(hW.cell (p := ⟨g, off, none⟩) hgw).trans (by have := hcell 0 (u8v x) (by rw [hbx]; rfl); rw [YR] at this; exact this), (hW.cell (p := ⟨g, off + 1, none⟩) hgw).trans (by have := hcell 1 (u8v y) (by rw [hbx]; rfl); rw [YR] at this; exact this)⟩
  go_enter Tryz.func87, Tryz.ntmps87
  go_upto_region 3 with fail
  rw [← hqb, ← hqv]
  clear hqb hqv
  refine zD (fun W : World => Below w.heap.size w W) (by kernel_rfl) ?_
  have hS : Below w.heap.size w w0.drew := za hB0 1
  replace hz : Box w0.drew zb 106 #[.int .u8 0, .int .u8 0, .bool false, .slice none 0 0] := hz
  generalize w0.drew = wd at *
  refine rg_t 0 hS ?_
  simp only [List.getElem_toArray, List.getElem_cons_zero, Act.put, List.setIfInBounds_toArray, List.set_cons_zero, List.set_cons_succ]
  refine rg_t 1 hS ?_
  simp only [g_S, Act.put]
  refine zv 2 (v := ?_) rfl (by kernel_rfl) (by kernel_rfl) (by kernel_rfl) hS rfl ?_ ?_
  rotate_left
  ·intro wS hSw; have k0 := (TK0 wS hSw).1; go_simp; (with_reducible rfl)
  simp only [g_S, Act.put]
  refine rg_t 3 hS ?_
  simp only [g_S, Act.put]
  refine rg_t 4 hS ?_
  simp only [g_S, Act.put]
  refine zv 5 (v := ?_) rfl (by kernel_rfl) (by kernel_rfl) (by kernel_rfl) hS rfl ?_ ?_
  rotate_left
  ·intro wS hSw; have k0 := (TK0 wS hSw).2; go_simp; (with_reducible rfl)
  simp only [g_S, Act.put]
  refine rg_t 6 hS ?_
  simp only [g_S, Act.put]
  refine zi 7 rfl (by kernel_rfl) rfl (fun K hK => ?_)
  obtain ⟨mb, w1, hqb, hqv, hm, hbel⟩ := xS wd #[.int .u8 0, .int .u8 0, .bool false, .slice none 0 0] 106
  have hS1 := hS.trans (hbel.mono hS.size)
  have hz1 := hz.below hbel
  have hmz : zb < mb := by rw [hqb]; exact hz.lt
  go_simp
  rw [← hqb, ← hqv]
  clear hqb hqv hbel hz
  refine hK _ _ hS1 ?_; clear hK K
  try simp only [g_S, Act.put]
  refine zi 8 rfl (by kernel_rfl) rfl (fun K hK => ?_)
  refine zM (v := .agg #[.int .u8 (x.toNat : Int), .int .u8 (y.toNat : Int), .bool false, .slice none 0 0]) (vs := [.int .u8 (x.toNat : Int), .int .u8 (y.toNat : Int), .bool false, .slice none 0 0]) rfl rfl rfl hm rfl (by kernel_rfl) (by simp) jy #[.int .u8 (x.toNat : Int), .int .u8 (y.toNat : Int), .bool false, .slice none 0 0] (by simp) ?_
  intro w2 hm2 hg2 _
  have hS2 := hS1.grown hg2 hS1.size (fun g hg => by injection hg with hg; omega)
  have hz2 := hz1.grown hg2 (sne (by omega))
  refine hK _ _ hS2 ?_
  clear hK K hS hS1 hz1 hm hg2
  refine zK (by kernel_rfl) ?_
  have hB2 := hS2
  have hkn := js x.toNat y.toNat w2 (he.on hB2)
  have hb01 : (b.getD 0 0).toNat = x.toNat ∧ (b.getD 1 0).toNat = y.toNat := by rw [hbx]; exact ⟨rfl, rfl⟩
  have HB01 := Lib.hid hb01
  have HBX := Lib.hid hbx
  clear hb01 hbx hS2
  have x0 := hm2.c0
  have x1 := hm2.c1
  cases hfm : zZ x.toNat y.toNat with
  | none =>
   rw [hfm] at hkn
   simp only [yg, Option.map_none, Option.getD_none, Option.isSome_none] at hkn
   have HFM := Lib.hid hfm
   clear hfm
   go_wp2_with (with_reducible refine h_A ?_)
   refine hkn.mono ?_
   rintro e w3 ⟨rfl, hB3⟩
   have hz3 := hz2.below hB3
   have hB3 := hB2.trans (hB3.mono hB2.size)
   clear x0 x1 hm2 hz2 hB2 hkn
   go_wp2_with (with_reducible refine h_B ?_)
   refine zc (zm (v := .agg #[.int .u8 0, .int .u8 0, .bool false, .slice none 0 0]) (vs := [.int .u8 0, .int .u8 0, .bool false, .slice none 0 0]) rfl rfl rfl rfl hz3 rfl (by kernel_rfl) (by simp) jy #[.int .u8 0, .int .u8 0, .bool false, .slice none 0 0] (by simp) ?_)
   intro w12 hz12 hg12 _
   have hB12 := hB3.grown hg12 hB3.size (fun g hg => by injection hg with hg; omega)
   go_wp2_with (with_reducible refine h_A ?_)
   refine yU rfl hz12 rfl rfl Tryz.underlying106 rfl (by kernel_rfl) rfl ?_
   exact ⟨mt0, none, 0, 80, rfl, RM.zero _ _, hB12, .inr (.inl ⟨by omega, by rw [HB01.out.1, HB01.out.2]; exact HFM.out, rfl, rfl⟩)⟩
  | some row =>
   rw [hfm] at hkn
   simp only [yg, Option.map_some, Option.getD_some, Option.isSome_some] at hkn
   obtain ⟨hkl, hk3⟩ := qe x.toNat y.toNat
   obtain ⟨kd, hkd⟩ : ∃ k, k = yg (zZ x.toNat y.toNat) := ⟨_, rfl⟩
   have hkr : row.kinds = kd := by rw [hkd, hfm]; rfl
   rw [hkr] at hkn
   rw [← hkd] at hkl hk3
   have hrd := HRD0.out
   rw [HB01.out.1, HB01.out.2, ← hkd] at hrd
   have HRD := Lib.hid hrd
   have hpt := HPT00.out
   rw [HB01.out.1, HB01.out.2] at hpt
   have HPT0 := Lib.hid hpt
   clear hrd hpt HRD0 HPT00
   have HKD := Lib.hid hkd
   have HKL := Lib.hid hkl
   have HFI : Hid ((zZ x.toNat y.toNat).isSome = true) := Lib.hid (by rw [hfm]; rfl)
   clear hfm hkr hkd hkl
   obtain ⟨cb, hcb⟩ : ∃ q, q = decide (x.toNat ≤ 2) := ⟨_, rfl⟩
   have hct := fun W => qt x.toNat W
   rw [← hcb] at hct
   have HCB := Lib.hid hcb
   clear hcb
   go_wp2_with (with_reducible refine h_A ?_)
   refine hkn.mono ?_
   rintro e w3 ⟨rfl, hB3⟩
   have hm3 := hm2.below hB3
   have hz3 := hz2.below hB3
   replace hB3 := hB2.trans (hB3.mono hB2.size)
   clear x0 x1 hm2 hz2 hB2 hkn
   have x0 := hm3.c0
   have x1 := hm3.c1
   go_wp2_with (with_reducible refine h_A ?_)
   refine (hct _).mono ?_
   rintro e w4 ⟨rfl, rfl⟩
   clear hct
   go_upto_if 41 with fail
   clear x0 x1
   go_cut [7] from 38 to 51 (fun s7 wx => ∃ (at_ : Nat) (sync : Bool), s7 = .int .i64 (at_ : Int) ∧ Hid (at_ = atM x.toNat) ∧ Hid (sync = vg x.toNat b) ∧ Box wx mb 106 #[.int .u8 (x.toNat : Int), .int .u8 (y.toNat : Int), .bool sync, .slice none 0 0] ∧ Box wx zb 106 #[.int .u8 0, .int .u8 0, .bool false, .slice none 0 0] ∧ Below w.heap.size w wx)
   case first =>
    cases cb
    ·have hx2 : ¬ x.toNat ≤ 2 := by have := HCB.out.symm; simpa using this
     have HAT : Hid (4 = atM x.toNat) := Lib.hid (by unfold atM; rw [if_neg hx2])
     have HDX : Hid (decide (x.toNat ≤ 2) = false) := Lib.hid (decide_eq_false hx2)
     clear hx2 HCB
     by_cases h4 : n < 4
     ·have g7 : ¬ (4 : Int) ≤ (n : Int) := by omega
      have HSY : Hid (false = vg x.toNat b) := Lib.hid (by unfold vg; rw [List.getElem?_eq_none (by omega)]; simp)
      go_wp2_with (with_reducible refine h_B ?_)
      refine zc (zm (v := .bool false) (vs := [.bool false]) rfl rfl rfl rfl hm3 rfl (by kernel_rfl) (by simp) (by simp; rfl) #[.int .u8 (x.toNat : Int), .int .u8 (y.toNat : Int), .bool false, .slice none 0 0] (by simp) ?_)
      intro w5 hm5 hg5 _
      go_wp2_with (with_reducible refine h_A ?_)
      go_meet
      exact ⟨4, false, rfl, HAT, HSY, hm5, hz3.grown hg5 (sne (by omega)), hB3.grown hg5 hB3.size (fun g hg => by injection hg with hg; omega)⟩
     ·have g7 : (4 : Int) ≤ (n : Int) := by omega
      have g8 : (3 : Int) < (n : Int) := by omega
      have g9 : 3 < n := by omega
      have hb3 : b[3]? = some b[3] := List.getElem?_eq_getElem (by omega)
      have k3 : w3.cell? ⟨g, off + 3, none⟩ = some (.int .u8 (b[3].toNat : Int)) := (hB3.cell (p := ⟨g, off + 3, none⟩) hgw).trans (by have := hcell 3 (u8v b[3]) (by rw [List.getElem?_map, hb3]; rfl); rw [YR] at this; exact this)
      have HSY : ∀ q : Bool, decide (b[3] = 1) = q → Hid (q = vg x.toNat b) := fun q hq => Lib.hid (by unfold vg; rw [HDX.out, hb3, ← hq]; by_cases h1 : b[3] = 1 <;> simp [h1])
      generalize b[3] = z at *
      clear hb3
      by_cases hz1 : z = 1
      ·have HSY2 := HSY true (decide_eq_true hz1)
       subst hz1
       clear HSY
       have k4 : w3.cell? ⟨g, off + 3, none⟩ = some (.int .u8 1) := k3
       clear k3
       go_wp2_with (with_reducible refine h_B ?_)
       refine zc (zm (v := .bool true) (vs := [.bool true]) rfl rfl rfl rfl hm3 rfl (by kernel_rfl) (by simp) (by simp; rfl) #[.int .u8 (x.toNat : Int), .int .u8 (y.toNat : Int), .bool true, .slice none 0 0] (by simp) ?_)
       intro w5 hm5 hg5 _
       go_wp2_with (with_reducible refine h_A ?_)
       go_meet
       exact ⟨4, true, rfl, HAT, HSY2, hm5, hz3.grown hg5 (sne (by omega)), hB3.grown hg5 hB3.size (fun g hg => by injection hg with hg; omega)⟩
      ·have HSY2 := HSY false (decide_eq_false hz1)
       have hzi : ((z.toNat : Int) == 1) = false := by
        simp only [beq_eq_false_iff_ne]
        intro e
        exact hz1 (UInt8.toNat_inj.1 (by show z.toNat = 1; omega))
       clear HSY hz1
       go_wp2_with (with_reducible refine h_B ?_)
       refine zc (zm (v := .bool false) (vs := [.bool false]) rfl rfl rfl rfl hm3 rfl (by kernel_rfl) (by simp) (by simp; rfl) #[.int .u8 (x.toNat : Int), .int .u8 (y.toNat : Int), .bool false, .slice none 0 0] (by simp) ?_)
       intro w5 hm5 hg5 _
       go_wp2_with (with_reducible refine h_A ?_)
       go_meet
       exact ⟨4, false, rfl, HAT, HSY2, hm5, hz3.grown hg5 (sne (by omega)), hB3.grown hg5 hB3.size (fun g hg => by injection hg with hg; omega)⟩
    ·have hx2 : x.toNat ≤ 2 := by have := HCB.out.symm; simpa using this
     have HAT : Hid (2 = atM x.toNat) := Lib.hid (by unfold atM; rw [if_pos hx2])
     have HSY : Hid (false = vg x.toNat b) := Lib.hid (by unfold vg; rw [decide_eq_true hx2]; rfl)
     clear hx2 HCB
     go_wp2_with (with_reducible refine h_A ?_)
     go_meet
     exact ⟨2, false, rfl, HAT, HSY, hm3, hz3, hB3⟩
   case rest =>
    clear hm3 hz3 hB3 HCB
    obtain ⟨at_, sync, rfl, HAT, HSY, hm4, hz4, hB4⟩ := hcut
    have hat4 : at_ ≤ 4 := by rw [HAT.out]; unfold atM; split <;> omega
    have hmin : min (at_ : Int) (n : Int) = ((min at_ n : Nat) : Int) := by omega
    obtain ⟨a2, ha2⟩ : ∃ q, q = min at_ n := ⟨_, rfl⟩
    rw [← ha2] at hmin
    have ha2n : a2 ≤ n := by omega
    have HA2 : Hid (a2 = min at_ n) := Lib.hid ha2
    clear ha2
    have hr4 : RdB wc w.heap.size (some ⟨g, off, none⟩) n c b := hr.below hB4
    have hcap := hr4.cap
    go_wp2_with (with_reducible refine h_S ?_)
    refine zc (kw slB rfl rfl rfl hr4 a2 n c (.inr ⟨_, _, rfl, rfl⟩) (.inl ⟨rfl, rfl⟩) (.inl ⟨rfl, rfl⟩) (by intro h; cases h) (by omega) (by omega) (Nat.le_refl _) (Nat.le_refl _) ?_)
    intro A5 hr5 _
    have e5 : ((b.map u8v).take (n * 1)).drop (a2 * 1) = (b.drop a2).map u8v := by rw [Nat.mul_one, Nat.mul_one, List.take_of_length_le (by simp; omega), List.map_drop]
    rw [e5] at hr5
    have hop := xj A5 (n - a2) (c - a2) (b.drop a2) wc (jQ hr5 hB4.size) (by omega)
    clear e5 hr5 hmin
    go_wp2_with (with_reducible refine h_S ?_)
    refine hop.mono ?_
    rintro e w5 ⟨ob, vb, rfl, hob, hvb, hR, hB5⟩
    have hm5 := hm4.below hB5
    have hz5 := hz4.below hB5
    replace hB5 := hB4.trans (hB5.mono hB4.size)
    have hmb4 := hm4.lt
    clear hop hm4 hz4 hB4 hr4
    have hnum := zP hR 2 (by omega) (by omega)
    have hql := qo (b.drop a2) false 2
    obtain ⟨q, hq⟩ : ∃ q, q = mnum (b.drop a2) false 2 := ⟨_, rfl⟩
    rw [← hq] at hnum hql
    obtain ⟨fl, lr, bd⟩ := q
    simp only at hnum hql
    have HQ := Lib.hid hq
    clear hq
    go_wp2_with (with_reducible refine h_A ?_)
    refine hnum.mono ?_
    rintro e w6 ⟨rfl, hR6, hg6⟩
    have hm6 := hm5.grown hg6 (sne (by omega))
    have hz6 := hz5.grown hg6 (sne (by omega))
    have hB6 := hB5.grown hg6 hB5.size (fun g hg => by injection hg with hg; omega)
    clear hnum hm5 hz5 hB5 hg6 hR
    try simp only at hR6
    have hbd := zY hR6
    go_wp2_with (with_reducible refine h_A ?_)
    refine hbd.mono ?_
    rintro e w7 ⟨rfl, rfl⟩
    clear hbd hR6
    cases bd
    case true =>
     have HNO : Hid (∀ m', xC m' = true → MB m' → putM m' ≠ b) := Lib.hid (fun m' h1 h2 h3 => by
      obtain ⟨_, _, _, q4, q5⟩ := qL HBX.out ⟨h1, h2, h3⟩
      rw [← HAT.out] at q4 q5
      have e := HQ.out
      rw [HA2.out, Nat.min_eq_left (by omega), q5] at e
      injection e with _ e
      injection e with _ e
      cases e)
     go_wp2_with (with_reducible refine h_B ?_)
     refine zc (zm (v := .agg #[.int .u8 0, .int .u8 0, .bool false, .slice none 0 0]) (vs := [.int .u8 0, .int .u8 0, .bool false, .slice none 0 0]) rfl rfl rfl rfl hz6 rfl (by kernel_rfl) (by simp) jy #[.int .u8 0, .int .u8 0, .bool false, .slice none 0 0] (by simp) ?_)
     intro w12 hz12 hg12 _
     have hB12 := hB6.grown hg12 hB6.size (fun g hg => by injection hg with hg; omega)
     go_wp2_with (with_reducible refine h_A ?_)
     refine yU rfl hz12 rfl rfl Tryz.underlying106 rfl (by kernel_rfl) rfl ?_
     exact ⟨mt0, none, 0, 5, rfl, RM.zero _ _, hB12, .inr (.inr ⟨by omega, by rw [HB01.out.1, HB01.out.2]; exact HFI.out, .inr ⟨rfl, rfl, HNO.out⟩⟩)⟩
    case false =>
     obtain ⟨hl2, hlr⟩ := Kr HQ.out
     rw [List.length_drop, hln] at hl2
     obtain rfl : a2 = at_ := by have := HA2.out; omega
     rw [List.drop_drop] at hlr
     have HLR := Lib.hid hlr
     have HQ2 : Hid (mnum (b.drop (atM x.toNat)) false 2 = (fl, lr, false)) := Lib.hid (by rw [← HAT.out]; exact HQ.out.symm)
     have ha2n2 : a2 + 2 ≤ n := by omega
     have hr6 : RdB w7 w.heap.size (some ⟨g, off, none⟩) n c b := hr.below hB6
     clear hlr hl2 HQ HA2 HAT
     go_wp2_with (with_reducible refine h_S ?_)
     refine zc (kw slB rfl rfl rfl hr6 (a2 + 2) n c (.inr ⟨_, _, rfl, by omega⟩) (.inl ⟨rfl, rfl⟩) (.inl ⟨rfl, rfl⟩) (by intro h; cases h) (by omega) (by omega) (Nat.le_refl _) (Nat.le_refl _) ?_)
     intro A8 hr8 _
     have e8 : ((b.map u8v).take (n * 1)).drop ((a2 + 2) * 1) = (b.drop (a2 + 2)).map u8v := by rw [Nat.mul_one, Nat.mul_one, List.take_of_length_le (by simp; omega), List.map_drop]
     rw [e8, ← HLR.out] at hr8
     clear e8 hr6
     go_upto_region 16 with fail
     obtain ⟨rb, w8, hqb, hqv, hq8, hbel⟩ := xS w7 #[.slice A8 (n - (a2 + 2)) (c - (a2 + 2)), .bool false] 194
     rw [← hqb, ← hqv]
     have hm8 := hm6.below hbel
     have hz8 := hz6.below hbel
     have hB8 := hB6.trans (hbel.mono hB6.size)
     have hmb6 := hm6.lt
     have hwr : w.heap.size ≤ rb := by rw [hqb]; exact hB6.size
     have hmr : mb < rb := by rw [hqb]; exact hmb6
     have hR8 : MRd w8 w.heap.size rb lr false := ⟨_, _, _, hq8, hr8.below (hbel.mono hB6.size), by omega⟩
     clear hqb hqv hbel hm6 hz6 hB6 hr8 hq8
     go_wp2_with (with_reducible refine h_A ?_)
     refine (YH w8).mono ?_
     rintro e w9 ⟨pm, rfl, hB9, hpm8, hpm9, HM⟩
     have hm9 := hm8.below hB9
     have hz9 := hz8.below hB9
     have hR9 : MRd w9 w.heap.size rb lr false := hR8.kp ((KP.refl w.heap.size mb mb w8).below hB8.size hB9) (by omega) (by omega)
     replace hB9 := hB8.trans (hB9.mono hB8.size)
     obtain ⟨bs, hbs⟩ : ∃ q, q = w9.heap.size := ⟨_, rfl⟩
     have hrb9 : rb < bs := by obtain ⟨_, _, _, hb, _⟩ := hR9; rw [hbs]; exact hb.lt
     have hpb9 : pm < bs := by rw [hbs]; exact hpm9
     have hprb : rb < pm := by obtain ⟨_, _, _, hb, _⟩ := hR8; have := hb.lt; omega
     have hbsw : bs ≤ w9.heap.size := Nat.le_of_eq hbs
     have HM2 := Lib.hid HM
     clear hm8 hz8 hR8 hB8 HM hbs hpm8 hpm9
     have hss := zj kd
     have HRT0 : Hid (ReadTo b 0 [] lr false) := Lib.hid (ReadTo.start HBX.out HQ2.out)
     have hS9 : MpS w9 bs none 0 [] := ⟨Own.none_ _ _ _ _, fun p hp => by cases hp⟩
     go_wp2_with (with_reducible refine h_A ?_)
     go_loopw [73] (fun s wr => ∃ (i : Nat) (A3 : Option Addr) (c3 : Nat) (xs : List (Ag × AH)) (l3 : List UInt8) (b3 : Bool), i ≤ kd.length ∧ s = .int .i64 i ∧ Hid (xs.length = i) ∧ Hid (ReadTo b i (xs.map (·.1)) l3 b3) ∧ MpS wr bs A3 c3 xs ∧ Box wr mb 106 #[.int .u8 (x.toNat : Int), .int .u8 (y.toNat : Int), .bool sync, .slice A3 i c3] ∧ Box wr zb 106 #[.int .u8 0, .int .u8 0, .bool false, .slice none 0 0] ∧ MRd wr w.heap.size rb l3 b3 ∧ wr.heap[pm]? = w9.heap[pm]? ∧ Below w.heap.size w wr ∧ bs ≤ wr.heap.size) (fun s _ => kd.length - (RowKit.intOf s).toNat)
     case atStart => exact ⟨0, none, 0, [], lr, false, by omega, rfl, Lib.hid rfl, HRT0, hS9, hm9, hz9, hR9, rfl, hB9, hbsw⟩
     case round =>
      clear hS9 hm9 hz9 hR9 hB9 HRT0
      obtain ⟨i, A3, c3, xs, l3, b3, hi, rfl, HXL, HRT, hS, hm, hz, hR, hmap, hB, hsz⟩ := hrel
      by_cases hlt : i < kd.length
      ·have g1 : (i : Int) < (kd.length : Int) := by omega
       have hsk : i < (str kd).size := by rw [hss]; exact hlt
       have g2i : (i : Int) ≤ 3 := by omega
       have x3 := hm.c3
       go_upto_region 21 with fail
       have hfi := VJ fl i hql
       obtain ⟨is, his⟩ : ∃ q : Bool, q = decide (fl / 2 ^ i % 2 = 1) := ⟨_, rfl⟩
       rw [← his] at hfi
       have HIS : Hid (∀ m, Told b m → ∀ (h : i < m.args.length), m.args[i].is = is) := Lib.hid (fun m hm h => by rw [his]; exact V2 HBX.out HQ2.out hm h)
       simp only [hfi]
       clear hfi his x3
       obtain ⟨ab, w4, hab, hav, hAB, hB4⟩ := zo wr #[.bool is, .int .u64 0, .string ⟨#[]⟩, .int .u32 0, .string ⟨#[]⟩, .string ⟨#[]⟩, .slice none 0 0, .int .u8 0, .int .u64 0, .string ⟨#[]⟩, .slice none 0 0, .slice none 0 0] 80
       rw [← hab, ← hav]
       have hs4 := hB4.size
       have hmlt := hm.lt
       have hzlt := hz.lt
       have hm4 := hm.below hB4
       have hz4 := hz.below hB4
       have hR4 : MRd w4 w.heap.size rb l3 b3 := hR.kp ((KP.refl w.heap.size mb mb wr).below hB.size hB4) (by omega) (by omega)
       have hmap4 : w4.heap[pm]? = w9.heap[pm]? := (hB4.block pm (by omega)).trans hmap
       have hB04 := hB.trans (hB4.mono hB.size)
       have hkm := HKL.out kd[i] (List.getElem_mem hlt)
       have hlk : (Instr.lookup 195 (.map (some pm)) (.int .u8 (((str kd)[i]'hsk).toNat : Int)) false).run Tryz.prog w4 = .ok (.func (.func (rdFn kd[i])) #[] #[]) w4 := HM2.out w4 hmap4 kd[i] hkm
       have hcf := zaB hkm
       have hmr := HRD.out kd[i] (List.getElem_mem hlt) w4 rb ab l3 b3 is hR4 hwr hAB (by have := hB.size; omega) (by omega) hB04
       have hSk : ∀ g, bs ≤ g → g < wr.heap.size → w4.heap[g]? = wr.heap[g]? := fun g _ hg => hB4.block g hg
       have hwab : wr.heap.size ≤ ab := by omega
       have hnb : ∀ g, blk A3 = some g → bs ≤ g ∧ g < wr.heap.size := fun g hg => hS.own.blk_lt hg
       have hBs := hB.size
       clear hab hav hm hz hR hB hAB hB4
       go_wp2_with (with_reducible refine h_A ?_)
       refine hmr.mono ?_
       rintro e w5 ⟨a, ah, l5, b5, rfl, hAB5, hRA5, hR5, hK5, hai, HAR⟩
       have HRT5 : Hid (ReadTo b (i + 1) (xs.map (·.1) ++ [a]) l5 b5) := Lib.hid (ReadTo.step HBX.out HKD.out HRT.out hlt HIS.out HAR)
       have hs5 := hK5.size
       have hm5 := hK5.box hm4 (by omega) (by omega)
       have hz5 := hK5.box hz4 (by omega) (by omega)
       have hmap5 : w5.heap[pm]? = w9.heap[pm]? := (hK5.2 pm (by omega) (by omega) (by omega)).trans hmap4
       have hB05 := hB04.trans hK5.1
       have hS5 : MpS w5 bs A3 c3 xs := hS.on (fun g h1 h2 => (hK5.2 g (by omega) (by omega) (by omega)).trans (hSk g h1 h2)) (by omega)
       have hRA6 : RA w5 (FB bs A3 w5) a ah := hRA5.mono (fun g hg => ⟨by have := hg.1; omega, hg.2, fun e => by have := hnb g e; have := hg.1; omega⟩)
       clear hmr hlk hkm hcf hmap hmap4 hR4 hm4 hz4 hB04 hSk hRA5 hK5 HAR hai HIS HRT hS
       unfold agV at hAB5
       have a_0 := hAB5.c0
       have a_1 := hAB5.c1
       have a_2 := hAB5.c2
       have a_3 := hAB5.c3
       have a_4 := hAB5.c4
       have a_5 := hAB5.c5
       have a_6 := hAB5.c6
       have a_7 := hAB5.c7
       have a_8 := hAB5.c8
       have a_9 := hAB5.c9
       have a_10 := hAB5.c10
       have a_11 := hAB5.c11
       have o3 := hm5.c3
       have hown5 : Own w5 bs 80 12 A3 i c3 (rowC agC xs) := HXL.out ▸ hS5.own
       go_wp2_with (with_reducible refine h_B ?_)
       refine zc (Qw (W := w5) QY slAg Tryz.underlying82 rfl rfl rfl rfl rfl (a, ah) rfl hown5 (by omega) (by omega) (by omega) ?_)
       intro A9 c9 wA ho9 hgA hA9 _
       have hSA := hS5.push hRA6 (by rw [HXL.out]; exact ho9) hgA hA9
       have hmA := hm5.grown hgA (by intro e; have := hnb _ e.symm; omega)
       have hzA := hz5.grown hgA (by intro e; have := hnb _ e.symm; omega)
       have hRA := hR5.grown hB05.size hgA (fun g hg => by have := hnb g hg; omega)
       have hmapA : wA.heap[pm]? = w9.heap[pm]? := (hgA.block pm (by omega) (by intro e; have := hnb _ e.symm; omega)).trans hmap5
       have hBA := hB05.grown hgA hB05.size (fun g hg => by have := hnb g hg; omega)
       have hsA := hgA.size
       clear hS5 hRA6 hm5 hz5 hR5 hmap5 hB05 hAB5 hown5 ho9 hgA hA9 a_0 a_1 a_2 a_3 a_4 a_5 a_6 a_7 a_8 a_9 a_10 a_11 o3
       go_wp2_with (with_reducible refine h_B ?_)
       refine zc (zm (v := .slice A9 (i + 1) c9) (vs := [.slice A9 (i + 1) c9]) rfl rfl rfl rfl hmA rfl (by kernel_rfl) (by simp) (by simp; rfl) #[.int .u8 (x.toNat : Int), .int .u8 (y.toNat : Int), .bool sync, .slice A9 (i + 1) c9] (by simp) ?_)
       intro wC hmC hgC hsC
       have hSC := hSA.box hgC (by omega)
       have hzC := hzA.grown hgC (sne (by omega))
       have hRC := hRA.grown hBA.size hgC (fun g hg => by injection hg with hg; omega)
       have hmapC : wC.heap[pm]? = w9.heap[pm]? := (hgC.block pm (by omega) (sne (by omega))).trans hmapA
       have hBC := hBA.grown hgC hBA.size (fun g hg => by injection hg with hg; omega)
       go_wp2_with (with_reducible refine h_A ?_)
       exact ⟨⟨i + 1, A9, c9, xs ++ [(a, ah)], l5, b5, by omega, by go_num, Lib.hid (by rw [List.length_append, HXL.out]; rfl), Lib.hid (by rw [List.map_append]; exact HRT5.out), hSC, hmC, hzC, hRC, hmapC, hBC, by omega⟩, by simp [RowKit.intOf]; omega⟩
      ·have g1 : ¬ (i : Int) < (kd.length : Int) := by omega
       obtain rfl : i = kd.length := by omega
       have hwb : w.heap.size ≤ bs := by omega
       have hRM := hS.rm (Nat.le_refl bs) x.toNat y.toNat sync (UInt8.toNat_lt x) (UInt8.toNat_lt y) (by have := HXL.out; omega)
       have hmp := HPT0.out ⟨x.toNat, y.toNat, sync, xs.map (·.1)⟩ A3 c3 wr rfl rfl (hRM.mono (fun g hg => hg.2)) hB
       have hpl := Kt ⟨x.toNat, y.toNat, sync, xs.map (·.1)⟩
       have hMB := RM.ab hRM
       obtain ⟨M, hM⟩ : ∃ q, q = (⟨x.toNat, y.toNat, sync, xs.map (·.1)⟩ : Mt) := ⟨_, rfl⟩
       have HMM := Lib.hid hM
       have HNO : Hid (∀ m', Told b m' → m' = M ∧ b3 = false) := Lib.hid (fun m' hm' => by rw [hM, HSY.out]; exact ReadTo.all HBX.out HKD.out HRT.out hm')
       have e1 : mtV (⟨x.toNat, y.toNat, sync, xs.map (·.1)⟩ : Mt) A3 c3 = #[.int .u8 (x.toNat : Int), .int .u8 (y.toNat : Int), .bool sync, .slice A3 kd.length c3] := by unfold mtV; simp only [List.length_map, HXL.out]
       have HV : Hid (mtV M A3 c3 = #[.int .u8 (x.toNat : Int), .int .u8 (y.toNat : Int), .bool sync, .slice A3 kd.length c3]) := Lib.hid (by rw [hM]; exact e1)
       rw [e1] at hmp
       unfold MPut at hmp
       rw [← hM] at hmp hpl hMB hRM
       have HE : Hid (errM M = if xC M = true then 0 else 80) := Lib.hid rfl
       have HP : Hid (putM M = putM M) := Lib.hid rfl
       generalize hPP : putM M = P at hmp hpl
       generalize errM M = E at *
       have HPP := Lib.hid hPP
       have HMB := Lib.hid hMB
       clear hM e1 hPP hMB HP HRT HSY
       have y0 := hm.c0
       have y1 := hm.c1
       have y2 := hm.c2
       have y3 := hm.c3
       go_wp2_with (with_reducible refine h_A ?_)
       refine hmp.mono ?_
       rintro e w5 ⟨A5', c5', rfl, ho5, hB5⟩
       have hm5 := hm.below hB5
       have hz5 := hz.below hB5
       have hR5 : MRd w5 w.heap.size rb l3 b3 := hR.kp ((KP.refl w.heap.size mb mb wr).below hB.size hB5) (by omega) (by omega)
       have hB05 := hB.trans (hB5.mono hB.size)
       have hr5 : RdB w5 w.heap.size (some ⟨g, off, none⟩) n c b := hr.below hB05
       have hRM5 : RM w5 (FN bs w5) M A3 c3 := (hRM.keep (fun g hg => hB5.block g hg.2) hB5.size).mono (fun g hg => ⟨hg.1, Nat.lt_of_lt_of_le hg.2 hB5.size⟩)
       have hbe := vp _ _ _ _ A5' P.length c5' P _ _ w5 hr5 ho5.rd (by omega) (by omega)
       obtain ⟨Ar, nr, cr, hbr, _, _⟩ := hR5
       have q1 := hbr.c1
       have hmz5 := hm5.lt
       clear hmp y0 y1 y2 y3 hm hz hR hB hS hmap hRM hr5 hbr
       cases b3
       case true =>
        have HN2 : Hid (∀ m', xC m' = true → MB m' → putM m' ≠ b) := Lib.hid (fun m' h1 h2 h3 => by have := (HNO.out m' ⟨h1, h2, h3⟩).2; cases this)
        clear hbe
        go_wp2_with (with_reducible refine h_B ?_)
        refine zc (zm (v := .agg #[.int .u8 0, .int .u8 0, .bool false, .slice none 0 0]) (vs := [.int .u8 0, .int .u8 0, .bool false, .slice none 0 0]) rfl rfl rfl rfl hz5 rfl (by kernel_rfl) (by simp) jy #[.int .u8 0, .int .u8 0, .bool false, .slice none 0 0] (by simp) ?_)
        intro w12 hz12 hg12 _
        have hB12 := hB05.grown hg12 hB05.size (fun g hg => by injection hg with hg; omega)
        go_wp2_with (with_reducible refine h_A ?_)
        refine yU rfl hz12 rfl rfl Tryz.underlying106 rfl (by kernel_rfl) rfl ?_
        exact ⟨mt0, none, 0, 5, rfl, RM.zero _ _, hB12, .inr (.inr ⟨by omega, by rw [HB01.out.1, HB01.out.2]; exact HFI.out, .inr ⟨rfl, rfl, HN2.out⟩⟩)⟩
       case false =>
        by_cases hE : xC M = true
        ·obtain rfl : E = 0 := by rw [HE.out, if_pos hE]
         have HG := Lib.hid hE
         clear hE HE
         by_cases hbp : b = P
         ·rw [decide_eq_true hbp] at hbe
          have HBP := Lib.hid hbp
          clear hbp
          go_wp2_with (with_reducible refine h_A ?_)
          refine hbe.mono ?_
          rintro e w6 ⟨rfl, rfl⟩
          have y0 := hm5.c0
          have y1 := hm5.c1
          have y2 := hm5.c2
          have y3 := hm5.c3
          go_wp2_with (with_reducible refine h_B ?_)
          refine zc (zm (v := .agg #[.int .u8 (x.toNat : Int), .int .u8 (y.toNat : Int), .bool sync, .slice A3 kd.length c3]) (vs := [.int .u8 (x.toNat : Int), .int .u8 (y.toNat : Int), .bool sync, .slice A3 kd.length c3]) rfl rfl rfl rfl hz5 rfl (by kernel_rfl) (by simp) jy #[.int .u8 (x.toNat : Int), .int .u8 (y.toNat : Int), .bool sync, .slice A3 kd.length c3] (by simp) ?_)
          intro w12 hz12 hg12 _
          have hB12 := hB05.grown hg12 hB05.size (fun g hg => by injection hg with hg; omega)
          go_wp2_with (with_reducible refine h_A ?_)
          refine yU rfl hz12 rfl rfl Tryz.underlying106 rfl (by kernel_rfl) rfl ?_
          refine ⟨M, A3, c3, 0, by rw [HV.out]; rfl, ?_, hB12, .inr (.inr ⟨by omega, by rw [HB01.out.1, HB01.out.2]; exact HFI.out, .inl ⟨rfl, HMB.out, HG.out, by rw [HPP.out]; exact HBP.out.symm⟩⟩)⟩
          exact (hRM5.keep (fun g hg => hg12.block g hg.2 (by intro e; injection e with e; have := hg.1; omega)) hg12.size).mono (fun g hg => ⟨by have := hg.1; omega, Nat.lt_of_lt_of_le hg.2 hg12.size⟩)
         ·rw [decide_eq_false hbp] at hbe
          have HN2 : Hid (∀ m', xC m' = true → MB m' → putM m' ≠ b) := Lib.hid (fun m' h1 h2 h3 => by
           have e := (HNO.out m' ⟨h1, h2, h3⟩).1
           rw [e, HPP.out] at h3
           exact hbp h3.symm)
          clear hbp
          go_wp2_with (with_reducible refine h_A ?_)
          refine hbe.mono ?_
          rintro e w6 ⟨rfl, rfl⟩
          go_wp2_with (with_reducible refine h_B ?_)
          refine zc (zm (v := .agg #[.int .u8 0, .int .u8 0, .bool false, .slice none 0 0]) (vs := [.int .u8 0, .int .u8 0, .bool false, .slice none 0 0]) rfl rfl rfl rfl hz5 rfl (by kernel_rfl) (by simp) jy #[.int .u8 0, .int .u8 0, .bool false, .slice none 0 0] (by simp) ?_)
          intro w12 hz12 hg12 _
          have hB12 := hB05.grown hg12 hB05.size (fun g hg => by injection hg with hg; omega)
          go_wp2_with (with_reducible refine h_A ?_)
          refine yU rfl hz12 rfl rfl Tryz.underlying106 rfl (by kernel_rfl) rfl ?_
          exact ⟨mt0, none, 0, 5, rfl, RM.zero _ _, hB12, .inr (.inr ⟨by omega, by rw [HB01.out.1, HB01.out.2]; exact HFI.out, .inr ⟨rfl, rfl, HN2.out⟩⟩)⟩
        ·obtain rfl : E = 80 := by rw [HE.out, if_neg hE]
         have HN2 : Hid (∀ m', xC m' = true → MB m' → putM m' ≠ b) := Lib.hid (fun m' h1 h2 h3 => by
          have e := (HNO.out m' ⟨h1, h2, h3⟩).1
          rw [e] at h1
          exact hE h1)
         clear hE HE hbe
         go_wp2_with (with_reducible refine h_B ?_)
         refine zc (zm (v := .agg #[.int .u8 0, .int .u8 0, .bool false, .slice none 0 0]) (vs := [.int .u8 0, .int .u8 0, .bool false, .slice none 0 0]) rfl rfl rfl rfl hz5 rfl (by kernel_rfl) (by simp) jy #[.int .u8 0, .int .u8 0, .bool false, .slice none 0 0] (by simp) ?_)
         intro w12 hz12 hg12 _
         have hB12 := hB05.grown hg12 hB05.size (fun g hg => by injection hg with hg; omega)
         go_wp2_with (with_reducible refine h_A ?_)
         refine yU rfl hz12 rfl rfl Tryz.underlying106 rfl (by kernel_rfl) rfl ?_
         exact ⟨mt0, none, 0, 5, rfl, RM.zero _ _, hB12, .inr (.inr ⟨by omega, by rw [HB01.out.1, HB01.out.2]; exact HFI.out, .inr ⟨rfl, rfl, HN2.out⟩⟩)⟩
end Go.PH
end
section
namespace Go.PH
open Go.RowKit Go.Proofs
theorem Kq (A : Option Addr) (n c : Nat) (b : List UInt8) (w : World) (he : MEnv w) (hT : UTabs w) (hr : RdB w w.heap.size A n c b) (hn : n ≤ 100000000) : Calls Tryz.prog 87 #[.slice A n c] w (zat w b) :=
 Ku A n c b w he hr hn (fun kd hk _ _ _ _ _ is h hB ha hab hne hW => VK kd ((qe _ _).1 kd hk) is h hB ha hab hne (hT.on hW)) fun m A c W _ _ hm hW => KT m A c W (he.on hW) (hT.on hW) hm
end Go.PH
end
section
namespace Go.PH
open Go.RowKit Go.Proofs
theorem Qc (b : List UInt8) : ∃ p : Mt × Int, GetM b p.1 p.2 := by
 by_cases h2 : b.length < 2
 ·exact ⟨(mt0, 4), .inl ⟨h2, rfl, rfl⟩⟩
 ·cases hf : zZ (b.getD 0 0).toNat (b.getD 1 0).toNat with
  | none => exact ⟨(mt0, 80), .inr (.inl ⟨by omega, hf, rfl, rfl⟩)⟩
  | some r =>
   by_cases hm : ∃ m', xC m' = true ∧ MB m' ∧ putM m' = b
   ·obtain ⟨m, h3, h4, h5⟩ := hm
    exact ⟨(m, 0), .inr (.inr ⟨by omega, by rw [hf]; rfl, .inl ⟨rfl, h4, h3, h5⟩⟩)⟩
   ·exact ⟨(mt0, 5), .inr (.inr ⟨by omega, by rw [hf]; rfl, .inr ⟨rfl, rfl, fun m' h3 h4 h5 => hm ⟨m', h3, h4, h5⟩⟩⟩)⟩
noncomputable def getP (b : List UInt8) : Mt × Int := (Qc b).choose
theorem Qd (b : List UInt8) : GetM b (getP b).1 (getP b).2 := (Qc b).choose_spec
theorem K4 {b : List UInt8} {m : Mt} {er : Int} (h : GetM b m er) : m = (getP b).1 ∧ er = (getP b).2 := h.uniq (Qd b)
theorem JI (b : List UInt8) (h : (getP b).2 = 0) : (getP b).1.args.length = (yg (zZ (getP b).1.cls (getP b).1.code)).length := by
 have hg := Qd b
 rw [h] at hg
 rcases hg with ⟨_, h2, _⟩ | ⟨_, _, h2, _⟩ | ⟨_, _, ⟨_, h3, h4, h5⟩ | ⟨h2, _⟩⟩
 ·omega
 ·omega
 ·exact (vj h4 h3 h5).2.2.2.2.1
 ·omega
theorem JJ (b : List UInt8) (hb : b.length ≤ 100000000) (w0 : World) (hT : UTabs w0) : GetC w0 b (getP b).1 (getP b).2 := by
 intro A n c W hB hr he
 have hl := RdB.length hr
 refine (Kq A n c b W he (hT.on hB) hr (by omega)).mono ?_
 rintro e w' ⟨m, A2, c2, er, rfl, hRM, hB2, hG⟩
 obtain ⟨rfl, rfl⟩ := K4 hG
 exact ⟨A2, c2, rfl, hRM, hB2⟩
def Xm (a : As) : List UInt8 := match a.segs with
 | [] => []
 | s :: _ => s.load
noncomputable def ctlG (L : LS) (a : As) : LS := L.ctlM a (getP (Xm a)).1 (getP (Xm a)).2
theorem K5 : CtlOk ctlG := ⟨fun L a s t => L.lead_ctlM a _ _ s t, fun L a h => L.ctlM_st a _ _ h⟩
theorem Qe {g : GS} {f : Fr} {a : As} (hi : g.Inv) (h : g.out f = some a) : ∃ sg rest, a.segs = sg :: rest ∧ sg.load.length ≤ 16384 := by
 unfold GS.out at h
 split at h
 ·rename_i hc
  injection h with h
  rcases g.err_cases f with ⟨e, _⟩ | ⟨_, ⟨e, _⟩ | ⟨hok, ⟨e, _⟩ | ⟨hfit, ⟨e, _⟩ | ⟨e, hl⟩⟩⟩⟩
  ·omega
  ·omega
  ·omega
  ·omega
  have hg := (hi.goes f.chan f.track).snoc hok hfit hl
  have hne := ZC hg (by simp)
  have hln := vq (g.op f.chan f.track ++ [f])
  have hgl := hg.len
  have hs : a.segs = yi (g.op f.chan f.track ++ [f]) := by rw [← h]
  cases hsg : a.segs with
  | nil => rw [hs] at hsg; exact absurd hsg hne
  | cons sg rest =>
   refine ⟨sg, rest, rfl, ?_⟩
   have := kq (l := a.segs) (s := sg) (by rw [hsg]; simp)
   rw [hs] at this
   omega
 ·cases h
structure LG (L : LS) : Prop where
 inv : L.g.Inv
 sz : L.sz ≤ 4096
 ch : L.ch ≤ 255
 st : L.st < 256
theorem Qf {S N k : Nat} {M : LS} (h : LB S N k M) (hk : k < N) (a : As) : LB S N (k + 1) (ctlG M a) := h.ctlM hk a _ _
theorem Qg {S N : Nat} : ∀ (l : List Fr) (k : Nat) (M : LS), LB S N k M → k + l.length ≤ N → (∀ f ∈ l, f.wf) → ∃ k', k' ≤ k + l.length ∧ LB S N k' (M.goes ctlG l)
 | [], k, M, h, _, _ => ⟨k, by simp, h⟩
 | f :: l, k, M, h, hn, hw => by
  by_cases h5 : M.st = 5
  ·rw [LS.goes_closed h5]; exact ⟨k, by omega, h⟩
  ·rw [LS.goes_cons ctlG M f l h5]
   simp only [List.length_cons] at hn ⊢
   obtain ⟨k', h1, h2⟩ := Qg l (k + 1) _ (h.take (by omega) (hw f (by simp)) ctlG (fun L a hL => Qf hL (by omega) a)) (by omega) (fun x hx => hw x (by simp [hx]))
   exact ⟨k', by omega, h2⟩
theorem LB.lg {S N k : Nat} {M : LS} (h : LB S N k M) : LG M := ⟨h.inv, h.sz, h.ch, h.st'⟩
theorem Xn (b : List UInt8) : ∀ f ∈ (zk b).1, f.wf := by
 induction hn : b.length using Nat.strongRecOn generalizing b with
 | ind n ih =>
  subst hn
  intro f hf
  by_cases hw : zW b = false
  ·rw [xI hw] at hf; cases hf
  ·have hw1 : zW b = true := by simpa using hw
   by_cases h12 : b.length < 12
   ·rw [xr hw1 h12] at hf; cases hf
   ·by_cases hl : b.length < frN b
    ·rw [xO hw1 (by omega) hl] at hf; cases hf
    ·have hN := (xX hw1 (by omega)).1
     rw [xh hw1 (by omega) (by omega)] at hf
     rcases List.mem_cons.1 hf with rfl | hf
     ·exact Vo b _
     ·exact ih _ (by rw [List.length_drop]; omega) (b.drop (frN b)) rfl f hf
theorem jk (b : List UInt8) : ∀ f ∈ (zk b).1, f.wf ∧ f.load.length ≤ 4084 := by
 intro f hf
 refine ⟨Xn b f hf, ?_⟩
 have h := (XZ b).1
 rw [← h] at hf
 unfold Zc at hf
 have hok := (List.mem_filter.1 hf).2
 have ⟨_, o3⟩ : (f.ty ≤ 3 ∧ f.track ≤ 15) ∧ f.load.length ≤ 4084 := by unfold Fr.ok at hok; simpa using hok
 exact o3
theorem Zr (sz : Nat) : (ctlB sz startB).length ≤ 13 * startB.length + 12 := vO sz startB
theorem K6 {L : LS} (h : LG L) (b s : List UInt8) : LG (LS.feed ctlG L b s).1 ∧ (LS.feed ctlG L b s).2.length ≤ b.length + s.length ∧ (LS.feed ctlG L b s).1.sent.length ≤ 20000 * (b.length + s.length + 2) ∧ (LS.feed ctlG L b s).1.told.length ≤ b.length + s.length + 1 := by
 unfold LS.feed
 split
 ·exact ⟨⟨h.inv, h.sz, h.ch, h.st⟩, by simp, by simp, by simp⟩
 ·rename_i h5
  have hpost : ∀ (M : LS) (r : List UInt8), M.st ≠ 0 → LG M → M.told = [] → M.sent.length ≤ 1000 → r.length ≤ b.length + s.length →
    LG (LS.post ctlG (M, r)).1 ∧ (LS.post ctlG (M, r)).2.length ≤ b.length + s.length ∧ (LS.post ctlG (M, r)).1.sent.length ≤ 20000 * (b.length + s.length + 2) ∧ (LS.post ctlG (M, r)).1.told.length ≤ b.length + s.length + 1 := by
   intro M r m0 hM mt ms hr
   unfold LS.post
   simp only
   split
   ·exact ⟨hM, hr, (show M.sent.length ≤ 20000 * (b.length + s.length + 2) by omega), (show M.told.length ≤ b.length + s.length + 1 by rw [mt]; simp)⟩
   ·have hle := jv r
    have hLB : LB 1000 ((zk r).1.length + 1) 0 M := ⟨by omega, hM.inv, hM.sz, hM.ch, m0, hM.st, by omega, by rw [mt]; simp⟩
    obtain ⟨k', hk, hG⟩ := Qg (zk r).1 0 M hLB (by omega) (fun f hf => (jk r f hf).1)
    simp only
    unfold LS.frames
    split
    ·have hc := hG.close (by omega : k' < (zk r).1.length + 1) 501 yW (by decide)
     exact ⟨hc.lg, by rw [List.length_drop]; omega, Nat.le_trans hc.sent (by omega), Nat.le_trans hc.told (by omega)⟩
    ·exact ⟨hG.lg, by rw [List.length_drop]; omega, Nat.le_trans hG.sent (by omega), Nat.le_trans hG.told (by omega)⟩
  by_cases h0 : L.st = 0
  ·have hp : L.pre b s = LS.beginL L.core (b ++ s) := by unfold LS.pre; rw [if_pos h0]; rfl
   rw [hp]
   unfold LS.beginL
   split
   ·refine hpost _ _ (fun e => by cases e) ⟨h.inv, h.sz, h.ch, by show (1 : Nat) < 256; decide⟩ rfl ?_ (by simp)
    have := Zr L.sz
    have e : startB.length ≤ 50 := by decide +kernel
    show ([] ++ hdrB ++ ctlB L.sz startB).length ≤ 1000
    simp only [List.length_append, List.length_nil]
    have e2 : hdrB.length = 8 := rfl
    omega
   ·split
    ·have e2 : LS.post ctlG (L.core, b ++ s) = (L.core, b ++ s) := by unfold LS.post; rw [if_pos (.inl h0)]
     rw [e2]
     exact ⟨⟨h.inv, h.sz, h.ch, h.st⟩, by simp, by simp [LS.core], by simp [LS.core]⟩
    ·have e2 : ∀ x : List UInt8, LS.post ctlG ({ L.core with st := 5, sent := L.core.sent ++ hdrB }, x) = ({ L.core with st := 5, sent := L.core.sent ++ hdrB }, x) := fun x => by unfold LS.post; rw [if_pos (.inr rfl)]
     rw [e2]
     refine ⟨⟨h.inv, h.sz, h.ch, by show (5 : Nat) < 256; decide⟩, by simp, ?_, by simp [LS.core]⟩
     show ([] ++ hdrB).length ≤ _
     have e2 : hdrB.length = 8 := rfl
     simp only [List.nil_append]
     omega
  ·have hp : L.pre b s = (L.core, b ++ s) := by unfold LS.pre; rw [if_neg h0]; rfl
   rw [hp]
   exact hpost _ _ h0 ⟨h.inv, h.sz, h.ch, h.st⟩ rfl (by simp [LS.core]) (by simp)
end Go.PH
end

/- Texts laid together: GaFeed. -/
import Derived.WalkSpells
import Derived.Test.YtfbkameikhgciaaGreatDoorMg02
import Derived.Test.YtfbkameikhgciaaGreatDoorMg06
import Derived.Test.YtfbkameikhgciaaGreatDoorMg08
set_option linter.all false
set_option linter.unusedSimpArgs false
set_option linter.unusedVariables false
set_option maxRecDepth 20000
set_option maxHeartbeats 8000000
section
namespace Go.PH
open Go.RowKit Go.Proofs
theorem Zw (F : Nat → Prop) (pb n : Nat) (g : GS) (f : Fr) (w : World) (h : Ga w F pb n g) (hi : g.Inv) (hf : f.wf) (hl : f.load.length ≤ 140737488351232) (hn : n < 1000000000) :
  Calls Tryz.prog 55 #[.pointer (some ⟨pb, 0, none⟩), .agg (frV f)] w (Qp w F pb n g f) := by
 obtain ⟨⟨mb, D, hd, xf, hb, hF, hne, hm⟩, hlt⟩ := h
 have herr := g.err_cases f
 obtain ⟨fb, w0, hqf, hvf, hBf, hB0⟩ := zr w (frV f) 97
 obtain ⟨rb, w1, hqr, hvr, hBr, hB01⟩ := zr w0 asZ 42
 have hB1 := hB0.trans (hB01.mono hB0.size)
 have hqr1 : rb = w.heap.size + 1 := by rw [hqr, hvf]; simp
 have hBf1 := hBf.below hB01
 have hb1 := hb.below hB1
 have hlo1 : w.heap.size ≤ fb := by omega
 have hlo2 : w.heap.size ≤ rb := by rw [hqr]; exact hB0.size
 have hfr : fb ≠ rb := by omega
 clear hqr
 have hpw := hb.lt
 have hml := fun W => run_eql_map_nil (P := Tryz.prog) W _ _ _ (some mb) Tryz.underlying86
 have hck := fun W => kz f W hf hl
 have HF := Lib.hid hf
 have HE := Lib.hid herr
 clear hBf herr hf
 unfold asZ frV at *
 go_enter Tryz.func55, Tryz.ntmps55
 go_upto_region 1 with fail
 rw [← hqr1, ← hqf, ← hvf, ← hvr]
 clear hqr1 hqf hvf hvr hB0 hB01
 clear w0
 have c0 := hb1.c0
 have c1 := hb1.c1
 have f0 := (hBf1).c0
 have f1 := (hBf1).c1
 have f2 := (hBf1).c2
 have f3 := (hBf1).c3
 have f4 := (hBf1).c4
 have f5 := (hBf1).c5
 have f6 := (hBf1).c6
 have f7 := (hBf1).c7
 have HM := Lib.hid hm
 clear hm
 rcases HE.out with ⟨he, hdd⟩ | ⟨hdd, hrest⟩
 ·have HE9 := Lib.hid he
  rw [hdd] at c1 hb1
  clear he hdd HM HE
  go_wp2_with (with_reducible refine h_B ?_)
  refine zc (zm (v := .agg #[.int .u16 0, .int .u8 0, .slice none 0 0]) (vs := [.int .u16 0, .int .u8 0, .slice none 0 0]) rfl rfl rfl rfl (hBr) rfl (by kernel_rfl) (by simp) (by simp [Value.oneCell']) #[.int .u16 0, .int .u8 0, .slice none 0 0] (by simp) ?_)
  intro wz hr2 hg2 hz2
  go_wp2_with (with_reducible refine h_B ?_)
  have hb3 := hb1.grown hg2 (sne (by omega))
  exact zS rfl hr2 rfl rfl rfl Tryz.underlying42 rfl (by kernel_rfl) rfl (j5 hlt hb3 hF hne (KeepF.below (hB1.grown hg2 hB1.size (fun g hg => by injection hg with hg; omega))) (k := 9) HE9.out (by omega))
 rw [hdd] at c1 hb1
 obtain ⟨hmr, hm⟩ := HM.out hdd
 clear HM HE
 rcases hrest with ⟨he, hok⟩ | ⟨hok, hrest⟩
 ·have HE6 := Lib.hid he
  have hfe : f.err = 60 := by simp [Fr.err, hok]
  rw [hfe] at hck
  clear he hok hfe hdd
  have hkl := fun W (hb : Box W pb 88 #[.map (some mb), .bool false]) (hm' : W.ownsMap Tryz.prog 156 rawV mb n D) => YO pb mb n 60 false D W hb hm' hne
  have hmo := hm.owns
  have hFm := hm.inF
  clear hmr
  go_wp2_with (with_reducible refine h_B ?_)
  refine (hck _).mono ?_
  rintro e w2 ⟨rfl, hB12⟩
  have hb2 := hb1.below hB12
  have hm2 := zO hmo ((hB12.block mb (Nat.lt_of_lt_of_le hmo.lt hB1.size)).trans (hB1.block mb hmo.lt))
  have hr2 := hBr.below hB12
  have hB2 := hB1.trans (hB12.mono hB1.size)
  clear hb1 hBr hBf1 hB1 f0 f1 f2 f3 f4 f5 f6 f7 c0 c1
  go_wp2_with (with_reducible refine h_B ?_)
  refine (hkl _ hb2 hm2).mono ?_
  rintro e wk ⟨rfl, hbk, hKk⟩
  have hrk := ym hr2 hKk (by intro e; have := hm.lt mb hFm; rcases e with e | e <;> omega)
  unfold asZ
  go_wp2_with (with_reducible refine h_B ?_)
  refine zc (zm (v := .agg #[.int .u16 0, .int .u8 0, .slice none 0 0]) (vs := [.int .u16 0, .int .u8 0, .slice none 0 0]) rfl rfl rfl rfl hrk rfl (by kernel_rfl) (by simp) (by simp [Value.oneCell']) #[.int .u16 0, .int .u8 0, .slice none 0 0] (by simp) ?_)
  intro wz hrz hgz hzz
  have hbz := hbk.grown hgz (sne (by omega))
  have hKz : KeepF F w wz := ((KeepF.below hB2).trans (hKk.weak (G := F) (by intro g hg; rcases hg with hg | hg <;> rw [hg]; exact .inl hF; exact .inl hFm)) (fun g hg => .inl hg)).trans (.grown (F := fun g => g = rb) hgz (fun g hg => .inl (by injection hg with hg; exact hg.symm))) (fun g hg => .inr (by rw [hg]; exact hlo2))
  go_wp2_with (with_reducible refine h_B ?_)
  exact zS rfl hrz rfl rfl rfl Tryz.underlying42 rfl (by kernel_rfl) rfl (j5 hlt hbz hF hne hKz (k := 60) HE6.out (by omega))
 have hfe : f.err = 0 := by simp [Fr.err, hok]
 rw [hfe] at hck
 have HDD := Lib.hid hdd
 clear hok hfe hdd
 obtain ⟨hty, htr, hch⟩ := HF.out
 obtain ⟨H, x, is, hlk, hH0, hH1, hHn, hHo, hxt, hfp⟩ := hm.look hch (show f.track < 65536 by omega)
 have hfit := fun W => JN H (zE (g.op f.chan f.track)) x (jc (g.op f.chan f.track)) is f W HF.out hxt
 rw [hfp f] at hfit
 obtain ⟨SZ, hSZ⟩ : ∃ s, s = zE (g.op f.chan f.track) := ⟨_, rfl⟩
 obtain ⟨GO, hGO⟩ : ∃ s, s = jc (g.op f.chan f.track) := ⟨_, rfl⟩
 obtain ⟨FT, hFT⟩ : ∃ s, s = fitsB (g.op f.chan f.track) f := ⟨_, rfl⟩
 have hSZm := (hi.goes f.chan f.track).len
 rw [← hSZ] at hlk hfit hrest hSZm
 rw [← hGO] at hlk hfit
 rw [← hFT] at hfit hrest
 have HMo := Lib.hid (hi.goes f.chan f.track).most
 have HGo := Lib.hid (hi.goes f.chan f.track)
 have HS := Lib.hid hSZ
 have HG := Lib.hid hGO
 have HFT := Lib.hid hFT
 have HHn := Lib.hid hHn
 have HH0 := Lib.hid hH0
 have HH1 := Lib.hid hH1
 have HR := Lib.hid hrest
 clear hSZ hGO hFT hHn hH0 hH1 hrest hfp hi
 unfold gkV qC Hd.v at hlk
 unfold qC Hd.v frV at hfit
 go_wp2_with (with_reducible refine h_B ?_)
 refine (hck _).mono ?_
 rintro e w2 ⟨rfl, hB12⟩
 have hb2 := hb1.below hB12
 have hr2 := hBr.below hB12
 have hf2 := hBf1.below hB12
 have hB2 := hB1.trans (hB12.mono hB1.size)
 clear hck hb1 hBr hBf1 c0 c1 f0 f1 f2 f3 f4 f5 f6 f7
 have f0 := (hf2).c0
 have f1 := (hf2).c1
 have f2 := (hf2).c2
 have f3 := (hf2).c3
 have f4 := (hf2).c4
 have f5 := (hf2).c5
 have f6 := (hf2).c6
 have f7 := (hf2).c7
 obtain ⟨kb, w3, hqk, hvk, hBk, hB23⟩ := zr w2 #[.int .i64 0, .int .i64 0] 156
 have hkf : fb ≠ kb := by have := hf2.lt; omega
 have hkr : rb ≠ kb := by have := hr2.lt; omega
 have hkp : pb ≠ kb := by have := hb2.lt; omega
 have hlo3 : w.heap.size ≤ kb := by rw [hqk]; exact hB2.size
 go_wp2_with (with_reducible refine h_B ?_)
 rw [← hqk, ← hvk]
 clear hqk hvk
 refine zc (zm (v := .agg #[.int .i64 (f.chan : Int), .int .i64 (f.track : Int)]) (vs := [.int .i64 (f.chan : Int), .int .i64 (f.track : Int)]) rfl rfl rfl rfl hBk rfl (by kernel_rfl) (by simp) (by simp [Value.oneCell']) #[.int .i64 (f.chan : Int), .int .i64 (f.track : Int)] (by simp) ?_)
 intro w4 hk4 hg4 hz4
 have hb4 := (hb2.below hB23).grown hg4 (sne (by omega))
 have hr4 := (hr2.below hB23).grown hg4 (sne (by omega))
 have hf4 := (hf2.below hB23).grown hg4 (sne (by omega))
 have hB4 : Below w.heap.size w w4 := (hB2.trans (hB23.mono hB2.size)).grown hg4 (Nat.le_trans hB2.size hB23.size) (fun g hg => by injection hg with hg; omega)
 clear hb2 hr2 hf2 hBk hg4 hz4 hB23 hB12 hB1 hB2 f0 f1 f2 f3 f4 f5 f6 f7
 clear w3 w2 w1
 go_upto_region 9 with fail
 refine zD (fun W : World => Below w4.heap.size w4 W) (by kernel_rfl) ?_
 have hS : Below w4.heap.size w4 w4.drew := za (Below.refl _ _) 1
 generalize w4.drew = wd at *
 refine rg_t 0 hS ?_
 simp only [List.getElem_toArray, List.getElem_cons_zero, Act.put, List.setIfInBounds_toArray, List.set_cons_zero, List.set_cons_succ]
 refine rg_t 1 hS ?_
 simp only [g_S, Act.put]
 refine rg_t 2 hS ?_
 simp only [g_S, Act.put]
 refine zv 3 (v := ?_) rfl (by kernel_rfl) (by kernel_rfl) (by kernel_rfl) hS rfl ?_ ?_
 rotate_left
 ·intro wS hSw; have k0 := (hb4.below hSw).cell (j := 0) rfl; go_simp; (with_reducible rfl)
 simp only [g_S, Act.put]
 refine zv 4 (v := ?_) rfl (by kernel_rfl) (by kernel_rfl) (by kernel_rfl) hS rfl ?_ ?_
 rotate_left
 ·intro wS hSw; have k0 := (hk4.below hSw).cell (j := 0) rfl; have k1 := (hk4.below hSw).cell (j := 1) rfl; go_simp; (with_reducible rfl)
 simp only [g_S, Act.put]
 have hlk4 := fun (wS : World) (hSw : Below w4.heap.size w4 wS) => hlk wS (hB4.trans (hSw.mono hB4.size))
 clear hlk
 refine zv 5 (v := ?_) rfl (by kernel_rfl) (by kernel_rfl) (by kernel_rfl) hS rfl ?_ ?_
 rotate_left
 ·intro wS hSw; have k0 := hlk4 _ hSw; go_simp; (with_reducible rfl)
 simp only [g_S, Act.put]
 refine rg_t 6 hS ?_
 simp only [g_S, Act.put]
 refine rg_t 7 hS ?_
 simp only [g_S, Act.put]
 refine rg_t 8 hS ?_
 simp only [g_S, Act.put]
 refine zi 9 rfl (by kernel_rfl) rfl (fun K hK => ?_)
 obtain ⟨qb, w5, hqq, hvq, hBq, hB5⟩ := zr wd (qC ⟨none, 0, 0⟩ 0 fr00 false) 158
 unfold qC Hd.v fr00 at hvq hBq
 simp only at hvq hBq
 rw [show str [] = (⟨#[]⟩ : ByteArray) from rfl, show (((0 : Nat) : Int)) = 0 from rfl] at hvq hBq
 go_simp
 rw [← hqq, ← hvq]
 have hSw := hS.trans (hB5.mono hS.size)
 have hqw : w4.heap.size ≤ qb := by rw [hqq]; exact hS.size
 clear hqq hvq
 refine hK _ _ hSw ?_
 clear hK K hS hB5
 try simp only [g_S, Act.put]
 refine zi 10 rfl (by kernel_rfl) rfl (fun K hK => ?_)
 refine zM (g := qb) (j := 0) (v := .agg #[.slice H.A H.n H.c, .int .i64 (SZ : Int), .bool x.first, .bool x.last, .bool x.beg, .bool x.fin, .int .u8 (x.ty : Int), .int .u8 (x.track : Int), .int .u16 (x.chan : Int), .string (str x.load), .bool GO]) (vs := [.slice H.A H.n H.c, .int .i64 (SZ : Int), .bool x.first, .bool x.last, .bool x.beg, .bool x.fin, .int .u8 (x.ty : Int), .int .u8 (x.track : Int), .int .u16 (x.chan : Int), .string (str x.load), .bool GO]) rfl rfl rfl hBq rfl (by kernel_rfl) (by simp) (by simp [Value.oneCell']) #[.slice H.A H.n H.c, .int .i64 (SZ : Int), .bool x.first, .bool x.last, .bool x.beg, .bool x.fin, .int .u8 (x.ty : Int), .int .u8 (x.track : Int), .int .u16 (x.chan : Int), .string (str x.load), .bool GO] (by simp) ?_
 intro w6 hq6 hg6 hz6
 have hS6 : Below w4.heap.size w4 w6 := hSw.grown hg6 hSw.size (fun g hg => by injection hg with hg; omega)
 clear hSw hg6 hz6 hBq hlk4
 refine hK _ _ hS6 ?_
 clear hK K
 try simp only [g_S, Act.put]
 refine rg_t 11 hS6 ?_
 simp only [g_S, Act.put]
 refine zK (by kernel_rfl) ?_
 have hB6 := hB4.trans (hS6.mono hB4.size)
 have hFd : FdS w w6 H.A fb rb kb qb pb mb false f #[.slice H.A H.n H.c, .int .i64 (SZ : Int), .bool x.first, .bool x.last, .bool x.beg, .bool x.fin, .int .u8 (x.ty : Int), .int .u8 (x.track : Int), .int .u16 (x.chan : Int), .string (str x.load), .bool GO] H.A H.n H.c (yi (g.op f.chan f.track)) := by
  have z1 := hf4.lt
  have z2 := hr4.lt
  have z3 := hk4.lt
  refine ⟨hf4.below hS6, hr4.below hS6, hk4.below hS6, hq6, hb4.below hS6, zg hHo hB6, KeepF.below hB6, ⟨hlo1, hlo2, hlo3, by omega, hpw⟩, ⟨hfr, hkf, by omega, hkr, by omega, by omega⟩, ?_, fun k hk => (Own.blk_lt hHo hk).2, fun k hk => .inl hk⟩
  intro e
  by_cases e0 : g.op f.chan f.track = []
  ·rw [(HH0.out e0).1] at e; cases e
  ·rw [(HH1.out e0).1] at e; exact hmr _ _ hch (by omega) e0 e
 have hmo : w6.ownsMap Tryz.prog 156 rawV mb n D := zO hm.owns (hB6.block mb hm.owns.lt)
 have hm6 : GaMap w6 F mb n D hd xf g.op := hm.keep (fun k hk => hB6.block k (hm.lt k hk)) hB6.size
 have hFm := hm.inF
 clear hf4 hr4 hk4 hb4 hq6 hS6 hB4 hHo
 have q0 := hFd.bq.c0
 have q1 := hFd.bq.c1
 have q2 := hFd.bq.c2
 have q3 := hFd.bq.c3
 have q4 := hFd.bq.c4
 have q5 := hFd.bq.c5
 have q6 := hFd.bq.c6
 have q7 := hFd.bq.c7
 have q8 := hFd.bq.c8
 have q9 := hFd.bq.c9
 have q10 := hFd.bq.c10
 have hbf := hFd.bf
 unfold frV at hbf
 have f0 := (hbf).c0
 have f1 := (hbf).c1
 have f2 := (hbf).c2
 have f3 := (hbf).c3
 have f4 := (hbf).c4
 have f5 := (hbf).c5
 have f6 := (hbf).c6
 have f7 := (hbf).c7
 clear hbf
 have hkl := fun W (k : Nat) (hb : Box W pb 88 #[.map (some mb), .bool false]) (hm' : W.ownsMap Tryz.prog 156 rawV mb n D) => YO pb mb n k false D W hb hm' hne
 have hck := fun W => hfit W
 clear hfit
 cases FT with
 | false =>
  go_wp2_with (with_reducible refine h_B ?_)
  refine (hck _).mono ?_
  rintro e w7 ⟨rfl, hB67⟩
  have hb2 := hFd.bp.below hB67
  have hm2 := zO hmo (hB67.block mb hmo.lt)
  have hr2 := hFd.br.below hB67
  unfold asZ at hr2
  have hB2 := hB6.trans (hB67.mono hB6.size)
  have HE7 : Hid (g.err f = 70) := Lib.hid (by rcases HR.out with h | h; exact h.1; cases h.1)
  have hkl := fun W => hkl W 70
  have hlt6 := hm.lt mb hFm
  clear hFd q0 q1 q2 q3 q4 q5 q6 q7 q8 q9 q10 f0 f1 f2 f3 f4 f5 f6 f7
  go_wp2_with (with_reducible refine h_B ?_)
  refine (hkl _ hb2 hm2).mono ?_
  rintro e wk ⟨rfl, hbk, hKk⟩
  have hrk := ym hr2 hKk (by intro e; have := hm.lt mb hFm; rcases e with e | e <;> omega)
  unfold asZ
  go_wp2_with (with_reducible refine h_B ?_)
  refine zc (zm (v := .agg #[.int .u16 0, .int .u8 0, .slice none 0 0]) (vs := [.int .u16 0, .int .u8 0, .slice none 0 0]) rfl rfl rfl rfl hrk rfl (by kernel_rfl) (by simp) (by simp [Value.oneCell']) #[.int .u16 0, .int .u8 0, .slice none 0 0] (by simp) ?_)
  intro wz hrz hgz hzz
  have hbz := hbk.grown hgz (sne (by omega))
  have hKz : KeepF F w wz := ((KeepF.below hB2).trans (hKk.weak (G := F) (by intro g hg; rcases hg with hg | hg <;> rw [hg]; exact .inl hF; exact .inl hFm)) (fun g hg => .inl hg)).trans (.grown (F := fun g => g = rb) hgz (fun g hg => .inl (by injection hg with hg; exact hg.symm))) (fun g hg => .inr (by rw [hg]; exact hlo2))
  go_wp2_with (with_reducible refine h_B ?_)
  exact zS rfl hrz rfl rfl rfl Tryz.underlying42 rfl (by kernel_rfl) rfl (j5 hlt hbz hF hne hKz (k := 70) HE7.out (by omega))
 | true =>
  go_wp2_with (with_reducible refine h_B ?_)
  refine (hck _).mono ?_
  rintro e w7 ⟨rfl, hB67⟩
  have hB7 := hB6.trans (hB67.mono hB6.size)
  replace hFd := hFd.below hB67
  replace hmo := zO hmo (hB67.block mb hmo.lt)
  replace hm6 : GaMap w7 F mb n D hd xf g.op := hm6.keep (fun k hk => hB67.block k (hm6.lt k hk)) hB67.size
  clear q0 q1 q2 q3 q4 q5 q6 q7 q8 q9 q10 f0 f1 f2 f3 f4 f5 f6 f7
  have q0 := hFd.bq.c0
  have q1 := hFd.bq.c1
  have q2 := hFd.bq.c2
  have q3 := hFd.bq.c3
  have q4 := hFd.bq.c4
  have q5 := hFd.bq.c5
  have q6 := hFd.bq.c6
  have q7 := hFd.bq.c7
  have q8 := hFd.bq.c8
  have q9 := hFd.bq.c9
  have q10 := hFd.bq.c10
  have hbf := hFd.bf
  unfold frV at hbf
  have f0 := (hbf).c0
  have f1 := (hbf).c1
  have f2 := (hbf).c2
  have f3 := (hbf).c3
  have f4 := (hbf).c4
  have f5 := (hbf).c5
  have f6 := (hbf).c6
  have f7 := (hbf).c7
  clear hbf
  clear hck hB67 hB6 hqw
  clear w6 wd w4
  have hss := zj f.load
  by_cases c3 : 16384 < SZ + f.load.length
  ·have hd : (16384 : Int) - (SZ : Int) < (f.load.length : Int) := by omega
   have hb2 := hFd.bp
   have hm2 := hmo
   have hr2 := hFd.br
   unfold asZ at hr2
   have hB2 := hB7
   have HE7 : Hid (g.err f = 3) := Lib.hid (by rcases HR.out with h | h; cases h.2; rcases h.2 with h | h; exact h.1; omega)
   have hkl := fun W => hkl W 3
   have hlt6 := hm.lt mb hFm
   clear hFd q0 q2 q3 q4 q5 q6 q7 q8 q9 q10 f0 f1 f2 f3 f4 f5 f6
   go_wp2_with (with_reducible refine h_B ?_)
   refine (hkl _ hb2 hm2).mono ?_
   rintro e wk ⟨rfl, hbk, hKk⟩
   have hrk := ym hr2 hKk (by intro e; have := hm.lt mb hFm; rcases e with e | e <;> omega)
   unfold asZ
   go_wp2_with (with_reducible refine h_B ?_)
   refine zc (zm (v := .agg #[.int .u16 0, .int .u8 0, .slice none 0 0]) (vs := [.int .u16 0, .int .u8 0, .slice none 0 0]) rfl rfl rfl rfl hrk rfl (by kernel_rfl) (by simp) (by simp [Value.oneCell']) #[.int .u16 0, .int .u8 0, .slice none 0 0] (by simp) ?_)
   intro wz hrz hgz hzz
   have hbz := hbk.grown hgz (sne (by omega))
   have hKz : KeepF F w wz := ((KeepF.below hB2).trans (hKk.weak (G := F) (by intro g hg; rcases hg with hg | hg <;> rw [hg]; exact .inl hF; exact .inl hFm)) (fun g hg => .inl hg)).trans (.grown (F := fun g => g = rb) hgz (fun g hg => .inl (by injection hg with hg; exact hg.symm))) (fun g hg => .inr (by rw [hg]; exact hlo2))
   go_wp2_with (with_reducible refine h_B ?_)
   exact zS rfl hrz rfl rfl rfl Tryz.underlying42 rfl (by kernel_rfl) rfl (j5 hlt hbz hF hne hKz (k := 3) HE7.out (by omega))
  ·have hd : decide ((16384 : Int) - (SZ : Int) < (f.load.length : Int)) = false := by simp; omega
   have HE0 : Hid (g.err f = 0) := Lib.hid (by rcases HR.out with h | h; cases h.2; rcases h.2 with h | h; omega; exact h.1)
   have hln : SZ + f.load.length ≤ 16384 := by omega
   clear hkl c3
   have hln4 : H.n ≤ 4 := by rw [HHn.out]; exact HMo.out
   obtain ⟨bg, hbg⟩ : ∃ b, b = f.beg := ⟨_, rfl⟩
   rw [← hbg] at f2
   have HB := Lib.hid hbg
   clear hbg
   go_upto_if 75 with fail
   go_cut [] from 11 (fun wx => ∃ (A1 : Option Addr) (c1 : Nat) (L0 : List Sg) (s0 : Sg) (y : Fr), FdS w wx H.A fb rb kb qb pb mb false f #[.slice A1 (L0.length + 1) c1, .int .i64 (SZ : Int), .bool y.first, .bool y.last, .bool y.beg, .bool y.fin, .int .u8 (y.ty : Int), .int .u8 (y.track : Int), .int .u16 (y.chan : Int), .string (str y.load), .bool GO] A1 (L0.length + 1) c1 (L0 ++ [s0]) ∧
    L0.length ≤ 4 ∧ Hid (yi (g.op f.chan f.track ++ [f]) = L0 ++ [⟨s0.ty, s0.load ++ f.load⟩]) ∧ Hid (PartOk (g.op f.chan f.track ++ [f]) y))
   case first =>
    cases bg with
    | true =>
     go_wp2_with (with_reducible refine h_B ?_)
     refine zc (Qw xK slG Tryz.underlying40 rfl rfl rfl rfl rfl (⟨f.ty, []⟩ : Sg) rfl hFd.row (by omega) (by omega) (Nat.zero_le _) ?_)
     intro A2 c2 w8 ho8 hg8 hA8 _
     have hF8 := hFd.turn hg8 ho8 hA8
     clear q0 q1 q2 q3 q4 q5 q6 q7 q8 q9 q10 f0 f1 f2 f3 f4 f5 f6 f7 ho8 hg8 hA8 hFd
     have hFl := hF8.bf
     unfold frV at hFl
     rw [← HB.out] at hFl
     have hFq := hF8.bq
     go_wp2_with (with_reducible refine h_B ?_)
     refine zc (zm (v := .slice A2 (H.n + 1) c2) (vs := [.slice A2 (H.n + 1) c2]) rfl rfl rfl rfl hFq rfl (by kernel_rfl) (by simp) (by simp [Value.oneCell']) #[.slice A2 (H.n + 1) c2, .int .i64 (SZ : Int), .bool x.first, .bool x.last, .bool x.beg, .bool x.fin, .int .u8 (x.ty : Int), .int .u8 (x.track : Int), .int .u16 (x.chan : Int), .string (str x.load), .bool GO] (by simp) ?_)
     intro w9 hq9 hg9 _
     replace hF8 := hF8.store hg9 hq9
     replace hFl := hF8.bf
     unfold frV at hFl
     rw [← HB.out] at hFl
     have f0 := (hFl).c0
     have f1 := (hFl).c1
     have f2 := (hFl).c2
     have f3 := (hFl).c3
     have f4 := (hFl).c4
     have f5 := (hFl).c5
     have f6 := (hFl).c6
     have f7 := (hFl).c7
     clear hFq
     go_wp2_with (with_reducible refine h_B ?_)
     refine zc (zm (v := .agg #[.bool f.first, .bool f.last, .bool true, .bool f.fin, .int .u8 (f.ty : Int), .int .u8 (f.track : Int), .int .u16 (f.chan : Int), .string (str f.load)]) (vs := [.bool f.first, .bool f.last, .bool true, .bool f.fin, .int .u8 (f.ty : Int), .int .u8 (f.track : Int), .int .u16 (f.chan : Int), .string (str f.load)]) rfl rfl rfl rfl hq9 rfl (by kernel_rfl) (by simp) (by simp [Value.oneCell']) #[.slice A2 (H.n + 1) c2, .int .i64 (SZ : Int), .bool f.first, .bool f.last, .bool true, .bool f.fin, .int .u8 (f.ty : Int), .int .u8 (f.track : Int), .int .u16 (f.chan : Int), .string (str f.load), .bool GO] (by simp) ?_)
     intro wa hqa hga _
     have hFa := hF8.store hga hqa
     clear f0 f1 f2 f3 f4 f5 f6 f7 hF8 hq9 hg9 hqa hga hFl
     go_wp2_with (with_reducible refine h_B ?_)
     go_meet
     obtain ⟨L0, s0, e1, e2⟩ := YN HGo.out HFT.out.symm
     rw [if_pos HB.out.symm] at e1
     have e3 := congrArg List.length e1
     simp only [List.length_append, List.length_singleton] at e3
     have e4 : H.n = L0.length := by rw [HHn.out]; omega
     rw [e1, e4] at hFa
     rw [HB.out] at hFa
     have hP := Zy (x := x) (fun h => by rw [(HH1.out h).2.1]; exact hm.part _ _ hch (by omega) h) HFT.out.symm HF.out
     rw [if_pos HB.out.symm] at hP
     exact ⟨A2, c2, L0, s0, f, hFa, by omega, Lib.hid e2, Lib.hid hP⟩
    | false =>
     go_wp2_with (with_reducible refine h_B ?_)
     go_meet
     obtain ⟨L0, s0, e1, e2⟩ := YN HGo.out HFT.out.symm
     rw [if_neg (by rw [← HB.out]; simp)] at e1
     have e4 : H.n = L0.length + 1 := by rw [HHn.out, e1]; simp
     rw [e1, e4] at hFd
     have hP := Zy (x := x) (fun h => by rw [(HH1.out h).2.1]; exact hm.part _ _ hch (by omega) h) HFT.out.symm HF.out
     rw [if_neg (by rw [← HB.out]; simp)] at hP
     exact ⟨_, _, L0, s0, x, hFd, by omega, Lib.hid e2, Lib.hid hP⟩
   case rest =>
    clear hFd hmo hm6 q0 q1 q2 q3 q4 q5 q6 q7 q8 q9 q10 f0 f1 f2 f3 f4 f5 f6 f7 hB7 HB
    obtain ⟨A1, c1, L0, s0, y, hFd, hL4, HSG, HPO⟩ := hcut
    clear w7
    obtain ⟨gb, rfl, _, hgl⟩ := JX hFd.row (by omega)
    have hrw := xW xK hFd.row.rd (k := L0.length) (by omega)
    obtain ⟨gb', off, hge, _, hkl, hcl⟩ := hrw
    obtain ⟨rfl, rfl⟩ : gb = gb' ∧ 0 = off := by simpa using hge
    have hs0 : (L0 ++ [s0])[L0.length] = s0 := by simp
    rw [hs0] at hcl
    have hc1 := hcl 1 _ rfl
    simp only [Nat.zero_add] at hc1
    clear hcl hge hs0 hkl
    have hw17 : IntKind.i64.wrap (L0.length : Int) = (L0.length : Int) := IntWalk.i64_in _ ⟨by omega, by omega⟩
    have g1 : (L0.length : Int) < (L0.length : Int) + 1 := by omega
    have hsl : s0.load.length + f.load.length ≤ 16384 := by
     have h1 := (vq (g.op f.chan f.track ++ [f]))
     rw [HSG.out, ZA, jS, ← HS.out] at h1
     simp [yH] at h1
     omega
    go_upto_region 17 with fail
    have hFl := hFd.bf
    unfold frV at hFl
    refine zD (fun W : World => Box W fb 97 #[.bool f.first, .bool f.last, .bool f.beg, .bool f.fin, .int .u8 (f.ty : Int), .int .u8 (f.track : Int), .int .u16 (f.chan : Int), .string (str f.load)] ∧ Box W qb 158 #[.slice (some ⟨gb, 0, none⟩) (L0.length + 1) c1, .int .i64 (SZ : Int), .bool y.first, .bool y.last, .bool y.beg, .bool y.fin, .int .u8 (y.ty : Int), .int .u8 (y.track : Int), .int .u16 (y.chan : Int), .string (str y.load), .bool GO]) (by kernel_rfl) ?_
    have hS : Box wc.drew fb 97 #[.bool f.first, .bool f.last, .bool f.beg, .bool f.fin, .int .u8 (f.ty : Int), .int .u8 (f.track : Int), .int .u16 (f.chan : Int), .string (str f.load)] ∧ Box wc.drew qb 158 #[.slice (some ⟨gb, 0, none⟩) (L0.length + 1) c1, .int .i64 (SZ : Int), .bool y.first, .bool y.last, .bool y.beg, .bool y.fin, .int .u8 (y.ty : Int), .int .u8 (y.track : Int), .int .u16 (y.chan : Int), .string (str y.load), .bool GO] := ⟨hFl, hFd.bq⟩
    have hFdd := hFd.drew
    have hc2 : wc.drew.cell? ⟨gb, L0.length * 2 + 1, none⟩ = some (.string (str s0.load)) := hc1
    clear hc1
    generalize wc.drew = wd at *
    refine rg_t 0 hS ?_
    simp only [List.getElem_toArray, List.getElem_cons_zero, Act.put, List.setIfInBounds_toArray, List.set_cons_zero, List.set_cons_succ]
    refine zv 1 (v := ?_) rfl (by kernel_rfl) (by kernel_rfl) (by kernel_rfl) hS rfl ?_ ?_
    rotate_left
    ·intro wS hSw; have k0 := hSw.2.cell (j := 0) rfl; go_simp; (with_reducible rfl)
    simp only [g_S, Act.put]
    refine rg_t 2 hS ?_
    simp only [g_S, Act.put]
    refine zv 3 (v := ?_) rfl (by kernel_rfl) (by kernel_rfl) (by kernel_rfl) hS rfl ?_ ?_
    rotate_left
    ·intro wS hSw; have k0 := hSw.2.cell (j := 0) rfl; go_simp; (with_reducible rfl)
    simp only [g_S, Act.put]
    refine rg_t 4 hS ?_
    simp only [g_S, Act.put]
    refine rg_t 5 hS ?_
    simp only [g_S, Act.put]
    refine rg_t 6 hS ?_
    simp only [g_S, Act.put]
    refine rg_t 7 hS ?_
    simp only [g_S, Act.put]
    refine rg_t 9 hS ?_
    simp only [g_S, Act.put]
    refine zv 10 (v := ?_) rfl (by kernel_rfl) (by kernel_rfl) (by kernel_rfl) hS rfl ?_ ?_
    rotate_left
    ·intro wS hSw; have k0 := hSw.1.cell (j := 7) rfl; go_simp; (with_reducible rfl)
    simp only [g_S, Act.put]
    refine zi 8 rfl (by kernel_rfl) rfl (fun K hK => ?_)
    go_simp
    refine hK _ _ hS ?_
    clear hK K
    try simp only [g_S, Act.put]
    have hcat : (9223372036854775807 < s0.load.length + f.load.length) = False := by simp; omega
    have hs0s := zj s0.load
    refine rg_t 11 hS ?_
    simp only [g_S, Act.put]
    simp only [Yn]
    clear hcat hs0s
    refine rg_t 12 hS ?_
    simp only [g_S, Act.put]
    refine rg_t 13 hS ?_
    simp only [g_S, Act.put]
    refine zi 14 rfl (by kernel_rfl) rfl (fun K hK => ?_)
    refine Qy (k := L0.length) (i := 1) (v := .string (str (s0.load ++ f.load))) (vs := [.string (str (s0.load ++ f.load))]) xK rfl rfl rfl hFdd.row (by omega) (by simp) (⟨s0.ty, s0.load ++ f.load⟩ : Sg) rfl (by kernel_rfl) (by simp [sgC]) (by simp) (by omega) ?_
    intro w8 ho8 hg8 hz8
    have hset : (L0 ++ [s0]).set L0.length ⟨s0.ty, s0.load ++ f.load⟩ = L0 ++ [⟨s0.ty, s0.load ++ f.load⟩] := by simp
    rw [hset, ← HSG.out] at ho8
    have hF8 := hFdd.turn hg8 ho8 (.inl rfl)
    have hFl8 := hF8.bf
    unfold frV at hFl8
    refine hK _ _ ⟨hFl8, hF8.bq⟩ ?_
    clear hK K hS hc2 hFdd ho8 hg8 hz8 hset hw17 g1 hsl hFl
    clear hFd
    try simp only [g_S, Act.put]
    refine zK (by kernel_rfl) ?_
    clear wd hgl
    have hq8 := hF8.bq
    have f0 := (hFl8).c0
    have f1 := (hFl8).c1
    have f2 := (hFl8).c2
    have f3 := (hFl8).c3
    have f4 := (hFl8).c4
    have f5 := (hFl8).c5
    have f6 := (hFl8).c6
    have f7 := (hFl8).c7
    have q1 := hq8.c1
    obtain ⟨bf, hbf⟩ : ∃ b, b = f.fin := ⟨_, rfl⟩
    obtain ⟨bl, hbl⟩ : ∃ b, b = f.last := ⟨_, rfl⟩
    go_wp2_with (with_reducible refine h_B ?_)
    refine zc (zm (j := 1) (v := .int .i64 ((SZ : Int) + (f.load.length : Int))) (vs := [.int .i64 ((SZ : Int) + (f.load.length : Int))]) rfl rfl rfl rfl hq8 rfl (by kernel_rfl) (by simp) (by simp [Value.oneCell']) #[.slice (some ⟨gb, 0, none⟩) (L0.length + 1) c1, .int .i64 ((SZ : Int) + (f.load.length : Int)), .bool y.first, .bool y.last, .bool y.beg, .bool y.fin, .int .u8 (y.ty : Int), .int .u8 (y.track : Int), .int .u16 (y.chan : Int), .string (str y.load), .bool GO] (by simp) ?_)
    intro w9 hq9 hg9 _
    replace hF8 := hF8.store hg9 hq9
    replace hFl8 := hF8.bf
    unfold frV at hFl8
    clear f0 f1 f2 f3 f4 f5 f6 f7 q1 hq8 hg9
    rw [← hbf, ← hbl] at hFl8
    have HBf := Lib.hid hbf
    have HBl := Lib.hid hbl
    clear hbf hbl
    have f0 := (hFl8).c0
    have f1 := (hFl8).c1
    have f2 := (hFl8).c2
    have f3 := (hFl8).c3
    have f4 := (hFl8).c4
    have f5 := (hFl8).c5
    have f6 := (hFl8).c6
    have f7 := (hFl8).c7
    go_wp2_with (with_reducible refine h_B ?_)
    refine zc (zm (j := 10) (v := .bool (!bf)) (vs := [.bool (!bf)]) rfl rfl rfl rfl hq9 rfl (by kernel_rfl) (by simp) (by simp [Value.oneCell']) #[.slice (some ⟨gb, 0, none⟩) (L0.length + 1) c1, .int .i64 ((SZ : Int) + (f.load.length : Int)), .bool y.first, .bool y.last, .bool y.beg, .bool y.fin, .int .u8 (y.ty : Int), .int .u8 (y.track : Int), .int .u16 (y.chan : Int), .string (str y.load), .bool (!bf)] (by simp) ?_)
    intro wa hqa hga _
    replace hF8 := hF8.store hga hqa
    replace hFl8 := hF8.bf
    unfold frV at hFl8
    rw [← HBf.out, ← HBl.out] at hFl8
    clear f0 f1 f2 f3 f4 f5 f6 f7 hq9 hga
    have f0 := (hFl8).c0
    have f1 := (hFl8).c1
    have f2 := (hFl8).c2
    have f3 := (hFl8).c3
    have f4 := (hFl8).c4
    have f5 := (hFl8).c5
    have f6 := (hFl8).c6
    have f7 := (hFl8).c7
    have hfl : Hid ((f.fin && f.last) = (bf && bl)) := Lib.hid (by rw [HBf.out, HBl.out])
    have hGO2 : Hid (jc (g.op f.chan f.track ++ [f]) = !bf) := Lib.hid (by rw [Xq, HBf.out])
    have hSZ2 : Hid (zE (g.op f.chan f.track ++ [f]) = SZ + f.load.length) := Lib.hid (by rw [jS, HS.out])
    have hkeep := fun (wz : World) (hz : wa.grownBy wz (some mb)) => (hF8.keep.weak (G := fun k => k = mb ∨ blk H.A = some k) (fun k hk => .inl (.inr hk))).trans (.grown (F := fun k => k = mb) hz (fun k hk => .inl (by injection hk with hk; exact hk.symm))) (fun k hk => .inl (.inl hk))
    have hmbA : blk H.A ≠ some mb := fun e => (qX hm HF.out (show f.track ≤ 1 by exact jf HFT.out.symm) (fun e => (HH0.out e).1) (fun e => (HH1.out e).1) e).2.2.2.1 rfl
    have hma : wa.ownsMap Tryz.prog 156 rawV mb n D := zO hm.owns (hF8.keep.2.1 mb hm.owns.lt hmbA)
    have htr1 : f.track ≤ 1 := jf HFT.out.symm
    have hml0 := hm.owns.lt
    have hlo4 := hF8.lo.2.2.2.1
    have hkm : kb ≠ mb := by omega
    have hqm : qb ≠ mb := by omega
    have hrm : rb ≠ mb := by omega
    have hfm : fb ≠ mb := by omega
    have hne8 := hF8.ne
    have hpk := hF8.lo
    clear hml
    have hbA : ∀ k, blk (some (⟨gb, 0, none⟩ : Addr)) = some k → blk H.A = some k ∨ w.heap.size ≤ k := fun k hk => (hF8.at_ k hk).imp id (fun e => e.1)
    have hrg : gb ≠ rb := (hF8.off rfl).2.1
    have hgm : some gb ≠ some mb := fun e => by
     have e' : gb = mb := by injection e
     rcases hbA gb rfl with h | h
     ·exact hmbA (by rw [h, e'])
     ·omega
    cases hbb : (bf && bl) with
    | true =>
     obtain ⟨rfl, rfl⟩ : bf = true ∧ bl = true := by simpa using hbb
     clear hbb
     go_upto_region 21 with fail
     refine zD (fun W : World => Box W pb 88 #[.map (some mb), .bool false] ∧ Box W kb 156 #[.int .i64 (f.chan : Int), .int .i64 (f.track : Int)]) (by kernel_rfl) ?_
     have hS : Box wa.drew pb 88 #[.map (some mb), .bool false] ∧ Box wa.drew kb 156 #[.int .i64 (f.chan : Int), .int .i64 (f.track : Int)] := ⟨hF8.bp, hF8.bk⟩
     have hmd : wa.drew.ownsMap Tryz.prog 156 rawV mb n D := hma
     replace hF8 := hF8.drew
     clear hma hqa f0 f1 f2 f3 f4 f5 f6 f7 hkeep hFl8
     generalize wa.drew = v1 at *
     obtain ⟨v2, hrun, ho5, ht5⟩ := hmd.drop gk_keyed Tryz.underlying86 (jU (a := f.chan) (b := f.track) hch (show f.track < 65536 by omega)) 0
     unfold gkV at hrun
     have hg5 := ht5.grown
     refine rg_t 0 hS ?_
     simp only [List.getElem_toArray, List.getElem_cons_zero, Act.put, List.setIfInBounds_toArray, List.set_cons_zero, List.set_cons_succ]
     refine rg_t 1 hS ?_
     simp only [g_S, Act.put]
     refine rg_t 2 hS ?_
     simp only [g_S, Act.put]
     refine zv 3 (v := ?_) rfl (by kernel_rfl) (by kernel_rfl) (by kernel_rfl) hS rfl ?_ ?_
     rotate_left
     ·intro wS hSw; have k0 := hSw.1.cell (j := 0) rfl; go_simp; (with_reducible rfl)
     simp only [g_S, Act.put]
     refine zv 4 (v := ?_) rfl (by kernel_rfl) (by kernel_rfl) (by kernel_rfl) hS rfl ?_ ?_
     rotate_left
     ·intro wS hSw; have k0 := hSw.2.cell (j := 0) rfl; have k1 := hSw.2.cell (j := 1) rfl; go_simp; (with_reducible rfl)
     simp only [g_S, Act.put]
     refine zi 5 rfl (by kernel_rfl) rfl (fun K hK => ?_)
     refine Qq rfl rfl rfl rfl hrun ?_
     have hS5 := hS.1.grown hg5 (fun e => hne (by injection e))
     have hS6 := hS.2.grown hg5 (fun e => hkm (by injection e))
     have hr5 := hF8.br.grown hg5 (fun e => hrm (by injection e))
     unfold asZ at hr5
     have hf5 := hF8.bf.grown hg5 (fun e => hfm (by injection e))
     unfold frV at hf5
     have hq5 := hF8.bq.grown hg5 (fun e => hqm (by injection e))
     have hrow5 := zf hF8.row hg5 (fun k hk e => hgm ((show some gb = some k from hk).trans e.symm))
     have hK5 := (hF8.keep.weak (G := fun k => k = mb ∨ blk H.A = some k) (fun k hk => .inl (.inr hk))).trans (.grown (F := fun k => k = mb) hg5 (fun k hk => .inl (by injection hk with hk; exact hk.symm))) (fun k hk => .inl (.inl hk))
     refine hK _ _ ⟨hS5, hS6⟩ ?_
     clear hK K hS hS6 hF8 hg5 ht5 hrun hmd
     try simp only [g_S, Act.put]
     refine zK (by kernel_rfl) ?_
     have f5 := hf5.c5
     have f6 := hf5.c6
     have q0 := hq5.c0
     go_wp2_with (with_reducible refine h_B ?_)
     refine zc (zm (v := .agg #[.int .u16 (f.chan : Int), .int .u8 (f.track : Int), .slice (some ⟨gb, 0, none⟩) (L0.length + 1) c1]) (vs := [.int .u16 (f.chan : Int), .int .u8 (f.track : Int), .slice (some ⟨gb, 0, none⟩) (L0.length + 1) c1]) rfl rfl rfl rfl hr5 rfl (by kernel_rfl) (by simp) (by simp [Value.oneCell']) #[.int .u16 (f.chan : Int), .int .u8 (f.track : Int), .slice (some ⟨gb, 0, none⟩) (L0.length + 1) c1] (by simp) ?_)
     intro wz hrz hgz hzz
     have hbz := hS5.grown hgz (sne (by omega))
     have hKz := hK5.trans (.grown (F := fun k => k = rb) hgz (fun k hk => .inl (by injection hk with hk; exact hk.symm))) (fun k hk => .inr (by rw [hk]; exact hlo2))
     have hoz := zO ho5 (hgz.block mb (by have := ho5.lt; omega) (by intro e; injection e with e; exact hrm e.symm))
     have hrowz := zf hrow5 hgz (fun k hk e => by
      injection e with e
      have h0 := hbA k hk
      rcases h0 with h | h
      ·have := qX hm HF.out htr1 (fun e => (HH0.out e).1) (fun e => (HH1.out e).1) h; omega
      ·exact hrg (by injection hk with hk; exact hk.trans e.symm))
     go_wp2_with (with_reducible refine h_B ?_)
     exact zS rfl hrz rfl rfl rfl Tryz.underlying42 rfl (by kernel_rfl) rfl (JM hm hF hne hmr hlt HF.out htr1 HDD.out HE0.out (by rw [hfl.out]; rfl) (fun e => (HH0.out e).1) (fun e => (HH1.out e).1) hKz hbz hoz (by rw [HSG.out]; simp) hrowz hbA (fun _ _ _ => .inr trivial))
    | false =>
     have hsp : (bf = false) ∨ (bf = true ∧ bl = false) := by cases bf <;> cases bl <;> simp_all
     clear hbb
     rcases hsp with rfl | ⟨rfl, rfl⟩
     ·have hnf : (!false) = true := rfl
      go_upto_region 23 with fail
      refine zD (fun W : World => Box W pb 88 #[.map (some mb), .bool false] ∧ Box W kb 156 #[.int .i64 (f.chan : Int), .int .i64 (f.track : Int)] ∧ Box W qb 158 #[.slice (some ⟨gb, 0, none⟩) (L0.length + 1) c1, .int .i64 ((SZ : Int) + (f.load.length : Int)), .bool y.first, .bool y.last, .bool y.beg, .bool y.fin, .int .u8 (y.ty : Int), .int .u8 (y.track : Int), .int .u16 (y.chan : Int), .string (str y.load), .bool (!false)]) (by kernel_rfl) ?_
      have hS : Box wa.drew pb 88 #[.map (some mb), .bool false] ∧ Box wa.drew kb 156 #[.int .i64 (f.chan : Int), .int .i64 (f.track : Int)] ∧ Box wa.drew qb 158 #[.slice (some ⟨gb, 0, none⟩) (L0.length + 1) c1, .int .i64 ((SZ : Int) + (f.load.length : Int)), .bool y.first, .bool y.last, .bool y.beg, .bool y.fin, .int .u8 (y.ty : Int), .int .u8 (y.track : Int), .int .u16 (y.chan : Int), .string (str y.load), .bool (!false)] := ⟨hF8.bp, hF8.bk, hF8.bq⟩
      have hmd : wa.drew.ownsMap Tryz.prog 156 rawV mb n D := hma
      replace hF8 := hF8.drew
      clear hma hqa f0 f1 f2 f3 f4 f5 f6 f7 hkeep hFl8
      generalize wa.drew = v1 at *
      obtain ⟨v2, hrun, ho5, ht5⟩ := hmd.store gk_keyed Tryz.underlying86 (show n < maxLen by simp [maxLen]; omega) (jU (a := f.chan) (b := f.track) hch (show f.track < 65536 by omega)) (val := .agg #[.slice (some ⟨gb, 0, none⟩) (L0.length + 1) c1, .int .i64 ((SZ : Int) + (f.load.length : Int)), .bool y.first, .bool y.last, .bool y.beg, .bool y.fin, .int .u8 (y.ty : Int), .int .u8 (y.track : Int), .int .u16 (y.chan : Int), .string (str y.load), .bool (!false)]) rfl
      unfold gkV at hrun
      have hg5 := ht5.grown
      refine rg_t 0 hS ?_
      simp only [List.getElem_toArray, List.getElem_cons_zero, Act.put, List.setIfInBounds_toArray, List.set_cons_zero, List.set_cons_succ]
      refine rg_t 1 hS ?_
      simp only [g_S, Act.put]
      refine rg_t 2 hS ?_
      simp only [g_S, Act.put]
      refine zv 3 (v := ?_) rfl (by kernel_rfl) (by kernel_rfl) (by kernel_rfl) hS rfl ?_ ?_
      rotate_left
      ·intro wS hSw; have k0 := hSw.1.cell (j := 0) rfl; go_simp; (with_reducible rfl)
      simp only [g_S, Act.put]
      refine zv 4 (v := ?_) rfl (by kernel_rfl) (by kernel_rfl) (by kernel_rfl) hS rfl ?_ ?_
      rotate_left
      ·intro wS hSw; have k0 := hSw.2.1.cell (j := 0) rfl; have k1 := hSw.2.1.cell (j := 1) rfl; go_simp; (with_reducible rfl)
      simp only [g_S, Act.put]
      refine zv 5 (v := ?_) rfl (by kernel_rfl) (by kernel_rfl) (by kernel_rfl) hS rfl ?_ ?_
      rotate_left
      ·intro wS hSw; have k := hSw.2.2; have q0 := k.cell (j := 0) rfl; have q1 := k.cell (j := 1) rfl; have q2 := k.cell (j := 2) rfl; have q3 := k.cell (j := 3) rfl; have q4 := k.cell (j := 4) rfl; have q5 := k.cell (j := 5) rfl; have q6 := k.cell (j := 6) rfl; have q7 := k.cell (j := 7) rfl; have q8 := k.cell (j := 8) rfl; have q9 := k.cell (j := 9) rfl; have q10 := k.cell (j := 10) rfl; go_simp; (with_reducible rfl)
      simp only [g_S, Act.put]
      refine zi 6 rfl (by kernel_rfl) rfl (fun K hK => ?_)
      refine jT rfl rfl rfl rfl hrun ?_
      have hS5 := hS.1.grown hg5 (fun e => hne (by injection e))
      have hS6 := hS.2.1.grown hg5 (fun e => hkm (by injection e))
      have hS7 := hS.2.2.grown hg5 (fun e => hqm (by injection e))
      have hr5 := hF8.br.grown hg5 (fun e => hrm (by injection e))
      unfold asZ at hr5
      have hrow5 := zf hF8.row hg5 (fun k hk e => hgm ((show some gb = some k from hk).trans e.symm))
      have hK5 := (hF8.keep.weak (G := fun k => k = mb ∨ blk H.A = some k) (fun k hk => .inl (.inr hk))).trans (.grown (F := fun k => k = mb) hg5 (fun k hk => .inl (by injection hk with hk; exact hk.symm))) (fun k hk => .inl (.inl hk))
      refine hK _ _ ⟨hS5, hS6, hS7⟩ ?_
      clear hK K hS hS6 hS7 hF8 hg5 ht5 hrun hmd
      try simp only [g_S, Act.put]
      refine zK (by kernel_rfl) ?_
      go_wp2_with (with_reducible refine h_B ?_)
      refine zc (zm (v := .agg #[.int .u16 0, .int .u8 0, .slice none 0 0]) (vs := [.int .u16 0, .int .u8 0, .slice none 0 0]) rfl rfl rfl rfl hr5 rfl (by kernel_rfl) (by simp) (by simp [Value.oneCell']) #[.int .u16 0, .int .u8 0, .slice none 0 0] (by simp) ?_)
      intro wz hrz hgz hzz
      have hbz := hS5.grown hgz (sne (by omega))
      have hKz := hK5.trans (.grown (F := fun k => k = rb) hgz (fun k hk => .inl (by injection hk with hk; exact hk.symm))) (fun k hk => .inr (by rw [hk]; exact hlo2))
      have hoz := zO ho5 (hgz.block mb (by have := ho5.lt; omega) (by intro e; injection e with e; exact hrm e.symm))
      have hrowz := zf hrow5 hgz (fun k hk e => by
       injection e with e
       have h0 := hbA k hk
       rcases h0 with h | h
       ·have := qX hm HF.out htr1 (fun e => (HH0.out e).1) (fun e => (HH1.out e).1) h; omega
       ·exact hrg (by injection hk with hk; exact hk.trans e.symm))
      have hX : (#[.slice (some ⟨gb, 0, none⟩) (L0.length + 1) c1, .int .i64 ((SZ : Int) + (f.load.length : Int)), .bool y.first, .bool y.last, .bool y.beg, .bool y.fin, .int .u8 (y.ty : Int), .int .u8 (y.track : Int), .int .u16 (y.chan : Int), .string (str y.load), .bool (!false)] : Array Value) = qC ⟨some ⟨gb, 0, none⟩, L0.length + 1, c1⟩ (zE (g.op f.chan f.track ++ [f])) y (jc (g.op f.chan f.track ++ [f])) := by
       unfold qC Hd.v
       rw [hSZ2.out, hGO2.out]
       simp
      rw [hX] at hoz
      go_wp2_with (with_reducible refine h_B ?_)
      exact zS rfl hrz rfl rfl rfl Tryz.underlying42 rfl (by kernel_rfl) rfl (Qo hm hF hne hmr hlt HF.out htr1 HDD.out HE0.out (by rw [hfl.out]; rfl) (fun e => (HH0.out e).1) (fun e => (HH1.out e).1) hKz hbz hoz HPO.out hrowz hbA)
     ·go_upto_region 23 with fail
      refine zD (fun W : World => Box W pb 88 #[.map (some mb), .bool false] ∧ Box W kb 156 #[.int .i64 (f.chan : Int), .int .i64 (f.track : Int)] ∧ Box W qb 158 #[.slice (some ⟨gb, 0, none⟩) (L0.length + 1) c1, .int .i64 ((SZ : Int) + (f.load.length : Int)), .bool y.first, .bool y.last, .bool y.beg, .bool y.fin, .int .u8 (y.ty : Int), .int .u8 (y.track : Int), .int .u16 (y.chan : Int), .string (str y.load), .bool (!true)]) (by kernel_rfl) ?_
      have hS : Box wa.drew pb 88 #[.map (some mb), .bool false] ∧ Box wa.drew kb 156 #[.int .i64 (f.chan : Int), .int .i64 (f.track : Int)] ∧ Box wa.drew qb 158 #[.slice (some ⟨gb, 0, none⟩) (L0.length + 1) c1, .int .i64 ((SZ : Int) + (f.load.length : Int)), .bool y.first, .bool y.last, .bool y.beg, .bool y.fin, .int .u8 (y.ty : Int), .int .u8 (y.track : Int), .int .u16 (y.chan : Int), .string (str y.load), .bool (!true)] := ⟨hF8.bp, hF8.bk, hF8.bq⟩
      have hmd : wa.drew.ownsMap Tryz.prog 156 rawV mb n D := hma
      replace hF8 := hF8.drew
      clear hma hqa f0 f1 f2 f3 f4 f5 f6 f7 hkeep hFl8
      generalize wa.drew = v1 at *
      obtain ⟨v2, hrun, ho5, ht5⟩ := hmd.store gk_keyed Tryz.underlying86 (show n < maxLen by simp [maxLen]; omega) (jU (a := f.chan) (b := f.track) hch (show f.track < 65536 by omega)) (val := .agg #[.slice (some ⟨gb, 0, none⟩) (L0.length + 1) c1, .int .i64 ((SZ : Int) + (f.load.length : Int)), .bool y.first, .bool y.last, .bool y.beg, .bool y.fin, .int .u8 (y.ty : Int), .int .u8 (y.track : Int), .int .u16 (y.chan : Int), .string (str y.load), .bool (!true)]) rfl
      unfold gkV at hrun
      have hg5 := ht5.grown
      refine rg_t 0 hS ?_
      simp only [List.getElem_toArray, List.getElem_cons_zero, Act.put, List.setIfInBounds_toArray, List.set_cons_zero, List.set_cons_succ]
      refine rg_t 1 hS ?_
      simp only [g_S, Act.put]
      refine rg_t 2 hS ?_
      simp only [g_S, Act.put]
      refine zv 3 (v := ?_) rfl (by kernel_rfl) (by kernel_rfl) (by kernel_rfl) hS rfl ?_ ?_
      rotate_left
      ·intro wS hSw; have k0 := hSw.1.cell (j := 0) rfl; go_simp; (with_reducible rfl)
      simp only [g_S, Act.put]
      refine zv 4 (v := ?_) rfl (by kernel_rfl) (by kernel_rfl) (by kernel_rfl) hS rfl ?_ ?_
      rotate_left
      ·intro wS hSw; have k0 := hSw.2.1.cell (j := 0) rfl; have k1 := hSw.2.1.cell (j := 1) rfl; go_simp; (with_reducible rfl)
      simp only [g_S, Act.put]
      refine zv 5 (v := ?_) rfl (by kernel_rfl) (by kernel_rfl) (by kernel_rfl) hS rfl ?_ ?_
      rotate_left
      ·intro wS hSw; have k := hSw.2.2; have q0 := k.cell (j := 0) rfl; have q1 := k.cell (j := 1) rfl; have q2 := k.cell (j := 2) rfl; have q3 := k.cell (j := 3) rfl; have q4 := k.cell (j := 4) rfl; have q5 := k.cell (j := 5) rfl; have q6 := k.cell (j := 6) rfl; have q7 := k.cell (j := 7) rfl; have q8 := k.cell (j := 8) rfl; have q9 := k.cell (j := 9) rfl; have q10 := k.cell (j := 10) rfl; go_simp; (with_reducible rfl)
      simp only [g_S, Act.put]
      refine zi 6 rfl (by kernel_rfl) rfl (fun K hK => ?_)
      refine jT rfl rfl rfl rfl hrun ?_
      have hS5 := hS.1.grown hg5 (fun e => hne (by injection e))
      have hS6 := hS.2.1.grown hg5 (fun e => hkm (by injection e))
      have hS7 := hS.2.2.grown hg5 (fun e => hqm (by injection e))
      have hr5 := hF8.br.grown hg5 (fun e => hrm (by injection e))
      unfold asZ at hr5
      have hrow5 := zf hF8.row hg5 (fun k hk e => hgm ((show some gb = some k from hk).trans e.symm))
      have hK5 := (hF8.keep.weak (G := fun k => k = mb ∨ blk H.A = some k) (fun k hk => .inl (.inr hk))).trans (.grown (F := fun k => k = mb) hg5 (fun k hk => .inl (by injection hk with hk; exact hk.symm))) (fun k hk => .inl (.inl hk))
      refine hK _ _ ⟨hS5, hS6, hS7⟩ ?_
      clear hK K hS hS6 hS7 hF8 hg5 ht5 hrun hmd
      try simp only [g_S, Act.put]
      refine zK (by kernel_rfl) ?_
      go_wp2_with (with_reducible refine h_B ?_)
      refine zc (zm (v := .agg #[.int .u16 0, .int .u8 0, .slice none 0 0]) (vs := [.int .u16 0, .int .u8 0, .slice none 0 0]) rfl rfl rfl rfl hr5 rfl (by kernel_rfl) (by simp) (by simp [Value.oneCell']) #[.int .u16 0, .int .u8 0, .slice none 0 0] (by simp) ?_)
      intro wz hrz hgz hzz
      have hbz := hS5.grown hgz (sne (by omega))
      have hKz := hK5.trans (.grown (F := fun k => k = rb) hgz (fun k hk => .inl (by injection hk with hk; exact hk.symm))) (fun k hk => .inr (by rw [hk]; exact hlo2))
      have hoz := zO ho5 (hgz.block mb (by have := ho5.lt; omega) (by intro e; injection e with e; exact hrm e.symm))
      have hrowz := zf hrow5 hgz (fun k hk e => by
       injection e with e
       have h0 := hbA k hk
       rcases h0 with h | h
       ·have := qX hm HF.out htr1 (fun e => (HH0.out e).1) (fun e => (HH1.out e).1) h; omega
       ·exact hrg (by injection hk with hk; exact hk.trans e.symm))
      have hX : (#[.slice (some ⟨gb, 0, none⟩) (L0.length + 1) c1, .int .i64 ((SZ : Int) + (f.load.length : Int)), .bool y.first, .bool y.last, .bool y.beg, .bool y.fin, .int .u8 (y.ty : Int), .int .u8 (y.track : Int), .int .u16 (y.chan : Int), .string (str y.load), .bool (!true)] : Array Value) = qC ⟨some ⟨gb, 0, none⟩, L0.length + 1, c1⟩ (zE (g.op f.chan f.track ++ [f])) y (jc (g.op f.chan f.track ++ [f])) := by
       unfold qC Hd.v
       rw [hSZ2.out, hGO2.out]
       simp
      rw [hX] at hoz
      go_wp2_with (with_reducible refine h_B ?_)
      exact zS rfl hrz rfl rfl rfl Tryz.underlying42 rfl (by kernel_rfl) rfl (Qo hm hF hne hmr hlt HF.out htr1 HDD.out HE0.out (by rw [hfl.out]; rfl) (fun e => (HH0.out e).1) (fun e => (HH1.out e).1) hKz hbz hoz HPO.out hrowz hbA)
end Go.PH
end

/- Texts laid together: VlGet2. -/
import Derived.Test.YtfbkameikhgciaaGreatDoorMg06
import Derived.Test.YtfbkameikhgciaaGreatDoorMg14
import Derived.Test.YtfbkameikhgciaaGreatDoorMg16
import Derived.Test.YtfbkameikhgciaaGreatDoorMg18
set_option linter.all false
set_option linter.unusedSimpArgs false
set_option linter.unusedVariables false
set_option maxRecDepth 20000
set_option maxHeartbeats 8000000
section
namespace Go.PH
open Go.RowKit Go.Proofs
abbrev getD : Nat := 176
def vget (l : List UInt8) : Vl × Nat × Int := match yx 6 200 l with
 | some q => if errV q.1 = 0 then (q.1, l.length - q.2.1.length, 0) else (vl0, 0, 5)
 | none => (vl0, 0, 5)
theorem VU {x : Vl} {rest : List UInt8} (hv : VB x) (he : errV x = 0) : vget (vlB x ++ rest) = (x, (vlB x).length, 0) := by
 obtain ⟨hc, hm⟩ := kR he
 have hd : qA 6 x = false := by
  unfold errV at he
  split at he
  ·omega
  ·rename_i h; simpa using h
 have h := KI x 6 200 rest hv hm hd (Nat.le_refl _) hc
 unfold vget
 rw [h]
 simp only
 rw [if_pos he]
 simp
theorem jQ {w : World} {B B' size n c : Nat} {A : Option Addr} {xs : List Value} (h : Rd w B size A n c xs) (hB : B ≤ B') : Rd w B' size A n c xs := ⟨h.len, h.cap, h.max, fun hn => by
 obtain ⟨b, off, e, hb, hc⟩ := h.at_ hn
 exact ⟨b, off, e, Nat.lt_of_lt_of_le hb hB, hc⟩⟩
def zaC (w : World) (r : Vl × Nat × Int) (e : Ending) (w' : World) : Prop := ∃ h, e = .returned (.tuple #[.agg (vlV r.1 h), .int .i64 (r.2.1 : Int), .int .i64 r.2.2]) ∧ RV w' (FN w.heap.size w') r.1 h ∧ Below w.heap.size w w'
theorem KG (A : Option Addr) (n c : Nat) (l : List UInt8) (w : World) (hb : RdB w w.heap.size A n c l) (hn : n ≤ 140737488351240) (hT : UTabs w) :
  Calls Tryz.prog 162 #[.slice A n c] w (zaC w (vget l)) := by
 have hmf : ∀ (fn : Fn) (first cap : Array Value) (w : World), (Instr.makeFunc fn first cap).run Tryz.prog w = .ok (.func fn first cap) w := fun _ _ _ _ => rfl
 obtain ⟨p, w1, hpq, hpv, hp1, hB1⟩ := zo w #[.int .u8 0, .int .u64 0, .string ⟨#[]⟩, .slice none 0 0, .slice none 0 0] 78
 obtain ⟨q, w2, hqq, hqv, hq2, hB2⟩ := zo w1 #[.int .i64 0] 3
 obtain ⟨r, w3, hrq, hrv, hr3, hB3⟩ := zo w2 #[.int .i64 0] 45
 have e1 : p + 1 = q := by rw [hqq, hpv, hpq]; simp
 have e2 : q + 1 = r := by rw [hrq, hqv, hqq]; simp
 have e3 : w3.heap.size = r + 1 := by rw [hrv, hrq]; simp
 have hB := (hB1.trans ((hB2.mono hB1.size).trans (hB3.mono (Nat.le_trans hB1.size hB2.size))))
 have hpw : w.heap.size ≤ p := by omega
 have hp3 := (hp1.below hB2).below hB3
 have hq3 := hq2.below hB3
 have hb3 : RdB w3 w3.heap.size A n c l := jQ (hb.below hB) hB.size
 obtain ⟨res, hres⟩ : ∃ x, x = vget l := ⟨_, rfl⟩
 rw [← hres]
 have HRES := Lib.hid hres
 have ho := xj A n c l w3 hb3 hn
 have hln : l.length = n := RdB.length hb
 have hT3 := hT.on hB
 have hTw := hT
 clear hres hB1 hB2 hB3 hp1 hq2 hb hT
 go_enter_defers Tryz.func162, Tryz.ntmps162
 go_upto_region 2 with fail
 rw [← hpv, ← hqv, ← hrv, ← hpq, e1, e2]
 clear hpq hpv hqq hqv hrq hrv
 have hqp : p < q := by omega
 have hrq : q < r := by omega
 have hrl := hr3.lt
 clear e1 e2
 go_wp2_with (with_reducible refine h_A ?_)
 refine ho.mono ?_
 rintro e w4 ⟨ob, vb, rfl, hob, hvb, hrd, hB4⟩
 have hp4 := hp3.below hB4
 have hq4 := hq3.below hB4
 have hr4 := hr3.below hB4
 have hB04 := hB.trans (hB4.mono hB.size)
 have hT4 := hT3.on hB4
 have hs4 := hB4.size
 clear ho hp3 hq3 hr3 hb3 hT3
 have hz := Box.new w4 #[.pointer (some ⟨ob, 0, none⟩), .int .i64 200] 255
 have hBz := (Below.refl w4.heap.size w4).alloc (Nat.le_refl _) (.cells #[.pointer (some ⟨ob, 0, none⟩), .int .i64 200] 255)
 go_wp2_with (with_reducible refine h_A ?_)
 obtain ⟨pb, hpb⟩ : ∃ g, g = w4.heap.size := ⟨_, rfl⟩
 rw [← hpb] at hz ⊢
 have hp5 := hp4.below hBz
 have hq5 := hq4.below hBz
 have hr5 := hr4.below hBz
 have hrd5 := hrd.below hBz
 have hB05 := hB04.trans (hBz.mono hB04.size)
 have hT5 := hT4.on hBz
 have hs5 := hBz.size
 have hpb4 : w4.heap.size ≤ pb := by omega
 have hzl := hz.lt
 clear hpb hp4 hq4 hr4 hrd hBz hT4
 generalize (w4.alloc (.cells #[.pointer (some ⟨ob, 0, none⟩), .int .i64 200] 255)) = w5 at *
 have hread := Xk 6 1 200 (fun g => w3.heap.size ≤ g ∧ g < w4.heap.size) w3.heap.size pb vb (.pointer (some ⟨ob, 0, none⟩)) l false w5 rfl hrd5 hz (fun h => by omega) (fun g hg => ⟨hg.1, by omega⟩) (by omega) (Nat.le_refl _)
 obtain ⟨rr, hrr⟩ : ∃ x, x = yx 6 200 l := ⟨_, rfl⟩
 rw [show jZ 6 200 l false = rr by rw [hrr]; rfl] at hread
 have HRR := Lib.hid hrr
 clear hrr
 cases rr with
 | none =>
  have HR0 : Hid (res = (vl0, 0, 5)) := Lib.hid (by rw [HRES.out]; unfold vget; rw [← HRR.out])
  go_wp2_with (with_reducible refine h_A ?_)
  refine hread.mono ?_
  rintro e w6 ⟨rfl, hK⟩
  have hp6 := hK.box hp5 (by omega) (by omega)
  have hq6 := hK.box hq5 (by omega) (by omega)
  have hr6 := hK.box hr5 (by omega) (by omega)
  have hB06 := hB05.trans (hK.1.mono (by omega))
  go_wp2_with (with_reducible refine h_A ?_)
  refine leaves_cons (f := getD) (args := #[.pointer (some ⟨p, 0, none⟩), .pointer (some ⟨q, 0, none⟩), .pointer (some ⟨r, 0, none⟩)]) (by simp) (by simp [go_sem]) ?_
  refine (vJ p q r [] _ _ _ _ hp6 rfl hq6 hr6 (by omega) (by omega) (by omega) w.heap.size (by omega) (by omega) (by omega)).mono ?_
  rintro e u' w'' ⟨rfl, rfl, hp9, hq9, hr9, hB9⟩
  have hB99 := (hB06).trans hB9
  have k1 := hq9.c0
  have k2 := hr9.c0
  have kp0 := hp9.c0
  have kp1 := hp9.c1
  have kp2 := hp9.c2
  have kp3 := hp9.c3
  have kp4 := hp9.c4
  simp only [List.getElem_toArray, List.getElem_cons_zero, List.getElem_cons_succ] at k1 k2 kp0 kp1 kp2 kp3 kp4
  simp [Leaves, settle, results, Tryz.results162, go_sem, kp0, kp1, kp2, kp3, kp4, k1, k2]
  rw [HR0.out]
  exact ⟨⟨none, 0, none, 0⟩, rfl, RV.zero _ _, hB99⟩
 | some rq =>
  obtain ⟨x, lq, nq⟩ := rq
  have hle := (va 6 200 l x lq nq HRR.out.symm).1
  have HR1 : Hid (res = if errV x = 0 then (x, l.length - lq.length, 0) else (vl0, 0, 5)) := Lib.hid (by rw [HRES.out]; unfold vget; rw [← HRR.out])
  go_wp2_with (with_reducible refine h_A ?_)
  refine hread.mono ?_
  rintro e w6 ⟨h, rfl, hV, hR6, hP6, hK⟩
  have hp6 := hK.box hp5 (by omega) (by omega)
  have hq6 := hK.box hq5 (by omega) (by omega)
  have hr6 := hK.box hr5 (by omega) (by omega)
  have hB06 := hB05.trans (hK.1.mono (by omega))
  have hs6 := hK.size
  unfold vlV
  clear hread hp5 hq5 hr5 hz hrd5 hK
  go_wp2_with (with_reducible refine h_B ?_)
  refine zc (zm (v := .agg #[.int .u8 (x.kind : Int), .int .u64 (x.n : Int), .string (str x.s), .slice h.A1 x.keys.length h.c1, .slice h.A2 x.list.length h.c2]) (vs := [.int .u8 (x.kind : Int), .int .u64 (x.n : Int), .string (str x.s), .slice h.A1 x.keys.length h.c1, .slice h.A2 x.list.length h.c2]) rfl rfl rfl rfl hp6 rfl (by kernel_rfl) (by simp) (by intro u hu; simp at hu; rcases hu with rfl | rfl | rfl | rfl | rfl <;> rfl) #[.int .u8 (x.kind : Int), .int .u64 (x.n : Int), .string (str x.s), .slice h.A1 x.keys.length h.c1, .slice h.A2 x.list.length h.c2] (by simp) ?_)
  intro w7 hp7 hg7 _
  have hq7 := hq6.grown hg7 (sne (by omega))
  have hr7 := hr6.grown hg7 (sne (by omega))
  have hP7 := hP6.grown hg7 (sne (by omega))
  have hR7 := hR6.kept hg7 (fun g hg hFg => by injection hg with hg; omega)
  have hB07 := hB06.grown hg7 (by omega) (fun g hg => by injection hg with hg; omega)
  have hs7 := hg7.size
  have hV7 : RV w7 (FN w5.heap.size w7) x h := (hV.keep (fun g hg => hg7.block g hg.2 (by intro e; injection e with e; have := hg.1; omega)) hs7).mono (fun g hg => ⟨hg.1, Nat.lt_of_lt_of_le hg.2 hs7⟩)
  have hT7 := hTw.on hB07
  have hck := vG x h w7 (hV7.mono (fun g hg => hg.2)) hT7
  unfold vlV at hck
  clear hp6 hq6 hr6 hP6 hR6 hB06 hg7 hV
  have hll := hR7.len
  have x0 := hp7.c0
  have x1 := hp7.c1
  have x2 := hp7.c2
  have x3 := hp7.c3
  have x4 := hp7.c4
  by_cases he : errV x = 0
  ·have HR0 : Hid (res = (x, l.length - lq.length, 0)) := Lib.hid (by rw [HR1.out, if_pos he])
   rw [he] at hck
   clear HR1 HRES HRR he
   go_wp2_with (with_reducible refine h_A ?_)
   refine hck.mono ?_
   rintro e w8 ⟨rfl, hB8⟩
   have hR8 := hR7.below hB8
   have hP8 := hP7.below hB8
   have hp8 := hp7.below hB8
   have hq8 := hq7.below hB8
   have hr8 := hr7.below hB8
   have hV8 : RV w8 (FN w5.heap.size w8) x h := (hV7.keep (fun g hg => hB8.block g hg.2) hB8.size).mono (fun g hg => ⟨hg.1, Nat.lt_of_lt_of_le hg.2 hB8.size⟩)
   have hB08 := hB07.trans (hB8.mono hB07.size)
   have hs8 := hB8.size
   clear hck hR7 hP7 hp7 hq7 hr7 hV7 hB07 x0 x1 x2 x3 x4 hT7
   have hmu := yJ hR8 hP8
   go_wp2_with (with_reducible refine h_A ?_)
   refine hmu.mono ?_
   rintro e w9 ⟨rfl, rfl⟩
   clear hmu
   go_upto_region 5 with fail
   refine zD (fun W : World => Box W p 78 #[.int .u8 (x.kind : Int), .int .u64 (x.n : Int), .string (str x.s), .slice h.A1 x.keys.length h.c1, .slice h.A2 x.list.length h.c2] ∧ Box W pb 255 #[.pointer (some ⟨ob, 0, none⟩), .int .i64 (nq : Int)]) (by kernel_rfl) ?_
   have hS : Box w9.drew p 78 #[.int .u8 (x.kind : Int), .int .u64 (x.n : Int), .string (str x.s), .slice h.A1 x.keys.length h.c1, .slice h.A2 x.list.length h.c2] ∧ Box w9.drew pb 255 #[.pointer (some ⟨ob, 0, none⟩), .int .i64 (nq : Int)] := ⟨hp8, hP8⟩
   have hR9 := hR8.drew
   replace hq8 : Box w9.drew q 3 #[.int .i64 0] := hq8
   replace hr8 : Box w9.drew r 45 #[.int .i64 0] := hr8
   replace hV8 : RV w9.drew (FN w5.heap.size w9.drew) x h := hV8.keep (fun g hg => rfl) (Nat.le_refl _)
   replace hB08 := za hB08 1
   replace hs8 : w7.heap.size ≤ w9.drew.heap.size := hs8
   clear hp8 hP8 hR8 hB8
   have hB08 : Below w.heap.size w w9.drew := hB08
   generalize w9.drew = wd at *
   refine zv 0 (v := ?_) rfl (by kernel_rfl) (by kernel_rfl) (by kernel_rfl) hS rfl ?_ ?_
   rotate_left
   ·intro wS hSw; have y0 := hSw.1.cell (j := 0) rfl; have y1 := hSw.1.cell (j := 1) rfl; have y2 := hSw.1.cell (j := 2) rfl; have y3 := hSw.1.cell (j := 3) rfl; have y4 := hSw.1.cell (j := 4) rfl; go_simp; (with_reducible rfl)
   simp only [List.getElem_toArray, List.getElem_cons_zero, Act.put, List.setIfInBounds_toArray, List.set_cons_zero, List.set_cons_succ]
   refine rg_t 1 hS ?_
   simp only [g_S, Act.put]
   refine rg_t 2 hS ?_
   simp only [g_S, Act.put]
   refine rg_t 3 hS ?_
   simp only [g_S, Act.put]
   refine rg_t 4 hS ?_
   simp only [g_S, Act.put]
   refine rg_t 5 hS ?_
   simp only [g_S, Act.put]
   refine zv 6 (v := ?_) rfl (by kernel_rfl) (by kernel_rfl) (by kernel_rfl) hS rfl ?_ ?_
   rotate_left
   ·intro wS hSw; have y0 := hSw.2.cell (j := 0) rfl; go_simp; (with_reducible rfl)
   simp only [g_S, Act.put]
   refine zi 7 rfl (by kernel_rfl) rfl (fun K hK => ?_)
   go_simp
   refine (yh hR9).mono ?_
   rintro e wd2 ⟨rfl, rfl⟩
   refine hK _ _ hS ?_; clear hK K
   try simp only [g_S, Act.put]
   refine rg_t 8 hS ?_
   simp only [g_S, Act.put]
   refine zi 9 rfl (by kernel_rfl) rfl (fun K hK => ?_)
   refine zM (g := p) (j := 0) (v := .agg #[.int .u8 (x.kind : Int), .int .u64 (x.n : Int), .string (str x.s), .slice h.A1 x.keys.length h.c1, .slice h.A2 x.list.length h.c2]) (vs := [.int .u8 (x.kind : Int), .int .u64 (x.n : Int), .string (str x.s), .slice h.A1 x.keys.length h.c1, .slice h.A2 x.list.length h.c2]) rfl rfl rfl hS.1 rfl (by kernel_rfl) (by simp) (by intro u hu; simp at hu; rcases hu with rfl | rfl | rfl | rfl | rfl <;> rfl) #[.int .u8 (x.kind : Int), .int .u64 (x.n : Int), .string (str x.s), .slice h.A1 x.keys.length h.c1, .slice h.A2 x.list.length h.c2] (by simp) ?_
   intro wa hpa hga _
   have hS' : Box wa p 78 #[.int .u8 (x.kind : Int), .int .u64 (x.n : Int), .string (str x.s), .slice h.A1 x.keys.length h.c1, .slice h.A2 x.list.length h.c2] ∧ Box wa pb 255 #[.pointer (some ⟨ob, 0, none⟩), .int .i64 (nq : Int)] := ⟨hpa, hS.2.grown hga (sne (by omega))⟩
   have hqa := hq8.grown hga (sne (by omega))
   have hra := hr8.grown hga (sne (by omega))
   have hBa := hB08.grown hga (by have := hB08.size; omega) (fun g hg => by injection hg with hg; omega)
   have hVa : RV wa (FN w5.heap.size wa) x h := (hV8.keep (fun g hg => hga.block g hg.2 (by intro e; injection e with e; have := hg.1; omega)) hga.size).mono (fun g hg => ⟨hg.1, Nat.lt_of_lt_of_le hg.2 hga.size⟩)
   clear hS hq8 hr8 hB08 hV8 hga hpa hR9
   have hS := hS'
   clear hS'
   refine hK _ _ hS ?_; clear hK K
   refine zi 10 rfl (by kernel_rfl) rfl (fun K hK => ?_)
   refine zM (g := q) (j := 0) (v := .int .i64 (IntKind.i64.wrap ((n : Int) - (lq.length : Int)))) (vs := [.int .i64 (IntKind.i64.wrap ((n : Int) - (lq.length : Int)))]) rfl rfl rfl hqa rfl (by kernel_rfl) (by simp) (by simp; rfl) #[.int .i64 (IntKind.i64.wrap ((n : Int) - (lq.length : Int)))] (by simp) ?_
   intro wb hqb hgb _
   have hSb : Box wb p 78 #[.int .u8 (x.kind : Int), .int .u64 (x.n : Int), .string (str x.s), .slice h.A1 x.keys.length h.c1, .slice h.A2 x.list.length h.c2] ∧ Box wb pb 255 #[.pointer (some ⟨ob, 0, none⟩), .int .i64 (nq : Int)] := ⟨hS.1.grown hgb (sne (by omega)), hS.2.grown hgb (sne (by omega))⟩
   have hrb := hra.grown hgb (sne (by omega))
   have hBb := hBa.grown hgb (by have := hBa.size; omega) (fun g hg => by injection hg with hg; omega)
   have hVb : RV wb (FN w5.heap.size wb) x h := (hVa.keep (fun g hg => hgb.block g hg.2 (by intro e; injection e with e; have := hg.1; omega)) hgb.size).mono (fun g hg => ⟨hg.1, Nat.lt_of_lt_of_le hg.2 hgb.size⟩)
   clear hS hqa hra hBa hVa hgb
   refine hK _ _ hSb ?_; clear hK K
   refine zi 11 rfl (by kernel_rfl) rfl (fun K hK => ?_)
   refine zM (g := r) (j := 0) (v := .int .i64 0) (vs := [.int .i64 0]) rfl rfl rfl hrb rfl (by kernel_rfl) (by simp) (by simp; rfl) #[.int .i64 0] (by simp) ?_
   intro wc hr9 hgc _
   have hp9 := hSb.1.grown hgc (sne (by omega))
   have hPc := hSb.2.grown hgc (sne (by omega))
   have hq9 := hqb.grown hgc (sne (by omega))
   have hBc := hBb.grown hgc (by have := hBb.size; omega) (fun g hg => by injection hg with hg; omega)
   have hVc : RV wc (FN w5.heap.size wc) x h := (hVb.keep (fun g hg => hgc.block g hg.2 (by intro e; injection e with e; have := hg.1; omega)) hgc.size).mono (fun g hg => ⟨hg.1, Nat.lt_of_lt_of_le hg.2 hgc.size⟩)
   refine hK _ _ ⟨hp9, hPc⟩ ?_
   clear hK K hSb hrb hBb hVb hgc hqb
   refine zK (by kernel_rfl) ?_
   go_wp2_with (with_reducible refine h_A ?_)
   have hsub : IntKind.i64.wrap ((n : Int) - (lq.length : Int)) = ((l.length - lq.length : Nat) : Int) := by rw [IntWalk.i64_in _ ⟨by omega, by omega⟩]; omega
   rw [hsub] at hq9
   refine leaves_cons (f := getD) (args := #[.pointer (some ⟨p, 0, none⟩), .pointer (some ⟨q, 0, none⟩), .pointer (some ⟨r, 0, none⟩)]) (by simp) (by simp [go_sem]) ?_
   refine (KH ⟨p, 0, none⟩ ⟨q, 0, none⟩ ⟨r, 0, none⟩ _).mono ?_
   rintro e u' w'' ⟨rfl, rfl, rfl⟩
   have k1 := hq9.c0
   have k2 := hr9.c0
   have kp0 := hp9.c0
   have kp1 := hp9.c1
   have kp2 := hp9.c2
   have kp3 := hp9.c3
   have kp4 := hp9.c4
   simp only [List.getElem_toArray, List.getElem_cons_zero, List.getElem_cons_succ] at k1 k2 kp0 kp1 kp2 kp3 kp4
   simp [Leaves, settle, results, Tryz.results162, go_sem, kp0, kp1, kp2, kp3, kp4, k1, k2]
   rw [HR0.out]
   exact ⟨h, rfl, hVc.mono (fun g hg => ⟨by have := hg.1; omega, hg.2⟩), hBc⟩
  ·have HR0 : Hid (res = (vl0, 0, 5)) := Lib.hid (by rw [HR1.out, if_neg he])
   generalize errV x = E at *
   have g1 : (E == 0) = false := by simpa using he
   clear HR1 HRES HRR he
   go_wp2_with (with_reducible refine h_A ?_)
   refine hck.mono ?_
   rintro e w8 ⟨rfl, hB8⟩
   have hR8 := hR7.below hB8
   have hP8 := hP7.below hB8
   have hp8 := hp7.below hB8
   have hq8 := hq7.below hB8
   have hr8 := hr7.below hB8
   have hB08 := hB07.trans (hB8.mono hB07.size)
   clear hck hR7 hP7 hp7 hq7 hr7 hV7 hB07 x0 x1 x2 x3 x4 hT7
   have hmu := yL hR8 hP8 false (.inl rfl)
   go_wp2_with (with_reducible refine h_A ?_)
   refine hmu.mono ?_
   rintro e w9 ⟨rfl, rfl⟩
   clear hmu
   go_wp2_with (with_reducible refine h_A ?_)
   refine leaves_cons (f := getD) (args := #[.pointer (some ⟨p, 0, none⟩), .pointer (some ⟨q, 0, none⟩), .pointer (some ⟨r, 0, none⟩)]) (by simp) (by simp [go_sem]) ?_
   refine (vJ p q r [] _ _ _ _ hp8 rfl hq8 hr8 (by omega) (by omega) (by omega) w.heap.size (by omega) (by omega) (by omega)).mono ?_
   rintro e u' w'' ⟨rfl, rfl, hp9, hq9, hr9, hB9⟩
   have hB99 := (hB08).trans hB9
   have k1 := hq9.c0
   have k2 := hr9.c0
   have kp0 := hp9.c0
   have kp1 := hp9.c1
   have kp2 := hp9.c2
   have kp3 := hp9.c3
   have kp4 := hp9.c4
   simp only [List.getElem_toArray, List.getElem_cons_zero, List.getElem_cons_succ] at k1 k2 kp0 kp1 kp2 kp3 kp4
   simp [Leaves, settle, results, Tryz.results162, go_sem, kp0, kp1, kp2, kp3, kp4, k1, k2]
   rw [HR0.out]
   exact ⟨⟨none, 0, none, 0⟩, rfl, RV.zero _ _, hB99⟩
end Go.PH
end

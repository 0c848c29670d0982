/- Texts laid together: VlGet2, PrMath, PrBits, PrCheck, PrPart. -/
import Derived.Test.YtenegldhfgfokaaDoorMg02
import Derived.Test.YtenegldhfgfokaaDoorMg04
import Derived.Test.YtenegldhfgfokaaDoorMg05
import Derived.Test.YtenegldhfgfokaaDoorMg07
import Derived.Test.YtenegldhfgfokaaDoorMg08
import Derived.Test.YtenegldhfgfokaaDoorMg12
import Derived.Test.YtenegldhfgfokaaDoorMg14
import Derived.Test.YtenegldhfgfokaaDoorMg16
import Derived.Test.YtenegldhfgfokaaDoorMg18
set_option linter.all false
set_option linter.unusedSimpArgs false
set_option linter.unusedVariables false
section
/- A value off bytes: the walk of the program's Get. -/
namespace Go.PH
open Go.RowKit Go.Proofs

/-- the deferred function -/
abbrev getD : Nat := 52
/-- what Get of bytes answers -/
def vget (l : List UInt8) : Vl × Nat × Int := match vread 6 200 l with
 | some q => if errV q.1 = 0 then (q.1, l.length - q.2.1.length, 0) else (vl0, 0, 5)
 | none => (vl0, 0, 5)
theorem vget_ok {x : Vl} {rest : List UInt8} (hv : VB x) (he : errV x = 0) : vget (vlB x ++ rest) = (x, (vlB x).length, 0) := by
 obtain ⟨hc, hm⟩ := errV_ok he
 have hd : deepV 6 x = false := by
  unfold errV at he
  split at he
  ·omega
  ·rename_i h; simpa using h
 have h := vread_ok x 6 200 rest hv hm hd (Nat.le_refl _) hc
 unfold vget
 rw [h]
 simp only
 rw [if_pos he]
 simp
theorem rd_wide {w : World} {B B' size n c : Nat} {A : Option Addr} {xs : List Value} (h : Rd w B size A n c xs) (hB : B ≤ B') : Rd w B' size A n c xs := ⟨h.len, h.cap, h.max, fun hn => by
 obtain ⟨b, off, e, hb, hc⟩ := h.at_ hn
 exact ⟨b, off, e, Nat.lt_of_lt_of_le hb hB, hc⟩⟩
def VGetR (w : World) (r : Vl × Nat × Int) (e : Ending) (w' : World) : Prop := ∃ h, e = .returned (.tuple #[.agg (vlV r.1 h), .int .i64 (r.2.1 : Int), .int .i64 r.2.2]) ∧ RV w' (FN w.heap.size w') r.1 h ∧ Below w.heap.size w w'
set_option maxRecDepth 20000 in
set_option maxHeartbeats 4000000 in
theorem vget_any (A : Option Addr) (n c : Nat) (l : List UInt8) (w : World) (hb : RdB w w.heap.size A n c l) (hn : n ≤ 140737488351240) (hT : UTabs w) :
  Calls Tryd.prog 32 #[.slice A n c] w (VGetR w (vget l)) := by
 have hmf : ∀ (fn : Fn) (first cap : Array Value) (w : World), (Instr.makeFunc fn first cap).run Tryd.prog w = .ok (.func fn first cap) w := fun _ _ _ _ => rfl
 obtain ⟨p, w1, hpq, hpv, hp1, hB1⟩ := alloc_stepV w #[.int .u8 0, .int .u64 0, .string ⟨#[]⟩, .slice none 0 0, .slice none 0 0] 27
 obtain ⟨q, w2, hqq, hqv, hq2, hB2⟩ := alloc_stepV w1 #[.int .i64 0] 3
 obtain ⟨r, w3, hrq, hrv, hr3, hB3⟩ := alloc_stepV w2 #[.int .i64 0] 33
 have e1 : p + 1 = q := by rw [hqq, hpv, hpq]; simp
 have e2 : q + 1 = r := by rw [hrq, hqv, hqq]; simp
 have e3 : w3.heap.size = r + 1 := by rw [hrv, hrq]; simp
 have hB := (hB1.trans ((hB2.mono hB1.size).trans (hB3.mono (Nat.le_trans hB1.size hB2.size))))
 have hpw : w.heap.size ≤ p := by omega
 have hp3 := (hp1.below hB2).below hB3
 have hq3 := hq2.below hB3
 have hb3 : RdB w3 w3.heap.size A n c l := rd_wide (hb.below hB) hB.size
 obtain ⟨res, hres⟩ : ∃ x, x = vget l := ⟨_, rfl⟩
 rw [← hres]
 have HRES := Lib.hid hres
 have ho := rdopen_any A n c l w3 hb3 hn
 have hln : l.length = n := RdB.length hb
 have hT3 := hT.on hB
 have hTw := hT
 clear hres hB1 hB2 hB3 hp1 hq2 hb hT
 go_enter_defers Tryd.func32, Tryd.ntmps32
 go_upto_region 2 with fail
 rw [← hpv, ← hqv, ← hrv, ← hpq, e1, e2]
 clear hpq hpv hqq hqv hrq hrv
 have hqp : p < q := by omega
 have hrq : q < r := by omega
 have hrl := hr3.lt
 clear e1 e2
 go_wp2_with (with_reducible refine h_A ?_)
 refine ho.mono ?_
 rintro e w4 ⟨ob, vb, rfl, hob, hvb, hrd, hB4⟩
 have hp4 := hp3.below hB4
 have hq4 := hq3.below hB4
 have hr4 := hr3.below hB4
 have hB04 := hB.trans (hB4.mono hB.size)
 have hT4 := hT3.on hB4
 have hs4 := hB4.size
 clear ho hp3 hq3 hr3 hb3 hT3
 have hz := Box.new w4 #[.pointer (some ⟨ob, 0, none⟩), .int .i64 200] 123
 have hBz := (Below.refl w4.heap.size w4).alloc (Nat.le_refl _) (.cells #[.pointer (some ⟨ob, 0, none⟩), .int .i64 200] 123)
 go_wp2_with (with_reducible refine h_A ?_)
 obtain ⟨pb, hpb⟩ : ∃ g, g = w4.heap.size := ⟨_, rfl⟩
 rw [← hpb] at hz ⊢
 have hp5 := hp4.below hBz
 have hq5 := hq4.below hBz
 have hr5 := hr4.below hBz
 have hrd5 := hrd.below hBz
 have hB05 := hB04.trans (hBz.mono hB04.size)
 have hT5 := hT4.on hBz
 have hs5 := hBz.size
 have hpb4 : w4.heap.size ≤ pb := by omega
 have hzl := hz.lt
 clear hpb hp4 hq4 hr4 hrd hBz hT4
 generalize (w4.alloc (.cells #[.pointer (some ⟨ob, 0, none⟩), .int .i64 200] 123)) = w5 at *
 have hread := read_any 6 1 200 (fun g => w3.heap.size ≤ g ∧ g < w4.heap.size) w3.heap.size pb vb (.pointer (some ⟨ob, 0, none⟩)) l false w5 rfl hrd5 hz (fun h => by omega) (fun g hg => ⟨hg.1, by omega⟩) (by omega) (Nat.le_refl _)
 obtain ⟨rr, hrr⟩ : ∃ x, x = vread 6 200 l := ⟨_, rfl⟩
 rw [show vreadB 6 200 l false = rr by rw [hrr]; rfl] at hread
 have HRR := Lib.hid hrr
 clear hrr
 cases rr with
 | none =>
  have HR0 : Hid (res = (vl0, 0, 5)) := Lib.hid (by rw [HRES.out]; unfold vget; rw [← HRR.out])
  go_wp2_with (with_reducible refine h_A ?_)
  refine hread.mono ?_
  rintro e w6 ⟨rfl, hK⟩
  have hp6 := hK.box hp5 (by omega) (by omega)
  have hq6 := hK.box hq5 (by omega) (by omega)
  have hr6 := hK.box hr5 (by omega) (by omega)
  have hB06 := hB05.trans (hK.1.mono (by omega))
  go_wp2_with (with_reducible refine h_A ?_)
  refine leaves_cons (f := getD) (args := #[.pointer (some ⟨p, 0, none⟩), .pointer (some ⟨q, 0, none⟩), .pointer (some ⟨r, 0, none⟩)]) (by simp) (by simp [go_sem]) ?_
  refine (get_caught p q r [] _ _ _ _ hp6 rfl hq6 hr6 (by omega) (by omega) (by omega) w.heap.size (by omega) (by omega) (by omega)).mono ?_
  rintro e u' w'' ⟨rfl, rfl, hp9, hq9, hr9, hB9⟩
  have hB99 := (hB06).trans hB9
  have k1 := hq9.c0
  have k2 := hr9.c0
  have kp0 := hp9.c0
  have kp1 := hp9.c1
  have kp2 := hp9.c2
  have kp3 := hp9.c3
  have kp4 := hp9.c4
  simp only [List.getElem_toArray, List.getElem_cons_zero, List.getElem_cons_succ] at k1 k2 kp0 kp1 kp2 kp3 kp4
  simp [Leaves, settle, results, Tryd.results32, go_sem, kp0, kp1, kp2, kp3, kp4, k1, k2]
  rw [HR0.out]
  exact ⟨⟨none, 0, none, 0⟩, rfl, RV.zero _ _, hB99⟩
 | some rq =>
  obtain ⟨x, lq, nq⟩ := rq
  have hle := (vread_len 6 200 l x lq nq HRR.out.symm).1
  have HR1 : Hid (res = if errV x = 0 then (x, l.length - lq.length, 0) else (vl0, 0, 5)) := Lib.hid (by rw [HRES.out]; unfold vget; rw [← HRR.out])
  go_wp2_with (with_reducible refine h_A ?_)
  refine hread.mono ?_
  rintro e w6 ⟨h, rfl, hV, hR6, hP6, hK⟩
  have hp6 := hK.box hp5 (by omega) (by omega)
  have hq6 := hK.box hq5 (by omega) (by omega)
  have hr6 := hK.box hr5 (by omega) (by omega)
  have hB06 := hB05.trans (hK.1.mono (by omega))
  have hs6 := hK.size
  unfold vlV
  clear hread hp5 hq5 hr5 hz hrd5 hK
  go_wp2_with (with_reducible refine h_B ?_)
  refine unhold (wp_box (v := .agg #[.int .u8 (x.kind : Int), .int .u64 (x.n : Int), .string (str x.s), .slice h.A1 x.keys.length h.c1, .slice h.A2 x.list.length h.c2]) (vs := [.int .u8 (x.kind : Int), .int .u64 (x.n : Int), .string (str x.s), .slice h.A1 x.keys.length h.c1, .slice h.A2 x.list.length h.c2]) rfl rfl rfl rfl hp6 rfl (by kernel_rfl) (by simp) (by intro u hu; simp at hu; rcases hu with rfl | rfl | rfl | rfl | rfl <;> rfl) #[.int .u8 (x.kind : Int), .int .u64 (x.n : Int), .string (str x.s), .slice h.A1 x.keys.length h.c1, .slice h.A2 x.list.length h.c2] (by simp) ?_)
  intro w7 hp7 hg7 _
  have hq7 := hq6.grown hg7 (sne (by omega))
  have hr7 := hr6.grown hg7 (sne (by omega))
  have hP7 := hP6.grown hg7 (sne (by omega))
  have hR7 := hR6.kept hg7 (fun g hg hFg => by injection hg with hg; omega)
  have hB07 := hB06.grown hg7 (by omega) (fun g hg => by injection hg with hg; omega)
  have hs7 := hg7.size
  have hV7 : RV w7 (FN w5.heap.size w7) x h := (hV.keep (fun g hg => hg7.block g hg.2 (by intro e; injection e with e; have := hg.1; omega)) hs7).mono (fun g hg => ⟨hg.1, Nat.lt_of_lt_of_le hg.2 hs7⟩)
  have hT7 := hTw.on hB07
  have hck := vcheck_any x h w7 (hV7.mono (fun g hg => hg.2)) hT7
  unfold vlV at hck
  clear hp6 hq6 hr6 hP6 hR6 hB06 hg7 hV
  have hll := hR7.len
  have x0 := hp7.c0
  have x1 := hp7.c1
  have x2 := hp7.c2
  have x3 := hp7.c3
  have x4 := hp7.c4
  by_cases he : errV x = 0
  ·have HR0 : Hid (res = (x, l.length - lq.length, 0)) := Lib.hid (by rw [HR1.out, if_pos he])
   rw [he] at hck
   clear HR1 HRES HRR he
   go_wp2_with (with_reducible refine h_A ?_)
   refine hck.mono ?_
   rintro e w8 ⟨rfl, hB8⟩
   have hR8 := hR7.below hB8
   have hP8 := hP7.below hB8
   have hp8 := hp7.below hB8
   have hq8 := hq7.below hB8
   have hr8 := hr7.below hB8
   have hV8 : RV w8 (FN w5.heap.size w8) x h := (hV7.keep (fun g hg => hB8.block g hg.2) hB8.size).mono (fun g hg => ⟨hg.1, Nat.lt_of_lt_of_le hg.2 hB8.size⟩)
   have hB08 := hB07.trans (hB8.mono hB07.size)
   have hs8 := hB8.size
   clear hck hR7 hP7 hp7 hq7 hr7 hV7 hB07 x0 x1 x2 x3 x4 hT7
   have hmu := must_yes hR8 hP8
   go_wp2_with (with_reducible refine h_A ?_)
   refine hmu.mono ?_
   rintro e w9 ⟨rfl, rfl⟩
   clear hmu
   go_upto_region 5 with fail
   refine rg_start (fun W : World => Box W p 27 #[.int .u8 (x.kind : Int), .int .u64 (x.n : Int), .string (str x.s), .slice h.A1 x.keys.length h.c1, .slice h.A2 x.list.length h.c2] ∧ Box W pb 123 #[.pointer (some ⟨ob, 0, none⟩), .int .i64 (nq : Int)]) (by kernel_rfl) ?_
   have hS : Box w9.drew p 27 #[.int .u8 (x.kind : Int), .int .u64 (x.n : Int), .string (str x.s), .slice h.A1 x.keys.length h.c1, .slice h.A2 x.list.length h.c2] ∧ Box w9.drew pb 123 #[.pointer (some ⟨ob, 0, none⟩), .int .i64 (nq : Int)] := ⟨hp8, hP8⟩
   have hR9 := hR8.drew
   replace hq8 : Box w9.drew q 3 #[.int .i64 0] := hq8
   replace hr8 : Box w9.drew r 33 #[.int .i64 0] := hr8
   replace hV8 : RV w9.drew (FN w5.heap.size w9.drew) x h := hV8.keep (fun g hg => rfl) (Nat.le_refl _)
   replace hB08 := below_drewN hB08 1
   replace hs8 : w7.heap.size ≤ w9.drew.heap.size := hs8
   clear hp8 hP8 hR8 hB8
   have hB08 : Below w.heap.size w w9.drew := hB08
   generalize w9.drew = wd at *
   refine rg_take 0 (v := ?_) rfl (by kernel_rfl) (by kernel_rfl) (by kernel_rfl) hS rfl ?_ ?_
   rotate_left
   ·intro wS hSw; have y0 := hSw.1.cell (j := 0) rfl; have y1 := hSw.1.cell (j := 1) rfl; have y2 := hSw.1.cell (j := 2) rfl; have y3 := hSw.1.cell (j := 3) rfl; have y4 := hSw.1.cell (j := 4) rfl; go_simp; (with_reducible rfl)
   simp only [List.getElem_toArray, List.getElem_cons_zero, Act.put, List.setIfInBounds_toArray, List.set_cons_zero, List.set_cons_succ]
   refine rg_t 1 hS ?_
   simp only [g_S, Act.put]
   refine rg_t 2 hS ?_
   simp only [g_S, Act.put]
   refine rg_t 3 hS ?_
   simp only [g_S, Act.put]
   refine rg_t 4 hS ?_
   simp only [g_S, Act.put]
   refine rg_t 5 hS ?_
   simp only [g_S, Act.put]
   refine rg_take 6 (v := ?_) rfl (by kernel_rfl) (by kernel_rfl) (by kernel_rfl) hS rfl ?_ ?_
   rotate_left
   ·intro wS hSw; have y0 := hSw.2.cell (j := 0) rfl; go_simp; (with_reducible rfl)
   simp only [g_S, Act.put]
   refine rg_one 7 rfl (by kernel_rfl) rfl (fun K hK => ?_)
   go_simp
   refine (rdleft_any hR9).mono ?_
   rintro e wd2 ⟨rfl, rfl⟩
   refine hK _ _ hS ?_; clear hK K
   try simp only [g_S, Act.put]
   refine rg_t 8 hS ?_
   simp only [g_S, Act.put]
   refine rg_one 9 rfl (by kernel_rfl) rfl (fun K hK => ?_)
   refine op_box (g := p) (j := 0) (v := .agg #[.int .u8 (x.kind : Int), .int .u64 (x.n : Int), .string (str x.s), .slice h.A1 x.keys.length h.c1, .slice h.A2 x.list.length h.c2]) (vs := [.int .u8 (x.kind : Int), .int .u64 (x.n : Int), .string (str x.s), .slice h.A1 x.keys.length h.c1, .slice h.A2 x.list.length h.c2]) rfl rfl rfl hS.1 rfl (by kernel_rfl) (by simp) (by intro u hu; simp at hu; rcases hu with rfl | rfl | rfl | rfl | rfl <;> rfl) #[.int .u8 (x.kind : Int), .int .u64 (x.n : Int), .string (str x.s), .slice h.A1 x.keys.length h.c1, .slice h.A2 x.list.length h.c2] (by simp) ?_
   intro wa hpa hga _
   have hS' : Box wa p 27 #[.int .u8 (x.kind : Int), .int .u64 (x.n : Int), .string (str x.s), .slice h.A1 x.keys.length h.c1, .slice h.A2 x.list.length h.c2] ∧ Box wa pb 123 #[.pointer (some ⟨ob, 0, none⟩), .int .i64 (nq : Int)] := ⟨hpa, hS.2.grown hga (sne (by omega))⟩
   have hqa := hq8.grown hga (sne (by omega))
   have hra := hr8.grown hga (sne (by omega))
   have hBa := hB08.grown hga (by have := hB08.size; omega) (fun g hg => by injection hg with hg; omega)
   have hVa : RV wa (FN w5.heap.size wa) x h := (hV8.keep (fun g hg => hga.block g hg.2 (by intro e; injection e with e; have := hg.1; omega)) hga.size).mono (fun g hg => ⟨hg.1, Nat.lt_of_lt_of_le hg.2 hga.size⟩)
   clear hS hq8 hr8 hB08 hV8 hga hpa hR9
   have hS := hS'
   clear hS'
   refine hK _ _ hS ?_; clear hK K
   refine rg_one 10 rfl (by kernel_rfl) rfl (fun K hK => ?_)
   refine op_box (g := q) (j := 0) (v := .int .i64 (IntKind.i64.wrap ((n : Int) - (lq.length : Int)))) (vs := [.int .i64 (IntKind.i64.wrap ((n : Int) - (lq.length : Int)))]) rfl rfl rfl hqa rfl (by kernel_rfl) (by simp) (by simp; rfl) #[.int .i64 (IntKind.i64.wrap ((n : Int) - (lq.length : Int)))] (by simp) ?_
   intro wb hqb hgb _
   have hSb : Box wb p 27 #[.int .u8 (x.kind : Int), .int .u64 (x.n : Int), .string (str x.s), .slice h.A1 x.keys.length h.c1, .slice h.A2 x.list.length h.c2] ∧ Box wb pb 123 #[.pointer (some ⟨ob, 0, none⟩), .int .i64 (nq : Int)] := ⟨hS.1.grown hgb (sne (by omega)), hS.2.grown hgb (sne (by omega))⟩
   have hrb := hra.grown hgb (sne (by omega))
   have hBb := hBa.grown hgb (by have := hBa.size; omega) (fun g hg => by injection hg with hg; omega)
   have hVb : RV wb (FN w5.heap.size wb) x h := (hVa.keep (fun g hg => hgb.block g hg.2 (by intro e; injection e with e; have := hg.1; omega)) hgb.size).mono (fun g hg => ⟨hg.1, Nat.lt_of_lt_of_le hg.2 hgb.size⟩)
   clear hS hqa hra hBa hVa hgb
   refine hK _ _ hSb ?_; clear hK K
   refine rg_one 11 rfl (by kernel_rfl) rfl (fun K hK => ?_)
   refine op_box (g := r) (j := 0) (v := .int .i64 0) (vs := [.int .i64 0]) rfl rfl rfl hrb rfl (by kernel_rfl) (by simp) (by simp; rfl) #[.int .i64 0] (by simp) ?_
   intro wc hr9 hgc _
   have hp9 := hSb.1.grown hgc (sne (by omega))
   have hPc := hSb.2.grown hgc (sne (by omega))
   have hq9 := hqb.grown hgc (sne (by omega))
   have hBc := hBb.grown hgc (by have := hBb.size; omega) (fun g hg => by injection hg with hg; omega)
   have hVc : RV wc (FN w5.heap.size wc) x h := (hVb.keep (fun g hg => hgc.block g hg.2 (by intro e; injection e with e; have := hg.1; omega)) hgc.size).mono (fun g hg => ⟨hg.1, Nat.lt_of_lt_of_le hg.2 hgc.size⟩)
   refine hK _ _ ⟨hp9, hPc⟩ ?_
   clear hK K hSb hrb hBb hVb hgc hqb
   refine rg_end (by kernel_rfl) ?_
   go_wp2_with (with_reducible refine h_A ?_)
   have hsub : IntKind.i64.wrap ((n : Int) - (lq.length : Int)) = ((l.length - lq.length : Nat) : Int) := by rw [IntWalk.i64_in _ ⟨by omega, by omega⟩]; omega
   rw [hsub] at hq9
   refine leaves_cons (f := getD) (args := #[.pointer (some ⟨p, 0, none⟩), .pointer (some ⟨q, 0, none⟩), .pointer (some ⟨r, 0, none⟩)]) (by simp) (by simp [go_sem]) ?_
   refine (get_idle ⟨p, 0, none⟩ ⟨q, 0, none⟩ ⟨r, 0, none⟩ _).mono ?_
   rintro e u' w'' ⟨rfl, rfl, rfl⟩
   have k1 := hq9.c0
   have k2 := hr9.c0
   have kp0 := hp9.c0
   have kp1 := hp9.c1
   have kp2 := hp9.c2
   have kp3 := hp9.c3
   have kp4 := hp9.c4
   simp only [List.getElem_toArray, List.getElem_cons_zero, List.getElem_cons_succ] at k1 k2 kp0 kp1 kp2 kp3 kp4
   simp [Leaves, settle, results, Tryd.results32, go_sem, kp0, kp1, kp2, kp3, kp4, k1, k2]
   rw [HR0.out]
   exact ⟨h, rfl, hVc.mono (fun g hg => ⟨by have := hg.1; omega, hg.2⟩), hBc⟩
  ·have HR0 : Hid (res = (vl0, 0, 5)) := Lib.hid (by rw [HR1.out, if_neg he])
   generalize errV x = E at *
   have g1 : (E == 0) = false := by simpa using he
   clear HR1 HRES HRR he
   go_wp2_with (with_reducible refine h_A ?_)
   refine hck.mono ?_
   rintro e w8 ⟨rfl, hB8⟩
   have hR8 := hR7.below hB8
   have hP8 := hP7.below hB8
   have hp8 := hp7.below hB8
   have hq8 := hq7.below hB8
   have hr8 := hr7.below hB8
   have hB08 := hB07.trans (hB8.mono hB07.size)
   clear hck hR7 hP7 hp7 hq7 hr7 hV7 hB07 x0 x1 x2 x3 x4 hT7
   have hmu := must_no hR8 hP8 false (.inl rfl)
   go_wp2_with (with_reducible refine h_A ?_)
   refine hmu.mono ?_
   rintro e w9 ⟨rfl, rfl⟩
   clear hmu
   go_wp2_with (with_reducible refine h_A ?_)
   refine leaves_cons (f := getD) (args := #[.pointer (some ⟨p, 0, none⟩), .pointer (some ⟨q, 0, none⟩), .pointer (some ⟨r, 0, none⟩)]) (by simp) (by simp [go_sem]) ?_
   refine (get_caught p q r [] _ _ _ _ hp8 rfl hq8 hr8 (by omega) (by omega) (by omega) w.heap.size (by omega) (by omega) (by omega)).mono ?_
   rintro e u' w'' ⟨rfl, rfl, hp9, hq9, hr9, hB9⟩
   have hB99 := (hB08).trans hB9
   have k1 := hq9.c0
   have k2 := hr9.c0
   have kp0 := hp9.c0
   have kp1 := hp9.c1
   have kp2 := hp9.c2
   have kp3 := hp9.c3
   have kp4 := hp9.c4
   simp only [List.getElem_toArray, List.getElem_cons_zero, List.getElem_cons_succ] at k1 k2 kp0 kp1 kp2 kp3 kp4
   simp [Leaves, settle, results, Tryd.results32, go_sem, kp0, kp1, kp2, kp3, kp4, k1, k2]
   rw [HR0.out]
   exact ⟨⟨none, 0, none, 0⟩, rfl, RV.zero _ _, hB99⟩
end Go.PH
end
section
/- Properties, their flags and bytes: plain mathematics. -/
namespace Go.PH
open Go.RowKit Go.Proofs

structure Pr where
 key : List UInt8
 dur : Bool
 red : Bool
 id : List UInt8
 app : Vl
def bitsN : List Bool → Nat
 | [] => 0
 | b :: l => (if b then 1 else 0) + 2 * bitsN l
theorem bitsN_snoc (l : List Bool) (b : Bool) : bitsN (l ++ [b]) = bitsN l + (if b then 2 ^ l.length else 0) := by
 induction l with
 | nil => cases b <;> rfl
 | cons x r ih =>
  rw [List.cons_append, bitsN, ih, bitsN, List.length_cons, Nat.pow_succ]
  split <;> split <;> omega
theorem bitsN_lt (l : List Bool) : bitsN l < 2 ^ l.length := by
 induction l with
 | nil => decide
 | cons x r ih =>
  rw [bitsN, List.length_cons, Nat.pow_succ]
  split <;> omega
/-- a text behind its length, if it is there -/
def txtP (s : List UInt8) : List UInt8 := if s = [] then [] else UInt8.ofNat s.length :: s
def partB (code : Nat) (flags : Nat) (rest : List UInt8) : List UInt8 := [4, UInt8.ofNat code] ++ be 2 flags ++ rest
def putPart (out b : List UInt8) : List UInt8 := out ++ be 4 b.length ++ b
def isMap (v : Vl) : Bool := v.kind == 168
def okP (p : Pr) : Bool := decide (p.key.length ≤ 255) && decide (p.id.length ≤ 255) && (sameV p.app vl0 || (isMap p.app && decide (errV p.app = 0)))
def errP (p : Pr) : Int := if okP p = true then 0 else 90
def f1P (p : Pr) : Nat := bitsN [p.dur, p.red, p.key != []]
def f2P (p : Pr) : Nat := bitsN [p.id != [], isMap p.app]
def b1P (p : Pr) : List UInt8 := partB 1 (f1P p) (txtP p.key)
def b2P (p : Pr) : List UInt8 := partB 3 (f2P p) (txtP p.id ++ if isMap p.app then vlP p.app else [])
def bytesP (p : Pr) : List UInt8 := if f2P p = 0 then putPart [] (b1P p) else putPart (putPart [] (b1P p)) (b2P p)
def putP (p : Pr) : List UInt8 := if okP p = true then bytesP p else []
end Go.PH
end
section
/- The walk of props' bits. -/
namespace Go.PH
open Go.RowKit Go.Proofs

theorem orFlag : ∀ k : Fin 8, ∀ f : Fin 256, f.val < 2 ^ k.val → bits .or .u64 ((f.val : Nat) : Int) ((2 ^ k.val : Nat) : Int) = ((f.val + 2 ^ k.val : Nat) : Int) := by decide +kernel
theorem shlOne : ∀ k : Fin 8, (2 : Int) ^ k.val = ((2 ^ k.val : Nat) : Int) := by decide
set_option maxRecDepth 20000 in
set_option maxHeartbeats 1000000 in
theorem bits_any (l : List Bool) (A : Option Addr) (n c : Nat) (w : World) (hr : Rd w w.heap.size 1 A n c (l.map fun b => Value.bool b)) (hn : n ≤ 7) :
  Calls Tryd.prog 18 #[.slice A n c] w fun e w' => e = .returned (.int .u64 (bitsN l : Int)) ∧ w = w' := by
 have hl : l.length = n := by have := hr.len; simpa using this
 have HL := Lib.hid hl
 have HR := Lib.hid hr
 clear hl hr
 go_enter Tryd.func18, Tryd.ntmps18
 go_wp2_with (with_reducible refine h_A ?_)
 go_loop [8, 3] (fun s8 s3 => ∃ k : Nat, k ≤ n ∧ s8 = .int .i64 (k : Int) ∧ s3 = .int .u64 ((bitsN (l.take k) : Nat) : Int)) (fun s8 _ => n - (RowKit.intOf s8).toNat)
 case atStart => exact ⟨0, by omega, rfl, rfl⟩
 case round =>
  obtain ⟨k, hk, rfl, rfl⟩ := hrel
  by_cases hlt : k < n
  ·have g1 : (k : Int) < (n : Int) := by omega
   obtain ⟨b, off, u, rfl, hb, hu, hc⟩ := HR.out.at_k hlt
   have hkl : k < l.length := by rw [HL.out]; exact hlt
   obtain rfl : u = .bool l[k] := by rw [List.getElem?_map, List.getElem?_eq_getElem hkl] at hu; exact (Option.some.inj hu).symm
   have HT : Hid (bitsN (l.take (k + 1)) = bitsN (l.take k) + (if l[k] then 2 ^ k else 0)) := Lib.hid (by rw [List.take_succ_eq_append_getElem hkl, bitsN_snoc, List.length_take_of_le (by omega)])
   have hfl := bitsN_lt (l.take k)
   rw [List.length_take_of_le (by omega)] at hfl
   have h256 : (2 : Nat) ^ k ≤ 2 ^ 7 := Nat.pow_le_pow_right (by omega) (by omega)
   have hor := orFlag ⟨k, by omega⟩ ⟨bitsN (l.take k), by omega⟩ hfl
   have hsh := shlOne ⟨k, by omega⟩
   simp only at hor hsh
   clear hu
   generalize l[k] = x at *
   generalize bitsN (l.take k) = fl at *
   cases x
   ·have HT2 : Hid (bitsN (l.take (k + 1)) = fl) := Lib.hid (by rw [HT.out]; simp)
    clear hor hsh HT
    go_wp2_with (with_reducible refine h_A ?_)
    exact ⟨⟨k + 1, by omega, by go_num, by rw [HT2.out]⟩, by simp [RowKit.intOf]; omega⟩
   ·have HT2 : Hid (bitsN (l.take (k + 1)) = fl + 2 ^ k) := Lib.hid (by rw [HT.out]; simp)
    clear HT
    generalize hp : 2 ^ k = pk at *
    clear hp
    go_wp2_with (with_reducible refine h_A ?_)
    exact ⟨⟨k + 1, by omega, by go_num, by rw [HT2.out]; push_cast; rfl⟩, by simp [RowKit.intOf]; omega⟩
  ·obtain rfl : k = n := by omega
   have hT : l.take k = l := List.take_of_length_le (by rw [HL.out]; exact Nat.le_refl _)
   rw [hT]
   clear hT
   go_wp2_with (with_reducible refine h_A ?_)
   go_ret
   exact ⟨rfl, rfl⟩
end Go.PH
end
section
/- The walk of props' Check. -/
namespace Go.PH
open Go.RowKit Go.Proofs

def prV (p : Pr) (h : VH) : Array Value := #[.string (str p.key), .bool p.dur, .bool p.red, .string (str p.id), .int .u8 (p.app.kind : Int), .int .u64 (p.app.n : Int), .string (str p.app.s), .slice h.A1 p.app.keys.length h.c1, .slice h.A2 p.app.list.length h.c2]
/-- properties that one may hold -/
structure PrW (w : World) (p : Pr) (h : VH) : Prop where
 key : p.key.length ≤ 140737488351232
 id : p.id.length ≤ 140737488351232
 app : RVw w p.app h
theorem PrW.up {w w' : World} {p : Pr} {h : VH} (hp : PrW w p h) (hB : Below w.heap.size w w') : PrW w' p h := ⟨hp.key, hp.id, hp.app.up hB⟩
set_option maxRecDepth 20000 in
set_option maxHeartbeats 2000000 in
theorem prcheck_any (p : Pr) (h : VH) (w : World) (hp : PrW w p h) (hT : UTabs w) :
  Calls Tryd.prog 13 #[.agg (prV p h)] w fun e w' => e = .returned (.int .i64 (errP p)) ∧ Below w.heap.size w w' := by
 obtain ⟨xb, w1, hxb, hxv, hX, hB1⟩ := alloc_stepV w (prV p h) 29
 have hv1 := hp.app.up hB1
 have hss := vsame_any p.app vl0 h ⟨none, 0, none, 0⟩ w1 hv1 (RV.zero _ _)
 have HCK := Lib.hid fun (W : World) (hW : Below w1.heap.size w1 W) => vcheck_any p.app h W (hv1.up hW) ((hT.on hB1).on hW)
 have hsk := str_size p.key
 have hsi := str_size p.id
 have hk := hp.key
 have hi := hp.id
 obtain ⟨E, hE⟩ : ∃ E, E = errP p := ⟨_, rfl⟩
 rw [← hE]
 have HE0 := Lib.hid hE
 clear hE hT hp hv1
 unfold prV at *
 unfold SameR vlV at hss
 have hss2 : Calls Tryd.prog 34 #[.agg #[.int .u8 (p.app.kind : Int), .int .u64 (p.app.n : Int), .string (str p.app.s), .slice h.A1 p.app.keys.length h.c1, .slice h.A2 p.app.list.length h.c2], .agg #[.int .u8 0, .int .u64 0, .string ⟨#[]⟩, .slice none 0 0, .slice none 0 0]] w1 fun e w' => e = .returned (.bool (sameV p.app vl0)) ∧ Below w1.heap.size w1 w' := hss
 clear hss
 have HS := Lib.hid (rfl : sameV p.app vl0 = sameV p.app vl0)
 obtain ⟨nn, hnn⟩ : ∃ b, b = sameV p.app vl0 := ⟨_, rfl⟩
 rw [← hnn] at hss2
 have HNN := Lib.hid hnn
 clear hnn HS
 have x0 := (hX).c0
 have x3 := (hX).c3
 have x4 := (hX).c4
 have x5 := (hX).c5
 have x6 := (hX).c6
 have x7 := (hX).c7
 have x8 := (hX).c8
 go_enter Tryd.func13, Tryd.ntmps13
 go_upto_region 1 with fail
 rw [← hxb, ← hxv]
 clear hxb hxv
 go_wp2_with (with_reducible refine h_A ?_)
 (with_reducible refine hss2.mono ?_)
 rintro e w2 ⟨rfl, hBs⟩
 clear hss2 x0 x3 x4 x5 x6 x7 x8
 have hX2 := hX.below hBs
 have hB2 := hB1.trans (hBs.mono hB1.size)
 have x0 := (hX2).c0
 have x3 := (hX2).c3
 have x4 := (hX2).c4
 have x5 := (hX2).c5
 have x6 := (hX2).c6
 have x7 := (hX2).c7
 have x8 := (hX2).c8
 have hck := HCK.out w2 hBs
 unfold vlV at hck
 by_cases q1 : 255 < p.key.length
 ·have d1 : (255 : Int) < ((str p.key).size : Int) := by omega
  have HE : Hid (E = 90) := Lib.hid (by rw [HE0.out]; simp [errP, okP]; omega)
  clear q1 hck
  go_wp2_with (with_reducible refine h_A ?_)
  go_ret
  exact ⟨by rw [HE.out]; rfl, hB2⟩
 ·have d1 : ¬ (255 : Int) < ((str p.key).size : Int) := by omega
  have d1' : decide ((255 : Int) < ((str p.key).size : Int)) = false := by simp; omega
  by_cases q2 : 255 < p.id.length
  ·have d2 : (255 : Int) < ((str p.id).size : Int) := by omega
   have HE : Hid (E = 90) := Lib.hid (by rw [HE0.out]; simp [errP, okP]; omega)
   clear q1 q2 hck
   go_wp2_with (with_reducible refine h_A ?_)
   go_ret
   exact ⟨by rw [HE.out]; rfl, hB2⟩
  ·have d2 : ¬ (255 : Int) < ((str p.id).size : Int) := by omega
   have d2' : decide ((255 : Int) < ((str p.id).size : Int)) = false := by simp; omega
   cases nn
   ·have HN := Lib.hid (show (sameV p.app vl0 || (isMap p.app && decide (errV p.app = 0))) = (isMap p.app && decide (errV p.app = 0)) by rw [← HNN.out]; rfl)
    by_cases q3 : p.app.kind = 168
    ·have d3 : ((p.app.kind : Int) != 168) = false := by rw [q3]; rfl
     have d3' : (p.app.kind : Int) = 168 := by omega
     by_cases q4 : errV p.app = 0
     ·have HE : Hid (E = 0) := Lib.hid (by rw [HE0.out]; unfold errP okP; rw [HN.out]; simp [isMap, q3, q4]; omega)
      rw [q4] at hck
      rw [d3'] at hck x4
      clear q1 q2 q3 q4 d3 d3'
      go_wp2_with (with_reducible refine h_A ?_)
      (with_reducible refine hck.mono ?_)
      rintro e w3 ⟨rfl, hB3⟩
      replace hB2 := hB2.trans (hB3.mono hB2.size)
      go_wp2_with (with_reducible refine h_A ?_)
      go_ret
      exact ⟨by rw [HE.out]; rfl, hB2⟩
     ·have HE : Hid (E = 90) := Lib.hid (by rw [HE0.out]; unfold errP okP; rw [HN.out]; simp [isMap, q4])
      have d4 : (errV p.app != 0) = true := by simpa using q4
      generalize errV p.app = V at *
      rw [d3'] at hck x4
      clear q1 q2 q3 d3 d3'
      go_wp2_with (with_reducible refine h_A ?_)
      (with_reducible refine hck.mono ?_)
      rintro e w3 ⟨rfl, hB3⟩
      replace hB2 := hB2.trans (hB3.mono hB2.size)
      go_wp2_with (with_reducible refine h_A ?_)
      go_ret
      exact ⟨by rw [HE.out]; rfl, hB2⟩
    ·have d3 : ((p.app.kind : Int) != 168) = true := by simp; omega
     have d3' : ¬ (p.app.kind : Int) = 168 := by omega
     have HE : Hid (E = 90) := Lib.hid (by rw [HE0.out]; unfold errP okP; rw [HN.out]; simp [isMap, q3])
     clear q1 q2 q3 hck
     go_wp2_with (with_reducible refine h_A ?_)
     go_ret
     exact ⟨by rw [HE.out]; rfl, hB2⟩
   ·have HE : Hid (E = 0) := Lib.hid (by rw [HE0.out]; simp [errP, okP, ← HNN.out]; omega)
    clear q1 q2 hck
    go_wp2_with (with_reducible refine h_A ?_)
    go_ret
    exact ⟨by rw [HE.out]; rfl, hB2⟩
end Go.PH
end
section
/- The walk of the closure of props' Put: a part behind what there is. -/
namespace Go.PH
open Go.RowKit Go.Proofs

theorem putsText_txt {b s : List UInt8} (h : s.length ≤ 255) (hne : s ≠ []) : putsText b s 1 = b ++ txtP s ∧ textErr s.length 1 = 0 := by
 have e : textErr s.length 1 = 0 := by unfold textErr; rw [if_pos (.inl rfl), if_pos (by show s.length < 256 ^ 1; omega)]
 refine ⟨?_, e⟩
 unfold putsText txtP
 rw [if_pos e, if_neg hne]
 simp [be]
theorem vlP_len (v : Vl) : (vlP v).length ≤ 1000000 := by
 unfold vlP
 split
 ·rename_i h
  obtain ⟨h1, h2⟩ := errV_ok h
  have := vlB_len 200 h2 h1
  omega
 ·simp
set_option maxRecDepth 20000 in
set_option maxHeartbeats 4000000 in
theorem prpart_any (code flags : Nat) (mp : Bool) (s : List UInt8) (p : Pr) (h : VH) (pb ob : Nat) (out : List UInt8) (Ao At : Option Addr) (no co ct : Nat) (w : World) (hT : UTabs w) (hv : RVw w p.app h) (hP : Box w pb 29 (prV p h)) (hO : Box w ob 47 #[.slice Ao no co]) (hr : RdB w w.heap.size Ao no co out) (hno : no ≤ 1000000) (hob : ob ≠ pb)
  (ht : Rd w w.heap.size 1 At 1 ct [.string (str s)]) (hs : s.length ≤ 255) (hf : flags < 65536) (hc : code < 256) (hm : code = 3 ∧ (bits .and .u64 (flags : Int) 2 = (if mp then 2 else 0)) ∨ code ≠ 3 ∧ mp = false) :
  Calls Tryd.prog 14 #[.int .u8 (code : Int), .int .u64 (flags : Int), .slice At 1 ct, .pointer (some ⟨pb, 0, none⟩), .pointer (some ⟨ob, 0, none⟩)] w fun e w' => e = .returned (.tuple #[]) ∧ ∃ (A' : Option Addr) (n' c' : Nat),
   Box w' ob 47 #[.slice A' n' c'] ∧ Own w' w.heap.size 5 1 A' n' c' ((putPart out (partB code flags (txtP s ++ if mp then vlP p.app else []))).map u8v) ∧ KeepF (fun k => k = ob) w w' := by
 obtain ⟨R, hR⟩ : ∃ R, R = putPart out (partB code flags (txtP s ++ if mp then vlP p.app else [])) := ⟨_, rfl⟩
 rw [← hR]
 have HR := Lib.hid hR
 clear hR
 have hOtop := hO.lt
 unfold prV at hP
 have hlit : RdB (w.alloc (.cells #[.int .u8 4, .int .u8 (code : Int)] 5)) (w.alloc (.cells #[.int .u8 4, .int .u8 (code : Int)] 5)).heap.size (some ⟨w.heap.size, 0, none⟩) 2 2 [4, UInt8.ofNat code] := by
  have e : (UInt8.ofNat code).toNat = code := by rw [UInt8.toNat_ofNat']; omega
  have hh := rd_new w #[.int .u8 4, .int .u8 (code : Int)] 5 (0, 0) 2 2 (size := 1) rfl (by omega) (by simp [maxLen])
  have e2 : (#[Value.int .u8 4, .int .u8 (code : Int)]).toList = [4, UInt8.ofNat code].map u8v := by simp [u8v, e]
  rw [e2] at hh
  exact hh
 have hsl := str_size s
 obtain ⟨bt, boff, ut, rfl, hbt, hut, hct⟩ := ht.at_k (k := 0) (by omega)
 obtain rfl : ut = .string (str s) := by simpa using hut.symm
 simp only [Nat.add_zero] at hct
 clear hut ht
 have HT := Lib.hid hT
 have HV := Lib.hid hv
 clear hT hv
 obtain ⟨wa, hwa⟩ : ∃ v, v = w.alloc (.cells #[.int .u8 4, .int .u8 (code : Int)] 5) := ⟨_, rfl⟩
 have hBa : Below w.heap.size w wa := by rw [hwa]; exact (Below.refl w.heap.size w).alloc (Nat.le_refl _) _
 rw [← hwa] at hlit
 have hpt := put_any (some ⟨w.heap.size, 0, none⟩) 2 2 [4, UInt8.ofNat code] flags 2 wa hlit (by omega) (by omega)
 rw [fput2] at hpt
 clear hlit
 go_enter Tryd.func14, Tryd.ntmps14
 go_wp2_with (with_reducible refine h_A ?_)
 rw [← hwa]
 clear hwa
 refine hpt.mono ?_
 rintro e w1 ⟨A1, c1, rfl, hO1, hB1⟩
 replace hB1 : Below w.heap.size w w1 := hBa.trans (hB1.mono hBa.size)
 replace hO1 := hO1.base_le hBa.size
 obtain ⟨H, hH⟩ : ∃ H, H = [4, UInt8.ofNat code] ++ be 2 flags := ⟨_, rfl⟩
 rw [← hH] at hO1 ⊢
 have hHl : H.length = 4 := by rw [hH]; simp [be_length]
 rw [hHl] at hO1 ⊢
 have HH := Lib.hid hH
 have HHl := Lib.hid hHl
 clear hH hHl hpt hBa
 go_wp2_with (with_reducible refine h_A ?_)
 go_loopw [19, 8] (fun s19 s8 wr => ∃ (k m c : Nat) (A : Option Addr) (L : List UInt8), k ≤ 1 ∧ s19 = .int .i64 (k : Int) ∧ s8 = .slice A m c ∧ m ≤ 300 ∧ Hid (L = H ++ if k = 0 then [] else txtP s) ∧ Own wr w.heap.size 5 1 A m c (L.map u8v) ∧ Below w.heap.size w wr) (fun s19 _ _ => 1 - (RowKit.intOf s19).toNat)
 case atStart => exact ⟨0, 4, c1, A1, H, by omega, rfl, rfl, by omega, Lib.hid (by simp), hO1, hB1⟩
 case round =>
  clear hO1 hB1
  obtain ⟨k, m, c, A, L, hk, rfl, rfl, hm3, HL, hO1, hB1⟩ := hrel
  by_cases hlt : k < 1
  ·obtain rfl : k = 0 := by omega
   have hc0 := (hB1.cell (p := ⟨bt, boff, none⟩) hbt).trans hct
   have hnn := OwnB.length hO1
   by_cases hse : s = []
   ·have HL2 : Hid (L = H ++ if 1 = 0 then [] else txtP s) := Lib.hid (by rw [HL.out, hse]; rfl)
    have g1 : ((str s).toList != []) = false := by rw [hse, str_toList]; rfl
    have g2 : (str s).toList.isEmpty = true := by rw [hse, str_toList]; rfl
    clear HL hse
    go_wp2_with (with_reducible refine h_A ?_)
    exact ⟨⟨1, m, c, A, L, by omega, by go_num, rfl, hm3, HL2, hO1, hB1⟩, by simp [RowKit.intOf]⟩
   ·obtain ⟨hp1, hp2⟩ := putsText_txt (b := L) hs hse
    have hpt := puttext_any A m c L s 1 wr hO1.rd (by omega) (by omega)
    rw [hp1, hp2] at hpt
    have htl : (txtP s).length ≤ 256 := by unfold txtP; rw [if_neg hse, List.length_cons]; omega
    have HL2 : Hid (L ++ txtP s = H ++ if 1 = 0 then [] else txtP s) := Lib.hid (by rw [HL.out]; simp)
    have hLl : L.length = 4 := by rw [HL.out]; simp [HHl.out]
    have g1 : ((str s).toList != []) = true := by rw [str_toList]; simpa using hse
    have g2 : (str s).toList.isEmpty = false := by rw [str_toList]; simpa using hse
    obtain ⟨N, hN⟩ : ∃ N, N = (L ++ txtP s).length := ⟨_, rfl⟩
    have hN3 : N ≤ 300 := by rw [hN, List.length_append]; omega
    rw [← hN] at hpt
    clear HL hse hp1 hp2 hN htl hLl
    go_wp2_with (with_reducible refine h_A ?_)
    refine hpt.mono ?_
    rintro e w2 ⟨A2, c2, rfl, hO2, hB2⟩
    replace hB2 := hB1.trans (hB2.mono hB1.size)
    replace hO2 := hO2.base_le hB1.size
    clear hpt
    go_wp2_with (with_reducible refine h_A ?_)
    exact ⟨⟨1, N, c2, A2, L ++ txtP s, by omega, by go_num, rfl, hN3, HL2, hO2, hB2⟩, by simp [RowKit.intOf]⟩
  ·obtain rfl : k = 1 := by omega
   have HL2 : Hid (L = H ++ txtP s) := Lib.hid (by rw [HL.out]; rfl)
   clear HL hct hsl
   have hLl : L.length ≤ 260 := by
    rw [HL2.out, List.length_append, HHl.out]
    unfold txtP
    split
    ·simp
    ·rw [List.length_cons]; omega
   have hmn := OwnB.length hO1
   have hvp := valput_any p.app h wr (HV.out.up hB1) (HT.out.on hB1)
   have hpl := vlP_len p.app
   have hPr := hP.below hB1
   unfold vlV at hvp
   have HPP : ∀ x, Hid (x = txtP s ++ (if mp = true then vlP p.app else [])) → Hid (L = H ++ txtP s) → Hid (R = (out ++ be 4 (H ++ x).length) ++ (H ++ x)) := fun x hx _ => Lib.hid (by rw [HR.out, hx.out, HH.out]; simp [putPart, partB])
   rcases hm with ⟨hc3, hfm⟩ | ⟨hc3, hfm⟩
   ·have d3 : (code : Int) = 3 := by omega
    cases mp
    ·have d2 : (bits .and .u64 (flags : Int) 2 != 0) = false := by rw [hfm]; rfl
     have HX := HPP (txtP s) (Lib.hid (by simp)) HL2
     rw [← HL2.out] at HX
     clear hfm HPP hvp hPr
     have hOx := hO.below hB1
     have x0 := hOx.c0
     have hpo := put_any Ao no co out m 4 _ ((Rd.below hr hB1).more (Below.size hB1)) (by omega) (by omega)
     rw [fput4] at hpo
     have hol := RdB.length hr
     obtain ⟨N, hN⟩ : ∃ N, N = (out ++ be 4 m).length := ⟨_, rfl⟩
     have hNn : N ≤ 1000004 := by rw [hN, List.length_append, be_length]; omega
     rw [← hN] at hpo
     rw [OwnB.length hO1] at HX
     clear hN hO
     go_wp2_with (with_reducible refine h_A ?_)
     refine hpo.mono ?_
     rintro e w5 ⟨A5, c5, rfl, hO5, hB5⟩
     have hB5' := Below.trans hB1 (hB5.mono (Below.size hB1))
     have hOy := hOx.below hB5
     clear hpo x0 hOx
     go_wp2_with (with_reducible refine h_A ?_)
     refine unhold (wp_app slB rfl rfl rfl rfl hO5 (own_below hO1 hB5).rd (map_one _) (by omega) (by simp [maxLen]; omega) hB5.size ?_)
     intro A6 c6 w6 hO6 hg6 hA6
     rw [← List.map_append, ← HX.out] at hO6
     have hOlt := hOy.lt
     have hne5 : ∀ g, blk A5 = some g → g ≠ ob := fun g hg e => by have := (hO5.blk_lt hg).1; have := hOtop; have := Below.size hB1; omega
     have hB6 := hB5'.grown hg6 hB5'.size (fun g hg => by have := (hO5.blk_lt hg).1; have := Below.size hB1; omega)
     have hOz := hOy.grown hg6 (fun e => hne5 _ e.symm rfl)
     have hne6 : ∀ g, blk A6 = some g → g ≠ ob := fun g hg e => by
      rcases hA6 with h | h
      ·exact hne5 g (h.symm.trans hg) e
      ·rw [hg] at h; injection h with h; omega
     have hO6' := hO6.base_le (Below.size hB1)
     clear hO6 hg6 hA6 hO5 hB5 hB5' hOy hne5
     go_wp2_with (with_reducible refine h_B ?_)
     refine unhold (wp_boxAt rfl rfl rfl rfl hOz (j := 0) (v := .slice A6 (N + m) c6) rfl (by kernel_rfl) (by simp) ?_)
     intro w7 hb7 hg7 hz7
     clear hz7
     go_wp2_with (with_reducible refine h_A ?_)
     go_end0
     refine ⟨rfl, A6, N + m, c6, hb7, own_stays hO6' hg7 (fun g hg e => hne6 g hg (by injection e with e; exact e.symm)), (KeepF.below hB6).trans (KeepF.grown (F := fun k => k = ob) hg7 (fun g hg => .inl (by injection hg with hg; exact hg.symm))) (fun k hk => .inl hk)⟩
    ·have d2 : (bits .and .u64 (flags : Int) 2 != 0) = true := by rw [hfm]; rfl
     have x4 := hPr.c4
     have x5 := hPr.c5
     have x6 := hPr.c6
     have x7 := hPr.c7
     have x8 := hPr.c8
     have HX := HPP (txtP s ++ vlP p.app) (Lib.hid (by simp)) HL2
     rw [show H ++ (txtP s ++ vlP p.app) = L ++ vlP p.app by rw [HL2.out, List.append_assoc]] at HX
     generalize vlP p.app = V at *
     clear hfm HPP hPr
     go_wp2_with (with_reducible refine h_A ?_)
     refine hvp.mono ?_
     rintro e w2 ⟨A2, c2, rfl, hO2, hB2⟩
     have hB2' := hB1.trans (hB2.mono hB1.size)
     clear hvp x4 x5 x6 x7 x8
     go_wp2_with (with_reducible refine h_A ?_)
     refine unhold (wp_app slB rfl rfl rfl rfl (own_below hO1 hB2) hO2.rd (map_one _) (by omega) (by simp [maxLen]; omega) hB2'.size ?_)
     intro A3 c3 w3 hO3 hg3 _
     have hB3 := hB2'.grown hg3 hB2'.size (fun g hg => (hO1.blk_lt hg).1)
     rw [← List.map_append] at hO3
     have hLV : (L ++ V).length ≤ 1000260 := by rw [List.length_append]; omega
     have hmn3 := OwnB.length hO3
     generalize L ++ V = L3 at *
     obtain ⟨m3, hm4⟩ : ∃ m3, m3 = m + V.length := ⟨_, rfl⟩
     rw [← hm4] at hO3 hmn3 ⊢
     clear hO1 hO2 hg3 hB2' hB2 hm4 hB1
     have hOx := hO.below hB3
     have x0 := hOx.c0
     have hpo := put_any Ao no co out m3 4 _ ((Rd.below hr hB3).more (Below.size hB3)) (by omega) (by omega)
     rw [fput4] at hpo
     have hol := RdB.length hr
     obtain ⟨N, hN⟩ : ∃ N, N = (out ++ be 4 m3).length := ⟨_, rfl⟩
     have hNn : N ≤ 1000004 := by rw [hN, List.length_append, be_length]; omega
     rw [← hN] at hpo
     rw [OwnB.length hO3] at HX
     clear hN hO
     go_wp2_with (with_reducible refine h_A ?_)
     refine hpo.mono ?_
     rintro e w5 ⟨A5, c5, rfl, hO5, hB5⟩
     have hB5' := Below.trans hB3 (hB5.mono (Below.size hB3))
     have hOy := hOx.below hB5
     clear hpo x0 hOx
     go_wp2_with (with_reducible refine h_A ?_)
     refine unhold (wp_app slB rfl rfl rfl rfl hO5 (own_below hO3 hB5).rd (map_one _) (by omega) (by simp [maxLen]; omega) hB5.size ?_)
     intro A6 c6 w6 hO6 hg6 hA6
     rw [← List.map_append, ← HX.out] at hO6
     have hOlt := hOy.lt
     have hne5 : ∀ g, blk A5 = some g → g ≠ ob := fun g hg e => by have := (hO5.blk_lt hg).1; have := hOtop; have := Below.size hB3; omega
     have hB6 := hB5'.grown hg6 hB5'.size (fun g hg => by have := (hO5.blk_lt hg).1; have := Below.size hB3; omega)
     have hOz := hOy.grown hg6 (fun e => hne5 _ e.symm rfl)
     have hne6 : ∀ g, blk A6 = some g → g ≠ ob := fun g hg e => by
      rcases hA6 with h | h
      ·exact hne5 g (h.symm.trans hg) e
      ·rw [hg] at h; injection h with h; omega
     have hO6' := hO6.base_le (Below.size hB3)
     clear hO6 hg6 hA6 hO5 hB5 hB5' hOy hne5
     go_wp2_with (with_reducible refine h_B ?_)
     refine unhold (wp_boxAt rfl rfl rfl rfl hOz (j := 0) (v := .slice A6 (N + m3) c6) rfl (by kernel_rfl) (by simp) ?_)
     intro w7 hb7 hg7 hz7
     clear hz7
     go_wp2_with (with_reducible refine h_A ?_)
     go_end0
     refine ⟨rfl, A6, N + m3, c6, hb7, own_stays hO6' hg7 (fun g hg e => hne6 g hg (by injection e with e; exact e.symm)), (KeepF.below hB6).trans (KeepF.grown (F := fun k => k = ob) hg7 (fun g hg => .inl (by injection hg with hg; exact hg.symm))) (fun k hk => .inl hk)⟩
   ·have d3 : ¬ (code : Int) = 3 := by omega
    subst hfm
    have HX := HPP (txtP s) (Lib.hid (by simp)) HL2
    rw [← HL2.out] at HX
    clear HPP hvp hPr
    have hOx := hO.below hB1
    have x0 := hOx.c0
    have hpo := put_any Ao no co out m 4 _ ((Rd.below hr hB1).more (Below.size hB1)) (by omega) (by omega)
    rw [fput4] at hpo
    have hol := RdB.length hr
    obtain ⟨N, hN⟩ : ∃ N, N = (out ++ be 4 m).length := ⟨_, rfl⟩
    have hNn : N ≤ 1000004 := by rw [hN, List.length_append, be_length]; omega
    rw [← hN] at hpo
    rw [OwnB.length hO1] at HX
    clear hN hO
    go_wp2_with (with_reducible refine h_A ?_)
    refine hpo.mono ?_
    rintro e w5 ⟨A5, c5, rfl, hO5, hB5⟩
    have hB5' := Below.trans hB1 (hB5.mono (Below.size hB1))
    have hOy := hOx.below hB5
    clear hpo x0 hOx
    go_wp2_with (with_reducible refine h_A ?_)
    refine unhold (wp_app slB rfl rfl rfl rfl hO5 (own_below hO1 hB5).rd (map_one _) (by omega) (by simp [maxLen]; omega) hB5.size ?_)
    intro A6 c6 w6 hO6 hg6 hA6
    rw [← List.map_append, ← HX.out] at hO6
    have hOlt := hOy.lt
    have hne5 : ∀ g, blk A5 = some g → g ≠ ob := fun g hg e => by have := (hO5.blk_lt hg).1; have := hOtop; have := Below.size hB1; omega
    have hB6 := hB5'.grown hg6 hB5'.size (fun g hg => by have := (hO5.blk_lt hg).1; have := Below.size hB1; omega)
    have hOz := hOy.grown hg6 (fun e => hne5 _ e.symm rfl)
    have hne6 : ∀ g, blk A6 = some g → g ≠ ob := fun g hg e => by
     rcases hA6 with h | h
     ·exact hne5 g (h.symm.trans hg) e
     ·rw [hg] at h; injection h with h; omega
    have hO6' := hO6.base_le (Below.size hB1)
    clear hO6 hg6 hA6 hO5 hB5 hB5' hOy hne5
    go_wp2_with (with_reducible refine h_B ?_)
    refine unhold (wp_boxAt rfl rfl rfl rfl hOz (j := 0) (v := .slice A6 (N + m) c6) rfl (by kernel_rfl) (by simp) ?_)
    intro w7 hb7 hg7 hz7
    clear hz7
    go_wp2_with (with_reducible refine h_A ?_)
    go_end0
    refine ⟨rfl, A6, N + m, c6, hb7, own_stays hO6' hg7 (fun g hg e => hne6 g hg (by injection e with e; exact e.symm)), (KeepF.below hB6).trans (KeepF.grown (F := fun k => k = ob) hg7 (fun g hg => .inl (by injection hg with hg; exact hg.symm))) (fun k hk => .inl hk)⟩
end Go.PH
end

/- Texts laid together: LkRef, LkUp. -/
import Derived.Test.YtfbkameikhgciaaGreatDoorMg08
import Derived.Test.YtfbkameikhgciaaGreatDoorMg10
import Derived.Test.YtfbkameikhgciaaGreatDoorMg13
import Derived.Test.YtfbkameikhgciaaGreatDoorMg29
import Derived.Test.YtfbkameikhgciaaGreatDoorMg36
set_option linter.all false
set_option linter.unusedSimpArgs false
set_option linter.unusedVariables false
section
/- The walks of the document's New, Arg, Bytes and Control of links. -/
namespace Go.PH
open Go.RowKit Go.Proofs

set_option maxRecDepth 20000 in
theorem rarg22_any (n : Nat) (s : List UInt8) (w : World) :
  Calls Tryz.prog 30 #[.int .u64 (n : Int), .string (str s)] w fun e w' => e = .returned (.agg #[.bool true, .int .u64 (n : Int), .string (str s), .int .u32 0, .string ⟨#[]⟩, .string ⟨#[]⟩, .slice none 0 0, .int .u8 0, .int .u64 0, .string ⟨#[]⟩, .slice none 0 0, .slice none 0 0]) ∧ Below w.heap.size w w' := by
 obtain ⟨rb, w0, hqb, hqv, hr, hB0⟩ := alloc_stepG w #[.bool false, .int .u64 0, .string ⟨#[]⟩, .int .u32 0, .string ⟨#[]⟩, .string ⟨#[]⟩, .slice none 0 0, .int .u8 0, .int .u64 0, .string ⟨#[]⟩, .slice none 0 0, .slice none 0 0] 80
 have hrw : w.heap.size ≤ rb := by omega
 go_enter Tryz.func30, Tryz.ntmps30
 go_wp2_with (with_reducible refine h_B ?_)
 rw [← hqb, ← hqv]
 clear hqb hqv
 refine unhold (wp_box (v := .agg #[.bool true, .int .u64 (n : Int), .string (str s), .int .u32 0, .string ⟨#[]⟩, .string ⟨#[]⟩, .slice none 0 0, .int .u8 0, .int .u64 0, .string ⟨#[]⟩, .slice none 0 0, .slice none 0 0]) (vs := [.bool true, .int .u64 (n : Int), .string (str s), .int .u32 0, .string ⟨#[]⟩, .string ⟨#[]⟩, .slice none 0 0, .int .u8 0, .int .u64 0, .string ⟨#[]⟩, .slice none 0 0, .slice none 0 0]) rfl rfl rfl rfl hr rfl (by kernel_rfl) (by simp) (by simp [Value.oneCell']) #[.bool true, .int .u64 (n : Int), .string (str s), .int .u32 0, .string ⟨#[]⟩, .string ⟨#[]⟩, .slice none 0 0, .int .u8 0, .int .u64 0, .string ⟨#[]⟩, .slice none 0 0, .slice none 0 0] (by simp) ?_)
 intro w1 hr1 hg1 hz1
 clear hz1
 have hB1 : Below w.heap.size w w1 := hB0.grown hg1 hB0.size (fun g hg => by injection hg with hg; omega)
 go_wp2_with (with_reducible refine h_B ?_)
 exact ret_box1v rfl hr1 rfl Tryz.underlying80 rfl (by kernel_rfl) rfl ⟨rfl, hB1⟩
/-- a new link of the document, in cells -/
def rlk0 (gp : Nat) : Array Value := #[.int .i64 0, .string ⟨#[]⟩, .pointer (some ⟨gp, 0, none⟩), .int .u64 255, .int .u64 4096, .string ⟨#[]⟩, .slice none 0 0]
set_option maxRecDepth 20000 in
theorem rlnew_any (w : World) : Calls Tryz.prog 11 #[] w fun e w' => e = .returned (.pointer (some ⟨w.heap.size + 1, 0, none⟩)) ∧ Box w' w.heap.size 67 #[.slice none 0 0, .bool false] ∧ Box w' (w.heap.size + 1) 38 (rlk0 w.heap.size) ∧ Below w.heap.size w w' ∧ w'.heap.size = w.heap.size + 2 := by
 go_enter Tryz.func11, Tryz.ntmps11
 go_wp2_with (with_reducible refine h_A ?_)
 go_ret
 have hb1 := Box.new w #[.slice none 0 0, .bool false] 67
 have hs1 : (w.alloc (.cells #[.slice none 0 0, .bool false] 67)).heap.size = w.heap.size + 1 := by simp
 have hb2 := Box.new (w.alloc (.cells #[.slice none 0 0, .bool false] 67)) (rlk0 w.heap.size) 38
 rw [hs1] at hb2
 have hB1 := (Below.refl w.heap.size w).alloc (Nat.le_refl _) (.cells #[.slice none 0 0, .bool false] 67)
 exact ⟨rfl, hb1.alloc _, hb2, hB1.alloc hB1.size _, by simp⟩
set_option maxRecDepth 20000 in
set_option maxHeartbeats 4000000 in
theorem rlbytes_any (lb sz : Nat) (a : As) (A : Option Addr) (n c : Nat) (w : World) (h4 : w.cell? ⟨lb, 4, none⟩ = some (.int .u64 (sz : Int))) (hsz : sz ≤ 1000000) (hr : RdG w w.heap.size A n c a.segs) (hw : a.wf) (hs : ∀ s ∈ a.segs, s.load.length ≤ 140737488351232) (hn : n ≤ 140737488351232) :
  Calls Tryz.prog 32 #[.pointer (some ⟨lb, 0, none⟩), .agg (asV a.chan a.track A n c)] w fun e w' => e = .returned (.tuple #[.string (str (asBytes ((sz : Int) - 12) a)), .int .i64 (cutErr ((sz : Int) - 12) a : Int)]) ∧ Below w.heap.size w w' := by
 obtain ⟨xb, w0, hqb, hqv, hX, hB0⟩ := alloc_stepG w (asV a.chan a.track A n c) 42
 have hct := fun (W : World) (h : Below w.heap.size w W) => rgcut_any a ((sz : Int) - 12) A n c w.heap.size W (hr.below h) h.size hw hs hn
 have hlw : lb < w.heap.size := World.block_lt_of_cell? _ _ h4
 have HWF := Lib.hid (cutF_wf (most := (sz : Int) - 12) hw)
 have hfl := cutF_len ((sz : Int) - 12) a
 obtain ⟨E, hE⟩ : ∃ E, E = cutErr ((sz : Int) - 12) a := ⟨_, rfl⟩
 obtain ⟨FS, hFS⟩ : ∃ E, E = cutF ((sz : Int) - 12) a := ⟨_, rfl⟩
 unfold asBytes
 rw [← hE, ← hFS]
 rw [← hFS] at HWF hfl
 rw [← hE, ← hFS] at hct
 clear hE hFS hr hw hs hn
 unfold asV at *
 go_enter Tryz.func32, Tryz.ntmps32
 go_upto_region 1 with fail
 rw [← hqb, ← hqv]
 clear hqb hqv
 refine rg_start (fun W : World => Box W xb 42 #[.int .u16 (a.chan : Int), .int .u8 (a.track : Int), .slice A n c] ∧ W.cell? ⟨lb, 4, none⟩ = some (.int .u64 (sz : Int))) (by kernel_rfl) ?_
 have hS : Box w0.drew xb 42 #[.int .u16 (a.chan : Int), .int .u8 (a.track : Int), .slice A n c] ∧ w0.drew.cell? ⟨lb, 4, none⟩ = some (.int .u64 (sz : Int)) := ⟨hX, (hB0.cell (p := ⟨lb, 4, none⟩) hlw).trans h4⟩
 have hB1 : Below w.heap.size w w0.drew := below_drewN hB0 1
 have hc1 := hct w0.drew hB1
 clear hX hB0 h4 hct
 generalize w0.drew = wd at *
 refine rg_take 0 (v := ?_) rfl (by kernel_rfl) (by kernel_rfl) (by kernel_rfl) hS rfl ?_ ?_
 rotate_left
 ·intro wS hSw; have k := hSw.1; have q0 := k.cell (j := 0) rfl; have q1 := k.cell (j := 1) rfl; have q2 := k.cell (j := 2) rfl; go_simp; (with_reducible rfl)
 simp only [List.getElem_toArray, List.getElem_cons_zero, Act.put, List.setIfInBounds_toArray, List.set_cons_zero, List.set_cons_succ]
 refine rg_t 1 hS ?_
 simp only [g_S, Act.put]
 refine rg_t 2 hS ?_
 simp only [g_S, Act.put]
 refine rg_t 3 hS ?_
 simp only [g_S, Act.put]
 refine rg_take 4 (v := ?_) rfl (by kernel_rfl) (by kernel_rfl) (by kernel_rfl) hS rfl ?_ ?_
 rotate_left
 ·intro wS hSw; have k := hSw.2; go_simp; (with_reducible rfl)
 simp only [g_S, Act.put]
 refine rg_t 5 hS ?_
 simp only [g_S, Act.put]
 refine rg_t 6 hS ?_
 simp only [g_S, Act.put]
 have hw1 : IntKind.i64.wrap (sz : Int) = (sz : Int) := IntWalk.i64_in _ ⟨by omega, by omega⟩
 have hw2 : IntKind.i64.wrap ((sz : Int) - 12) = (sz : Int) - 12 := IntWalk.i64_in _ ⟨by omega, by omega⟩
 rw [hw1, hw2]
 clear hw1 hw2
 refine rg_one 7 rfl (by kernel_rfl) rfl (fun K hK => ?_)
 go_simp
 (with_reducible refine hc1.mono ?_)
 rintro e w1 ⟨A1, c1, rfl, hO1, hB12⟩
 have hB2 := hB1.trans (hB12.mono hB1.size)
 refine hK _ _ ⟨hS.1.below hB12, (hB12.cell (p := ⟨lb, 4, none⟩) (World.block_lt_of_cell? _ _ hS.2)).trans hS.2⟩ ?_
 have hX1 := hS.1.below hB12
 have hS1 := (hB12.cell (p := ⟨lb, 4, none⟩) (World.block_lt_of_cell? _ _ hS.2)).trans hS.2
 have hOz : OwnF w1 wd.heap.size A1 FS.length c1 FS := hO1
 clear hK K hc1 hS hB12 hO1
 try simp only [g_S, Act.put]
 have hS2 := And.intro hX1 hS1
 refine rg_t 8 hS2 ?_
 simp only [g_S, Act.put]
 refine rg_t 9 hS2 ?_
 simp only [g_S, Act.put]
 refine rg_t 10 hS2 ?_
 simp only [g_S, Act.put]
 refine rg_t 11 hS2 ?_
 simp only [g_S, Act.put]
 refine rg_t 12 hS2 ?_
 simp only [g_S, Act.put]
 refine rg_end (by kernel_rfl) ?_
 clear hS1 hX1 hS2
 obtain ⟨N, hN⟩ : ∃ N, N = FS.length := ⟨_, rfl⟩
 rw [← hN] at hOz hfl ⊢
 have HN := Lib.hid hN
 clear hN
 go_wp2_with (with_reducible refine h_A ?_)
 go_loopw [8, 9] (fun s8 s9 wr => ∃ (i : Nat) (out : List UInt8), i ≤ N ∧ s8 = .string (str out) ∧ s9 = .int .i64 (i : Int) ∧ Hid (out = putAll (FS.take i)) ∧ out.length ≤ 4096 * i ∧ Below w1.heap.size w1 wr) (fun _ s9 _ => N - (RowKit.intOf s9).toNat)
 case atStart => exact ⟨0, [], by omega, rfl, rfl, Lib.hid rfl, by simp, Below.refl _ _⟩
 case round =>
  obtain ⟨i, out, hi, rfl, rfl, HO, hol, hBr⟩ := hrel
  by_cases hlt : i < N
  ·have g1 : (i : Int) < (N : Int) := by omega
   obtain ⟨b, off, rfl, hbB, hkl, hcl⟩ := rec_at frShape (hOz.rd.below hBr) hlt
   have k0 : wr.cell? ⟨b, off + i * 8, none⟩ = _ := hcl 0 _ rfl
   have k1 := hcl 1 _ rfl
   have k2 := hcl 2 _ rfl
   have k3 := hcl 3 _ rfl
   have k4 := hcl 4 _ rfl
   have k5 := hcl 5 _ rfl
   have k6 := hcl 6 _ rfl
   have k7 := hcl 7 _ rfl
   have hwf := HWF.out _ (List.getElem_mem hkl)
   have HP : Hid (putAll (FS.take (i + 1)) = out ++ FS[i].put) := Lib.hid (by rw [putAll_take hkl, HO.out])
   have hpl := put_len FS[i]
   clear hcl
   generalize FS[i] = f at *
   have hpt := rfput_any f wr hwf.1 (by omega)
   unfold frV at hpt
   go_wp2_with (with_reducible refine h_A ?_)
   (with_reducible refine hpt.mono ?_)
   rintro e w3 ⟨A3, c3, rfl, hO3, hB3⟩
   have hBr3 := hBr.trans (hB3.mono hBr.size)
   have hcv := run_str (P := Tryz.prog) Tryz.underlying55 Tryz.underlying9 Tryz.underlying5 hO3.rd
   have hs1 := str_size out
   have hs2 := str_size f.put
   clear hpt k0 k1 k2 k3 k4 k5 k6 k7
   go_wp2_with (with_reducible refine h_A ?_)
   exact ⟨⟨i + 1, out ++ f.put, by omega, by first | rfl | (rw [str_app]), by go_num, Lib.hid HP.out.symm, by rw [List.length_append]; omega, hBr3⟩, by simp [RowKit.intOf]; omega⟩
  ·have g1 : ¬ (i : Int) < (N : Int) := by omega
   have HE : Hid (out = putAll FS) := Lib.hid (by rw [HO.out, List.take_of_length_le (by have := HN.out; omega)])
   go_wp2_with (with_reducible refine h_A ?_)
   go_ret2
   rw [← HE.out]
   exact ⟨rfl, hB2.trans (hBr.mono hB2.size)⟩
set_option maxRecDepth 20000 in
theorem rlctl_any (code : Nat) (L : List SA) (bs : List UInt8) (hctl : RCtlC code L bs) (hbs : bs.length ≤ 10000) (lb sz : Nat) (A : Option Addr) (n c : Nat) (w : World) (hr : Rd w w.heap.size 12 A n c (rowC saC L)) (h4 : w.cell? ⟨lb, 4, none⟩ = some (.int .u64 (sz : Int))) (hsz : sz ≤ 1000000) :
  Calls Tryz.prog 29 #[.pointer (some ⟨lb, 0, none⟩), .int .u8 (code : Int), .slice A n c] w fun e w' => e = .returned (.string (str (ctlB sz bs))) ∧ Below w.heap.size w w' := by
 have hpt := hctl A n c w hr
 have hlw : lb < w.heap.size := World.block_lt_of_cell? _ _ h4
 clear hctl hr
 go_enter Tryz.func29, Tryz.ntmps29
 go_wp2_with (with_reducible refine h_A ?_)
 refine hpt.mono ?_
 rintro e w1 ⟨A1, c1, rfl, hO1, hB1⟩
 have hcv := run_str (P := Tryz.prog) Tryz.underlying55 Tryz.underlying9 Tryz.underlying5 hO1.rd
 obtain ⟨gb, w2, hqb, hqv, hG, hB12⟩ := alloc_stepG w1 #[.int .u8 0, .string (str bs)] 84
 have hlit := own_lit (w := w1) w1.heap.size #[.int .u8 0, .string (str bs)] 84 1 (Nat.le_refl _) (by simp [maxLen]) (size := 2) rfl (by omega)
 rw [← hqv, ← hqb] at hlit
 have hrg : RdG w2 w2.heap.size (some ⟨gb, 0, none⟩) 1 1 [⟨0, bs⟩] := hlit.rd
 have hB2 : Below w.heap.size w w2 := hB1.trans (hB12.mono hB1.size)
 have hbt := rlbytes_any lb sz ⟨0, 0, [⟨0, bs⟩]⟩ (some ⟨gb, 0, none⟩) 1 1 w2 ((hB2.cell (p := ⟨lb, 4, none⟩) hlw).trans h4) hsz hrg ⟨by simp, by simp, by simp⟩ (by simp; omega) (by omega)
 clear hpt hlit hrg hG hB12 h4
 unfold asV at hbt
 simp only at hbt
 rw [show (((0 : Nat)) : Int) = 0 from rfl] at hbt
 go_wp2_with (with_reducible refine h_A ?_)
 rw [← hqb, ← hqv]
 clear hqb hqv
 (with_reducible refine hbt.mono ?_)
 rintro e w3 ⟨rfl, hB3⟩
 clear hbt hcv
 go_wp2_with (with_reducible refine h_A ?_)
 go_ret
 exact ⟨rfl, hB2.trans (hB3.mono hB2.size)⟩
end Go.PH
end
section
/- The walks of a link's Send, and of the law's up. -/
namespace Go.PH
open Go.RowKit Go.Proofs

/-- what Send answers -/
def LS.sendA (L : LS) (a : As) : List UInt8 × Nat := if L.st ≠ 4 then ([], 9) else if a.chan = 0 ∨ L.ch < a.chan then ([], 2) else (asBytes ((L.sz : Int) - 12) a, cutErr ((L.sz : Int) - 12) a)
set_option maxRecDepth 20000 in
set_option maxHeartbeats 1000000 in
theorem lsendA_any (L : LS) (lb gp : Nat) (a : As) (A : Option Addr) (n c : Nat) (w : World) (c0 : w.cell? ⟨lb, 0, none⟩ = some (.int .u8 (L.st : Int))) (c2 : w.cell? ⟨lb, 2, none⟩ = some (.pointer (some ⟨gp, 0, none⟩))) (c3 : w.cell? ⟨lb, 3, none⟩ = some (.int .u64 (L.ch : Int))) (c4 : w.cell? ⟨lb, 4, none⟩ = some (.int .u64 (L.sz : Int)))
  (hst : L.st < 256) (hsz : L.sz ≤ 1000000) (hr : RdG w w.heap.size A n c a.segs) (hw : a.wf) (hs : ∀ s ∈ a.segs, s.load.length ≤ 140737488351232) (hn : n ≤ 140737488351232) :
  Calls Tryz.prog 17 #[.pointer (some ⟨lb, 0, none⟩), .agg (asV a.chan a.track A n c)] w fun e w' => e = .returned (.tuple #[.string (str (L.sendA a).1), .int .i64 ((L.sendA a).2 : Int)]) ∧ Below w.heap.size w w' := by
 obtain ⟨xb, w0, hqb, hqv, hX, hB0⟩ := alloc_stepG w (asV a.chan a.track A n c) 42
 have hlw : lb < w.heap.size := World.block_lt_of_cell? _ _ c0
 have hcw := hw.1
 have k0 := (hB0.cell (p := ⟨lb, 0, none⟩) hlw).trans c0
 have k2 := (hB0.cell (p := ⟨lb, 2, none⟩) hlw).trans c2
 have k3 := (hB0.cell (p := ⟨lb, 3, none⟩) hlw).trans c3
 have k4 := (hB0.cell (p := ⟨lb, 4, none⟩) hlw).trans c4
 have hbt := fun (W : World) (h : Below w.heap.size w W) => lbytes_any lb L.sz a A n c W ((h.cell (p := ⟨lb, 4, none⟩) hlw).trans c4) hsz ((hr.below h).more h.size) hw hs hn
 clear c0 c2 c3 c4
 unfold asV at *
 have x0 := hX.c0
 have x1 := hX.c1
 have x2 := hX.c2
 have hBn := hB0
 obtain ⟨R, hR⟩ : ∃ R, R = L.sendA a := ⟨_, rfl⟩
 rw [← hR]
 have HR0 := Lib.hid hR
 clear hR
 go_enter Tryz.func17, Tryz.ntmps17
 go_upto_region 1 with fail
 rw [← hqb, ← hqv]
 clear hqb hqv
 by_cases q0 : L.st = 4
 ·have d0 : ((L.st : Int) != 4) = false := by rw [q0]; rfl
  by_cases q1 : a.chan = 0
  ·have HR : Hid (R = ([], 2)) := Lib.hid (by rw [HR0.out]; unfold LS.sendA; rw [if_neg (by omega), if_pos (.inl q1)])
   have d1 : ((a.chan : Int) == 0) = true := by rw [q1]; rfl
   rw [q0] at k0
   rw [show ((4 : Nat) : Int) = 4 from rfl] at k0
   rw [q1] at x0
   rw [show ((0 : Nat) : Int) = 0 from rfl] at x0
   clear q0 q1 d0 d1 hbt
   go_upto_region 5 with fail
   try simp only [Act.put]
   go_quiet (fail)
   have hBn := below_drewN hB0 nq
   go_wp2_with (with_reducible refine h_A ?_)
   go_ret2
   exact ⟨by rw [HR.out]; rfl, hBn⟩
  ·have d1 : ((a.chan : Int) == 0) = false := by simp; omega
   rw [q0] at k0
   rw [show ((4 : Nat) : Int) = 4 from rfl] at k0
   by_cases q2 : L.ch < a.chan
   ·have HR : Hid (R = ([], 2)) := Lib.hid (by rw [HR0.out]; unfold LS.sendA; rw [if_neg (by omega), if_pos (.inr q2)])
    have d2 : (L.ch : Int) < (a.chan : Int) := by omega
    clear q0 q1 q2 d0 hbt
    go_upto_region 5 with fail
    try simp only [Act.put]
    go_quiet (fail)
    have hBn := below_drewN hB0 nq
    go_wp2_with (with_reducible refine h_A ?_)
    go_ret2
    exact ⟨by rw [HR.out]; rfl, hBn⟩
   ·have HR : Hid (R = (asBytes ((L.sz : Int) - 12) a, cutErr ((L.sz : Int) - 12) a)) := Lib.hid (by rw [HR0.out]; unfold LS.sendA; rw [if_neg (by omega), if_neg (by omega)])
    have d2 : decide ((L.ch : Int) < (a.chan : Int)) = false := by simp; omega
    have d3 : ¬ (L.ch : Int) < (a.chan : Int) := by omega
    clear q0 q1 q2 d0
    go_upto_region 5 with fail
    try simp only [Act.put]
    go_quiet (fail)
    have hBn := below_drewN hB0 nq
    have hXn := hX.below (below_drewN (Below.refl _ _) nq)
    have hb2 := hbt _ hBn
    clear x0 x1 x2 hbt
    have x0 := hXn.c0
    have x1 := hXn.c1
    have x2 := hXn.c2
    go_wp2_with (with_reducible refine h_A ?_)
    (with_reducible refine hb2.mono ?_)
    rintro e w2 ⟨rfl, hB2⟩
    clear hb2
    go_wp2_with (with_reducible refine h_A ?_)
    go_ret2
    exact ⟨by rw [HR.out]; rfl, hBn.trans (hB2.mono hBn.size)⟩
 ·have HR : Hid (R = ([], 9)) := Lib.hid (by rw [HR0.out]; unfold LS.sendA; rw [if_pos q0])
  have d0 : ¬ (L.st : Int) = 4 := by omega
  clear q0 hbt
  go_wp2_with (with_reducible refine h_A ?_)
  go_ret2
  exact ⟨by rw [HR.out]; rfl, hBn⟩
/-- the controls that agree on a link -/
def b2 : List UInt8 := putM ⟨1, 2, false, [agOf ⟨true, 0, []⟩]⟩
def b6 (size : Nat) : List UInt8 := putM ⟨1, 6, false, [agOf ⟨true, 255, []⟩, agOf ⟨true, size, []⟩]⟩
def b7 : List UInt8 := putM ⟨1, 7, false, [agOf ⟨true, 0, [47]⟩]⟩
theorem good2 : goodM ⟨1, 2, false, [agOf ⟨true, 0, []⟩]⟩ = true := by
 have h : sameA (agOf ⟨true, 0, []⟩) (agS (agOf ⟨true, 0, []⟩)) = true := (sameA_iff _ _).2 rfl
 have hk : kindsM ⟨1, 2, false, [agOf ⟨true, 0, []⟩]⟩ = [116] := by decide
 unfold goodM formM okI
 rw [hk]
 simp [List.range, List.range.loop, okA, h]
 decide
theorem good6 (size : Nat) (h2 : size ≤ 4096) : goodM ⟨1, 6, false, [agOf ⟨true, 255, []⟩, agOf ⟨true, size, []⟩]⟩ = true := by
 have h : ∀ n, sameA (agOf ⟨true, n, []⟩) (agN (agOf ⟨true, n, []⟩)) = true := fun n => (sameA_iff _ _).2 rfl
 have hk : kindsM ⟨1, 6, false, [agOf ⟨true, 255, []⟩, agOf ⟨true, size, []⟩]⟩ = [119, 119] := by
  show kindsO (findM 1 6) = _
  decide
 unfold goodM formM okI
 rw [hk]
 simp [List.range, List.range.loop, okA, h]
 exact ⟨by decide, by show (255 : Nat) < 65536; omega, by show size < 65536; omega⟩
theorem good7 : goodM ⟨1, 7, false, [agOf ⟨true, 0, [47]⟩]⟩ = true := by
 have h : sameA (agOf ⟨true, 0, [47]⟩) (agS (agOf ⟨true, 0, [47]⟩)) = true := (sameA_iff _ _).2 rfl
 have hk : kindsM ⟨1, 7, false, [agOf ⟨true, 0, [47]⟩]⟩ = [115] := by decide
 unfold goodM formM okI
 rw [hk]
 simp [List.range, List.range.loop, okA, h]
 decide
theorem pre_up {L : LS} (h : L.st ≠ 0) (b s : List UInt8) : L.pre b s = ({ L with sent := [], told := [] }, b ++ s) := by
 unfold LS.pre
 rw [if_neg h]
/-- one control comes -/
theorem up_feed {bs : List UInt8} {m : Mt} (hgc : GetC bs m 0) (hlen : m.args.length = (kindsO (findM m.cls m.code)).length) {w : World} {B : Nat} {V : Nat → Prop} {lb n : Nat} {L : LS} (h : LkI w B V lb n [] L) (he : MEnv w) (hgl : 0 < B) (h0 : L.st ≠ 0) (h5 : L.st ≠ 5) (hst : L.st < 256) (hs1 : 256 ≤ L.sz) (hsz : L.sz ≤ 4096) (hch : L.ch ≤ 255) (hg : L.g.calm) (hi : L.g.Inv) (hb : bs.length ≤ 200) (hn : n ≤ 100) :
  Calls Tryz.prog 12 #[.pointer (some ⟨lb, 0, none⟩), .string (str (ctlB 4096 bs))] w fun e w' => ∃ (V' : Nat → Prop) (g' : GS) (x y : Value), e = .returned (.tuple #[x, y]) ∧ g'.calm ∧ g'.Inv ∧ LkI w' B V' lb (n + 1) [] (LS.ctlM { L with g := g', sent := [], told := [] } ⟨0, 0, [⟨0, bs⟩]⟩ m 0) ∧ KeepF V w w' ∧ (∀ k, V' k → V k ∨ w.heap.size ≤ k) := by
 obtain ⟨g', hc, hgi, hF⟩ := feed_ctl (fun M a => M.ctlM a m 0) h0 h5 (bs := bs) (by omega) (by omega) hsz hg
 have hp := pre_up h0 [] (ctlB 4096 bs)
 rw [List.nil_append] at hp
 have hsc := scan_ctl (bs := bs) (by omega)
 have hbl := ctlB_len 4096 bs
 have hok := ctlFr_ok bs (by omega)
 have hfd := lfeed_any (fun M a => M.ctlM a m 0) (LB 0 1) (ctlB 4096 bs) [] h he hgl (by omega) (by simp) (by omega) hst
  (by rw [hp, hsc]; simp; omega) (fun k M hM => hM.st) (fun k M hM => hM.bounds (by omega) (by omega))
  (fun k M f hk hf hM => by
   rw [hp, hsc] at hk hf
   rw [List.mem_singleton.1 hf]
   exact hM.take (by simpa using hk) hok.2 _ (fun M a hM => hM.ctlM (by simpa using hk) a m 0))
  (fun _ _ => by rw [hp]; exact ⟨by omega, hi, hsz, hch, h0, hst, by simp, by simp⟩)
  (fun f hf => by
   rw [hp, hsc] at hf
   rw [List.mem_singleton.1 hf]
   exact ⟨hok.2, by show bs.length ≤ _; omega⟩)
  (fun k M f a A c W U' T' m' RA' rn' rc' hf hM hout hac hLM hG hT hE => by
   rw [hp, hsc] at hf
   obtain rfl := List.mem_singleton.1 hf
   obtain rfl := out_first hout rfl rfl
   have hbd := hM.bounds (by omega) (by omega)
   exact lcontrol_any _ ⟨0, bs⟩ [] rfl m 0 hgc (fun _ => hlen) A c hLM hG (by show bs.length ≤ _; omega) hE hM.st' hbd.2.1 hbd.2.2.2.1)
 rw [hp, hsc] at hfd
 rw [hF] at hfd
 refine hfd.mono ?_
 rintro e w' ⟨V', TT, tc, th, rfl, hI, hK, hV, _⟩
 exact ⟨V', g', _, _, rfl, hc, hgi hi, hI, hK, hV⟩
/-- a header comes -/
theorem up_hdr {w : World} {B : Nat} {V : Nat → Prop} {lb n : Nat} {L : LS} (h : LkI w B V lb n [] L) (he : MEnv w) (hgl : 0 < B) (h0 : L.st = 0) (hsz : L.sz ≤ 4096) (hch : L.ch ≤ 255) (hi : L.g.Inv) (hn : n ≤ 100) :
  Calls Tryz.prog 12 #[.pointer (some ⟨lb, 0, none⟩), .string (str hdrB)] w fun e w' => ∃ (V' : Nat → Prop) (x y : Value) (S : List UInt8), e = .returned (.tuple #[x, y]) ∧ LkI w' B V' lb n [] { L with st := 1, sent := S, told := [] } ∧ KeepF V w w' ∧ (∀ k, V' k → V k ∨ w.heap.size ≤ k) := by
 have hp : L.pre [] hdrB = ({ L with st := 1, sent := [] ++ hdrB ++ ctlB L.sz startB, told := [] }, []) := by
  unfold LS.pre
  rw [if_pos h0]
  rfl
 have hF : L.feed (fun M _ => M) [] hdrB = ({ L with st := 1, sent := [] ++ hdrB ++ ctlB L.sz startB, told := [] }, []) := by
  unfold LS.feed
  rw [if_neg (by omega), hp]
  unfold LS.post
  rw [if_neg (by simp)]
  simp only [frScan_nil]
  rfl
 have hbl := ctlB_len L.sz startB
 have hfd := lfeed_any (fun M _ => M) (LB 1000 0) hdrB [] h he hgl (by omega) (by simp) (by decide) (by omega)
  (by rw [hp, frScan_nil]; simp; omega) (fun k M hM => hM.st) (fun k M hM => hM.bounds (by omega) (by omega))
  (fun k M f hk hf hM => by rw [hp, frScan_nil] at hf; cases hf)
  (fun _ _ => by
   rw [hp]
   refine ⟨by omega, hi, hsz, hch, by simp, by simp, ?_, by simp⟩
   have e1 : hdrB.length = 8 := rfl
   have e2 : startB.length = 15 := rfl
   simp only [List.length_append, List.nil_append]
   omega)
  (fun f hf => by rw [hp, frScan_nil] at hf; cases hf)
  (fun k M f a A c W U' T' m' RA' rn' rc' hf => by rw [hp, frScan_nil] at hf; cases hf)
 rw [hp, frScan_nil] at hfd
 rw [hF] at hfd
 refine hfd.mono ?_
 rintro e w' ⟨V', TT, tc, th, rfl, hI, hK, hV, _⟩
 exact ⟨V', _, _, _, rfl, hI, hK, hV⟩
theorem b2_len : b2.length ≤ 200 := by
 have e : b2 = [1, 2, 0, 1, 0, 0] := by
  unfold b2 putM
  rw [if_pos good2]
  rfl
 rw [e]; decide
theorem b7_len : b7.length ≤ 200 := by
 have e : b7 = [1, 7, 0, 1, 1, 47] := by
  unfold b7 putM
  rw [if_pos good7]
  rfl
 rw [e]; decide
theorem b6_len (size : Nat) (h : size ≤ 4096) : (b6 size).length ≤ 200 := by
 unfold b6 putM
 rw [if_pos (good6 size h)]
 have e0 : byI ⟨1, 6, false, [agOf ⟨true, 255, []⟩, agOf ⟨true, size, []⟩]⟩ 0 = be 2 255 := rfl
 have e1 : byI ⟨1, 6, false, [agOf ⟨true, 255, []⟩, agOf ⟨true, size, []⟩]⟩ 1 = be 2 size := rfl
 simp only [List.length_append, List.length_cons, List.length_nil, List.range, List.range.loop, List.flatMap_cons, List.flatMap_nil, e0, e1, be_length, headM]
 simp
theorem ab_S (w : World) {a : SA} (h : a.n < 18446744073709551616) : AB (agOf a) := by
 have hz := (RA.zero w (fun _ => True) a.is).ab
 exact ⟨h, hz.x, hz.q, hz.v⟩
theorem lki_new {w : World} {B lb gp : Nat} {F : Nat → Prop} (hb : Box w lb 61 (lk0 gp)) (hga : Ga w F gp 0 GS.new) (hFl : ¬ F lb) (hF : ∀ k, F k → B ≤ k) (hlb : B ≤ lb) : LkI w B (fun k => k = lb ∨ F k) lb 0 [] ⟨0, 255, 4096, GS.new, [], []⟩ where
 ex := ⟨gp, _, _, _, none, 0, 0, F, hb, hga, hFl, fun k h => .inr h, Rd.nil _ _ _ _ (by simp [maxLen]) _, fun _ => Own.none_ _ _ _ _, fun h => absurd rfl h, fun g hg => by cases hg⟩
 lb := .inl rfl
 v := fun k hk => by
  rcases hk with rfl | h
  ·exact ⟨hlb, hb.lt⟩
  ·exact ⟨hF k h, hga.lt k h⟩
/-- a link that is agreed on, step by step; the document's link beside it -/
structure UpS (w0 w : World) (lb rb n : Nat) (L : LS) : Prop where
 ex : ∃ V, LkI w w0.heap.size V lb n [] L ∧ ¬ V rb
 rb : w.cell? ⟨rb, 4, none⟩ = some (.int .u64 4096)
 keep : KeepF (fun k => w0.heap.size ≤ k) w0 w
theorem UpS.below {w0 w w' : World} {lb rb n : Nat} {L : LS} (h : UpS w0 w lb rb n L) (hB : Below w.heap.size w w') : UpS w0 w' lb rb n L where
 ex := by
  obtain ⟨V, h1, h2⟩ := h.ex
  exact ⟨V, h1.keep (G := fun _ => False) (.below hB) (fun _ _ e => e), h2⟩
 rb := (hB.cell (p := ⟨rb, 4, none⟩) (World.block_lt_of_cell? _ _ h.rb)).trans h.rb
 keep := h.keep.trans (KeepF.below (F := fun _ => False) hB) (fun _ e => e.elim)
theorem UpS.feed {w0 w w' : World} {lb rb n m : Nat} {L L' : LS} {V V' : Nat → Prop} (h : UpS w0 w lb rb n L) (hI : LkI w w0.heap.size V lb n [] L) (hr : ¬ V rb) (hI' : LkI w' w0.heap.size V' lb m [] L') (hK : KeepF V w w') (hV : ∀ k, V' k → V k ∨ w.heap.size ≤ k) : UpS w0 w' lb rb m L' where
 ex := ⟨V', hI', fun e => by
  rcases hV rb e with e | e
  ·exact hr e
  ·have := World.block_lt_of_cell? _ _ h.rb
   simp only at this
   omega⟩
 rb := by
  have h1 := h.rb
  have h2 := hK.2.1 rb (World.block_lt_of_cell? _ _ h.rb) hr
  unfold World.cell? at h1 ⊢
  rw [h2]; exact h1
 keep := h.keep.trans hK (fun k hk => .inl (hI.v k hk).1)
theorem UpS.env {w0 w : World} {lb rb n : Nat} {L : LS} (h : UpS w0 w lb rb n L) (he : MEnv w0) : MEnv w := he.onK h.keep (fun e => by have := he.lt; omega)
theorem ups_feed {bs : List UInt8} {m : Mt} (hgc : GetC bs m 0) (hlen : m.args.length = (kindsO (findM m.cls m.code)).length) {w0 w : World} {lb rb n : Nat} {L : LS} (h : UpS w0 w lb rb n L) (he : MEnv w0) (h0 : L.st ≠ 0) (h5 : L.st ≠ 5) (hst : L.st < 256) (hs1 : 256 ≤ L.sz) (hsz : L.sz ≤ 4096) (hch : L.ch ≤ 255) (hg : L.g.calm) (hi : L.g.Inv) (hb : bs.length ≤ 200) (hn : n ≤ 100) :
  Calls Tryz.prog 12 #[.pointer (some ⟨lb, 0, none⟩), .string (str (ctlB 4096 bs))] w fun e w' => ∃ (g' : GS) (x y : Value), e = .returned (.tuple #[x, y]) ∧ g'.calm ∧ g'.Inv ∧ UpS w0 w' lb rb (n + 1) (LS.ctlM { L with g := g', sent := [], told := [] } ⟨0, 0, [⟨0, bs⟩]⟩ m 0) := by
 obtain ⟨V, hI, hr⟩ := h.ex
 refine (up_feed hgc hlen hI (h.env he) he.lt h0 h5 hst hs1 hsz hch hg hi hb hn).mono ?_
 rintro e w' ⟨V', g', x, y, rfl, hc, hi', hI', hK, hV⟩
 exact ⟨g', x, y, rfl, hc, hi', h.feed hI hr hI' hK hV⟩
theorem ctl_2 (g : GS) (bs : List UInt8) : ∃ S, LS.ctlM ⟨1, 255, 4096, g, [], []⟩ ⟨0, 0, [⟨0, bs⟩]⟩ ⟨1, 2, false, [agOf ⟨true, 0, []⟩]⟩ 0 = ⟨2, 255, 4096, g, S, []⟩ := by
 unfold LS.ctlM
 rw [if_neg (by simp), if_pos ⟨rfl, rfl⟩]
 exact ⟨_, rfl⟩
theorem ctl_6 (g : GS) (bs : List UInt8) (size : Nat) (h1 : 256 ≤ size) (h2 : size ≤ 4096) : LS.ctlM ⟨2, 255, 4096, g, [], []⟩ ⟨0, 0, [⟨0, bs⟩]⟩ ⟨1, 6, false, [agOf ⟨true, 255, []⟩, agOf ⟨true, size, []⟩]⟩ 0 = ⟨3, 255, size, g, [], []⟩ := by
 unfold LS.ctlM
 rw [if_neg (by simp), if_neg (fun e => absurd (show ctlK 1 6 = 2 from e.1) (by decide)), if_pos ⟨rfl, rfl⟩]
 show LS.tuned ⟨2, 255, 4096, g, [], []⟩ 255 size = _
 unfold LS.tuned
 rw [if_neg (by omega)]
theorem ctl_7 (g : GS) (bs : List UInt8) (size : Nat) : ∃ S, LS.ctlM ⟨3, 255, size, g, [], []⟩ ⟨0, 0, [⟨0, bs⟩]⟩ ⟨1, 7, false, [agOf ⟨true, 0, [47]⟩]⟩ 0 = ⟨4, 255, size, g, S, []⟩ := by
 unfold LS.ctlM
 rw [if_neg (by simp), if_neg (fun e => absurd e.1 (by decide)), if_neg (fun e => absurd e.1 (by decide)), if_pos ⟨rfl, rfl⟩]
 show ∃ S, LS.opened ⟨3, 255, size, g, [], []⟩ [47] = _
 unfold LS.opened
 rw [if_neg (by simp)]
 exact ⟨_, rfl⟩
set_option maxRecDepth 20000 in
set_option maxHeartbeats 4000000 in
theorem lup_any (size : Nat) (h1 : 256 ≤ size) (h2 : size ≤ 4096) (w : World) (he : MEnv w) :
  Calls Tryz.prog 16 #[.int .u64 (size : Int)] w fun e w' => ∃ (lb : Nat) (V : Nat → Prop) (n : Nat) (L : LS), e = .returned (.tuple #[.pointer (some ⟨lb, 0, none⟩), .bool true]) ∧ LkI w' w.heap.size V lb n [] L ∧ L.st = 4 ∧ L.ch = 255 ∧ L.sz = size ∧ L.g.calm ∧ L.g.Inv ∧ n ≤ 100 ∧ Below w.heap.size w w' := by
 have hgl := he.lt
 have hn1 := lnew_any w
 have hm2 : GetC b2 ⟨1, 2, false, [agOf ⟨true, 0, []⟩]⟩ 0 := getC_of _ good2 ⟨by show (1 : Nat) < 256; omega, by show (2 : Nat) < 256; omega, fun x hx => by rw [List.mem_singleton.1 hx]; exact ab_S w (by show (0 : Nat) < _; omega)⟩ (by show ∀ kd ∈ kindsO (findM 1 2), kd ∈ wtL; decide)
 have hm7 : GetC b7 ⟨1, 7, false, [agOf ⟨true, 0, [47]⟩]⟩ 0 := getC_of _ good7 ⟨by show (1 : Nat) < 256; omega, by show (7 : Nat) < 256; omega, fun x hx => by rw [List.mem_singleton.1 hx]; exact ab_S w (by show (0 : Nat) < _; omega)⟩ (by show ∀ kd ∈ kindsO (findM 1 7), kd ∈ wtL; decide)
 have hm6 : GetC (b6 size) ⟨1, 6, false, [agOf ⟨true, 255, []⟩, agOf ⟨true, size, []⟩]⟩ 0 := getC_of _ (good6 size h2) ⟨by show (1 : Nat) < 256; omega, by show (6 : Nat) < 256; omega, fun x hx => by
  simp only [List.mem_cons, List.not_mem_nil, or_false] at hx
  rcases hx with rfl | rfl
  ·exact ab_S w (by show (255 : Nat) < _; omega)
  ·exact ab_S w (by show size < _; omega)⟩ (by show ∀ kd ∈ kindsO (findM 1 6), kd ∈ wtL; decide)
 have hr2 : RCtlC 2 [⟨true, 0, []⟩] b2 := rctlC_of (by omega) (fun a ha => by rw [List.mem_singleton.1 ha]; exact ⟨by show (0 : Nat) < _; omega, by simp⟩) (by simp) good2 rfl (by decide)
 have hr7 : RCtlC 7 [⟨true, 0, [47]⟩] b7 := rctlC_of (by omega) (fun a ha => by rw [List.mem_singleton.1 ha]; exact ⟨by show (0 : Nat) < _; omega, by simp⟩) (by simp) good7 rfl (by decide)
 have hr6 : RCtlC 6 [⟨true, 255, []⟩, ⟨true, size, []⟩] (b6 size) := rctlC_of (by omega) (fun a ha => by
  simp only [List.mem_cons, List.not_mem_nil, or_false] at ha
  rcases ha with rfl | rfl
  ·exact ⟨by show (255 : Nat) < _; omega, by simp⟩
  ·exact ⟨by show size < _; omega, by simp⟩) (by simp) (good6 size h2) rfl (by decide)
 have hl6 := b6_len size h2
 have ha : ∀ (n : Nat) (s : List UInt8) (W : World), Calls Tryz.prog 30 #[.int .u64 (n : Int), .string (str s)] W fun e w' => e = .returned (.agg #[.bool true, .int .u64 (n : Int), .string (str s), .int .u32 0, .string ⟨#[]⟩, .string ⟨#[]⟩, .slice none 0 0, .int .u8 0, .int .u64 0, .string ⟨#[]⟩, .slice none 0 0, .slice none 0 0]) ∧ Below W.heap.size W w' := fun n s W => rarg22_any n s W
 have ha0 := fun W => ha 0 [] W
 have ha1 := fun W => ha 255 [] W
 have ha2 := fun W => ha size [] W
 have ha3 := fun W => ha 0 [47] W
 rw [show ((0 : Nat) : Int) = 0 from rfl, show str [] = (⟨#[]⟩ : ByteArray) from rfl] at ha0
 rw [show ((255 : Nat) : Int) = 255 from rfl, show str [] = (⟨#[]⟩ : ByteArray) from rfl] at ha1
 rw [show str [] = (⟨#[]⟩ : ByteArray) from rfl] at ha2
 rw [show ((0 : Nat) : Int) = 0 from rfl, show str [47] = (⟨#[47]⟩ : ByteArray) from rfl] at ha3
 clear ha
 go_enter Tryz.func16, Tryz.ntmps16
 go_wp2_with (with_reducible refine h_A ?_)
 refine hn1.mono ?_
 rintro e w1 ⟨rfl, hG1, hb1, hB1⟩
 clear hn1
 obtain ⟨lb, hlb⟩ : ∃ b, b = w.heap.size + 2 := ⟨_, rfl⟩
 rw [← hlb] at hb1
 have hI1 := lki_new (B := w.heap.size) hb1 hG1 (by omega) (fun k hk => by omega) (by omega)
 have hn2 := rlnew_any w1
 go_wp2_with (with_reducible refine h_A ?_)
 rw [← hlb]
 clear hlb
 refine hn2.mono ?_
 rintro e w2 ⟨rfl, hbg, hb2, hB2, hz2⟩
 clear hn2
 have HZ := Lib.hid hz2
 obtain ⟨rb, hrb⟩ : ∃ b, b = w1.heap.size + 1 := ⟨_, rfl⟩
 rw [← hrb] at hb2
 have hI2 := hI1.keep (G := fun _ => False) (.below hB2) (fun _ _ e => e)
 have hB02 := hB1.trans (hB2.mono hB1.size)
 have hR2 : w2.cell? ⟨rb, 4, none⟩ = some (.int .u64 4096) := hb2.c4
 have hrw2 := hb2.lt
 have hrV2 : ¬ (rb = lb ∨ rb = w.heap.size ∨ rb = w.heap.size + 1) := fun e => by
  have := hI1.v rb e
  omega
 have hf1 := up_hdr hI2 (he.on hB02) hgl rfl (by show (4096 : Nat) ≤ 4096; omega) (by show (255 : Nat) ≤ 255; omega) GS.inv_new (by omega)
 rw [show str hdrB = (⟨#[65, 77, 81, 80, 1, 1, 0, 10]⟩ : ByteArray) from rfl] at hf1
 have hU0 : UpS w w2 lb rb 0 ⟨0, 255, 4096, GS.new, [], []⟩ := ⟨⟨_, hI2, hrV2⟩, hR2, .below hB02⟩
 clear hb1 hG1 hI1 hb2 hz2
 go_wp2_with (with_reducible refine h_A ?_)
 rw [← hrb]
 clear hrb
 (with_reducible refine hf1.mono ?_)
 rintro e w3 ⟨V3, x, y, S, rfl, hI, hK, hV⟩
 have hU := hU0.feed hI2 hrV2 hI hK hV
 clear hf1 hI hK hV hI2 hR2 hrw2 hrV2 hB02 hB1 hB2 HZ hU0 hbg
 clear w1 w2
 go_wp2_with (with_reducible refine h_A ?_)
 (with_reducible refine (ha0 _).mono ?_)
 rintro e w4 ⟨rfl, hB4⟩
 obtain ⟨gb, w5, hqb, hqv, hG, hB45⟩ := alloc_stepG w4 #[.bool true, .int .u64 0, .string ⟨#[]⟩, .int .u32 0, .string ⟨#[]⟩, .string ⟨#[]⟩, .slice none 0 0, .int .u8 0, .int .u64 0, .string ⟨#[]⟩, .slice none 0 0, .slice none 0 0] 80
 have hlit := own_lit (w := w4) w4.heap.size #[.bool true, .int .u64 0, .string ⟨#[]⟩, .int .u32 0, .string ⟨#[]⟩, .string ⟨#[]⟩, .slice none 0 0, .int .u8 0, .int .u64 0, .string ⟨#[]⟩, .slice none 0 0, .slice none 0 0] 80 1 (Nat.le_refl _) (by simp [maxLen]) (size := 12) rfl (by omega)
 rw [← hqv, ← hqb] at hlit
 have hra : Rd w5 w5.heap.size 12 (some ⟨gb, 0, none⟩) 1 1 (rowC saC [⟨true, 0, []⟩]) := hlit.rd
 have hU5 := (hU.below hB4).below hB45
 have hct := rlctl_any 2 [⟨true, 0, []⟩] b2 hr2 (by have := b2_len; omega) rb 4096 (some ⟨gb, 0, none⟩) 1 1 w5 hra hU5.rb (by omega)
 rw [show ((2 : Nat) : Int) = 2 from rfl] at hct
 clear hlit hra hG hB45 hB4 hU
 go_wp2_with (with_reducible refine h_A ?_)
 rw [← hqb, ← hqv]
 clear hqb hqv
 (with_reducible refine hct.mono ?_)
 rintro e w6 ⟨rfl, hB6⟩
 clear hct
 have hU := hU5.below hB6
 clear hU5 hB6
 have hfd := ups_feed hm2 rfl hU he (by simp) (by simp) (by show (1 : Nat) < 256; omega) (by show 256 ≤ (4096 : Nat); omega) (by show (4096 : Nat) ≤ 4096; omega) (by show (255 : Nat) ≤ 255; omega) GS.calm_new GS.inv_new b2_len (by omega)
 go_wp2_with (with_reducible refine h_A ?_)
 (with_reducible refine hfd.mono ?_)
 rintro e w7 ⟨g7, x7, y7, rfl, hc7, hi7, hU7⟩
 obtain ⟨S7, e7⟩ := ctl_2 g7 b2
 change UpS w w7 lb rb (0 + 1) (LS.ctlM ⟨1, 255, 4096, g7, [], []⟩ ⟨0, 0, [⟨0, b2⟩]⟩ ⟨1, 2, false, [agOf ⟨true, 0, []⟩]⟩ 0) at hU7
 rw [e7] at hU7
 have hU := hU7
 clear hfd hU7 e7 hm2 hr2
 go_wp2_with (with_reducible refine h_A ?_)
 (with_reducible refine (ha1 _).mono ?_)
 rintro e w8 ⟨rfl, hB8⟩
 have hU8 := hU.below hB8
 clear hU hB8
 go_wp2_with (with_reducible refine h_A ?_)
 (with_reducible refine (ha2 _).mono ?_)
 rintro e w4 ⟨rfl, hB4⟩
 have hU := hU8
 clear hU8
 obtain ⟨gb, w5, hqb, hqv, hG, hB45⟩ := alloc_stepG w4 #[.bool true, .int .u64 255, .string ⟨#[]⟩, .int .u32 0, .string ⟨#[]⟩, .string ⟨#[]⟩, .slice none 0 0, .int .u8 0, .int .u64 0, .string ⟨#[]⟩, .slice none 0 0, .slice none 0 0, .bool true, .int .u64 (size : Int), .string ⟨#[]⟩, .int .u32 0, .string ⟨#[]⟩, .string ⟨#[]⟩, .slice none 0 0, .int .u8 0, .int .u64 0, .string ⟨#[]⟩, .slice none 0 0, .slice none 0 0] 80
 have hlit := own_lit (w := w4) w4.heap.size #[.bool true, .int .u64 255, .string ⟨#[]⟩, .int .u32 0, .string ⟨#[]⟩, .string ⟨#[]⟩, .slice none 0 0, .int .u8 0, .int .u64 0, .string ⟨#[]⟩, .slice none 0 0, .slice none 0 0, .bool true, .int .u64 (size : Int), .string ⟨#[]⟩, .int .u32 0, .string ⟨#[]⟩, .string ⟨#[]⟩, .slice none 0 0, .int .u8 0, .int .u64 0, .string ⟨#[]⟩, .slice none 0 0, .slice none 0 0] 80 2 (Nat.le_refl _) (by simp [maxLen]) (size := 12) rfl (by omega)
 rw [← hqv, ← hqb] at hlit
 have hra : Rd w5 w5.heap.size 12 (some ⟨gb, 0, none⟩) 2 2 (rowC saC [⟨true, 255, []⟩, ⟨true, size, []⟩]) := hlit.rd
 have hU5 := (hU.below hB4).below hB45
 have hct := rlctl_any 6 [⟨true, 255, []⟩, ⟨true, size, []⟩] (b6 size) hr6 (by have := hl6; omega) rb 4096 (some ⟨gb, 0, none⟩) 2 2 w5 hra hU5.rb (by omega)
 rw [show ((6 : Nat) : Int) = 6 from rfl] at hct
 clear hlit hra hG hB45 hB4 hU
 go_wp2_with (with_reducible refine h_A ?_)
 rw [← hqb, ← hqv]
 clear hqb hqv
 (with_reducible refine hct.mono ?_)
 rintro e w6 ⟨rfl, hB6⟩
 clear hct
 have hU := hU5.below hB6
 clear hU5 hB6
 have hfd := ups_feed hm6 rfl hU he (by simp) (by simp) (by show (2 : Nat) < 256; omega) (by show 256 ≤ (4096 : Nat); omega) (by show (4096 : Nat) ≤ 4096; omega) (by show (255 : Nat) ≤ 255; omega) hc7 hi7 hl6 (by omega)
 go_wp2_with (with_reducible refine h_A ?_)
 (with_reducible refine hfd.mono ?_)
 rintro e w9 ⟨g9, x9, y9, rfl, hc9, hi9, hU9⟩
 change UpS w w9 lb rb (0 + 1 + 1) (LS.ctlM ⟨2, 255, 4096, g9, [], []⟩ ⟨0, 0, [⟨0, b6 size⟩]⟩ ⟨1, 6, false, [agOf ⟨true, 255, []⟩, agOf ⟨true, size, []⟩]⟩ 0) at hU9
 rw [ctl_6 g9 (b6 size) size h1 h2] at hU9
 have hU := hU9
 clear hfd hU9 hm6 hr6 hc7 hi7
 go_wp2_with (with_reducible refine h_A ?_)
 (with_reducible refine (ha3 _).mono ?_)
 rintro e w4 ⟨rfl, hB4⟩
 obtain ⟨gb, w5, hqb, hqv, hG, hB45⟩ := alloc_stepG w4 #[.bool true, .int .u64 0, .string ⟨#[47]⟩, .int .u32 0, .string ⟨#[]⟩, .string ⟨#[]⟩, .slice none 0 0, .int .u8 0, .int .u64 0, .string ⟨#[]⟩, .slice none 0 0, .slice none 0 0] 80
 have hlit := own_lit (w := w4) w4.heap.size #[.bool true, .int .u64 0, .string ⟨#[47]⟩, .int .u32 0, .string ⟨#[]⟩, .string ⟨#[]⟩, .slice none 0 0, .int .u8 0, .int .u64 0, .string ⟨#[]⟩, .slice none 0 0, .slice none 0 0] 80 1 (Nat.le_refl _) (by simp [maxLen]) (size := 12) rfl (by omega)
 rw [← hqv, ← hqb] at hlit
 have hra : Rd w5 w5.heap.size 12 (some ⟨gb, 0, none⟩) 1 1 (rowC saC [⟨true, 0, [47]⟩]) := hlit.rd
 have hU5 := (hU.below hB4).below hB45
 have hct := rlctl_any 7 [⟨true, 0, [47]⟩] b7 hr7 (by have := b7_len; omega) rb 4096 (some ⟨gb, 0, none⟩) 1 1 w5 hra hU5.rb (by omega)
 rw [show ((7 : Nat) : Int) = 7 from rfl] at hct
 clear hlit hra hG hB45 hB4 hU
 go_wp2_with (with_reducible refine h_A ?_)
 rw [← hqb, ← hqv]
 clear hqb hqv
 (with_reducible refine hct.mono ?_)
 rintro e w6 ⟨rfl, hB6⟩
 clear hct
 have hU := hU5.below hB6
 clear hU5 hB6
 have hfd := ups_feed hm7 rfl hU he (by simp) (by simp) (by show (3 : Nat) < 256; omega) h1 h2 (by show (255 : Nat) ≤ 255; omega) hc9 hi9 b7_len (by omega)
 go_wp2_with (with_reducible refine h_A ?_)
 (with_reducible refine hfd.mono ?_)
 rintro e wA ⟨gA, xA, yA, rfl, hcA, hiA, hUA⟩
 obtain ⟨SA, eA⟩ := ctl_7 gA b7 size
 change UpS w wA lb rb (0 + 1 + 1 + 1) (LS.ctlM ⟨3, 255, size, gA, [], []⟩ ⟨0, 0, [⟨0, b7⟩]⟩ ⟨1, 7, false, [agOf ⟨true, 0, [47]⟩]⟩ 0) at hUA
 rw [eA] at hUA
 clear hfd hm7 hr7 hc9 hi9 eA
 obtain ⟨V, hI, _⟩ := hUA.ex
 have hI0 := hI
 obtain ⟨gp, p, q, r, RA, rn, rc, F, hb, _⟩ := hI.ex
 have hst := lstate_any lb 4 gp wA (hb.cell (j := 0) rfl) (hb.cell (j := 2) rfl)
 rw [show (((4 : Nat)) : Int) = 4 from rfl] at hst
 go_wp2_with (with_reducible refine h_A ?_)
 (with_reducible refine hst.mono ?_)
 rintro e wB ⟨rfl, rfl⟩
 go_wp2_with (with_reducible refine h_A ?_)
 go_ret2
 exact ⟨lb, V, _, _, rfl, hI0, rfl, rfl, rfl, hcA, hiA, by omega, hUA.keep.toBelow (Nat.le_refl _) (fun _ h => h)⟩
end Go.PH
end

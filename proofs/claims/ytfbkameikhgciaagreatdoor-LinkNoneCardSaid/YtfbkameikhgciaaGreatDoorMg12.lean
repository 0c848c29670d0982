/- Texts laid together: LkLawNone. -/
import Derived.Deep.LoopGhost
import Derived.Test.YtfbkameikhgciaaGreatDoorMg05
import Derived.Test.YtfbkameikhgciaaGreatDoorMg11
set_option linter.all false
set_option linter.unusedSimpArgs false
set_option linter.unusedVariables false
section
/- The law LinkNone: links that are none. -/
namespace Go.PH
open Go.RowKit Go.Proofs

/-- a link that is none, or was never made -/
def LNone (q : Value) (W : World) : Prop := q = .pointer none ∨ ∃ lb, q = .pointer (some ⟨lb, 0, none⟩) ∧ W.cell? ⟨lb, 2, none⟩ = some (.pointer none)
theorem lstate_no (q : Value) (w : World) (h : LNone q w) : Calls Tryz.prog 15 #[q] w fun e w' => e = .returned (.int .u8 5) ∧ w = w' := by
 rcases h with rfl | ⟨lb, rfl, h⟩
 ·exact lstate_nil w
 ·exact lstate_zero lb w h
set_option maxRecDepth 20000 in
theorem lfeed_no (q : Value) (s : List UInt8) (w : World) (h : LNone q w) : Calls Tryz.prog 12 #[q, .string (str s)] w fun e w' => e = .returned (.tuple #[.string ⟨#[]⟩, .slice none 0 0]) ∧ w = w' := by
 have hs := lstate_no q w h
 clear h
 go_enter Tryz.func12, Tryz.ntmps12
 go_wp2_with (with_reducible refine h_A ?_)
 refine hs.mono ?_
 rintro e w1 ⟨rfl, rfl⟩
 go_wp2_with (with_reducible refine h_A ?_)
 go_ret2
 exact ⟨rfl, rfl⟩
set_option maxRecDepth 20000 in
theorem lclose_no (q : Value) (code : Nat) (s : List UInt8) (w : World) (h : LNone q w) : Calls Tryz.prog 21 #[q, .int .u16 (code : Int), .string (str s)] w fun e w' => e = .returned (.string ⟨#[]⟩) ∧ w = w' := by
 have hs := lstate_no q w h
 clear h
 go_enter Tryz.func21, Tryz.ntmps21
 go_wp2_with (with_reducible refine h_A ?_)
 refine hs.mono ?_
 rintro e w1 ⟨rfl, rfl⟩
 go_wp2_with (with_reducible refine h_A ?_)
 go_ret
 exact ⟨rfl, rfl⟩
set_option maxRecDepth 20000 in
theorem lsend_no (q : Value) (a : As) (A : Option Addr) (n c : Nat) (w : World) (h : LNone q w) : Calls Tryz.prog 17 #[q, .agg (asV a.chan a.track A n c)] w fun e w' => e = .returned (.tuple #[.string ⟨#[]⟩, .int .i64 1]) ∧ Below w.heap.size w w' := by
 unfold asV
 rcases h with rfl | ⟨lb, rfl, h⟩
 ·go_enter Tryz.func17, Tryz.ntmps17
  go_wp2_with (with_reducible refine h_A ?_)
  go_ret2
  exact ⟨rfl, (Below.refl _ _).alloc (Nat.le_refl _) _⟩
 ·obtain ⟨xb, w0, hqb, hqv, hX, hB0⟩ := alloc_stepG w #[.int .u16 (a.chan : Int), .int .u8 (a.track : Int), .slice A n c] 42
  have h2 := (hB0.cell (p := ⟨lb, 2, none⟩) (World.block_lt_of_cell? _ _ h)).trans h
  clear h
  go_enter Tryz.func17, Tryz.ntmps17
  go_upto_region 1 with fail
  rw [← hqb, ← hqv]
  clear hqb hqv
  go_wp2_with (with_reducible refine h_A ?_)
  go_ret2
  exact ⟨rfl, hB0⟩
set_option maxRecDepth 20000 in
set_option maxHeartbeats 4000000 in
theorem law_LinkNone (s : List UInt8) (a : As) (A : Option Addr) (n c : Nat) (w : World) (he : MEnv w) :
  Calls Tryz.prog 7 #[.string (str s), .agg (asV a.chan a.track A n c)] w fun e w' => e = .returned (.bool true) ∧ Below w.heap.size w w' := by
 have hsd := fun q W (h : LNone q W) => lsend_no q a A n c W h
 obtain ⟨ab, w0, hqa, hva, hBa, hB0⟩ := alloc_stepG w (asV a.chan a.track A n c) 42
 obtain ⟨zb, w1, hqz, hvz, hBz, hB01⟩ := alloc_stepG w0 #[.int .u8 0, .slice none 0 0, .pointer none, .int .u64 0, .int .u64 0, .pointer none, .slice none 0 0, .slice none 0 0] 61
 obtain ⟨gb, w2, hqg, hvg, hBg, hB12⟩ := alloc_stepG w1 #[.pointer none, .pointer (some ⟨zb, 0, none⟩)] 25
 have hB1 := hB0.trans (hB01.mono hB0.size)
 have hB2 := hB1.trans (hB12.mono hB1.size)
 have hBa2 := (hBa.below hB01).below hB12
 have hBz2 := hBz.below hB12
 have e1 : zb = w.heap.size + 1 := by rw [hqz, hva]; simp
 have e2 : gb = w.heap.size + 1 + 1 := by rw [hqg, hvz, hva]; simp
 have hwa : w.heap.size ≤ ab := by omega
 clear hBa hBz hB01 hB12 hqz hqg
 unfold asV at *
 go_enter Tryz.func7, Tryz.ntmps7
 go_upto_region 3 with fail
 have hN0 : ∀ W, Below w2.heap.size w2 W → LNone (.pointer none) W := fun W h => .inl rfl
 have hN1 : ∀ W, Below w2.heap.size w2 W → LNone (.pointer (some ⟨zb, 0, none⟩)) W := fun W h => .inr ⟨zb, rfl, (hBz2.below h).cell (j := 2) rfl⟩
 rw [← e2, ← e1, ← hqa, ← hva, ← hvz, ← hvg]
 clear hva hvz hvg hqa e1 e2 hBz2 hB0 hB1 hwa
 have hg2 := hB2.size
 go_wp2_with (with_reducible refine h_A ?_)
 go_loopw [7] (fun i wr => (i = .int .i64 0 ∨ i = .int .i64 1 ∨ i = .int .i64 2) ∧ Below w2.heap.size w2 wr) (fun i _ => 2 - (RowKit.intOf i).toNat)
 case atStart => exact ⟨.inl rfl, Below.refl _ _⟩
 case round =>
  obtain ⟨hi, hB⟩ := hrel
  rcases hi with rfl | rfl | rfl
  ·
   have hn := hN0
   clear hN0 hN1
   have hBgr := hBg.below hB
   have hf := lfeed_no _ s wr (hn wr hB)
   have hc := hBgr.c0
   have hzr := hB.size
   go_wp2_with (with_reducible refine h_A ?_)
   refine hf.mono ?_
   rintro e w3 ⟨rfl, rfl⟩
   clear hf
   go_wp2_with (with_reducible refine h_A ?_)
   have hS : Below w2.heap.size w2 wr.drew := Below.drew hB
   refine rg_start (fun wx => Below w2.heap.size w2 wx) (by kernel_rfl) ?_
   refine rg_t 0 hS ?_
   simp only [List.getElem_toArray, List.getElem_cons_zero, Act.put, List.setIfInBounds_toArray, List.set_cons_zero, List.set_cons_succ]
   refine rg_t 1 hS ?_
   simp only [g_S, Act.put]
   refine rg_t 2 hS ?_
   simp only [g_S, Act.put]
   refine rg_take 3 (v := ?_) rfl (by kernel_rfl) (by kernel_rfl) (by kernel_rfl) hS rfl ?_ ?_
   rotate_left
   ·intro wS hSw; have k0 := (hBg.below hSw).cell (j := 0) rfl; go_simp; (with_reducible rfl)
   simp only [g_S, Act.put]
   refine rg_take 4 (v := ?_) rfl (by kernel_rfl) (by kernel_rfl) (by kernel_rfl) hS rfl ?_ ?_
   rotate_left
   ·intro wS hSw; have k0 := (hBa2.below hSw).cell (j := 0) rfl; have k1 := (hBa2.below hSw).cell (j := 1) rfl; have k2 := (hBa2.below hSw).cell (j := 2) rfl; go_simp; (with_reducible rfl)
   simp only [g_S, Act.put]
   refine rg_one 5 rfl (by kernel_rfl) rfl (fun K hK => ?_)
   go_simp
   refine (hsd _ wr.drew (hn _ hS)).mono ?_
   rintro e w4 ⟨rfl, hB4⟩
   have hS4 : Below w2.heap.size w2 w4 := hS.trans (hB4.mono hS.size)
   refine hK _ _ hS4 ?_; clear hK K
   refine rg_t 6 hS4 ?_
   simp only [g_S, Act.put]
   refine rg_t 7 hS4 ?_
   simp only [g_S, Act.put]
   refine rg_t 8 hS4 ?_
   simp only [g_S, Act.put]
   refine rg_t 9 hS4 ?_
   simp only [g_S, Act.put]
   refine rg_t 10 hS4 ?_
   simp only [g_S, Act.put]
   refine rg_end (by kernel_rfl) ?_
   clear hS hB4 hB hc hBgr hzr
   have hq := lclose_no _ 200 s w4 (hn _ hS4)
   rw [show ((200 : Nat) : Int) = 200 from rfl] at hq
   have hu := lstate_no _ w4 (hn _ hS4)
   have hc := (hBg.below hS4).c0
   go_wp2_with (with_reducible refine h_A ?_)
   refine hq.mono ?_
   rintro e w5 ⟨rfl, rfl⟩
   go_wp2_with (with_reducible refine h_A ?_)
   refine hu.mono ?_
   rintro e w6 ⟨rfl, rfl⟩
   go_wp2_with (with_reducible refine h_A ?_)
   exact ⟨⟨.inr <| .inl <| by go_num, hS4⟩, by simp [RowKit.intOf]⟩
  ·
   have hn := hN1
   clear hN0 hN1
   have hBgr := hBg.below hB
   have hf := lfeed_no _ s wr (hn wr hB)
   have hc := hBgr.c1
   have hzr := hB.size
   go_wp2_with (with_reducible refine h_A ?_)
   refine hf.mono ?_
   rintro e w3 ⟨rfl, rfl⟩
   clear hf
   go_wp2_with (with_reducible refine h_A ?_)
   have hS : Below w2.heap.size w2 wr.drew := Below.drew hB
   refine rg_start (fun wx => Below w2.heap.size w2 wx) (by kernel_rfl) ?_
   refine rg_t 0 hS ?_
   simp only [List.getElem_toArray, List.getElem_cons_zero, Act.put, List.setIfInBounds_toArray, List.set_cons_zero, List.set_cons_succ]
   refine rg_t 1 hS ?_
   simp only [g_S, Act.put]
   refine rg_t 2 hS ?_
   simp only [g_S, Act.put]
   refine rg_take 3 (v := ?_) rfl (by kernel_rfl) (by kernel_rfl) (by kernel_rfl) hS rfl ?_ ?_
   rotate_left
   ·intro wS hSw; have k0 := (hBg.below hSw).cell (j := 1) rfl; go_simp; (with_reducible rfl)
   simp only [g_S, Act.put]
   refine rg_take 4 (v := ?_) rfl (by kernel_rfl) (by kernel_rfl) (by kernel_rfl) hS rfl ?_ ?_
   rotate_left
   ·intro wS hSw; have k0 := (hBa2.below hSw).cell (j := 0) rfl; have k1 := (hBa2.below hSw).cell (j := 1) rfl; have k2 := (hBa2.below hSw).cell (j := 2) rfl; go_simp; (with_reducible rfl)
   simp only [g_S, Act.put]
   refine rg_one 5 rfl (by kernel_rfl) rfl (fun K hK => ?_)
   go_simp
   refine (hsd _ wr.drew (hn _ hS)).mono ?_
   rintro e w4 ⟨rfl, hB4⟩
   have hS4 : Below w2.heap.size w2 w4 := hS.trans (hB4.mono hS.size)
   refine hK _ _ hS4 ?_; clear hK K
   refine rg_t 6 hS4 ?_
   simp only [g_S, Act.put]
   refine rg_t 7 hS4 ?_
   simp only [g_S, Act.put]
   refine rg_t 8 hS4 ?_
   simp only [g_S, Act.put]
   refine rg_t 9 hS4 ?_
   simp only [g_S, Act.put]
   refine rg_t 10 hS4 ?_
   simp only [g_S, Act.put]
   refine rg_end (by kernel_rfl) ?_
   clear hS hB4 hB hc hBgr hzr
   have hq := lclose_no _ 200 s w4 (hn _ hS4)
   rw [show ((200 : Nat) : Int) = 200 from rfl] at hq
   have hu := lstate_no _ w4 (hn _ hS4)
   have hc := (hBg.below hS4).c1
   go_wp2_with (with_reducible refine h_A ?_)
   refine hq.mono ?_
   rintro e w5 ⟨rfl, rfl⟩
   go_wp2_with (with_reducible refine h_A ?_)
   refine hu.mono ?_
   rintro e w6 ⟨rfl, rfl⟩
   go_wp2_with (with_reducible refine h_A ?_)
   exact ⟨⟨.inr <| .inr <| by go_num, hS4⟩, by simp [RowKit.intOf]⟩
  ·have hBw := hB2.trans (hB.mono hg2)
   clear hsd hN0 hN1 hBg hBa2
   have hh := lkhead_any wr (he.on hBw)
   go_wp2_with (with_reducible refine h_A ?_)
   refine hh.mono ?_
   rintro e w4 ⟨rfl, hB4⟩
   go_wp2_with (with_reducible refine h_A ?_)
   go_ret
   exact ⟨rfl, hBw.trans (hB4.mono hBw.size)⟩
end Go.PH
end

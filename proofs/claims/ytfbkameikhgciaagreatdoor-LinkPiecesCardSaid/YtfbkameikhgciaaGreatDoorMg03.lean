/- Texts laid together: FrWell, FrScanMath, LkBld0, LkBld. -/
import Derived.Deep.QuietTactic
import Derived.BigQuiet
import Derived.Laws.BitsAllLaws
import Derived.Laws.Bits64
import Derived.Test.YtfbkameikhgciaaGreatDoorProg
import Derived.Lib.Builder
import Derived.Lib.UnsafeStr
import Derived.Laws.Externs
import Derived.RegionTactic
import Derived.BigRegion
import Derived.Test.YtfbkameikhgciaaGreatDoorMg01
import Derived.Test.YtfbkameikhgciaaGreatDoorMg02
set_option linter.all false
set_option linter.unusedSimpArgs false
set_option linter.unusedVariables false
set_option maxRecDepth 20000
set_option maxHeartbeats 8000000
section
namespace Go.PH
open Go.RowKit Go.Proofs
def YZ : Nat → Nat
 | 0 => 15 | 1 => 3 | 2 => 16 | 3 => 255 | 4 => 0 | 5 => 15 | 6 => 255 | 7 => 255 | _ => 0
def frN (b : List UInt8) : Nat := 256 * (b.getD 2 0).toNat + (b.getD 3 0).toNat
def yk (b : List UInt8) (k : Nat) : Bool := if k = 3 then decide (12 ≤ frN b) && decide (frN b ≤ 4096) else decide ((b.getD k 0).toNat ≤ YZ k)
def zW (b : List UInt8) : Bool := (List.range (min b.length 12)).all (yk b)
theorem zae (p : Option Addr) (n : Nat) (w : World) :
  Calls Tryz.prog 72 #[.int .u8 n, .pointer p] w fun e w' => e = .returned (.func (.func 73) #[] #[.pointer p, .pointer (some ⟨w.heap.size, 0, none⟩)]) ∧ w' = w.alloc (.cells #[.int .u8 n] 5) := by
 go_enter Tryz.func72, Tryz.ntmps72
 go_wp2_with (with_reducible refine h_A ?_)
 go_ret
 exact ⟨rfl, rfl⟩
theorem xH (A : Option Addr) (n c : Nat) (b : List UInt8) (B bb nb m : Nat) (w : World) (hr : RdB w B A n c b) (hb : w.cell? ⟨bb, 0, none⟩ = some (.slice A n c)) (hn : w.cell? ⟨nb, 0, none⟩ = some (.int .u8 m)) (i : Nat) (hi : i < n) (hnn : n ≤ 140737488355328) :
  Calls Tryz.prog 73 #[.int .i64 i, .pointer (some ⟨bb, 0, none⟩), .pointer (some ⟨nb, 0, none⟩)] w fun e w' => e = .returned (.bool (decide ((b.getD i 0).toNat ≤ m))) ∧ ∃ q, w' = w.drewN q := by
 obtain ⟨bk, off, rfl, _, hl, hc⟩ := RdB.at_k hr hi
 have e : b.getD i 0 = b[i] := by simp [List.getD, List.getElem?_eq_getElem hl]
 have hx := b[i].toNat_lt
 rw [e]
 generalize b[i].toNat = x at *
 have hd : decide ((x : Int) ≤ (m : Int)) = decide (x ≤ m) := by rw [Bool.eq_iff_iff]; simp
 go_enter Tryz.func73, Tryz.ntmps73
 go_wp2_with (with_reducible refine h_A ?_)
 go_quiet (fail)
 go_wp2_with (with_reducible refine h_A ?_)
 go_ret
 exact ⟨by first | rfl | simp [hd], _, rfl⟩
theorem QF (i : Nat) (w : World) : Calls Tryz.prog 74 #[.int .i64 i] w fun e w' => e = .returned (.bool true) ∧ w' = w := by
 go_enter Tryz.func74, Tryz.ntmps74
 go_wp2_with (with_reducible refine h_A ?_)
 go_ret
 exact ⟨rfl, rfl⟩
theorem zaf (x y : Nat) (hx : x < 256) (hy : y < 256) : bits .or .i64 ((x : Int) * 256) (y : Int) = ((256 * x + y : Nat) : Int) := by
 have e : (x : Int) * 256 = ((256 * x : Nat) : Int) := by omega
 rw [e]
 show IntKind.i64.wrap ((BitVec.ofInt 64 ((256 * x : Nat) : Int) ||| BitVec.ofInt 64 (y : Int)).toNat : Int) = _
 have h2 := Nat.two_pow_add_eq_or_of_lt (i := 8) (b := y) (by omega) x
 rw [BitVec.toNat_or, ofInt_u64 _ (by omega), ofInt_u64 _ (by omega), show 256 * x = 2 ^ 8 * x by omega, ← h2]
 exact IntWalk.i64_in _ ⟨by omega, by omega⟩
theorem J0 (A : Option Addr) (n c : Nat) (b : List UInt8) (B bb : Nat) (w : World) (hr : RdB w B A n c b) (hb : w.cell? ⟨bb, 0, none⟩ = some (.slice A n c)) (h3 : 3 < n) (hnn : n ≤ 140737488355328) :
  Calls Tryz.prog 75 #[.int .i64 3, .pointer (some ⟨bb, 0, none⟩)] w fun e w' => e = .returned (.bool (decide (12 ≤ frN b) && decide (frN b ≤ 4096))) ∧ ∃ q, w' = w.drewN q := by
 obtain ⟨bk, off, rfl, _, hl3, hc3⟩ := RdB.at_k hr h3
 obtain ⟨bk', off', e', _, hl2, hc2⟩ := RdB.at_k hr (k := 2) (by omega)
 obtain ⟨rfl, rfl⟩ : bk = bk' ∧ off = off' := by simpa using e'
 have e2 : b.getD 2 0 = b[2] := by simp [List.getD, List.getElem?_eq_getElem hl2]
 have e3 : b.getD 3 0 = b[3] := by simp [List.getD, List.getElem?_eq_getElem hl3]
 have hx := b[2].toNat_lt
 have hy := b[3].toNat_lt
 unfold frN
 rw [e2, e3]
 generalize b[2].toNat = x at *
 generalize b[3].toNat = y at *
 have hor := zaf x y hx hy
 have h3' : (3 : Int) < (n : Int) := by omega
 have hW := fun (v : Bool) (hv : (decide (12 ≤ 256 * x + y) && decide (256 * x + y ≤ 4096)) = v) => Lib.hid hv
 by_cases h1 : 12 ≤ 256 * x + y
 ·have d1 : (12 : Int) ≤ 256 * (x : Int) + (y : Int) := by omega
  by_cases h2 : 256 * x + y ≤ 4096
  ·have d2 : 256 * (x : Int) + (y : Int) ≤ 4096 := by omega
   have HV := hW true (by simp [h1, h2])
   clear h1 h2 hW
   go_enter Tryz.func75, Tryz.ntmps75
   go_wp2_with (with_reducible refine h_A ?_)
   go_quiet (fail)
   go_wp2_with (with_reducible refine h_A ?_)
   go_ret
   rw [HV.out]
   exact ⟨rfl, _, rfl⟩
  ·have d2 : decide (256 * (x : Int) + (y : Int) ≤ 4096) = false := by simp; omega
   have HV := hW false (by simp [h1, h2])
   clear h1 h2 hW
   go_enter Tryz.func75, Tryz.ntmps75
   go_wp2_with (with_reducible refine h_A ?_)
   go_quiet (fail)
   go_wp2_with (with_reducible refine h_A ?_)
   go_ret
   rw [HV.out]
   exact ⟨rfl, _, rfl⟩
 ·have d1 : decide ((12 : Int) ≤ 256 * (x : Int) + (y : Int)) = false := by simp; omega
  have HV := hW false (by simp [h1])
  clear h1 hW
  go_enter Tryz.func75, Tryz.ntmps75
  go_wp2_with (with_reducible refine h_A ?_)
  go_quiet (fail)
  go_wp2_with (with_reducible refine h_A ?_)
  go_ret
  rw [HV.out]
  exact ⟨rfl, _, rfl⟩
theorem yO {b : List UInt8} {k : Nat} (hk : k < b.length) (hk2 : k < 12) (h : yk b k = false) : zW b = false := by
 unfold zW
 rw [List.all_eq_false]
 exact ⟨k, List.mem_range.2 (by omega), by simp [h]⟩
theorem yS {p : Nat → Bool} {k : Nat} (h : (List.range k).all p = true) (hp : p k = true) : (List.range (k + 1)).all p = true := by
 rw [List.range_succ, List.all_append, h]; simp [hp]
theorem qr (p : Option Addr) (n : Nat) (w : World) :
  Calls Tryz.prog 72 #[.int .u8 n, .pointer p] w fun e w' => ∃ nb, e = .returned (.func (.func 73) #[] #[.pointer p, .pointer (some ⟨nb, 0, none⟩)]) ∧ w'.cell? ⟨nb, 0, none⟩ = some (.int .u8 n) ∧ Below w.heap.size w w' := by
 refine (zae p n w).mono ?_
 rintro e w' ⟨rfl, rfl⟩
 exact ⟨_, rfl, World.cell?_alloc_new _ _ _ _, (Below.refl _ _).alloc (Nat.le_refl _) _⟩
theorem zh {w w' : World} {a : Addr} {u : Value} (h : w.cell? a = some u) (hB : Below w.heap.size w w') : w'.cell? a = some u := (hB.cell (World.block_lt_of_cell? w _ h)).trans h
theorem J1 (A : Option Addr) (n c : Nat) (b : List UInt8) (B : Nat) (w : World) (hr : RdB w B A n c b) (hB : B ≤ w.heap.size) (hn : n ≤ 140737488355328) :
  Calls Tryz.prog 51 #[.slice A n c] w fun e w' => e = .returned (.bool (zW b)) ∧ Below w.heap.size w w' := by
 have hl := RdB.length hr
 obtain ⟨M, hM⟩ : ∃ M, M = min n 12 := ⟨_, rfl⟩
 have hmin : (if (12 : Int) < (n : Int) then (12 : Int) else (n : Int)) = (M : Int) := by split <;> omega
 have hM1 : M ≤ n := by omega
 have hM2 : M ≤ 12 := by omega
 have HWL : Hid (zW b = (List.range M).all (yk b)) := Lib.hid (by unfold zW; rw [hl, ← hM])
 have hM3 : ∀ k, k < M → k < b.length := fun k h => by omega
 clear hM
 obtain ⟨w0, hw0⟩ : ∃ w0, w0 = w.alloc (.cells #[.slice A n c] 55) := ⟨_, rfl⟩
 have hB0 : Below w.heap.size w w0 := by rw [hw0]; exact (Below.refl _ _).alloc (Nat.le_refl _) _
 have hbb : w0.cell? ⟨w.heap.size, 0, none⟩ = some (.slice A n c) := by rw [hw0]; exact World.cell?_alloc_new _ _ _ _
 go_enter Tryz.func51, Tryz.ntmps51
 go_wp2_with (with_reducible refine h_A ?_)
 have hup0 := qr (some ⟨w.heap.size, 0, none⟩) 15 w0
 rw [hw0] at hup0
 refine hup0.mono ?_
 rintro e w1 ⟨nb1, rfl, hc1, hu1⟩
 rw [← hw0] at hu1
 clear hup0 hw0
 have hB1 := hB0.trans (hu1.mono hB0.size)
 have hbb := zh hbb hu1
 clear hu1 hB0
 go_wp2_with (with_reducible refine h_A ?_)
 refine (qr (some ⟨w.heap.size, 0, none⟩) 3 w1).mono ?_
 rintro e w2 ⟨nb2, rfl, hc2, hu2⟩
 have hB2 := hB1.trans (hu2.mono hB1.size)
 have hbb := zh hbb hu2
 have hc1 := zh hc1 hu2
 clear hu2 hB1
 go_wp2_with (with_reducible refine h_A ?_)
 refine (qr (some ⟨w.heap.size, 0, none⟩) 16 w2).mono ?_
 rintro e w3 ⟨nb3, rfl, hc3, hu3⟩
 have hB3 := hB2.trans (hu3.mono hB2.size)
 have hbb := zh hbb hu3
 have hc1 := zh hc1 hu3
 have hc2 := zh hc2 hu3
 clear hu3 hB2
 go_wp2_with (with_reducible refine h_A ?_)
 refine (qr (some ⟨w.heap.size, 0, none⟩) 0 w3).mono ?_
 rintro e w4 ⟨nb4, rfl, hc4, hu4⟩
 have hB4 := hB3.trans (hu4.mono hB3.size)
 have hbb := zh hbb hu4
 have hc1 := zh hc1 hu4
 have hc2 := zh hc2 hu4
 have hc3 := zh hc3 hu4
 clear hu4 hB3
 go_wp2_with (with_reducible refine h_A ?_)
 refine (qr (some ⟨w.heap.size, 0, none⟩) 15 w4).mono ?_
 rintro e w5 ⟨nb5, rfl, hc5, hu5⟩
 have hB5 := hB4.trans (hu5.mono hB4.size)
 have hbb := zh hbb hu5
 have hc1 := zh hc1 hu5
 have hc2 := zh hc2 hu5
 have hc3 := zh hc3 hu5
 have hc4 := zh hc4 hu5
 clear hu5 hB4
 go_wp2_with (with_reducible refine h_A ?_)
 refine (qr (some ⟨w.heap.size, 0, none⟩) 0 w5).mono ?_
 rintro e w6 ⟨nb6, rfl, hc6, hu6⟩
 have hB6 := hB5.trans (hu6.mono hB5.size)
 have hbb := zh hbb hu6
 have hc1 := zh hc1 hu6
 have hc2 := zh hc2 hu6
 have hc3 := zh hc3 hu6
 have hc4 := zh hc4 hu6
 have hc5 := zh hc5 hu6
 clear hu6 hB5
 go_wp2_with (with_reducible refine h_A ?_)
 refine (qr (some ⟨w.heap.size, 0, none⟩) 0 w6).mono ?_
 rintro e w7 ⟨nb7, rfl, hc7, hu7⟩
 have hB7 := hB6.trans (hu7.mono hB6.size)
 have hbb := zh hbb hu7
 have hc1 := zh hc1 hu7
 have hc2 := zh hc2 hu7
 have hc3 := zh hc3 hu7
 have hc4 := zh hc4 hu7
 have hc5 := zh hc5 hu7
 have hc6 := zh hc6 hu7
 clear hu7 hB6
 go_wp2_with (with_reducible refine h_A ?_)
 refine (qr (some ⟨w.heap.size, 0, none⟩) 0 w7).mono ?_
 rintro e w8 ⟨nb8, rfl, hc8, hu8⟩
 have hB8 := hB7.trans (hu8.mono hB7.size)
 have hbb := zh hbb hu8
 have hc1 := zh hc1 hu8
 have hc2 := zh hc2 hu8
 have hc3 := zh hc3 hu8
 have hc4 := zh hc4 hu8
 have hc5 := zh hc5 hu8
 have hc6 := zh hc6 hu8
 have hc7 := zh hc7 hu8
 clear hu8 hB7
 go_wp2_with (with_reducible refine h_A ?_)
 refine (qr (some ⟨w.heap.size, 0, none⟩) 0 w8).mono ?_
 rintro e w9 ⟨nb9, rfl, hc9, hu9⟩
 have hB9 := hB8.trans (hu9.mono hB8.size)
 have hbb := zh hbb hu9
 have hc1 := zh hc1 hu9
 have hc2 := zh hc2 hu9
 have hc3 := zh hc3 hu9
 have hc4 := zh hc4 hu9
 have hc5 := zh hc5 hu9
 have hc6 := zh hc6 hu9
 have hc7 := zh hc7 hu9
 have hc8 := zh hc8 hu9
 clear hu9 hB8
 have hlt9 : w.heap.size < w9.heap.size := World.block_lt_of_cell? w9 _ hbb
 go_wp2_with (with_reducible refine h_A ?_)
 generalize hW : w9.alloc (.cells #[.func (.func 73) #[] #[.pointer (some ⟨w.heap.size, 0, none⟩), .pointer (some ⟨nb1, 0, none⟩)], .func (.func 73) #[] #[.pointer (some ⟨w.heap.size, 0, none⟩), .pointer (some ⟨nb2, 0, none⟩)], .func (.func 73) #[] #[.pointer (some ⟨w.heap.size, 0, none⟩), .pointer (some ⟨nb3, 0, none⟩)], .func (.func 75) #[] #[.pointer (some ⟨w.heap.size, 0, none⟩)], .func (.func 73) #[] #[.pointer (some ⟨w.heap.size, 0, none⟩), .pointer (some ⟨nb4, 0, none⟩)], .func (.func 73) #[] #[.pointer (some ⟨w.heap.size, 0, none⟩), .pointer (some ⟨nb5, 0, none⟩)], .func (.func 74) #[] #[], .func (.func 74) #[] #[], .func (.func 73) #[] #[.pointer (some ⟨w.heap.size, 0, none⟩), .pointer (some ⟨nb6, 0, none⟩)], .func (.func 73) #[] #[.pointer (some ⟨w.heap.size, 0, none⟩), .pointer (some ⟨nb7, 0, none⟩)], .func (.func 73) #[] #[.pointer (some ⟨w.heap.size, 0, none⟩), .pointer (some ⟨nb8, 0, none⟩)], .func (.func 73) #[] #[.pointer (some ⟨w.heap.size, 0, none⟩), .pointer (some ⟨nb9, 0, none⟩)]] 145) = W
 have hpb : ∀ (i : Nat) u, (#[.func (.func 73) #[] #[.pointer (some ⟨w.heap.size, 0, none⟩), .pointer (some ⟨nb1, 0, none⟩)], .func (.func 73) #[] #[.pointer (some ⟨w.heap.size, 0, none⟩), .pointer (some ⟨nb2, 0, none⟩)], .func (.func 73) #[] #[.pointer (some ⟨w.heap.size, 0, none⟩), .pointer (some ⟨nb3, 0, none⟩)], .func (.func 75) #[] #[.pointer (some ⟨w.heap.size, 0, none⟩)], .func (.func 73) #[] #[.pointer (some ⟨w.heap.size, 0, none⟩), .pointer (some ⟨nb4, 0, none⟩)], .func (.func 73) #[] #[.pointer (some ⟨w.heap.size, 0, none⟩), .pointer (some ⟨nb5, 0, none⟩)], .func (.func 74) #[] #[], .func (.func 74) #[] #[], .func (.func 73) #[] #[.pointer (some ⟨w.heap.size, 0, none⟩), .pointer (some ⟨nb6, 0, none⟩)], .func (.func 73) #[] #[.pointer (some ⟨w.heap.size, 0, none⟩), .pointer (some ⟨nb7, 0, none⟩)], .func (.func 73) #[] #[.pointer (some ⟨w.heap.size, 0, none⟩), .pointer (some ⟨nb8, 0, none⟩)], .func (.func 73) #[] #[.pointer (some ⟨w.heap.size, 0, none⟩), .pointer (some ⟨nb9, 0, none⟩)]] : Array Value)[i]? = some u → W.cell? ⟨w9.heap.size, i, none⟩ = some u := fun i u h => by rw [← hW]; exact (World.cell?_alloc_new _ _ _ _).trans h
 have hWB : Below w9.heap.size w9 W := by rw [← hW]; exact (Below.refl _ _).alloc (Nat.le_refl _) _
 have hBW := hB9.trans (hWB.mono hB9.size)
 have hbb := zh hbb hWB
 have hc1 := zh hc1 hWB
 have hc2 := zh hc2 hWB
 have hc3 := zh hc3 hWB
 have hc4 := zh hc4 hWB
 have hc5 := zh hc5 hWB
 have hc6 := zh hc6 hWB
 have hc7 := zh hc7 hWB
 have hc8 := zh hc8 hWB
 have hc9 := zh hc9 hWB
 have hp0 := hpb 0 _ rfl
 have hp1 := hpb 1 _ rfl
 have hp2 := hpb 2 _ rfl
 have hp3 := hpb 3 _ rfl
 have hp4 := hpb 4 _ rfl
 have hp5 := hpb 5 _ rfl
 have hp6 := hpb 6 _ rfl
 have hp7 := hpb 7 _ rfl
 have hp8 := hpb 8 _ rfl
 have hp9 := hpb 9 _ rfl
 have hp10 := hpb 10 _ rfl
 have hp11 := hpb 11 _ rfl
 clear hpb hW hWB hB9
 go_loopw [37] (fun s wr => ∃ (k q : Nat), k ≤ M ∧ s = .int .i64 k ∧ (List.range k).all (yk b) = true ∧ wr = W.drewN q) (fun s _ => M - (RowKit.intOf s).toNat)
 case atStart => exact ⟨0, 0, by omega, rfl, rfl, rfl⟩
 case round =>
  obtain ⟨k, q, hk, rfl, hall, rfl⟩ := hrel
  by_cases hlt : k < M
  ·have hrr : RdB (W.drewN q) B A n c b := (Rd.below hr (hBW.mono hB)).drewN q
   have hBq := za hBW q
   have hkb := hM3 k hlt
   rcases (by omega : k = 0 ∨ k = 1 ∨ k = 2 ∨ k = 3 ∨ k = 4 ∨ k = 5 ∨ k = 6 ∨ k = 7 ∨ k = 8 ∨ k = 9 ∨ k = 10 ∨ k = 11) with rfl | rfl | rfl | rfl | rfl | rfl | rfl | rfl | rfl | rfl | rfl | rfl
   ·skip
    have hcl := xH A n c b B w.heap.size nb1 15 (W.drewN q) hrr hbb hc1 0 (by omega) hn
    have hpk : yk b 0 = decide ((b.getD 0 0).toNat ≤ 15) := rfl
    generalize decide ((b.getD 0 0).toNat ≤ 15) = pv at hcl hpk
    cases pv
    ·have hno := yO hkb (by omega) hpk
     clear hpk
     go_wp2_with (with_reducible refine h_A ?_)
     refine hcl.mono ?_
     rintro e w' ⟨rfl, q2, rfl⟩
     go_wp2_with (with_reducible refine h_A ?_)
     go_ret
     rw [hno]
     exact ⟨rfl, by first | exact za hBq _ | exact hBq | exact za hBW _⟩
    ·have hnx := yS hall hpk
     clear hpk
     go_wp2_with (with_reducible refine h_A ?_)
     refine hcl.mono ?_
     rintro e w' ⟨rfl, q2, rfl⟩
     go_wp2_with (with_reducible refine h_A ?_)
     exact ⟨⟨0 + 1, _, by omega, by go_num, hnx, by first | rfl | exact World.drewN_drewN _ _ _⟩, by simp [RowKit.intOf]; try omega⟩
   ·skip
    have hcl := xH A n c b B w.heap.size nb2 3 (W.drewN q) hrr hbb hc2 1 (by omega) hn
    have hpk : yk b 1 = decide ((b.getD 1 0).toNat ≤ 3) := rfl
    generalize decide ((b.getD 1 0).toNat ≤ 3) = pv at hcl hpk
    cases pv
    ·have hno := yO hkb (by omega) hpk
     clear hpk
     go_wp2_with (with_reducible refine h_A ?_)
     refine hcl.mono ?_
     rintro e w' ⟨rfl, q2, rfl⟩
     go_wp2_with (with_reducible refine h_A ?_)
     go_ret
     rw [hno]
     exact ⟨rfl, by first | exact za hBq _ | exact hBq | exact za hBW _⟩
    ·have hnx := yS hall hpk
     clear hpk
     go_wp2_with (with_reducible refine h_A ?_)
     refine hcl.mono ?_
     rintro e w' ⟨rfl, q2, rfl⟩
     go_wp2_with (with_reducible refine h_A ?_)
     exact ⟨⟨1 + 1, _, by omega, by go_num, hnx, by first | rfl | exact World.drewN_drewN _ _ _⟩, by simp [RowKit.intOf]; try omega⟩
   ·skip
    have hcl := xH A n c b B w.heap.size nb3 16 (W.drewN q) hrr hbb hc3 2 (by omega) hn
    have hpk : yk b 2 = decide ((b.getD 2 0).toNat ≤ 16) := rfl
    generalize decide ((b.getD 2 0).toNat ≤ 16) = pv at hcl hpk
    cases pv
    ·have hno := yO hkb (by omega) hpk
     clear hpk
     go_wp2_with (with_reducible refine h_A ?_)
     refine hcl.mono ?_
     rintro e w' ⟨rfl, q2, rfl⟩
     go_wp2_with (with_reducible refine h_A ?_)
     go_ret
     rw [hno]
     exact ⟨rfl, by first | exact za hBq _ | exact hBq | exact za hBW _⟩
    ·have hnx := yS hall hpk
     clear hpk
     go_wp2_with (with_reducible refine h_A ?_)
     refine hcl.mono ?_
     rintro e w' ⟨rfl, q2, rfl⟩
     go_wp2_with (with_reducible refine h_A ?_)
     exact ⟨⟨2 + 1, _, by omega, by go_num, hnx, by first | rfl | exact World.drewN_drewN _ _ _⟩, by simp [RowKit.intOf]; try omega⟩
   ·skip
    have hcl := J0 A n c b B w.heap.size (W.drewN q) hrr hbb (by omega) hn
    have hpk : yk b 3 = (decide (12 ≤ frN b) && decide (frN b ≤ 4096)) := rfl
    generalize (decide (12 ≤ frN b) && decide (frN b ≤ 4096)) = pv at hcl hpk
    cases pv
    ·have hno := yO hkb (by omega) hpk
     clear hpk
     go_wp2_with (with_reducible refine h_A ?_)
     refine hcl.mono ?_
     rintro e w' ⟨rfl, q2, rfl⟩
     go_wp2_with (with_reducible refine h_A ?_)
     go_ret
     rw [hno]
     exact ⟨rfl, by first | exact za hBq _ | exact hBq | exact za hBW _⟩
    ·have hnx := yS hall hpk
     clear hpk
     go_wp2_with (with_reducible refine h_A ?_)
     refine hcl.mono ?_
     rintro e w' ⟨rfl, q2, rfl⟩
     go_wp2_with (with_reducible refine h_A ?_)
     exact ⟨⟨3 + 1, _, by omega, by go_num, hnx, by first | rfl | exact World.drewN_drewN _ _ _⟩, by simp [RowKit.intOf]; try omega⟩
   ·skip
    have hcl := xH A n c b B w.heap.size nb4 0 (W.drewN q) hrr hbb hc4 4 (by omega) hn
    have hpk : yk b 4 = decide ((b.getD 4 0).toNat ≤ 0) := rfl
    generalize decide ((b.getD 4 0).toNat ≤ 0) = pv at hcl hpk
    cases pv
    ·have hno := yO hkb (by omega) hpk
     clear hpk
     go_wp2_with (with_reducible refine h_A ?_)
     refine hcl.mono ?_
     rintro e w' ⟨rfl, q2, rfl⟩
     go_wp2_with (with_reducible refine h_A ?_)
     go_ret
     rw [hno]
     exact ⟨rfl, by first | exact za hBq _ | exact hBq | exact za hBW _⟩
    ·have hnx := yS hall hpk
     clear hpk
     go_wp2_with (with_reducible refine h_A ?_)
     refine hcl.mono ?_
     rintro e w' ⟨rfl, q2, rfl⟩
     go_wp2_with (with_reducible refine h_A ?_)
     exact ⟨⟨4 + 1, _, by omega, by go_num, hnx, by first | rfl | exact World.drewN_drewN _ _ _⟩, by simp [RowKit.intOf]; try omega⟩
   ·skip
    have hcl := xH A n c b B w.heap.size nb5 15 (W.drewN q) hrr hbb hc5 5 (by omega) hn
    have hpk : yk b 5 = decide ((b.getD 5 0).toNat ≤ 15) := rfl
    generalize decide ((b.getD 5 0).toNat ≤ 15) = pv at hcl hpk
    cases pv
    ·have hno := yO hkb (by omega) hpk
     clear hpk
     go_wp2_with (with_reducible refine h_A ?_)
     refine hcl.mono ?_
     rintro e w' ⟨rfl, q2, rfl⟩
     go_wp2_with (with_reducible refine h_A ?_)
     go_ret
     rw [hno]
     exact ⟨rfl, by first | exact za hBq _ | exact hBq | exact za hBW _⟩
    ·have hnx := yS hall hpk
     clear hpk
     go_wp2_with (with_reducible refine h_A ?_)
     refine hcl.mono ?_
     rintro e w' ⟨rfl, q2, rfl⟩
     go_wp2_with (with_reducible refine h_A ?_)
     exact ⟨⟨5 + 1, _, by omega, by go_num, hnx, by first | rfl | exact World.drewN_drewN _ _ _⟩, by simp [RowKit.intOf]; try omega⟩
   ·skip
    have hpk : yk b 6 = true := by
     show decide ((b.getD 6 0).toNat ≤ 255) = true
     have hx : (b.getD 6 0).toNat < 256 := (b.getD 6 0).toNat_lt
     exact decide_eq_true (Nat.le_of_lt_succ hx)
    have hnx := yS hall hpk
    clear hpk
    go_wp2_with (with_reducible refine h_A ?_)
    refine (QF 6 _).mono ?_
    rintro e w' ⟨rfl, rfl⟩
    go_wp2_with (with_reducible refine h_A ?_)
    exact ⟨⟨6 + 1, q, by omega, by go_num, hnx, rfl⟩, by simp [RowKit.intOf]; try omega⟩
   ·skip
    have hpk : yk b 7 = true := by
     show decide ((b.getD 7 0).toNat ≤ 255) = true
     have hx : (b.getD 7 0).toNat < 256 := (b.getD 7 0).toNat_lt
     exact decide_eq_true (Nat.le_of_lt_succ hx)
    have hnx := yS hall hpk
    clear hpk
    go_wp2_with (with_reducible refine h_A ?_)
    refine (QF 7 _).mono ?_
    rintro e w' ⟨rfl, rfl⟩
    go_wp2_with (with_reducible refine h_A ?_)
    exact ⟨⟨7 + 1, q, by omega, by go_num, hnx, rfl⟩, by simp [RowKit.intOf]; try omega⟩
   ·skip
    have hcl := xH A n c b B w.heap.size nb6 0 (W.drewN q) hrr hbb hc6 8 (by omega) hn
    have hpk : yk b 8 = decide ((b.getD 8 0).toNat ≤ 0) := rfl
    generalize decide ((b.getD 8 0).toNat ≤ 0) = pv at hcl hpk
    cases pv
    ·have hno := yO hkb (by omega) hpk
     clear hpk
     go_wp2_with (with_reducible refine h_A ?_)
     refine hcl.mono ?_
     rintro e w' ⟨rfl, q2, rfl⟩
     go_wp2_with (with_reducible refine h_A ?_)
     go_ret
     rw [hno]
     exact ⟨rfl, by first | exact za hBq _ | exact hBq | exact za hBW _⟩
    ·have hnx := yS hall hpk
     clear hpk
     go_wp2_with (with_reducible refine h_A ?_)
     refine hcl.mono ?_
     rintro e w' ⟨rfl, q2, rfl⟩
     go_wp2_with (with_reducible refine h_A ?_)
     exact ⟨⟨8 + 1, _, by omega, by go_num, hnx, by first | rfl | exact World.drewN_drewN _ _ _⟩, by simp [RowKit.intOf]; try omega⟩
   ·skip
    have hcl := xH A n c b B w.heap.size nb7 0 (W.drewN q) hrr hbb hc7 9 (by omega) hn
    have hpk : yk b 9 = decide ((b.getD 9 0).toNat ≤ 0) := rfl
    generalize decide ((b.getD 9 0).toNat ≤ 0) = pv at hcl hpk
    cases pv
    ·have hno := yO hkb (by omega) hpk
     clear hpk
     go_wp2_with (with_reducible refine h_A ?_)
     refine hcl.mono ?_
     rintro e w' ⟨rfl, q2, rfl⟩
     go_wp2_with (with_reducible refine h_A ?_)
     go_ret
     rw [hno]
     exact ⟨rfl, by first | exact za hBq _ | exact hBq | exact za hBW _⟩
    ·have hnx := yS hall hpk
     clear hpk
     go_wp2_with (with_reducible refine h_A ?_)
     refine hcl.mono ?_
     rintro e w' ⟨rfl, q2, rfl⟩
     go_wp2_with (with_reducible refine h_A ?_)
     exact ⟨⟨9 + 1, _, by omega, by go_num, hnx, by first | rfl | exact World.drewN_drewN _ _ _⟩, by simp [RowKit.intOf]; try omega⟩
   ·skip
    have hcl := xH A n c b B w.heap.size nb8 0 (W.drewN q) hrr hbb hc8 10 (by omega) hn
    have hpk : yk b 10 = decide ((b.getD 10 0).toNat ≤ 0) := rfl
    generalize decide ((b.getD 10 0).toNat ≤ 0) = pv at hcl hpk
    cases pv
    ·have hno := yO hkb (by omega) hpk
     clear hpk
     go_wp2_with (with_reducible refine h_A ?_)
     refine hcl.mono ?_
     rintro e w' ⟨rfl, q2, rfl⟩
     go_wp2_with (with_reducible refine h_A ?_)
     go_ret
     rw [hno]
     exact ⟨rfl, by first | exact za hBq _ | exact hBq | exact za hBW _⟩
    ·have hnx := yS hall hpk
     clear hpk
     go_wp2_with (with_reducible refine h_A ?_)
     refine hcl.mono ?_
     rintro e w' ⟨rfl, q2, rfl⟩
     go_wp2_with (with_reducible refine h_A ?_)
     exact ⟨⟨10 + 1, _, by omega, by go_num, hnx, by first | rfl | exact World.drewN_drewN _ _ _⟩, by simp [RowKit.intOf]; try omega⟩
   ·skip
    have hcl := xH A n c b B w.heap.size nb9 0 (W.drewN q) hrr hbb hc9 11 (by omega) hn
    have hpk : yk b 11 = decide ((b.getD 11 0).toNat ≤ 0) := rfl
    generalize decide ((b.getD 11 0).toNat ≤ 0) = pv at hcl hpk
    cases pv
    ·have hno := yO hkb (by omega) hpk
     clear hpk
     go_wp2_with (with_reducible refine h_A ?_)
     refine hcl.mono ?_
     rintro e w' ⟨rfl, q2, rfl⟩
     go_wp2_with (with_reducible refine h_A ?_)
     go_ret
     rw [hno]
     exact ⟨rfl, by first | exact za hBq _ | exact hBq | exact za hBW _⟩
    ·have hnx := yS hall hpk
     clear hpk
     go_wp2_with (with_reducible refine h_A ?_)
     refine hcl.mono ?_
     rintro e w' ⟨rfl, q2, rfl⟩
     go_wp2_with (with_reducible refine h_A ?_)
     exact ⟨⟨11 + 1, _, by omega, by go_num, hnx, by first | rfl | exact World.drewN_drewN _ _ _⟩, by simp [RowKit.intOf]; try omega⟩
  ·obtain rfl : k = M := by omega
   have HA := Lib.hid hall
   clear hall
   go_wp2_with (with_reducible refine h_A ?_)
   go_ret
   rw [HWL.out, HA.out]
   exact ⟨rfl, za hBW q⟩
end Go.PH
end
section
namespace Go.PH
open Go.RowKit Go.Proofs
def yf (b : List UInt8) (i : Nat) : Nat := (b.getD i 0).toNat
def frAt (b : List UInt8) (n : Nat) : Fr := ⟨yf b 0 / 8 % 2 == 1, yf b 0 / 4 % 2 == 1, yf b 0 / 2 % 2 == 1, yf b 0 % 2 == 1, yf b 1, yf b 5, 256 * yf b 6 + yf b 7, (b.take n).drop 12⟩
def xE : Nat → List UInt8 → List Fr × Nat × Nat
 | 0, _ => ([], 0, 0)
 | k + 1, b => if zW b = false then ([], 0, 60) else if b.length < 12 then ([], 0, 0) else if b.length < frN b then ([], 0, 0) else
  (frAt b (frN b) :: (xE k (b.drop (frN b))).1, frN b + (xE k (b.drop (frN b))).2.1, (xE k (b.drop (frN b))).2.2)
def zk (b : List UInt8) : List Fr × Nat × Nat := xE (b.length + 1) b
theorem xX {b : List UInt8} (h : zW b = true) (hl : 4 ≤ b.length) : 12 ≤ frN b ∧ frN b ≤ 4096 := by
 unfold zW at h
 rw [List.all_eq_true] at h
 have := h 3 (List.mem_range.2 (by omega))
 simpa [yk] using this
theorem yZ {b : List UInt8} (h : zW b = true) {k : Nat} (hk : k < b.length) (hk2 : k < 12) (h3 : k ≠ 3) : yf b k ≤ YZ k := by
 unfold zW at h
 rw [List.all_eq_true] at h
 have := h k (List.mem_range.2 (by omega))
 simpa [yk, h3, yf] using this
theorem jV : ∀ (k j : Nat) (b : List UInt8), b.length < k → b.length < j → xE k b = xE j b
 | 0, _, b, h, _ => by omega
 | _, 0, b, _, h => by omega
 | k + 1, j + 1, b, hk, hj => by
  rw [xE, xE]
  split
  ·rfl
  ·split
   ·rfl
   ·split
    ·rfl
    ·rename_i h1 h2 h3
     have hn := (xX (by simpa using h1) (by omega)).1
     have hl : (b.drop (frN b)).length < k ∧ (b.drop (frN b)).length < j := by simp; omega
     rw [jV k j _ hl.1 hl.2]
theorem xI {b : List UInt8} (h : zW b = false) : zk b = ([], 0, 60) := by rw [zk, xE, if_pos h]
theorem xr {b : List UInt8} (h : zW b = true) (hl : b.length < 12) : zk b = ([], 0, 0) := by rw [zk, xE, if_neg (by simp [h]), if_pos hl]
theorem xO {b : List UInt8} (h : zW b = true) (hl : 12 ≤ b.length) (hn : b.length < frN b) : zk b = ([], 0, 0) := by rw [zk, xE, if_neg (by simp [h]), if_neg (by omega), if_pos hn]
theorem xh {b : List UInt8} (h : zW b = true) (hl : 12 ≤ b.length) (hn : frN b ≤ b.length) : zk b = (frAt b (frN b) :: (zk (b.drop (frN b))).1, frN b + (zk (b.drop (frN b))).2.1, (zk (b.drop (frN b))).2.2) := by
 have h12 := (xX h (by omega)).1
 rw [zk, xE, if_neg (by simp [h]), if_neg (by omega), if_neg (by omega), jV b.length ((b.drop (frN b)).length + 1) _ (by simp; omega) (by omega)]
 rfl
theorem Vo (b : List UInt8) (n : Nat) : (frAt b n).wf := by
 have h : ∀ i, yf b i < 256 := fun i => (b.getD i 0).toNat_lt
 exact ⟨h 1, h 5, by show 256 * yf b 6 + yf b 7 < 65536; have := h 6; have := h 7; omega⟩
def frC (f : Fr) : List Value := [.bool f.first, .bool f.last, .bool f.beg, .bool f.fin, .int .u8 (f.ty : Int), .int .u8 (f.track : Int), .int .u16 (f.chan : Int), .string (str f.load)]
theorem jG : RecShape frC 8 where
 len := fun _ => rfl
 one := fun a u hu => by simp [frC] at hu; rcases hu with rfl | rfl | rfl | rfl | rfl | rfl | rfl | rfl <;> rfl
 pos := by omega
theorem slF : SlT Tryz.prog 65 97 8 24 (.agg #[.bool false, .bool false, .bool false, .bool false, .int .u8 0, .int .u8 0, .int .u16 0, .string ⟨#[]⟩]) := SlT.mk' Tryz.underlying65 (by kernel_rfl) rfl (by omega)
abbrev OwnF (w : World) (base : Nat) (A : Option Addr) (n c : Nat) (l : List Fr) : Prop := Own w base 97 8 A n c (rowC frC l)
theorem Vp : ∀ x : Fin 16, ((bits .and .u8 ((x.val : Nat) : Int) 8 != 0) = (x.val / 8 % 2 == 1)) ∧ ((bits .and .u8 ((x.val : Nat) : Int) 4 != 0) = (x.val / 4 % 2 == 1)) ∧ ((bits .and .u8 ((x.val : Nat) : Int) 2 != 0) = (x.val / 2 % 2 == 1)) ∧ ((bits .and .u8 ((x.val : Nat) : Int) 1 != 0) = (x.val % 2 == 1)) := by decide +kernel
end Go.PH
end
section
namespace Go.PH
open Go.RowKit Go.Proofs
structure BPl (T size off : Nat) : Prop where
 lies : liesAt Tryz.prog Tryz.prog.depth T (size / Tryz.prog.cellsOf T) off 59 1 = true
 lt : off + 1 < size
theorem xt {w : World} {g T off : Nat} {cs : Array Value} (hb : Box w g T cs) (u : Value) : Box (w.setCell ⟨g, off, none⟩ u) g T (cs.setIfInBounds off u) := by
 unfold Box at hb ⊢
 simp [World.setCell, Array.getElem?_modify, hb]
theorem yv (w : World) (g off : Nat) (u : Value) : w.grownBy (w.setCell ⟨g, off, none⟩ u) (some g) :=
 ⟨rfl, rfl, rfl, by simp [World.setCell], fun k _ hk => Below.heap_setCell _ _ _ _ (fun e => hk (by simp [e]))⟩
theorem J2 (w : World) (g off : Nat) (u : Value) : (w.setCell ⟨g, off, none⟩ u).heap.size = w.heap.size := by simp [World.setCell]
def bPtr (g off : Nat) : Value := .pointer (some ⟨g, off, none⟩)
theorem yz {P : Program} {w : World} {ops : Array Oper} {Q : Exit → Act → World → Prop} {rest : List Oper} {a : Act} {o : Oper} {x y : Operand} {g t ty j : Nat} {cs : Array Value} {v : Value} (hw : Region.wanted o (yielded ops a.tmps) = true) (ho : o.op = .store ty x y) (hx : a.eval x = .pointer (some ⟨g, j, none⟩)) (hy : a.eval y = v)
  (hb : Box w g t cs) (hv : v.cells.toList = [v]) (hi : (P.info? ty).map (·.size) = some 1) (hj : j < cs.size)
  (h : ∀ w', Box w' g t (cs.setIfInBounds j v) → w.grownBy w' (some g) → w'.heap.size = w.heap.size → wpList P ops Q rest (a.put o.dst undef) w') (h1 : v.oneCell' = true := by rfl) : wpList P ops Q (o :: rest) a w :=
 zm hw ho hx hy hb hv hi (by simp; omega) (by simpa using h1) (cs.setIfInBounds j v) (by
  apply Array.ext'
  simp only [Array.toList_setIfInBounds]
  rw [List.set_eq_take_append_cons_drop, if_pos (by simpa using hj)]
  simp) h
theorem j9 {w : World} {base n c : Nat} {A : Option Addr} {l : List UInt8} (h : Own w base 5 1 A n c (l.map u8v)) : l.length = n := by have := h.1; simpa using this
theorem jp {T size off g : Nat} (hp : BPl T size off) (w : World) (cs : Array Value) (hb : Box w g T cs) (hs : cs.size = size) (p : Value) (h0 : cs[off]? = some p) (hpp : p = .pointer none ∨ p = bPtr g off) :
  Calls Tryz.prog 49 #[.pointer (some ⟨g, off, none⟩)] w fun e w' => e = .returned (.tuple #[]) ∧ Box w' g T (cs.setIfInBounds off (bPtr g off)) ∧ w.grownBy w' (some g) ∧ w'.heap.size = w.heap.size := by
 obtain ⟨j, hj, hjs⟩ := Option.map_eq_some_iff.1 (show (Tryz.prog.info? 59).map (·.size) = some 2 by kernel_rfl)
 have hsh : w.shape? g = some (T, size) := by unfold Box at hb; simp [World.shape?, hb, hs]
 have hfz := hb.thaw off
 have c0 := hb.cell h0
 rcases hpp with rfl | rfl
 ·have hU1 := Lib.run_to_unsafe (P := Tryz.prog) w ⟨g, off, none⟩ Tryz.underlying57 Tryz.underlying139 hj (by rw [hjs]; decide) hsh (by have := hp.lt; exact Nat.lt_of_succ_lt this)
  have hU2 := Lib.run_from_unsafe (P := Tryz.prog) w ⟨g, off, none⟩ Tryz.underlying139 Tryz.underlying57 hj hsh hp.lies
  have hF := xt hb (off := off) (bPtr g off)
  have hG := yv w g off (bPtr g off)
  have hZ := J2 w g off (bPtr g off)
  have HQ := Lib.hid (And.intro hF (And.intro hG hZ))
  clear hF hG hZ
  go_enter Tryz.func49, Tryz.ntmps49
  go_wp2
  rw [run_callFunc_extern Tryz.func68 (by kernel_rfl) (by kernel_rfl) (by kernel_rfl) (e := Extern.AbiNoEscape.same) (by kernel_rfl)]
  rw [Lib.run_noEscape]
  simp only [Result.andThen]
  rw [Oper.upon_value]
  go_wp2
  go_end0
  exact ⟨rfl, HQ.out⟩
 ·have hne := Lib.run_neq_ptr_same (P := Tryz.prog) w (⟨g, off, none⟩ : Addr) Tryz.underlying57 hj
  have hcs : cs.setIfInBounds off (bPtr g off) = cs := by
   apply Array.ext
   ·simp
   ·intro i h1 h2
    rw [Array.getElem_setIfInBounds]
    ·split
     ·rename_i e; subst e; rw [Array.getElem?_eq_getElem h2] at h0; injection h0 with h0; exact h0.symm
     ·rfl
  rw [hcs]
  unfold bPtr at c0
  go_enter Tryz.func49, Tryz.ntmps49
  go_wp2
  go_end0
  exact ⟨rfl, hb, ⟨rfl, rfl, rfl, Nat.le_refl _, fun _ _ _ => rfl⟩, rfl⟩
theorem Y0 {cs : Array Value} {off : Nat} {u v : Value} (h : cs[off + 1]? = some v) : (cs.setIfInBounds off u)[off + 1]? = some v := by
 rw [Array.getElem?_setIfInBounds_ne (by omega)]; exact h
structure Wrote (w : World) (T g off base : Nat) (cs : Array Value) (A : Option Addr) (l : List UInt8) (w' : World) : Prop where
 ex : ∃ A2 c2, Box w' g T ((cs.setIfInBounds off (bPtr g off)).setIfInBounds (off + 1) (.slice A2 l.length c2)) ∧ Own w' base 5 1 A2 l.length c2 (l.map u8v) ∧ blk A2 ≠ some g ∧ (blk A2 = blk A ∨ ∀ k, blk A2 = some k → w.heap.size ≤ k)
 keep : KeepF (fun k => k = g ∨ blk A = some k) w w'
theorem Y1 {w w1 w2 w3 : World} {T g off base n m c2 : Nat} {cs : Array Value} {A A2 : Option Addr} {l : List UInt8} (hb : Box w g T cs) (hown : Own w base 5 1 A n m (l.map u8v)) (hne : blk A ≠ some g) {L : List UInt8} {N : Nat} (hN : N = L.length)
  (hb1 : Box w1 g T (cs.setIfInBounds off (bPtr g off))) (hg1 : w.grownBy w1 (some g)) (hz1 : w1.heap.size = w.heap.size) (ho2 : Own w2 base 5 1 A2 N c2 (L.map u8v)) (hg2 : w1.grownBy w2 (blk A)) (hA : blk A2 = blk A ∨ ∀ k, blk A2 = some k → w1.heap.size ≤ k)
  (hb3 : Box w3 g T ((cs.setIfInBounds off (bPtr g off)).setIfInBounds (off + 1) (.slice A2 N c2))) (hg3 : w2.grownBy w3 (some g)) : Wrote w T g off base cs A L w3 := by
 subst hN
 have hgl := hb.lt
 have hne2 : blk A2 ≠ some g := fun e => by
  rcases hA with h | h
  ·exact hne (by rw [← h, e])
  ·have := h g e; omega
 refine ⟨⟨A2, c2, hb3, zf ho2 hg3 (fun k hk e => hne2 (by rw [hk, ← e])), hne2, hA.imp id (fun h k hk => by have := h k hk; omega)⟩, ?_⟩
 refine ((KeepF.grown hg1 (fun k hk => .inl (.inl (by injection hk with hk; exact hk.symm)))).trans (.grown (F := fun k => k = g ∨ blk A = some k) hg2 (fun k hk => .inl (.inr hk))) (fun k hk => .inl hk)).trans (.grown (F := fun k => k = g ∨ blk A = some k) hg3 (fun k hk => .inl (.inl (by injection hk with hk; exact hk.symm)))) (fun k hk => .inl hk)
theorem Ys {w : World} {F : Nat → Prop} (g n : Nat) (hF : F g) : KeepF F w ((w.drew).freeze ⟨g, 0, none⟩ n) := by
 unfold World.freeze
 split
 ·exact .below (Below.drew (Below.refl _ w))
 ·refine ⟨by simp, fun k hk hn => ?_, ⟨rfl, rfl, rfl⟩⟩
  simp only [Array.getElem?_modify]
  rw [if_neg (fun e => hn (by rw [← e]; exact hF))]
  rfl
theorem ka {T off g base n c : Nat} (w : World) (cs : Array Value) (hb : Box w g T cs) (A : Option Addr) (l : List UInt8) (h1 : cs[off + 1]? = some (.slice A n c)) (hown : Own w base 5 1 A n c (l.map u8v)) :
  Calls Tryz.prog 27 #[.pointer (some ⟨g, off, none⟩)] w fun e w' => e = .returned (.string (str l)) ∧ KeepF (fun k => blk A = some k) w w' := by
 have k1 := hb.cell h1
 have hgl := hb.lt
 have hln := j9 hown
 have hUN := fun (W : World) (q : Option Addr) => Lib.run_unsafeString_none (P := Tryz.prog) W 99 3 9 q
 have HO := hown
 rcases hown.2 with ⟨hv, hx⟩ | ⟨gb, cap, cur, hv, hbg, hg, hnc, hcm, hcs, htake⟩
 ·injection hv with e1 e2 e3
  subst e1
  have hl0 : l = [] := List.eq_nil_of_length_eq_zero (by omega)
  subst hl0
  subst hx e3
  have k2 : w.drew.cell? ⟨g, off + 1, none⟩ = some (.slice none 0 0) := k1
  have hSD : (Builtin.unsafeSliceData_ #[55] 99 #[.slice none 0 0]).run Tryz.prog w.drew = .ok (.pointer none) w.drew := rfl
  clear hUN HO hown hln
  have hUS := Lib.run_unsafeString_none (P := Tryz.prog) w.drew 99 3 9 none
  clear hb h1 hgl
  go_enter Tryz.func27, Tryz.ntmps27
  go_wp2
  go_region
  all_goals (go_wp2; go_ret; exact ⟨rfl, .below (Below.drew (Below.refl _ w))⟩)
 ·injection hv with e1 e2 e3
  subst e1 e3
  have k2 : w.drew.cell? ⟨g, off + 1, none⟩ = some (.slice (some ⟨gb, 0, none⟩) n c) := k1
  by_cases hn0 : n = 0
  ·subst hn0
   have hl0 : l = [] := List.eq_nil_of_length_eq_zero hln
   subst hl0
   by_cases hc0 : c = 0
   ·subst hc0
    have hSD : (Builtin.unsafeSliceData_ #[55] 99 #[.slice (some ⟨gb, 0, none⟩) 0 0]).run Tryz.prog w.drew = .ok (.pointer (some ⟨w.drew.heap.size, 0, none⟩)) (w.drew.alloc (.view ⟨gb, 0, none⟩ 5)) :=
     Lib.run_unsafeSliceData_zero w.drew _ _ 5 Tryz.underlying99 ⟨gb, 0, none⟩ 0 (5, cur.size) (by have hg' : w.drew.heap[gb]? = some (.cells cur 5 (0, 0)) := hg; simp [World.shape?, hg'])
    have hb2 : Box (w.drew.alloc (.view ⟨gb, 0, none⟩ 5)) g T cs := (show Box w.drew g T cs from hb).alloc _
    have k3 : (w.drew.alloc (.view ⟨gb, 0, none⟩ 5)).cell? ⟨g, off + 1, none⟩ = some (.slice (some ⟨gb, 0, none⟩) 0 0) := hb2.cell h1
    have k4 : (w.alloc (.view ⟨gb, 0, none⟩ 5)).drew.cell? ⟨g, off + 1, none⟩ = some (.slice (some ⟨gb, 0, none⟩) 0 0) := k3
    clear HO hown hln hb h1 hgl hg hnc hcm hcs htake hbg hb2
    go_enter Tryz.func27, Tryz.ntmps27
    go_wp2
    go_region
    all_goals (go_wp2; go_ret; exact ⟨rfl, .below ((Below.drew (Below.refl _ w)).alloc (Nat.le_refl _) _)⟩)
   ·have hSD : (Builtin.unsafeSliceData_ #[55] 99 #[.slice (some ⟨gb, 0, none⟩) 0 c]).run Tryz.prog w.drew = .ok (.pointer (some ⟨gb, 0, none⟩)) w.drew :=
     Lib.run_unsafeSliceData_row _ _ _ _ _ _ hc0
    clear HO hown hln hb h1 hgl hg hnc hcm hcs htake hbg hc0
    go_enter Tryz.func27, Tryz.ntmps27
    go_wp2
    go_region
    all_goals (go_wp2; go_ret; exact ⟨rfl, .below (Below.drew (Below.refl _ w))⟩)
  ·have hl0 : l ≠ [] := fun e => hn0 (by rw [← hln, e]; rfl)
   have hSD : (Builtin.unsafeSliceData_ #[55] 99 #[.slice (some ⟨gb, 0, none⟩) n c]).run Tryz.prog w.drew = .ok (.pointer (some ⟨gb, 0, none⟩)) w.drew :=
    Lib.run_unsafeSliceData_row _ _ _ _ _ _ (by omega)
   have hUS : (Builtin.unsafeString_ #[99, 3] 9 #[.pointer (some ⟨gb, 0, none⟩), .int .i64 (n : Int)]).run Tryz.prog w.drew = .ok (.string (str l)) (w.drew.freeze ⟨gb, 0, none⟩ n) := by
    have := Lib.run_unsafeString_row (P := Tryz.prog) w.drew 99 3 9 5 Tryz.underlying99 (by kernel_rfl) gb cur.size (by have hg' : w.drew.heap[gb]? = some (.cells cur 5 (0, 0)) := hg; simp [World.shape?, hg']) l hl0 (by rw [hcs]; omega) (by unfold maxLen at hcm; omega) (by
     intro j x hx
     have := HO.cells (g := gb) rfl j (.int .u8 x.toNat) (by simp [u8v, hx])
     exact this)
    rw [hln] at this
    exact this
   have HK := Lib.hid (Ys (w := w) (F := fun k => blk (some (⟨gb, 0, none⟩ : Addr)) = some k) gb n rfl)
   have hnb : (n : Int) ≤ 9223372036854775807 := by unfold maxLen at hcm; omega
   clear HO hown hln hb h1 hgl hg hnc hcm hcs htake hbg hn0 hl0
   go_enter Tryz.func27, Tryz.ntmps27
   go_wp2
   go_region
   all_goals (go_wp2; go_ret; exact ⟨rfl, HK.out⟩)
end Go.PH
end
section
namespace Go.PH
open Go.RowKit Go.Proofs
theorem vX {T size off g base n c : Nat} (hp : BPl T size off) (w : World) (cs : Array Value) (hb : Box w g T cs) (hs : cs.size = size) (p : Value) (h0 : cs[off]? = some p) (hpp : p = .pointer none ∨ p = bPtr g off) (A : Option Addr) (l s : List UInt8) (h1 : cs[off + 1]? = some (.slice A n c))
  (hown : Own w base 5 1 A n c (l.map u8v)) (hne : blk A ≠ some g) (hbase : base ≤ w.heap.size) (hsz : n + s.length ≤ 100000000000) :
  Calls Tryz.prog 35 #[.pointer (some ⟨g, off, none⟩), .string (str s)] w fun e w' => e = .returned (.tuple #[.int .i64 (s.length : Int), .nilIface]) ∧ Wrote w T g off base cs A (l ++ s) w' := by
 have hln := j9 hown
 have hck := jp hp w cs hb hs p h0 hpp
 have hss := zj s
 have hsl : s.length ≤ 100000000000 := by omega
 have HN : Hid (n + s.length = (l ++ s).length) := Lib.hid (by simp [hln])
 clear hln
 go_enter Tryz.func35, Tryz.ntmps35
 go_wp2_with (with_reducible refine h_B ?_)
 refine hck.mono ?_
 rintro e w1 ⟨rfl, hb1, hg1, hz1⟩
 have k1 := hb1.cell (Y0 h1)
 have ho1 := zf hown hg1 (fun k hk e => hne (by rw [hk, ← e]))
 have hbase1 : base ≤ w1.heap.size := by omega
 have HZ := Lib.hid hz1
 clear hz1
 go_wp2_with (with_reducible refine h_B ?_)
 refine zc (qs slB Tryz.underlying9 rfl rfl rfl rfl ho1 hsz hbase1 ?_)
 intro A2 c2 w2 ho2 hg2 hA2
 rw [← List.map_append] at ho2
 have hb2 := hb1.grown hg2 (fun e => hne e.symm)
 have hlt : off + 1 < (cs.setIfInBounds off (bPtr g off)).size := by rw [Array.size_setIfInBounds, hs]; exact hp.lt
 go_wp2_with (with_reducible refine h_B ?_)
 refine zc (yz rfl rfl rfl rfl hb2 (j := off + 1) (v := .slice A2 (n + s.length) c2) rfl (by kernel_rfl) hlt ?_)
 intro w3 hb3 hg3 hz3
 clear hz3
 go_wp2_with (with_reducible refine h_B ?_)
 go_ret2
 exact ⟨rfl, Y1 hb hown hne HN.out hb1 hg1 HZ.out ho2 hg2 hA2 hb3 hg3⟩
theorem Xy {T size off g base n c m c' B : Nat} (hp : BPl T size off) (w : World) (cs : Array Value) (hb : Box w g T cs) (hs : cs.size = size) (p : Value) (h0 : cs[off]? = some p) (hpp : p = .pointer none ∨ p = bPtr g off) (A A' : Option Addr) (l s : List UInt8) (h1 : cs[off + 1]? = some (.slice A n c))
  (hown : Own w base 5 1 A n c (l.map u8v)) (hne : blk A ≠ some g) (hbase : base ≤ w.heap.size) (hr : RdB w B A' m c' s) (hrg : blk A' ≠ some g) (hsz : n + m ≤ 100000000000) :
  Calls Tryz.prog 46 #[.pointer (some ⟨g, off, none⟩), .slice A' m c'] w fun e w' => e = .returned (.tuple #[.int .i64 (m : Int), .nilIface]) ∧ Wrote w T g off base cs A (l ++ s) w' := by
 have hln := j9 hown
 have hck := jp hp w cs hb hs p h0 hpp
 have hsl : m ≤ 100000000000 := by omega
 have HN : Hid (n + m = (l ++ s).length) := Lib.hid (by simp [hln, hr.length])
 clear hln
 go_enter Tryz.func46, Tryz.ntmps46
 go_wp2_with (with_reducible refine h_B ?_)
 refine hck.mono ?_
 rintro e w1 ⟨rfl, hb1, hg1, hz1⟩
 have k1 := hb1.cell (Y0 h1)
 have ho1 := zf hown hg1 (fun k hk e => hne (by rw [hk, ← e]))
 have hr1 : RdB w1 B A' m c' s := ⟨hr.len, hr.cap, hr.max, fun hm => by
  obtain ⟨b, o, e, hbB, hc⟩ := hr.at_ hm
  refine ⟨b, o, e, hbB, fun j u hu => ?_⟩
  have h3 := hc j u hu
  have hbl : b < w.heap.size := World.block_lt_of_cell? _ _ h3
  have hbg : b ≠ g := fun e' => hrg (by rw [e, e']; rfl)
  have hh := hg1.block b hbl (fun e' => hbg (by injection e'))
  rw [← h3]
  simp only [World.cell?, hh]⟩
 have hbase1 : base ≤ w1.heap.size := by omega
 have HZ := Lib.hid hz1
 clear hz1
 go_wp2_with (with_reducible refine h_B ?_)
 refine zc (yn slB rfl rfl rfl rfl ho1 hr1 (zU _) (by omega) (by simp [maxLen]; omega) hbase1 ?_)
 intro A2 c2 w2 ho2 hg2 hA2
 rw [← List.map_append] at ho2
 have hb2 := hb1.grown hg2 (fun e => hne e.symm)
 have hlt : off + 1 < (cs.setIfInBounds off (bPtr g off)).size := by rw [Array.size_setIfInBounds, hs]; exact hp.lt
 have hA3 : blk A2 = blk A ∨ ∀ k, blk A2 = some k → w1.heap.size ≤ k := hA2.imp id (fun e k hk => by rw [e] at hk; injection hk with hk; omega)
 clear hA2
 go_wp2_with (with_reducible refine h_B ?_)
 refine zc (yz rfl rfl rfl rfl hb2 (j := off + 1) (v := .slice A2 (n + m) c2) rfl (by kernel_rfl) hlt ?_)
 intro w3 hb3 hg3 hz3
 clear hz3
 go_wp2_with (with_reducible refine h_B ?_)
 go_ret2
 exact ⟨rfl, Y1 hb hown hne HN.out hb1 hg1 HZ.out ho2 hg2 hA3 hb3 hg3⟩
theorem kD {T off g : Nat} (w : World) (cs : Array Value) (hb : Box w g T cs) (h0 : off + 1 < cs.size) :
  Calls Tryz.prog 24 #[.pointer (some ⟨g, off, none⟩)] w fun e w' => e = .returned (.tuple #[]) ∧ Box w' g T ((cs.setIfInBounds off (.pointer none)).setIfInBounds (off + 1) (.slice none 0 0)) ∧ w.grownBy w' (some g) ∧ w'.heap.size = w.heap.size := by
 have hlt : off < cs.size := by omega
 go_enter Tryz.func24, Tryz.ntmps24
 go_wp2_with (with_reducible refine h_B ?_)
 refine zc (yz rfl rfl rfl rfl hb (j := off) (v := .pointer none) rfl (by kernel_rfl) hlt ?_)
 intro w1 hb1 hg1 hz1
 have HZ := Lib.hid hz1
 clear hz1
 have hlt2 : off + 1 < (cs.setIfInBounds off (.pointer none)).size := by rw [Array.size_setIfInBounds]; exact h0
 go_wp2_with (with_reducible refine h_B ?_)
 refine zc (yz rfl rfl rfl rfl hb1 (j := off + 1) (v := .slice none 0 0) rfl (by kernel_rfl) hlt2 ?_)
 intro w2 hb2 hg2 hz2
 have HZ2 := Lib.hid hz2
 clear hz2
 go_wp2_with (with_reducible refine h_B ?_)
 go_end0
 exact ⟨rfl, hb2, World.grownBy.trans hg1 hg2, HZ2.out.trans HZ.out⟩
end Go.PH
end

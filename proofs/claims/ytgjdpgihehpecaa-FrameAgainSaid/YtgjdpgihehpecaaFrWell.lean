/- The walk of frame's well. -/
import Derived.Test.YtgjdpgihehpecaaFrMath
import Derived.Test.YtgjdpgihehpecaaSlB
import Derived.Test.YtgjdpgihehpecaaRegion2
import Derived.Deep.QuietTactic
import Derived.BigQuiet
import Derived.Laws.BitsAllLaws
import Derived.Laws.Bits64
namespace Go.PH
open Go.RowKit Go.Proofs

def frMost : Nat → Nat
  | 0 => 15 | 1 => 3 | 2 => 16 | 3 => 255 | 4 => 0 | 5 => 15 | 6 => 255 | 7 => 255 | _ => 0
def frN (b : List UInt8) : Nat := 256 * (b.getD 2 0).toNat + (b.getD 3 0).toNat
def placeOk (b : List UInt8) (k : Nat) : Bool := if k = 3 then decide (12 ≤ frN b) && decide (frN b ≤ 4096) else decide ((b.getD k 0).toNat ≤ frMost k)
def frWell (b : List UInt8) : Bool := (List.range (min b.length 12)).all (placeOk b)
theorem up_any (p : Option Addr) (n : Nat) (w : World) :
    Calls Try.prog 30 #[.int .u8 n, .pointer p] w fun e w' => e = .returned (.func (.func 31) #[] #[.pointer p, .pointer (some ⟨w.heap.size, 0, none⟩)]) ∧ w' = w.alloc (.cells #[.int .u8 n] 5) := by
  go_enter Try.func30, Try.ntmps30
  go_wp2_with (first | (with_reducible refine hold_append ?_) | (with_reducible refine hold_make ?_) | (with_reducible refine hold_copy ?_))
  go_ret
  exact ⟨rfl, rfl⟩
theorem upto_any (A : Option Addr) (n c : Nat) (b : List UInt8) (B bb nb m : Nat) (w : World) (hr : RdB w B A n c b) (hb : w.cell? ⟨bb, 0, none⟩ = some (.slice A n c)) (hn : w.cell? ⟨nb, 0, none⟩ = some (.int .u8 m)) (i : Nat) (hi : i < n) (hnn : n ≤ 140737488355328) :
    Calls Try.prog 31 #[.int .i64 i, .pointer (some ⟨bb, 0, none⟩), .pointer (some ⟨nb, 0, none⟩)] w fun e w' => e = .returned (.bool (decide ((b.getD i 0).toNat ≤ m))) ∧ ∃ q, w' = w.drewN q := by
  obtain ⟨bk, off, rfl, _, hl, hc⟩ := RdB.at_k hr hi
  have e : b.getD i 0 = b[i] := by simp [List.getD, List.getElem?_eq_getElem hl]
  have hx := b[i].toNat_lt
  rw [e]
  generalize b[i].toNat = x at *
  have hd : decide ((x : Int) ≤ (m : Int)) = decide (x ≤ m) := by rw [Bool.eq_iff_iff]; simp
  go_enter Try.func31, Try.ntmps31
  go_wp2_with (first | (with_reducible refine hold_append ?_) | (with_reducible refine hold_make ?_) | (with_reducible refine hold_copy ?_))
  go_quiet (fail)
  go_wp2_with (first | (with_reducible refine hold_append ?_) | (with_reducible refine hold_make ?_) | (with_reducible refine hold_copy ?_))
  go_ret
  exact ⟨by first | rfl | simp [hd], _, rfl⟩
theorem any_any (i : Nat) (w : World) : Calls Try.prog 32 #[.int .i64 i] w fun e w' => e = .returned (.bool true) ∧ w' = w := by
  go_enter Try.func32, Try.ntmps32
  go_wp2_with (first | (with_reducible refine hold_append ?_) | (with_reducible refine hold_make ?_) | (with_reducible refine hold_copy ?_))
  go_ret
  exact ⟨rfl, rfl⟩
theorem or_i64 (x y : Nat) (hx : x < 256) (hy : y < 256) : bits .or .i64 ((x : Int) * 256) (y : Int) = ((256 * x + y : Nat) : Int) := by
  have e : (x : Int) * 256 = ((256 * x : Nat) : Int) := by omega
  rw [e]
  show IntKind.i64.wrap ((BitVec.ofInt 64 ((256 * x : Nat) : Int) ||| BitVec.ofInt 64 (y : Int)).toNat : Int) = _
  have h2 := Nat.two_pow_add_eq_or_of_lt (i := 8) (b := y) (by omega) x
  rw [BitVec.toNat_or, ofInt_u64 _ (by omega), ofInt_u64 _ (by omega), show 256 * x = 2 ^ 8 * x by omega, ← h2]
  exact IntWalk.i64_in _ ⟨by omega, by omega⟩
theorem size_any (A : Option Addr) (n c : Nat) (b : List UInt8) (B bb : Nat) (w : World) (hr : RdB w B A n c b) (hb : w.cell? ⟨bb, 0, none⟩ = some (.slice A n c)) (h3 : 3 < n) (hnn : n ≤ 140737488355328) :
    Calls Try.prog 33 #[.int .i64 3, .pointer (some ⟨bb, 0, none⟩)] w fun e w' => e = .returned (.bool (decide (12 ≤ frN b) && decide (frN b ≤ 4096))) ∧ ∃ q, w' = w.drewN q := by
  obtain ⟨bk, off, rfl, _, hl3, hc3⟩ := RdB.at_k hr h3
  obtain ⟨bk', off', e', _, hl2, hc2⟩ := RdB.at_k hr (k := 2) (by omega)
  obtain ⟨rfl, rfl⟩ : bk = bk' ∧ off = off' := by simpa using e'
  have e2 : b.getD 2 0 = b[2] := by simp [List.getD, List.getElem?_eq_getElem hl2]
  have e3 : b.getD 3 0 = b[3] := by simp [List.getD, List.getElem?_eq_getElem hl3]
  have hx := b[2].toNat_lt
  have hy := b[3].toNat_lt
  unfold frN
  rw [e2, e3]
  generalize b[2].toNat = x at *
  generalize b[3].toNat = y at *
  have hor := or_i64 x y hx hy
  have h3' : (3 : Int) < (n : Int) := by omega
  have hW := fun (v : Bool) (hv : (decide (12 ≤ 256 * x + y) && decide (256 * x + y ≤ 4096)) = v) => Lib.hid hv
  by_cases h1 : 12 ≤ 256 * x + y
  · have d1 : (12 : Int) ≤ 256 * (x : Int) + (y : Int) := by omega
    by_cases h2 : 256 * x + y ≤ 4096
    · have d2 : 256 * (x : Int) + (y : Int) ≤ 4096 := by omega
      have HV := hW true (by simp [h1, h2])
      clear h1 h2 hW
      go_enter Try.func33, Try.ntmps33
      go_wp2_with (first | (with_reducible refine hold_append ?_) | (with_reducible refine hold_make ?_) | (with_reducible refine hold_copy ?_))
      go_quiet (fail)
      go_wp2_with (first | (with_reducible refine hold_append ?_) | (with_reducible refine hold_make ?_) | (with_reducible refine hold_copy ?_))
      go_ret
      rw [HV.out]
      exact ⟨rfl, _, rfl⟩
    · have d2 : decide (256 * (x : Int) + (y : Int) ≤ 4096) = false := by simp; omega
      have HV := hW false (by simp [h1, h2])
      clear h1 h2 hW
      go_enter Try.func33, Try.ntmps33
      go_wp2_with (first | (with_reducible refine hold_append ?_) | (with_reducible refine hold_make ?_) | (with_reducible refine hold_copy ?_))
      go_quiet (fail)
      go_wp2_with (first | (with_reducible refine hold_append ?_) | (with_reducible refine hold_make ?_) | (with_reducible refine hold_copy ?_))
      go_ret
      rw [HV.out]
      exact ⟨rfl, _, rfl⟩
  · have d1 : decide ((12 : Int) ≤ 256 * (x : Int) + (y : Int)) = false := by simp; omega
    have HV := hW false (by simp [h1])
    clear h1 hW
    go_enter Try.func33, Try.ntmps33
    go_wp2_with (first | (with_reducible refine hold_append ?_) | (with_reducible refine hold_make ?_) | (with_reducible refine hold_copy ?_))
    go_quiet (fail)
    go_wp2_with (first | (with_reducible refine hold_append ?_) | (with_reducible refine hold_make ?_) | (with_reducible refine hold_copy ?_))
    go_ret
    rw [HV.out]
    exact ⟨rfl, _, rfl⟩
theorem frWell_no {b : List UInt8} {k : Nat} (hk : k < b.length) (hk2 : k < 12) (h : placeOk b k = false) : frWell b = false := by
  unfold frWell
  rw [List.all_eq_false]
  exact ⟨k, List.mem_range.2 (by omega), by simp [h]⟩
theorem all_next {p : Nat → Bool} {k : Nat} (h : (List.range k).all p = true) (hp : p k = true) : (List.range (k + 1)).all p = true := by
  rw [List.range_succ, List.all_append, h]; simp [hp]
theorem up_some (p : Option Addr) (n : Nat) (w : World) :
    Calls Try.prog 30 #[.int .u8 n, .pointer p] w fun e w' => ∃ nb, e = .returned (.func (.func 31) #[] #[.pointer p, .pointer (some ⟨nb, 0, none⟩)]) ∧ w'.cell? ⟨nb, 0, none⟩ = some (.int .u8 n) ∧ Below w.heap.size w w' := by
  refine (up_any p n w).mono ?_
  rintro e w' ⟨rfl, rfl⟩
  exact ⟨_, rfl, World.cell?_alloc_new _ _ _ _, (Below.refl _ _).alloc (Nat.le_refl _) _⟩
theorem cell_stays {w w' : World} {a : Addr} {u : Value} (h : w.cell? a = some u) (hB : Below w.heap.size w w') : w'.cell? a = some u := (hB.cell (World.block_lt_of_cell? w _ h)).trans h
set_option maxRecDepth 20000 in
set_option maxHeartbeats 4000000 in
theorem well_any (A : Option Addr) (n c : Nat) (b : List UInt8) (B : Nat) (w : World) (hr : RdB w B A n c b) (hB : B ≤ w.heap.size) (hn : n ≤ 140737488355328) :
    Calls Try.prog 21 #[.slice A n c] w fun e w' => e = .returned (.bool (frWell b)) ∧ Below w.heap.size w w' := by
  have hl := RdB.length hr
  obtain ⟨M, hM⟩ : ∃ M, M = min n 12 := ⟨_, rfl⟩
  have hmin : (if (12 : Int) < (n : Int) then (12 : Int) else (n : Int)) = (M : Int) := by split <;> omega
  have hM1 : M ≤ n := by omega
  have hM2 : M ≤ 12 := by omega
  have HWL : Hid (frWell b = (List.range M).all (placeOk b)) := Lib.hid (by unfold frWell; rw [hl, ← hM])
  have hM3 : ∀ k, k < M → k < b.length := fun k h => by omega
  clear hM
  obtain ⟨w0, hw0⟩ : ∃ w0, w0 = w.alloc (.cells #[.slice A n c] 25) := ⟨_, rfl⟩
  have hB0 : Below w.heap.size w w0 := by rw [hw0]; exact (Below.refl _ _).alloc (Nat.le_refl _) _
  have hbb : w0.cell? ⟨w.heap.size, 0, none⟩ = some (.slice A n c) := by rw [hw0]; exact World.cell?_alloc_new _ _ _ _
  go_enter Try.func21, Try.ntmps21
  go_wp2_with (first | (with_reducible refine hold_append ?_) | (with_reducible refine hold_make ?_) | (with_reducible refine hold_copy ?_))
  have hup0 := up_some (some ⟨w.heap.size, 0, none⟩) 15 w0
  rw [hw0] at hup0
  refine hup0.mono ?_
  rintro e w1 ⟨nb1, rfl, hc1, hu1⟩
  rw [← hw0] at hu1
  clear hup0 hw0
  have hB1 := hB0.trans (hu1.mono hB0.size)
  have hbb := cell_stays hbb hu1
  clear hu1 hB0
  go_wp2_with (first | (with_reducible refine hold_append ?_) | (with_reducible refine hold_make ?_) | (with_reducible refine hold_copy ?_))
  refine (up_some (some ⟨w.heap.size, 0, none⟩) 3 w1).mono ?_
  rintro e w2 ⟨nb2, rfl, hc2, hu2⟩
  have hB2 := hB1.trans (hu2.mono hB1.size)
  have hbb := cell_stays hbb hu2
  have hc1 := cell_stays hc1 hu2
  clear hu2 hB1
  go_wp2_with (first | (with_reducible refine hold_append ?_) | (with_reducible refine hold_make ?_) | (with_reducible refine hold_copy ?_))
  refine (up_some (some ⟨w.heap.size, 0, none⟩) 16 w2).mono ?_
  rintro e w3 ⟨nb3, rfl, hc3, hu3⟩
  have hB3 := hB2.trans (hu3.mono hB2.size)
  have hbb := cell_stays hbb hu3
  have hc1 := cell_stays hc1 hu3
  have hc2 := cell_stays hc2 hu3
  clear hu3 hB2
  go_wp2_with (first | (with_reducible refine hold_append ?_) | (with_reducible refine hold_make ?_) | (with_reducible refine hold_copy ?_))
  refine (up_some (some ⟨w.heap.size, 0, none⟩) 0 w3).mono ?_
  rintro e w4 ⟨nb4, rfl, hc4, hu4⟩
  have hB4 := hB3.trans (hu4.mono hB3.size)
  have hbb := cell_stays hbb hu4
  have hc1 := cell_stays hc1 hu4
  have hc2 := cell_stays hc2 hu4
  have hc3 := cell_stays hc3 hu4
  clear hu4 hB3
  go_wp2_with (first | (with_reducible refine hold_append ?_) | (with_reducible refine hold_make ?_) | (with_reducible refine hold_copy ?_))
  refine (up_some (some ⟨w.heap.size, 0, none⟩) 15 w4).mono ?_
  rintro e w5 ⟨nb5, rfl, hc5, hu5⟩
  have hB5 := hB4.trans (hu5.mono hB4.size)
  have hbb := cell_stays hbb hu5
  have hc1 := cell_stays hc1 hu5
  have hc2 := cell_stays hc2 hu5
  have hc3 := cell_stays hc3 hu5
  have hc4 := cell_stays hc4 hu5
  clear hu5 hB4
  go_wp2_with (first | (with_reducible refine hold_append ?_) | (with_reducible refine hold_make ?_) | (with_reducible refine hold_copy ?_))
  refine (up_some (some ⟨w.heap.size, 0, none⟩) 0 w5).mono ?_
  rintro e w6 ⟨nb6, rfl, hc6, hu6⟩
  have hB6 := hB5.trans (hu6.mono hB5.size)
  have hbb := cell_stays hbb hu6
  have hc1 := cell_stays hc1 hu6
  have hc2 := cell_stays hc2 hu6
  have hc3 := cell_stays hc3 hu6
  have hc4 := cell_stays hc4 hu6
  have hc5 := cell_stays hc5 hu6
  clear hu6 hB5
  go_wp2_with (first | (with_reducible refine hold_append ?_) | (with_reducible refine hold_make ?_) | (with_reducible refine hold_copy ?_))
  refine (up_some (some ⟨w.heap.size, 0, none⟩) 0 w6).mono ?_
  rintro e w7 ⟨nb7, rfl, hc7, hu7⟩
  have hB7 := hB6.trans (hu7.mono hB6.size)
  have hbb := cell_stays hbb hu7
  have hc1 := cell_stays hc1 hu7
  have hc2 := cell_stays hc2 hu7
  have hc3 := cell_stays hc3 hu7
  have hc4 := cell_stays hc4 hu7
  have hc5 := cell_stays hc5 hu7
  have hc6 := cell_stays hc6 hu7
  clear hu7 hB6
  go_wp2_with (first | (with_reducible refine hold_append ?_) | (with_reducible refine hold_make ?_) | (with_reducible refine hold_copy ?_))
  refine (up_some (some ⟨w.heap.size, 0, none⟩) 0 w7).mono ?_
  rintro e w8 ⟨nb8, rfl, hc8, hu8⟩
  have hB8 := hB7.trans (hu8.mono hB7.size)
  have hbb := cell_stays hbb hu8
  have hc1 := cell_stays hc1 hu8
  have hc2 := cell_stays hc2 hu8
  have hc3 := cell_stays hc3 hu8
  have hc4 := cell_stays hc4 hu8
  have hc5 := cell_stays hc5 hu8
  have hc6 := cell_stays hc6 hu8
  have hc7 := cell_stays hc7 hu8
  clear hu8 hB7
  go_wp2_with (first | (with_reducible refine hold_append ?_) | (with_reducible refine hold_make ?_) | (with_reducible refine hold_copy ?_))
  refine (up_some (some ⟨w.heap.size, 0, none⟩) 0 w8).mono ?_
  rintro e w9 ⟨nb9, rfl, hc9, hu9⟩
  have hB9 := hB8.trans (hu9.mono hB8.size)
  have hbb := cell_stays hbb hu9
  have hc1 := cell_stays hc1 hu9
  have hc2 := cell_stays hc2 hu9
  have hc3 := cell_stays hc3 hu9
  have hc4 := cell_stays hc4 hu9
  have hc5 := cell_stays hc5 hu9
  have hc6 := cell_stays hc6 hu9
  have hc7 := cell_stays hc7 hu9
  have hc8 := cell_stays hc8 hu9
  clear hu9 hB8
  have hlt9 : w.heap.size < w9.heap.size := World.block_lt_of_cell? w9 _ hbb
  go_wp2_with (first | (with_reducible refine hold_append ?_) | (with_reducible refine hold_make ?_) | (with_reducible refine hold_copy ?_))
  generalize hW : w9.alloc (.cells #[.func (.func 31) #[] #[.pointer (some ⟨w.heap.size, 0, none⟩), .pointer (some ⟨nb1, 0, none⟩)], .func (.func 31) #[] #[.pointer (some ⟨w.heap.size, 0, none⟩), .pointer (some ⟨nb2, 0, none⟩)], .func (.func 31) #[] #[.pointer (some ⟨w.heap.size, 0, none⟩), .pointer (some ⟨nb3, 0, none⟩)], .func (.func 33) #[] #[.pointer (some ⟨w.heap.size, 0, none⟩)], .func (.func 31) #[] #[.pointer (some ⟨w.heap.size, 0, none⟩), .pointer (some ⟨nb4, 0, none⟩)], .func (.func 31) #[] #[.pointer (some ⟨w.heap.size, 0, none⟩), .pointer (some ⟨nb5, 0, none⟩)], .func (.func 32) #[] #[], .func (.func 32) #[] #[], .func (.func 31) #[] #[.pointer (some ⟨w.heap.size, 0, none⟩), .pointer (some ⟨nb6, 0, none⟩)], .func (.func 31) #[] #[.pointer (some ⟨w.heap.size, 0, none⟩), .pointer (some ⟨nb7, 0, none⟩)], .func (.func 31) #[] #[.pointer (some ⟨w.heap.size, 0, none⟩), .pointer (some ⟨nb8, 0, none⟩)], .func (.func 31) #[] #[.pointer (some ⟨w.heap.size, 0, none⟩), .pointer (some ⟨nb9, 0, none⟩)]] 58) = W
  have hpb : ∀ (i : Nat) u, (#[.func (.func 31) #[] #[.pointer (some ⟨w.heap.size, 0, none⟩), .pointer (some ⟨nb1, 0, none⟩)], .func (.func 31) #[] #[.pointer (some ⟨w.heap.size, 0, none⟩), .pointer (some ⟨nb2, 0, none⟩)], .func (.func 31) #[] #[.pointer (some ⟨w.heap.size, 0, none⟩), .pointer (some ⟨nb3, 0, none⟩)], .func (.func 33) #[] #[.pointer (some ⟨w.heap.size, 0, none⟩)], .func (.func 31) #[] #[.pointer (some ⟨w.heap.size, 0, none⟩), .pointer (some ⟨nb4, 0, none⟩)], .func (.func 31) #[] #[.pointer (some ⟨w.heap.size, 0, none⟩), .pointer (some ⟨nb5, 0, none⟩)], .func (.func 32) #[] #[], .func (.func 32) #[] #[], .func (.func 31) #[] #[.pointer (some ⟨w.heap.size, 0, none⟩), .pointer (some ⟨nb6, 0, none⟩)], .func (.func 31) #[] #[.pointer (some ⟨w.heap.size, 0, none⟩), .pointer (some ⟨nb7, 0, none⟩)], .func (.func 31) #[] #[.pointer (some ⟨w.heap.size, 0, none⟩), .pointer (some ⟨nb8, 0, none⟩)], .func (.func 31) #[] #[.pointer (some ⟨w.heap.size, 0, none⟩), .pointer (some ⟨nb9, 0, none⟩)]] : Array Value)[i]? = some u → W.cell? ⟨w9.heap.size, i, none⟩ = some u := fun i u h => by rw [← hW]; exact (World.cell?_alloc_new _ _ _ _).trans h
  have hWB : Below w9.heap.size w9 W := by rw [← hW]; exact (Below.refl _ _).alloc (Nat.le_refl _) _
  have hBW := hB9.trans (hWB.mono hB9.size)
  have hbb := cell_stays hbb hWB
  have hc1 := cell_stays hc1 hWB
  have hc2 := cell_stays hc2 hWB
  have hc3 := cell_stays hc3 hWB
  have hc4 := cell_stays hc4 hWB
  have hc5 := cell_stays hc5 hWB
  have hc6 := cell_stays hc6 hWB
  have hc7 := cell_stays hc7 hWB
  have hc8 := cell_stays hc8 hWB
  have hc9 := cell_stays hc9 hWB
  have hp0 := hpb 0 _ rfl
  have hp1 := hpb 1 _ rfl
  have hp2 := hpb 2 _ rfl
  have hp3 := hpb 3 _ rfl
  have hp4 := hpb 4 _ rfl
  have hp5 := hpb 5 _ rfl
  have hp6 := hpb 6 _ rfl
  have hp7 := hpb 7 _ rfl
  have hp8 := hpb 8 _ rfl
  have hp9 := hpb 9 _ rfl
  have hp10 := hpb 10 _ rfl
  have hp11 := hpb 11 _ rfl
  clear hpb hW hWB hB9
  go_loopw [37] (fun s wr => ∃ (k q : Nat), k ≤ M ∧ s = .int .i64 k ∧ (List.range k).all (placeOk b) = true ∧ wr = W.drewN q) (fun s _ => M - (intOf s).toNat)
  case atStart => exact ⟨0, 0, by omega, rfl, rfl, rfl⟩
  case round =>
    obtain ⟨k, q, hk, rfl, hall, rfl⟩ := hrel
    by_cases hlt : k < M
    · have hrr : RdB (W.drewN q) B A n c b := (Rd.below hr (hBW.mono hB)).drewN q
      have hBq := below_drewN hBW q
      have hkb := hM3 k hlt
      rcases (by omega : k = 0 ∨ k = 1 ∨ k = 2 ∨ k = 3 ∨ k = 4 ∨ k = 5 ∨ k = 6 ∨ k = 7 ∨ k = 8 ∨ k = 9 ∨ k = 10 ∨ k = 11) with rfl | rfl | rfl | rfl | rfl | rfl | rfl | rfl | rfl | rfl | rfl | rfl
      · skip
        have hcl := upto_any A n c b B w.heap.size nb1 15 (W.drewN q) hrr hbb hc1 0 (by omega) hn
        have hpk : placeOk b 0 = decide ((b.getD 0 0).toNat ≤ 15) := rfl
        generalize decide ((b.getD 0 0).toNat ≤ 15) = pv at hcl hpk
        cases pv
        · have hno := frWell_no hkb (by omega) hpk
          clear hpk
          go_wp2_with (first | (with_reducible refine hold_append ?_) | (with_reducible refine hold_make ?_) | (with_reducible refine hold_copy ?_))
          refine hcl.mono ?_
          rintro e w' ⟨rfl, q2, rfl⟩
          go_wp2_with (first | (with_reducible refine hold_append ?_) | (with_reducible refine hold_make ?_) | (with_reducible refine hold_copy ?_))
          go_ret
          rw [hno]
          exact ⟨rfl, by first | exact below_drewN hBq _ | exact hBq | exact below_drewN hBW _⟩
        · have hnx := all_next hall hpk
          clear hpk
          go_wp2_with (first | (with_reducible refine hold_append ?_) | (with_reducible refine hold_make ?_) | (with_reducible refine hold_copy ?_))
          refine hcl.mono ?_
          rintro e w' ⟨rfl, q2, rfl⟩
          go_wp2_with (first | (with_reducible refine hold_append ?_) | (with_reducible refine hold_make ?_) | (with_reducible refine hold_copy ?_))
          exact ⟨⟨0 + 1, _, by omega, by go_num, hnx, by first | rfl | exact World.drewN_drewN _ _ _⟩, by simp [intOf]; try omega⟩
      · skip
        have hcl := upto_any A n c b B w.heap.size nb2 3 (W.drewN q) hrr hbb hc2 1 (by omega) hn
        have hpk : placeOk b 1 = decide ((b.getD 1 0).toNat ≤ 3) := rfl
        generalize decide ((b.getD 1 0).toNat ≤ 3) = pv at hcl hpk
        cases pv
        · have hno := frWell_no hkb (by omega) hpk
          clear hpk
          go_wp2_with (first | (with_reducible refine hold_append ?_) | (with_reducible refine hold_make ?_) | (with_reducible refine hold_copy ?_))
          refine hcl.mono ?_
          rintro e w' ⟨rfl, q2, rfl⟩
          go_wp2_with (first | (with_reducible refine hold_append ?_) | (with_reducible refine hold_make ?_) | (with_reducible refine hold_copy ?_))
          go_ret
          rw [hno]
          exact ⟨rfl, by first | exact below_drewN hBq _ | exact hBq | exact below_drewN hBW _⟩
        · have hnx := all_next hall hpk
          clear hpk
          go_wp2_with (first | (with_reducible refine hold_append ?_) | (with_reducible refine hold_make ?_) | (with_reducible refine hold_copy ?_))
          refine hcl.mono ?_
          rintro e w' ⟨rfl, q2, rfl⟩
          go_wp2_with (first | (with_reducible refine hold_append ?_) | (with_reducible refine hold_make ?_) | (with_reducible refine hold_copy ?_))
          exact ⟨⟨1 + 1, _, by omega, by go_num, hnx, by first | rfl | exact World.drewN_drewN _ _ _⟩, by simp [intOf]; try omega⟩
      · skip
        have hcl := upto_any A n c b B w.heap.size nb3 16 (W.drewN q) hrr hbb hc3 2 (by omega) hn
        have hpk : placeOk b 2 = decide ((b.getD 2 0).toNat ≤ 16) := rfl
        generalize decide ((b.getD 2 0).toNat ≤ 16) = pv at hcl hpk
        cases pv
        · have hno := frWell_no hkb (by omega) hpk
          clear hpk
          go_wp2_with (first | (with_reducible refine hold_append ?_) | (with_reducible refine hold_make ?_) | (with_reducible refine hold_copy ?_))
          refine hcl.mono ?_
          rintro e w' ⟨rfl, q2, rfl⟩
          go_wp2_with (first | (with_reducible refine hold_append ?_) | (with_reducible refine hold_make ?_) | (with_reducible refine hold_copy ?_))
          go_ret
          rw [hno]
          exact ⟨rfl, by first | exact below_drewN hBq _ | exact hBq | exact below_drewN hBW _⟩
        · have hnx := all_next hall hpk
          clear hpk
          go_wp2_with (first | (with_reducible refine hold_append ?_) | (with_reducible refine hold_make ?_) | (with_reducible refine hold_copy ?_))
          refine hcl.mono ?_
          rintro e w' ⟨rfl, q2, rfl⟩
          go_wp2_with (first | (with_reducible refine hold_append ?_) | (with_reducible refine hold_make ?_) | (with_reducible refine hold_copy ?_))
          exact ⟨⟨2 + 1, _, by omega, by go_num, hnx, by first | rfl | exact World.drewN_drewN _ _ _⟩, by simp [intOf]; try omega⟩
      · skip
        have hcl := size_any A n c b B w.heap.size (W.drewN q) hrr hbb (by omega) hn
        have hpk : placeOk b 3 = (decide (12 ≤ frN b) && decide (frN b ≤ 4096)) := rfl
        generalize (decide (12 ≤ frN b) && decide (frN b ≤ 4096)) = pv at hcl hpk
        cases pv
        · have hno := frWell_no hkb (by omega) hpk
          clear hpk
          go_wp2_with (first | (with_reducible refine hold_append ?_) | (with_reducible refine hold_make ?_) | (with_reducible refine hold_copy ?_))
          refine hcl.mono ?_
          rintro e w' ⟨rfl, q2, rfl⟩
          go_wp2_with (first | (with_reducible refine hold_append ?_) | (with_reducible refine hold_make ?_) | (with_reducible refine hold_copy ?_))
          go_ret
          rw [hno]
          exact ⟨rfl, by first | exact below_drewN hBq _ | exact hBq | exact below_drewN hBW _⟩
        · have hnx := all_next hall hpk
          clear hpk
          go_wp2_with (first | (with_reducible refine hold_append ?_) | (with_reducible refine hold_make ?_) | (with_reducible refine hold_copy ?_))
          refine hcl.mono ?_
          rintro e w' ⟨rfl, q2, rfl⟩
          go_wp2_with (first | (with_reducible refine hold_append ?_) | (with_reducible refine hold_make ?_) | (with_reducible refine hold_copy ?_))
          exact ⟨⟨3 + 1, _, by omega, by go_num, hnx, by first | rfl | exact World.drewN_drewN _ _ _⟩, by simp [intOf]; try omega⟩
      · skip
        have hcl := upto_any A n c b B w.heap.size nb4 0 (W.drewN q) hrr hbb hc4 4 (by omega) hn
        have hpk : placeOk b 4 = decide ((b.getD 4 0).toNat ≤ 0) := rfl
        generalize decide ((b.getD 4 0).toNat ≤ 0) = pv at hcl hpk
        cases pv
        · have hno := frWell_no hkb (by omega) hpk
          clear hpk
          go_wp2_with (first | (with_reducible refine hold_append ?_) | (with_reducible refine hold_make ?_) | (with_reducible refine hold_copy ?_))
          refine hcl.mono ?_
          rintro e w' ⟨rfl, q2, rfl⟩
          go_wp2_with (first | (with_reducible refine hold_append ?_) | (with_reducible refine hold_make ?_) | (with_reducible refine hold_copy ?_))
          go_ret
          rw [hno]
          exact ⟨rfl, by first | exact below_drewN hBq _ | exact hBq | exact below_drewN hBW _⟩
        · have hnx := all_next hall hpk
          clear hpk
          go_wp2_with (first | (with_reducible refine hold_append ?_) | (with_reducible refine hold_make ?_) | (with_reducible refine hold_copy ?_))
          refine hcl.mono ?_
          rintro e w' ⟨rfl, q2, rfl⟩
          go_wp2_with (first | (with_reducible refine hold_append ?_) | (with_reducible refine hold_make ?_) | (with_reducible refine hold_copy ?_))
          exact ⟨⟨4 + 1, _, by omega, by go_num, hnx, by first | rfl | exact World.drewN_drewN _ _ _⟩, by simp [intOf]; try omega⟩
      · skip
        have hcl := upto_any A n c b B w.heap.size nb5 15 (W.drewN q) hrr hbb hc5 5 (by omega) hn
        have hpk : placeOk b 5 = decide ((b.getD 5 0).toNat ≤ 15) := rfl
        generalize decide ((b.getD 5 0).toNat ≤ 15) = pv at hcl hpk
        cases pv
        · have hno := frWell_no hkb (by omega) hpk
          clear hpk
          go_wp2_with (first | (with_reducible refine hold_append ?_) | (with_reducible refine hold_make ?_) | (with_reducible refine hold_copy ?_))
          refine hcl.mono ?_
          rintro e w' ⟨rfl, q2, rfl⟩
          go_wp2_with (first | (with_reducible refine hold_append ?_) | (with_reducible refine hold_make ?_) | (with_reducible refine hold_copy ?_))
          go_ret
          rw [hno]
          exact ⟨rfl, by first | exact below_drewN hBq _ | exact hBq | exact below_drewN hBW _⟩
        · have hnx := all_next hall hpk
          clear hpk
          go_wp2_with (first | (with_reducible refine hold_append ?_) | (with_reducible refine hold_make ?_) | (with_reducible refine hold_copy ?_))
          refine hcl.mono ?_
          rintro e w' ⟨rfl, q2, rfl⟩
          go_wp2_with (first | (with_reducible refine hold_append ?_) | (with_reducible refine hold_make ?_) | (with_reducible refine hold_copy ?_))
          exact ⟨⟨5 + 1, _, by omega, by go_num, hnx, by first | rfl | exact World.drewN_drewN _ _ _⟩, by simp [intOf]; try omega⟩
      · skip
        have hpk : placeOk b 6 = true := by
          show decide ((b.getD 6 0).toNat ≤ 255) = true
          have hx : (b.getD 6 0).toNat < 256 := (b.getD 6 0).toNat_lt
          exact decide_eq_true (Nat.le_of_lt_succ hx)
        have hnx := all_next hall hpk
        clear hpk
        go_wp2_with (first | (with_reducible refine hold_append ?_) | (with_reducible refine hold_make ?_) | (with_reducible refine hold_copy ?_))
        refine (any_any 6 _).mono ?_
        rintro e w' ⟨rfl, rfl⟩
        go_wp2_with (first | (with_reducible refine hold_append ?_) | (with_reducible refine hold_make ?_) | (with_reducible refine hold_copy ?_))
        exact ⟨⟨6 + 1, q, by omega, by go_num, hnx, rfl⟩, by simp [intOf]; try omega⟩
      · skip
        have hpk : placeOk b 7 = true := by
          show decide ((b.getD 7 0).toNat ≤ 255) = true
          have hx : (b.getD 7 0).toNat < 256 := (b.getD 7 0).toNat_lt
          exact decide_eq_true (Nat.le_of_lt_succ hx)
        have hnx := all_next hall hpk
        clear hpk
        go_wp2_with (first | (with_reducible refine hold_append ?_) | (with_reducible refine hold_make ?_) | (with_reducible refine hold_copy ?_))
        refine (any_any 7 _).mono ?_
        rintro e w' ⟨rfl, rfl⟩
        go_wp2_with (first | (with_reducible refine hold_append ?_) | (with_reducible refine hold_make ?_) | (with_reducible refine hold_copy ?_))
        exact ⟨⟨7 + 1, q, by omega, by go_num, hnx, rfl⟩, by simp [intOf]; try omega⟩
      · skip
        have hcl := upto_any A n c b B w.heap.size nb6 0 (W.drewN q) hrr hbb hc6 8 (by omega) hn
        have hpk : placeOk b 8 = decide ((b.getD 8 0).toNat ≤ 0) := rfl
        generalize decide ((b.getD 8 0).toNat ≤ 0) = pv at hcl hpk
        cases pv
        · have hno := frWell_no hkb (by omega) hpk
          clear hpk
          go_wp2_with (first | (with_reducible refine hold_append ?_) | (with_reducible refine hold_make ?_) | (with_reducible refine hold_copy ?_))
          refine hcl.mono ?_
          rintro e w' ⟨rfl, q2, rfl⟩
          go_wp2_with (first | (with_reducible refine hold_append ?_) | (with_reducible refine hold_make ?_) | (with_reducible refine hold_copy ?_))
          go_ret
          rw [hno]
          exact ⟨rfl, by first | exact below_drewN hBq _ | exact hBq | exact below_drewN hBW _⟩
        · have hnx := all_next hall hpk
          clear hpk
          go_wp2_with (first | (with_reducible refine hold_append ?_) | (with_reducible refine hold_make ?_) | (with_reducible refine hold_copy ?_))
          refine hcl.mono ?_
          rintro e w' ⟨rfl, q2, rfl⟩
          go_wp2_with (first | (with_reducible refine hold_append ?_) | (with_reducible refine hold_make ?_) | (with_reducible refine hold_copy ?_))
          exact ⟨⟨8 + 1, _, by omega, by go_num, hnx, by first | rfl | exact World.drewN_drewN _ _ _⟩, by simp [intOf]; try omega⟩
      · skip
        have hcl := upto_any A n c b B w.heap.size nb7 0 (W.drewN q) hrr hbb hc7 9 (by omega) hn
        have hpk : placeOk b 9 = decide ((b.getD 9 0).toNat ≤ 0) := rfl
        generalize decide ((b.getD 9 0).toNat ≤ 0) = pv at hcl hpk
        cases pv
        · have hno := frWell_no hkb (by omega) hpk
          clear hpk
          go_wp2_with (first | (with_reducible refine hold_append ?_) | (with_reducible refine hold_make ?_) | (with_reducible refine hold_copy ?_))
          refine hcl.mono ?_
          rintro e w' ⟨rfl, q2, rfl⟩
          go_wp2_with (first | (with_reducible refine hold_append ?_) | (with_reducible refine hold_make ?_) | (with_reducible refine hold_copy ?_))
          go_ret
          rw [hno]
          exact ⟨rfl, by first | exact below_drewN hBq _ | exact hBq | exact below_drewN hBW _⟩
        · have hnx := all_next hall hpk
          clear hpk
          go_wp2_with (first | (with_reducible refine hold_append ?_) | (with_reducible refine hold_make ?_) | (with_reducible refine hold_copy ?_))
          refine hcl.mono ?_
          rintro e w' ⟨rfl, q2, rfl⟩
          go_wp2_with (first | (with_reducible refine hold_append ?_) | (with_reducible refine hold_make ?_) | (with_reducible refine hold_copy ?_))
          exact ⟨⟨9 + 1, _, by omega, by go_num, hnx, by first | rfl | exact World.drewN_drewN _ _ _⟩, by simp [intOf]; try omega⟩
      · skip
        have hcl := upto_any A n c b B w.heap.size nb8 0 (W.drewN q) hrr hbb hc8 10 (by omega) hn
        have hpk : placeOk b 10 = decide ((b.getD 10 0).toNat ≤ 0) := rfl
        generalize decide ((b.getD 10 0).toNat ≤ 0) = pv at hcl hpk
        cases pv
        · have hno := frWell_no hkb (by omega) hpk
          clear hpk
          go_wp2_with (first | (with_reducible refine hold_append ?_) | (with_reducible refine hold_make ?_) | (with_reducible refine hold_copy ?_))
          refine hcl.mono ?_
          rintro e w' ⟨rfl, q2, rfl⟩
          go_wp2_with (first | (with_reducible refine hold_append ?_) | (with_reducible refine hold_make ?_) | (with_reducible refine hold_copy ?_))
          go_ret
          rw [hno]
          exact ⟨rfl, by first | exact below_drewN hBq _ | exact hBq | exact below_drewN hBW _⟩
        · have hnx := all_next hall hpk
          clear hpk
          go_wp2_with (first | (with_reducible refine hold_append ?_) | (with_reducible refine hold_make ?_) | (with_reducible refine hold_copy ?_))
          refine hcl.mono ?_
          rintro e w' ⟨rfl, q2, rfl⟩
          go_wp2_with (first | (with_reducible refine hold_append ?_) | (with_reducible refine hold_make ?_) | (with_reducible refine hold_copy ?_))
          exact ⟨⟨10 + 1, _, by omega, by go_num, hnx, by first | rfl | exact World.drewN_drewN _ _ _⟩, by simp [intOf]; try omega⟩
      · skip
        have hcl := upto_any A n c b B w.heap.size nb9 0 (W.drewN q) hrr hbb hc9 11 (by omega) hn
        have hpk : placeOk b 11 = decide ((b.getD 11 0).toNat ≤ 0) := rfl
        generalize decide ((b.getD 11 0).toNat ≤ 0) = pv at hcl hpk
        cases pv
        · have hno := frWell_no hkb (by omega) hpk
          clear hpk
          go_wp2_with (first | (with_reducible refine hold_append ?_) | (with_reducible refine hold_make ?_) | (with_reducible refine hold_copy ?_))
          refine hcl.mono ?_
          rintro e w' ⟨rfl, q2, rfl⟩
          go_wp2_with (first | (with_reducible refine hold_append ?_) | (with_reducible refine hold_make ?_) | (with_reducible refine hold_copy ?_))
          go_ret
          rw [hno]
          exact ⟨rfl, by first | exact below_drewN hBq _ | exact hBq | exact below_drewN hBW _⟩
        · have hnx := all_next hall hpk
          clear hpk
          go_wp2_with (first | (with_reducible refine hold_append ?_) | (with_reducible refine hold_make ?_) | (with_reducible refine hold_copy ?_))
          refine hcl.mono ?_
          rintro e w' ⟨rfl, q2, rfl⟩
          go_wp2_with (first | (with_reducible refine hold_append ?_) | (with_reducible refine hold_make ?_) | (with_reducible refine hold_copy ?_))
          exact ⟨⟨11 + 1, _, by omega, by go_num, hnx, by first | rfl | exact World.drewN_drewN _ _ _⟩, by simp [intOf]; try omega⟩
    · obtain rfl : k = M := by omega
      have HA := Lib.hid hall
      clear hall
      go_wp2_with (first | (with_reducible refine hold_append ?_) | (with_reducible refine hold_make ?_) | (with_reducible refine hold_copy ?_))
      go_ret
      rw [HWL.out, HA.out]
      exact ⟨rfl, below_drewN hBW q⟩
end Go.PH

/- OctetBad: for every input of the form's own reach the law returns true and writes nothing that was there. -/
import Derived.Test.YtejpponbhblmmaaOctLawReads
import Derived.Deep.CutBlock
namespace Go.PH
open Go.RowKit Go.Proofs

theorem mnum_bad (l : List UInt8) (x : Int) : mnum l true x = (0, [], true) := by
  unfold mnum
  rw [mtake_no (.inl rfl)]
  split <;> rfl
theorem mtext_bad (l : List UInt8) (x m : Int) : mtext l true x m = ([], [], true) := by
  by_cases h8 : x = 8
  · subst h8; exact mtext_no (by omega)
  · rw [mtext_eq h8, mnum_bad, if_pos (.inl rfl)]
/-- three readers that are bad: one that was read past its end, none, one without a view -/
def BadAll (F : Nat → Prop) (w : World) (rb b bx row : Nat) : Prop :=
  Rdr F w (.pointer (some ⟨rb, 0, none⟩)) (some b) [] true ∧ w.cell? ⟨bx, 0, none⟩ = some (.pointer none) ∧ w.cell? ⟨row, 0, none⟩ = some (.pointer (some ⟨rb, 0, none⟩)) ∧ w.cell? ⟨row, 1, none⟩ = some (.pointer none) ∧ w.cell? ⟨row, 2, none⟩ = some (.pointer (some ⟨bx, 0, none⟩)) ∧ bx ≠ b ∧ row ≠ b
theorem grownWeak {w w' : World} {row : Option Nat} (h : w.grownBy w' none) : w.grownBy w' row := ⟨h.os, h.tape, h.output, h.size, fun k hk _ => h.block k hk (by simp)⟩
theorem BadAll.kept {F : Nat → Prop} {w w' : World} {rb b bx row : Nat} (h : BadAll F w rb b bx row) (hg : w.grownBy w' none) : BadAll F w' rb b bx row := by
  obtain ⟨h1, h2, h3, h4, h5, h6, h7⟩ := h
  exact ⟨h1.kept hg (by simp), hg.cell h2 (by simp), hg.cell h3 (by simp), hg.cell h4 (by simp), hg.cell h5 (by simp), h6, h7⟩
theorem BadAll.step {F : Nat → Prop} {w : World} {rb b bx row : Nat} {v : Value} (h : BadAll F w rb b bx row) (hv : v = .pointer (some ⟨rb, 0, none⟩) ∨ v = .pointer none ∨ v = .pointer (some ⟨bx, 0, none⟩)) :
    ∃ F' vb, Rdr F' w v vb [] true ∧ ∀ w', Rdr F' w' v vb [] true → w.grownBy w' vb → BadAll F w' rb b bx row ∧ w.grownBy w' (some b) := by
  have h' := h
  obtain ⟨h1, h2, h3, h4, h5, h6, h7⟩ := h
  rcases hv with rfl | rfl | rfl
  · exact ⟨F, some b, h1, fun w' hR hg => ⟨⟨hR, hg.cell h2 (by simp [h6]), hg.cell h3 (by simp [h7]), hg.cell h4 (by simp [h7]), hg.cell h5 (by simp [h7]), h6, h7⟩, hg⟩⟩
  · exact ⟨F, none, .inl ⟨rfl, rfl, rfl, rfl⟩, fun w' _ hg => ⟨h'.kept hg, grownWeak hg⟩⟩
  · exact ⟨fun _ => True, none, .inr (.inl ⟨bx, rfl, rfl, rfl, rfl, h2, trivial⟩), fun w' _ hg => ⟨h'.kept hg, grownWeak hg⟩⟩

set_option maxHeartbeats 2000000 in
set_option maxRecDepth 20000 in
theorem law_OctetBad (A : Option Addr) (n c : Nat) (l : List UInt8) (A' : Option Addr) (n' c' : Nat) (xs : List Value) (L : List (Nat × Int × Int)) (w : World) (hb : RdB w w.heap.size A n c l) (hr : Rd w w.heap.size 3 A' n' c' xs) (hL : L.length = n') (hR : ∀ i (h : i < L.length), RAsk L[i] ((xs.drop (i * 3)).take 3)) (hn : n ≤ 140737488351232) (hn' : n' ≤ 140737488351232) :
    Calls Try.prog 7 #[.slice A n c, .slice A' n' c'] w fun e w' => e = .returned (.bool true) ∧ Below w.heap.size w w' := by
  go_enter Try.func7, Try.ntmps7
  go_wp2_with (first | (with_reducible refine hold_append ?_) | (with_reducible refine hold_make ?_) | (with_reducible refine hold_copy ?_))
  refine (rdopen_any A n c l w hb (by omega)).mono ?_
  rintro e w1 ⟨rb, b, rfl, hrb, hbb, hR1, hB1⟩
  have hb1 : b < w1.heap.size := (hR1.inF rfl).2
  generalize (fun g : Nat => w.heap.size ≤ g ∧ g < w1.heap.size) = F1 at hR1
  have hz1 := hB1.size
  go_wp2_with (first | (with_reducible refine hold_append ?_) | (with_reducible refine hold_make ?_) | (with_reducible refine hold_copy ?_))
  have hBa : Below w.heap.size w (w1.alloc (.cells #[.pointer none] 57)) := hB1.alloc hz1 _
  have hB2 : Below w.heap.size w ((w1.alloc (.cells #[.pointer none] 57)).alloc (.cells #[.pointer (some ⟨rb, 0, none⟩), .pointer none, .pointer (some ⟨w1.heap.size, 0, none⟩)] 35)) := hBa.alloc hBa.size _
  have hga : w1.grownBy ((w1.alloc (.cells #[.pointer none] 57)).alloc (.cells #[.pointer (some ⟨rb, 0, none⟩), .pointer none, .pointer (some ⟨w1.heap.size, 0, none⟩)] 35)) none := (World.grownBy_alloc w1 _ none).trans (World.grownBy_alloc _ _ none)
  have hR2 := hR1.kept hga (by simp)
  have hx0 : World.cell? ((w1.alloc (.cells #[.pointer none] 57)).alloc (.cells #[.pointer (some ⟨rb, 0, none⟩), .pointer none, .pointer (some ⟨w1.heap.size, 0, none⟩)] 35)) ⟨w1.heap.size, 0, none⟩ = some (.pointer none) := by simp
  have hc0 : World.cell? ((w1.alloc (.cells #[.pointer none] 57)).alloc (.cells #[.pointer (some ⟨rb, 0, none⟩), .pointer none, .pointer (some ⟨w1.heap.size, 0, none⟩)] 35)) ⟨w1.heap.size + 1, 0, none⟩ = some (.pointer (some ⟨rb, 0, none⟩)) := by simp
  have hc1 : World.cell? ((w1.alloc (.cells #[.pointer none] 57)).alloc (.cells #[.pointer (some ⟨rb, 0, none⟩), .pointer none, .pointer (some ⟨w1.heap.size, 0, none⟩)] 35)) ⟨w1.heap.size + 1, 1, none⟩ = some (.pointer none) := by simp
  have hc2 : World.cell? ((w1.alloc (.cells #[.pointer none] 57)).alloc (.cells #[.pointer (some ⟨rb, 0, none⟩), .pointer none, .pointer (some ⟨w1.heap.size, 0, none⟩)] 35)) ⟨w1.heap.size + 1, 2, none⟩ = some (.pointer (some ⟨w1.heap.size, 0, none⟩)) := by simp
  generalize ((w1.alloc (.cells #[.pointer none] 57)).alloc (.cells #[.pointer (some ⟨rb, 0, none⟩), .pointer none, .pointer (some ⟨w1.heap.size, 0, none⟩)] 35)) = w2 at hB2 hR2 hx0 hc0 hc1 hc2 ⊢
  obtain ⟨bx, hbx⟩ : ∃ bx, bx = w1.heap.size := ⟨_, rfl⟩
  rw [← hbx] at hx0 hc0 hc1 hc2 hb1 ⊢
  clear hga hBa hR1 hB1 hz1 hbx
  have hT := rdtake_any hR2 (-1) (by omega) (by omega)
  rw [mtake_no (.inr (.inl (by omega)))] at hT
  simp only [List.length_nil] at hT
  refine hT.mono ?_
  rintro e w3 ⟨A3, c3, rfl, ho3, hR3, hg3⟩
  have hB3 := hB2.grown hg3 hB2.size (by rintro g ⟨rfl⟩; exact hbb)
  have hP : BadAll F1 w3 rb b bx (bx + 1) := ⟨hR3, hg3.cell hx0 (by simp; omega), hg3.cell hc0 (by simp; omega), hg3.cell hc1 (by simp; omega), hg3.cell hc2 (by simp; omega), by omega, by omega⟩
  clear hT ho3 hR3 hg3 hR2 hB2 hx0 hc0 hc1 hc2
  go_wp2_with (first | (with_reducible refine hold_append ?_) | (with_reducible refine hold_make ?_) | (with_reducible refine hold_copy ?_))
  go_loopw [7] (fun i wr => ∃ k : Nat, k ≤ 3 ∧ i = .int .i64 k ∧ BadAll F1 wr rb b bx (bx + 1) ∧ Below w.heap.size w wr) (fun i _ => 3 - (intOf i).toNat)
  case atStart => exact ⟨0, by omega, rfl, hP, hB3⟩
  case round =>
    clear hP hB3
    obtain ⟨k, hk, rfl, hP, hB⟩ := hrel
    by_cases hlt : k < 3
    · obtain ⟨v, hv, hcv⟩ : ∃ v, (v = .pointer (some ⟨rb, 0, none⟩) ∨ v = .pointer none ∨ v = .pointer (some ⟨bx, 0, none⟩)) ∧ wr.cell? ⟨bx + 1, k, none⟩ = some v := by
        obtain ⟨_, _, h0, h1, h2, _⟩ := hP
        rcases (show k = 0 ∨ k = 1 ∨ k = 2 by omega) with rfl | rfl | rfl
        · exact ⟨_, .inl rfl, h0⟩
        · exact ⟨_, .inr (.inl rfl), h1⟩
        · exact ⟨_, .inr (.inr rfl), h2⟩
      have hdk : (decide ((k : Int) < 3)) = true := by simp; omega
      go_wp2_with (first | (with_reducible refine hold_append ?_) | (with_reducible refine hold_make ?_) | (with_reducible refine hold_copy ?_))
      try rw [hdk]
      go_loopw [9] (fun i wy => ∃ j : Nat, j ≤ n' ∧ j ≤ 100 ∧ i = .int .i64 j ∧ BadAll F1 wy rb b bx (bx + 1) ∧ Below w.heap.size w wy) (fun i _ => n' - (intOf i).toNat)
      case atStart => exact ⟨0, by omega, by omega, rfl, hP, hB⟩
      case round =>
        clear hP hB hcv
        obtain ⟨j, hj, hj2, rfl, hP, hB⟩ := hrel
        by_cases hjl : j < n' ∧ j < 100
        · obtain ⟨hjl, hj100⟩ := hjl
          obtain ⟨ab, aoff, y, m1, m2, rfl, hab, hc0, hc1, hc2, hy, hm1, hm1', hm2, hm2'⟩ := asks_at (hr.below hB) hL hR hjl
          go_upto_region 12 with fail
          have hB5 : Below w.heap.size w (wr.alloc (.cells #[.int .u8 (y : Int), .int .i64 m1, .int .i64 m2] 43)) := hB.alloc hB.size _
          have hP5 := hP.kept (World.grownBy_alloc wr (.cells #[.int .u8 (y : Int), .int .i64 m1, .int .i64 m2] 43) none)
          have hbr : b < wr.heap.size := by
            obtain ⟨hR0, _⟩ := hP
            rcases hR0 with ⟨_, h, _⟩ | ⟨_, _, h, _⟩ | ⟨rb', b', A', n', c', _, h, _, _, h5, _⟩
            · cases h
            · cases h
            · cases h; exact World.block_lt_of_cell? wr _ h5
          have hx1 : World.cell? (wr.alloc (.cells #[.int .u8 (y : Int), .int .i64 m1, .int .i64 m2] 43)) ⟨wr.heap.size, 1, none⟩ = some (.int .i64 m1) := by simp
          have hx2 : World.cell? (wr.alloc (.cells #[.int .u8 (y : Int), .int .i64 m1, .int .i64 m2] 43)) ⟨wr.heap.size, 2, none⟩ = some (.int .i64 m2) := by simp
          generalize (wr.alloc (.cells #[.int .u8 (y : Int), .int .i64 m1, .int .i64 m2] 43)) = w5 at hB5 hP5 hx1 hx2 ⊢
          generalize wr.heap.size = xb at hx1 hx2 hbr ⊢
          clear hP hB hc0 hc1 hc2
          obtain ⟨F', vb, hRv, hstep⟩ := hP5.step hv
          have hN := rdnum_any hRv m1 hm1 hm1'
          rw [mnum_bad] at hN
          simp only at hN
          go_wp2_with (first | (with_reducible refine hold_append ?_) | (with_reducible refine hold_make ?_) | (with_reducible refine hold_copy ?_))
          refine hN.mono ?_
          rintro e w6 ⟨rfl, hR6, hg6⟩
          obtain ⟨hP6, hgb6⟩ := hstep w6 hR6 hg6
          have hx16 := hgb6.cell hx1 (by simp; omega)
          have hx26 := hgb6.cell hx2 (by simp; omega)
          have hB6 := hB5.grown hgb6 hB5.size (by rintro g ⟨rfl⟩; exact hbb)
          clear hN hstep hR6 hg6 hRv hP5 hB5
          obtain ⟨F', vb, hRv, hstep⟩ := hP6.step hv
          have hN := rdtext_any hRv m1 m2 hm1 hm1' hm2 hm2'
          rw [mtext_bad] at hN
          simp only at hN
          go_wp2_with (first | (with_reducible refine hold_append ?_) | (with_reducible refine hold_make ?_) | (with_reducible refine hold_copy ?_))
          refine hN.mono ?_
          rintro e w7 ⟨rfl, hR7, hg7⟩
          obtain ⟨hP7, hgb7⟩ := hstep w7 hR7 hg7
          have hx17 := hgb7.cell hx16 (by simp; omega)
          have hB7 := hB6.grown hgb7 hB6.size (by rintro g ⟨rfl⟩; exact hbb)
          clear hN hstep hR7 hg7 hRv hP6 hB6
          obtain ⟨F', vb, hRv, hstep⟩ := hP7.step hv
          have hN := rdtake_any hRv m1 hm1 hm1'
          rw [mtake_no (.inl rfl)] at hN
          simp only [List.length_nil] at hN
          have hse : ((str []).toList == []) = true := by rw [str_toList]; rfl
          go_wp2_with (first | (with_reducible refine hold_append ?_) | (with_reducible refine hold_make ?_) | (with_reducible refine hold_copy ?_))
          refine hN.mono ?_
          rintro e w8 ⟨A8, c8, rfl, ho8, hR8, hg8⟩
          obtain ⟨hP8, hgb8⟩ := hstep w8 hR8 hg8
          have hB8 := hB7.grown hgb8 hB7.size (by rintro g ⟨rfl⟩; exact hbb)
          clear hN hstep hR8 hg8 hRv hP7 hB7
          go_wp2_with (first | (with_reducible refine hold_append ?_) | (with_reducible refine hold_make ?_) | (with_reducible refine hold_copy ?_))
          exact ⟨⟨j + 1, by omega, by omega, by go_num, hP8, hB8⟩, by simp [intOf]; omega⟩
        · obtain ⟨F', vb, hRv, hstep⟩ := hP.step hv
          rcases (show ¬ ((j : Int) < (n' : Int)) ∨ (j < n' ∧ j = 100) by omega) with hend | ⟨hend, rfl⟩
          all_goals
            go_wp2_with (first | (with_reducible refine hold_append ?_) | (with_reducible refine hold_make ?_) | (with_reducible refine hold_copy ?_))
            refine (rdbad_any hRv).mono ?_
            rintro e w4 ⟨rfl, rfl⟩
            go_wp2_with (first | (with_reducible refine hold_append ?_) | (with_reducible refine hold_make ?_) | (with_reducible refine hold_copy ?_))
            refine (rdleft_any hRv).mono ?_
            rintro e w4 ⟨rfl, rfl⟩
            simp only [List.length_nil]
            go_wp2_with (first | (with_reducible refine hold_append ?_) | (with_reducible refine hold_make ?_) | (with_reducible refine hold_copy ?_))
            exact ⟨⟨k + 1, by omega, by go_num, hP, hB⟩, by simp [intOf]; omega⟩
    · obtain rfl : k = 3 := by omega
      go_wp2_with (first | (with_reducible refine hold_append ?_) | (with_reducible refine hold_make ?_) | (with_reducible refine hold_copy ?_))
      refine (head_any _).mono ?_
      rintro e w4 ⟨rfl, hB4⟩
      go_wp2_with (first | (with_reducible refine hold_append ?_) | (with_reducible refine hold_make ?_) | (with_reducible refine hold_copy ?_))
      go_ret
      exact ⟨rfl, hB.trans (hB4.mono hB.size)⟩
end Go.PH

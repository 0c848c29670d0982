/- Wires of a call's own; the walk of head. -/
import Derived.Test.YtemngfljlaimdaaWrTake
import Derived.Test.YtemngfljlaimdaaWrWays
set_option linter.all false
set_option linter.unusedSimpArgs false
set_option linter.unusedVariables false
namespace Go.PH
open Go.RowKit Go.Proofs

/-- wires that a call has made for itself -/
def Hw (w0 w : World) (pb n : Nat) (R : List Wl) : Prop := ∃ F : Nat → Prop, Wr w F pb n R ∧ (∀ g, F g → w0.heap.size ≤ g) ∧ Below w0.heap.size w0 w
theorem Hw.size {w0 w : World} {pb n : Nat} {R : List Wl} (h : Hw w0 w pb n R) : w0.heap.size ≤ w.heap.size := by
  obtain ⟨F, _, _, h⟩ := h
  exact h.size
theorem Hw.on {w0 w w' : World} {pb n : Nat} {R : List Wl} (h : Hw w0 w pb n R) (hB : Below w.heap.size w w') : Hw w0 w' pb n R := by
  obtain ⟨F, h1, h2, h3⟩ := h
  exact ⟨F, h1.below hB, h2, h3.trans (hB.mono h3.size)⟩
theorem Hw.step {w0 w w' : World} {pb m : Nat} {R' : List Wl} {F : Nat → Prop} (h2 : ∀ g, F g → w0.heap.size ≤ g) (h3 : Below w0.heap.size w0 w) {F' : Nat → Prop} (hF : ∀ g, F' g → F g ∨ w.heap.size ≤ g) (hW : Wr w' F' pb m R') (hK : KeepF F w w') : Hw w0 w' pb m R' :=
  ⟨F', hW, fun g hg => by have := h3.size; rcases hF g hg with h | h; exact h2 g h; omega, h3.trans (hK.toBelow h3.size h2)⟩
theorem newH (w0 w : World) (hB : Below w0.heap.size w0 w) : Calls Try.prog 7 #[] w fun e w' => ∃ pb, e = .returned (.pointer (some ⟨pb, 0, none⟩)) ∧ Hw w0 w' pb 0 [] := by
  refine (new_any w).mono ?_
  rintro e w' ⟨rfl, h1, h2⟩
  have := hB.size
  exact ⟨_, rfl, _, h1, fun g hg => by rcases hg with h | h <;> omega, hB.trans (h2.mono hB.size)⟩
theorem sendH {w0 w : World} {pb n : Nat} {R : List Wl} (h : Hw w0 w pb n R) (a b : Int) (s : List UInt8) (ha : i64ok a) (hb : i64ok b) (hs : s.length ≤ 140737488351232) (hn : n < maxLen) :
    Calls Try.prog 9 #[.pointer (some ⟨pb, 0, none⟩), .int .i64 a, .int .i64 b, .string (str s)] w fun e w' => e = .returned (.int .i64 ((sendW R a b s).2 : Int)) ∧ Hw w0 w' pb (n + 1) (sendW R a b s).1 := by
  obtain ⟨F, h1, h2, h3⟩ := h
  refine (send_any F pb n R a b s w h1 ha hb hs hn).mono ?_
  rintro e w' ⟨rfl, F', hF, hW, hK⟩
  exact ⟨rfl, Hw.step h2 h3 hF hW hK⟩
theorem doubleH {w0 w : World} {pb n : Nat} {R : List Wl} (h : Hw w0 w pb n R) (a b i : Int) (ha : i64ok a) (hb : i64ok b) (hn : n < maxLen) :
    Calls Try.prog 18 #[.pointer (some ⟨pb, 0, none⟩), .int .i64 a, .int .i64 b, .int .i64 i] w fun e w' => e = .returned (.int .i64 ((doubleW R a b i).2 : Int)) ∧ Hw w0 w' pb (n + 1) (doubleW R a b i).1 := by
  obtain ⟨F, h1, h2, h3⟩ := h
  refine (double_any F pb n R a b i w h1 ha hb hn).mono ?_
  rintro e w' ⟨rfl, F', hF, hW, hK⟩
  exact ⟨rfl, Hw.step h2 h3 hF hW hK⟩
theorem takeH {w0 w : World} {pb n : Nat} {R : List Wl} (h : Hw w0 w pb n R) (a b i : Int) (ha : i64ok a) (hb : i64ok b) (hn : n < maxLen) :
    Calls Try.prog 10 #[.pointer (some ⟨pb, 0, none⟩), .int .i64 a, .int .i64 b, .int .i64 i] w fun e w' => e = .returned (.tuple #[.string (str (takeW R a b i).2.1), .int .i64 ((takeW R a b i).2.2 : Int)]) ∧ Hw w0 w' pb (n + 1) (takeW R a b i).1 := by
  obtain ⟨F, h1, h2, h3⟩ := h
  refine (take_any F pb n R a b i w h1 ha hb hn).mono ?_
  rintro e w' ⟨rfl, F', hF, hW, hK⟩
  exact ⟨rfl, Hw.step h2 h3 hF hW hK⟩
theorem waysH {w0 w : World} {pb n : Nat} {R : List Wl} (h : Hw w0 w pb n R) (hn : n ≤ 1000000) :
    Calls Try.prog 15 #[.pointer (some ⟨pb, 0, none⟩)] w fun e w' => ∃ A c, e = .returned (.slice A (waysW R).length c) ∧ Own w' w.heap.size 45 2 A (waysW R).length c (rowC wayC (waysW R)) ∧ Hw w0 w' pb n R ∧ Below w.heap.size w w' := by
  obtain ⟨F, h1, h2, h3⟩ := h
  refine (ways_any F pb n R w h1 hn).mono ?_
  rintro e w' ⟨A, c, rfl, h4, h5⟩
  exact ⟨A, c, rfl, h4, Hw.on ⟨F, h1, h2, h3⟩ h5, h5⟩
theorem ok0 : i64ok 0 := ⟨by omega, by omega⟩
theorem ok1 : i64ok 1 := ⟨by omega, by omega⟩
theorem hdA : sendW [] 0 1 [97] = ([⟨0, 1, [97]⟩], 0) := by decide
theorem hdB : sendW [⟨0, 1, [97]⟩] 0 1 [98] = ([⟨0, 1, [97]⟩, ⟨0, 1, [98]⟩], 0) := by decide
theorem hdC : doubleW [⟨0, 1, [97]⟩, ⟨0, 1, [98]⟩] 0 1 0 = ([⟨0, 1, [97]⟩, ⟨0, 1, [98]⟩, ⟨0, 1, [97]⟩], 0) := by decide
theorem hdD : takeW [⟨0, 1, [97]⟩, ⟨0, 1, [98]⟩, ⟨0, 1, [97]⟩] 0 1 1 = ([⟨0, 1, [97]⟩, ⟨0, 1, [97]⟩], [98], 0) := by decide
theorem hdE : takeW [⟨0, 1, [97]⟩, ⟨0, 1, [97]⟩] 0 1 1 = ([⟨0, 1, [97]⟩], [97], 0) := by decide
theorem hdF : takeW [⟨0, 1, [97]⟩] 0 1 1 = ([⟨0, 1, [97]⟩], [], 7) := by decide
theorem hdG : waysW [⟨0, 1, [97]⟩] = [(0, 1)] := by decide
set_option maxRecDepth 20000 in
set_option maxHeartbeats 4000000 in
theorem head_any (w : World) : Calls Try.prog 8 #[] w fun e w' => e = .returned (.bool true) ∧ Below w.heap.size w w' := by
  have hnw := newH w w (Below.refl _ _)
  go_enter Try.func8, Try.ntmps8
  go_wp2_with (first | (with_reducible refine hold_append ?_) | (with_reducible refine hold_make ?_) | (with_reducible refine hold_copy ?_))
  refine hnw.mono ?_
  rintro e w1 ⟨pb, rfl, hH⟩
  clear hnw
  have hs := sendH hH 0 1 [97] ok0 ok1 (by simp) (by simp [maxLen])
  rw [hdA] at hs
  simp only at hs
  clear hH
  go_wp2_with (first | (with_reducible refine hold_append ?_) | (with_reducible refine hold_make ?_) | (with_reducible refine hold_copy ?_))
  refine hs.mono ?_
  rintro e w2 ⟨rfl, hH⟩
  clear hs
  have hs := sendH hH 0 1 [98] ok0 ok1 (by simp) (by simp [maxLen])
  rw [hdB] at hs
  simp only at hs
  clear hH
  go_wp2_with (first | (with_reducible refine hold_append ?_) | (with_reducible refine hold_make ?_) | (with_reducible refine hold_copy ?_))
  refine hs.mono ?_
  rintro e w3 ⟨rfl, hH⟩
  clear hs
  have hs := doubleH hH 0 1 0 ok0 ok1 (by simp [maxLen])
  rw [hdC] at hs
  simp only at hs
  clear hH
  go_wp2_with (first | (with_reducible refine hold_append ?_) | (with_reducible refine hold_make ?_) | (with_reducible refine hold_copy ?_))
  refine hs.mono ?_
  rintro e w4 ⟨rfl, hH⟩
  clear hs
  have hs := takeH hH 0 1 1 ok0 ok1 (by simp [maxLen])
  rw [hdD] at hs
  simp only [show str [98] = (⟨#[98]⟩ : ByteArray) from rfl] at hs
  clear hH
  go_wp2_with (first | (with_reducible refine hold_append ?_) | (with_reducible refine hold_make ?_) | (with_reducible refine hold_copy ?_))
  refine hs.mono ?_
  rintro e w5 ⟨rfl, hH⟩
  clear hs
  have hs := takeH hH 0 1 1 ok0 ok1 (by simp [maxLen])
  rw [hdE] at hs
  simp only [show str [97] = (⟨#[97]⟩ : ByteArray) from rfl] at hs
  clear hH
  go_wp2_with (first | (with_reducible refine hold_append ?_) | (with_reducible refine hold_make ?_) | (with_reducible refine hold_copy ?_))
  refine hs.mono ?_
  rintro e w6 ⟨rfl, hH⟩
  clear hs
  have hs := takeH hH 0 1 1 ok0 ok1 (by simp [maxLen])
  rw [hdF] at hs
  simp only at hs
  clear hH
  go_wp2_with (first | (with_reducible refine hold_append ?_) | (with_reducible refine hold_make ?_) | (with_reducible refine hold_copy ?_))
  refine hs.mono ?_
  rintro e w7 ⟨rfl, hH⟩
  clear hs
  have hs := waysH hH (by omega)
  rw [hdG] at hs
  clear hH
  go_wp2_with (first | (with_reducible refine hold_append ?_) | (with_reducible refine hold_make ?_) | (with_reducible refine hold_copy ?_))
  refine hs.mono ?_
  rintro e w8 ⟨A, c, rfl, ho, hH, _⟩
  clear hs
  obtain ⟨b, off, rfl, _, _, hc⟩ := rec_at wayShape ho.rd (k := 0) (by simp)
  have k0 := hc 0 (.int .i64 0) rfl
  have k1 := hc 1 (.int .i64 1) rfl
  have he : ∀ W, (binOp .eql 45 (.agg #[.int .i64 0, .int .i64 1]) (.agg #[.int .i64 0, .int .i64 1])).run Try.prog W = .ok (.bool true) W := fun W => by rw [eql_pair]; rfl
  have hB : Below w.heap.size w w8 := by
    obtain ⟨F, _, _, h⟩ := hH
    exact h
  clear hH ho hc
  simp only [List.length_cons, List.length_nil, Nat.zero_add, Nat.zero_mul, Nat.add_zero] at k0 k1 ⊢
  go_wp2_with (first | (with_reducible refine hold_append ?_) | (with_reducible refine hold_make ?_) | (with_reducible refine hold_copy ?_))
  go_ret
  exact ⟨rfl, hB⟩
end Go.PH

/- Texts laid together: GtMlSame. -/
import Derived.Test.YtcfhnnbgghbjfaaMg13
import Derived.Test.YtcfhnnbgghbjfaaMg26
section
/- Rows of mails, and of one decision, that are the same, held against one another. -/
set_option linter.all false
set_option linter.unusedSimpArgs false
set_option linter.unusedVariables false
namespace Go.PH
open Go.RowKit Go.Proofs

theorem same04_nil (w : World) : Calls Try.prog 71 #[.slice none 0 0, .slice none 0 0] w fun e w' => e = .returned (.bool true) ∧ w = w' := by
  go_enter Try.func71, Try.ntmps71
  go_wp2_with (first | (with_reducible refine hold_append ?_) | (with_reducible refine hold_make ?_) | (with_reducible refine hold_copy ?_))
  go_loop [5] (fun s => s = .int .i64 0) (fun _ => 0)
  case atStart => exact rfl
  case round =>
    obtain rfl := hrel
    go_wp2_with (first | (with_reducible refine hold_append ?_) | (with_reducible refine hold_make ?_) | (with_reducible refine hold_copy ?_))
    go_ret
    exact ⟨rfl, rfl⟩
set_option maxRecDepth 20000 in
set_option maxHeartbeats 1000000 in
theorem same25_eq (k f : Nat) (g h : List UInt8) (w : World) : Calls Try.prog 59 #[.agg #[.int .u8 (k : Int), .int .u32 (f : Int), .string (str g), .string (str h), .int .u8 0, .int .u16 0, .slice none 0 0], .agg #[.int .u8 (k : Int), .int .u32 (f : Int), .string (str g), .string (str h), .int .u8 0, .int .u16 0, .slice none 0 0]] w fun e w' => e = .returned (.bool true) ∧ Below w.heap.size w w' := by
  have heq := fun w => xid_eql ⟨f, g, h⟩ ⟨f, g, h⟩ w
  simp only [xdV, decide_true] at heq
  obtain ⟨hG0, hZ0, hB0⟩ := box2_of w #[.int .u8 (k : Int), .int .u32 (f : Int), .string (str g), .string (str h), .int .u8 0, .int .u16 0, .slice none 0 0] #[.int .u8 (k : Int), .int .u32 (f : Int), .string (str g), .string (str h), .int .u8 0, .int .u16 0, .slice none 0 0] 33 33
  obtain ⟨w0, hw0⟩ : ∃ w0, w0 = ((w.alloc (.cells #[.int .u8 (k : Int), .int .u32 (f : Int), .string (str g), .string (str h), .int .u8 0, .int .u16 0, .slice none 0 0] 33)).alloc (.cells #[.int .u8 (k : Int), .int .u32 (f : Int), .string (str g), .string (str h), .int .u8 0, .int .u16 0, .slice none 0 0] 33)) := ⟨_, rfl⟩
  rw [← hw0] at hG0 hZ0 hB0
  have x0 := hG0.cell (j := 0) rfl
  have x1 := hG0.cell (j := 1) rfl
  have x2 := hG0.cell (j := 2) rfl
  have x3 := hG0.cell (j := 3) rfl
  have x4 := hG0.cell (j := 4) rfl
  have x5 := hG0.cell (j := 5) rfl
  have x6 := hG0.cell (j := 6) rfl
  have y0 := hZ0.cell (j := 0) rfl
  have y1 := hZ0.cell (j := 1) rfl
  have y2 := hZ0.cell (j := 2) rfl
  have y3 := hZ0.cell (j := 3) rfl
  have y4 := hZ0.cell (j := 4) rfl
  have y5 := hZ0.cell (j := 5) rfl
  have y6 := hZ0.cell (j := 6) rfl
  have hgd := fun x y => run_eqGuard_agg (P := Try.prog) w0 .eql 24 x y #[.int .u32 (f : Int), .string (str g), .string (str h)] #[.int .u32 (f : Int), .string (str g), .string (str h)] xid_guard
  go_enter Try.func59, Try.ntmps59
  go_upto_region 1 with fail
  rw [← hw0]
  clear hw0
  go_wp2_with (first | (with_reducible refine hold_append ?_) | (with_reducible refine hold_make ?_) | (with_reducible refine hold_copy ?_))
  refine (same04_nil _).mono ?_
  rintro e w1 ⟨rfl, rfl⟩
  go_wp2_with (first | (with_reducible refine hold_append ?_) | (with_reducible refine hold_make ?_) | (with_reducible refine hold_copy ?_))
  go_ret
  exact ⟨rfl, hB0⟩
def MlCells (w : World) (b o : Nat) (m : Nat × Nat × Xd) : Prop :=
  (∀ W, Below w.heap.size w W → W.cell? ⟨b, o, none⟩ = some (.int .u8 (m.1 : Int))) ∧ (∀ W, Below w.heap.size w W → W.cell? ⟨b, o + 1, none⟩ = some (.int .u8 (m.2.1 : Int))) ∧ (∀ W, Below w.heap.size w W → W.cell? ⟨b, o + 2, none⟩ = some (.int .u32 (m.2.2.fmt : Int))) ∧
  (∀ W, Below w.heap.size w W → W.cell? ⟨b, o + 3, none⟩ = some (.string (str m.2.2.glob))) ∧ (∀ W, Below w.heap.size w W → W.cell? ⟨b, o + 4, none⟩ = some (.string (str m.2.2.bran))) ∧ (∀ W, Below w.heap.size w W → W.cell? ⟨b, o + 5, none⟩ = some (.int .u8 0)) ∧
  (∀ W, Below w.heap.size w W → W.cell? ⟨b, o + 6, none⟩ = some (.int .u16 0)) ∧ (∀ W, Below w.heap.size w W → W.cell? ⟨b, o + 7, none⟩ = some (.slice none 0 0))
theorem mlCells {w W0 : World} {B n c : Nat} {A : Option Addr} {l : List (Nat × Nat × Xd)} (hr : RdM w B A n c l) (hB : B ≤ w.heap.size) {k : Nat} (hk : k < n) : ∃ b off, A = some ⟨b, off, none⟩ ∧ ∃ hl : k < l.length, MlCells w b (off + k * 8) l[k] := by
  obtain ⟨b, off, e, hb, hl, hc⟩ := rec_at mlShape hr hk
  have hw : ∀ j u, (mlC l[k])[j]? = some u → ∀ W, Below w.heap.size w W → W.cell? ⟨b, off + k * 8 + j, none⟩ = some u := fun j u hu W hW => (hW.cell (p := ⟨b, off + k * 8 + j, none⟩) (by show b < _; omega)).trans (hc j u hu)
  exact ⟨b, off, e, hl, hw 0 _ rfl, hw 1 _ rfl, hw 2 _ rfl, hw 3 _ rfl, hw 4 _ rfl, hw 5 _ rfl, hw 6 _ rfl, hw 7 _ rfl⟩
set_option maxRecDepth 20000 in
set_option maxHeartbeats 4000000 in
theorem samemail_eq (A : Option Addr) (n c : Nat) (A' : Option Addr) (n' c' : Nat) (l : List (Nat × Nat × Xd)) (B : Nat) (w : World) (hr : RdM w B A n c l) (hr' : RdM w B A' n' c' l) (hB : B ≤ w.heap.size) (hn : n ≤ 1000000000) :
    Calls Try.prog 25 #[.slice A n c, .slice A' n' c'] w fun e w' => e = .returned (.bool true) ∧ Below w.heap.size w w' := by
  have hl := rec_length mlShape hr
  obtain rfl : n' = n := by have := rec_length mlShape hr'; omega
  have h0 : (((n' : Nat) : Int) != ((n' : Nat) : Int)) = false := by simp
  clear hl
  go_enter Try.func25, Try.ntmps25
  go_wp2_with (first | (with_reducible refine hold_append ?_) | (with_reducible refine hold_make ?_) | (with_reducible refine hold_copy ?_))
  go_loopw [5] (fun s wr => ∃ (k : Nat), k ≤ n' ∧ s = .int .i64 k ∧ Below w.heap.size w wr) (fun s _ => n' - (RowKit.intOf s).toNat)
  case atStart => exact ⟨0, by omega, rfl, Below.refl _ _⟩
  case round =>
    obtain ⟨k, hk, rfl, hBr⟩ := hrel
    by_cases hlt : k < n'
    · obtain ⟨b, off, rfl, hkl, hc⟩ := mlCells (W0 := w) hr hB hlt
      obtain ⟨b', off', rfl, hkl', hc'⟩ := mlCells (W0 := w) hr' hB hlt
      generalize l[k] = m at *
      obtain ⟨mn, mk, ⟨mf, mg, mh⟩⟩ := m
      have hkn : (k : Int) < (n' : Int) := by omega
      have hsm := fun W => same25_eq mk mf mg mh W
      have HC := Lib.hid hc
      have HC' := Lib.hid hc'
      clear hc hc'
      go_upto_region 6 with fail
      have hc := HC.out
      have hc' := HC'.out
      unfold MlCells at hc hc'
      simp only at hc hc'
      clear HC HC'
      refine rg_start (fun W : World => Below w.heap.size w W) (by kernel_rfl) ?_
      have hS : Below w.heap.size w wr.drew := below_drewN hBr 1
      generalize wr.drew = wd at *
      clear hBr
      refine rg_take 0 (v := ?_) rfl (by kernel_rfl) (by kernel_rfl) (by kernel_rfl) hS rfl ?_ ?_
      rotate_left
      · intro wS hSw; go_simp; (with_reducible rfl)
      simp only [List.getElem_toArray, List.getElem_cons_zero, Act.put, List.setIfInBounds_toArray, List.set_cons_zero, List.set_cons_succ]
      refine rg_take 1 (v := ?_) rfl (by kernel_rfl) (by kernel_rfl) (by kernel_rfl) hS rfl ?_ ?_
      rotate_left
      · intro wS hSw; go_simp; (with_reducible rfl)
      simp only [List.getElem_toArray, List.getElem_cons_succ, List.getElem_cons_zero, Act.put, List.setIfInBounds_toArray, List.set_cons_zero, List.set_cons_succ]
      refine rg_take 2 (v := ?_) rfl (by kernel_rfl) (by kernel_rfl) (by kernel_rfl) hS rfl ?_ ?_
      rotate_left
      · intro wS hSw; go_simp; (with_reducible rfl)
      simp only [List.getElem_toArray, List.getElem_cons_succ, List.getElem_cons_zero, Act.put, List.setIfInBounds_toArray, List.set_cons_zero, List.set_cons_succ]
      refine rg_take 3 (v := ?_) rfl (by kernel_rfl) (by kernel_rfl) (by kernel_rfl) hS rfl ?_ ?_
      rotate_left
      · intro wS hSw; go_simp; (with_reducible rfl)
      simp only [List.getElem_toArray, List.getElem_cons_succ, List.getElem_cons_zero, Act.put, List.setIfInBounds_toArray, List.set_cons_zero, List.set_cons_succ]
      refine rg_take 4 (v := ?_) rfl (by kernel_rfl) (by kernel_rfl) (by kernel_rfl) hS rfl ?_ ?_
      rotate_left
      · intro wS hSw
        have k0 := hc.1 _ hSw
        have k1 := hc.2.1 _ hSw
        have k2 := hc.2.2.1 _ hSw
        have k3 := hc.2.2.2.1 _ hSw
        have k4 := hc.2.2.2.2.1 _ hSw
        have k5 := hc.2.2.2.2.2.1 _ hSw
        have k6 := hc.2.2.2.2.2.2.1 _ hSw
        have k7 := hc.2.2.2.2.2.2.2 _ hSw
        go_simp
        (with_reducible rfl)
      simp only [List.getElem_toArray, List.getElem_cons_succ, List.getElem_cons_zero, Act.put, List.setIfInBounds_toArray, List.set_cons_zero, List.set_cons_succ]
      refine rg_take 5 (v := ?_) rfl (by kernel_rfl) (by kernel_rfl) (by kernel_rfl) hS rfl ?_ ?_
      rotate_left
      · intro wS hSw; go_simp; (with_reducible rfl)
      simp only [List.getElem_toArray, List.getElem_cons_succ, List.getElem_cons_zero, Act.put, List.setIfInBounds_toArray, List.set_cons_zero, List.set_cons_succ]
      refine rg_take 6 (v := ?_) rfl (by kernel_rfl) (by kernel_rfl) (by kernel_rfl) hS rfl ?_ ?_
      rotate_left
      · intro wS hSw; go_simp; (with_reducible rfl)
      simp only [List.getElem_toArray, List.getElem_cons_succ, List.getElem_cons_zero, Act.put, List.setIfInBounds_toArray, List.set_cons_zero, List.set_cons_succ]
      refine rg_take 7 (v := ?_) rfl (by kernel_rfl) (by kernel_rfl) (by kernel_rfl) hS rfl ?_ ?_
      rotate_left
      · intro wS hSw; go_simp; (with_reducible rfl)
      simp only [List.getElem_toArray, List.getElem_cons_succ, List.getElem_cons_zero, Act.put, List.setIfInBounds_toArray, List.set_cons_zero, List.set_cons_succ]
      refine rg_take 8 (v := ?_) rfl (by kernel_rfl) (by kernel_rfl) (by kernel_rfl) hS rfl ?_ ?_
      rotate_left
      · intro wS hSw; go_simp; (with_reducible rfl)
      simp only [List.getElem_toArray, List.getElem_cons_succ, List.getElem_cons_zero, Act.put, List.setIfInBounds_toArray, List.set_cons_zero, List.set_cons_succ]
      refine rg_take 9 (v := ?_) rfl (by kernel_rfl) (by kernel_rfl) (by kernel_rfl) hS rfl ?_ ?_
      rotate_left
      · intro wS hSw
        have k0 := hc'.1 _ hSw
        have k1 := hc'.2.1 _ hSw
        have k2 := hc'.2.2.1 _ hSw
        have k3 := hc'.2.2.2.1 _ hSw
        have k4 := hc'.2.2.2.2.1 _ hSw
        have k5 := hc'.2.2.2.2.2.1 _ hSw
        have k6 := hc'.2.2.2.2.2.2.1 _ hSw
        have k7 := hc'.2.2.2.2.2.2.2 _ hSw
        go_simp
        (with_reducible rfl)
      simp only [List.getElem_toArray, List.getElem_cons_succ, List.getElem_cons_zero, Act.put, List.setIfInBounds_toArray, List.set_cons_zero, List.set_cons_succ]
      refine rg_take 10 (v := ?_) rfl (by kernel_rfl) (by kernel_rfl) (by kernel_rfl) hS rfl ?_ ?_
      rotate_left
      · intro wS hSw; go_simp; (with_reducible rfl)
      simp only [List.getElem_toArray, List.getElem_cons_succ, List.getElem_cons_zero, Act.put, List.setIfInBounds_toArray, List.set_cons_zero, List.set_cons_succ]
      refine rg_take 11 (v := ?_) rfl (by kernel_rfl) (by kernel_rfl) (by kernel_rfl) hS rfl ?_ ?_
      rotate_left
      · intro wS hSw; go_simp; (with_reducible rfl)
      simp only [List.getElem_toArray, List.getElem_cons_succ, List.getElem_cons_zero, Act.put, List.setIfInBounds_toArray, List.set_cons_zero, List.set_cons_succ]
      refine rg_take 12 (v := ?_) rfl (by kernel_rfl) (by kernel_rfl) (by kernel_rfl) hS rfl ?_ ?_
      rotate_left
      · intro wS hSw; go_simp; (with_reducible rfl)
      simp only [List.getElem_toArray, List.getElem_cons_succ, List.getElem_cons_zero, Act.put, List.setIfInBounds_toArray, List.set_cons_zero, List.set_cons_succ]
      refine rg_take 13 (v := ?_) rfl (by kernel_rfl) (by kernel_rfl) (by kernel_rfl) hS rfl ?_ ?_
      rotate_left
      · intro wS hSw; go_simp; (with_reducible rfl)
      simp only [List.getElem_toArray, List.getElem_cons_succ, List.getElem_cons_zero, Act.put, List.setIfInBounds_toArray, List.set_cons_zero, List.set_cons_succ]
      refine rg_take 14 (v := ?_) rfl (by kernel_rfl) (by kernel_rfl) (by kernel_rfl) hS rfl ?_ ?_
      rotate_left
      · intro wS hSw; go_simp; (with_reducible rfl)
      simp only [List.getElem_toArray, List.getElem_cons_succ, List.getElem_cons_zero, Act.put, List.setIfInBounds_toArray, List.set_cons_zero, List.set_cons_succ]
      refine rg_take 15 (v := ?_) rfl (by kernel_rfl) (by kernel_rfl) (by kernel_rfl) hS rfl ?_ ?_
      rotate_left
      · intro wS hSw; go_simp; (with_reducible rfl)
      simp only [List.getElem_toArray, List.getElem_cons_succ, List.getElem_cons_zero, Act.put, List.setIfInBounds_toArray, List.set_cons_zero, List.set_cons_succ]
      refine rg_take 16 (v := ?_) rfl (by kernel_rfl) (by kernel_rfl) (by kernel_rfl) hS rfl ?_ ?_
      rotate_left
      · intro wS hSw
        have k0 := hc.1 _ hSw
        have k1 := hc.2.1 _ hSw
        have k2 := hc.2.2.1 _ hSw
        have k3 := hc.2.2.2.1 _ hSw
        have k4 := hc.2.2.2.2.1 _ hSw
        have k5 := hc.2.2.2.2.2.1 _ hSw
        have k6 := hc.2.2.2.2.2.2.1 _ hSw
        have k7 := hc.2.2.2.2.2.2.2 _ hSw
        go_simp
        (with_reducible rfl)
      simp only [List.getElem_toArray, List.getElem_cons_succ, List.getElem_cons_zero, Act.put, List.setIfInBounds_toArray, List.set_cons_zero, List.set_cons_succ]
      refine rg_take 17 (v := ?_) rfl (by kernel_rfl) (by kernel_rfl) (by kernel_rfl) hS rfl ?_ ?_
      rotate_left
      · intro wS hSw; go_simp; (with_reducible rfl)
      simp only [List.getElem_toArray, List.getElem_cons_succ, List.getElem_cons_zero, Act.put, List.setIfInBounds_toArray, List.set_cons_zero, List.set_cons_succ]
      refine rg_take 18 (v := ?_) rfl (by kernel_rfl) (by kernel_rfl) (by kernel_rfl) hS rfl ?_ ?_
      rotate_left
      · intro wS hSw; go_simp; (with_reducible rfl)
      simp only [List.getElem_toArray, List.getElem_cons_succ, List.getElem_cons_zero, Act.put, List.setIfInBounds_toArray, List.set_cons_zero, List.set_cons_succ]
      refine rg_take 19 (v := ?_) rfl (by kernel_rfl) (by kernel_rfl) (by kernel_rfl) hS rfl ?_ ?_
      rotate_left
      · intro wS hSw; go_simp; (with_reducible rfl)
      simp only [List.getElem_toArray, List.getElem_cons_succ, List.getElem_cons_zero, Act.put, List.setIfInBounds_toArray, List.set_cons_zero, List.set_cons_succ]
      refine rg_take 20 (v := ?_) rfl (by kernel_rfl) (by kernel_rfl) (by kernel_rfl) hS rfl ?_ ?_
      rotate_left
      · intro wS hSw; go_simp; (with_reducible rfl)
      simp only [List.getElem_toArray, List.getElem_cons_succ, List.getElem_cons_zero, Act.put, List.setIfInBounds_toArray, List.set_cons_zero, List.set_cons_succ]
      refine rg_take 21 (v := ?_) rfl (by kernel_rfl) (by kernel_rfl) (by kernel_rfl) hS rfl ?_ ?_
      rotate_left
      · intro wS hSw
        have k0 := hc'.1 _ hSw
        have k1 := hc'.2.1 _ hSw
        have k2 := hc'.2.2.1 _ hSw
        have k3 := hc'.2.2.2.1 _ hSw
        have k4 := hc'.2.2.2.2.1 _ hSw
        have k5 := hc'.2.2.2.2.2.1 _ hSw
        have k6 := hc'.2.2.2.2.2.2.1 _ hSw
        have k7 := hc'.2.2.2.2.2.2.2 _ hSw
        go_simp
        (with_reducible rfl)
      simp only [List.getElem_toArray, List.getElem_cons_succ, List.getElem_cons_zero, Act.put, List.setIfInBounds_toArray, List.set_cons_zero, List.set_cons_succ]
      refine rg_one 22 rfl (by kernel_rfl) rfl (fun K hK => ?_)
      go_simp
      refine (hsm _).mono ?_
      rintro e w5 ⟨rfl, hB5⟩
      have hS5 := hS.trans (hB5.mono hS.size)
      refine hK _ _ hS5 ?_
      clear hK K hB5 hS hsm
      refine rg_take 23 (v := ?_) rfl (by kernel_rfl) (by kernel_rfl) (by kernel_rfl) hS5 rfl ?_ ?_
      rotate_left
      · intro wS hSw; go_simp; (with_reducible rfl)
      simp only [List.getElem_toArray, List.getElem_cons_succ, List.getElem_cons_zero, Act.put, List.setIfInBounds_toArray, List.set_cons_zero, List.set_cons_succ]
      refine rg_take 24 (v := ?_) rfl (by kernel_rfl) (by kernel_rfl) (by kernel_rfl) hS5 rfl ?_ ?_
      rotate_left
      · intro wS hSw; go_simp; (with_reducible rfl)
      simp only [List.getElem_toArray, List.getElem_cons_succ, List.getElem_cons_zero, Act.put, List.setIfInBounds_toArray, List.set_cons_zero, List.set_cons_succ]
      refine rg_end (by kernel_rfl) ?_
      go_wp2_with (first | (with_reducible refine hold_append ?_) | (with_reducible refine hold_make ?_) | (with_reducible refine hold_copy ?_))
      exact ⟨⟨k + 1, by omega, by first | go_num | omega⟩, by simp [RowKit.intOf]; omega⟩
    · have hkk : n' = k := by omega
      subst hkk
      go_wp2_with (first | (with_reducible refine hold_append ?_) | (with_reducible refine hold_make ?_) | (with_reducible refine hold_copy ?_))
      go_ret
      exact ⟨rfl, hBr⟩
def DcCells (w : World) (b : Nat) (X : Xd) (A : Option Addr) (n c : Nat) : Prop :=
  (∀ W, Below w.heap.size w W → W.cell? ⟨b, 0, none⟩ = some (.int .u32 (X.fmt : Int))) ∧ (∀ W, Below w.heap.size w W → W.cell? ⟨b, 1, none⟩ = some (.string (str X.glob))) ∧ (∀ W, Below w.heap.size w W → W.cell? ⟨b, 2, none⟩ = some (.string (str X.bran))) ∧ (∀ W, Below w.heap.size w W → W.cell? ⟨b, 3, none⟩ = some (.slice A n c))
theorem dcCells {w : World} {b : Nat} {X : Xd} {A : Option Addr} {n c : Nat} {t : TypeId} (hb : Box w b t (dcV X A n c)) : DcCells w b X A n c :=
  have h : ∀ j u, (dcV X A n c)[j]? = some u → ∀ W, Below w.heap.size w W → W.cell? ⟨b, j, none⟩ = some u := fun j u hu W hW => (hW.cell (p := ⟨b, j, none⟩) hb.lt).trans (hb.cell hu)
  ⟨h 0 _ rfl, h 1 _ rfl, h 2 _ rfl, h 3 _ rfl⟩
set_option maxRecDepth 20000 in
set_option maxHeartbeats 4000000 in
theorem same26_one (b b' : Nat) (X : Xd) (l : List Pt) (A : Option Addr) (n c : Nat) (A' : Option Addr) (n' c' : Nat) (B : Nat) (w : World) (hb : Box w b 49 (dcV X A n c)) (hb' : Box w b' 49 (dcV X A' n' c'))
    (hr : RdP w B A n c l) (hr' : RdP w B A' n' c' l) (hB : B ≤ w.heap.size) (hn : n ≤ 1000000000) (hn' : n' ≤ 1000000000) :
    Calls Try.prog 28 #[.slice (some ⟨b, 0, none⟩) 1 1, .slice (some ⟨b', 0, none⟩) 1 1] w fun e w' => e = .returned (.bool true) ∧ Below w.heap.size w w' := by
  have HC := Lib.hid (dcCells hb)
  have HC' := Lib.hid (dcCells hb')
  have hsp := fun W (hW : Below w.heap.size w W) => sameparts_any A n c l A' n' c' l B W (hr.below' hW hB) (hr'.below' hW hB) (Nat.le_trans hB hW.size) (by omega) (by omega)
  simp only [decide_true] at hsp
  have hneq := fun w => xid_neqC X X w
  simp only [decide_true, Bool.not_true] at hneq
  clear hb hb' hr hr'
  obtain ⟨f, g, h⟩ := X
  simp only [xdV] at hneq
  go_enter Try.func28, Try.ntmps28
  go_wp2_with (first | (with_reducible refine hold_append ?_) | (with_reducible refine hold_make ?_) | (with_reducible refine hold_copy ?_))
  go_loopw [5] (fun s wr => ∃ (k : Nat), k ≤ 1 ∧ s = .int .i64 k ∧ Below w.heap.size w wr) (fun s _ => 1 - (RowKit.intOf s).toNat)
  case atStart => exact ⟨0, by omega, rfl, Below.refl _ _⟩
  case round =>
    obtain ⟨k, hk, rfl, hBr⟩ := hrel
    rcases (show k = 0 ∨ k = 1 by omega) with rfl | rfl
    · go_upto_region 6 with fail
      have hc := HC.out
      have hc' := HC'.out
      unfold DcCells at hc hc'
      simp only at hc hc'
      clear HC HC'
      refine rg_start (fun W : World => Below w.heap.size w W) (by kernel_rfl) ?_
      have hS : Below w.heap.size w wr.drew := below_drewN hBr 1
      generalize wr.drew = wd at *
      clear hBr
      refine rg_take 0 (v := ?_) rfl (by kernel_rfl) (by kernel_rfl) (by kernel_rfl) hS rfl ?_ ?_
      rotate_left
      · intro wS hSw; go_simp; (with_reducible rfl)
      simp only [List.getElem_toArray, List.getElem_cons_zero, Act.put, List.setIfInBounds_toArray, List.set_cons_zero, List.set_cons_succ]
      refine rg_take 1 (v := ?_) rfl (by kernel_rfl) (by kernel_rfl) (by kernel_rfl) hS rfl ?_ ?_
      rotate_left
      · intro wS hSw; go_simp; (with_reducible rfl)
      simp only [List.getElem_toArray, List.getElem_cons_succ, List.getElem_cons_zero, Act.put, List.setIfInBounds_toArray, List.set_cons_zero, List.set_cons_succ]
      refine rg_take 2 (v := ?_) rfl (by kernel_rfl) (by kernel_rfl) (by kernel_rfl) hS rfl ?_ ?_
      rotate_left
      · intro wS hSw; go_simp; (with_reducible rfl)
      simp only [List.getElem_toArray, List.getElem_cons_succ, List.getElem_cons_zero, Act.put, List.setIfInBounds_toArray, List.set_cons_zero, List.set_cons_succ]
      refine rg_take 3 (v := ?_) rfl (by kernel_rfl) (by kernel_rfl) (by kernel_rfl) hS rfl ?_ ?_
      rotate_left
      · intro wS hSw; go_simp; (with_reducible rfl)
      simp only [List.getElem_toArray, List.getElem_cons_succ, List.getElem_cons_zero, Act.put, List.setIfInBounds_toArray, List.set_cons_zero, List.set_cons_succ]
      refine rg_take 4 (v := ?_) rfl (by kernel_rfl) (by kernel_rfl) (by kernel_rfl) hS rfl ?_ ?_
      rotate_left
      · intro wS hSw
        have k0 := hc.1 _ hSw
        have k1 := hc.2.1 _ hSw
        have k2 := hc.2.2.1 _ hSw
        have k3 := hc.2.2.2 _ hSw
        go_simp
        (with_reducible rfl)
      simp only [List.getElem_toArray, List.getElem_cons_succ, List.getElem_cons_zero, Act.put, List.setIfInBounds_toArray, List.set_cons_zero, List.set_cons_succ]
      refine rg_take 5 (v := ?_) rfl (by kernel_rfl) (by kernel_rfl) (by kernel_rfl) hS rfl ?_ ?_
      rotate_left
      · intro wS hSw; go_simp; (with_reducible rfl)
      simp only [List.getElem_toArray, List.getElem_cons_succ, List.getElem_cons_zero, Act.put, List.setIfInBounds_toArray, List.set_cons_zero, List.set_cons_succ]
      refine rg_take 6 (v := ?_) rfl (by kernel_rfl) (by kernel_rfl) (by kernel_rfl) hS rfl ?_ ?_
      rotate_left
      · intro wS hSw; go_simp; (with_reducible rfl)
      simp only [List.getElem_toArray, List.getElem_cons_succ, List.getElem_cons_zero, Act.put, List.setIfInBounds_toArray, List.set_cons_zero, List.set_cons_succ]
      refine rg_take 7 (v := ?_) rfl (by kernel_rfl) (by kernel_rfl) (by kernel_rfl) hS rfl ?_ ?_
      rotate_left
      · intro wS hSw; go_simp; (with_reducible rfl)
      simp only [List.getElem_toArray, List.getElem_cons_succ, List.getElem_cons_zero, Act.put, List.setIfInBounds_toArray, List.set_cons_zero, List.set_cons_succ]
      refine rg_take 8 (v := ?_) rfl (by kernel_rfl) (by kernel_rfl) (by kernel_rfl) hS rfl ?_ ?_
      rotate_left
      · intro wS hSw; go_simp; (with_reducible rfl)
      simp only [List.getElem_toArray, List.getElem_cons_succ, List.getElem_cons_zero, Act.put, List.setIfInBounds_toArray, List.set_cons_zero, List.set_cons_succ]
      refine rg_take 9 (v := ?_) rfl (by kernel_rfl) (by kernel_rfl) (by kernel_rfl) hS rfl ?_ ?_
      rotate_left
      · intro wS hSw
        have k0 := hc'.1 _ hSw
        have k1 := hc'.2.1 _ hSw
        have k2 := hc'.2.2.1 _ hSw
        have k3 := hc'.2.2.2 _ hSw
        go_simp
        (with_reducible rfl)
      simp only [List.getElem_toArray, List.getElem_cons_succ, List.getElem_cons_zero, Act.put, List.setIfInBounds_toArray, List.set_cons_zero, List.set_cons_succ]
      refine rg_take 10 (v := ?_) rfl (by kernel_rfl) (by kernel_rfl) (by kernel_rfl) hS rfl ?_ ?_
      rotate_left
      · intro wS hSw; have hgd := fun x y => run_eqGuard_agg (P := Try.prog) wS .neq 24 x y #[.int .u32 (f : Int), .string (str g), .string (str h)] #[.int .u32 (f : Int), .string (str g), .string (str h)] xid_guard; go_simp; (with_reducible rfl)
      simp only [List.getElem_toArray, List.getElem_cons_succ, List.getElem_cons_zero, Act.put, List.setIfInBounds_toArray, List.set_cons_zero, List.set_cons_succ]
      refine rg_take 11 (v := ?_) rfl (by kernel_rfl) (by kernel_rfl) (by kernel_rfl) hS rfl ?_ ?_
      rotate_left
      · intro wS hSw; go_simp; (with_reducible rfl)
      simp only [List.getElem_toArray, List.getElem_cons_succ, List.getElem_cons_zero, Act.put, List.setIfInBounds_toArray, List.set_cons_zero, List.set_cons_succ]
      refine rg_take 12 (v := ?_) rfl (by kernel_rfl) (by kernel_rfl) (by kernel_rfl) hS rfl ?_ ?_
      rotate_left
      · intro wS hSw; go_simp; (with_reducible rfl)
      simp only [List.getElem_toArray, List.getElem_cons_succ, List.getElem_cons_zero, Act.put, List.setIfInBounds_toArray, List.set_cons_zero, List.set_cons_succ]
      refine rg_take 13 (v := ?_) rfl (by kernel_rfl) (by kernel_rfl) (by kernel_rfl) hS rfl ?_ ?_
      rotate_left
      · intro wS hSw; go_simp; (with_reducible rfl)
      simp only [List.getElem_toArray, List.getElem_cons_succ, List.getElem_cons_zero, Act.put, List.setIfInBounds_toArray, List.set_cons_zero, List.set_cons_succ]
      refine rg_take 14 (v := ?_) rfl (by kernel_rfl) (by kernel_rfl) (by kernel_rfl) hS rfl ?_ ?_
      rotate_left
      · intro wS hSw; go_simp; (with_reducible rfl)
      simp only [List.getElem_toArray, List.getElem_cons_succ, List.getElem_cons_zero, Act.put, List.setIfInBounds_toArray, List.set_cons_zero, List.set_cons_succ]
      refine rg_take 15 (v := ?_) rfl (by kernel_rfl) (by kernel_rfl) (by kernel_rfl) hS rfl ?_ ?_
      rotate_left
      · intro wS hSw; go_simp; (with_reducible rfl)
      simp only [List.getElem_toArray, List.getElem_cons_succ, List.getElem_cons_zero, Act.put, List.setIfInBounds_toArray, List.set_cons_zero, List.set_cons_succ]
      refine rg_take 16 (v := ?_) rfl (by kernel_rfl) (by kernel_rfl) (by kernel_rfl) hS rfl ?_ ?_
      rotate_left
      · intro wS hSw
        have k0 := hc.1 _ hSw
        have k1 := hc.2.1 _ hSw
        have k2 := hc.2.2.1 _ hSw
        have k3 := hc.2.2.2 _ hSw
        go_simp
        (with_reducible rfl)
      simp only [List.getElem_toArray, List.getElem_cons_succ, List.getElem_cons_zero, Act.put, List.setIfInBounds_toArray, List.set_cons_zero, List.set_cons_succ]
      refine rg_take 17 (v := ?_) rfl (by kernel_rfl) (by kernel_rfl) (by kernel_rfl) hS rfl ?_ ?_
      rotate_left
      · intro wS hSw; go_simp; (with_reducible rfl)
      simp only [List.getElem_toArray, List.getElem_cons_succ, List.getElem_cons_zero, Act.put, List.setIfInBounds_toArray, List.set_cons_zero, List.set_cons_succ]
      refine rg_take 18 (v := ?_) rfl (by kernel_rfl) (by kernel_rfl) (by kernel_rfl) hS rfl ?_ ?_
      rotate_left
      · intro wS hSw; go_simp; (with_reducible rfl)
      simp only [List.getElem_toArray, List.getElem_cons_succ, List.getElem_cons_zero, Act.put, List.setIfInBounds_toArray, List.set_cons_zero, List.set_cons_succ]
      refine rg_take 19 (v := ?_) rfl (by kernel_rfl) (by kernel_rfl) (by kernel_rfl) hS rfl ?_ ?_
      rotate_left
      · intro wS hSw; go_simp; (with_reducible rfl)
      simp only [List.getElem_toArray, List.getElem_cons_succ, List.getElem_cons_zero, Act.put, List.setIfInBounds_toArray, List.set_cons_zero, List.set_cons_succ]
      refine rg_take 20 (v := ?_) rfl (by kernel_rfl) (by kernel_rfl) (by kernel_rfl) hS rfl ?_ ?_
      rotate_left
      · intro wS hSw; go_simp; (with_reducible rfl)
      simp only [List.getElem_toArray, List.getElem_cons_succ, List.getElem_cons_zero, Act.put, List.setIfInBounds_toArray, List.set_cons_zero, List.set_cons_succ]
      refine rg_take 21 (v := ?_) rfl (by kernel_rfl) (by kernel_rfl) (by kernel_rfl) hS rfl ?_ ?_
      rotate_left
      · intro wS hSw
        have k0 := hc'.1 _ hSw
        have k1 := hc'.2.1 _ hSw
        have k2 := hc'.2.2.1 _ hSw
        have k3 := hc'.2.2.2 _ hSw
        go_simp
        (with_reducible rfl)
      simp only [List.getElem_toArray, List.getElem_cons_succ, List.getElem_cons_zero, Act.put, List.setIfInBounds_toArray, List.set_cons_zero, List.set_cons_succ]
      refine rg_one 22 rfl (by kernel_rfl) rfl (fun K hK => ?_)
      have hsp1 := hsp wd hS
      clear hsp
      go_simp
      refine hsp1.mono ?_
      rintro e w5 ⟨rfl, hB5⟩
      have hS5 := hS.trans (hB5.mono hS.size)
      refine hK _ _ hS5 ?_
      clear hK K hB5 hS hsp1
      refine rg_take 23 (v := ?_) rfl (by kernel_rfl) (by kernel_rfl) (by kernel_rfl) hS5 rfl ?_ ?_
      rotate_left
      · intro wS hSw; go_simp; (with_reducible rfl)
      simp only [List.getElem_toArray, List.getElem_cons_succ, List.getElem_cons_zero, Act.put, List.setIfInBounds_toArray, List.set_cons_zero, List.set_cons_succ]
      refine rg_take 24 (v := ?_) rfl (by kernel_rfl) (by kernel_rfl) (by kernel_rfl) hS5 rfl ?_ ?_
      rotate_left
      · intro wS hSw; go_simp; (with_reducible rfl)
      simp only [List.getElem_toArray, List.getElem_cons_succ, List.getElem_cons_zero, Act.put, List.setIfInBounds_toArray, List.set_cons_zero, List.set_cons_succ]
      refine rg_end (by kernel_rfl) ?_
      go_wp2_with (first | (with_reducible refine hold_append ?_) | (with_reducible refine hold_make ?_) | (with_reducible refine hold_copy ?_))
      exact ⟨⟨0 + 1, by omega, by first | rfl | go_num | omega⟩, by simp [RowKit.intOf]⟩
    · go_wp2_with (first | (with_reducible refine hold_append ?_) | (with_reducible refine hold_make ?_) | (with_reducible refine hold_copy ?_))
      go_ret
      exact ⟨rfl, hBr⟩
end Go.PH
end

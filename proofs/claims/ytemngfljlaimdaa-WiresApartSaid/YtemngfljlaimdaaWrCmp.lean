/- The comparing function of Ways. -/
import Derived.Test.YtemngfljlaimdaaWrWay
import Derived.Test.YtemngfljlaimdaaRecSort
import Derived.Test.YtemngfljlaimdaaRegion2
set_option linter.all false
set_option linter.unusedSimpArgs false
set_option linter.unusedVariables false
namespace Go.PH
open Go.RowKit Go.Proofs

def cmpI (x y : Int) : Int := if x < y then -1 else if y < x then 1 else 0
def orW (x y : Int) : Int := if x = 0 then y else x
def cmpP (p q : Int × Int) : Int := orW (cmpI p.1 q.1) (cmpI p.2 q.2)
theorem isnanI_any (x : Int) (w : World) : Calls Try.prog 33 #[.int .i64 x] w fun e w' => e = .returned (.bool false) ∧ w' = w := by
  have h : (x != x) = false := by simp
  go_enter Try.func33, Try.ntmps33
  go_wp2_with (first | (with_reducible refine hold_append ?_) | (with_reducible refine hold_make ?_) | (with_reducible refine hold_copy ?_))
  go_ret
  exact ⟨rfl, rfl⟩
theorem cmpI_any (x y : Int) (w : World) : Calls Try.prog 29 #[.int .i64 x, .int .i64 y] w fun e w' => e = .returned (.int .i64 (cmpI x y)) ∧ w' = w := by
  have h1 := fun w => isnanI_any x w
  have h2 := fun w => isnanI_any y w
  by_cases c1 : x < y
  · have he : cmpI x y = -1 := by simp [cmpI, c1]
    rw [he]
    clear he
    go_enter Try.func29, Try.ntmps29
    go_wp2_with (first | (with_reducible refine hold_append ?_) | (with_reducible refine hold_make ?_) | (with_reducible refine hold_copy ?_))
    refine (h1 w).mono ?_
    rintro e w1 ⟨rfl, hw⟩
    subst w1
    go_wp2_with (first | (with_reducible refine hold_append ?_) | (with_reducible refine hold_make ?_) | (with_reducible refine hold_copy ?_))
    refine (h2 w).mono ?_
    rintro e w1 ⟨rfl, hw⟩
    subst w1
    go_wp2_with (first | (with_reducible refine hold_append ?_) | (with_reducible refine hold_make ?_) | (with_reducible refine hold_copy ?_))
    go_ret
    exact ⟨rfl, rfl⟩
  · by_cases c2 : y < x
    · have he : cmpI x y = 1 := by simp [cmpI, c1, c2]
      rw [he]
      clear he
      go_enter Try.func29, Try.ntmps29
      go_wp2_with (first | (with_reducible refine hold_append ?_) | (with_reducible refine hold_make ?_) | (with_reducible refine hold_copy ?_))
      refine (h1 w).mono ?_
      rintro e w1 ⟨rfl, hw⟩
      subst w1
      go_wp2_with (first | (with_reducible refine hold_append ?_) | (with_reducible refine hold_make ?_) | (with_reducible refine hold_copy ?_))
      refine (h2 w).mono ?_
      rintro e w1 ⟨rfl, hw⟩
      subst w1
      go_wp2_with (first | (with_reducible refine hold_append ?_) | (with_reducible refine hold_make ?_) | (with_reducible refine hold_copy ?_))
      go_ret
      exact ⟨rfl, rfl⟩
    · have he : cmpI x y = 0 := by simp [cmpI, c1, c2]
      rw [he]
      clear he
      go_enter Try.func29, Try.ntmps29
      go_wp2_with (first | (with_reducible refine hold_append ?_) | (with_reducible refine hold_make ?_) | (with_reducible refine hold_copy ?_))
      refine (h1 w).mono ?_
      rintro e w1 ⟨rfl, hw⟩
      subst w1
      go_wp2_with (first | (with_reducible refine hold_append ?_) | (with_reducible refine hold_make ?_) | (with_reducible refine hold_copy ?_))
      refine (h2 w).mono ?_
      rintro e w1 ⟨rfl, hw⟩
      subst w1
      go_wp2_with (first | (with_reducible refine hold_append ?_) | (with_reducible refine hold_make ?_) | (with_reducible refine hold_copy ?_))
      go_ret
      exact ⟨rfl, rfl⟩
set_option maxRecDepth 20000 in
theorem orW_any (B : Nat) (A : Option Addr) (c : Nat) (x y : Int) (w : World) (hr : Rd w B 1 A 2 c [.int .i64 x, .int .i64 y]) :
    Calls Try.prog 28 #[.slice A 2 c] w fun e w' => e = .returned (.int .i64 (orW x y)) ∧ w' = w := by
  obtain ⟨b, off, u, rfl, _, hx0, hc0⟩ := hr.at_k (k := 0) (by omega)
  obtain ⟨b1, off1, u1, e1, _, hx1, hc1⟩ := hr.at_k (k := 1) (by omega)
  cases e1
  simp only [List.getElem?_cons_zero, List.getElem?_cons_succ, Option.some.injEq] at hx0 hx1
  subst hx0 hx1
  simp only [Nat.add_zero] at hc0
  go_enter Try.func28, Try.ntmps28
  go_wp2_with (first | (with_reducible refine hold_append ?_) | (with_reducible refine hold_make ?_) | (with_reducible refine hold_copy ?_))
  go_loopw [8] (fun s wr => ∃ k : Nat, k ≤ 2 ∧ s = .int .i64 k ∧ (0 < k → x = 0) ∧ (1 < k → y = 0) ∧ wr = w) (fun s _ => 2 - (Proofs.intOf s).toNat)
  case atStart => exact ⟨0, by omega, rfl, by omega, by omega, rfl⟩
  case round =>
    obtain ⟨k, hk, rfl, g0, g1, hw⟩ := hrel
    subst wr
    obtain rfl | rfl | rfl : k = 0 ∨ k = 1 ∨ k = 2 := by omega
    · by_cases q : x = 0
      · have hq : (x != 0) = false := by simp [q]
        have HQ := Lib.hid q
        clear q g0 g1
        go_wp2_with (first | (with_reducible refine hold_append ?_) | (with_reducible refine hold_make ?_) | (with_reducible refine hold_copy ?_))
        exact ⟨⟨1, by omega, by first | rfl | go_num, fun _ => HQ.out, by omega, by first | rfl | trivial⟩, by simp [Proofs.intOf]⟩
      · have hq : (x != 0) = true := by simp [q]
        have HF := Lib.hid (show orW x y = x by rw [orW, if_neg q])
        clear q g0 g1
        go_wp2_with (first | (with_reducible refine hold_append ?_) | (with_reducible refine hold_make ?_) | (with_reducible refine hold_copy ?_))
        go_ret
        rw [HF.out]
        exact ⟨rfl, rfl⟩
    · have HX := Lib.hid (g0 (by omega))
      by_cases q : y = 0
      · have hq : (y != 0) = false := by simp [q]
        have HQ := Lib.hid q
        clear q g0 g1
        go_wp2_with (first | (with_reducible refine hold_append ?_) | (with_reducible refine hold_make ?_) | (with_reducible refine hold_copy ?_))
        exact ⟨⟨2, by omega, by first | rfl | go_num, fun _ => HX.out, fun _ => HQ.out, by first | rfl | trivial⟩, by simp [Proofs.intOf]⟩
      · have hq : (y != 0) = true := by simp [q]
        have HF := Lib.hid (show orW x y = y by rw [orW, if_pos HX.out])
        clear q g0 g1
        go_wp2_with (first | (with_reducible refine hold_append ?_) | (with_reducible refine hold_make ?_) | (with_reducible refine hold_copy ?_))
        go_ret
        rw [HF.out]
        exact ⟨rfl, rfl⟩
    · have HF := Lib.hid (show orW x y = 0 by rw [orW, if_pos (g0 (by omega)), g1 (by omega)])
      clear g0 g1
      go_wp2_with (first | (with_reducible refine hold_append ?_) | (with_reducible refine hold_make ?_) | (with_reducible refine hold_copy ?_))
      go_ret
      rw [HF.out]
      exact ⟨rfl, rfl⟩
set_option maxRecDepth 20000 in
set_option maxHeartbeats 1000000 in
theorem ways1_grow (p q : Int × Int) (w : World) :
    Calls Try.prog 27 #[.agg #[.int .i64 p.1, .int .i64 p.2], .agg #[.int .i64 q.1, .int .i64 q.2]] w fun e w' => e = .returned (.int .i64 (cmpP p q)) ∧ Grows w w' := by
  have HC : Hid (cmpP p q = orW (cmpI p.1 q.1) (cmpI p.2 q.2)) := Lib.hid rfl
  obtain ⟨a, b⟩ := p
  obtain ⟨c, d⟩ := q
  simp only at HC
  generalize cmpP (a, b) (c, d) = r at *
  simp only
  have hc1 := fun w => cmpI_any a c w
  have hc2 := fun w => cmpI_any b d w
  generalize cmpI a c = x at *
  generalize cmpI b d = y at *
  obtain ⟨w0, hw0⟩ : ∃ w0, w0 = ((w.alloc (.cells #[.int .i64 a, .int .i64 b] 45)).alloc (.cells #[.int .i64 c, .int .i64 d] 45)) := ⟨_, rfl⟩
  have hB0 : Grows w w0 := by rw [hw0]; exact ((Grows.refl _).alloc _).alloc _
  have hb0 : Box w0 w.heap.size 45 #[.int .i64 a, .int .i64 b] := by rw [hw0]; exact (Box.new _ _ _).alloc _
  have hb1 : Box w0 (w.heap.size + 1) 45 #[.int .i64 c, .int .i64 d] := by
    rw [hw0]
    have := Box.new (w.alloc (.cells #[.int .i64 a, .int .i64 b] 45)) #[.int .i64 c, .int .i64 d] 45
    rwa [show (w.alloc (.cells #[.int .i64 a, .int .i64 b] 45)).heap.size = w.heap.size + 1 by simp] at this
  go_enter Try.func27, Try.ntmps27
  go_wp2_with (first | (with_reducible refine hold_append ?_) | (with_reducible refine hold_make ?_) | (with_reducible refine hold_copy ?_))
  rw [← hw0]
  clear hw0
  refine rg_start (fun wx : World => Box wx w.heap.size 45 #[.int .i64 a, .int .i64 b] ∧ Box wx (w.heap.size + 1) 45 #[.int .i64 c, .int .i64 d]) (by kernel_rfl) ?_
  have hS : Box w0.drew w.heap.size 45 #[.int .i64 a, .int .i64 b] ∧ Box w0.drew (w.heap.size + 1) 45 #[.int .i64 c, .int .i64 d] := ⟨hb0, hb1⟩
  have hBd : Grows w w0.drew := hB0.drew
  generalize w0.drew = w1 at *
  refine rg_take 0 (v := ?_) rfl (by kernel_rfl) (by kernel_rfl) (by kernel_rfl) hS rfl ?_ ?_
  rotate_left
  · intro wS hSw; go_simp; (with_reducible rfl)
  simp only [List.getElem_toArray, List.getElem_cons_zero, Act.put, List.setIfInBounds_toArray, List.set_cons_zero, List.set_cons_succ]
  refine rg_take 1 (v := ?_) rfl (by kernel_rfl) (by kernel_rfl) (by kernel_rfl) hS rfl ?_ ?_
  rotate_left
  · intro wS hSw; have k0 := hSw.1.cell (j := 0) rfl; go_simp; (with_reducible rfl)
  simp only [List.getElem_toArray, List.getElem_cons_succ, List.getElem_cons_zero, Act.put, List.setIfInBounds_toArray, List.set_cons_zero, List.set_cons_succ]
  refine rg_take 2 (v := ?_) rfl (by kernel_rfl) (by kernel_rfl) (by kernel_rfl) hS rfl ?_ ?_
  rotate_left
  · intro wS hSw; go_simp; (with_reducible rfl)
  simp only [List.getElem_toArray, List.getElem_cons_succ, List.getElem_cons_zero, Act.put, List.setIfInBounds_toArray, List.set_cons_zero, List.set_cons_succ]
  refine rg_take 3 (v := ?_) rfl (by kernel_rfl) (by kernel_rfl) (by kernel_rfl) hS rfl ?_ ?_
  rotate_left
  · intro wS hSw; have k0 := hSw.2.cell (j := 0) rfl; go_simp; (with_reducible rfl)
  simp only [List.getElem_toArray, List.getElem_cons_succ, List.getElem_cons_zero, Act.put, List.setIfInBounds_toArray, List.set_cons_zero, List.set_cons_succ]
  refine rg_take 5 (v := ?_) rfl (by kernel_rfl) (by kernel_rfl) (by kernel_rfl) hS rfl ?_ ?_
  rotate_left
  · intro wS hSw; go_simp; (with_reducible rfl)
  simp only [List.getElem_toArray, List.getElem_cons_succ, List.getElem_cons_zero, Act.put, List.setIfInBounds_toArray, List.set_cons_zero, List.set_cons_succ]
  refine rg_take 6 (v := ?_) rfl (by kernel_rfl) (by kernel_rfl) (by kernel_rfl) hS rfl ?_ ?_
  rotate_left
  · intro wS hSw; have k0 := hSw.1.cell (j := 1) rfl; go_simp; (with_reducible rfl)
  simp only [List.getElem_toArray, List.getElem_cons_succ, List.getElem_cons_zero, Act.put, List.setIfInBounds_toArray, List.set_cons_zero, List.set_cons_succ]
  refine rg_take 7 (v := ?_) rfl (by kernel_rfl) (by kernel_rfl) (by kernel_rfl) hS rfl ?_ ?_
  rotate_left
  · intro wS hSw; go_simp; (with_reducible rfl)
  simp only [List.getElem_toArray, List.getElem_cons_succ, List.getElem_cons_zero, Act.put, List.setIfInBounds_toArray, List.set_cons_zero, List.set_cons_succ]
  refine rg_take 8 (v := ?_) rfl (by kernel_rfl) (by kernel_rfl) (by kernel_rfl) hS rfl ?_ ?_
  rotate_left
  · intro wS hSw; have k0 := hSw.2.cell (j := 1) rfl; go_simp; (with_reducible rfl)
  simp only [List.getElem_toArray, List.getElem_cons_succ, List.getElem_cons_zero, Act.put, List.setIfInBounds_toArray, List.set_cons_zero, List.set_cons_succ]
  refine rg_one 4 rfl (by kernel_rfl) rfl (fun K hK => ?_)
  go_simp
  refine (hc1 w1).mono ?_
  rintro e w2 ⟨rfl, hww⟩
  subst w2
  refine hK _ _ hS ?_; clear hK K
  refine rg_one 9 rfl (by kernel_rfl) rfl (fun K hK => ?_)
  go_simp
  refine (hc2 w1).mono ?_
  rintro e w2 ⟨rfl, hww⟩
  subst w2
  refine hK _ _ hS ?_; clear hK K
  have hlit : Own (w1.alloc (.cells #[.int .i64 x, .int .i64 y] 3)) w1.heap.size 3 1 (some ⟨w1.heap.size, 0, none⟩) 2 2 [.int .i64 x, .int .i64 y] :=
    own_lit (w := w1) w1.heap.size #[.int .i64 x, .int .i64 y] 3 2 (Nat.le_refl _) (by simp [maxLen]) rfl (size := 1) (by omega)
  have hBl : Grows w (w1.alloc (.cells #[.int .i64 x, .int .i64 y] 3)) := hBd.alloc _
  have hSl := And.intro (hS.1.alloc (.cells #[.int .i64 x, .int .i64 y] 3)) (hS.2.alloc (.cells #[.int .i64 x, .int .i64 y] 3))
  refine rg_one 10 rfl (by kernel_rfl) rfl (fun K hK => ?_)
  go_simp
  refine hK _ _ hSl ?_; clear hK K
  refine rg_one 11 rfl (by kernel_rfl) rfl (fun K hK => ?_)
  go_simp
  refine (orW_any _ _ _ x y _ hlit.rd).mono ?_
  rintro e w2 ⟨rfl, hww⟩
  subst w2
  refine hK _ _ hSl ?_; clear hK K
  refine rg_take 12 (v := ?_) rfl (by kernel_rfl) (by kernel_rfl) (by kernel_rfl) hSl rfl ?_ ?_
  rotate_left
  · intro wS hSw; go_simp; (with_reducible rfl)
  simp only [List.getElem_toArray, List.getElem_cons_succ, List.getElem_cons_zero, Act.put, List.setIfInBounds_toArray, List.set_cons_zero, List.set_cons_succ]
  refine rg_end (by kernel_rfl) ?_
  go_wp2_with (first | (with_reducible refine hold_append ?_) | (with_reducible refine hold_make ?_) | (with_reducible refine hold_copy ?_))
  go_ret
  rw [HC.out]
  exact ⟨rfl, hBl⟩
end Go.PH

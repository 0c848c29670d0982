/- The walks of the reference's Add and Both. -/
import Derived.Test.YtjlfjlafpgjhbaaSpOf0
import Derived.Test.YtjlfjlafpgjhbaaSpOf1
import Derived.Test.YtjlfjlafpgjhbaaSpOf2
import Derived.Test.YtjlfjlafpgjhbaaSpBoth
namespace Go.PH
open Go.RowKit Go.Proofs

set_option maxRecDepth 20000 in
theorem radd_anyA (A : Option Addr) (n c : Nat) (l : List Sp) (f t : Nat) (w : World) (hr : RdS w w.heap.size A n c l) (hb : spOK 4294967296 l) (hf : f < 4294967296) (ht : t < 4294967296) (hn : n ≤ 100000) :
    Calls Try.prog 13 #[.slice A n c, .int .u32 f, .int .u32 t, .bool false] w fun e w' => ∃ A2 c2, e = .returned (.tuple #[.slice A2 (addR l f t).length c2, .int .i64 (spErr l f t)]) ∧ OwnS w' w.heap.size A2 (addR l f t).length c2 (addR l f t) ∧ Below w.heap.size w w' := by
  have hl := hr.length
  have hra := rright_any A n c l w.heap.size w hr hb (Nat.le_refl _) (by omega)
  cases hright : spRight l
  · rw [hright] at hra
    rw [addR_not hright, spErr_not hright]
    go_enter Try.func13, Try.ntmps13
    go_wp2_with (first | (with_reducible refine hold_append ?_) | (with_reducible refine hold_make ?_) | (with_reducible refine hold_copy ?_))
    refine hra.mono ?_
    rintro e w1 ⟨rfl, hB1⟩
    go_wp2_with (first | (with_reducible refine hold_append ?_) | (with_reducible refine hold_make ?_) | (with_reducible refine hold_copy ?_))
    go_ret2
    exact ⟨none, 0, rfl, Own.none_ _ _ _ _, hB1⟩
  · rw [hright] at hra
    by_cases hft : t < f
    · rw [addR_arg hft, spErr_arg hright hft]
      have hd : (t : Int) < (f : Int) := by omega
      clear hright
      go_enter Try.func13, Try.ntmps13
      go_wp2_with (first | (with_reducible refine hold_append ?_) | (with_reducible refine hold_make ?_) | (with_reducible refine hold_copy ?_))
      refine hra.mono ?_
      rintro e w1 ⟨rfl, hB1⟩
      go_wp2_with (first | (with_reducible refine hold_append ?_) | (with_reducible refine hold_make ?_) | (with_reducible refine hold_copy ?_))
      go_ret2
      exact ⟨none, 0, rfl, Own.none_ _ _ _ _, hB1⟩
    · rw [addR_ok hright (by omega), spErr_ok hright (by omega)]
      rw [← spOf_add l f t (by omega) hright]
      have hd : ¬ (t : Int) < (f : Int) := by omega
      clear hright
      go_enter Try.func13, Try.ntmps13
      go_wp2_with (first | (with_reducible refine hold_append ?_) | (with_reducible refine hold_make ?_) | (with_reducible refine hold_copy ?_))
      refine hra.mono ?_
      rintro e w1 ⟨rfl, hB1⟩
      have hlit := own_lit (w := w1) w.heap.size #[.int .u32 (f : Int), .int .u32 (t : Int)] 33 1 hB1.size (by simp [maxLen]) rfl (size := 2) (by omega)
      have hB2 : Below w.heap.size w (w1.alloc (.cells #[.int .u32 (f : Int), .int .u32 (t : Int)] 33)) := hB1.alloc hB1.size _
      have hsz2 := hB2.size
      go_wp2_with (first | (with_reducible refine hold_append ?_) | (with_reducible refine hold_make ?_) | (with_reducible refine hold_copy ?_))
      refine (of_any1 A n c l _ 1 1 [(f, t)] _ ((hr.below hB2).more hsz2) hb hlit.rd (fun z hz => by obtain rfl := List.mem_singleton.1 hz; exact ⟨hf, ht⟩) (by omega) (by omega)).mono ?_
      rintro e w3 ⟨A3, c3, rfl, ho3, hB3⟩
      have hB13 := hB2.trans (hB3.mono hsz2)
      have ho3' := ho3.base_le hsz2
      go_wp2_with (first | (with_reducible refine hold_append ?_) | (with_reducible refine hold_make ?_) | (with_reducible refine hold_copy ?_))
      go_ret2
      exact ⟨A3, c3, rfl, ho3', hB13⟩
set_option maxRecDepth 20000 in
theorem radd_anyC (A : Option Addr) (n c : Nat) (l : List Sp) (f t : Nat) (w : World) (hr : RdS w w.heap.size A n c l) (hb : spOK 4294967296 l) (hf : f < 4294967296) (ht : t < 4294967296) (hn : n ≤ 100000) :
    Calls Try.prog 13 #[.slice A n c, .int .u32 f, .int .u32 t, .bool true] w fun e w' => ∃ A2 c2, e = .returned (.tuple #[.slice A2 (cutR l f t).length c2, .int .i64 (spErr l f t)]) ∧ OwnS w' w.heap.size A2 (cutR l f t).length c2 (cutR l f t) ∧ Below w.heap.size w w' := by
  have hl := hr.length
  have hra := rright_any A n c l w.heap.size w hr hb (Nat.le_refl _) (by omega)
  cases hright : spRight l
  · rw [hright] at hra
    rw [cutR_not hright, spErr_not hright]
    go_enter Try.func13, Try.ntmps13
    go_wp2_with (first | (with_reducible refine hold_append ?_) | (with_reducible refine hold_make ?_) | (with_reducible refine hold_copy ?_))
    refine hra.mono ?_
    rintro e w1 ⟨rfl, hB1⟩
    go_wp2_with (first | (with_reducible refine hold_append ?_) | (with_reducible refine hold_make ?_) | (with_reducible refine hold_copy ?_))
    go_ret2
    exact ⟨none, 0, rfl, Own.none_ _ _ _ _, hB1⟩
  · rw [hright] at hra
    by_cases hft : t < f
    · rw [cutR_arg hft, spErr_arg hright hft]
      have hd : (t : Int) < (f : Int) := by omega
      clear hright
      go_enter Try.func13, Try.ntmps13
      go_wp2_with (first | (with_reducible refine hold_append ?_) | (with_reducible refine hold_make ?_) | (with_reducible refine hold_copy ?_))
      refine hra.mono ?_
      rintro e w1 ⟨rfl, hB1⟩
      go_wp2_with (first | (with_reducible refine hold_append ?_) | (with_reducible refine hold_make ?_) | (with_reducible refine hold_copy ?_))
      go_ret2
      exact ⟨none, 0, rfl, Own.none_ _ _ _ _, hB1⟩
    · rw [cutR_ok hright (by omega), spErr_ok hright (by omega)]
      rw [← spOf_cut l f t (by omega) hright]
      have hd : ¬ (t : Int) < (f : Int) := by omega
      clear hright
      go_enter Try.func13, Try.ntmps13
      go_wp2_with (first | (with_reducible refine hold_append ?_) | (with_reducible refine hold_make ?_) | (with_reducible refine hold_copy ?_))
      refine hra.mono ?_
      rintro e w1 ⟨rfl, hB1⟩
      have hlit := own_lit (w := w1) w.heap.size #[.int .u32 (f : Int), .int .u32 (t : Int)] 33 1 hB1.size (by simp [maxLen]) rfl (size := 2) (by omega)
      have hB2 : Below w.heap.size w (w1.alloc (.cells #[.int .u32 (f : Int), .int .u32 (t : Int)] 33)) := hB1.alloc hB1.size _
      have hsz2 := hB2.size
      go_wp2_with (first | (with_reducible refine hold_append ?_) | (with_reducible refine hold_make ?_) | (with_reducible refine hold_copy ?_))
      refine (of_any2 A n c l _ 1 1 [(f, t)] _ ((hr.below hB2).more hsz2) hb hlit.rd (fun z hz => by obtain rfl := List.mem_singleton.1 hz; exact ⟨hf, ht⟩) (by omega) (by omega)).mono ?_
      rintro e w3 ⟨A3, c3, rfl, ho3, hB3⟩
      have hB13 := hB2.trans (hB3.mono hsz2)
      have ho3' := ho3.base_le hsz2
      go_wp2_with (first | (with_reducible refine hold_append ?_) | (with_reducible refine hold_make ?_) | (with_reducible refine hold_copy ?_))
      go_ret2
      exact ⟨A3, c3, rfl, ho3', hB13⟩
set_option maxRecDepth 20000 in
theorem rboth_any0 (A : Option Addr) (n c : Nat) (l : List Sp) (A' : Option Addr) (n' c' : Nat) (l' : List Sp) (w : World) (hr : RdS w w.heap.size A n c l) (hb : spOK 4294967296 l) (hr' : RdS w w.heap.size A' n' c' l') (hb' : spOK 4294967296 l') (hn : n ≤ 10000) (hn' : n' ≤ 10000) :
    Calls Try.prog 24 #[.slice A n c, .slice A' n' c', .int .i64 0] w fun e w' => ∃ A2 c2, e = .returned (.tuple #[.slice A2 (bothR l l').length c2, .int .i64 (pairErr l l')]) ∧ OwnS w' w.heap.size A2 (bothR l l').length c2 (bothR l l') ∧ Below w.heap.size w w' := by
  have hl := hr.length
  have hl' := hr'.length
  have hra := rright_any A n c l w.heap.size w hr hb (Nat.le_refl _) (by omega)
  have hrb : ∀ w1, Below w.heap.size w w1 → _ := fun w1 h => rright_any A' n' c' l' w.heap.size w1 (hr'.below h) hb' (by have := h.size; omega) (by omega)
  cases hright : spRight l
  · rw [hright] at hra
    have e1 : bothR l l' = [] := by simp [bothR, hright]
    have e2 : pairErr l l' = 30 := by simp [pairErr, hright]
    rw [e1, e2]
    go_enter Try.func24, Try.ntmps24
    go_wp2_with (first | (with_reducible refine hold_append ?_) | (with_reducible refine hold_make ?_) | (with_reducible refine hold_copy ?_))
    refine hra.mono ?_
    rintro e w1 ⟨rfl, hB1⟩
    go_wp2_with (first | (with_reducible refine hold_append ?_) | (with_reducible refine hold_make ?_) | (with_reducible refine hold_copy ?_))
    go_ret2
    exact ⟨none, 0, rfl, Own.none_ _ _ _ _, hB1⟩
  · rw [hright] at hra
    cases hright' : spRight l'
    · rw [hright'] at hrb
      have e1 : bothR l l' = [] := by simp [bothR, hright']
      have e2 : pairErr l l' = 30 := by simp [pairErr, hright']
      rw [e1, e2]
      go_enter Try.func24, Try.ntmps24
      go_wp2_with (first | (with_reducible refine hold_append ?_) | (with_reducible refine hold_make ?_) | (with_reducible refine hold_copy ?_))
      refine hra.mono ?_
      rintro e w1 ⟨rfl, hB1⟩
      go_wp2_with (first | (with_reducible refine hold_append ?_) | (with_reducible refine hold_make ?_) | (with_reducible refine hold_copy ?_))
      refine (hrb w1 hB1).mono ?_
      rintro e w2 ⟨rfl, hB2⟩
      have hB12 := hB1.trans (hB2.mono hB1.size)
      go_wp2_with (first | (with_reducible refine hold_append ?_) | (with_reducible refine hold_make ?_) | (with_reducible refine hold_copy ?_))
      go_ret2
      exact ⟨none, 0, rfl, Own.none_ _ _ _ _, hB12⟩
    · rw [hright'] at hrb
      have e1 : bothR l l' = spBoth l l' := by simp [bothR, hright, hright']
      have e2 : pairErr l l' = 0 := by simp [pairErr, hright, hright']
      rw [e1, e2, ← spOf_both l l' hright hright']
      clear hright hright' e1 e2
      go_enter Try.func24, Try.ntmps24
      go_wp2_with (first | (with_reducible refine hold_append ?_) | (with_reducible refine hold_make ?_) | (with_reducible refine hold_copy ?_))
      refine hra.mono ?_
      rintro e w1 ⟨rfl, hB1⟩
      go_wp2_with (first | (with_reducible refine hold_append ?_) | (with_reducible refine hold_make ?_) | (with_reducible refine hold_copy ?_))
      refine (hrb w1 hB1).mono ?_
      rintro e w2 ⟨rfl, hB2⟩
      have hB12 := hB1.trans (hB2.mono hB1.size)
      have hsz2 := hB12.size
      clear hB1 hB2
      go_wp2_with (first | (with_reducible refine hold_append ?_) | (with_reducible refine hold_make ?_) | (with_reducible refine hold_copy ?_))
      refine (of_any0 A n c l A' n' c' l' w2 ((hr.below hB12).more hsz2) hb ((hr'.below hB12).more hsz2) hb' (by omega) (by omega)).mono ?_
      rintro e w3 ⟨A3, c3, rfl, ho3, hB3⟩
      have hB13 := hB12.trans (hB3.mono hsz2)
      have ho3' := ho3.base_le hsz2
      go_wp2_with (first | (with_reducible refine hold_append ?_) | (with_reducible refine hold_make ?_) | (with_reducible refine hold_copy ?_))
      go_ret2
      exact ⟨A3, c3, rfl, ho3', hB13⟩
set_option maxRecDepth 20000 in
theorem rboth_any1 (A : Option Addr) (n c : Nat) (l : List Sp) (A' : Option Addr) (n' c' : Nat) (l' : List Sp) (w : World) (hr : RdS w w.heap.size A n c l) (hb : spOK 4294967296 l) (hr' : RdS w w.heap.size A' n' c' l') (hb' : spOK 4294967296 l') (hn : n ≤ 10000) (hn' : n' ≤ 10000) :
    Calls Try.prog 24 #[.slice A n c, .slice A' n' c', .int .i64 1] w fun e w' => ∃ A2 c2, e = .returned (.tuple #[.slice A2 (eitherR l l').length c2, .int .i64 (pairErr l l')]) ∧ OwnS w' w.heap.size A2 (eitherR l l').length c2 (eitherR l l') ∧ Below w.heap.size w w' := by
  have hl := hr.length
  have hl' := hr'.length
  have hra := rright_any A n c l w.heap.size w hr hb (Nat.le_refl _) (by omega)
  have hrb : ∀ w1, Below w.heap.size w w1 → _ := fun w1 h => rright_any A' n' c' l' w.heap.size w1 (hr'.below h) hb' (by have := h.size; omega) (by omega)
  cases hright : spRight l
  · rw [hright] at hra
    have e1 : eitherR l l' = [] := by simp [eitherR, hright]
    have e2 : pairErr l l' = 30 := by simp [pairErr, hright]
    rw [e1, e2]
    go_enter Try.func24, Try.ntmps24
    go_wp2_with (first | (with_reducible refine hold_append ?_) | (with_reducible refine hold_make ?_) | (with_reducible refine hold_copy ?_))
    refine hra.mono ?_
    rintro e w1 ⟨rfl, hB1⟩
    go_wp2_with (first | (with_reducible refine hold_append ?_) | (with_reducible refine hold_make ?_) | (with_reducible refine hold_copy ?_))
    go_ret2
    exact ⟨none, 0, rfl, Own.none_ _ _ _ _, hB1⟩
  · rw [hright] at hra
    cases hright' : spRight l'
    · rw [hright'] at hrb
      have e1 : eitherR l l' = [] := by simp [eitherR, hright']
      have e2 : pairErr l l' = 30 := by simp [pairErr, hright']
      rw [e1, e2]
      go_enter Try.func24, Try.ntmps24
      go_wp2_with (first | (with_reducible refine hold_append ?_) | (with_reducible refine hold_make ?_) | (with_reducible refine hold_copy ?_))
      refine hra.mono ?_
      rintro e w1 ⟨rfl, hB1⟩
      go_wp2_with (first | (with_reducible refine hold_append ?_) | (with_reducible refine hold_make ?_) | (with_reducible refine hold_copy ?_))
      refine (hrb w1 hB1).mono ?_
      rintro e w2 ⟨rfl, hB2⟩
      have hB12 := hB1.trans (hB2.mono hB1.size)
      go_wp2_with (first | (with_reducible refine hold_append ?_) | (with_reducible refine hold_make ?_) | (with_reducible refine hold_copy ?_))
      go_ret2
      exact ⟨none, 0, rfl, Own.none_ _ _ _ _, hB12⟩
    · rw [hright'] at hrb
      have e1 : eitherR l l' = spEither l l' := by simp [eitherR, hright, hright']
      have e2 : pairErr l l' = 0 := by simp [pairErr, hright, hright']
      rw [e1, e2, ← spOf_either l l' hright hright']
      clear hright hright' e1 e2
      go_enter Try.func24, Try.ntmps24
      go_wp2_with (first | (with_reducible refine hold_append ?_) | (with_reducible refine hold_make ?_) | (with_reducible refine hold_copy ?_))
      refine hra.mono ?_
      rintro e w1 ⟨rfl, hB1⟩
      go_wp2_with (first | (with_reducible refine hold_append ?_) | (with_reducible refine hold_make ?_) | (with_reducible refine hold_copy ?_))
      refine (hrb w1 hB1).mono ?_
      rintro e w2 ⟨rfl, hB2⟩
      have hB12 := hB1.trans (hB2.mono hB1.size)
      have hsz2 := hB12.size
      clear hB1 hB2
      go_wp2_with (first | (with_reducible refine hold_append ?_) | (with_reducible refine hold_make ?_) | (with_reducible refine hold_copy ?_))
      refine (of_any1 A n c l A' n' c' l' w2 ((hr.below hB12).more hsz2) hb ((hr'.below hB12).more hsz2) hb' (by omega) (by omega)).mono ?_
      rintro e w3 ⟨A3, c3, rfl, ho3, hB3⟩
      have hB13 := hB12.trans (hB3.mono hsz2)
      have ho3' := ho3.base_le hsz2
      go_wp2_with (first | (with_reducible refine hold_append ?_) | (with_reducible refine hold_make ?_) | (with_reducible refine hold_copy ?_))
      go_ret2
      exact ⟨A3, c3, rfl, ho3', hB13⟩
end Go.PH

/- The walks of the rows' own with, and of Either. -/
import Derived.Test.YtjlfjlafpgjhbaaSpBoth
import Derived.Test.YtjlfjlafpgjhbaaSpAdd
namespace Go.PH
open Go.RowKit Go.Proofs

theorem with_any (A : Option Addr) (n c : Nat) (l : List Sp) (sf st : Nat) (B : Nat) (w : World) (hr : RdS w B A n c l) (hb : spOK 4294967296 l) (hf : sf < 4294967296) (ht : st < 4294967296) (hB : B ≤ w.heap.size) (hn : n ≤ 1000000) :
    Calls Try.prog 34 #[.slice A n c, .agg #[.int .u32 sf, .int .u32 st]] w fun e w' => ∃ A2 c2, e = .returned (.slice A2 (addR l sf st).length c2) ∧ OwnS w' w.heap.size A2 (addR l sf st).length c2 (addR l sf st) ∧ Below w.heap.size w w' := by
  have hB0 : Below w.heap.size w (w.alloc (.cells #[.int .u32 (sf : Int), .int .u32 (st : Int)] 33)) := (Below.refl _ _).alloc (Nat.le_refl _) _
  go_enter Try.func34, Try.ntmps34
  go_wp2_with (first | (with_reducible refine hold_append ?_) | (with_reducible refine hold_make ?_) | (with_reducible refine hold_copy ?_))
  refine (add_any A n c l sf st B _ (hr.below (hB0.mono hB)) hb hf ht (by have := hB0.size; omega) hn).mono ?_
  rintro e w2 ⟨A2, c2, rfl, ho, hB2⟩
  have hB12 := hB0.trans (hB2.mono hB0.size)
  have ho' := ho.base_le hB0.size
  go_wp2_with (first | (with_reducible refine hold_append ?_) | (with_reducible refine hold_make ?_) | (with_reducible refine hold_copy ?_))
  go_ret
  exact ⟨A2, c2, rfl, ho', hB12⟩

set_option maxRecDepth 20000 in
set_option maxHeartbeats 1000000 in
theorem either_any (A : Option Addr) (n c : Nat) (l : List Sp) (A' : Option Addr) (n' c' : Nat) (l' : List Sp) (B : Nat) (w : World) (hr : RdS w B A n c l) (hb : spOK 4294967296 l) (hr' : RdS w B A' n' c' l') (hb' : spOK 4294967296 l') (hB : B ≤ w.heap.size) (hn : n ≤ 10000) (hn' : n' ≤ 10000) :
    Calls Try.prog 23 #[.slice A n c, .slice A' n' c'] w fun e w' => ∃ A2 c2, e = .returned (.tuple #[.slice A2 (eitherR l l').length c2, .int .i64 (pairErr l l')]) ∧ OwnS w' w.heap.size A2 (eitherR l l').length c2 (eitherR l l') ∧ Below w.heap.size w w' := by
  have hl := hr.length
  have hl' := hr'.length
  have hra := right_any A n c l B w hr hb hB (by omega)
  have hrb : ∀ w1, Below w.heap.size w w1 → _ := fun w1 h => right_any A' n' c' l' B w1 (hr'.below (h.mono hB)) hb' (by have := h.size; omega) (by omega)
  cases hright : spRight l
  · rw [hright] at hra
    have e1 : eitherR l l' = [] := by simp [eitherR, hright]
    have e2 : pairErr l l' = 30 := by simp [pairErr, hright]
    rw [e1, e2]
    go_enter Try.func23, Try.ntmps23
    go_wp2_with (first | (with_reducible refine hold_append ?_) | (with_reducible refine hold_make ?_) | (with_reducible refine hold_copy ?_))
    refine hra.mono ?_
    rintro e w1 ⟨rfl, hB1⟩
    go_wp2_with (first | (with_reducible refine hold_append ?_) | (with_reducible refine hold_make ?_) | (with_reducible refine hold_copy ?_))
    go_ret2
    exact ⟨none, 0, rfl, Own.none_ _ _ _ _, hB1⟩
  · rw [hright] at hra
    cases hright' : spRight l'
    · rw [hright'] at hrb
      have e1 : eitherR l l' = [] := by simp [eitherR, hright']
      have e2 : pairErr l l' = 30 := by simp [pairErr, hright']
      rw [e1, e2]
      go_enter Try.func23, Try.ntmps23
      go_wp2_with (first | (with_reducible refine hold_append ?_) | (with_reducible refine hold_make ?_) | (with_reducible refine hold_copy ?_))
      refine hra.mono ?_
      rintro e w1 ⟨rfl, hB1⟩
      go_wp2_with (first | (with_reducible refine hold_append ?_) | (with_reducible refine hold_make ?_) | (with_reducible refine hold_copy ?_))
      refine (hrb w1 hB1).mono ?_
      rintro e w2 ⟨rfl, hB2⟩
      have hB12 := hB1.trans (hB2.mono hB1.size)
      go_wp2_with (first | (with_reducible refine hold_append ?_) | (with_reducible refine hold_make ?_) | (with_reducible refine hold_copy ?_))
      go_ret2
      exact ⟨none, 0, rfl, Own.none_ _ _ _ _, hB12⟩
    · rw [hright'] at hrb
      have e1 : eitherR l l' = spEither l l' := by simp [eitherR, hright, hright']
      have e2 : pairErr l l' = 0 := by simp [pairErr, hright, hright']
      rw [e1, e2]
      have HR := Lib.hid hright
      have HE := Lib.hid (spRight_each hright')
      clear hright hright' e1 e2
      go_enter Try.func23, Try.ntmps23
      go_wp2_with (first | (with_reducible refine hold_append ?_) | (with_reducible refine hold_make ?_) | (with_reducible refine hold_copy ?_))
      refine hra.mono ?_
      rintro e w1 ⟨rfl, hB1⟩
      go_wp2_with (first | (with_reducible refine hold_append ?_) | (with_reducible refine hold_make ?_) | (with_reducible refine hold_copy ?_))
      refine (hrb w1 hB1).mono ?_
      rintro e w2 ⟨rfl, hB2⟩
      have hB12 := hB1.trans (hB2.mono hB1.size)
      clear hB1 hB2
      go_wp2_with (first | (with_reducible refine hold_append ?_) | (with_reducible refine hold_make ?_) | (with_reducible refine hold_copy ?_))
      refine (sclone_any A n c l w2 ((hr.below (hB12.mono hB)).more (by have := hB12.size; omega)) (by omega)).mono ?_
      rintro e w3 ⟨A3, c3, rfl, ho3, hB3⟩
      have hB13 := hB12.trans (hB3.mono hB12.size)
      have ho3' : OwnS w3 w.heap.size A3 l.length c3 l := by rw [hl]; exact Own.base_le ho3 hB12.size
      go_wp2_with (first | (with_reducible refine hold_append ?_) | (with_reducible refine hold_make ?_) | (with_reducible refine hold_copy ?_))
      go_loopw [22, 6] (fun s v wr => ∃ (k c2 : Nat) (A2 : Option Addr) (out : List Sp), k ≤ n' ∧ s = .int .i64 k ∧ v = .slice A2 out.length c2 ∧ out = spEither l (l'.take k) ∧ OwnS wr w.heap.size A2 out.length c2 out ∧ Below w.heap.size w wr) (fun s _ _ => n' - (intOf s).toNat)
      case atStart => exact ⟨0, c3, A3, l, by omega, rfl, by rw [hl], by simp [spEither], ho3', hB13⟩
      case round =>
        obtain ⟨k, c2, A2, out, hk, rfl, rfl, hout, ho, hBr⟩ := hrel
        have hol := spEither_len (l'.take k) l
        rw [← hout, List.length_take, hl, hl', Nat.min_eq_left hk] at hol
        by_cases hlt : k < n'
        · obtain ⟨b, off, rfl, hbB, hkl, hc0, hc1⟩ := RdS.at_k (hr'.below (hBr.mono hB)) hlt
          have hbk := hb' l'[k] (List.getElem_mem hkl)
          have hek := HE.out l'[k] (List.getElem_mem hkl)
          have hnx := spEither_next (a := l) hkl
          have htr := spEither_ok (l'.take k) l HR.out (fun s hs => HE.out s (List.mem_of_mem_take hs))
          have hob := spEither_bd' HR.out (fun s hs => HE.out s (List.mem_of_mem_take hs)) hb (fun s hs => hb' s (List.mem_of_mem_take hs)) (b := l'.take k)
          rw [← hout] at hnx htr hob
          have HN := Lib.hid hnx
          have hor := htr.1
          clear hnx hout htr
          obtain ⟨sf, st, he⟩ : ∃ sf st, l'[k] = (sf, st) := ⟨_, _, rfl⟩
          rw [he] at hc0 hc1 hbk HN hek
          clear he
          simp only at hc0 hc1 hbk hek HN
          have hB2 : Below w.heap.size w (wr.alloc (.cells #[.int .u32 (sf : Int), .int .u32 (st : Int)] 33)) := hBr.alloc hBr.size _
          have ho2 : OwnS (wr.alloc (.cells #[.int .u32 (sf : Int), .int .u32 (st : Int)] 33)) w.heap.size A2 out.length c2 out := ho.alloc _
          have hadd : addR out sf st = spAdd sf st out := addR_ok hor hek
          rw [← hadd] at HN
          clear hor hadd
          go_wp2_with (first | (with_reducible refine hold_append ?_) | (with_reducible refine hold_make ?_) | (with_reducible refine hold_copy ?_))
          refine (with_any A2 out.length c2 out sf st _ _ ho2.rd hob hbk.1 hbk.2 (Nat.le_refl _) (by omega)).mono ?_
          rintro e w4 ⟨A4, c4, rfl, ho4, hB4⟩
          have hBn := hB2.trans (hB4.mono hB2.size)
          have ho4' := ho4.base_le hB2.size
          generalize addR out sf st = ar at *
          go_wp2_with (first | (with_reducible refine hold_append ?_) | (with_reducible refine hold_make ?_) | (with_reducible refine hold_copy ?_))
          exact ⟨⟨k + 1, c4, A4, ar, by omega, by go_num, rfl, HN.out.symm, ho4', hBn⟩, by simp [intOf]; omega⟩
        · obtain rfl : k = n' := by omega
          rw [← hl', List.take_length] at hout
          have HO := Lib.hid hout
          clear hout
          go_wp2_with (first | (with_reducible refine hold_append ?_) | (with_reducible refine hold_make ?_) | (with_reducible refine hold_copy ?_))
          go_ret2
          rw [← HO.out]
          exact ⟨A2, c2, rfl, ho, hBr⟩
end Go.PH

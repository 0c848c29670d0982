/- The walk of Both. -/
import Derived.Test.YtjlfjlafpgjhbaaSpOver
namespace Go.PH
open Go.RowKit Go.Proofs

def pairErr (a b : List Sp) : Nat := if spRight a = true ∧ spRight b = true then 0 else 30
def bothR (a b : List Sp) : List Sp := if spRight a = true ∧ spRight b = true then spBoth a b else []
def eitherR (a b : List Sp) : List Sp := if spRight a = true ∧ spRight b = true then spEither a b else []
theorem spBoth_next {a b : List Sp} {k : Nat} (hk : k < b.length) : spBoth a (b.take (k + 1)) = spBoth a (b.take k) ++ spOver b[k] a := by
  unfold spBoth; rw [List.take_succ_eq_append_getElem hk, List.flatMap_append]; simp
theorem spEither_next {a b : List Sp} {k : Nat} (hk : k < b.length) : spEither a (b.take (k + 1)) = spAdd b[k].1 b[k].2 (spEither a (b.take k)) := by
  unfold spEither; rw [List.take_succ_eq_append_getElem hk, List.foldl_append]; simp
theorem spEither_bd' {N : Nat} {a b : List Sp} (ha : spRight a = true) (hb : ∀ s ∈ b, s.1 ≤ s.2) (h : spOK N a) (h' : spOK N b) : spOK N (spEither a b) :=
  spOK_in (spEither_ok b a ha hb).1 fun n hn => by
    rcases ((spEither_ok b a ha hb).2 n).1 hn with h1 | h1
    · exact spOK_lt h h1
    · exact spOK_lt h' h1
set_option maxRecDepth 20000 in
set_option maxHeartbeats 1000000 in
theorem both_any (A : Option Addr) (n c : Nat) (l : List Sp) (A' : Option Addr) (n' c' : Nat) (l' : List Sp) (B : Nat) (w : World) (hr : RdS w B A n c l) (hb : spOK 4294967296 l) (hr' : RdS w B A' n' c' l') (hb' : spOK 4294967296 l') (hB : B ≤ w.heap.size) (hn : n ≤ 10000) (hn' : n' ≤ 10000) :
    Calls Try.prog 22 #[.slice A n c, .slice A' n' c'] w fun e w' => ∃ A2 c2, e = .returned (.tuple #[.slice A2 (bothR l l').length c2, .int .i64 (pairErr l l')]) ∧ OwnS w' w.heap.size A2 (bothR l l').length c2 (bothR l l') ∧ Below w.heap.size w w' := by
  have hl := hr.length
  have hl' := hr'.length
  have hra := right_any A n c l B w hr hb hB (by omega)
  have hrb : ∀ w1, Below w.heap.size w w1 → _ := fun w1 h => right_any A' n' c' l' B w1 (hr'.below (h.mono hB)) hb' (by have := h.size; omega) (by omega)
  cases hright : spRight l
  · rw [hright] at hra
    have e1 : bothR l l' = [] := by simp [bothR, hright]
    have e2 : pairErr l l' = 30 := by simp [pairErr, hright]
    rw [e1, e2]
    go_enter Try.func22, Try.ntmps22
    go_wp2_with (first | (with_reducible refine hold_append ?_) | (with_reducible refine hold_make ?_) | (with_reducible refine hold_copy ?_))
    refine hra.mono ?_
    rintro e w1 ⟨rfl, hB1⟩
    go_wp2_with (first | (with_reducible refine hold_append ?_) | (with_reducible refine hold_make ?_) | (with_reducible refine hold_copy ?_))
    go_ret2
    exact ⟨none, 0, rfl, Own.none_ _ _ _ _, hB1⟩
  · rw [hright] at hra
    cases hright' : spRight l'
    · rw [hright'] at hrb
      have e1 : bothR l l' = [] := by simp [bothR, hright']
      have e2 : pairErr l l' = 30 := by simp [pairErr, hright']
      rw [e1, e2]
      go_enter Try.func22, Try.ntmps22
      go_wp2_with (first | (with_reducible refine hold_append ?_) | (with_reducible refine hold_make ?_) | (with_reducible refine hold_copy ?_))
      refine hra.mono ?_
      rintro e w1 ⟨rfl, hB1⟩
      go_wp2_with (first | (with_reducible refine hold_append ?_) | (with_reducible refine hold_make ?_) | (with_reducible refine hold_copy ?_))
      refine (hrb w1 hB1).mono ?_
      rintro e w2 ⟨rfl, hB2⟩
      have hB12 := hB1.trans (hB2.mono hB1.size)
      go_wp2_with (first | (with_reducible refine hold_append ?_) | (with_reducible refine hold_make ?_) | (with_reducible refine hold_copy ?_))
      go_ret2
      exact ⟨none, 0, rfl, Own.none_ _ _ _ _, hB12⟩
    · rw [hright'] at hrb
      have e1 : bothR l l' = spBoth l l' := by simp [bothR, hright, hright']
      have e2 : pairErr l l' = 0 := by simp [pairErr, hright, hright']
      rw [e1, e2]
      have HR := Lib.hid hright
      have HE := Lib.hid (spRight_each hright')
      clear hright hright' e1 e2
      go_enter Try.func22, Try.ntmps22
      go_wp2_with (first | (with_reducible refine hold_append ?_) | (with_reducible refine hold_make ?_) | (with_reducible refine hold_copy ?_))
      refine hra.mono ?_
      rintro e w1 ⟨rfl, hB1⟩
      go_wp2_with (first | (with_reducible refine hold_append ?_) | (with_reducible refine hold_make ?_) | (with_reducible refine hold_copy ?_))
      refine (hrb w1 hB1).mono ?_
      rintro e w2 ⟨rfl, hB2⟩
      have hB12 := hB1.trans (hB2.mono hB1.size)
      clear hB1 hB2
      go_wp2_with (first | (with_reducible refine hold_append ?_) | (with_reducible refine hold_make ?_) | (with_reducible refine hold_copy ?_))
      go_loopw [20, 6] (fun s v wr => ∃ (k c2 : Nat) (A2 : Option Addr) (out : List Sp), k ≤ n' ∧ s = .int .i64 k ∧ v = .slice A2 out.length c2 ∧ out = spBoth l (l'.take k) ∧ OwnS wr w.heap.size A2 out.length c2 out ∧ Below w.heap.size w wr) (fun s _ _ => n' - (intOf s).toNat)
      case atStart => exact ⟨0, 0, none, [], by omega, rfl, rfl, by simp [spBoth], Own.none_ _ _ _ _, hB12⟩
      case round =>
        obtain ⟨k, c2, A2, out, hk, rfl, rfl, hout, ho, hBr⟩ := hrel
        have hol := spBoth_len (l'.take k) l
        rw [← hout, List.length_take, hl, hl', Nat.min_eq_left hk] at hol
        have hol2 : k * n ≤ 10000 * 10000 := Nat.mul_le_mul (by omega) hn
        by_cases hlt : k < n'
        · obtain ⟨b, off, rfl, hbB, hkl, hc0, hc1⟩ := RdS.at_k (hr'.below (hBr.mono hB)) hlt
          have hbk := hb' l'[k] (List.getElem_mem hkl)
          have hek := HE.out l'[k] (List.getElem_mem hkl)
          have hnx := spBoth_next (a := l) hkl
          rw [← hout] at hnx
          have HN := Lib.hid hnx
          clear hnx hout
          obtain ⟨sf, st, he⟩ : ∃ sf st, l'[k] = (sf, st) := ⟨_, _, rfl⟩
          rw [he] at hc0 hc1 hbk HN hek
          clear he
          simp only at hc0 hc1 hbk hek
          have hB2 : Below w.heap.size w (wr.alloc (.cells #[.int .u32 (sf : Int), .int .u32 (st : Int)] 33)) := hBr.alloc hBr.size _
          have ho2 : OwnS (wr.alloc (.cells #[.int .u32 (sf : Int), .int .u32 (st : Int)] 33)) w.heap.size A2 out.length c2 out := ho.alloc _
          have hovl := spOver_len (sf, st) l
          go_wp2_with (first | (with_reducible refine hold_append ?_) | (with_reducible refine hold_make ?_) | (with_reducible refine hold_copy ?_))
          refine (over_any A n c l sf st B _ (hr.below (hB2.mono hB)) hb hbk.1 hbk.2 hek (by have := hB2.size; omega) (by omega) HR.out).mono ?_
          rintro e w3 ⟨A3, c3, rfl, ho3, hB3⟩
          have hsz2 := hB2.size
          have hB23 := hB2.trans (hB3.mono hsz2)
          have ho23 : OwnS w3 w.heap.size A2 out.length c2 out := ho2.kept (grownOf hB3 none) (by cases hv : (Value.slice A2 out.length c2).ownBlock <;> simp)
          generalize spOver (sf, st) l = ov at *
          go_wp2_with (first | (with_reducible refine hold_append ?_) | (with_reducible refine hold_make ?_) | (with_reducible refine hold_copy ?_))
          refine unhold (wp_app2 slS Try.underlying58 rfl rfl rfl rfl ho23 ho3.rd (spCells_one _) (by omega) (by simp [maxLen]; omega) hB23.size ?_)
          intro A4 c4 w4 ho4 hg4 _
          have hB4 := hB23.trans (below_grown ho23 hg4 hB23.size)
          rw [← spCells_app] at ho4
          go_wp2_with (first | (with_reducible refine hold_append ?_) | (with_reducible refine hold_make ?_) | (with_reducible refine hold_copy ?_))
          exact ⟨⟨k + 1, c4, A4, out ++ ov, by omega, by go_num, by simp, by rw [HN.out], by simpa using ho4, hB4⟩, by simp [intOf]; omega⟩
        · obtain rfl : k = n' := by omega
          rw [← hl', List.take_length] at hout
          have HO := Lib.hid hout
          clear hout
          go_wp2_with (first | (with_reducible refine hold_append ?_) | (with_reducible refine hold_make ?_) | (with_reducible refine hold_copy ?_))
          go_ret2
          rw [← HO.out]
          exact ⟨A2, c2, rfl, ho, hBr⟩
end Go.PH

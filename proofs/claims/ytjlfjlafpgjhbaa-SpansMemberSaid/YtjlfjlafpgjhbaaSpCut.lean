/- The walk of Cut. -/
import Derived.Test.YtjlfjlafpgjhbaaSpWalk
import Derived.Test.YtjlfjlafpgjhbaaSpPush
import Derived.Test.YtjlfjlafpgjhbaaOctRead
namespace Go.PH
open Go.RowKit Go.Proofs

set_option maxRecDepth 20000 in
set_option maxHeartbeats 1000000 in
theorem cut_any (A : Option Addr) (n c : Nat) (l : List Sp) (f t : Nat) (B : Nat) (w : World) (hr : RdS w B A n c l) (hb : spOK 4294967296 l) (hf : f < 4294967296) (ht : t < 4294967296) (hB : B ≤ w.heap.size) (hn : n ≤ 1000000) :
    Calls Try.prog 14 #[.slice A n c, .int .u32 f, .int .u32 t] w fun e w' => ∃ A2 c2, e = .returned (.tuple #[.slice A2 (cutR l f t).length c2, .int .i64 (spErr l f t)]) ∧ OwnS w' w.heap.size A2 (cutR l f t).length c2 (cutR l f t) ∧ Below w.heap.size w w' := by
  have hl := hr.length
  have hra := right_any A n c l B w hr hb hB (by omega)
  cases hright : spRight l
  · rw [hright] at hra
    rw [cutR_not hright, spErr_not hright]
    go_enter Try.func14, Try.ntmps14
    go_wp2_with (first | (with_reducible refine hold_append ?_) | (with_reducible refine hold_make ?_) | (with_reducible refine hold_copy ?_))
    refine hra.mono ?_
    rintro e w1 ⟨rfl, hB1⟩
    go_wp2_with (first | (with_reducible refine hold_append ?_) | (with_reducible refine hold_make ?_) | (with_reducible refine hold_copy ?_))
    go_ret2
    exact ⟨none, 0, rfl, Own.none_ _ _ _ _, hB1⟩
  · rw [hright] at hra
    by_cases hft : t < f
    · rw [cutR_arg hft, spErr_arg hright hft]
      have hd : (t : Int) < (f : Int) := by omega
      clear hright
      go_enter Try.func14, Try.ntmps14
      go_wp2_with (first | (with_reducible refine hold_append ?_) | (with_reducible refine hold_make ?_) | (with_reducible refine hold_copy ?_))
      refine hra.mono ?_
      rintro e w1 ⟨rfl, hB1⟩
      go_wp2_with (first | (with_reducible refine hold_append ?_) | (with_reducible refine hold_make ?_) | (with_reducible refine hold_copy ?_))
      go_ret2
      exact ⟨none, 0, rfl, Own.none_ _ _ _ _, hB1⟩
    · rw [cutR_ok hright (by omega), spErr_ok hright (by omega)]
      have hd : ¬ (t : Int) < (f : Int) := by omega
      clear hright
      go_enter Try.func14, Try.ntmps14
      go_wp2_with (first | (with_reducible refine hold_append ?_) | (with_reducible refine hold_make ?_) | (with_reducible refine hold_copy ?_))
      refine hra.mono ?_
      rintro e w1 ⟨rfl, hB1⟩
      go_wp2_with (first | (with_reducible refine hold_append ?_) | (with_reducible refine hold_make ?_) | (with_reducible refine hold_copy ?_))
      go_loopw [19, 8] (fun s v wr => ∃ (k c2 : Nat) (A2 : Option Addr) (out : List Sp), k ≤ n ∧ s = .int .i64 k ∧ v = .slice A2 out.length c2 ∧ out = spCut f t (l.take k) ∧ out.length ≤ 2 * k ∧ OwnS wr w.heap.size A2 out.length c2 out ∧ Below w.heap.size w wr) (fun s _ _ => n - (intOf s).toNat)
      case atStart => exact ⟨0, 0, none, [], by omega, rfl, rfl, by simp [spCut], by simp, Own.none_ _ _ _ _, hB1⟩
      case round =>
        obtain ⟨k, c2, A2, out, hk, rfl, rfl, hout, hol, ho, hBr⟩ := hrel
        by_cases hlt : k < n
        · obtain ⟨b, off, rfl, hbB, hkl, hc0, hc1⟩ := RdS.at_k (hr.below (hBr.mono hB)) hlt
          have hbk := hb l[k] (List.getElem_mem hkl)
          have hbb : b < wr.heap.size := World.block_lt_of_cell? wr _ hc0
          have hnx := spCut_next (f := f) (t := t) hkl
          rw [← hout] at hnx
          have HN := Lib.hid hnx
          clear hnx hout
          obtain ⟨sf, st, he⟩ : ∃ sf st, l[k] = (sf, st) := ⟨_, _, rfl⟩
          rw [he] at hc0 hc1 hbk HN
          clear he
          simp only at hc0 hc1 hbk
          have hB2 : Below w.heap.size w (wr.alloc (.cells #[.int .u32 (sf : Int), .int .u32 (st : Int)] 33)) := hBr.alloc hBr.size _
          have ho2 : OwnS (wr.alloc (.cells #[.int .u32 (sf : Int), .int .u32 (st : Int)] 33)) w.heap.size A2 out.length c2 out := ho.alloc _
          by_cases h1 : st < f
          · have hd1 : (st : Int) < (f : Int) := by omega
            have hp : spPiece f t (sf, st) = [(sf, st)] := by simp [spPiece, h1]
            rw [hp] at HN
            go_wp2_with (first | (with_reducible refine hold_append ?_) | (with_reducible refine hold_make ?_) | (with_reducible refine hold_copy ?_))
            refine unhold (wp_push slS Try.underlying22 rfl rfl rfl rfl (by simp) sf st (by go_num) (by go_num) ho2 (by omega) hB2.size ?_)
            intro A3 c3 w3 ho3 hg3 _ hb3
            have hBn := hB2.trans hb3
            go_wp2_with (first | (with_reducible refine hold_append ?_) | (with_reducible refine hold_make ?_) | (with_reducible refine hold_copy ?_))
            exact ⟨⟨k + 1, c3, A3, out ++ [(sf, st)], by omega, by go_num, by simp, by rw [HN.out], by simp; omega, by simpa using ho3, hBn⟩, by simp [intOf]; omega⟩
          · have hd1 : ¬ (st : Int) < (f : Int) := by omega
            by_cases h2 : t < sf
            · have hd2 : (t : Int) < (sf : Int) := by omega
              have hp : spPiece f t (sf, st) = [(sf, st)] := by simp [spPiece, h2]
              rw [hp] at HN
              go_wp2_with (first | (with_reducible refine hold_append ?_) | (with_reducible refine hold_make ?_) | (with_reducible refine hold_copy ?_))
              refine unhold (wp_push slS Try.underlying22 rfl rfl rfl rfl (by simp) sf st (by go_num) (by go_num) ho2 (by omega) hB2.size ?_)
              intro A3 c3 w3 ho3 hg3 _ hb3
              have hBn := hB2.trans hb3
              go_wp2_with (first | (with_reducible refine hold_append ?_) | (with_reducible refine hold_make ?_) | (with_reducible refine hold_copy ?_))
              exact ⟨⟨k + 1, c3, A3, out ++ [(sf, st)], by omega, by go_num, by simp, by rw [HN.out], by simp; omega, by simpa using ho3, hBn⟩, by simp [intOf]; omega⟩
            · have hd2 : ¬ (t : Int) < (sf : Int) := by omega
              have hp : spPiece f t (sf, st) = (if sf < f then [(sf, f - 1)] else []) ++ (if t < st then [(t + 1, st)] else []) := by simp only [spPiece]; rw [if_neg (by omega)]
              rw [hp] at HN
              clear hp
              by_cases h3 : sf < f
              · have hd3 : (sf : Int) < (f : Int) := by omega
                rw [if_pos h3] at HN
                go_wp2_with (first | (with_reducible refine hold_append ?_) | (with_reducible refine hold_make ?_) | (with_reducible refine hold_copy ?_))
                refine unhold (wp_push slS Try.underlying22 rfl rfl rfl rfl (by simp) sf (f - 1) (by go_num) (by go_num) ho2 (by omega) hB2.size ?_)
                intro A3 c3 w3 ho3 hg3 _ hb3
                have hBn := hB2.trans hb3
                have hs0 : w3.cell? ⟨wr.heap.size, 0, none⟩ = some (.int .u32 (sf : Int)) := hg3.cell (by rw [World.cell?_alloc_new]; rfl) (fun e => by have := (ho.blk_lt e.symm).2; simp at this)
                have hs1 : w3.cell? ⟨wr.heap.size, 1, none⟩ = some (.int .u32 (st : Int)) := hg3.cell (by rw [World.cell?_alloc_new]; rfl) (fun e => by have := (ho.blk_lt e.symm).2; simp at this)
                by_cases h4 : t < st
                · have hd4 : (t : Int) < (st : Int) := by omega
                  rw [if_pos h4] at HN
                  have hlen3 : (out ++ [(sf, f - 1)]).length = out.length + 1 := by simp
                  go_wp2_with (first | (with_reducible refine hold_append ?_) | (with_reducible refine hold_make ?_) | (with_reducible refine hold_copy ?_))
                  refine unhold (wp_push slS Try.underlying22 rfl rfl rfl rfl (by simp) (t + 1) st (by go_num) (by go_num) ho3 (by omega) hBn.size ?_)
                  intro A4 c4 w4 ho4 hg4 _ hb4
                  have hBm := hBn.trans hb4
                  go_wp2_with (first | (with_reducible refine hold_append ?_) | (with_reducible refine hold_make ?_) | (with_reducible refine hold_copy ?_))
                  exact ⟨⟨k + 1, c4, A4, out ++ [(sf, f - 1), (t + 1, st)], by omega, by go_num, by simp, by rw [HN.out]; simp, by simp; omega, by simpa using ho4, hBm⟩, by simp [intOf]; omega⟩
                · have hd4 : ¬ (t : Int) < (st : Int) := by omega
                  rw [if_neg h4] at HN
                  go_wp2_with (first | (with_reducible refine hold_append ?_) | (with_reducible refine hold_make ?_) | (with_reducible refine hold_copy ?_))
                  exact ⟨⟨k + 1, c3, A3, out ++ [(sf, f - 1)], by omega, by go_num, by simp, by rw [HN.out]; simp, by simp; omega, by simpa using ho3, hBn⟩, by simp [intOf]; omega⟩
              · have hd3 : ¬ (sf : Int) < (f : Int) := by omega
                rw [if_neg h3] at HN
                by_cases h4 : t < st
                · have hd4 : (t : Int) < (st : Int) := by omega
                  rw [if_pos h4] at HN
                  go_wp2_with (first | (with_reducible refine hold_append ?_) | (with_reducible refine hold_make ?_) | (with_reducible refine hold_copy ?_))
                  refine unhold (wp_push slS Try.underlying22 rfl rfl rfl rfl (by simp) (t + 1) st (by go_num) (by go_num) ho2 (by omega) hB2.size ?_)
                  intro A4 c4 w4 ho4 hg4 _ hb4
                  have hBm := hB2.trans hb4
                  go_wp2_with (first | (with_reducible refine hold_append ?_) | (with_reducible refine hold_make ?_) | (with_reducible refine hold_copy ?_))
                  exact ⟨⟨k + 1, c4, A4, out ++ [(t + 1, st)], by omega, by go_num, by simp, by rw [HN.out]; simp, by simp; omega, by simpa using ho4, hBm⟩, by simp [intOf]; omega⟩
                · have hd4 : ¬ (t : Int) < (st : Int) := by omega
                  rw [if_neg h4] at HN
                  go_wp2_with (first | (with_reducible refine hold_append ?_) | (with_reducible refine hold_make ?_) | (with_reducible refine hold_copy ?_))
                  exact ⟨⟨k + 1, c2, A2, out, by omega, by go_num, rfl, by rw [HN.out]; simp, by omega, ho2, hB2⟩, by simp [intOf]; omega⟩
        · obtain rfl : k = n := by omega
          rw [← hl, List.take_length] at hout
          have HO := Lib.hid hout
          clear hout
          go_wp2_with (first | (with_reducible refine hold_append ?_) | (with_reducible refine hold_make ?_) | (with_reducible refine hold_copy ?_))
          go_ret2
          rw [← HO.out]
          exact ⟨A2, c2, rfl, ho, hBr⟩
end Go.PH

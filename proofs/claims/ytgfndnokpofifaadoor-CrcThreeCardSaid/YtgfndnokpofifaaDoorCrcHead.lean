/- The known answers of crc. -/
import Derived.Test.YtgfndnokpofifaaDoorCrcWalk3
import Derived.Lib.SlBytesConst
namespace Go.PH
open Go.RowKit Go.Proofs

theorem TabAt.below {w w' : World} (h : TabAt w) {B : Nat} (hb : Below B w w') (hg : 0 < B) : TabAt w' := fun j hj => (hb.cell (p := ⟨0, j, none⟩) hg).trans (h j hj)

set_option maxHeartbeats 1000000 in
theorem head_any (w : World) (ht : TabAt w) (hg0 : 0 < w.heap.size) :
    Calls Tryd.prog 14 #[] w fun e w' => e = .returned (.bool true) ∧ Below w.heap.size w w' := by
  have kc := fun (w : World) (C : Array Value) (n c : Nat) => Lib.run_convert_bytes_const (P := Tryd.prog) w 23 5 C n c Tryd.underlying23 Tryd.underlying5
  go_enter Tryd.func14, Tryd.ntmps14
  go_wp2_with (first | (with_reducible refine hold_append ?_) | (with_reducible refine hold_make ?_) | (with_reducible refine hold_copy ?_))
  refine (seal_any none 0 0 [] w (Rd.nil w _ _ 0 (by simp [maxLen]) none) ht hg0 (by omega)).mono ?_
  rintro e w1 ⟨A1, c1, rfl, ho1, hB1⟩
  go_wp2_with (first | (with_reducible refine hold_append ?_) | (with_reducible refine hold_make ?_) | (with_reducible refine hold_copy ?_))
  have hz1 := hB1.size
  obtain ⟨b1, off1, rfl, hb1, hkl, hcell⟩ := RdB.at_k ho1.rd (k := 0) (by omega)
  have hs0 : (seal' [])[0]'hkl = 0 := by simp [seal', le4, sum_nil]
  rw [hs0] at hcell
  have h3 : RdB (w1.alloc (.cells #[Value.int .u8 0, .int .u8 0, .int .u8 0] 5)) (w1.alloc (.cells #[Value.int .u8 0, .int .u8 0, .int .u8 0] 5)).heap.size (some ⟨w1.heap.size, 0, none⟩) 3 3 [0, 0, 0] :=
    rd_new w1 _ _ _ 3 3 rfl (by omega) (by simp [maxLen])
  have hBa : Below w.heap.size w (w1.alloc (.cells #[Value.int .u8 0, .int .u8 0, .int .u8 0] 5)) := hB1.alloc hz1 _
  refine (open_any (some ⟨w1.heap.size, 0, none⟩) 3 3 [0, 0, 0] _ h3 (ht.below hBa hg0) (by simp) (by omega)).mono ?_
  have ho3 : opens [0, 0, 0] = false := opens_short (by simp)
  have hp3 : opn [0, 0, 0] = [] := opn_no ho3
  rw [ho3, hp3]
  rintro e w2 ⟨A2, c2, rfl, ho2, hB2⟩
  have hBb := hBa.trans (hB2.mono (by simp; omega))
  go_wp2_with (first | (with_reducible refine hold_append ?_) | (with_reducible refine hold_make ?_) | (with_reducible refine hold_copy ?_))
  have hz2 := hBb.size
  have h9 : RdB (w2.alloc (.cells #[Value.int .u8 49, .int .u8 50, .int .u8 51, .int .u8 52, .int .u8 53, .int .u8 54, .int .u8 55, .int .u8 56, .int .u8 57] 5 (9, 10)))
      (w2.alloc (.cells #[Value.int .u8 49, .int .u8 50, .int .u8 51, .int .u8 52, .int .u8 53, .int .u8 54, .int .u8 55, .int .u8 56, .int .u8 57] 5 (9, 10))).heap.size (some ⟨w2.heap.size, 0, none⟩) 9 9 [49, 50, 51, 52, 53, 54, 55, 56, 57] :=
    rd_new w2 _ _ _ 9 9 rfl (by omega) (by simp [maxLen])
  have hBc : Below w.heap.size w (w2.alloc (.cells #[Value.int .u8 49, .int .u8 50, .int .u8 51, .int .u8 52, .int .u8 53, .int .u8 54, .int .u8 55, .int .u8 56, .int .u8 57] 5 (9, 10))) := hBb.alloc hz2 _
  refine (sum_any (some ⟨w2.heap.size, 0, none⟩) 9 9 [49, 50, 51, 52, 53, 54, 55, 56, 57] _ _ h9 (ht.below hBc hg0) (by omega)).mono ?_
  rintro e w3 ⟨rfl, rfl⟩
  have hcell2 : (w2.alloc (.cells #[Value.int .u8 49, .int .u8 50, .int .u8 51, .int .u8 52, .int .u8 53, .int .u8 54, .int .u8 55, .int .u8 56, .int .u8 57] 5 (9, 10))).cell? ⟨b1, off1, none⟩ = some (.int .u8 0) :=
    ((Below.alloc hB2 hB2.size _).cell (p := ⟨b1, off1, none⟩) (by simp; omega)).trans ((World.cell?_alloc_lt w1 _ ⟨b1, off1, none⟩ hb1).trans hcell)
  rw [sum_check]
  go_wp2_with (first | (with_reducible refine hold_append ?_) | (with_reducible refine hold_make ?_) | (with_reducible refine hold_copy ?_))
  go_ret
  exact ⟨rfl, hBc⟩
end Go.PH

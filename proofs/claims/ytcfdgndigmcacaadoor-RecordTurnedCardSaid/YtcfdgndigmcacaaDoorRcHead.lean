/- The laws' head of records. -/
import Derived.Test.YtcfdgndigmcacaaDoorRcScan
import Derived.Test.YtcfdgndigmcacaaDoorRcSame
namespace Go.PH
open Go.RowKit Go.Proofs

def rc0 : Rc := ⟨7, [97, 98]⟩
def rcb0 : List UInt8 := rcBytes [rc0]
theorem rec_eql (f g : Rc) (w : World) : (binOp .eql 33 (.agg (rcV f)) (.agg (rcV g))).run Tryd.prog w = .ok (.bool (decide (f = g))) w := by
  rw [run_eql_struct, rec_equal]
  rfl
theorem rcb0_len : rcb0.length = 15 := by rw [rcb0, rcBytes_len]; rfl
theorem rc0_put : rcPut [rc0] = (rcb0, 0) := rcPut_of (by intro r hr; rw [List.mem_singleton.1 hr]; decide)
theorem rc0_scan : rcScan rcb0 = ([rc0], 15, 0) := by
  have h := rcScan_bytes (l := [rc0]) (fun r hr => by rw [List.mem_singleton.1 hr]; exact ⟨show 7 < 256 by omega, by decide⟩) []
  have e : rcScan [] = ([], 0, 0) := rcScan_of rfl
  rw [List.append_nil, e] at h
  rw [rcb0, h]
  have := rcb0_len
  unfold rcb0 at this
  rw [this]
  rfl
theorem rcz_scan : rcScan [0, 0, 0, 0, 0, 0, 0, 0, 0] = ([], 0, 2) := rcScan_of (rcOne_head (by decide) (by decide +kernel))
set_option maxRecDepth 20000 in
set_option maxHeartbeats 1000000 in
theorem head_any (w : World) (ht : TabAt w) (hg0 : 0 < w.heap.size) : Calls Tryd.prog 10 #[] w fun e w' => e = .returned (.bool true) ∧ Below w.heap.size w w' := by
  have hlit : Own (w.alloc (.cells #[.int .u8 7, .string ⟨#[97, 98]⟩] 33)) w.heap.size 33 2 (some ⟨w.heap.size, 0, none⟩) 1 1 (rowC rcC [rc0]) :=
    own_lit (w := w) w.heap.size #[.int .u8 7, .string ⟨#[97, 98]⟩] 33 1 (Nat.le_refl _) (by simp [maxLen]) rfl (size := 2) (by omega)
  have hB0 : Below w.heap.size w (w.alloc (.cells #[.int .u8 7, .string ⟨#[97, 98]⟩] 33)) := (Below.refl _ _).alloc (Nat.le_refl _) _
  have hpt := rcput_any _ 1 1 [rc0] _ hlit.rd (fun r hr => by rw [List.mem_singleton.1 hr]; exact ⟨show 7 < 256 by omega, by decide⟩) (by omega) (ht.below hB0 hg0) (Nat.lt_of_lt_of_le hg0 hB0.size) (by have := rcb0_len; unfold rcb0 at this; omega)
  rw [rc0_put] at hpt
  have hs1 := fun W h1 h2 => rcscan_any rcb0 W h1 h2 (by rw [rcb0_len]; omega)
  rw [rc0_scan] at hs1
  have hs2 := fun W h1 h2 => rcscan_any [0, 0, 0, 0, 0, 0, 0, 0, 0] W h1 h2 (by decide)
  rw [rcz_scan] at hs2
  have hsz : (str rcb0).size = 15 := by rw [str_size, rcb0_len]
  generalize rcb0 = sb at *
  clear hlit
  go_enter Tryd.func10, Tryd.ntmps10
  go_wp2_with (first | (with_reducible refine hold_append ?_) | (with_reducible refine hold_make ?_) | (with_reducible refine hold_copy ?_))
  refine hpt.mono ?_
  rintro e w1 ⟨rfl, hB1⟩
  have hB2 := hB0.trans (hB1.mono hB0.size)
  have hz2 := hB2.size
  have hs1' := hs1 w1 (ht.below hB2 hg0) (Nat.lt_of_lt_of_le hg0 hz2)
  clear hpt hs1 hB0 hB1
  go_wp2_with (first | (with_reducible refine hold_append ?_) | (with_reducible refine hold_make ?_) | (with_reducible refine hold_copy ?_))
  refine hs1'.mono ?_
  rintro e w2 ⟨A2, c2, rfl, ho2, hB3⟩
  have hB4 := hB2.trans (hB3.mono hz2)
  have hz4 := hB4.size
  have hs2' := hs2 w2 (ht.below hB4 hg0) (Nat.lt_of_lt_of_le hg0 hz4)
  clear hs1' hs2 hB2 hB3
  go_wp2_with (first | (with_reducible refine hold_append ?_) | (with_reducible refine hold_make ?_) | (with_reducible refine hold_copy ?_))
  refine hs2'.mono ?_
  rintro e w3 ⟨A3, c3, rfl, ho3, hB5⟩
  have hB6 := hB4.trans (hB5.mono hz4)
  have ho23 : OwnR w3 w1.heap.size A2 1 c2 [rc0] := own_below ho2 hB5
  obtain ⟨b5, off5, rfl, _, _, hy⟩ := rec_at rcShape ho23.rd (k := 0) (by omega)
  have k0 : w3.cell? ⟨b5, off5, none⟩ = some (.int .u8 7) := hy 0 _ rfl
  have k1 : w3.cell? ⟨b5, off5 + 1, none⟩ = some (.string ⟨#[97, 98]⟩) := hy 1 _ rfl
  have heq : (binOp .eql 33 (.agg #[.int .u8 7, .string ⟨#[97, 98]⟩]) (.agg #[.int .u8 7, .string ⟨#[97, 98]⟩])).run Tryd.prog w3 = .ok (.bool true) w3 := by
    have := rec_eql rc0 rc0 w3
    rw [decide_eq_true rfl] at this
    exact this
  clear hy hs2' ho2 ho23 ho3
  go_wp2_with (first | (with_reducible refine hold_append ?_) | (with_reducible refine hold_make ?_) | (with_reducible refine hold_copy ?_))
  go_ret
  exact ⟨rfl, hB6⟩
end Go.PH

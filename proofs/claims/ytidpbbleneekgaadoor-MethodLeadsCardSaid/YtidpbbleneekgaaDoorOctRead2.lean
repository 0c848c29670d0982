/- The walks of octet's reader: making one, reading numbers and texts. -/
import Derived.Test.YtidpbbleneekgaaDoorOctRead
import Derived.Laws.BitsAllLaws
import Derived.Laws.Bits64
set_option linter.all false
set_option linter.unusedSimpArgs false
set_option linter.unusedVariables false
namespace Go.PH
open Go.RowKit Go.Proofs

theorem rdopen_any (A : Option Addr) (n c : Nat) (l : List UInt8) (w : World) (hb : RdB w w.heap.size A n c l) (hn : n ≤ 140737488351240) :
    Calls Tryd.prog 22 #[.slice A n c] w fun e w' => ∃ rb b, e = .returned (.pointer (some ⟨rb, 0, none⟩)) ∧ w.heap.size ≤ rb ∧ w.heap.size ≤ b ∧ Rdr (fun g => w.heap.size ≤ g ∧ g < w'.heap.size) w' (.pointer (some ⟨rb, 0, none⟩)) (some b) l false ∧ Below w.heap.size w w' := by
  go_enter Tryd.func22, Tryd.ntmps22
  go_wp2_with (first | (with_reducible refine hold_append ?_) | (with_reducible refine hold_make ?_) | (with_reducible refine hold_copy ?_))
  refine (clone_any A n c l w hb hn).mono ?_
  rintro e w1 ⟨A2, c2, rfl, ho2, hB⟩
  go_wp2_with (first | (with_reducible refine hold_append ?_) | (with_reducible refine hold_make ?_) | (with_reducible refine hold_copy ?_))
  go_ret
  have hB1 : Below w.heap.size w (w1.alloc (.cells #[.slice A2 n c2, .bool true, .bool false] 95)) := hB.alloc hB.size _
  refine ⟨w1.heap.size + 1, w1.heap.size, rfl, by have := hB.size; omega, hB.size, .inr (.inr ⟨_, _, A2, n, c2, rfl, rfl, by omega, ?_, ?_, ?_, ?_, ?_, ?_, ?_, ?_, hn, ?_, ?_, ?_⟩), hB1.alloc (by have := hB1.size; omega) _⟩
  · simp
  · simp
  · simp
  · simp
  · simp
  · simp
  · exact Own.rd (base := w.heap.size) (e := 5) ((ho2.alloc _).alloc _)
  · intro e
    have := (ho2.blk_lt e).2
    omega
  · have := hB.size; simp; omega
  · have := hB.size; simp; omega
  · intro g hg
    have h1 := (ho2.blk_lt hg).1
    have h2 := (ho2.blk_lt hg).2
    simp; omega

theorem be_push (k x : Nat) (hk : k < 72057594037927936) (hx : x < 256) : bits .or .u64 (IntKind.u64.wrap ((k : Int) * 256)) (x : Int) = ((256 * k + x : Nat) : Int) := by
  have h1 : IntKind.u64.wrap ((k : Int) * 256) = ((256 * k : Nat) : Int) := by rw [IntKind.wrap_u64]; omega
  rw [h1, u64_or_nat _ _ (by omega) (by omega)]
  have := Nat.two_pow_add_eq_or_of_lt (i := 8) (b := x) (by omega) k
  rw [← this]

set_option maxHeartbeats 1000000 in
theorem rdnum_any {F : Nat → Prop} {w : World} {v : Value} {vb : Option Nat} {l : List UInt8} {bad : Bool} (h : Rdr F w v vb l bad) (x : Int) (hx : -9223372036854775808 ≤ x) (hx' : x ≤ 9223372036854775807) :
    Calls Tryd.prog 23 #[v, .int .i64 x] w fun e w' => e = .returned (.int .u64 ((mnum l bad x).1 : Nat)) ∧ Rdr F w' v vb (mnum l bad x).2.1 (mnum l bad x).2.2 ∧ w.grownBy w' vb := by
  by_cases hw : wideB x = true
  · rw [mnum_yes hw]
    have hlo : (mtake l bad x).1.length ≤ 8 := by
      have := wideB_le hw
      unfold mtake
      split
      · simp
      · simp only [List.length_take]; omega
    have hT := rdtake_any h x hx hx'
    generalize mtake l bad x = r at hT hlo ⊢
    obtain ⟨o, l', bad'⟩ := r
    simp only at hT hlo ⊢
    go_enter Tryd.func23, Tryd.ntmps23
    go_wp2_with (first | (with_reducible refine hold_append ?_) | (with_reducible refine hold_make ?_) | (with_reducible refine hold_copy ?_))
    refine (wide_any x w).mono ?_
    rw [hw]
    rintro e w' ⟨rfl, rfl⟩
    go_wp2_with (first | (with_reducible refine hold_append ?_) | (with_reducible refine hold_make ?_) | (with_reducible refine hold_copy ?_))
    refine hT.mono ?_
    rintro e w1 ⟨A2, c2, rfl, ho, hR, hg⟩
    go_wp2_with (first | (with_reducible refine hold_append ?_) | (with_reducible refine hold_make ?_) | (with_reducible refine hold_copy ?_))
    go_loopw [17, 5] (fun i s wr => wr = w1 ∧ ∃ k : Nat, k ≤ o.length ∧ i = .int .i64 k ∧ s = .int .u64 (unbe (o.take k) : Nat)) (fun i _ _ => o.length - (intOf i).toNat)
    case atStart => exact ⟨rfl, 0, by omega, rfl, by simp [unbe_nil]⟩
    case round =>
      obtain ⟨rfl, k, hk, rfl, rfl⟩ := hrel
      by_cases hlt : k < o.length
      · obtain ⟨b, off, rfl, hbB, hkl, hcell⟩ := RdB.at_k ho.rd (k := k) hlt
        have hby := o[k].toNat_lt
        go_wp2_with (first | (with_reducible refine hold_append ?_) | (with_reducible refine hold_make ?_) | (with_reducible refine hold_copy ?_))
        have hsn : unbe (o.take (k + 1)) = 256 * unbe (o.take k) + o[k].toNat := by
          rw [List.take_succ_eq_append_getElem hkl]; exact unbe_snoc _ _
        have hlt7 : unbe (o.take k) < 72057594037927936 := by
          refine Nat.lt_of_lt_of_le (unbe_lt _) ?_
          refine Nat.le_trans (Nat.pow_le_pow_right (by omega) (show (o.take k).length ≤ 7 by rw [List.length_take]; omega)) (by decide)
        exact ⟨⟨trivial, k + 1, by omega, by go_num, by rw [be_push _ _ hlt7 hby, hsn]⟩, by simp [intOf]; omega⟩
      · obtain rfl : k = o.length := by omega
        rw [List.take_length]
        go_wp2_with (first | (with_reducible refine hold_append ?_) | (with_reducible refine hold_make ?_) | (with_reducible refine hold_copy ?_))
        go_ret
        exact ⟨rfl, hR, hg⟩
  · have hw' : wideB x = false := by simpa using hw
    rw [mnum_no hw']
    go_enter Tryd.func23, Tryd.ntmps23
    go_wp2_with (first | (with_reducible refine hold_append ?_) | (with_reducible refine hold_make ?_) | (with_reducible refine hold_copy ?_))
    refine (wide_any x w).mono ?_
    rw [hw']
    rintro e w' ⟨rfl, rfl⟩
    go_wp2_with (first | (with_reducible refine hold_append ?_) | (with_reducible refine hold_make ?_) | (with_reducible refine hold_copy ?_))
    refine (rdspoil_any h).mono ?_
    rintro e w1 ⟨rfl, h1, hg1⟩
    go_wp2_with (first | (with_reducible refine hold_append ?_) | (with_reducible refine hold_make ?_) | (with_reducible refine hold_copy ?_))
    go_ret
    exact ⟨rfl, h1, hg1⟩

end Go.PH

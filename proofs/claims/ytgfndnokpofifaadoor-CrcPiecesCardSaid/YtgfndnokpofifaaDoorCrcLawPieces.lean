/- CrcPieces: for every input of the form's own reach the law returns true and writes nothing that was there. Condition: the listed table reads as its numbers. -/
import Derived.Test.YtgfndnokpofifaaDoorCrcLawSeals
import Derived.Test.YtgfndnokpofifaaDoorSee
namespace Go.PH
open Go.RowKit Go.Proofs

/-- rows of bytes -/
theorem rows_at {W w : World} {A : Option Addr} {n c : Nat} {xs : List Value} {L : List (List UInt8)} (hr : Rd w W.heap.size 1 A n c xs) (hL : L.length = n) (hR : ∀ i (h : i < L.length), RBytes W L[i] ((xs.drop (i * 1)).take 1)) {k : Nat} (hk : k < n) :
    ∃ b off A' n' c', A = some ⟨b, off, none⟩ ∧ ∃ hl : k < L.length, w.cell? ⟨b, off + k, none⟩ = some (.slice A' n' c') ∧ RdB W W.heap.size A' n' c' L[k] := by
  obtain ⟨b, off, u, rfl, _, hx, hc⟩ := hr.at_k hk
  obtain ⟨A', n', c', h1, h2, _⟩ := hR k (by omega)
  refine ⟨b, off, A', n', c', rfl, by omega, ?_, h2⟩
  have : ((xs.drop (k * 1)).take 1)[0]? = some u := by simp [hx]
  rw [h1] at this
  simp at this
  rw [hc, this]

set_option maxHeartbeats 1000000 in
theorem law_CrcPieces (A : Option Addr) (n c : Nat) (xs : List Value) (L : List (List UInt8)) (w : World) (hr : Rd w w.heap.size 1 A n c xs) (hL : L.length = n) (hR : ∀ i (h : i < L.length), RBytes w L[i] ((xs.drop (i * 1)).take 1))
    (ht : TabAt w) (hg0 : 0 < w.heap.size) (hn : n ≤ 140737488351232) :
    Calls Tryd.prog 8 #[.slice A n c] w fun e w' => e = .returned (.bool true) ∧ Below w.heap.size w w' := by
  by_cases h200 : 200 < n
  · go_enter Tryd.func8, Tryd.ntmps8
    go_wp2_with (first | (with_reducible refine hold_append ?_) | (with_reducible refine hold_make ?_) | (with_reducible refine hold_copy ?_))
    refine (head_any w ht hg0).mono ?_
    rintro e w1 ⟨rfl, hB1⟩
    go_wp2_with (first | (with_reducible refine hold_append ?_) | (with_reducible refine hold_make ?_) | (with_reducible refine hold_copy ?_))
    go_ret
    exact ⟨rfl, hB1⟩
  · have h200' : ¬ (200 : Int) < (n : Int) := by omega
    go_enter Tryd.func8, Tryd.ntmps8
    go_wp2_with (first | (with_reducible refine hold_append ?_) | (with_reducible refine hold_make ?_) | (with_reducible refine hold_copy ?_))
    refine (sum_any none 0 0 [] w.heap.size w (Rd.nil w _ _ 0 (by simp [maxLen]) none) ht (by omega)).mono ?_
    rw [sum_nil]
    rintro e w1 ⟨rfl, rfl⟩
    go_wp2_with (first | (with_reducible refine hold_append ?_) | (with_reducible refine hold_make ?_) | (with_reducible refine hold_copy ?_))
    go_loopw [3, 4, 5] (fun s v i wr => ∃ (k m c' : Nat) (A' : Option Addr) (sm : Nat), k ≤ n ∧ i = .int .i64 k ∧ m ≤ 1000 * k ∧ sm < 4294967296 ∧ s = .int .u32 sm ∧ v = .slice A' m c' ∧ sm = sum (L.take k).flatten ∧
      Own wr w.heap.size 5 1 A' m c' ((L.take k).flatten.map u8v) ∧ Below w.heap.size w wr) (fun _ _ i _ => n - (intOf i).toNat)
    case atStart => exact ⟨0, 0, 0, none, 0, by omega, rfl, by omega, by omega, rfl, rfl, by simp [sum_nil], by simpa using Own.none_ _ _ _ _, Below.refl _ _⟩
    case round =>
      obtain ⟨k, m, c', A', sm, hk, rfl, hm, hsm, rfl, rfl, hse, ho, hB⟩ := hrel
      have HS := Lib.hid hse
      clear hse
      by_cases hlt : k < n
      · obtain ⟨b, off, A2, n2, c2, rfl, hkl, hcell, hrk⟩ := rows_at (hr.below hB) hL hR hlt
        have hrk' := Rd.below hrk hB
        by_cases h1000 : 1000 < n2
        · have h1000' : (1000 : Int) < (n2 : Int) := by omega
          go_wp2_with (first | (with_reducible refine hold_append ?_) | (with_reducible refine hold_make ?_) | (with_reducible refine hold_copy ?_))
          refine (head_any wr (ht.below hB hg0) (Nat.lt_of_lt_of_le hg0 hB.size)).mono ?_
          rintro e w4 ⟨rfl, hB4⟩
          go_wp2_with (first | (with_reducible refine hold_append ?_) | (with_reducible refine hold_make ?_) | (with_reducible refine hold_copy ?_))
          go_ret
          exact ⟨rfl, hB.trans (hB4.mono hB.size)⟩
        · have h1000' : ¬ (1000 : Int) < (n2 : Int) := by omega
          have hmo := more_append 0 (L.take k).flatten L[k]
          have hfl : (L.take (k + 1)).flatten = (L.take k).flatten ++ L[k] := by
            rw [List.take_succ_eq_append_getElem hkl, List.flatten_append]; simp only [List.flatten_cons, List.flatten_nil, List.append_nil]
          have HF := Lib.hid hfl
          have hsn : more sm L[k] = sum (L.take (k + 1)).flatten := by rw [HS.out, hfl]; exact hmo.symm
          have hsl := sum_lt (L.take (k + 1)).flatten
          rw [← hsn] at hsl
          have HSN := Lib.hid hsn
          clear hfl hmo hsn
          go_wp2_with (first | (with_reducible refine hold_append ?_) | (with_reducible refine hold_make ?_) | (with_reducible refine hold_copy ?_))
          refine (more_any A2 n2 c2 sm L[k] _ wr hrk' (ht.below hB hg0) (by omega) hsm).mono ?_
          generalize more sm L[k] = s2 at *
          rintro e w4 ⟨rfl, rfl⟩
          go_wp2_with (first | (with_reducible refine hold_append ?_) | (with_reducible refine hold_make ?_) | (with_reducible refine hold_copy ?_))
          refine unhold (wp_app slB rfl rfl rfl rfl ho hrk' (map_one _) (by omega) (by simp [maxLen]; omega) hB.size ?_)
          intro A5 c5 w5 ho5 hg5 _
          have hB5 := hB.grown hg5 hB.size (fun g hg => (ho.blk_lt hg).1)
          rw [← List.map_append, ← HF.out] at ho5
          go_wp2_with (first | (with_reducible refine hold_append ?_) | (with_reducible refine hold_make ?_) | (with_reducible refine hold_copy ?_))
          exact ⟨⟨k + 1, m + n2, c5, A5, s2, by omega, by go_num, by omega, hsl, rfl, by first | rfl | simp, HSN.out, ho5, hB5⟩, by simp [intOf]; omega⟩
      · have hkn : k = n := by omega
        subst hkn
        have hfe : (L.take k).flatten = L.flatten := by rw [← hL, List.take_length]
        have hse : sum (L.take k).flatten = sm := HS.out.symm
        go_wp2_with (first | (with_reducible refine hold_append ?_) | (with_reducible refine hold_make ?_) | (with_reducible refine hold_copy ?_))
        refine (sum_any A' m c' (L.take k).flatten _ wr ho.rd (ht.below hB hg0) (by omega)).mono ?_
        rw [hse]
        rintro e w4 ⟨rfl, rfl⟩
        go_wp2_with (first | (with_reducible refine hold_append ?_) | (with_reducible refine hold_make ?_) | (with_reducible refine hold_copy ?_))
        refine (head_any wr (ht.below hB hg0) (Nat.lt_of_lt_of_le hg0 hB.size)).mono ?_
        rintro e w5 ⟨rfl, hB5⟩
        go_wp2_with (first | (with_reducible refine hold_append ?_) | (with_reducible refine hold_make ?_) | (with_reducible refine hold_copy ?_))
        go_ret
        exact ⟨rfl, hB.trans (hB5.mono hB.size)⟩
end Go.PH

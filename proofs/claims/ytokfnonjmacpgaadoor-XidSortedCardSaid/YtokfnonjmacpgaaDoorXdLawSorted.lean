/- XidSorted: for every input of the form's own reach the law returns true and writes nothing that was there. Condition: the listed variables read as listed. -/
import Derived.Test.YtokfnonjmacpgaaDoorXdHead
import Derived.Test.YtokfnonjmacpgaaDoorXdRSorted
set_option linter.all false
set_option linter.unusedSimpArgs false
set_option linter.unusedVariables false
namespace Go.PH
open Go.RowKit Go.Proofs Go.Sort

theorem below_own {w w' : World} {base B n c g : Nat} {l : List Xd} (hB : Below base w w') (hg : base ≤ g) {w2 : World} (hgr : w'.grownBy w2 (some g)) (hb : base ≤ w'.heap.size) : Below base w w2 := hB.grown hgr hb (fun g' e => by injection e with e; omega)
set_option maxRecDepth 20000 in
set_option maxHeartbeats 4000000 in
theorem law_XidSorted (A : Option Addr) (n c : Nat) (l : List Xd) (w : World) (hr : RdX w w.heap.size A n c l) (hwf : ∀ x ∈ l, x.wf) (he : XEnv w) :
    Calls Tryd.prog 10 #[.slice A n c] w fun e w' => e = .returned (.bool true) ∧ Below w.heap.size w w' := by
  have h8 := he.lt
  have hmx := hr.max
  have hcap := hr.cap
  by_cases hn : 60 < n
  · have hd : (60 : Int) < (n : Int) := by omega
    go_enter Tryd.func10, Tryd.ntmps10
    go_wp2_with (first | (with_reducible refine hold_append ?_) | (with_reducible refine hold_make ?_) | (with_reducible refine hold_copy ?_))
    refine (head_any _ (he.below (Below.refl w.heap.size w) h8 (Nat.le_refl _))).mono ?_
    rintro e wz ⟨rfl, hBz⟩
    go_wp2_with (first | (with_reducible refine hold_append ?_) | (with_reducible refine hold_make ?_) | (with_reducible refine hold_copy ?_))
    go_ret
    exact ⟨rfl, hBz⟩
  · have hd : ¬ (60 : Int) < (n : Int) := by omega
    obtain ⟨S, hS⟩ : ∃ S, S = xdSort l := ⟨_, rfl⟩
    have hso := fun A n c B W h1 h2 h3 => sorted_any A n c l B W h1 h2 hwf h3
    have hrs := fun A n c B W h1 h2 h3 => rsorted_any A n c l B W h1 h2 hwf h3
    rw [← hS] at hso hrs
    have hSl : Hid (S.length ≤ n) := Lib.hid (by rw [hS]; have := xdSort_len l; rw [rec_length xdShape hr] at this; exact this)
    clear hS hwf
    go_enter Tryd.func10, Tryd.ntmps10
    go_wp2_with (first | (with_reducible refine hold_append ?_) | (with_reducible refine hold_make ?_) | (with_reducible refine hold_copy ?_))
    refine unhold (wp_app slX rfl rfl rfl rfl (Own.none_ w w.heap.size _ _) hr (rowC_one xdShape _) (by omega) (by simp [maxLen]; omega) (Nat.le_refl _) ?_)
    intro A1 c1 w1 ho1 hg1 _
    simp only [Nat.zero_add, List.nil_append] at ho1 ⊢
    have hB1 : Below w.heap.size w w1 := (Below.refl _ _).grown hg1 (Nat.le_refl _) (fun g e => by cases e)
    have hz1 := hB1.size
    go_wp2_with (first | (with_reducible refine hold_append ?_) | (with_reducible refine hold_make ?_) | (with_reducible refine hold_copy ?_))
    refine (hso A1 n c1 _ w1 ho1.rd (Nat.le_refl _) (by omega)).mono ?_
    rintro e w2 ⟨A2, c2, rfl, ho2, hB2⟩
    have ho12 := own_below ho1 hB2
    have hB02 := hB1.trans (hB2.mono hz1)
    have hz2 := hB02.size
    have hA1 : ∀ g, blk A1 = some g → g < w1.heap.size := fun g hg => (ho1.blk_lt hg).2
    obtain ⟨b2, hb2⟩ : ∃ b2, b2 = w1.heap.size := ⟨_, rfl⟩
    rw [← hb2] at ho2 hA1
    have hbz : w.heap.size ≤ b2 := by omega
    have hbs : b2 ≤ w2.heap.size := by have := hB2.size; omega
    clear hB2 ho1 hB1 hb2 hg1
    go_wp2_with (first | (with_reducible refine hold_append ?_) | (with_reducible refine hold_make ?_) | (with_reducible refine hold_copy ?_))
    refine (hrs A n c _ w2 (hr.below hB02) hz2 (by omega)).mono ?_
    rintro e w3 ⟨A3, c3, rfl, ho3, hB3⟩
    have ho13 := own_below ho12 hB3
    have ho23 := own_below ho2 hB3
    have hB03 := hB02.trans (hB3.mono hz2)
    have hz3 := hB03.size
    have hSn := hSl.out
    have hsm := xsame_any A2 S.length c2 S A3 S.length c3 S _ w3 ho23.rd ho3.rd (Nat.le_refl _) (by omega) (by omega)
    rw [decide_eq_true rfl] at hsm
    clear hso hrs ho12 ho2
    obtain ⟨N, hN⟩ : ∃ N, N = S.length := ⟨_, rfl⟩
    rw [← hN] at hsm ho23 hSn
    have HN := Lib.hid hN
    clear hSl
    rw [← HN.out]
    clear hN
    go_wp2_with (first | (with_reducible refine hold_append ?_) | (with_reducible refine hold_make ?_) | (with_reducible refine hold_copy ?_))
    refine hsm.mono ?_
    rintro e w4 ⟨rfl, hB4⟩
    have ho14 := own_below ho13 hB4
    have ho24 := own_below ho23 hB4
    have hB04 := hB03.trans (hB4.mono hz3)
    have hbs4 : b2 ≤ w4.heap.size := by have := hB3.size; have := hB4.size; omega
    clear hsm ho13 ho23 hB4
    go_wp2_with (first | (with_reducible refine hold_append ?_) | (with_reducible refine hold_make ?_) | (with_reducible refine hold_copy ?_))
    go_loopw [5] (fun s wr => ∃ (k : Nat) (T : List Xd), k ≤ N ∧ s = .int .i64 k ∧ OwnX wr b2 A2 N c2 T ∧ OwnX wr w.heap.size A1 n c1 l ∧ Below w.heap.size w wr) (fun s _ => N - (RowKit.intOf s).toNat)
    case atStart => exact ⟨0, S, by omega, rfl, ho24, ho14, hB04⟩
    case round =>
      clear ho14 ho24 hB04 hbs4
      obtain ⟨k, T, hk, rfl, hoT, hoL, hBr⟩ := hrel
      by_cases hlt : k < N
      · have hkn : (k : Int) < (N : Int) := by omega
        obtain ⟨g, rfl, hbg, hgs⟩ := own_some hoT (by omega)
        have hTl := own_len xdShape hoT
        have hkT : k < T.length := by omega
        have HF : Hid (xdC ⟨9, T[k].glob, T[k].bran⟩ = (xdC T[k]).take 0 ++ [.int .u32 9] ++ (xdC T[k]).drop (0 + [Value.int .u32 9].length)) := Lib.hid (by simp [xdC])
        go_wp2_with (with_reducible refine hold_store ?_)
        refine unhold (wp_recset xdShape rfl rfl rfl rfl hoT (k := k) (i := 0) (vs := [.int .u32 9]) hlt hkT ⟨9, T[k].glob, T[k].bran⟩ rfl (by kernel_rfl) HF.out (by simp) (by omega) ?_)
        intro w5 ho5 hg5 _
        have hB5 := below_own (B := 0) (n := 0) (c := 0) (l := []) hBr (show w.heap.size ≤ g by omega) hg5 hBr.size
        have hoL5 := own_stays hoL hg5 (fun g' h e => by injection e with e; have := hA1 g' h; omega)
        go_wp2_with (first | (with_reducible refine hold_append ?_) | (with_reducible refine hold_make ?_) | (with_reducible refine hold_copy ?_))
        exact ⟨⟨k + 1, _, by omega, by go_num, ho5, hoL5, hB5⟩, by simp [RowKit.intOf]; omega⟩
      · obtain rfl : k = N := by omega
        have hsm := xsame_any A1 n c1 l A n c l _ wr hoL.rd ((hr.below hBr).more hBr.size) (Nat.le_refl _) (by omega) (by omega)
        rw [decide_eq_true rfl] at hsm
        go_wp2_with (first | (with_reducible refine hold_append ?_) | (with_reducible refine hold_make ?_) | (with_reducible refine hold_copy ?_))
        refine hsm.mono ?_
        rintro e w6 ⟨rfl, hB6⟩
        have hB06 := hBr.trans (hB6.mono hBr.size)
        clear hsm
        go_wp2_with (first | (with_reducible refine hold_append ?_) | (with_reducible refine hold_make ?_) | (with_reducible refine hold_copy ?_))
        refine (head_any _ (he.below hB06 h8 hB06.size)).mono ?_
        rintro e wz ⟨rfl, hBz⟩
        have hB0z := hB06.trans (hBz.mono hB06.size)
        go_wp2_with (first | (with_reducible refine hold_append ?_) | (with_reducible refine hold_make ?_) | (with_reducible refine hold_copy ?_))
        go_ret
        exact ⟨rfl, hB0z⟩
end Go.PH

/- The walks of the search in a right row, and of Has. -/
import Derived.Test.YtjlfjlafpgjhbaaSpWalk
import Derived.Test.YtjlfjlafpgjhbaaSpRef
namespace Go.PH
open Go.RowKit Go.Proofs

theorem at1_any (A : Option Addr) (n c : Nat) (l : List Sp) (m rb nb : Nat) (B : Nat) (w : World) (hr : RdS w B A n c l) (hb : spOK 4294967296 l) (hm : m < 4294967296) (hrb : w.cell? ⟨rb, 0, none⟩ = some (.slice A n c)) (hnb : w.cell? ⟨nb, 0, none⟩ = some (.int .u32 m)) (i : Nat) (hi : i < n) (hn : n ≤ 140737488355328) :
    Calls Try.prog 44 #[.int .i64 i, .pointer (some ⟨rb, 0, none⟩), .pointer (some ⟨nb, 0, none⟩)] w fun e w' => e = .returned (.bool (decide (m ≤ (l.getD i (0, 0)).2))) ∧ ∃ q, w' = w.drewN q := by
  have hl := hr.length
  obtain ⟨b, off, rfl, hbB, hkl, hc0, hc1⟩ := RdS.at_k hr hi
  have hbk := hb l[i] (List.getElem_mem hkl)
  have e : l.getD i (0, 0) = l[i] := by simp [List.getD, List.getElem?_eq_getElem hkl]
  rw [e]
  generalize l[i].1 = f at *
  generalize l[i].2 = t at *
  have hd : decide ((m : Int) ≤ (t : Int)) = decide (m ≤ t) := by rw [Bool.eq_iff_iff]; simp
  go_enter Try.func44, Try.ntmps44
  go_wp2_with (first | (with_reducible refine hold_append ?_) | (with_reducible refine hold_make ?_) | (with_reducible refine hold_copy ?_))
  go_quiet (fail)
  go_wp2_with (first | (with_reducible refine hold_append ?_) | (with_reducible refine hold_make ?_) | (with_reducible refine hold_copy ?_))
  go_ret
  exact ⟨by first | rfl | simp [hd], _, rfl⟩

set_option maxRecDepth 20000 in
theorem search_any (A : Option Addr) (n c : Nat) (l : List Sp) (m rb nb : Nat) (B : Nat) (w : World) (hr : RdS w B A n c l) (hB : B ≤ w.heap.size) (hb : spOK 4294967296 l) (hm : m < 4294967296) (hrb : w.cell? ⟨rb, 0, none⟩ = some (.slice A n c)) (hnb : w.cell? ⟨nb, 0, none⟩ = some (.int .u32 m)) (hn : n ≤ 140737488355328) (hright : spRight l = true) :
    Calls Try.prog 43 #[.int .i64 n, .func (.func 44) #[] #[.pointer (some ⟨rb, 0, none⟩), .pointer (some ⟨nb, 0, none⟩)]] w fun e w' => ∃ i : Nat, e = .returned (.int .i64 i) ∧ spAt l m i ∧ Below w.heap.size w w' := by
  have hl := hr.length
  have hmono := Lib.hid (spRight_mono hright)
  go_enter Try.func43, Try.ntmps43
  go_wp2_with (first | (with_reducible refine hold_append ?_) | (with_reducible refine hold_make ?_) | (with_reducible refine hold_copy ?_))
  go_loopw [5, 6] (fun s5 s6 wr => ∃ (lo hi : Nat), s5 = .int .i64 lo ∧ s6 = .int .i64 hi ∧ lo ≤ hi ∧ hi ≤ n ∧ (∀ k, k < lo → (l.getD k (0, 0)).2 < m) ∧ (∀ k, hi ≤ k → k < n → m ≤ (l.getD k (0, 0)).2) ∧ Below w.heap.size w wr) (fun s5 s6 _ => (intOf s6).toNat - (intOf s5).toNat)
  case atStart => exact ⟨0, n, rfl, rfl, by omega, by omega, by simp, by intros; omega, Below.refl _ _⟩
  case round =>
    obtain ⟨lo, hi, rfl, rfl, hlh, hin, hlo, hhi, hBr⟩ := hrel
    have hmd : ∀ j k, j ≤ k → k < n → (l.getD j (0, 0)).2 ≤ (l.getD k (0, 0)).2 := by
      intro j k hj hk
      have h1 : j < l.length := by omega
      have h2 : k < l.length := by omega
      have := hmono.out j k h2 hj
      simpa [List.getD, List.getElem?_eq_getElem h1, List.getElem?_eq_getElem h2] using this
    by_cases hlt : lo < hi
    · have hat := at1_any A n c l m rb nb B wr (hr.below (hBr.mono hB)) hb hm ((hBr.cell (p := ⟨rb, 0, none⟩) (World.block_lt_of_cell? w _ hrb)).trans hrb) ((hBr.cell (p := ⟨nb, 0, none⟩) (World.block_lt_of_cell? w _ hnb)).trans hnb) ((lo + hi) / 2) (by omega) hn
      rw [show (((lo + hi) / 2 : Nat) : Int) = ((lo : Int) + (hi : Int)) / 2 by omega] at hat
      have H1 := Lib.hid hlo
      have H2 := Lib.hid hhi
      have H3 := Lib.hid hmd
      clear hlo hhi hmd
      by_cases hp : m ≤ (l.getD ((lo + hi) / 2) (0, 0)).2
      · have hpd : decide (m ≤ (l.getD ((lo + hi) / 2) (0, 0)).2) = true := by simpa using hp
        rw [hpd] at hat
        clear hpd
        have HP := Lib.hid hp
        clear hp
        go_wp2_with (first | (with_reducible refine hold_append ?_) | (with_reducible refine hold_make ?_) | (with_reducible refine hold_copy ?_))
        refine hat.mono ?_
        rintro e w1 ⟨rfl, q, rfl⟩
        go_wp2_with (first | (with_reducible refine hold_append ?_) | (with_reducible refine hold_make ?_) | (with_reducible refine hold_copy ?_))
        exact ⟨⟨lo, (lo + hi) / 2, rfl, by go_num, by omega, by omega, H1.out, fun k hk hkn => Nat.le_trans HP.out (H3.out _ k hk hkn), below_drewN hBr _⟩, by simp [intOf]; omega⟩
      · have hpd : decide (m ≤ (l.getD ((lo + hi) / 2) (0, 0)).2) = false := by simpa using hp
        rw [hpd] at hat
        clear hpd
        have HP := Lib.hid hp
        clear hp
        go_wp2_with (first | (with_reducible refine hold_append ?_) | (with_reducible refine hold_make ?_) | (with_reducible refine hold_copy ?_))
        refine hat.mono ?_
        rintro e w1 ⟨rfl, q, rfl⟩
        go_wp2_with (first | (with_reducible refine hold_append ?_) | (with_reducible refine hold_make ?_) | (with_reducible refine hold_copy ?_))
        exact ⟨⟨(lo + hi) / 2 + 1, hi, by go_num, rfl, by omega, by omega, fun k hk => Nat.lt_of_le_of_lt (H3.out k ((lo + hi) / 2) (by omega) (by omega)) (Nat.lt_of_not_le HP.out), H2.out, below_drewN hBr _⟩, by simp [intOf]; omega⟩
    · obtain rfl : lo = hi := by omega
      go_wp2_with (first | (with_reducible refine hold_append ?_) | (with_reducible refine hold_make ?_) | (with_reducible refine hold_copy ?_))
      go_ret
      refine ⟨lo, rfl, ⟨by omega, fun k hk hkl => ?_, fun k hk hkl => ?_⟩, hBr⟩
      · have := hlo k hkl
        simpa [List.getD, List.getElem?_eq_getElem hk] using this
      · have := hhi k hkl (by omega)
        simpa [List.getD, List.getElem?_eq_getElem hk] using this

theorem at_any (A : Option Addr) (n c : Nat) (l : List Sp) (m : Nat) (B : Nat) (w : World) (hr : RdS w B A n c l) (hB : B ≤ w.heap.size) (hb : spOK 4294967296 l) (hm : m < 4294967296) (hn : n ≤ 140737488355328) (hright : spRight l = true) :
    Calls Try.prog 29 #[.slice A n c, .int .u32 m] w fun e w' => ∃ i : Nat, e = .returned (.int .i64 i) ∧ spAt l m i ∧ Below w.heap.size w w' := by
  have hB2 : Below w.heap.size w ((w.alloc (.cells #[.slice A n c] 22)).alloc (.cells #[.int .u32 m] 23)) := ((Below.refl _ _).alloc (Nat.le_refl _) _).alloc (by simp) _
  have hs := search_any A n c l m w.heap.size (w.heap.size + 1) B ((w.alloc (.cells #[.slice A n c] 22)).alloc (.cells #[.int .u32 m] 23)) (hr.below (hB2.mono hB)) (by simp; omega) hb hm
    (by rw [World.cell?_alloc_past _ _ _ (by simp)]; rw [World.cell?_alloc_new]; rfl) (by rw [World.cell?_alloc_at _ _ _ _ (by simp)]; rfl) hn hright
  go_enter Try.func29, Try.ntmps29
  go_wp2_with (first | (with_reducible refine hold_append ?_) | (with_reducible refine hold_make ?_) | (with_reducible refine hold_copy ?_))
  refine hs.mono ?_
  rintro e w1 ⟨i, rfl, ha, hB3⟩
  go_wp2_with (first | (with_reducible refine hold_append ?_) | (with_reducible refine hold_make ?_) | (with_reducible refine hold_copy ?_))
  go_ret
  exact ⟨i, rfl, ha, hB2.trans (hB3.mono (by simp; omega))⟩

theorem has_any (A : Option Addr) (n c : Nat) (l : List Sp) (m : Nat) (B : Nat) (w : World) (hr : RdS w B A n c l) (hB : B ≤ w.heap.size) (hb : spOK 4294967296 l) (hm : m < 4294967296) (hn : n ≤ 140737488355328) :
    Calls Try.prog 18 #[.slice A n c, .int .u32 m] w fun e w' => e = .returned (.bool (spRight l && spIn l m)) ∧ Below w.heap.size w w' := by
  have hl := hr.length
  have hra := right_any A n c l B w hr hb hB hn
  cases hright : spRight l
  · rw [hright] at hra
    rw [Bool.false_and]
    go_enter Try.func18, Try.ntmps18
    go_wp2_with (first | (with_reducible refine hold_append ?_) | (with_reducible refine hold_make ?_) | (with_reducible refine hold_copy ?_))
    refine hra.mono ?_
    rintro e w1 ⟨rfl, hB1⟩
    go_wp2_with (first | (with_reducible refine hold_append ?_) | (with_reducible refine hold_make ?_) | (with_reducible refine hold_copy ?_))
    go_ret
    exact ⟨rfl, hB1⟩
  · rw [hright] at hra
    rw [Bool.true_and]
    have HR := Lib.hid hright
    clear hright
    go_enter Try.func18, Try.ntmps18
    go_wp2_with (first | (with_reducible refine hold_append ?_) | (with_reducible refine hold_make ?_) | (with_reducible refine hold_copy ?_))
    refine hra.mono ?_
    rintro e w1 ⟨rfl, hB1⟩
    have hr1 := hr.below (hB1.mono hB)
    go_wp2_with (first | (with_reducible refine hold_append ?_) | (with_reducible refine hold_make ?_) | (with_reducible refine hold_copy ?_))
    refine (at_any A n c l m B w1 hr1 (by have := hB1.size; omega) hb hm hn HR.out).mono ?_
    rintro e w2 ⟨i, rfl, ha, hB2⟩
    have hB12 := hB1.trans (hB2.mono hB1.size)
    have hsp := spHas_at m l i HR.out ha
    have hin : i ≤ n := by have := ha.1; omega
    have HA := Lib.hid ha
    clear ha
    by_cases hlt : i < n
    · have hd0 : (i : Int) < (n : Int) := by omega
      obtain ⟨b, off, rfl, hbB, hkl, hc0, hc1⟩ := RdS.at_k (hr.below (hB12.mono hB)) hlt
      have hbk := hb l[i] (List.getElem_mem hkl)
      rw [List.getElem?_eq_getElem hkl] at hsp
      simp only at hsp
      have HSP := Lib.hid hsp
      clear hsp
      generalize l[i].1 = f at *
      generalize l[i].2 = t at *
      go_wp2_with (first | (with_reducible refine hold_append ?_) | (with_reducible refine hold_make ?_) | (with_reducible refine hold_copy ?_))
      go_ret
      rw [HSP.out]
      exact ⟨by first | rfl | simp, hB12⟩
    · have hd0 : decide ((i : Int) < (n : Int)) = false := by simp; omega
      rw [List.getElem?_eq_none (by omega)] at hsp
      simp only at hsp
      have HSP := Lib.hid hsp
      clear hsp
      go_wp2_with (first | (with_reducible refine hold_append ?_) | (with_reducible refine hold_make ?_) | (with_reducible refine hold_copy ?_))
      go_ret
      rw [HSP.out]
      exact ⟨rfl, hB12⟩
end Go.PH

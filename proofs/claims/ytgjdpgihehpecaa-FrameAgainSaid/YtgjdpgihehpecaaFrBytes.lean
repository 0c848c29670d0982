/- The walk of the laws' bytes: the frames that may be, and their bytes one behind the other. -/
import Derived.Test.YtgjdpgihehpecaaFrScan
import Derived.Test.YtgjdpgihehpecaaFrPut
namespace Go.PH
open Go.RowKit Go.Proofs

def frOks (l : List Fr) : List Fr := l.filter Fr.ok
def frBytes (l : List Fr) : List UInt8 := (frOks l).flatMap Fr.bytes
theorem Fr.bytes_length (f : Fr) : f.bytes.length = 12 + f.load.length := by simp [Fr.bytes, be_length]; omega
theorem frOks_len (l : List Fr) : (frOks l).length ≤ l.length := List.length_filter_le _ _
theorem frBytes_len (l : List Fr) : (frBytes l).length ≤ 4096 * l.length := by
  induction l with
  | nil => simp [frBytes, frOks]
  | cons f l ih =>
    cases h : f.ok
    · have : frBytes (f :: l) = frBytes l := by simp [frBytes, frOks, h]
      rw [this]; simp; omega
    · have : frBytes (f :: l) = f.bytes ++ frBytes l := by simp [frBytes, frOks, h]
      have h2 : f.load.length ≤ 4084 := by unfold Fr.ok at h; simp at h; exact h.2
      rw [this, List.length_append, f.bytes_length]; simp; omega
theorem frOks_no {l : List Fr} {k : Nat} (hk : k < l.length) (h : l[k].ok = false) : frOks (l.take (k + 1)) = frOks (l.take k) := by
  unfold frOks; rw [List.take_succ_eq_append_getElem hk, List.filter_append]; simp [h]
theorem frOks_yes {l : List Fr} {k : Nat} (hk : k < l.length) (h : l[k].ok = true) : frOks (l.take (k + 1)) = frOks (l.take k) ++ [l[k]] := by
  unfold frOks; rw [List.take_succ_eq_append_getElem hk, List.filter_append]; simp [h]
theorem frBytes_no {l : List Fr} {k : Nat} (hk : k < l.length) (h : l[k].ok = false) : frBytes (l.take (k + 1)) = frBytes (l.take k) := by
  unfold frBytes; rw [frOks_no hk h]
theorem frBytes_yes {l : List Fr} {k : Nat} (hk : k < l.length) (h : l[k].ok = true) : frBytes (l.take (k + 1)) = frBytes (l.take k) ++ l[k].bytes := by
  unfold frBytes; rw [frOks_yes hk h]; simp

set_option maxRecDepth 20000 in
set_option maxHeartbeats 2000000 in
theorem bytes_any (A : Option Addr) (n c : Nat) (l : List Fr) (B : Nat) (w : World) (hr : RdF w B A n c l) (hB : B ≤ w.heap.size) (hf : ∀ f ∈ l, f.wf ∧ f.load.length ≤ 140737488351232) (hn : n ≤ 1000000) :
    Calls Try.prog 15 #[.slice A n c] w fun e w' => ∃ A1 c1 A2 c2, e = .returned (.tuple #[.slice A1 (frBytes l).length c1, .slice A2 (frOks l).length c2]) ∧ Own w' w.heap.size 5 1 A1 (frBytes l).length c1 ((frBytes l).map u8v) ∧ OwnF w' w.heap.size A2 (frOks l).length c2 (frOks l) ∧ Below w.heap.size w w' := by
  have hl := rec_length frShape hr
  go_enter Try.func15, Try.ntmps15
  go_wp2_with (first | (with_reducible refine hold_append ?_) | (with_reducible refine hold_make ?_) | (with_reducible refine hold_copy ?_))
  go_loopw [6, 4, 5] (fun s v u wr => ∃ (k : Nat) (N1 c1 N2 c2 : Nat) (A1 A2 : Option Addr) (bs : List UInt8) (ms : List Fr), k ≤ n ∧ s = .int .i64 k ∧ v = .slice A1 N1 c1 ∧ u = .slice A2 N2 c2 ∧ Hid (bs = frBytes (l.take k) ∧ ms = frOks (l.take k) ∧ bs.length = N1 ∧ ms.length = N2) ∧ (N1 ≤ 4096 * k ∧ N2 ≤ k) ∧ Own wr w.heap.size 5 1 A1 N1 c1 (bs.map u8v) ∧ OwnF wr w.heap.size A2 N2 c2 ms ∧ (∀ g, blk A1 = some g → blk A2 ≠ some g) ∧ Below w.heap.size w wr) (fun s _ _ _ => n - (intOf s).toNat)
  case atStart => exact ⟨0, 0, 0, 0, 0, none, none, [], [], by omega, rfl, rfl, rfl, Lib.hid ⟨by simp [frBytes, frOks], by simp [frOks], rfl, rfl⟩, by omega, Own.none_ _ _ _ _, Own.none_ _ _ _ _, (fun g h => by simp [blk] at h), Below.refl _ _⟩
  case round =>
    obtain ⟨k, N1, c1, N2, c2, A1, A2, bs, ms, hk, rfl, rfl, rfl, HB, ⟨hN1, hN2⟩, ho1, ho2, h12, hBr⟩ := hrel
    by_cases hlt : k < n
    · have hz := hBr.size
      obtain ⟨b, off, rfl, hbB, hkl, hc⟩ := rec_at frShape (Rd.below hr (hBr.mono hB)) hlt
      have hfk := hf l[k] (List.getElem_mem hkl)
      have hp := fun W => fput_any l[k] W hfk.1 hfk.2
      have hYb := fun h => frBytes_yes (l := l) hkl h
      have hYm := fun h => frOks_yes (l := l) hkl h
      have hNb := fun h => frBytes_no (l := l) hkl h
      have hNm := fun h => frOks_no (l := l) hkl h
      have hlb := frBytes_len (l.take (k + 1))
      have hlm := frOks_len (l.take (k + 1))
      have HL := Lib.hid (show (frBytes (l.take (k + 1))).length ≤ 4096 * (k + 1) ∧ (frOks (l.take (k + 1))).length ≤ k + 1 from by
        have : (l.take (k + 1)).length = k + 1 := by simp; omega
        rw [this] at hlb hlm; exact ⟨hlb, hlm⟩)
      clear hlb hlm
      obtain ⟨f, hfe⟩ : ∃ f, f = l[k] := ⟨_, rfl⟩
      have HLK := Lib.hid hfe.symm
      rw [← hfe] at hfk hp hYb hYm hNb hNm hc
      clear hfe
      have k0 := hc 0 _ rfl
      have k1 := hc 1 _ rfl
      have k2 := hc 2 _ rfl
      have k3 := hc 3 _ rfl
      have k4 := hc 4 _ rfl
      have k5 := hc 5 _ rfl
      have k6 := hc 6 _ rfl
      have k7 := hc 7 _ rfl
      simp only [Nat.add_zero] at k0
      have hkn : (k : Int) < (n : Int) := by omega
      clear hc
      cases hok : f.ok
      · have e1 : f.put = [] := by simp [Fr.put, hok]
        have e2 : f.err = 60 := by simp [Fr.err, hok]
        have HB2 := Lib.hid (And.intro (HB.out.1.trans (hNb hok).symm) (HB.out.2.1.trans (hNm hok).symm))
        simp only [e1, e2, frV] at hp
        clear e1 e2 hYb hYm hNb hNm
        go_wp2_with (first | (with_reducible refine hold_append ?_) | (with_reducible refine hold_make ?_) | (with_reducible refine hold_copy ?_))
        refine (hp wr).mono ?_
        rintro e w1 ⟨Ax, cx, rfl, _, hB1⟩
        have ho11 := own_below ho1 hB1
        have ho21 : OwnF w1 w.heap.size A2 N2 c2 ms := own_below ho2 hB1
        have hBr2 := hBr.trans (hB1.mono hz)
        go_wp2_with (first | (with_reducible refine hold_append ?_) | (with_reducible refine hold_make ?_) | (with_reducible refine hold_copy ?_))
        exact ⟨⟨k + 1, N1, c1, N2, c2, A1, A2, bs, ms, by omega, by go_num, rfl, rfl, Lib.hid ⟨HB2.out.1, HB2.out.2, HB.out.2.2⟩, ⟨by omega, by omega⟩, ho11, ho21, h12, hBr2⟩, by simp [intOf]; omega⟩
      · have e1 : f.put = f.bytes := by simp [Fr.put, hok]
        have e2 : f.err = 0 := by simp [Fr.err, hok]
        have hbl := f.bytes_length
        have hld : f.load.length ≤ 4084 := by unfold Fr.ok at hok; simp at hok; exact hok.2
        have HB2 := Lib.hid (show bs ++ f.bytes = frBytes (l.take (k + 1)) ∧ ms ++ [f] = frOks (l.take (k + 1)) from ⟨by rw [HB.out.1, hYb hok], by rw [HB.out.2.1, hYm hok]⟩)
        simp only [e1, e2, frV] at hp
        clear e1 e2 hYb hYm hNb hNm hok
        obtain ⟨M, hM⟩ : ∃ M, M = f.bytes.length := ⟨_, rfl⟩
        have HM := Lib.hid hM
        rw [← hM] at hp hbl
        clear hM
        have hM2 : M ≤ 4096 := by omega
        clear hbl
        go_wp2_with (first | (with_reducible refine hold_append ?_) | (with_reducible refine hold_make ?_) | (with_reducible refine hold_copy ?_))
        refine (hp wr).mono ?_
        rintro e w1 ⟨Ax, cx, rfl, hox, hB1⟩
        have ho11 := own_below ho1 hB1
        have ho21 : OwnF w1 w.heap.size A2 N2 c2 ms := own_below ho2 hB1
        have hBr2 := hBr.trans (hB1.mono hz)
        have hz1 := hBr2.size
        clear hp
        go_wp2_with (first | (with_reducible refine hold_append ?_) | (with_reducible refine hold_make ?_) | (with_reducible refine hold_copy ?_))
        refine unhold (wp_app slB rfl rfl rfl rfl ho11 hox.rd (map_one _) (by omega) (by simp [maxLen]; omega) hz1 ?_)
        intro A3 c3 w3 ho3 hg3 hb3
        have hBr3 := hBr2.grown hg3 hz1 (fun g hg => (ho11.blk_lt hg).1)
        have ho23 : OwnF w3 w.heap.size A2 N2 c2 ms := own_stays ho21 hg3 (fun g hg e => h12 g e hg)
        have h32 : ∀ g, blk A3 = some g → blk A2 ≠ some g := fun g h3 h2 => by
          rcases hb3 with h | h
          · exact h12 g (h.symm.trans h3) h2
          · rw [h3] at h; injection h with h; have := (ho21.blk_lt h2).2; omega
        obtain ⟨b', off', e', _, hkl', hc⟩ := rec_at frShape (Rd.below hr (hBr3.mono hB)) hlt
        cases e'
        rw [HLK.out] at hc
        clear k0 k1 k2 k3 k4 k5 k6 k7
        have k0 := hc 0 _ rfl
        have k1 := hc 1 _ rfl
        have k2 := hc 2 _ rfl
        have k3 := hc 3 _ rfl
        have k4 := hc 4 _ rfl
        have k5 := hc 5 _ rfl
        have k6 := hc 6 _ rfl
        have k7 := hc 7 _ rfl
        simp only [Nat.add_zero] at k0
        clear hc
        obtain ⟨b1, b2, b3, b4, ty, tr, ch, ld⟩ := f
        go_wp2_with (first | (with_reducible refine hold_append ?_) | (with_reducible refine hold_make ?_) | (with_reducible refine hold_copy ?_))
        refine unhold (wp_rec frShape slF Try.underlying34 rfl rfl rfl rfl rfl ⟨b1, b2, b3, b4, ty, tr, ch, ld⟩ rfl ho23 (by omega) (by omega) hBr3.size ?_)
        intro A4 c4 w4 ho4 hg4 hb4 hB34
        have hBr4 := hBr3.trans hB34
        have ho34 := own_stays ho3 hg4 (fun g hg e => h32 g hg e)
        have h34 : ∀ g, blk A3 = some g → blk A4 ≠ some g := fun g h3 h4 => by
          rcases hb4 with h | h
          · exact h32 g h3 (h.symm.trans h4)
          · have := h g h4; have := (ho3.blk_lt h3).2; omega
        rw [← List.map_append] at ho34
        have HLL := HL.out
        rw [← HB2.out.1, ← HB2.out.2, List.length_append, ← HM.out, HB.out.2.2.1] at HLL
        go_wp2_with (first | (with_reducible refine hold_append ?_) | (with_reducible refine hold_make ?_) | (with_reducible refine hold_copy ?_))
        exact ⟨⟨k + 1, N1 + M, c3, N2 + 1, c4, A3, A4, bs ++ Fr.bytes ⟨b1, b2, b3, b4, ty, tr, ch, ld⟩, ms ++ [⟨b1, b2, b3, b4, ty, tr, ch, ld⟩], by omega, by go_num, rfl, rfl, Lib.hid ⟨HB2.out.1, HB2.out.2, by rw [List.length_append, HB.out.2.2.1, HM.out], by simp [HB.out.2.2.2]⟩, ⟨by omega, by omega⟩, ho34, ho4, h34, hBr4⟩, by simp [intOf]; omega⟩
    · obtain rfl : k = n := by omega
      have HB3 := HB.out
      rw [← hl, List.take_length] at HB3
      have HB4 := Lib.hid HB3
      clear HB3 HB
      go_wp2_with (first | (with_reducible refine hold_append ?_) | (with_reducible refine hold_make ?_) | (with_reducible refine hold_copy ?_))
      go_ret2
      rw [← HB4.out.1, ← HB4.out.2.1, HB4.out.2.2.1, HB4.out.2.2.2]
      exact ⟨A1, c1, A2, c2, rfl, ho1, ho2, hBr⟩
end Go.PH

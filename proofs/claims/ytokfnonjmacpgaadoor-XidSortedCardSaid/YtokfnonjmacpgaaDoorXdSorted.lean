/- The walks of Sorted, and of the reference's Same. -/
import Derived.Test.YtokfnonjmacpgaaDoorXdCompact
set_option linter.all false
set_option linter.unusedSimpArgs false
set_option linter.unusedVariables false
namespace Go.PH
open Go.RowKit Go.Proofs Go.Sort

set_option maxRecDepth 20000 in
set_option maxHeartbeats 4000000 in
theorem sorted_any (A : Option Addr) (n c : Nat) (l : List Xd) (B : Nat) (w : World) (hr : RdX w B A n c l) (hB : B ≤ w.heap.size) (hwf : ∀ x ∈ l, x.wf) (hn9 : n ≤ 1000000) :
    Calls Tryd.prog 25 #[.slice A n c] w fun e w' => ∃ A2 c2, e = .returned (.slice A2 (xdSort l).length c2) ∧ OwnX w' w.heap.size A2 (xdSort l).length c2 (xdSort l) ∧ Below w.heap.size w w' := by
  have hl := rec_length xdShape hr
  have HL := Lib.hid hl
  clear hl
  obtain ⟨R, hR⟩ : ∃ R, R = xdSort l := ⟨_, rfl⟩
  rw [← hR]
  have HR := Lib.hid hR
  clear hR
  go_enter Tryd.func25, Tryd.ntmps25
  go_wp2_with (first | (with_reducible refine hold_append ?_) | (with_reducible refine hold_make ?_) | (with_reducible refine hold_copy ?_))
  go_loopw [3, 8] (fun v s wr => ∃ (k N c2 : Nat) (A2 : Option Addr), k ≤ n ∧ N ≤ k ∧ v = .slice A2 N c2 ∧ s = .int .i64 k ∧ OwnX wr w.heap.size A2 N c2 ((l.take k).filter Xd.ok) ∧ Below w.heap.size w wr) (fun _ s _ => n - (RowKit.intOf s).toNat)
  case atStart => exact ⟨0, 0, 0, none, by omega, by omega, rfl, rfl, by rw [List.take_zero]; exact Own.none_ _ _ _ _, Below.refl _ _⟩
  case round =>
    obtain ⟨k, N, c2, A2, hk, hNk, rfl, rfl, ho, hBr⟩ := hrel
    by_cases hlt : k < n
    · have hkn : (k : Int) < (n : Int) := by omega
      obtain ⟨b, off, rfl, hbB, hkl, hc⟩ := rec_at xdShape (Rd.below hr (hBr.mono hB)) hlt
      have hxw := hwf l[k] (List.getElem_mem hkl)
      have HT := Lib.hid (List.take_succ_eq_append_getElem hkl)
      have hck := fun W => check_any l[k] W hxw
      have k0 := hc 0 _ rfl
      have k1 := hc 1 _ rfl
      have k2 := hc 2 _ rfl
      simp only [Nat.add_zero] at k0 k1 k2
      clear hc hwf hxw
      have hz := hBr.size
      generalize l[k] = x at *
      have HOK : Hid (x.err = if x.ok then 0 else 40) := Lib.hid rfl
      have HF : Hid ((l.take (k + 1)).filter Xd.ok = (l.take k).filter Xd.ok ++ if x.ok then [x] else []) := Lib.hid (by
        rw [HT.out, List.filter_append]
        congr 1
        cases hx : x.ok <;> simp [hx])
      generalize x.err = er at *
      cases hx : x.ok
      · obtain rfl : er = 40 := by have := HOK.out; rw [hx] at this; simpa using this
        have HF2 := Lib.hid HF.out
        rw [hx] at HF2
        clear HF HOK HT hx
        obtain ⟨xf, xg, xh⟩ := x
        simp only [xdV] at hck k0 k1 k2
        have hB1 := hBr.alloc hz (.cells #[.int .u32 (xf : Int), .string (str xg), .string (str xh)] 24)
        have hb1 : Box (wr.alloc (.cells #[.int .u32 (xf : Int), .string (str xg), .string (str xh)] 24)) wr.heap.size 24 #[.int .u32 (xf : Int), .string (str xg), .string (str xh)] := Box.new _ _ _
        have ho1 := ho.alloc (.cells #[.int .u32 (xf : Int), .string (str xg), .string (str xh)] 24)
        have q0 := hb1.cell (j := 0) rfl
        have q1 := hb1.cell (j := 1) rfl
        have q2 := hb1.cell (j := 2) rfl
        go_wp2_with (first | (with_reducible refine hold_append ?_) | (with_reducible refine hold_make ?_) | (with_reducible refine hold_copy ?_))
        refine (hck _).mono ?_
        rintro e w2 ⟨rfl, hB2⟩
        have hB02 := hB1.trans (hB2.mono hB1.size)
        have ho2 := own_below ho1 hB2
        clear hck
        go_wp2_with (first | (with_reducible refine hold_append ?_) | (with_reducible refine hold_make ?_) | (with_reducible refine hold_copy ?_))
        exact ⟨⟨k + 1, N, c2, A2, by omega, by omega, rfl, by go_num, by rw [HF2.out]; simpa using ho2, hB02⟩, by simp [RowKit.intOf]; omega⟩
      · obtain rfl : er = 0 := by have := HOK.out; rw [hx] at this; simpa using this
        have HF2 := Lib.hid HF.out
        rw [hx] at HF2
        clear HF HOK HT hx
        obtain ⟨xf, xg, xh⟩ := x
        simp only [xdV] at hck k0 k1 k2
        have hB1 := hBr.alloc hz (.cells #[.int .u32 (xf : Int), .string (str xg), .string (str xh)] 24)
        have hb1 : Box (wr.alloc (.cells #[.int .u32 (xf : Int), .string (str xg), .string (str xh)] 24)) wr.heap.size 24 #[.int .u32 (xf : Int), .string (str xg), .string (str xh)] := Box.new _ _ _
        have ho1 := ho.alloc (.cells #[.int .u32 (xf : Int), .string (str xg), .string (str xh)] 24)
        have q0 := hb1.cell (j := 0) rfl
        have q1 := hb1.cell (j := 1) rfl
        have q2 := hb1.cell (j := 2) rfl
        go_wp2_with (first | (with_reducible refine hold_append ?_) | (with_reducible refine hold_make ?_) | (with_reducible refine hold_copy ?_))
        refine (hck _).mono ?_
        rintro e w2 ⟨rfl, hB2⟩
        have hB02 := hB1.trans (hB2.mono hB1.size)
        have ho2 := own_below ho1 hB2
        have hb2 := hb1.below hB2
        have p0 := hb2.cell (j := 0) rfl
        have p1 := hb2.cell (j := 1) rfl
        have p2 := hb2.cell (j := 2) rfl
        clear hck q0 q1 q2
        go_wp2_with (first | (with_reducible refine hold_append ?_) | (with_reducible refine hold_make ?_) | (with_reducible refine hold_copy ?_))
        refine unhold (wp_rec xdShape slX Tryd.underlying53 rfl rfl rfl rfl rfl (⟨xf, xg, xh⟩ : Xd) rfl ho2 (by omega) (by omega) hB02.size ?_)
        intro A4 c4 w4 ho4 _ _ hB4
        go_wp2_with (first | (with_reducible refine hold_append ?_) | (with_reducible refine hold_make ?_) | (with_reducible refine hold_copy ?_))
        exact ⟨⟨k + 1, N + 1, c4, A4, by omega, by omega, rfl, by go_num, by rw [HF2.out]; exact ho4, hB02.trans hB4⟩, by simp [RowKit.intOf]; omega⟩
    · obtain rfl : k = n := by omega
      have hall : l.take k = l := by rw [← HL.out, List.take_length]
      rw [hall] at ho
      have hz := hBr.size
      obtain ⟨F, hF⟩ : ∃ F : List XdW, F.map (·.1) = l.filter Xd.ok := ⟨(l.filter Xd.ok).pmap Subtype.mk (fun x hx => hwf x (List.mem_filter.1 hx).1), by rw [List.map_pmap]; simp⟩
      have hFl : F.length = N := by
        have := own_len xdShape ho
        rw [← hF] at this
        simpa using this
      rw [← hF] at ho
      have hs := sortx_any A2 N c2 F w.heap.size wr ho hz (by omega)
      have hSP : Hid ((((F.mergeSort fun x y => !(ltOf cmpW) y x).map (·.1))).Perm (l.filter Xd.ok)) := Lib.hid (by rw [← hF]; exact (List.mergeSort_perm _ _).map _)
      have hSS : Hid ((((F.mergeSort fun x y => !(ltOf cmpW) y x).map (·.1))).Pairwise (fun a b => Xd.cmp a b ≤ 0)) := Lib.hid (by
        have h1 := List.pairwise_mergeSort (le := fun x y => !(ltOf cmpW) y x) (fun a b d h1 h2 => by
          simp only [Bool.not_eq_eq_eq_not, Bool.not_true] at *
          exact swoW.ntrans _ _ _ h2 h1) (fun a b => by
          rw [Bool.or_eq_true]
          simp only [Bool.not_eq_eq_eq_not, Bool.not_true]
          by_cases h : ltOf cmpW b a = true
          · right
            rw [ltW] at *
            simp only [decide_eq_true_eq, decide_eq_false_iff_not] at *
            have := cmp_swap a.1 b.1
            omega
          · left; simpa using h) F
        refine List.Pairwise.map _ (fun a b h => ?_) h1
        simp only [Bool.not_eq_eq_eq_not, Bool.not_true] at h
        rw [ltW] at h
        simp only [decide_eq_false_iff_not] at h
        have := cmp_swap a.1 b.1
        omega)
      have hSL : Hid (((F.mergeSort fun x y => !(ltOf cmpW) y x).map (·.1)).length = N) := Lib.hid (by simp [hFl])
      generalize ((F.mergeSort fun x y => !(ltOf cmpW) y x).map (·.1)) = S at *
      have HC : Hid (compTo S N = R) := Lib.hid (by rw [HR.out, ← comp_sort hSP.out hSS.out, hSL.out])
      have hcmp := fun W h1 h2 => compactx_any A2 N c2 S w.heap.size W h1 h2 (by omega)
      rw [HC.out] at hcmp
      clear hwf hall hF hFl
      go_wp2_with (first | (with_reducible refine hold_append ?_) | (with_reducible refine hold_make ?_) | (with_reducible refine hold_copy ?_))
      refine hs.mono ?_
      rintro e w2 ⟨rfl, ho2, hg2⟩
      have hB2 : Below w.heap.size w w2 := hBr.grown hg2 hz (fun g hg => (ho.blk_lt hg).1)
      clear hs
      go_wp2_with (first | (with_reducible refine hold_append ?_) | (with_reducible refine hold_make ?_) | (with_reducible refine hold_copy ?_))
      refine (hcmp w2 ho2 hB2.size).mono ?_
      rintro e w3 ⟨rfl, ho3, hB3⟩
      go_wp2_with (first | (with_reducible refine hold_append ?_) | (with_reducible refine hold_make ?_) | (with_reducible refine hold_copy ?_))
      go_ret
      exact ⟨A2, c2, rfl, ho3, hB2.trans hB3⟩
set_option maxRecDepth 20000 in
set_option maxHeartbeats 1000000 in
theorem xsame_any (A : Option Addr) (n c : Nat) (l : List Xd) (A' : Option Addr) (n' c' : Nat) (l' : List Xd) (B : Nat) (w : World) (hr : RdX w B A n c l) (hr' : RdX w B A' n' c' l') (hB : B ≤ w.heap.size) (hn : n ≤ 140737488355328) (hn' : n' ≤ 140737488355328) :
    Calls Tryd.prog 26 #[.slice A n c, .slice A' n' c'] w fun e w' => e = .returned (.bool (decide (l = l'))) ∧ Below w.heap.size w w' := by
  have hl := rec_length xdShape hr
  have hl' := rec_length xdShape hr'
  by_cases hnn : n = n'
  · subst hnn
    have h0 : (((n : Nat) : Int) != ((n : Nat) : Int)) = false := by simp
    go_enter Tryd.func26, Tryd.ntmps26
    go_wp2_with (first | (with_reducible refine hold_append ?_) | (with_reducible refine hold_make ?_) | (with_reducible refine hold_copy ?_))
    go_loopw [5] (fun s wr => ∃ (k : Nat), k ≤ n ∧ s = .int .i64 k ∧ l.take k = l'.take k ∧ Below w.heap.size w wr) (fun s _ => n - (RowKit.intOf s).toNat)
    case atStart => exact ⟨0, by omega, rfl, by simp, Below.refl _ _⟩
    case round =>
      obtain ⟨k, hk, rfl, hrk, hBr⟩ := hrel
      by_cases hlt : k < n
      · obtain ⟨b, off, rfl, hbB, hkl, hc⟩ := rec_at xdShape (Rd.below hr (hBr.mono hB)) hlt
        obtain ⟨b', off', rfl, hbB', hkl', hc'⟩ := rec_at xdShape (Rd.below hr' (hBr.mono hB)) hlt
        have HT := Lib.hid (List.take_succ_eq_append_getElem hkl)
        have HT' := Lib.hid (List.take_succ_eq_append_getElem hkl')
        have HE : Hid (l = l' → l[k] = l'[k]) := Lib.hid (fun h => by subst h; rfl)
        have HK := Lib.hid hrk
        clear hrk
        generalize l[k] = x at *
        generalize l'[k] = x' at *
        have hneq := fun w => xid_neqC x x' w
        obtain ⟨xf, xg, xh⟩ := x
        obtain ⟨yf, yg, yh⟩ := x'
        simp only [xdV] at hneq
        have k0 := hc 0 _ rfl
        have k1 := hc 1 _ rfl
        have k2 := hc 2 _ rfl
        have j0 := hc' 0 _ rfl
        have j1 := hc' 1 _ rfl
        have j2 := hc' 2 _ rfl
        simp only [Nat.add_zero] at k0 j0
        have hkn : (k : Int) < (n : Int) := by omega
        clear hc hc'
        have hgd := fun x y => run_eqGuard_agg (P := Tryd.prog) wr .neq 24 x y #[.int .u32 (xf : Int), .string (str xg), .string (str xh)] #[.int .u32 (yf : Int), .string (str yg), .string (str yh)] xid_guard
        by_cases hxx : (⟨xf, xg, xh⟩ : Xd) = ⟨yf, yg, yh⟩
        · rw [decide_eq_true hxx] at hneq
          have hy : Hid (l.take (k + 1) = l'.take (k + 1)) := Lib.hid (by rw [HT.out, HT'.out, HK.out, hxx])
          clear hxx
          simp only [Bool.not_true] at hneq
          go_wp2_with (first | (with_reducible refine hold_append ?_) | (with_reducible refine hold_make ?_) | (with_reducible refine hold_copy ?_))
          go_quiet (fail)
          go_wp2_with (first | (with_reducible refine hold_append ?_) | (with_reducible refine hold_make ?_) | (with_reducible refine hold_copy ?_))
          exact ⟨⟨k + 1, by omega, by go_num, hy.out, below_drewN hBr _⟩, by simp [RowKit.intOf]; omega⟩
        · rw [decide_eq_false hxx] at hneq
          have hno : decide (l = l') = false := by
            have := HE.out
            simp only [decide_eq_false_iff_not]
            exact fun h => hxx (this h)
          clear hxx
          simp only [Bool.not_false] at hneq
          go_wp2_with (first | (with_reducible refine hold_append ?_) | (with_reducible refine hold_make ?_) | (with_reducible refine hold_copy ?_))
          go_quiet (fail)
          go_wp2_with (first | (with_reducible refine hold_append ?_) | (with_reducible refine hold_make ?_) | (with_reducible refine hold_copy ?_))
          go_ret
          rw [hno]
          exact ⟨rfl, below_drewN hBr _⟩
      · obtain rfl : k = n := by omega
        rw [← hl, List.take_length, hl, ← hl', List.take_length] at hrk
        subst hrk
        go_wp2_with (first | (with_reducible refine hold_append ?_) | (with_reducible refine hold_make ?_) | (with_reducible refine hold_copy ?_))
        go_ret
        exact ⟨by simp, hBr⟩
  · have h0 : (((n : Nat) : Int) != ((n' : Nat) : Int)) = true := by simp; omega
    have hne : decide (l = l') = false := by
      simp; rintro rfl; omega
    go_enter Tryd.func26, Tryd.ntmps26
    go_wp2_with (first | (with_reducible refine hold_append ?_) | (with_reducible refine hold_make ?_) | (with_reducible refine hold_copy ?_))
    go_ret
    rw [hne]
    exact ⟨rfl, Below.refl _ _⟩
end Go.PH

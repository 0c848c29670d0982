/- OctetBack: for every input of the form's own reach the law returns true and writes nothing that was there. -/
import Derived.Test.YtejpponbhblmmaaOctLawPuts
import Derived.Test.YtejpponbhblmmaaOctBackMath
import Derived.Deep.CutBlock
import Derived.Laws.BitsAllLaws
namespace Go.PH
open Go.RowKit Go.Proofs

abbrev Itm := Bool × Nat × Nat × List UInt8
def encIt (a : Itm) : List UInt8 := encI a.1 a.2.1 a.2.2.1 a.2.2.2
/-- an item, in cells -/
def RItem (a : Itm) (cs : List Value) : Prop := cs = [.bool a.1, .int .u8 (a.2.1 : Int), .int .u64 (a.2.2.1 : Int), .string (str a.2.2.2)] ∧ a.2.1 < 256 ∧ a.2.2.1 < 18446744073709551616 ∧ a.2.2.2.length ≤ 140737488351232
theorem items_at {w : World} {B : Nat} {A : Option Addr} {n c : Nat} {xs : List Value} {L : List Itm} (hr : Rd w B 4 A n c xs) (hL : L.length = n) (hR : ∀ i (h : i < L.length), RItem L[i] ((xs.drop (i * 4)).take 4)) {k : Nat} (hk : k < n) :
    ∃ b off t y v s, A = some ⟨b, off, none⟩ ∧ b < B ∧ w.cell? ⟨b, off + k * 4, none⟩ = some (.bool t) ∧ w.cell? ⟨b, off + k * 4 + 1, none⟩ = some (.int .u8 (y : Nat)) ∧ w.cell? ⟨b, off + k * 4 + 2, none⟩ = some (.int .u64 (v : Nat)) ∧ w.cell? ⟨b, off + k * 4 + 3, none⟩ = some (.string (str s)) ∧
      y < 256 ∧ v < 18446744073709551616 ∧ s.length ≤ 140737488351232 ∧ ∃ h : k < L.length, L[k] = (t, y, v, s) := by
  obtain ⟨b, off, e, hb, hc⟩ := hr.at_ (by omega)
  obtain ⟨h1, h2, h3, h4⟩ := hR k (by omega)
  have g : ∀ j (hj : j < 4) u, [Value.bool L[k].1, .int .u8 (L[k].2.1 : Int), .int .u64 (L[k].2.2.1 : Int), .string (str L[k].2.2.2)][j]? = some u → xs[k * 4 + j]? = some u := fun j hj u hu => by
    have h5 : ((xs.drop (k * 4)).take 4)[j]? = some u := by rw [h1]; exact hu
    rw [List.getElem?_take, if_pos hj, List.getElem?_drop] at h5
    exact h5
  exact ⟨b, off, L[k].1, L[k].2.1, L[k].2.2.1, L[k].2.2.2, e, hb, hc _ _ (g 0 (by omega) _ rfl), hc _ _ (g 1 (by omega) _ rfl), hc _ _ (g 2 (by omega) _ rfl), hc _ _ (g 3 (by omega) _ rfl), h2, h3, h4, by omega, rfl⟩
/-- the row of widths -/
def Wds (w : World) (wb : Nat) : Prop := w.cell? ⟨wb, 0, none⟩ = some (.int .i64 1) ∧ w.cell? ⟨wb, 1, none⟩ = some (.int .i64 2) ∧ w.cell? ⟨wb, 2, none⟩ = some (.int .i64 4) ∧ w.cell? ⟨wb, 3, none⟩ = some (.int .i64 8)
theorem Wds.kept {w w' : World} {wb : Nat} {row : Option Nat} (h : Wds w wb) (hg : w.grownBy w' row) (hne : row ≠ some wb) : Wds w' wb :=
  ⟨hg.cell h.1 (fun e => hne e.symm), hg.cell h.2.1 (fun e => hne e.symm), hg.cell h.2.2.1 (fun e => hne e.symm), hg.cell h.2.2.2 (fun e => hne e.symm)⟩
theorem Wds.at_ {w : World} {wb : Nat} (h : Wds w wb) (y : Nat) : ∃ r4 W : Nat, (y : Int) % 4 = (r4 : Int) ∧ r4 < 4 ∧ w.cell? ⟨wb, r4, none⟩ = some (.int .i64 (W : Int)) ∧ W = wdt y := by
  refine ⟨y % 4, wdt y, by omega, by omega, ?_, rfl⟩
  obtain ⟨h0, h1, h2, h3⟩ := h
  unfold wdt
  rcases (show y % 4 = 0 ∨ y % 4 = 1 ∨ y % 4 = 2 ∨ y % 4 = 3 by omega) with e | e | e | e
  all_goals (rw [e]; first | exact h0 | exact h1 | exact h2 | exact h3)
theorem encIt_take {L : List Itm} {k : Nat} (h : k < L.length) : (L.take (k + 1)).flatMap encIt = (L.take k).flatMap encIt ++ encIt L[k] := by
  rw [List.take_succ_eq_append_getElem h, List.flatMap_append]
  simp
theorem encIt_drop {L : List Itm} {k : Nat} (h : k < L.length) : (L.drop k).flatMap encIt = encIt L[k] ++ (L.drop (k + 1)).flatMap encIt := by
  conv => lhs; rw [List.drop_eq_getElem_cons h]
  rw [List.flatMap_cons]

set_option maxHeartbeats 2000000 in
set_option maxRecDepth 20000 in
theorem law_OctetBack (A : Option Addr) (n c : Nat) (xs : List Value) (L : List Itm) (w : World) (hr : Rd w w.heap.size 4 A n c xs) (hL : L.length = n) (hR : ∀ i (h : i < L.length), RItem L[i] ((xs.drop (i * 4)).take 4)) (hn : n ≤ 140737488351232) :
    Calls Try.prog 6 #[.slice A n c] w fun e w' => e = .returned (.bool true) ∧ Below w.heap.size w w' := by
  by_cases h60 : 60 < n
  · have h60' : (60 : Int) < (n : Int) := by omega
    go_enter Try.func6, Try.ntmps6
    go_wp2_with (first | (with_reducible refine hold_append ?_) | (with_reducible refine hold_make ?_) | (with_reducible refine hold_copy ?_))
    refine (head_any _).mono ?_
    rintro e w4 ⟨rfl, hB4⟩
    go_wp2_with (first | (with_reducible refine hold_append ?_) | (with_reducible refine hold_make ?_) | (with_reducible refine hold_copy ?_))
    go_ret
    exact ⟨rfl, hB4⟩
  have h60' : ¬ (60 : Int) < (n : Int) := by omega
  go_enter Try.func6, Try.ntmps6
  go_upto_block 0 with fail
  have hB1 : Below w.heap.size w (w.alloc (.cells #[.int .i64 1, .int .i64 2, .int .i64 4, .int .i64 8] 3)) := (Below.refl w.heap.size w).alloc (Nat.le_refl _) _
  have hW1 : Wds (w.alloc (.cells #[.int .i64 1, .int .i64 2, .int .i64 4, .int .i64 8] 3)) w.heap.size := by simp [Wds]
  generalize (w.alloc (.cells #[.int .i64 1, .int .i64 2, .int .i64 4, .int .i64 8] 3)) = w1 at hB1 hW1 ⊢
  go_wp2_with (first | (with_reducible refine hold_append ?_) | (with_reducible refine hold_make ?_) | (with_reducible refine hold_copy ?_))
  go_loopw [5, 4] (fun i v wr => ∃ (k c2 : Nat) (A2 : Option Addr) (l2 : List UInt8), k ≤ n ∧ i = .int .i64 k ∧ v = .slice A2 l2.length c2 ∧ l2 = (L.take k).flatMap encIt ∧ l2.length ≤ 308 * k ∧ (∀ j (h : j < L.length), j < k → L[j].2.2.2.length ≤ 300) ∧
    Own wr w.heap.size 5 1 A2 l2.length c2 (l2.map u8v) ∧ Wds wr w.heap.size ∧ Below w.heap.size w wr) (fun i _ _ => n - (intOf i).toNat)
  case atStart => exact ⟨0, 0, none, [], by omega, rfl, rfl, by simp, by simp, by intro j _ h; omega, by simpa using Own.none_ _ _ _ _, hW1, hB1⟩
  case round =>
    clear hW1 hB1
    obtain ⟨k, c2, A2, l2, hk, rfl, rfl, hl2, hlen2, hall, ho, hW, hB⟩ := hrel
    have HL := Lib.hid hl2
    have HALL := Lib.hid hall
    clear hl2 hall
    by_cases hlt : k < n
    · obtain ⟨ab, aoff, t, y, v, s, rfl, hab, hc0, hc1, hc2, hc3, hy, hv, hs, hkL, hLk⟩ := items_at (hr.below hB) hL hR hlt
      have hss := str_size s
      by_cases h300 : 300 < s.length
      · have h300' : (300 : Int) < (s.length : Int) := by omega
        go_wp2_with (first | (with_reducible refine hold_append ?_) | (with_reducible refine hold_make ?_) | (with_reducible refine hold_copy ?_))
        refine (head_any _).mono ?_
        rintro e w4 ⟨rfl, hB4⟩
        go_wp2_with (first | (with_reducible refine hold_append ?_) | (with_reducible refine hold_make ?_) | (with_reducible refine hold_copy ?_))
        go_ret
        exact ⟨rfl, hB.trans (hB4.mono hB.size)⟩
      have h300' : ¬ (300 : Int) < (s.length : Int) := by omega
      obtain ⟨r4, W, hr4, hr4l, hcw, hWy⟩ := hW.at_ y
      have hWc := wdt_cases y
      rw [← hWy] at hWc
      have HW := Lib.hid hWy
      clear hWy
      have HST : Hid (∀ l3 : List UInt8, l3 = l2 ++ encIt (t, y, v, s) → l3 = (L.take (k + 1)).flatMap encIt) := Lib.hid (fun l3 h => by rw [h, HL.out, encIt_take hkL, hLk])
      have HAL : Hid (∀ j (h : j < L.length), j < k + 1 → L[j].2.2.2.length ≤ 300) := Lib.hid (fun j h hj => by
        rcases Nat.lt_or_ge j k with h1 | h1
        · exact HALL.out j h h1
        · obtain rfl : j = k := by omega
          rw [hLk]; show s.length ≤ 300; omega)
      clear hLk
      cases t
      · have hP := put_any A2 l2.length c2 l2 v (W : Int) wr ho.rd hv (by omega)
        rw [puts_yes (wideB_yes (by omega))] at hP
        simp only [Int.toNat_natCast] at hP
        have hE := HST.out (l2 ++ be W v) (by rw [HW.out]; rfl)
        have hEl : (l2 ++ be W v).length ≤ 308 * (k + 1) := by rw [List.length_append, be_length]; omega
        generalize l2 ++ be W v = l3 at hP hE hEl
        have HE := Lib.hid hE
        clear hE HST
        go_wp2_with (first | (with_reducible refine hold_append ?_) | (with_reducible refine hold_make ?_) | (with_reducible refine hold_copy ?_))
        refine hP.mono ?_
        rintro e w3 ⟨A3, c3, rfl, ho3, hB3⟩
        go_wp2_with (first | (with_reducible refine hold_append ?_) | (with_reducible refine hold_make ?_) | (with_reducible refine hold_copy ?_))
        exact ⟨⟨k + 1, c3, A3, l3, by omega, by go_num, rfl, HE.out, hEl, HAL.out, ho3.base_le hB.size, hW.kept (grownOf hB3 none) (by simp), hB.trans (hB3.mono hB.size)⟩, by simp [intOf]; omega⟩
      · have hT := puttext_any A2 l2.length c2 l2 s (W : Int) wr ho.rd hs (by omega)
        by_cases hno : W = 8 ∨ (W = 1 ∧ 255 < s.length)
        · have hE := HST.out l2 (by show l2 = l2 ++ encI true y v s; unfold encI; rw [← HW.out, if_neg (by simp), if_pos hno, List.append_nil])
          have HE := Lib.hid hE
          clear hE HST
          rcases hno with rfl | ⟨rfl, h255⟩
          · have he : textErr s.length ((8 : Nat) : Int) = 2 := textErr_wide (.inl rfl)
            rw [he, putsText_err (by rw [he]; omega)] at hT
            go_wp2_with (first | (with_reducible refine hold_append ?_) | (with_reducible refine hold_make ?_) | (with_reducible refine hold_copy ?_))
            refine hT.mono ?_
            rintro e w3 ⟨A3, c3, rfl, ho3, hB3⟩
            have hc3' := (hB3.cell (p := ⟨ab, aoff + k * 4 + 3, none⟩) (show ab < wr.heap.size by have := hB.size; omega)).trans hc3
            go_wp2_with (first | (with_reducible refine hold_append ?_) | (with_reducible refine hold_make ?_) | (with_reducible refine hold_copy ?_))
            exact ⟨⟨k + 1, c2, A2, l2, by omega, by go_num, rfl, HE.out, by omega, HAL.out, below_own ho hB3, hW.kept (grownOf hB3 none) (by simp), hB.trans (hB3.mono hB.size)⟩, by simp [intOf]; omega⟩
          · have he : textErr s.length ((1 : Nat) : Int) = 3 := by unfold textErr; simp; omega
            have h255' : (255 : Int) < (s.length : Int) := by omega
            rw [he, putsText_err (by rw [he]; omega)] at hT
            go_wp2_with (first | (with_reducible refine hold_append ?_) | (with_reducible refine hold_make ?_) | (with_reducible refine hold_copy ?_))
            refine hT.mono ?_
            rintro e w3 ⟨A3, c3, rfl, ho3, hB3⟩
            have hc3' := (hB3.cell (p := ⟨ab, aoff + k * 4 + 3, none⟩) (show ab < wr.heap.size by have := hB.size; omega)).trans hc3
            go_wp2_with (first | (with_reducible refine hold_append ?_) | (with_reducible refine hold_make ?_) | (with_reducible refine hold_copy ?_))
            exact ⟨⟨k + 1, c2, A2, l2, by omega, by go_num, rfl, HE.out, by omega, HAL.out, below_own ho hB3, hW.kept (grownOf hB3 none) (by simp), hB.trans (hB3.mono hB.size)⟩, by simp [intOf]; omega⟩
        · have he : textErr s.length (W : Int) = 0 := by
            unfold textErr
            rcases hWc with rfl | rfl | rfl | rfl
            · simp; omega
            · simp; omega
            · simp; omega
            · omega
          rw [he, putsText_ok he] at hT
          simp only [Int.toNat_natCast] at hT
          have hE := HST.out (l2 ++ be W s.length ++ s) (by show _ = l2 ++ encI true y v s; unfold encI; rw [← HW.out, if_neg (by simp), if_neg hno, List.append_assoc])
          have hEl : (l2 ++ be W s.length ++ s).length ≤ 308 * (k + 1) := by rw [List.length_append, List.length_append, be_length]; omega
          generalize l2 ++ be W s.length ++ s = l3 at hT hE hEl
          have HE := Lib.hid hE
          clear hE HST
          have h8 : ((W : Int) == 8) = false := by simp; omega
          have h8' : W ≠ 8 := by omega
          by_cases h1 : W = 1
          · subst h1
            have h255' : ¬ (255 : Int) < (s.length : Int) := by omega
            go_wp2_with (first | (with_reducible refine hold_append ?_) | (with_reducible refine hold_make ?_) | (with_reducible refine hold_copy ?_))
            refine hT.mono ?_
            rintro e w3 ⟨A3, c3, rfl, ho3, hB3⟩
            have hc3' := (hB3.cell (p := ⟨ab, aoff + k * 4 + 3, none⟩) (show ab < wr.heap.size by have := hB.size; omega)).trans hc3
            go_wp2_with (first | (with_reducible refine hold_append ?_) | (with_reducible refine hold_make ?_) | (with_reducible refine hold_copy ?_))
            exact ⟨⟨k + 1, c3, A3, l3, by omega, by go_num, rfl, HE.out, hEl, HAL.out, ho3.base_le hB.size, hW.kept (grownOf hB3 none) (by simp), hB.trans (hB3.mono hB.size)⟩, by simp [intOf]; omega⟩
          · have h1' : ((W : Int) == 1) = false := by simp; omega
            go_wp2_with (first | (with_reducible refine hold_append ?_) | (with_reducible refine hold_make ?_) | (with_reducible refine hold_copy ?_))
            refine hT.mono ?_
            rintro e w3 ⟨A3, c3, rfl, ho3, hB3⟩
            have hc3' := (hB3.cell (p := ⟨ab, aoff + k * 4 + 3, none⟩) (show ab < wr.heap.size by have := hB.size; omega)).trans hc3
            go_wp2_with (first | (with_reducible refine hold_append ?_) | (with_reducible refine hold_make ?_) | (with_reducible refine hold_copy ?_))
            exact ⟨⟨k + 1, c3, A3, l3, by omega, by go_num, rfl, HE.out, hEl, HAL.out, ho3.base_le hB.size, hW.kept (grownOf hB3 none) (by simp), hB.trans (hB3.mono hB.size)⟩, by simp [intOf]; omega⟩
    · have hkn : k = n := by omega
      subst hkn
      have hbl : (L.drop 0).flatMap encIt = l2 := by rw [List.drop_zero, HL.out, ← hL, List.take_length]
      have hbW : w.heap.size < wr.heap.size := World.block_lt_of_cell? wr _ hW.1
      go_wp2_with (first | (with_reducible refine hold_append ?_) | (with_reducible refine hold_make ?_) | (with_reducible refine hold_copy ?_))
      refine (rdopen_any A2 l2.length c2 l2 wr ho.rd (by omega)).mono ?_
      rintro e w1 ⟨rb, b, rfl, hrb, hbb, hRd, hB1⟩
      generalize (fun g : Nat => wr.heap.size ≤ g ∧ g < w1.heap.size) = F at hRd
      rw [← hbl] at hRd
      have hW1 := hW.kept (grownOf hB1 none) (by simp)
      have hBw := hB.trans (hB1.mono hB.size)
      have hbne : b ≠ w.heap.size := by omega
      have hbw0 : w.heap.size ≤ b := by omega
      clear hbl ho hW hB hB1 hbb hrb hbW
      go_wp2_with (first | (with_reducible refine hold_append ?_) | (with_reducible refine hold_make ?_) | (with_reducible refine hold_copy ?_))
      go_loopw [10] (fun i wy => ∃ j : Nat, j ≤ k ∧ i = .int .i64 j ∧ Rdr F wy (.pointer (some ⟨rb, 0, none⟩)) (some b) ((L.drop j).flatMap encIt) false ∧ Wds wy w.heap.size ∧ Below w.heap.size w wy) (fun i _ => k - (intOf i).toNat)
      case atStart => exact ⟨0, by omega, rfl, hRd, hW1, hBw⟩
      case round =>
        clear hRd hW1 hBw
        obtain ⟨j, hj, rfl, hRd, hW, hB⟩ := hrel
        by_cases hjl : j < k
        · obtain ⟨ab, aoff, t, y, v, s, rfl, hab, hc0, hc1, hc2, hc3, hy, hv, hs, hkL, hLk⟩ := items_at (hr.below hB) hL hR hjl
          have hss := str_size s
          have hs3 : s.length ≤ 300 := by have := HALL.out j hkL hjl; rw [hLk] at this; exact this
          obtain ⟨r4, W, hr4, hr4l, hcw, hWy⟩ := hW.at_ y
          have hWc := wdt_cases y
          rw [← hWy] at hWc
          rw [encIt_drop hkL, hLk] at hRd
          obtain ⟨rest, hrest⟩ : ∃ rest, rest = (L.drop (j + 1)).flatMap encIt := ⟨_, rfl⟩
          rw [← hrest] at hRd
          have HRE := Lib.hid hrest
          have HW := Lib.hid hWy
          clear hrest hWy hLk
          have hne : (some b : Option Nat) ≠ some w.heap.size := by simpa using hbne
          cases t
          · have hE : encIt (false, y, v, s) = be W v := by rw [HW.out]; rfl
            rw [hE] at hRd
            have hN := rdnum_any hRd (W : Int) (by omega) (by omega)
            rw [mnum_app W (wideB_yes (by omega)) v rest] at hN
            simp only at hN
            clear hE HW
            by_cases hW1 : W = 1
            · subst hW1
              have hand : bits .and .u64 (v : Int) 255 = ((v % 256 : Nat) : Int) := by
                have := u64_and_nat v 255 hv (by omega)
                rwa [show v &&& 255 = v % 256 from Nat.and_two_pow_sub_one_eq_mod v 8] at this
              simp only [Nat.reducePow] at hN
              generalize v % 256 = v2 at hand hN
              go_wp2_with (first | (with_reducible refine hold_append ?_) | (with_reducible refine hold_make ?_) | (with_reducible refine hold_copy ?_))
              refine hN.mono ?_
              rintro e w3 ⟨rfl, hR3, hg3⟩
              go_wp2_with (first | (with_reducible refine hold_append ?_) | (with_reducible refine hold_make ?_) | (with_reducible refine hold_copy ?_))
              exact ⟨⟨j + 1, by omega, by go_num, by rw [← HRE.out]; exact hR3, hW.kept hg3 hne, hB.grown hg3 hB.size (by rintro g ⟨rfl⟩; exact hbw0)⟩, by simp [intOf]; omega⟩
            by_cases hW2 : W = 2
            · subst hW2
              have hand : bits .and .u64 (v : Int) 65535 = ((v % 65536 : Nat) : Int) := by
                have := u64_and_nat v 65535 hv (by omega)
                rwa [show v &&& 65535 = v % 65536 from Nat.and_two_pow_sub_one_eq_mod v 16] at this
              simp only [Nat.reducePow] at hN
              generalize v % 65536 = v2 at hand hN
              go_wp2_with (first | (with_reducible refine hold_append ?_) | (with_reducible refine hold_make ?_) | (with_reducible refine hold_copy ?_))
              refine hN.mono ?_
              rintro e w3 ⟨rfl, hR3, hg3⟩
              go_wp2_with (first | (with_reducible refine hold_append ?_) | (with_reducible refine hold_make ?_) | (with_reducible refine hold_copy ?_))
              exact ⟨⟨j + 1, by omega, by go_num, by rw [← HRE.out]; exact hR3, hW.kept hg3 hne, hB.grown hg3 hB.size (by rintro g ⟨rfl⟩; exact hbw0)⟩, by simp [intOf]; omega⟩
            by_cases hW4 : W = 4
            · subst hW4
              have hand : bits .and .u64 (v : Int) 4294967295 = ((v % 4294967296 : Nat) : Int) := by
                have := u64_and_nat v 4294967295 hv (by omega)
                rwa [show v &&& 4294967295 = v % 4294967296 from Nat.and_two_pow_sub_one_eq_mod v 32] at this
              simp only [Nat.reducePow] at hN
              generalize v % 4294967296 = v2 at hand hN
              go_wp2_with (first | (with_reducible refine hold_append ?_) | (with_reducible refine hold_make ?_) | (with_reducible refine hold_copy ?_))
              refine hN.mono ?_
              rintro e w3 ⟨rfl, hR3, hg3⟩
              go_wp2_with (first | (with_reducible refine hold_append ?_) | (with_reducible refine hold_make ?_) | (with_reducible refine hold_copy ?_))
              exact ⟨⟨j + 1, by omega, by go_num, by rw [← HRE.out]; exact hR3, hW.kept hg3 hne, hB.grown hg3 hB.size (by rintro g ⟨rfl⟩; exact hbw0)⟩, by simp [intOf]; omega⟩
            obtain rfl : W = 8 := by omega
            rw [Nat.mod_eq_of_lt (by simpa using hv)] at hN
            go_wp2_with (first | (with_reducible refine hold_append ?_) | (with_reducible refine hold_make ?_) | (with_reducible refine hold_copy ?_))
            refine hN.mono ?_
            rintro e w3 ⟨rfl, hR3, hg3⟩
            go_wp2_with (first | (with_reducible refine hold_append ?_) | (with_reducible refine hold_make ?_) | (with_reducible refine hold_copy ?_))
            exact ⟨⟨j + 1, by omega, by go_num, by rw [← HRE.out]; exact hR3, hW.kept hg3 hne, hB.grown hg3 hB.size (by rintro g ⟨rfl⟩; exact hbw0)⟩, by simp [intOf]; omega⟩
          · by_cases hno : W = 8 ∨ (W = 1 ∧ 255 < s.length)
            · have hE : encIt (true, y, v, s) = [] := by show encI true y v s = []; unfold encI; rw [← HW.out, if_neg (by simp), if_pos hno]
              rw [hE, List.nil_append] at hRd
              clear hE
              rcases hno with rfl | ⟨rfl, h255⟩
              · go_wp2_with (first | (with_reducible refine hold_append ?_) | (with_reducible refine hold_make ?_) | (with_reducible refine hold_copy ?_))
                exact ⟨⟨j + 1, by omega, by go_num, by rw [← HRE.out]; exact hRd, hW, hB⟩, by simp [intOf]; omega⟩
              · have h255' : (255 : Int) < (s.length : Int) := by omega
                go_wp2_with (first | (with_reducible refine hold_append ?_) | (with_reducible refine hold_make ?_) | (with_reducible refine hold_copy ?_))
                exact ⟨⟨j + 1, by omega, by go_num, by rw [← HRE.out]; exact hRd, hW, hB⟩, by simp [intOf]; omega⟩
            · have hE : encIt (true, y, v, s) = be W s.length ++ s := by show encI true y v s = _; unfold encI; rw [← HW.out, if_neg (by simp), if_neg hno]
              rw [hE] at hRd
              have hT := rdtext_any hRd.drew (W : Int) (s.length : Int) (by omega) (by omega) (by omega) (by omega)
              rw [mtext_app W (by omega) s rest (by rcases hWc with rfl | rfl | rfl | rfl <;> simp <;> omega)] at hT
              simp only at hT
              clear hE
              by_cases h1 : W = 1
              · subst h1
                have h255' : ¬ (255 : Int) < (s.length : Int) := by omega
                go_wp2_with (first | (with_reducible refine hold_append ?_) | (with_reducible refine hold_make ?_) | (with_reducible refine hold_copy ?_))
                have hS : wr.drew.cell? ⟨ab, aoff + j * 4 + 3, none⟩ = some (.string (str s)) := hc3
                refine rg_start (fun wx => wx.cell? ⟨ab, aoff + j * 4 + 3, none⟩ = some (.string (str s))) (by kernel_rfl) ?_
                refine rg_take 0 (v := ?_) rfl (by kernel_rfl) (by kernel_rfl) (by kernel_rfl) hS rfl ?_ ?_
                rotate_left
                · intro wS hSw; go_simp; (with_reducible rfl)
                simp only [List.getElem_toArray, List.getElem_cons_zero, Act.put, List.setIfInBounds_toArray, List.set_cons_zero, List.set_cons_succ]
                refine rg_take 1 (v := ?_) rfl (by kernel_rfl) (by kernel_rfl) (by kernel_rfl) hS rfl ?_ ?_
                rotate_left
                · intro wS hSw; go_simp; (with_reducible rfl)
                simp only [List.getElem_toArray, List.getElem_cons_succ, List.getElem_cons_zero, Act.put, List.setIfInBounds_toArray, List.set_cons_zero, List.set_cons_succ]
                refine rg_take 2 (v := ?_) rfl (by kernel_rfl) (by kernel_rfl) (by kernel_rfl) hS rfl ?_ ?_
                rotate_left
                · intro wS hSw; go_simp; (with_reducible rfl)
                simp only [List.getElem_toArray, List.getElem_cons_succ, List.getElem_cons_zero, Act.put, List.setIfInBounds_toArray, List.set_cons_zero, List.set_cons_succ]
                refine rg_take 3 (v := ?_) rfl (by kernel_rfl) (by kernel_rfl) (by kernel_rfl) hS rfl ?_ ?_
                rotate_left
                · intro wS hSw; go_simp; (with_reducible rfl)
                simp only [List.getElem_toArray, List.getElem_cons_succ, List.getElem_cons_zero, Act.put, List.setIfInBounds_toArray, List.set_cons_zero, List.set_cons_succ]
                refine rg_take 4 (v := ?_) rfl (by kernel_rfl) (by kernel_rfl) (by kernel_rfl) hS rfl ?_ ?_
                rotate_left
                · intro wS hSw; go_simp; (with_reducible rfl)
                simp only [List.getElem_toArray, List.getElem_cons_succ, List.getElem_cons_zero, Act.put, List.setIfInBounds_toArray, List.set_cons_zero, List.set_cons_succ]
                refine rg_take 5 (v := ?_) rfl (by kernel_rfl) (by kernel_rfl) (by kernel_rfl) hS rfl ?_ ?_
                rotate_left
                · intro wS hSw; go_simp; (with_reducible rfl)
                simp only [List.getElem_toArray, List.getElem_cons_succ, List.getElem_cons_zero, Act.put, List.setIfInBounds_toArray, List.set_cons_zero, List.set_cons_succ]
                refine rg_take 6 (v := ?_) rfl (by kernel_rfl) (by kernel_rfl) (by kernel_rfl) hS rfl ?_ ?_
                rotate_left
                · intro wS hSw; go_simp; (with_reducible rfl)
                simp only [List.getElem_toArray, List.getElem_cons_succ, List.getElem_cons_zero, Act.put, List.setIfInBounds_toArray, List.set_cons_zero, List.set_cons_succ]
                refine rg_take 7 (v := ?_) rfl (by kernel_rfl) (by kernel_rfl) (by kernel_rfl) hS rfl ?_ ?_
                rotate_left
                · intro wS hSw; go_simp; (with_reducible rfl)
                simp only [List.getElem_toArray, List.getElem_cons_succ, List.getElem_cons_zero, Act.put, List.setIfInBounds_toArray, List.set_cons_zero, List.set_cons_succ]
                refine rg_take 9 (v := ?_) rfl (by kernel_rfl) (by kernel_rfl) (by kernel_rfl) hS rfl ?_ ?_
                rotate_left
                · intro wS hSw; go_simp; (with_reducible rfl)
                simp only [List.getElem_toArray, List.getElem_cons_succ, List.getElem_cons_zero, Act.put, List.setIfInBounds_toArray, List.set_cons_zero, List.set_cons_succ]
                refine rg_take 10 (v := ?_) rfl (by kernel_rfl) (by kernel_rfl) (by kernel_rfl) hS rfl ?_ ?_
                rotate_left
                · intro wS hSw; go_simp; (with_reducible rfl)
                simp only [List.getElem_toArray, List.getElem_cons_succ, List.getElem_cons_zero, Act.put, List.setIfInBounds_toArray, List.set_cons_zero, List.set_cons_succ]
                refine rg_take 11 (v := ?_) rfl (by kernel_rfl) (by kernel_rfl) (by kernel_rfl) hS rfl ?_ ?_
                rotate_left
                · intro wS hSw; go_simp; (with_reducible rfl)
                simp only [List.getElem_toArray, List.getElem_cons_succ, List.getElem_cons_zero, Act.put, List.setIfInBounds_toArray, List.set_cons_zero, List.set_cons_succ]
                refine rg_take 12 (v := ?_) rfl (by kernel_rfl) (by kernel_rfl) (by kernel_rfl) hS rfl ?_ ?_
                rotate_left
                · intro wS hSw; go_simp; (with_reducible rfl)
                simp only [List.getElem_toArray, List.getElem_cons_succ, List.getElem_cons_zero, Act.put, List.setIfInBounds_toArray, List.set_cons_zero, List.set_cons_succ]
                refine rg_take 13 (v := ?_) rfl (by kernel_rfl) (by kernel_rfl) (by kernel_rfl) hS rfl ?_ ?_
                rotate_left
                · intro wS hSw; go_simp; (with_reducible rfl)
                simp only [List.getElem_toArray, List.getElem_cons_succ, List.getElem_cons_zero, Act.put, List.setIfInBounds_toArray, List.set_cons_zero, List.set_cons_succ]
                refine rg_one 8 rfl (by kernel_rfl) rfl (fun K hK => ?_)
                go_simp
                refine hT.mono ?_
                rintro e w3 ⟨rfl, hR3, hg3⟩
                have hS3 : w3.cell? ⟨ab, aoff + j * 4 + 3, none⟩ = some (.string (str s)) := hg3.cell hS (by simp; omega)
                refine hK _ _ hS3 ?_; clear hK K
                refine rg_take 14 (v := ?_) rfl (by kernel_rfl) (by kernel_rfl) (by kernel_rfl) hS3 rfl ?_ ?_
                rotate_left
                · intro wS hSw; go_simp; (with_reducible rfl)
                simp only [List.getElem_toArray, List.getElem_cons_succ, List.getElem_cons_zero, Act.put, List.setIfInBounds_toArray, List.set_cons_zero, List.set_cons_succ]
                refine rg_end (by kernel_rfl) ?_
                have hg := (grownDrew wr (some b)).trans hg3
                go_wp2_with (first | (with_reducible refine hold_append ?_) | (with_reducible refine hold_make ?_) | (with_reducible refine hold_copy ?_))
                exact ⟨⟨j + 1, by omega, by go_num, by rw [← HRE.out]; exact hR3, hW.kept hg hne, hB.grown hg hB.size (by rintro g ⟨rfl⟩; exact hbw0)⟩, by simp [intOf]; omega⟩
              · have h8 : ((W : Int) == 8) = false := by simp; omega
                have h1' : ((W : Int) == 1) = false := by simp; omega
                go_wp2_with (first | (with_reducible refine hold_append ?_) | (with_reducible refine hold_make ?_) | (with_reducible refine hold_copy ?_))
                have hS : wr.drew.cell? ⟨ab, aoff + j * 4 + 3, none⟩ = some (.string (str s)) := hc3
                refine rg_start (fun wx => wx.cell? ⟨ab, aoff + j * 4 + 3, none⟩ = some (.string (str s))) (by kernel_rfl) ?_
                refine rg_take 0 (v := ?_) rfl (by kernel_rfl) (by kernel_rfl) (by kernel_rfl) hS rfl ?_ ?_
                rotate_left
                · intro wS hSw; go_simp; (with_reducible rfl)
                simp only [List.getElem_toArray, List.getElem_cons_zero, Act.put, List.setIfInBounds_toArray, List.set_cons_zero, List.set_cons_succ]
                refine rg_take 1 (v := ?_) rfl (by kernel_rfl) (by kernel_rfl) (by kernel_rfl) hS rfl ?_ ?_
                rotate_left
                · intro wS hSw; go_simp; (with_reducible rfl)
                simp only [List.getElem_toArray, List.getElem_cons_succ, List.getElem_cons_zero, Act.put, List.setIfInBounds_toArray, List.set_cons_zero, List.set_cons_succ]
                refine rg_take 2 (v := ?_) rfl (by kernel_rfl) (by kernel_rfl) (by kernel_rfl) hS rfl ?_ ?_
                rotate_left
                · intro wS hSw; go_simp; (with_reducible rfl)
                simp only [List.getElem_toArray, List.getElem_cons_succ, List.getElem_cons_zero, Act.put, List.setIfInBounds_toArray, List.set_cons_zero, List.set_cons_succ]
                refine rg_take 3 (v := ?_) rfl (by kernel_rfl) (by kernel_rfl) (by kernel_rfl) hS rfl ?_ ?_
                rotate_left
                · intro wS hSw; go_simp; (with_reducible rfl)
                simp only [List.getElem_toArray, List.getElem_cons_succ, List.getElem_cons_zero, Act.put, List.setIfInBounds_toArray, List.set_cons_zero, List.set_cons_succ]
                refine rg_take 4 (v := ?_) rfl (by kernel_rfl) (by kernel_rfl) (by kernel_rfl) hS rfl ?_ ?_
                rotate_left
                · intro wS hSw; go_simp; (with_reducible rfl)
                simp only [List.getElem_toArray, List.getElem_cons_succ, List.getElem_cons_zero, Act.put, List.setIfInBounds_toArray, List.set_cons_zero, List.set_cons_succ]
                refine rg_take 5 (v := ?_) rfl (by kernel_rfl) (by kernel_rfl) (by kernel_rfl) hS rfl ?_ ?_
                rotate_left
                · intro wS hSw; go_simp; (with_reducible rfl)
                simp only [List.getElem_toArray, List.getElem_cons_succ, List.getElem_cons_zero, Act.put, List.setIfInBounds_toArray, List.set_cons_zero, List.set_cons_succ]
                refine rg_take 6 (v := ?_) rfl (by kernel_rfl) (by kernel_rfl) (by kernel_rfl) hS rfl ?_ ?_
                rotate_left
                · intro wS hSw; go_simp; (with_reducible rfl)
                simp only [List.getElem_toArray, List.getElem_cons_succ, List.getElem_cons_zero, Act.put, List.setIfInBounds_toArray, List.set_cons_zero, List.set_cons_succ]
                refine rg_take 7 (v := ?_) rfl (by kernel_rfl) (by kernel_rfl) (by kernel_rfl) hS rfl ?_ ?_
                rotate_left
                · intro wS hSw; go_simp; (with_reducible rfl)
                simp only [List.getElem_toArray, List.getElem_cons_succ, List.getElem_cons_zero, Act.put, List.setIfInBounds_toArray, List.set_cons_zero, List.set_cons_succ]
                refine rg_take 9 (v := ?_) rfl (by kernel_rfl) (by kernel_rfl) (by kernel_rfl) hS rfl ?_ ?_
                rotate_left
                · intro wS hSw; go_simp; (with_reducible rfl)
                simp only [List.getElem_toArray, List.getElem_cons_succ, List.getElem_cons_zero, Act.put, List.setIfInBounds_toArray, List.set_cons_zero, List.set_cons_succ]
                refine rg_take 10 (v := ?_) rfl (by kernel_rfl) (by kernel_rfl) (by kernel_rfl) hS rfl ?_ ?_
                rotate_left
                · intro wS hSw; go_simp; (with_reducible rfl)
                simp only [List.getElem_toArray, List.getElem_cons_succ, List.getElem_cons_zero, Act.put, List.setIfInBounds_toArray, List.set_cons_zero, List.set_cons_succ]
                refine rg_take 11 (v := ?_) rfl (by kernel_rfl) (by kernel_rfl) (by kernel_rfl) hS rfl ?_ ?_
                rotate_left
                · intro wS hSw; go_simp; (with_reducible rfl)
                simp only [List.getElem_toArray, List.getElem_cons_succ, List.getElem_cons_zero, Act.put, List.setIfInBounds_toArray, List.set_cons_zero, List.set_cons_succ]
                refine rg_take 12 (v := ?_) rfl (by kernel_rfl) (by kernel_rfl) (by kernel_rfl) hS rfl ?_ ?_
                rotate_left
                · intro wS hSw; go_simp; (with_reducible rfl)
                simp only [List.getElem_toArray, List.getElem_cons_succ, List.getElem_cons_zero, Act.put, List.setIfInBounds_toArray, List.set_cons_zero, List.set_cons_succ]
                refine rg_take 13 (v := ?_) rfl (by kernel_rfl) (by kernel_rfl) (by kernel_rfl) hS rfl ?_ ?_
                rotate_left
                · intro wS hSw; go_simp; (with_reducible rfl)
                simp only [List.getElem_toArray, List.getElem_cons_succ, List.getElem_cons_zero, Act.put, List.setIfInBounds_toArray, List.set_cons_zero, List.set_cons_succ]
                refine rg_one 8 rfl (by kernel_rfl) rfl (fun K hK => ?_)
                go_simp
                refine hT.mono ?_
                rintro e w3 ⟨rfl, hR3, hg3⟩
                have hS3 : w3.cell? ⟨ab, aoff + j * 4 + 3, none⟩ = some (.string (str s)) := hg3.cell hS (by simp; omega)
                refine hK _ _ hS3 ?_; clear hK K
                refine rg_take 14 (v := ?_) rfl (by kernel_rfl) (by kernel_rfl) (by kernel_rfl) hS3 rfl ?_ ?_
                rotate_left
                · intro wS hSw; go_simp; (with_reducible rfl)
                simp only [List.getElem_toArray, List.getElem_cons_succ, List.getElem_cons_zero, Act.put, List.setIfInBounds_toArray, List.set_cons_zero, List.set_cons_succ]
                refine rg_end (by kernel_rfl) ?_
                have hg := (grownDrew wr (some b)).trans hg3
                go_wp2_with (first | (with_reducible refine hold_append ?_) | (with_reducible refine hold_make ?_) | (with_reducible refine hold_copy ?_))
                exact ⟨⟨j + 1, by omega, by go_num, by rw [← HRE.out]; exact hR3, hW.kept hg hne, hB.grown hg hB.size (by rintro g ⟨rfl⟩; exact hbw0)⟩, by simp [intOf]; omega⟩
        · have hjk : ¬ (j : Int) < (k : Int) := by omega
          have hjn : j = k := by omega
          have hnil : (L.drop j).flatMap encIt = [] := by rw [hjn, List.drop_of_length_le (by omega)]; rfl
          rw [hnil] at hRd
          clear hjn hnil
          go_wp2_with (first | (with_reducible refine hold_append ?_) | (with_reducible refine hold_make ?_) | (with_reducible refine hold_copy ?_))
          refine (rdbad_any hRd).mono ?_
          rintro e w4 ⟨rfl, rfl⟩
          go_wp2_with (first | (with_reducible refine hold_append ?_) | (with_reducible refine hold_make ?_) | (with_reducible refine hold_copy ?_))
          refine (rdleft_any hRd).mono ?_
          rintro e w4 ⟨rfl, rfl⟩
          simp only [List.length_nil]
          go_wp2_with (first | (with_reducible refine hold_append ?_) | (with_reducible refine hold_make ?_) | (with_reducible refine hold_copy ?_))
          refine (head_any _).mono ?_
          rintro e w5 ⟨rfl, hB5⟩
          go_wp2_with (first | (with_reducible refine hold_append ?_) | (with_reducible refine hold_make ?_) | (with_reducible refine hold_copy ?_))
          go_ret
          exact ⟨rfl, hB.trans (hB5.mono hB.size)⟩
end Go.PH

/- The walk of unhex. -/
import Derived.Test.YtokfnonjmacpgaaDoorXdParseMath
import Derived.Lib.OthersKept
set_option linter.all false
set_option linter.unusedSimpArgs false
set_option linter.unusedVariables false
namespace Go.PH
open Go.RowKit Go.Proofs

theorem pairs_one : ∀ (l : List UInt8) (a : UInt8), l.length % 2 = 0 → pairsU (l ++ [a]) = pairsU l
  | [], a, _ => rfl
  | [_], _, h => by simp at h
  | x :: y :: r, a, h => by
    rw [List.cons_append, List.cons_append, pairsU, pairsU, pairs_one r a (by simp at h; omega)]
theorem pairs_two : ∀ (l : List UInt8) (a b : UInt8), l.length % 2 = 0 → pairsU (l ++ [a, b]) = pairsU l ++ [UInt8.ofNat (16 * valU a + valU b)]
  | [], a, b, _ => rfl
  | [_], _, _, h => by simp at h
  | x :: y :: r, a, b, h => by
    rw [List.cons_append, List.cons_append, pairsU, pairsU, pairs_two r a b (by simp at h; omega)]; rfl
/-- what stands at place p of a text that is read as signs -/
def UnSt (l : List UInt8) (p : Nat) (out : List UInt8) (hv : Int) : Prop :=
  out = pairsU (l.take p) ∧ allHex (l.take p) = true ∧ (p % 2 = 0 ∧ hv = -1 ∨ ∃ q, ∃ h : q < l.length, p = q + 1 ∧ q % 2 = 0 ∧ hv = (valU l[q] : Int))
theorem UnSt.start (l : List UInt8) : UnSt l 0 [] (-1) := ⟨rfl, rfl, .inl ⟨rfl, rfl⟩⟩
theorem allHex_snoc {l : List UInt8} {p : Nat} (hp : p < l.length) : allHex (l.take (p + 1)) = (allHex (l.take p) && isHex l[p]) := by
  unfold allHex; rw [List.take_succ_eq_append_getElem hp, List.all_append]; simp
theorem UnSt.even {l out : List UInt8} {p : Nat} (h : UnSt l p out (-1)) (hp : p < l.length) (hx : isHex l[p] = true) : UnSt l (p + 1) out (valU l[p]) := by
  obtain ⟨h1, h2, h3⟩ := h
  rcases h3 with ⟨h3, _⟩ | ⟨q, _, _, _, h3⟩
  · refine ⟨?_, by rw [allHex_snoc hp, h2, hx]; rfl, .inr ⟨p, hp, rfl, h3, rfl⟩⟩
    rw [List.take_succ_eq_append_getElem hp, pairs_one _ _ (by rw [List.length_take, Nat.min_eq_left (by omega)]; exact h3)]
    exact h1
  · omega
theorem UnSt.odd {l out : List UInt8} {p v : Nat} (h : UnSt l p out (v : Int)) (hp : p < l.length) (hx : isHex l[p] = true) : UnSt l (p + 1) (out ++ [UInt8.ofNat (16 * v + valU l[p])]) (-1) := by
  obtain ⟨h1, h2, h3⟩ := h
  rcases h3 with ⟨_, h3⟩ | ⟨q, hq, rfl, h4, h5⟩
  · omega
  · have hv : v = valU l[q] := by omega
    have hl : (l.take q).length % 2 = 0 := by rw [List.length_take, Nat.min_eq_left (by omega)]; exact h4
    refine ⟨?_, by rw [allHex_snoc hp, h2, hx]; rfl, .inl ⟨by omega, rfl⟩⟩
    rw [h1, List.take_succ_eq_append_getElem hp, List.take_succ_eq_append_getElem hq, pairs_one _ _ hl, List.append_assoc]
    show _ = pairsU (l.take q ++ [l[q], l[q + 1]])
    rw [pairs_two _ _ _ hl, hv]
theorem UnSt.fin {l out : List UInt8} {hv : Int} (h : UnSt l l.length out hv) : unhexR l = (out, decide (hv < 0)) := by
  obtain ⟨h1, h2, h3⟩ := h
  rw [List.take_length] at h1 h2
  unfold unhexR
  rw [if_pos h2, ← h1]
  congr 1
  rcases h3 with ⟨h3, rfl⟩ | ⟨q, _, h4, h5, rfl⟩
  · simp [h3]
  · have : (l.length % 2 == 0) = false := by rw [beq_eq_false_iff_ne]; omega
    rw [this, decide_eq_false (by omega)]
theorem UnSt.bad {l : List UInt8} {p : Nat} (hp : p < l.length) (hx : isHex l[p] = false) : unhexR l = ([], false) := by
  unfold unhexR
  rw [if_neg]
  unfold allHex
  intro h
  have := List.all_eq_true.1 h l[p] (List.getElem_mem hp)
  rw [hx] at this
  cases this
theorem isHex_iff (c : UInt8) : isHex c = true ↔ (48 ≤ c.toNat ∧ c.toNat ≤ 57) ∨ (97 ≤ c.toNat ∧ c.toNat ≤ 102) := by unfold isHex; simp
theorem or_nib : ∀ a b : Fin 16, bits .or .i64 ((16 * a.val : Nat) : Int) ((b.val : Nat) : Int) = ((16 * a.val + b.val : Nat) : Int) := by decide +kernel
theorem grown_iter {w : World} {g : Nat} {s : ByteArray} {pos : Nat} : w.grownBy (w.iterAt g s pos) (some g) :=
  ⟨rfl, rfl, rfl, by rw [Lib.iterAt_size]; exact Nat.le_refl _, fun k _ hk => Lib.iterAt_other w g k s pos (fun e => hk (by rw [e]))⟩
set_option maxRecDepth 20000 in
set_option maxHeartbeats 2000000 in
theorem unhex_any (l : List UInt8) (w : World) (hl : l.length ≤ 140737488351232) :
    Calls Tryd.prog 30 #[.string (str l)] w fun e w' => e = .returned (.tuple #[.string (str (unhexR l).1), .bool (unhexR l).2]) ∧ Below w.heap.size w w' := by
  obtain ⟨n, hn⟩ : ∃ n, n = l.length := ⟨_, rfl⟩
  have hss : (str l).size = n := by rw [str_size]; exact hn.symm
  rw [← hn] at hl
  have HN := Lib.hid hn
  clear hn
  go_enter Tryd.func30, Tryd.ntmps30
  go_wp2_with (first | (with_reducible refine hold_append ?_) | (with_reducible refine hold_make ?_) | (with_reducible refine hold_copy ?_))
  go_loopw [4, 5] (fun v hh wr => ∃ (p N c : Nat) (A : Option Addr) (out : List UInt8) (hv : Int), p ≤ n ∧ v = .slice A N c ∧ hh = .int .i64 hv ∧ (hv = -1 ∨ ∃ b : Nat, hv = (b : Int) ∧ b < 16) ∧ Hid (UnSt l p out hv) ∧ N ≤ p ∧ wr.heap[w.heap.size]? = some (.stringIter (str l) p) ∧ Own wr (w.heap.size + 1) 5 1 A N c (out.map u8v) ∧ Below w.heap.size w wr) (fun _ _ wr => n - wr.iterPos w.heap.size)
  case atStart => exact ⟨0, 0, 0, none, [], -1, by omega, rfl, rfl, .inl rfl, Lib.hid (UnSt.start l), by omega, (by show (w.heap.push _)[w.heap.size]? = _; simp), Own.none_ _ _ _ _, (Below.refl _ _).alloc (Nat.le_refl _) _⟩
  case round =>
    obtain ⟨p, N, c, A, out, hv, hp, rfl, rfl, hvv, HS, hNp, hit, ho, hB⟩ := hrel
    have hgz : w.heap.size < wr.heap.size := (Array.getElem?_eq_some_iff.1 hit).1
    by_cases hlt : p < n
    · have hpl : p < l.length := by rw [← HN.out]; exact hlt
      have hps : p < (str l).size := by rw [hss]; exact hlt
      have hx0 : (str l)[p]'hps = l[p] := rfl
      by_cases hhx : isHex l[p] = true
      · have hr := (isHex_iff _).1 hhx
        have hnx := fun ty => Lib.run_next_ascii_at (P := Tryd.prog) wr w.heap.size (str l) p ty hit hps (by rw [hx0]; omega)
        rw [hx0] at hnx
        have hvx : valU l[p] = if 48 ≤ l[p].toNat ∧ l[p].toNat ≤ 57 then l[p].toNat - 48 else l[p].toNat - 87 := rfl
        have hvl := valU_lt hhx
        have HE := fun (h : UnSt l p out (-1)) => UnSt.even h hpl hhx
        have HO := fun (b : Nat) (h : UnSt l p out (b : Int)) => UnSt.odd h hpl hhx
        generalize valU l[p] = v at *
        obtain ⟨x, hx⟩ : ∃ x, x = l[p].toNat := ⟨_, rfl⟩
        rw [← hx] at hnx hr hvx
        clear hx hhx hx0
        have hit2 := Lib.iterAt_heap wr w.heap.size (str l) p (p + 1) hit
        have ho2 : Own (wr.iterAt w.heap.size (str l) (p + 1)) (w.heap.size + 1) 5 1 A N c (out.map u8v) := own_stays ho grown_iter (fun g hg e => by injection e with e; have := (ho.blk_lt hg).1; omega)
        have hB2 : Below w.heap.size w (wr.iterAt w.heap.size (str l) (p + 1)) := Lib.below_iterAt hB (Nat.le_refl _) _ _
        have hz2 : w.heap.size < (wr.iterAt w.heap.size (str l) (p + 1)).heap.size := by rw [Lib.iterAt_size]; exact hgz
        generalize wr.iterAt w.heap.size (str l) (p + 1) = w2 at *
        rcases hr with ⟨r1, r2⟩ | ⟨r1, r2⟩
        · rw [if_pos ⟨r1, r2⟩] at hvx
          have d1 : (48 : Int) ≤ (x : Int) := by omega
          have d2 : (x : Int) ≤ 57 := by omega
          have w1 : IntKind.i32.wrap ((x : Int) - 48) = (v : Int) := by rw [IntWalk.i32_in _ ⟨by omega, by omega⟩]; omega
          have w3 : IntKind.i64.wrap (v : Int) = (v : Int) := IntWalk.i64_in _ ⟨by omega, by omega⟩
          have d3 : ¬ (v : Int) < 0 := by omega
          clear hvx r1 r2
          rcases hvv with rfl | ⟨b, rfl, hb⟩
          · have HS2 := Lib.hid (HE HS.out)
            clear HE HO HS
            go_wp2_with (first | (with_reducible refine hold_append ?_) | (with_reducible refine hold_make ?_) | (with_reducible refine hold_copy ?_))
            exact ⟨⟨p + 1, N, c, A, out, (v : Int), by omega, rfl, rfl, .inr ⟨v, rfl, hvl⟩, HS2, by omega, hit2, ho2, hB2⟩, by simp [World.iterPos, hit, hit2]; omega⟩
          · have HS2 := Lib.hid (HO b HS.out)
            have d6 : ¬ (b : Int) < 0 := by omega
            obtain ⟨b16, hb16⟩ : ∃ b16, b16 = 16 * b := ⟨_, rfl⟩
            have w5 : IntKind.i64.wrap ((b : Int) * 2 ^ 4) = (b16 : Int) := by rw [IntWalk.i64_in _ ⟨by omega, by omega⟩]; omega
            have w5' : IntKind.i64.wrap ((b : Int) * 16) = (b16 : Int) := by rw [IntWalk.i64_in _ ⟨by omega, by omega⟩]; omega
            have w6 := or_nib ⟨b, hb⟩ ⟨v, hvl⟩
            simp only [← hb16] at w6
            obtain ⟨y, hy⟩ : ∃ y, y = UInt8.ofNat (16 * b + v) := ⟨_, rfl⟩
            rw [← hy] at HS2
            have w7 : IntKind.u8.wrap ((b16 + v : Nat) : Int) = (y.toNat : Int) := by rw [hy, UInt8.toNat_ofNat', IntWalk.u8_in _ ⟨by omega, by omega⟩]; omega
            generalize ((b16 + v : Nat) : Int) = bv at *
            have hlit : Own (w2.alloc (.cells #[.int .u8 (y.toNat : Int)] 5)) w2.heap.size 5 1 (some ⟨w2.heap.size, 0, none⟩) 1 1 ([y].map u8v) :=
              own_lit (w := w2) w2.heap.size #[.int .u8 (y.toNat : Int)] 5 1 (Nat.le_refl _) (by simp [maxLen]) rfl (size := 1) (by omega)
            have ho3 : Own (w2.alloc (.cells #[.int .u8 (y.toNat : Int)] 5)) (w.heap.size + 1) 5 1 A N c (out.map u8v) := ho2.alloc _
            have hB3 : Below w.heap.size w (w2.alloc (.cells #[.int .u8 (y.toNat : Int)] 5)) := hB2.alloc hB2.size _
            have hit3 : (w2.alloc (.cells #[.int .u8 (y.toNat : Int)] 5)).heap[w.heap.size]? = some (.stringIter (str l) (p + 1)) := (Below.heap_alloc w2 _ w.heap.size (by omega)).trans hit2
            clear HE HO HS hb16 hy
            go_wp2_with (first | (with_reducible refine hold_append ?_) | (with_reducible refine hold_make ?_) | (with_reducible refine hold_copy ?_))
            refine unhold (wp_app slB rfl rfl rfl rfl ho3 hlit.rd (map_one _) (by omega) (by simp [maxLen]; omega) (by simp; omega) ?_)
            intro A5 c5 w5 ho5 hg5 _
            have hB5 := hB3.grown hg5 hB3.size (fun g hg => by have := (ho3.blk_lt hg).1; omega)
            have hit5 := (hg5.block w.heap.size (by simp; omega) (fun e => by have := (ho3.blk_lt e.symm).1; omega)).trans hit3
            rw [← List.map_append] at ho5
            go_wp2_with (first | (with_reducible refine hold_append ?_) | (with_reducible refine hold_make ?_) | (with_reducible refine hold_copy ?_))
            exact ⟨⟨p + 1, N + 1, c5, A5, out ++ [y], -1, by omega, by first | rfl | simp, rfl, .inl rfl, HS2, by omega, hit5, ho5, hB5⟩, by simp [World.iterPos, hit, hit5]; omega⟩
        · rw [if_neg (by omega)] at hvx
          obtain ⟨v0, hv0⟩ : ∃ v0, v0 = x - 97 := ⟨_, rfl⟩
          have d1 : (48 : Int) ≤ (x : Int) := by omega
          have d2 : decide ((x : Int) ≤ 57) = false := by simp; omega
          have d4 : (97 : Int) ≤ (x : Int) := by omega
          have d5 : (x : Int) ≤ 102 := by omega
          have w1 : IntKind.i32.wrap ((x : Int) - 97) = (v0 : Int) := by rw [IntWalk.i32_in _ ⟨by omega, by omega⟩]; omega
          have w3 : IntKind.i64.wrap (v0 : Int) = (v0 : Int) := IntWalk.i64_in _ ⟨by omega, by omega⟩
          have w4 : IntKind.i64.wrap ((v0 : Int) + 10) = (v : Int) := by rw [IntWalk.i64_in _ ⟨by omega, by omega⟩]; omega
          have d3 : ¬ (v : Int) < 0 := by omega
          clear hvx r1 r2 hv0
          rcases hvv with rfl | ⟨b, rfl, hb⟩
          · have HS2 := Lib.hid (HE HS.out)
            clear HE HO HS
            go_wp2_with (first | (with_reducible refine hold_append ?_) | (with_reducible refine hold_make ?_) | (with_reducible refine hold_copy ?_))
            exact ⟨⟨p + 1, N, c, A, out, (v : Int), by omega, rfl, rfl, .inr ⟨v, rfl, hvl⟩, HS2, by omega, hit2, ho2, hB2⟩, by simp [World.iterPos, hit, hit2]; omega⟩
          · have HS2 := Lib.hid (HO b HS.out)
            have d6 : ¬ (b : Int) < 0 := by omega
            obtain ⟨b16, hb16⟩ : ∃ b16, b16 = 16 * b := ⟨_, rfl⟩
            have w5 : IntKind.i64.wrap ((b : Int) * 2 ^ 4) = (b16 : Int) := by rw [IntWalk.i64_in _ ⟨by omega, by omega⟩]; omega
            have w5' : IntKind.i64.wrap ((b : Int) * 16) = (b16 : Int) := by rw [IntWalk.i64_in _ ⟨by omega, by omega⟩]; omega
            have w6 := or_nib ⟨b, hb⟩ ⟨v, hvl⟩
            simp only [← hb16] at w6
            obtain ⟨y, hy⟩ : ∃ y, y = UInt8.ofNat (16 * b + v) := ⟨_, rfl⟩
            rw [← hy] at HS2
            have w7 : IntKind.u8.wrap ((b16 + v : Nat) : Int) = (y.toNat : Int) := by rw [hy, UInt8.toNat_ofNat', IntWalk.u8_in _ ⟨by omega, by omega⟩]; omega
            generalize ((b16 + v : Nat) : Int) = bv at *
            have hlit : Own (w2.alloc (.cells #[.int .u8 (y.toNat : Int)] 5)) w2.heap.size 5 1 (some ⟨w2.heap.size, 0, none⟩) 1 1 ([y].map u8v) :=
              own_lit (w := w2) w2.heap.size #[.int .u8 (y.toNat : Int)] 5 1 (Nat.le_refl _) (by simp [maxLen]) rfl (size := 1) (by omega)
            have ho3 : Own (w2.alloc (.cells #[.int .u8 (y.toNat : Int)] 5)) (w.heap.size + 1) 5 1 A N c (out.map u8v) := ho2.alloc _
            have hB3 : Below w.heap.size w (w2.alloc (.cells #[.int .u8 (y.toNat : Int)] 5)) := hB2.alloc hB2.size _
            have hit3 : (w2.alloc (.cells #[.int .u8 (y.toNat : Int)] 5)).heap[w.heap.size]? = some (.stringIter (str l) (p + 1)) := (Below.heap_alloc w2 _ w.heap.size (by omega)).trans hit2
            clear HE HO HS hb16 hy
            go_wp2_with (first | (with_reducible refine hold_append ?_) | (with_reducible refine hold_make ?_) | (with_reducible refine hold_copy ?_))
            refine unhold (wp_app slB rfl rfl rfl rfl ho3 hlit.rd (map_one _) (by omega) (by simp [maxLen]; omega) (by simp; omega) ?_)
            intro A5 c5 w5 ho5 hg5 _
            have hB5 := hB3.grown hg5 hB3.size (fun g hg => by have := (ho3.blk_lt hg).1; omega)
            have hit5 := (hg5.block w.heap.size (by simp; omega) (fun e => by have := (ho3.blk_lt e.symm).1; omega)).trans hit3
            rw [← List.map_append] at ho5
            go_wp2_with (first | (with_reducible refine hold_append ?_) | (with_reducible refine hold_make ?_) | (with_reducible refine hold_copy ?_))
            exact ⟨⟨p + 1, N + 1, c5, A5, out ++ [y], -1, by omega, by first | rfl | simp, rfl, .inl rfl, HS2, by omega, hit5, ho5, hB5⟩, by simp [World.iterPos, hit, hit5]; omega⟩
      · have hbad := UnSt.bad hpl (Bool.eq_false_iff.2 hhx)
        have HF := Lib.hid hbad
        have hnh := fun h => hhx ((isHex_iff _).2 h)
        obtain ⟨x, d, hxd, hdd, hnh⟩ : ∃ x d, Utf8.decode (str l) p = (x, d) ∧ 1 ≤ d ∧ ¬ ((48 ≤ x ∧ x ≤ 57) ∨ (97 ≤ x ∧ x ≤ 102)) := by
          by_cases h128 : l[p].toNat < 128
          · exact ⟨l[p].toNat, 1, decode_ascii (str l) p hps h128, by omega, hnh⟩
          · have := decode_high (str l) p hps (by rw [hx0]; omega)
            exact ⟨(Utf8.decode (str l) p).1, (Utf8.decode (str l) p).2, rfl, this.2, by omega⟩
        have hnx := fun ty => Lib.run_next_any_at (P := Tryd.prog) wr w.heap.size (str l) p ty hit hps
        rw [hxd] at hnx
        simp only at hnx
        have hB2 : Below w.heap.size w (wr.iterAt w.heap.size (str l) (p + d)) := Lib.below_iterAt hB (Nat.le_refl _) _ _
        generalize wr.iterAt w.heap.size (str l) (p + d) = w2 at *
        clear hbad hhx hxd hdd hx0
        by_cases q1 : x < 48
        · have d1 : decide ((48 : Int) ≤ (x : Int)) = false := by simp; omega
          have d4 : decide ((97 : Int) ≤ (x : Int)) = false := by simp; omega
          clear hnh
          go_wp2_with (first | (with_reducible refine hold_append ?_) | (with_reducible refine hold_make ?_) | (with_reducible refine hold_copy ?_))
          go_ret2
          rw [HF.out]
          exact ⟨rfl, hB2⟩
        · have d1 : (48 : Int) ≤ (x : Int) := by omega
          have d2 : decide ((x : Int) ≤ 57) = false := by simp; omega
          by_cases q2 : x < 97
          · have d4 : decide ((97 : Int) ≤ (x : Int)) = false := by simp; omega
            clear hnh
            go_wp2_with (first | (with_reducible refine hold_append ?_) | (with_reducible refine hold_make ?_) | (with_reducible refine hold_copy ?_))
            go_ret2
            rw [HF.out]
            exact ⟨rfl, hB2⟩
          · have d4 : (97 : Int) ≤ (x : Int) := by omega
            have d5 : decide ((x : Int) ≤ 102) = false := by simp; omega
            clear hnh
            go_wp2_with (first | (with_reducible refine hold_append ?_) | (with_reducible refine hold_make ?_) | (with_reducible refine hold_copy ?_))
            go_ret2
            rw [HF.out]
            exact ⟨rfl, hB2⟩
    · obtain rfl : p = n := by omega
      have hfin := HS.out
      rw [HN.out] at hfin
      have HF := Lib.hid hfin.fin
      have hnx := fun ty => Lib.run_next_end_at (P := Tryd.prog) wr w.heap.size (str l) p ty hit (by rw [hss]; omega)
      have hst := run_strB (w := wr) ho.rd
      clear hfin HS
      go_wp2_with (first | (with_reducible refine hold_append ?_) | (with_reducible refine hold_make ?_) | (with_reducible refine hold_copy ?_))
      go_ret2
      rw [HF.out]
      exact ⟨rfl, hB⟩
end Go.PH

/- FramePieces: for every input of the form's own reach the law returns true and writes nothing that was there. -/
import Derived.Test.YtgjdpgihehpecaaFrHead
import Derived.Test.YtgjdpgihehpecaaFrSame
import Derived.Test.YtgjdpgihehpecaaFrScanMath3
import Derived.Test.YtgjdpgihehpecaaSee
namespace Go.PH
open Go.RowKit Go.Proofs

/-- rows of bytes -/
theorem rows_at {W w : World} {A : Option Addr} {n c : Nat} {xs : List Value} {L : List (List UInt8)} (hr : Rd w W.heap.size 1 A n c xs) (hL : L.length = n) (hR : ∀ i (h : i < L.length), RBytes W L[i] ((xs.drop (i * 1)).take 1)) {k : Nat} (hk : k < n) :
    ∃ b off A' n' c', A = some ⟨b, off, none⟩ ∧ b < W.heap.size ∧ ∃ hl : k < L.length, w.cell? ⟨b, off + k, none⟩ = some (.slice A' n' c') ∧ RdB W W.heap.size A' n' c' L[k] := by
  obtain ⟨b, off, u, rfl, hb, hx, hc⟩ := hr.at_k hk
  obtain ⟨A', n', c', h1, h2, _⟩ := hR k (by omega)
  refine ⟨b, off, A', n', c', rfl, hb, by omega, ?_, h2⟩
  have : ((xs.drop (k * 1)).take 1)[0]? = some u := by simp [hx]
  rw [h1] at this
  simp at this
  rw [hc, this]
/-- what stands between the rows and the pieces that came -/
def FrSt (L : List (List UInt8)) (k : Nat) (bs rs : List UInt8) (gs : List Fr) (bd : Nat) : Prop :=
  bs = (L.take k).flatten ∧ gs = (frScan bs).1 ∧ (frScan bs).2.2 = bd ∧ (bd = 0 → rs = bs.drop (frScan bs).2.1)
theorem FrSt.start (L : List (List UInt8)) : FrSt L 0 [] [] [] 0 := by
  have : frScan [] = ([], 0, 0) := by decide +kernel
  exact ⟨by simp, by rw [this], by rw [this], fun _ => by rw [this]; rfl⟩
theorem FrSt.flat {L : List (List UInt8)} {k : Nat} (hk : k < L.length) : (L.take (k + 1)).flatten = (L.take k).flatten ++ L[k] := by
  rw [List.take_succ_eq_append_getElem hk, List.flatten_append]; simp only [List.flatten_cons, List.flatten_nil, List.append_nil]
theorem FrSt.bad {L : List (List UInt8)} {k : Nat} {bs rs : List UInt8} {gs : List Fr} {bd : Nat} (h : FrSt L k bs rs gs bd) (hk : k < L.length) (hb : bd ≠ 0) : FrSt L (k + 1) (bs ++ L[k]) rs gs bd := by
  obtain ⟨h1, h2, h3, _⟩ := h
  have h4 := (frScan_app bs L[k]).2 (by rw [h3]; exact hb)
  exact ⟨by rw [FrSt.flat hk, h1], by rw [h4]; exact h2, by rw [h4]; exact h3, fun h => absurd h hb⟩
theorem FrSt.len {L : List (List UInt8)} {k : Nat} {bs rs : List UInt8} {gs : List Fr} {bd : Nat} (h : FrSt L k bs rs gs bd) : gs.length * 12 ≤ bs.length := by
  obtain ⟨_, h2, _, _⟩ := h
  have := frScan_le bs
  rw [h2]; omega
theorem FrSt.step {L : List (List UInt8)} {k : Nat} {bs rs : List UInt8} {gs : List Fr} (h : FrSt L k bs rs gs 0) (hk : k < L.length) : FrSt L (k + 1) (bs ++ L[k]) ((rs ++ L[k]).drop (frScan (rs ++ L[k])).2.1) (gs ++ (frScan (rs ++ L[k])).1) (frScan (rs ++ L[k])).2.2 := by
  obtain ⟨h1, h2, h3, h4⟩ := h
  have h4 := h4 rfl
  have h5 := (frScan_app bs L[k]).1 h3
  have h6 := (frScan_le bs).2
  rw [← h4] at h5
  refine ⟨by rw [FrSt.flat hk, h1], by rw [h5, h2], by rw [h5], fun _ => ?_⟩
  rw [h5]
  simp only
  rw [← List.drop_drop, List.drop_append_of_le_length h6, ← h4]

set_option maxRecDepth 20000 in
set_option maxHeartbeats 2000000 in
theorem law_FramePieces (A : Option Addr) (n c : Nat) (xs : List Value) (L : List (List UInt8)) (w : World) (hr : Rd w w.heap.size 1 A n c xs) (hL : L.length = n) (hR : ∀ i (h : i < L.length), RBytes w L[i] ((xs.drop (i * 1)).take 1)) (hn : n ≤ 140737488351232) :
    Calls Try.prog 7 #[.slice A n c] w fun e w' => e = .returned (.bool true) ∧ Below w.heap.size w w' := by
  by_cases h40 : 40 < n
  · have hd : (40 : Int) < (n : Int) := by omega
    go_enter Try.func7, Try.ntmps7
    go_wp2_with (first | (with_reducible refine hold_append ?_) | (with_reducible refine hold_make ?_) | (with_reducible refine hold_copy ?_))
    refine (head_any w).mono ?_
    rintro e w1 ⟨rfl, hB1⟩
    go_wp2_with (first | (with_reducible refine hold_append ?_) | (with_reducible refine hold_make ?_) | (with_reducible refine hold_copy ?_))
    go_ret
    exact ⟨rfl, hB1⟩
  · have hd : ¬ (40 : Int) < (n : Int) := by omega
    go_enter Try.func7, Try.ntmps7
    go_wp2_with (first | (with_reducible refine hold_append ?_) | (with_reducible refine hold_make ?_) | (with_reducible refine hold_copy ?_))
    go_loopw [7, 3, 4, 5, 6] (fun s v1 v2 v3 v4 wr => ∃ (k N1 c1 N2 c2 N3 c3 bd : Nat) (A1 A2 A3 : Option Addr) (bs rs : List UInt8) (gs : List Fr), k ≤ n ∧ s = .int .i64 k ∧ v1 = .slice A1 N1 c1 ∧ v2 = .slice A2 N2 c2 ∧ v3 = .slice A3 N3 c3 ∧ v4 = .int .i64 bd ∧ Hid (FrSt L k bs rs gs bd) ∧ (N1 ≤ 500 * k ∧ N2 ≤ 500 * k ∧ N3 ≤ 500 * k) ∧
      (Own wr w.heap.size 5 1 A1 N1 c1 (bs.map u8v) ∧ Own wr w.heap.size 5 1 A2 N2 c2 (rs.map u8v) ∧ OwnF wr w.heap.size A3 N3 c3 gs) ∧ ((∀ g, blk A1 = some g → blk A2 ≠ some g) ∧ (∀ g, blk A1 = some g → blk A3 ≠ some g) ∧ (∀ g, blk A2 = some g → blk A3 ≠ some g)) ∧ Below w.heap.size w wr) (fun s _ _ _ _ _ => n - (intOf s).toNat)
    case atStart => exact ⟨0, 0, 0, 0, 0, 0, 0, 0, none, none, none, [], [], [], by omega, rfl, rfl, rfl, rfl, rfl, Lib.hid (FrSt.start L), by omega, ⟨Own.none_ _ _ _ _, Own.none_ _ _ _ _, Own.none_ _ _ _ _⟩, ⟨(fun g h => by simp [blk] at h), (fun g h => by simp [blk] at h), (fun g h => by simp [blk] at h)⟩, Below.refl _ _⟩
    case round =>
      obtain ⟨k, N1, c1, N2, c2, N3, c3, bd, A1, A2, A3, bs, rs, gs, hk, rfl, rfl, rfl, rfl, rfl, HS, ⟨hN1, hN2, hN3⟩, ⟨ho1, ho2, ho3⟩, ⟨h12, h13, h23⟩, hB⟩ := hrel
      have hz := hB.size
      by_cases hlt : k < n
      · have hkn : (k : Int) < (n : Int) := by omega
        obtain ⟨b, off, A', n', c', rfl, hbw, hkl, hcw, hrk⟩ := rows_at hr hL hR hlt
        have hc0 := (hB.cell (p := ⟨b, off + k, none⟩) hbw).trans hcw
        have HF1 := fun h : bd ≠ 0 => FrSt.bad HS.out hkl h
        have HF2 := fun (h : FrSt L k bs rs gs 0) => FrSt.step h hkl
        generalize L[k] = p at *
        have hrk0 := Rd.below hrk hB
        by_cases h500 : 500 < n'
        · have hd5 : (500 : Int) < (n' : Int) := by omega
          clear HF1 HF2
          go_wp2_with (first | (with_reducible refine hold_append ?_) | (with_reducible refine hold_make ?_) | (with_reducible refine hold_copy ?_))
          refine (head_any wr).mono ?_
          rintro e w4 ⟨rfl, hB4⟩
          have hB5 := hB.trans (hB4.mono hz)
          go_wp2_with (first | (with_reducible refine hold_append ?_) | (with_reducible refine hold_make ?_) | (with_reducible refine hold_copy ?_))
          go_ret
          exact ⟨rfl, hB5⟩
        · have hd5 : ¬ (500 : Int) < (n' : Int) := by omega
          go_wp2_with (first | (with_reducible refine hold_append ?_) | (with_reducible refine hold_make ?_) | (with_reducible refine hold_copy ?_))
          refine unhold (wp_app slB rfl rfl rfl rfl ho1 hrk0 (map_one _) (by omega) (by simp [maxLen]; omega) hz ?_)
          intro A5 c5 w5 ho5 hg5 hb5
          have hB5 := hB.grown hg5 hz (fun g hg => (ho1.blk_lt hg).1)
          rw [← List.map_append] at ho5
          have ho25 := own_stays ho2 hg5 (fun g hg e => h12 g e hg)
          have ho35 : OwnF w5 w.heap.size A3 N3 c3 gs := own_stays ho3 hg5 (fun g hg e => h13 g e hg)
          have h52 : ∀ g, blk A5 = some g → blk A2 ≠ some g := fun g h e => by
            rcases hb5 with h5 | h5
            · exact h12 g (h5.symm.trans h) e
            · rw [h5] at h; injection h with h; have := (ho2.blk_lt e).2; omega
          have h53 : ∀ g, blk A5 = some g → blk A3 ≠ some g := fun g h e => by
            rcases hb5 with h5 | h5
            · exact h13 g (h5.symm.trans h) e
            · rw [h5] at h; injection h with h; have := (ho3.blk_lt e).2; omega
          have hc5 := (hB5.cell (p := ⟨b, off + k, none⟩) hbw).trans hcw
          have hrk5 := Rd.below hrk hB5
          have hz5 := hB5.size
          clear hc0 hrk0 ho1 ho2 ho3 hg5 hb5 hB hz
          by_cases hbd : bd = 0
          · obtain rfl := hbd
            have HF3 := Lib.hid (HF2 HS.out)
            clear HF1 HF2 HS
            go_wp2_with (first | (with_reducible refine hold_append ?_) | (with_reducible refine hold_make ?_) | (with_reducible refine hold_copy ?_))
            refine unhold (wp_app slB rfl rfl rfl rfl ho25 hrk5 (map_one _) (by omega) (by simp [maxLen]; omega) hz5 ?_)
            intro A6 c6 w6 ho6 hg6 hb6
            have hB6 := hB5.grown hg6 hz5 (fun g hg => (ho25.blk_lt hg).1)
            rw [← List.map_append] at ho6
            have ho56 := own_stays ho5 hg6 (fun g hg e => h52 g hg e)
            have ho36 : OwnF w6 w.heap.size A3 N3 c3 gs := own_stays ho35 hg6 (fun g hg e => h23 g e hg)
            have h56 : ∀ g, blk A5 = some g → blk A6 ≠ some g := fun g h e => by
              rcases hb6 with h5 | h5
              · exact h52 g h (h5.symm.trans e)
              · rw [h5] at e; injection e with e; have := (ho5.blk_lt h).2; omega
            have h63 : ∀ g, blk A6 = some g → blk A3 ≠ some g := fun g h e => by
              rcases hb6 with h5 | h5
              · exact h23 g (h5.symm.trans h) e
              · rw [h5] at h; injection h with h; have := (ho35.blk_lt e).2; omega
            have hz6 := hB6.size
            clear ho25 ho35 hg6 hb6 hB5 ho5 hc5 hrk5 h52 h12 h13 h23
            generalize rs ++ p = x at *
            have hsc := scan_any A6 (N2 + n') c6 x w6 (ho6.rd) (by omega)
            have hxl := OwnB.length ho6
            have hle := frScan_le x
            obtain ⟨⟨m, U, E⟩, hfs⟩ : ∃ fs, fs = frScan x := ⟨_, rfl⟩
            rw [← hfs] at hsc HF3 hle
            simp only at hsc HF3 hle
            clear hfs
            obtain ⟨M, hM⟩ : ∃ M, M = m.length := ⟨_, rfl⟩
            rw [← hM] at hsc hle
            clear hM
            rw [hxl] at hle
            go_wp2_with (first | (with_reducible refine hold_append ?_) | (with_reducible refine hold_make ?_) | (with_reducible refine hold_copy ?_))
            refine hsc.mono ?_
            rintro e w7 ⟨A7, c7, rfl, ho7, hB7⟩
            have hB8 := hB6.trans (hB7.mono hz6)
            have ho67 := own_below ho6 hB7
            have ho57 := own_below ho56 hB7
            have ho37 : OwnF w7 w.heap.size A3 N3 c3 gs := own_below ho36 hB7
            have hz7 := hB8.size
            clear ho6 ho56 ho36 hB6 hsc hB7 hxl
            have hU0 : ¬ ((U : Nat) : Int) < 0 := by omega
            have hU1 : ¬ (((N2 + n' : Nat)) : Int) < ((U : Nat) : Int) := by omega
            have hU1' : ¬ (((N2 : Nat) : Int) + ((n' : Nat) : Int)) < ((U : Nat) : Int) := by omega
            go_wp2_with (first | (with_reducible refine hold_append ?_) | (with_reducible refine hold_make ?_) | (with_reducible refine hold_copy ?_))
            refine unhold (wp_app slF rfl rfl rfl rfl ho37 ho7.rd (rowC_one frShape _) (by omega) (by simp [maxLen]; omega) hz7 ?_)
            intro A8 c8 w8 ho8 hg8 hb8
            have hB9 := hB8.grown hg8 hz7 (fun g hg => (ho37.blk_lt hg).1)
            rw [← rowC_app] at ho8
            have ho68 := own_stays ho67 hg8 (fun g hg e => h63 g hg e)
            have ho58 := own_stays ho57 hg8 (fun g hg e => h53 g hg e)
            have h58 : ∀ g, blk A5 = some g → blk A8 ≠ some g := fun g h e => by
              rcases hb8 with h5 | h5
              · exact h53 g h (h5.symm.trans e)
              · rw [h5] at e; injection e with e; have := (ho57.blk_lt h).2; omega
            have hz8 := hB9.size
            clear ho67 ho57 ho37 ho7 hg8 hb8 hB8 h53 h63 h56
            go_wp2_with (first | (with_reducible refine hold_append ?_) | (with_reducible refine hold_make ?_) | (with_reducible refine hold_copy ?_) | (with_reducible refine hold_slice ?_))
            refine unhold (wp_cutB slB rfl rfl rfl ho68.rd U (N2 + n') c6 (.inr ⟨_, _, rfl, rfl⟩) (.inl ⟨rfl, rfl⟩) (.inl ⟨rfl, rfl⟩) (by intro h; cases h) (by omega) (ho68.rd.cap) (Nat.le_refl _) (Nat.le_refl _) ?_)
            intro A9 hr9 _
            have hxl2 := OwnB.length ho68
            simp only [Nat.mul_one] at hr9
            rw [List.take_of_length_le (by simp [hxl2]), ← List.map_drop] at hr9
            obtain ⟨R, hR9⟩ : ∃ R, R = N2 + n' - U := ⟨_, rfl⟩
            obtain ⟨D, hD9⟩ : ∃ D, D = c6 - U := ⟨_, rfl⟩
            rw [← hR9, ← hD9] at hr9 ⊢
            have hRb : R ≤ 500 * (k + 1) := by omega
            clear hR9 hD9 hxl2
            go_wp2_with (first | (with_reducible refine hold_append ?_) | (with_reducible refine hold_make ?_) | (with_reducible refine hold_copy ?_))
            refine unhold (wp_app slB rfl rfl rfl rfl (Own.none_ w8 w.heap.size _ _) hr9 (map_one _) (by omega) (by simp [maxLen]; omega) hz8 ?_)
            intro A10 c10 w10 ho10 hg10 hb10
            have hB10 : Below w.heap.size w w10 := hB9.grown hg10 hz8 (by simp [blk])
            simp only [List.nil_append, Nat.zero_add] at ho10
            have ho5f := own_stays ho58 hg10 (by intro g _ e; simp [blk] at e)
            have ho8f : OwnF w10 w.heap.size A8 (N3 + M) c8 (gs ++ m) := own_stays ho8 hg10 (by intro g _ e; simp [blk] at e)
            have h510 : ∀ g, blk A5 = some g → blk A10 ≠ some g := fun g h e => by
              rcases hb10 with h5 | h5
              · rw [h5] at e; simp [blk] at e
              · rw [h5] at e; injection e with e; have := (ho58.blk_lt h).2; omega
            have h810 : ∀ g, blk A10 = some g → blk A8 ≠ some g := fun g h e => by
              rcases hb10 with h5 | h5
              · rw [h5] at h; simp [blk] at h
              · rw [h5] at h; injection h with h; have := (ho8.blk_lt e).2; omega
            have hglen := HF3.out.len
            rw [OwnB.length ho5f, own_len frShape ho8f] at hglen
            have HGL := Lib.hid hglen
            clear hglen
            go_wp2_with (first | (with_reducible refine hold_append ?_) | (with_reducible refine hold_make ?_) | (with_reducible refine hold_copy ?_))
            have hglen := HGL.out
            exact ⟨⟨k + 1, N1 + n', c5, R, c10, N3 + M, c8, E, A5, A10, A8, bs ++ p, x.drop U, gs ++ m, by omega, by go_num, by first | rfl | simp, by first | rfl | simp, by first | rfl | simp, rfl, HF3, ⟨by omega, by omega, by omega⟩, ⟨ho5f, by simpa using ho10, ho8f⟩, ⟨h510, h58, h810⟩, hB10⟩, by simp [intOf]; omega⟩
          · have hbd1 : (((bd : Nat) : Int) != 0) = true := by simp [hbd]
            have HF3 := Lib.hid (HF1 hbd)
            clear HF1 HF2 hbd HS
            go_wp2_with (first | (with_reducible refine hold_append ?_) | (with_reducible refine hold_make ?_) | (with_reducible refine hold_copy ?_))
            exact ⟨⟨k + 1, N1 + n', c5, N2, c2, N3, c3, bd, A5, A2, A3, bs ++ p, rs, gs, by omega, by go_num, by first | rfl | simp, rfl, rfl, rfl, HF3, ⟨by omega, by omega, by omega⟩, ⟨ho5, ho25, ho35⟩, ⟨h52, h53, h23⟩, hB5⟩, by simp [intOf]; omega⟩
      · obtain rfl : k = n := by omega
        have hsc := scan_any A1 N1 c1 bs wr (ho1.rd) (by omega)
        have hle := frScan_le bs
        obtain ⟨hs1, hs2, hs3, _⟩ := HS.out
        have hbl := OwnB.length ho1
        rw [hs3, ← hs2] at hsc
        rw [← hs2] at hle
        have hgl : gs.length = N3 := own_len frShape ho3
        rw [hgl] at hsc hle
        clear hs1 hs2 hs3 hgl HS
        obtain ⟨U, hU⟩ : ∃ U, U = (frScan bs).2.1 := ⟨_, rfl⟩
        rw [← hU] at hsc hle
        clear hU
        go_wp2_with (first | (with_reducible refine hold_append ?_) | (with_reducible refine hold_make ?_) | (with_reducible refine hold_copy ?_))
        refine hsc.mono ?_
        rintro e w4 ⟨A4, c4, rfl, ho4, hB4⟩
        have hB5 := hB.trans (hB4.mono hz)
        have ho34 : OwnF w4 w.heap.size A3 N3 c3 gs := own_below ho3 hB4
        have hsm := fsame_any A3 N3 c3 gs A4 N3 c4 gs w4.heap.size w4 ho34.rd ho4.rd (Nat.le_refl _) (by omega) (by omega)
        rw [decide_eq_true rfl] at hsm
        have hq : (((bd : Nat) : Int) == ((bd : Nat) : Int)) = true := by simp
        go_wp2_with (first | (with_reducible refine hold_append ?_) | (with_reducible refine hold_make ?_) | (with_reducible refine hold_copy ?_))
        refine hsm.mono ?_
        rintro e w6 ⟨rfl, hB6⟩
        have hB7 := hB5.trans (hB6.mono hB5.size)
        go_wp2_with (first | (with_reducible refine hold_append ?_) | (with_reducible refine hold_make ?_) | (with_reducible refine hold_copy ?_))
        refine (head_any w6).mono ?_
        rintro e w8 ⟨rfl, hB8⟩
        have hB9 := hB7.trans (hB8.mono hB7.size)
        go_wp2_with (first | (with_reducible refine hold_append ?_) | (with_reducible refine hold_make ?_) | (with_reducible refine hold_copy ?_))
        go_ret
        exact ⟨rfl, hB9⟩
end Go.PH

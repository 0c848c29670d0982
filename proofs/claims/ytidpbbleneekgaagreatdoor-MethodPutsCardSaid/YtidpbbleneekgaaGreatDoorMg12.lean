/- Texts laid together: VlSmall, VlFine, VlCopy. -/
import Derived.Test.YtidpbbleneekgaaGreatDoorMg02
import Derived.Test.YtidpbbleneekgaaGreatDoorMg10
section
/- Which values can be looked at: the walks of the document's small and Small. -/
set_option linter.all false
set_option linter.unusedSimpArgs false
set_option linter.unusedVariables false
namespace Go.PH
open Go.RowKit Go.Proofs

def keysN : List (List UInt8) → Int → Option Int
  | [], n => some n
  | k :: l, n => if n < (k.length : Int) then none else keysN l (n - (k.length : Int))
mutual
/-- how many bytes are left of so many -/
def smallV : Vl → Int → Int
  | .mk _ _ s keys l, n => if n < (s.length : Int) ∨ n < (keys.length : Int) then -1 else
    match keysN keys (n - (s.length : Int) - (keys.length : Int)) with
    | none => -1
    | some m => smallL l m
def smallL : List Vl → Int → Int
  | [], n => n
  | x :: l, n => if n < 0 then n else smallL l (smallV x n)
end
theorem smallV_eq (v : Vl) (n : Int) : smallV v n = if n < (v.s.length : Int) ∨ n < (v.keys.length : Int) then -1 else
    match keysN v.keys (n - (v.s.length : Int) - (v.keys.length : Int)) with
    | none => -1
    | some m => smallL v.list m := by cases v; rw [smallV]; rfl
theorem keysN_le : ∀ (l : List (List UInt8)) (n m : Int), keysN l n = some m → m ≤ n ∧ ((l = [] → 0 ≤ n) → 0 ≤ m)
  | [], n, m, h => by rw [keysN] at h; cases h; exact ⟨by omega, fun h => h rfl⟩
  | k :: l, n, m, h => by
    rw [keysN] at h
    split at h
    · cases h
    · obtain ⟨h1, h2⟩ := keysN_le l _ m h
      exact ⟨by omega, fun _ => h2 (fun _ => by omega)⟩
mutual
theorem smallV_b : ∀ (v : Vl) (n : Int), 0 ≤ n → smallV v n ≤ n ∧ -1 ≤ smallV v n
  | .mk k m s keys l, n, hn => by
    rw [smallV]
    split
    · exact ⟨by omega, by omega⟩
    · rename_i h
      cases hk : keysN keys (n - (s.length : Int) - (keys.length : Int)) with
      | none => exact ⟨by simp only; omega, by simp only; omega⟩
      | some q =>
        simp only
        obtain ⟨h1, h2⟩ := keysN_le keys _ q hk
        have h3 := h2 (fun e => by subst e; simp; omega)
        have h4 := smallL_b l q (by omega)
        exact ⟨by omega, h4.2⟩
theorem smallL_b : ∀ (l : List Vl) (n : Int), -1 ≤ n → smallL l n ≤ n ∧ -1 ≤ smallL l n
  | [], n, h => by rw [smallL]; exact ⟨Int.le_refl _, h⟩
  | x :: l, n, h => by
    rw [smallL]
    split
    · exact ⟨Int.le_refl _, h⟩
    · have h1 := smallV_b x n (by omega)
      have h2 := smallL_b l (smallV x n) h1.2
      exact ⟨by omega, h2.2⟩
end
theorem smallL_neg (l : List Vl) {m : Int} (h : m < 0) : smallL l m = m := by
  cases l with
  | nil => rw [smallL]
  | cons x l => rw [smallL, if_pos h]
def SmlR (w : World) (v : Vl) (m : Int) (e : Ending) (w' : World) : Prop := e = .returned (.int .i64 (smallV v m)) ∧ Below w.heap.size w w'
set_option maxRecDepth 20000 in
set_option maxHeartbeats 1000000 in
theorem rsml_any (v : Vl) : ∀ (h : VH) (m : Int) (w : World), RVw w v h → 0 ≤ m → m ≤ 1000000 → Calls Tryz.prog 61 #[.agg (vlV v h), .int .i64 m] w (SmlR w v m) := by
  refine Vl.ind (P := fun v => ∀ (h : VH) (m : Int) (w : World), RVw w v h → 0 ≤ m → m ≤ 1000000 → Calls Tryz.prog 61 #[.agg (vlV v h), .int .i64 m] w (SmlR w v m)) ?_ v
  intro v ih h m w hv hm0 hm1
  obtain ⟨K1, j1, K2, j2⟩ := h
  have hbv := hv.bounds
  obtain ⟨xb, w1, hqb, hqv, hX, hB1⟩ := alloc_stepV w #[.int .u8 (v.kind : Int), .int .u64 (v.n : Int), .string (str v.s), .slice K1 v.keys.length j1, .slice K2 v.list.length j2] 50
  have hv1 := hv.up hB1
  have hel := fun {i : Nat} (hi : i < v.list.length) => hv1.elem hi
  have hky := fun {i : Nat} (hi : i < v.keys.length) => hv1.key hi
  have hbs := hbv.2.2.1
  have hbk := hbv.2.2.2.2.1
  have hbl := hbv.2.2.2.2.2
  have HKL := Lib.hid hbv.2.2.2.1
  unfold vlV SmlR
  simp only at hel hky ⊢
  have HE := Lib.hid (smallV_eq v m)
  have hss := str_size v.s
  clear hv hbv hv1
  have c2 := hX.cell (j := 2) rfl
  have c3 := hX.cell (j := 3) rfl
  have IH := Lib.hid ih
  clear ih
  by_cases hs : m < (v.s.length : Int)
  · have HF : Hid (smallV v m = -1) := Lib.hid (by rw [HE.out, if_pos (.inl hs)])
    clear hel hky
    go_enter Tryz.func61, Tryz.ntmps61
    go_upto_region 1 with fail
    rw [← hqb, ← hqv]
    clear hqb hqv
    go_wp2_with (first | (with_reducible refine hold_append ?_) | (with_reducible refine hold_make ?_) | (with_reducible refine hold_copy ?_))
    go_ret
    rw [HF.out]
    exact ⟨rfl, hB1⟩
  by_cases hk : m < (v.keys.length : Int)
  · have HF : Hid (smallV v m = -1) := Lib.hid (by rw [HE.out, if_pos (.inr hk)])
    clear hel hky
    go_enter Tryz.func61, Tryz.ntmps61
    go_upto_region 1 with fail
    rw [← hqb, ← hqv]
    clear hqb hqv
    go_wp2_with (first | (with_reducible refine hold_append ?_) | (with_reducible refine hold_make ?_) | (with_reducible refine hold_copy ?_))
    go_ret
    rw [HF.out]
    exact ⟨rfl, hB1⟩
  have HE2 : Hid (smallV v m = match keysN v.keys (m - (v.s.length : Int) - (v.keys.length : Int)) with | none => -1 | some q => smallL v.list q) := Lib.hid (by rw [HE.out, if_neg (by omega)])
  clear HE
  go_enter Tryz.func61, Tryz.ntmps61
  go_upto_region 1 with fail
  rw [← hqb, ← hqv]
  clear hqb hqv
  go_wp2_with (first | (with_reducible refine hold_append ?_) | (with_reducible refine hold_make ?_) | (with_reducible refine hold_copy ?_))
  clear c2 c3
  go_loopw [1, 5] (fun s1 s5 wr => ∃ (i : Nat) (q : Int), i ≤ v.keys.length ∧ s5 = .int .i64 i ∧ s1 = .int .i64 q ∧ -1000000 ≤ q ∧ q ≤ 1000000 ∧ Hid (keysN (v.keys.drop i) q = keysN v.keys (m - (v.s.length : Int) - (v.keys.length : Int))) ∧ Hid (i = v.keys.length → 0 ≤ q) ∧ Box wr xb 50 #[.int .u8 (v.kind : Int), .int .u64 (v.n : Int), .string (str v.s), .slice K1 v.keys.length j1, .slice K2 v.list.length j2] ∧ Below w.heap.size w wr ∧ Below w1.heap.size w1 wr) (fun _ s5 _ => v.keys.length - (RowKit.intOf s5).toNat)
  case atStart => exact ⟨0, _, by omega, rfl, by first | rfl | go_num, by omega, by omega, Lib.hid rfl, Lib.hid (fun e => by omega), hX, hB1, Below.refl _ _⟩
  case round =>
    as_aux_lemma =>
    clear hX hB1
    obtain ⟨i, q, hi, rfl, rfl, hq0, hq1, HC, HZ, hX, hB, hB2⟩ := hrel
    have c3 := hX.cell (j := 3) rfl
    simp only [List.getElem_toArray, List.getElem_cons_succ, List.getElem_cons_zero] at c3
    by_cases hlt : i < v.keys.length
    · have g1 : (i : Int) < (v.keys.length : Int) := by omega
      obtain ⟨b, off, rfl, hC⟩ := hky hlt
      have k0 := hC wr hB2
      have HD : Hid (keysN (v.keys.drop i) q = if q < (v.keys[i].length : Int) then none else keysN (v.keys.drop (i + 1)) (q - (v.keys[i].length : Int))) := Lib.hid (by rw [List.drop_eq_getElem_cons hlt, keysN])
      have hkl := HKL.out _ (List.getElem_mem hlt)
      clear hC hky
      generalize v.keys[i] = a at *
      have has := str_size a
      by_cases hqa : q < (a.length : Int)
      · have HF : Hid (smallV v m = -1) := Lib.hid (by rw [HE2.out, ← HC.out, HD.out, if_pos hqa])
        clear hel
        go_wp2_with (first | (with_reducible refine hold_append ?_) | (with_reducible refine hold_make ?_) | (with_reducible refine hold_copy ?_))
        go_ret
        rw [HF.out]
        exact ⟨rfl, hB⟩
      · have HC2 : Hid (keysN (v.keys.drop (i + 1)) (q - (a.length : Int)) = keysN v.keys (m - (v.s.length : Int) - (v.keys.length : Int))) := Lib.hid (by rw [← HC.out, HD.out, if_neg hqa])
        clear hel
        go_wp2_with (first | (with_reducible refine hold_append ?_) | (with_reducible refine hold_make ?_) | (with_reducible refine hold_copy ?_))
        exact ⟨⟨i + 1, q - (a.length : Int), by omega, by go_num, by first | rfl | go_num, by omega, by omega, HC2, Lib.hid (fun _ => by omega), hX, hB, hB2⟩, by simp [RowKit.intOf]; omega⟩
    · have g1 : ¬ (i : Int) < (v.keys.length : Int) := by omega
      have hq00 := HZ.out (by omega)
      have HF : Hid (smallV v m = smallL v.list q) := Lib.hid (by rw [HE2.out, ← HC.out, List.drop_eq_nil_of_le (by omega), keysN])
      clear hky HC HZ HE2
      go_wp2_with (first | (with_reducible refine hold_append ?_) | (with_reducible refine hold_make ?_) | (with_reducible refine hold_copy ?_))
      clear c3
      go_loopw [1, 6] (fun s1 s6 wr => ∃ (i : Nat) (p : Int), i ≤ v.list.length ∧ s6 = .int .i64 i ∧ s1 = .int .i64 p ∧ -1 ≤ p ∧ p ≤ 1000000 ∧ Hid (smallL (v.list.drop i) p = smallL v.list q) ∧ Box wr xb 50 #[.int .u8 (v.kind : Int), .int .u64 (v.n : Int), .string (str v.s), .slice K1 v.keys.length j1, .slice K2 v.list.length j2] ∧ Below w.heap.size w wr ∧ Below w1.heap.size w1 wr) (fun _ s6 _ => v.list.length - (RowKit.intOf s6).toNat)
      case atStart => exact ⟨0, q, by omega, rfl, rfl, by omega, by omega, Lib.hid rfl, hX, hB, hB2⟩
      case round =>
        as_aux_lemma =>
        clear hX hB hB2
        obtain ⟨i, p, hi, rfl, rfl, hp0, hp1, HC, hX, hB, hB2⟩ := hrel
        have c4 := hX.cell (j := 4) rfl
        simp only [List.getElem_toArray, List.getElem_cons_succ, List.getElem_cons_zero] at c4
        by_cases hlt : i < v.list.length ∧ 0 ≤ p
        · obtain ⟨hlt, hqn⟩ := hlt
          have g1 : (i : Int) < (v.list.length : Int) := by omega
          obtain ⟨b, off, hx, rfl, hvx, HX⟩ := hel hlt
          obtain ⟨k0, k1, k2, k3, k4⟩ := HX wr hB2
          have HD : Hid (smallL (v.list.drop i) p = smallL (v.list.drop (i + 1)) (smallV v.list[i] p)) := Lib.hid (by rw [List.drop_eq_getElem_cons hlt, smallL, if_neg (by omega)])
          have h1 := IH.out _ (List.getElem_mem hlt) hx p wr (hvx.up hB2) hqn hp1
          clear HX hel hvx
          have hcl := smallV_b v.list[i] p hqn
          generalize v.list[i] = x at *
          have HC2 : Hid (smallL (v.list.drop (i + 1)) (smallV x p) = smallL v.list q) := Lib.hid (by rw [← HC.out, HD.out])
          unfold vlV SmlR at h1
          go_wp2_with (first | (with_reducible refine hold_append ?_) | (with_reducible refine hold_make ?_) | (with_reducible refine hold_copy ?_))
          refine h1.mono ?_
          rintro e w3 ⟨rfl, hB3⟩
          clear h1 k0 k1 k2 k3 k4 c4
          go_wp2_with (first | (with_reducible refine hold_append ?_) | (with_reducible refine hold_make ?_) | (with_reducible refine hold_copy ?_))
          exact ⟨⟨i + 1, smallV x p, by omega, by go_num, rfl, hcl.2, by omega, HC2, hX.below hB3, hB.trans (hB3.mono hB.size), hB2.trans (hB3.mono hB2.size)⟩, by simp [RowKit.intOf]; omega⟩
        · have HQ : Hid (p = smallL v.list q) := Lib.hid (by
            rw [← HC.out]
            by_cases h0 : p < 0
            · rw [smallL_neg _ h0]
            · rw [List.drop_eq_nil_of_le (by omega), smallL])
          clear hel
          by_cases h2 : i < v.list.length
          · have g1 : (i : Int) < (v.list.length : Int) := by omega
            have g2 : ¬ 0 ≤ p := by omega
            clear hlt
            go_wp2_with (first | (with_reducible refine hold_append ?_) | (with_reducible refine hold_make ?_) | (with_reducible refine hold_copy ?_))
            go_ret
            rw [HF.out, ← HQ.out]
            exact ⟨rfl, hB⟩
          · have g1 : ¬ (i : Int) < (v.list.length : Int) := by omega
            clear hlt
            go_wp2_with (first | (with_reducible refine hold_append ?_) | (with_reducible refine hold_make ?_) | (with_reducible refine hold_copy ?_))
            go_ret
            rw [HF.out, ← HQ.out]
            exact ⟨rfl, hB⟩
/-- can a value be looked at? -/
def smallB (v : Vl) : Bool := decide (0 ≤ cntV v 400) && !deepV 40 v && decide (0 ≤ smallV v 20000)
set_option maxRecDepth 20000 in
theorem rsmall_any (v : Vl) (h : VH) (w : World) (hv : RVw w v h) : Calls Tryz.prog 26 #[.agg (vlV v h)] w fun e w' => e = .returned (.bool (smallB v)) ∧ Below w.heap.size w w' := by
  obtain ⟨K1, j1, K2, j2⟩ := h
  obtain ⟨xb, w1, hqb, hqv, hX, hB1⟩ := alloc_stepV w #[.int .u8 (v.kind : Int), .int .u64 (v.n : Int), .string (str v.s), .slice K1 v.keys.length j1, .slice K2 v.list.length j2] 50
  have hv1 := hv.up hB1
  have hct := rleft_any v _ 400 w1 hv1 (by omega) (by omega)
  have hdp := fun (W : World) (hW : Below w1.heap.size w1 W) => rdeep_any v _ 40 W (hv1.up hW) (by omega) trivial
  have hsm := fun (W : World) (hW : Below w1.heap.size w1 W) => rsml_any v _ 20000 W (hv1.up hW) (by omega) (by omega)
  have hcg := cntV_ge v 400 (by omega) (by omega)
  have hcl := cntV_le v 400
  have hsg := smallV_b v 20000 (by omega)
  have HS : Hid (smallB v = (decide (0 ≤ cntV v 400) && !deepV 40 v && decide (0 ≤ smallV v 20000))) := Lib.hid rfl
  rw [HS.out]
  unfold vlV at hct hdp hsm ⊢
  unfold CntR at hct
  unfold DeepR' at hdp
  unfold SmlR at hsm
  generalize cntV v 400 = c at *
  generalize deepV 40 v = d at *
  generalize smallV v 20000 = s at *
  simp only at hct hdp hsm ⊢
  have c0 := hX.cell (j := 0) rfl
  have c1 := hX.cell (j := 1) rfl
  have c2 := hX.cell (j := 2) rfl
  have c3 := hX.cell (j := 3) rfl
  have c4 := hX.cell (j := 4) rfl
  go_enter Tryz.func26, Tryz.ntmps26
  go_upto_region 1 with fail
  rw [← hqb, ← hqv]
  clear hqb hqv HS
  go_wp2_with (first | (with_reducible refine hold_append ?_) | (with_reducible refine hold_make ?_) | (with_reducible refine hold_copy ?_))
  refine hct.mono ?_
  rintro e w2 ⟨rfl, hB2⟩
  have hX2 := hX.below hB2
  have hBB := hB1.trans (hB2.mono hB1.size)
  clear hct c0 c1 c2 c3 c4
  by_cases hc : c < 0
  · have hd : decide (0 ≤ c) = false := by simp; omega
    go_wp2_with (first | (with_reducible refine hold_append ?_) | (with_reducible refine hold_make ?_) | (with_reducible refine hold_copy ?_))
    go_ret
    rw [hd]
    exact ⟨rfl, hBB⟩
  · have hd : decide (0 ≤ c) = true := by simp; omega
    have HD := Lib.hid hd
    clear hd
    have c0 := hX2.cell (j := 0) rfl
    have c1 := hX2.cell (j := 1) rfl
    have c2 := hX2.cell (j := 2) rfl
    have c3 := hX2.cell (j := 3) rfl
    have c4 := hX2.cell (j := 4) rfl
    have h2 := hdp w2 hB2
    go_wp2_with (first | (with_reducible refine hold_append ?_) | (with_reducible refine hold_make ?_) | (with_reducible refine hold_copy ?_))
    refine h2.mono ?_
    rintro e w3 ⟨rfl, hB3⟩
    have hX3 := hX2.below hB3
    have hBB3 := hBB.trans (hB3.mono hBB.size)
    clear h2 c0 c1 c2 c3 c4
    have h3 := hsm w3 (hB2.trans (hB3.mono hB2.size))
    cases d
    · have c0 := hX3.cell (j := 0) rfl
      have c1 := hX3.cell (j := 1) rfl
      have c2 := hX3.cell (j := 2) rfl
      have c3 := hX3.cell (j := 3) rfl
      have c4 := hX3.cell (j := 4) rfl
      go_wp2_with (first | (with_reducible refine hold_append ?_) | (with_reducible refine hold_make ?_) | (with_reducible refine hold_copy ?_))
      refine h3.mono ?_
      rintro e w4 ⟨rfl, hB4⟩
      clear c0 c1 c2 c3 c4 h3
      go_wp2_with (first | (with_reducible refine hold_append ?_) | (with_reducible refine hold_make ?_) | (with_reducible refine hold_copy ?_))
      go_ret
      rw [HD.out]
      exact ⟨by simp, hBB3.trans (hB4.mono hBB3.size)⟩
    · go_wp2_with (first | (with_reducible refine hold_append ?_) | (with_reducible refine hold_make ?_) | (with_reducible refine hold_copy ?_))
      go_ret
      rw [HD.out]
      exact ⟨by simp, hBB3⟩
end Go.PH
end
section
/- Values that are no greater than may be looked at. No program in sight. -/
set_option linter.all false
set_option linter.unusedSimpArgs false
set_option linter.unusedVariables false
namespace Go.PH

/-- no row in it is great -/
inductive FineV : Vl → Prop
  | mk {v : Vl} (hl : v.list.length ≤ 1000000) (hk : v.keys.length ≤ 1000000) (h : ∀ x ∈ v.list, FineV x) : FineV v
theorem cntL_len : ∀ (l : List Vl) (m : Int), 0 ≤ cntL l m → (l.length : Int) ≤ m
  | [], m, h => by rw [cntL] at h; simpa using h
  | x :: l, m, h => by
    rw [cntL] at h
    split at h
    · omega
    · have h1 := cntL_len l _ h
      have h2 := cntV_le x m
      simp only [List.length_cons]
      omega
theorem fine_list (l : List Vl) (ih : ∀ x ∈ l, ∀ (m n : Int), m ≤ 1000000 → 0 ≤ n → n ≤ 1000000 → 0 ≤ cntV x m → 0 ≤ smallV x n → FineV x) : ∀ (m n : Int), m ≤ 1000000 → n ≤ 1000000 → 0 ≤ cntL l m → 0 ≤ smallL l n → ∀ x ∈ l, FineV x := by
  induction l with
  | nil => intro m n _ _ _ _ x hx; cases hx
  | cons y l ihl =>
    intro m n hm hn hc hs x hx
    rw [cntL] at hc
    rw [smallL] at hs
    split at hc
    · omega
    · split at hs
      · omega
      · have h1 : 0 ≤ cntV y m := by
          refine Classical.byContradiction fun h => ?_
          rw [cntL_neg _ (by omega)] at hc; omega
        have h2 : 0 ≤ smallV y n := by
          refine Classical.byContradiction fun h => ?_
          rw [smallL_neg _ (by omega)] at hs; omega
        rcases List.mem_cons.1 hx with rfl | hx
        · exact ih _ (List.mem_cons_self ..) m n hm (by omega) hn h1 h2
        · have h3 := cntV_le y m
          have h4 := (smallV_b y n (by omega)).1
          exact ihl (fun x hx => ih x (List.mem_cons_of_mem _ hx)) _ _ (by omega) (by omega) hc hs x hx
theorem fine_of (v : Vl) : ∀ (m n : Int), m ≤ 1000000 → 0 ≤ n → n ≤ 1000000 → 0 ≤ cntV v m → 0 ≤ smallV v n → FineV v := by
  refine Vl.ind (P := fun v => ∀ (m n : Int), m ≤ 1000000 → 0 ≤ n → n ≤ 1000000 → 0 ≤ cntV v m → 0 ≤ smallV v n → FineV v) ?_ v
  intro v ih m n hm hn0 hn hc hs
  rw [cntV_eq] at hc
  rw [smallV_eq] at hs
  split at hs
  · omega
  · rename_i h
    cases hk : keysN v.keys (n - (v.s.length : Int) - (v.keys.length : Int)) with
    | none => rw [hk] at hs; simp at hs
    | some q =>
      rw [hk] at hs
      simp only at hs
      have h1 := (keysN_le v.keys _ q hk).1
      have h2 := cntL_len v.list _ hc
      exact ⟨by omega, by omega, fine_list v.list ih _ q (by omega) (by omega) hc hs⟩
theorem small_fine {v : Vl} (h : smallB v = true) : FineV v := by
  unfold smallB at h
  simp only [Bool.and_eq_true, decide_eq_true_eq] at h
  exact fine_of v 400 20000 (by omega) (by omega) (by omega) h.1.1 h.2
end Go.PH
end
section
/- A value in memory of its own: the walk of the document's Copy. -/
set_option linter.all false
set_option linter.unusedSimpArgs false
set_option linter.unusedVariables false
namespace Go.PH
open Go.RowKit Go.Proofs

theorem slTx : SlT Tryz.prog 47 9 1 16 (.string ⟨#[]⟩) := SlT.mk' Tryz.underlying47 (by kernel_rfl) rfl (by omega)
theorem slVl : SlT Tryz.prog 48 50 5 80 (.agg #[.int .u8 0, .int .u64 0, .string ⟨#[]⟩, .slice none 0 0, .slice none 0 0]) := SlT.mk' Tryz.underlying48 (by kernel_rfl) rfl (by omega)
theorem txs_one (l : List (List UInt8)) : ∀ u ∈ l.map txV, u.oneCell' = true := by
  intro u hu
  obtain ⟨s, _, rfl⟩ := List.mem_map.1 hu
  rfl
/-- blocks from base on, but those of a row -/
def FB (base : Nat) (A : Option Addr) (w : World) : Nat → Prop := fun g => base ≤ g ∧ g < w.heap.size ∧ blk A ≠ some g
/-- fresh blocks -/
def FN (base : Nat) (w : World) : Nat → Prop := fun g => base ≤ g ∧ g < w.heap.size
/-- what a round has made: the parts so far, the keys -/
structure CpS (wr : World) (base : Nat) (K : List (List UInt8)) (AK : Option Addr) (cK : Nat) (A : Option Addr) (c : Nat) (xs : List (Vl × VH)) : Prop where
  own : Own wr base 50 5 A xs.length c (rowC vlC xs)
  el : ∀ p ∈ xs, RV wr (FB base A wr) p.1 p.2
  ky : RdX wr (FB base A wr) 1 AK K.length cK (K.map txV)
theorem CpS.on {wr wr' : World} {base : Nat} {K : List (List UInt8)} {AK : Option Addr} {cK : Nat} {A : Option Addr} {c : Nat} {xs : List (Vl × VH)} (h : CpS wr base K AK cK A c xs) (hk : ∀ g, base ≤ g → g < wr.heap.size → wr'.heap[g]? = wr.heap[g]?) (hs : wr.heap.size ≤ wr'.heap.size) : CpS wr' base K AK cK A c xs := by
  have hF : ∀ g, FB base A wr g → FB base A wr' g := fun g hg => ⟨hg.1, Nat.lt_of_lt_of_le hg.2.1 hs, hg.2.2⟩
  refine ⟨?_, fun p hp => ((h.el p hp).keep (fun g hg => hk g hg.1 hg.2.1) hs).mono hF, (h.ky.keep (fun g hg => hk g hg.1 hg.2.1) hs).mono hF⟩
  have ho := h.own
  unfold Own World.ownsRow at ho ⊢
  obtain ⟨hl, h1⟩ := ho
  refine ⟨hl, h1.imp id ?_⟩
  rintro ⟨g, cap, cur, hv, hb, hh, hr⟩
  exact ⟨g, cap, cur, hv, hb, (hk g hb (Array.getElem?_eq_some_iff.1 hh).1).trans hh, hr⟩
theorem CpS.below {wr wr' : World} {base : Nat} {K : List (List UInt8)} {AK : Option Addr} {cK : Nat} {A : Option Addr} {c : Nat} {xs : List (Vl × VH)} (h : CpS wr base K AK cK A c xs) (hB : Below wr.heap.size wr wr') : CpS wr' base K AK cK A c xs := h.on (fun g _ hg => hB.block g hg) hB.size
theorem CpS.box {wr wr' : World} {base b : Nat} {K : List (List UInt8)} {AK : Option Addr} {cK : Nat} {A : Option Addr} {c : Nat} {xs : List (Vl × VH)} (h : CpS wr base K AK cK A c xs) (hg : wr.grownBy wr' (some b)) (hb : b < base) : CpS wr' base K AK cK A c xs :=
  h.on (fun g hg1 hg2 => hg.block g hg2 (fun e => by injection e with e; omega)) hg.size
/-- one more part -/
theorem CpS.push {wr w5 w6 : World} {base : Nat} {K : List (List UInt8)} {AK : Option Addr} {cK : Nat} {A A2 : Option Addr} {c c2 : Nat} {xs : List (Vl × VH)} {x : Vl} {hx : VH} (h : CpS wr base K AK cK A c xs) (hbs : base ≤ wr.heap.size) (hB : Below wr.heap.size wr w5) (hv : RV w5 (FN wr.heap.size w5) x hx)
    (ho : Own w6 base 50 5 A2 (xs.length + 1) c2 (rowC vlC (xs ++ [(x, hx)]))) (hg : w5.grownBy w6 (blk A)) (hA : blk A2 = blk A ∨ ∀ g, blk A2 = some g → w5.heap.size ≤ g) : CpS w6 base K AK cK A2 c2 (xs ++ [(x, hx)]) := by
  have h5 := h.below hB
  have hAl : ∀ g, blk A = some g → g < wr.heap.size := fun g hg => (h.own.blk_lt hg).2
  have hF : ∀ g, FB base A w5 g → FB base A2 w6 g := fun g hg1 => ⟨hg1.1, Nat.lt_of_lt_of_le hg1.2.1 hg.size, by
    rcases hA with e | e
    · rw [e]; exact hg1.2.2
    · intro e2; have := e g e2; have := hg1.2.1; omega⟩
  have hk : ∀ g, FB base A w5 g → w6.heap[g]? = w5.heap[g]? := fun g hg1 => hg.block g hg1.2.1 (fun e => hg1.2.2 e.symm)
  refine ⟨by rw [List.length_append]; exact ho, fun p hp => ?_, (h5.ky.keep hk hg.size).mono hF⟩
  rcases List.mem_append.1 hp with hp | hp
  · exact ((h5.el p hp).keep hk hg.size).mono hF
  · obtain rfl := List.mem_singleton.1 hp
    have hFN : ∀ g, FN wr.heap.size w5 g → FB base A w5 g := fun g hg1 => ⟨Nat.le_trans hbs hg1.1, hg1.2, fun e => by have := hAl g e; have := hg1.1; omega⟩
    exact (((hv.mono hFN).keep hk hg.size).mono hF)
def CopyR (w : World) (v : Vl) (e : Ending) (w' : World) : Prop := ∃ h', e = .returned (.agg (vlV v h')) ∧ RV w' (FN w.heap.size w') v h' ∧ Below w.heap.size w w'
set_option maxRecDepth 20000 in
set_option maxHeartbeats 4000000 in
theorem rcopy_any (v : Vl) : ∀ (h : VH) (w : World), FineV v → RVw w v h → Calls Tryz.prog 30 #[.agg (vlV v h)] w (CopyR w v) := by
  refine Vl.ind (P := fun v => ∀ (h : VH) (w : World), FineV v → RVw w v h → Calls Tryz.prog 30 #[.agg (vlV v h)] w (CopyR w v)) ?_ v
  intro v ih h w hf hv
  obtain ⟨K1, j1, K2, j2⟩ := h
  obtain ⟨hfl, hfk, hfe⟩ := hf
  have hbv := hv.bounds
  unfold vlV
  simp only
  obtain ⟨xb, w1, hxb, hxv, hX, hB1⟩ := alloc_stepV w #[.int .u8 (v.kind : Int), .int .u64 (v.n : Int), .string (str v.s), .slice K1 v.keys.length j1, .slice K2 v.list.length j2] 50
  obtain ⟨rb, w2, hrb, hrv, hR, hB2⟩ := alloc_stepV w1 #[.int .u8 0, .int .u64 0, .string ⟨#[]⟩, .slice none 0 0, .slice none 0 0] 50
  obtain ⟨ob, w3, hob, hov, hO, hB3⟩ := alloc_stepV w2 #[.int .u8 (v.kind : Int), .int .u64 (v.n : Int), .string (str v.s), .slice none 0 0, .slice none 0 0] 50
  have e1 : xb + 1 = rb := by rw [hrb, hxv, hxb]; simp
  have e2 : xb + 2 = ob := by rw [hob, hrv, hxv, hxb]; simp
  have e2' : rb + 1 = ob := by omega
  have e4 : w1.heap.size = xb + 1 := by rw [hxv, hxb]; simp
  have e5 : xb = w.heap.size := hxb
  have e3 : w3.heap.size = ob + 1 := by rw [hov, hob]; simp
  have hB13 := hB2.trans (hB3.mono hB2.size)
  have hB03 := hB1.trans (hB13.mono hB1.size)
  have hv1 := hv.up hB1
  have hel := fun {i : Nat} (hi : i < v.list.length) => hv1.elem hi
  have hX2 := hX.below hB2
  have hX3 := hX.below hB13
  have hR3 := hR.below hB3
  obtain ⟨xs, _, _, _, hvk⟩ := (hv.up hB03).parts
  simp only at hel hvk
  have c0 := hX2.cell (j := 0) rfl
  have c1 := hX2.cell (j := 1) rfl
  have c2 := hX2.cell (j := 2) rfl
  have c3 := hX3.cell (j := 3) rfl
  have o3 := hO.cell (j := 3) rfl
  have IH := Lib.hid (fun x (hx : x ∈ v.list) => ih x hx)
  have HFE := Lib.hid hfe
  have HBV := Lib.hid hbv
  clear ih hv hv1 hB1 hB2 hB3 hX hR hX2 hfe hbv
  go_enter Tryz.func30, Tryz.ntmps30
  go_upto_region 2 with fail
  rw [← hxv, ← hrv, ← hov, ← hxb, e1, e2']
  clear hxb hxv hrb hrv hob hov c0 c1 c2
  have HE5 := Lib.hid e5
  have he4 : w1.heap.size ≤ ob := by omega
  have he5 : w.heap.size + 2 = ob := by omega
  have he6 : xb + 2 = ob := e2
  have he7 : rb + 1 = ob := e2'
  clear e1 e2 e2' e5
  go_wp2_with (first | (with_reducible refine hold_append ?_) | (with_reducible refine hold_make ?_) | (with_reducible refine hold_copy ?_) | (with_reducible refine hold_store ?_))
  refine unhold (wp_app (base := ob + 1) slTx rfl rfl rfl rfl (Own.none_ _ _ _ _) hvk.1 (txs_one _) (by omega) (by simp [maxLen]; omega) (by omega) ?_)
  intro AK cK w4 hoK hgK _
  simp only [Nat.zero_add, List.nil_append] at hoK ⊢
  have hz4 := hgK.size
  have hB4 : Below w3.heap.size w3 w4 := (Below.refl _ _).grown hgK (Nat.le_refl _) (fun g hg => by cases hg)
  have hO4 := hO.below hB4
  clear c3 o3
  go_wp2_with (first | (with_reducible refine hold_append ?_) | (with_reducible refine hold_make ?_) | (with_reducible refine hold_copy ?_) | (with_reducible refine hold_store ?_))
  refine unhold (wp_box (v := .slice AK v.keys.length cK) (vs := [.slice AK v.keys.length cK]) rfl rfl rfl rfl hO4 rfl (by kernel_rfl) (by simp) (by simp; rfl) #[.int .u8 (v.kind : Int), .int .u64 (v.n : Int), .string (str v.s), .slice AK v.keys.length cK, .slice none 0 0] (by simp) ?_)
  intro w5 hO5 hg5 hs5
  have hX5 := (hX3.below hB4).grown hg5 (by intro e; injection e with e; omega)
  have hR5 := (hR3.below hB4).grown hg5 (by intro e; injection e with e; omega)
  have hoK5 := own_boxv hoK hg5 (by omega)
  have hS5 : CpS w5 (ob + 1) v.keys AK cK none 0 [] := by
    refine ⟨Own.none_ _ _ _ _, fun p hp => (by cases hp), RdX.of_own hoK5 (fun g hg => ?_)⟩
    have := hoK5.blk_lt hg
    exact ⟨this.1, this.2, fun e => by cases e⟩
  have hB14 : Below w1.heap.size w1 w5 := (hB13.trans (hB4.mono hB13.size)).grown hg5 (by have := hB13.size; omega) (fun g hg => by injection hg with hg; omega)
  have hB05 : Below w.heap.size w w5 := (hB03.trans (hB4.mono hB03.size)).grown hg5 (by have := hB03.size; omega) (fun g hg => by injection hg with hg; omega)
  have hsz5 : ob + 1 ≤ w5.heap.size := by omega
  clear hg5 hs5 hoK5 hoK hgK hB4 hO4 hB13 hB03 hX3 hR3 hO hvk e3 hz4
  have HK1 := Lib.hid hfk
  clear hfk
  go_wp2_with (first | (with_reducible refine hold_append ?_) | (with_reducible refine hold_make ?_) | (with_reducible refine hold_copy ?_))
  go_loopw [4] (fun s wr => ∃ (i : Nat) (A3 : Option Addr) (c3 : Nat) (xs : List (Vl × VH)), i ≤ v.list.length ∧ s = .int .i64 i ∧ xs.length = i ∧ Hid (xs.map (·.1) = v.list.take i) ∧ CpS wr (ob + 1) v.keys AK cK A3 c3 xs ∧ Box wr xb 50 #[.int .u8 (v.kind : Int), .int .u64 (v.n : Int), .string (str v.s), .slice K1 v.keys.length j1, .slice K2 v.list.length j2] ∧ Box wr rb 50 #[.int .u8 0, .int .u64 0, .string ⟨#[]⟩, .slice none 0 0, .slice none 0 0] ∧ Box wr ob 50 #[.int .u8 (v.kind : Int), .int .u64 (v.n : Int), .string (str v.s), .slice AK v.keys.length cK, .slice A3 i c3] ∧ Below w.heap.size w wr ∧ Below w1.heap.size w1 wr ∧ ob + 1 ≤ wr.heap.size) (fun s _ => v.list.length - (RowKit.intOf s).toNat)
  case atStart => exact ⟨0, none, 0, [], by omega, rfl, rfl, Lib.hid (by simp), hS5, hX5, hR5, hO5, hB05, hB14, hsz5⟩
  case round =>
    clear hS5 hX5 hR5 hO5 hB05 hB14 hsz5
    obtain ⟨i, A3, c3, xs, hi, rfl, hxl, HXS, hS, hX, hR, hO, hB, hB1, hsz⟩ := hrel
    have HXL := Lib.hid hxl
    clear hxl
    have x4 := hX.cell (j := 4) rfl
    simp only [List.getElem_toArray, List.getElem_cons_succ, List.getElem_cons_zero] at x4
    by_cases hlt : i < v.list.length
    · have g1 : (i : Int) < (v.list.length : Int) := by omega
      obtain ⟨b, off, hx, rfl, hvx, HX⟩ := hel hlt
      have HXS2 : Hid (xs.map (·.1) ++ [v.list[i]] = v.list.take (i + 1)) := Lib.hid (by rw [HXS.out, List.take_succ_eq_append_getElem hlt])
      have hrec := fun (W : World) (hW : Below w1.heap.size w1 W) => IH.out _ (List.getElem_mem hlt) hx W (HFE.out _ (List.getElem_mem hlt)) (hvx.up hW)
      clear hel hvx
      generalize v.list[i] = x at *
      unfold vlV CopyR at hrec
      go_upto_region 6 with fail
      clear x4
      refine rg_start (fun W : World => Box W xb 50 #[.int .u8 (v.kind : Int), .int .u64 (v.n : Int), .string (str v.s), .slice K1 v.keys.length j1, .slice (some ⟨b, off, none⟩) v.list.length j2] ∧ Box W rb 50 #[.int .u8 0, .int .u64 0, .string ⟨#[]⟩, .slice none 0 0, .slice none 0 0] ∧ Below w.heap.size w W ∧ Below w1.heap.size w1 W) (by kernel_rfl) ?_
      have hT : Box wr.drew xb 50 #[.int .u8 (v.kind : Int), .int .u64 (v.n : Int), .string (str v.s), .slice K1 v.keys.length j1, .slice (some ⟨b, off, none⟩) v.list.length j2] ∧ Box wr.drew rb 50 #[.int .u8 0, .int .u64 0, .string ⟨#[]⟩, .slice none 0 0, .slice none 0 0] ∧ Below w.heap.size w wr.drew ∧ Below w1.heap.size w1 wr.drew := ⟨hX, hR, below_drewN hB 1, below_drewN hB1 1⟩
      have hSd : CpS wr.drew (ob + 1) v.keys AK cK A3 c3 xs := hS.on (fun g _ _ => rfl) (Nat.le_refl _)
      have hOd : Box wr.drew ob 50 #[.int .u8 (v.kind : Int), .int .u64 (v.n : Int), .string (str v.s), .slice AK v.keys.length cK, .slice A3 i c3] := hO
      have hszd : ob + 1 ≤ wr.drew.heap.size := hsz
      generalize wr.drew = wd at *
      clear hS hX hR hO hB hB1 hsz
      refine rg_take 0 (v := ?_) rfl (by kernel_rfl) (by kernel_rfl) (by kernel_rfl) hT rfl ?_ ?_
      rotate_left
      · intro wS hSw; go_simp; (with_reducible rfl)
      simp only [List.getElem_toArray, List.getElem_cons_zero, Act.put, List.setIfInBounds_toArray, List.set_cons_zero, List.set_cons_succ]
      refine rg_take 2 (v := ?_) rfl (by kernel_rfl) (by kernel_rfl) (by kernel_rfl) hT rfl ?_ ?_
      rotate_left
      · intro wS hSw; go_simp; (with_reducible rfl)
      simp only [List.getElem_toArray, List.getElem_cons_succ, List.getElem_cons_zero, Act.put, List.setIfInBounds_toArray, List.set_cons_zero, List.set_cons_succ]
      refine rg_take 3 (v := ?_) rfl (by kernel_rfl) (by kernel_rfl) (by kernel_rfl) hT rfl ?_ ?_
      rotate_left
      · intro wS hSw; have k0 := hSw.1.cell (j := 4) rfl; go_simp; (with_reducible rfl)
      simp only [List.getElem_toArray, List.getElem_cons_succ, List.getElem_cons_zero, Act.put, List.setIfInBounds_toArray, List.set_cons_zero, List.set_cons_succ]
      refine rg_take 4 (v := ?_) rfl (by kernel_rfl) (by kernel_rfl) (by kernel_rfl) hT rfl ?_ ?_
      rotate_left
      · intro wS hSw; go_simp; (with_reducible rfl)
      simp only [List.getElem_toArray, List.getElem_cons_succ, List.getElem_cons_zero, Act.put, List.setIfInBounds_toArray, List.set_cons_zero, List.set_cons_succ]
      refine rg_take 5 (v := ?_) rfl (by kernel_rfl) (by kernel_rfl) (by kernel_rfl) hT rfl ?_ ?_
      rotate_left
      · intro wS hSw; go_simp; (with_reducible rfl)
      simp only [List.getElem_toArray, List.getElem_cons_succ, List.getElem_cons_zero, Act.put, List.setIfInBounds_toArray, List.set_cons_zero, List.set_cons_succ]
      refine rg_take 6 (v := ?_) rfl (by kernel_rfl) (by kernel_rfl) (by kernel_rfl) hT rfl ?_ ?_
      rotate_left
      · intro wS hSw; obtain ⟨k0, k1, k2, k3, k4⟩ := HX _ hSw.2.2.2; go_simp; (with_reducible rfl)
      simp only [List.getElem_toArray, List.getElem_cons_succ, List.getElem_cons_zero, Act.put, List.setIfInBounds_toArray, List.set_cons_zero, List.set_cons_succ]
      have z4 := hOd.cell (j := 4) rfl
      refine rg_two 1 7 rfl rfl (by kernel_rfl) rfl rfl (fun K hK => ?_) (fun K hK => ?_)
      · go_simp
        refine hK _ _ hT ?_
        clear hK K
        refine rg_one 7 rfl (by kernel_rfl) rfl (fun K hK => ?_)
        go_simp
        refine (hrec wd hT.2.2.2).mono ?_
        rintro e w5 ⟨hy, rfl, hRV, hB5⟩
        unfold vlV
        have hT5 : Box w5 xb 50 #[.int .u8 (v.kind : Int), .int .u64 (v.n : Int), .string (str v.s), .slice K1 v.keys.length j1, .slice (some ⟨b, off, none⟩) v.list.length j2] ∧ Box w5 rb 50 #[.int .u8 0, .int .u64 0, .string ⟨#[]⟩, .slice none 0 0, .slice none 0 0] ∧ Below w.heap.size w w5 ∧ Below w1.heap.size w1 w5 := ⟨hT.1.below hB5, hT.2.1.below hB5, hT.2.2.1.trans (hB5.mono hT.2.2.1.size), hT.2.2.2.trans (hB5.mono hT.2.2.2.size)⟩
        have hO5 := hOd.below hB5
        have hS5 := hSd.below hB5
        have hsz5 := hB5.size
        clear z4
        refine hK _ _ hT5 ?_
        clear hK K
        refine rg_one 8 rfl (by kernel_rfl) rfl (fun K hK => ?_)
        go_simp
        refine hK _ _ ⟨hT5.1.alloc _, hT5.2.1.alloc _, hT5.2.2.1.alloc hT5.2.2.1.size _, hT5.2.2.2.alloc hT5.2.2.2.size _⟩ ?_
        clear hK K
        have hown5 : Own w5 (ob + 1) 50 5 A3 i c3 (rowC vlC xs) := HXL.out ▸ hS5.own
        refine rg_one 9 rfl (by kernel_rfl) rfl (fun K hK => ?_)
        refine op_rec (W := w5) vlShape slVl Tryz.underlying48 rfl rfl rfl rfl (x, hy) rfl hown5 (by omega) (by omega) (by omega) ?_
        intro A4 c4 w6 ho6 hg6 hA6 _
        have hS6 := hSd.push hszd hB5 hRV (by rw [HXL.out]; exact ho6) hg6 hA6
        have hnb : ∀ g', blk A3 = some g' → ob + 1 ≤ g' := fun g' hg' => (Own.blk_lt hS5.own hg').1
        have hX6 := hT5.1.grown hg6 (by intro e; have := hnb _ e.symm; omega)
        have hR6 := hT5.2.1.grown hg6 (by intro e; have := hnb _ e.symm; omega)
        have hO6 := hO5.grown hg6 (by intro e; have := hnb _ e.symm; omega)
        have hB6 := hT5.2.2.1.grown hg6 hT5.2.2.1.size (fun g' hg' => by have := hnb g' hg'; omega)
        have hB16 := hT5.2.2.2.grown hg6 hT5.2.2.2.size (fun g' hg' => by have := hnb g' hg'; omega)
        have hsz6 := hg6.size
        refine hK _ _ ⟨hX6, hR6, hB6, hB16⟩ ?_
        clear hK K
        refine rg_one 10 rfl (by kernel_rfl) rfl (fun K hK => ?_)
        go_simp
        refine hK _ _ ⟨hX6, hR6, hB6, hB16⟩ ?_
        clear hK K
        refine rg_one 11 rfl (by kernel_rfl) rfl (fun K hK => ?_)
        refine op_box (v := .slice A4 (i + 1) c4) (vs := [.slice A4 (i + 1) c4]) rfl rfl rfl hO6 rfl (by kernel_rfl) (by simp) (by simp; rfl) #[.int .u8 (v.kind : Int), .int .u64 (v.n : Int), .string (str v.s), .slice AK v.keys.length cK, .slice A4 (i + 1) c4] (by simp) ?_
        intro w7 hO7 hg7 hs7
        have hS7 := hS6.box hg7 (by omega)
        have hX7 := hX6.grown hg7 (by intro e; injection e with e; omega)
        have hR7 := hR6.grown hg7 (by intro e; injection e with e; omega)
        have hB7 := hB6.grown hg7 hB6.size (fun g' hg' => by injection hg' with hg'; omega)
        have hB17 := hB16.grown hg7 hB16.size (fun g' hg' => by injection hg' with hg'; omega)
        refine hK _ _ ⟨hX7, hR7, hB7, hB17⟩ ?_
        clear hK K
        refine rg_end (by kernel_rfl) ?_
        go_wp2_with (first | (with_reducible refine hold_append ?_) | (with_reducible refine hold_make ?_) | (with_reducible refine hold_copy ?_))
        exact ⟨⟨i + 1, A4, c4, xs ++ [(x, hy)], by omega, by go_num, by rw [List.length_append, HXL.out]; rfl, Lib.hid (by rw [List.map_append]; exact HXS2.out), hS7, hX7, hR7, hO7, hB7, hB17, by omega⟩, by simp [RowKit.intOf]; omega⟩
      · go_simp
        refine (hrec wd hT.2.2.2).mono ?_
        rintro e w5 ⟨hy, rfl, hRV, hB5⟩
        unfold vlV
        have hT5 : Box w5 xb 50 #[.int .u8 (v.kind : Int), .int .u64 (v.n : Int), .string (str v.s), .slice K1 v.keys.length j1, .slice (some ⟨b, off, none⟩) v.list.length j2] ∧ Box w5 rb 50 #[.int .u8 0, .int .u64 0, .string ⟨#[]⟩, .slice none 0 0, .slice none 0 0] ∧ Below w.heap.size w w5 ∧ Below w1.heap.size w1 w5 := ⟨hT.1.below hB5, hT.2.1.below hB5, hT.2.2.1.trans (hB5.mono hT.2.2.1.size), hT.2.2.2.trans (hB5.mono hT.2.2.2.size)⟩
        have hO5 := hOd.below hB5
        have hS5 := hSd.below hB5
        have hsz5 := hB5.size
        clear z4
        have z4 := hO5.cell (j := 4) rfl
        refine hK _ _ hT5 ?_
        clear hK K
        refine rg_two 1 8 rfl rfl (by kernel_rfl) rfl rfl (fun K hK => ?_) (fun K hK => ?_)
        · go_simp
          refine hK _ _ hT5 ?_
          clear hK K
          refine rg_one 8 rfl (by kernel_rfl) rfl (fun K hK => ?_)
          go_simp
          refine hK _ _ ⟨hT5.1.alloc _, hT5.2.1.alloc _, hT5.2.2.1.alloc hT5.2.2.1.size _, hT5.2.2.2.alloc hT5.2.2.2.size _⟩ ?_
          clear hK K
          have hown5 : Own w5 (ob + 1) 50 5 A3 i c3 (rowC vlC xs) := HXL.out ▸ hS5.own
          refine rg_one 9 rfl (by kernel_rfl) rfl (fun K hK => ?_)
          refine op_rec (W := w5) vlShape slVl Tryz.underlying48 rfl rfl rfl rfl (x, hy) rfl hown5 (by omega) (by omega) (by omega) ?_
          intro A4 c4 w6 ho6 hg6 hA6 _
          have hS6 := hSd.push hszd hB5 hRV (by rw [HXL.out]; exact ho6) hg6 hA6
          have hnb : ∀ g', blk A3 = some g' → ob + 1 ≤ g' := fun g' hg' => (Own.blk_lt hS5.own hg').1
          have hX6 := hT5.1.grown hg6 (by intro e; have := hnb _ e.symm; omega)
          have hR6 := hT5.2.1.grown hg6 (by intro e; have := hnb _ e.symm; omega)
          have hO6 := hO5.grown hg6 (by intro e; have := hnb _ e.symm; omega)
          have hB6 := hT5.2.2.1.grown hg6 hT5.2.2.1.size (fun g' hg' => by have := hnb g' hg'; omega)
          have hB16 := hT5.2.2.2.grown hg6 hT5.2.2.2.size (fun g' hg' => by have := hnb g' hg'; omega)
          have hsz6 := hg6.size
          refine hK _ _ ⟨hX6, hR6, hB6, hB16⟩ ?_
          clear hK K
          refine rg_one 10 rfl (by kernel_rfl) rfl (fun K hK => ?_)
          go_simp
          refine hK _ _ ⟨hX6, hR6, hB6, hB16⟩ ?_
          clear hK K
          refine rg_one 11 rfl (by kernel_rfl) rfl (fun K hK => ?_)
          refine op_box (v := .slice A4 (i + 1) c4) (vs := [.slice A4 (i + 1) c4]) rfl rfl rfl hO6 rfl (by kernel_rfl) (by simp) (by simp; rfl) #[.int .u8 (v.kind : Int), .int .u64 (v.n : Int), .string (str v.s), .slice AK v.keys.length cK, .slice A4 (i + 1) c4] (by simp) ?_
          intro w7 hO7 hg7 hs7
          have hS7 := hS6.box hg7 (by omega)
          have hX7 := hX6.grown hg7 (by intro e; injection e with e; omega)
          have hR7 := hR6.grown hg7 (by intro e; injection e with e; omega)
          have hB7 := hB6.grown hg7 hB6.size (fun g' hg' => by injection hg' with hg'; omega)
          have hB17 := hB16.grown hg7 hB16.size (fun g' hg' => by injection hg' with hg'; omega)
          refine hK _ _ ⟨hX7, hR7, hB7, hB17⟩ ?_
          clear hK K
          refine rg_end (by kernel_rfl) ?_
          go_wp2_with (first | (with_reducible refine hold_append ?_) | (with_reducible refine hold_make ?_) | (with_reducible refine hold_copy ?_))
          exact ⟨⟨i + 1, A4, c4, xs ++ [(x, hy)], by omega, by go_num, by rw [List.length_append, HXL.out]; rfl, Lib.hid (by rw [List.map_append]; exact HXS2.out), hS7, hX7, hR7, hO7, hB7, hB17, by omega⟩, by simp [RowKit.intOf]; omega⟩
        · go_simp
          refine hK _ _ ⟨hT5.1.alloc _, hT5.2.1.alloc _, hT5.2.2.1.alloc hT5.2.2.1.size _, hT5.2.2.2.alloc hT5.2.2.2.size _⟩ ?_
          clear hK K
          have z4 := (hO5.alloc (.cells #[.int .u8 (x.kind : Int), .int .u64 (x.n : Int), .string (str x.s), .slice hy.A1 x.keys.length hy.c1, .slice hy.A2 x.list.length hy.c2] 50)).cell (j := 4) rfl
          refine rg_one 1 rfl (by kernel_rfl) rfl (fun K hK => ?_)
          go_simp
          refine hK _ _ ⟨hT5.1.alloc _, hT5.2.1.alloc _, hT5.2.2.1.alloc (Nat.le_trans hT5.2.2.1.size (Nat.le_refl _)) _, hT5.2.2.2.alloc hT5.2.2.2.size _⟩ ?_
          clear hK K
          have hown5 : Own w5 (ob + 1) 50 5 A3 i c3 (rowC vlC xs) := HXL.out ▸ hS5.own
          refine rg_one 9 rfl (by kernel_rfl) rfl (fun K hK => ?_)
          refine op_rec (W := w5) vlShape slVl Tryz.underlying48 rfl rfl rfl rfl (x, hy) rfl hown5 (by omega) (by omega) (by omega) ?_
          intro A4 c4 w6 ho6 hg6 hA6 _
          have hS6 := hSd.push hszd hB5 hRV (by rw [HXL.out]; exact ho6) hg6 hA6
          have hnb : ∀ g', blk A3 = some g' → ob + 1 ≤ g' := fun g' hg' => (Own.blk_lt hS5.own hg').1
          have hX6 := hT5.1.grown hg6 (by intro e; have := hnb _ e.symm; omega)
          have hR6 := hT5.2.1.grown hg6 (by intro e; have := hnb _ e.symm; omega)
          have hO6 := hO5.grown hg6 (by intro e; have := hnb _ e.symm; omega)
          have hB6 := hT5.2.2.1.grown hg6 hT5.2.2.1.size (fun g' hg' => by have := hnb g' hg'; omega)
          have hB16 := hT5.2.2.2.grown hg6 hT5.2.2.2.size (fun g' hg' => by have := hnb g' hg'; omega)
          have hsz6 := hg6.size
          refine hK _ _ ⟨hX6, hR6, hB6, hB16⟩ ?_
          clear hK K
          refine rg_one 10 rfl (by kernel_rfl) rfl (fun K hK => ?_)
          go_simp
          refine hK _ _ ⟨hX6, hR6, hB6, hB16⟩ ?_
          clear hK K
          refine rg_one 11 rfl (by kernel_rfl) rfl (fun K hK => ?_)
          refine op_box (v := .slice A4 (i + 1) c4) (vs := [.slice A4 (i + 1) c4]) rfl rfl rfl hO6 rfl (by kernel_rfl) (by simp) (by simp; rfl) #[.int .u8 (v.kind : Int), .int .u64 (v.n : Int), .string (str v.s), .slice AK v.keys.length cK, .slice A4 (i + 1) c4] (by simp) ?_
          intro w7 hO7 hg7 hs7
          have hS7 := hS6.box hg7 (by omega)
          have hX7 := hX6.grown hg7 (by intro e; injection e with e; omega)
          have hR7 := hR6.grown hg7 (by intro e; injection e with e; omega)
          have hB7 := hB6.grown hg7 hB6.size (fun g' hg' => by injection hg' with hg'; omega)
          have hB17 := hB16.grown hg7 hB16.size (fun g' hg' => by injection hg' with hg'; omega)
          refine hK _ _ ⟨hX7, hR7, hB7, hB17⟩ ?_
          clear hK K
          refine rg_end (by kernel_rfl) ?_
          go_wp2_with (first | (with_reducible refine hold_append ?_) | (with_reducible refine hold_make ?_) | (with_reducible refine hold_copy ?_))
          exact ⟨⟨i + 1, A4, c4, xs ++ [(x, hy)], by omega, by go_num, by rw [List.length_append, HXL.out]; rfl, Lib.hid (by rw [List.map_append]; exact HXS2.out), hS7, hX7, hR7, hO7, hB7, hB17, by omega⟩, by simp [RowKit.intOf]; omega⟩
    · have g1 : ¬ (i : Int) < (v.list.length : Int) := by omega
      obtain rfl : i = v.list.length := by omega
      have HM : Hid (xs.map (·.1) = v.list) := Lib.hid (by rw [HXS.out, List.take_of_length_le (Nat.le_refl _)])
      clear hel
      have o0 := hO.cell (j := 0) rfl
      have o1 := hO.cell (j := 1) rfl
      have o2 := hO.cell (j := 2) rfl
      have o3 := hO.cell (j := 3) rfl
      have o4 := hO.cell (j := 4) rfl
      go_wp2_with (first | (with_reducible refine hold_append ?_) | (with_reducible refine hold_make ?_) | (with_reducible refine hold_copy ?_) | (with_reducible refine hold_store ?_))
      refine unhold (wp_box (v := .agg #[.int .u8 (v.kind : Int), .int .u64 (v.n : Int), .string (str v.s), .slice AK v.keys.length cK, .slice A3 v.list.length c3]) (vs := [.int .u8 (v.kind : Int), .int .u64 (v.n : Int), .string (str v.s), .slice AK v.keys.length cK, .slice A3 v.list.length c3]) rfl rfl rfl rfl hR rfl (by kernel_rfl) (by simp) (by simp; exact ⟨rfl, rfl, rfl, rfl, rfl⟩) #[.int .u8 (v.kind : Int), .int .u64 (v.n : Int), .string (str v.s), .slice AK v.keys.length cK, .slice A3 v.list.length c3] (by simp) ?_)
      intro w6 hR6 hg6 _
      have hS6 := hS.box hg6 (by omega)
      have hB6 := below_boxv hB hg6 (by omega)
      clear o0 o1 o2 o3 o4
      go_wp2_with (first | (with_reducible refine hold_append ?_) | (with_reducible refine hold_make ?_) | (with_reducible refine hold_copy ?_))
      refine ret_box1v rfl hR6 rfl Tryz.underlying50 rfl (by kernel_rfl) rfl ?_
      have hFB : ∀ g, FB (ob + 1) A3 w6 g → FN w.heap.size w6 g := fun g hg => ⟨by have := hg.1; omega, hg.2.1⟩
      have hbv := HBV.out
      refine ⟨⟨AK, cK, A3, c3⟩, rfl, ⟨xs, hbv.1, hbv.2.1, hbv.2.2.1, hS6.ky.mono hFB, hbv.2.2.2.1, hbv.2.2.2.2.1, hbv.2.2.2.2.2, ?_, HM.out, fun p hp => (hS6.el p hp).mono hFB⟩, hB6⟩
      · have ho := hS6.own
        rw [HXL.out] at ho
        refine RdX.of_own ho (fun g hg => ?_)
        have := ho.blk_lt hg
        exact ⟨by omega, this.2⟩
end Go.PH
end

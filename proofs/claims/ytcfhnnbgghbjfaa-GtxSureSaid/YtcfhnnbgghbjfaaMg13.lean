/- Texts laid together: GtSame, GtOwn, GtSee, GtActs. -/
import Derived.Laws.StructEq
import Derived.Test.YtcfhnnbgghbjfaaMg01
import Derived.Test.YtcfhnnbgghbjfaaMg03
import Derived.Test.YtcfhnnbgghbjfaaMg08
import Derived.Test.YtcfhnnbgghbjfaaMg11
import Derived.Test.YtcfhnnbgghbjfaaMg12
section
/- Parts held against one another; the reference's SameParts. -/
set_option linter.all false
set_option linter.unusedSimpArgs false
set_option linter.unusedVariables false
namespace Go.PH
open Go.RowKit Go.Proofs

theorem xid_equalAt (d : Nat) (a b : Xd) (w : World) : (Op.equalIn (d + 2) 24 (.agg (xdV a)) (.agg (xdV b))).run Try.prog w = .ok (decide (a = b)) w := by
  rw [run_equalIn_struct w (d + 1) 24 _ _ xid_fields xid_stood]
  simp only [Program.fieldsOf, Try.underlying24]
  obtain ⟨f, g, hh⟩ := a
  obtain ⟨f', g', h'⟩ := b
  unfold xdV
  simp only [Xd.mk.injEq]
  by_cases h : (f : Int) = (f' : Int)
  · have e := Int.ofNat_inj.1 h
    subst e
    by_cases h : g = g'
    · subst h
      by_cases h : hh = h'
      · subst h
        simp [Op.eqFields, part, run_equalIn_int _ d 22 .u32 .u32 _ _ Try.underlying22, run_equalIn_string _ d 9 _ _ Try.underlying9, h, Result.andThen, typeInfo, sizeOf]
      · have h := str_ne h
        simp [Op.eqFields, part, run_equalIn_int _ d 22 .u32 .u32 _ _ Try.underlying22, run_equalIn_string _ d 9 _ _ Try.underlying9, h, Result.andThen, typeInfo, sizeOf]
        rw [str_toList, str_toList] at h
        simpa using h
    · have h := str_ne h
      simp [Op.eqFields, part, run_equalIn_int _ d 22 .u32 .u32 _ _ Try.underlying22, run_equalIn_string _ d 9 _ _ Try.underlying9, h, Result.andThen, typeInfo, sizeOf]
      rw [str_toList, str_toList] at h
      intro q
      simp [q] at h
  · simp [Op.eqFields, part, run_equalIn_int _ d 22 .u32 .u32 _ _ Try.underlying22, run_equalIn_string _ d 9 _ _ Try.underlying9, h, Result.andThen, typeInfo, sizeOf]
    omega
theorem part_fields : Try.prog.underlying 45 = some (.struct (Try.prog.fieldsOf 45)) := by kernel_rfl
theorem part_stood : Try.prog.stoodInHeld 45 = false := by kernel_rfl
theorem part_guard : Try.prog.eqGuardType Try.prog.depth 45 = false := by kernel_rfl
theorem part_equal (a b : Pt) (w : World) : (Op.equalIn 10000 45 (.agg (ptV a)) (.agg (ptV b))).run Try.prog w = .ok (decide (a = b)) w := by
  rw [run_equalIn_struct w 9999 45 _ _ part_fields part_stood]
  simp only [Program.fieldsOf, Try.underlying45]
  have hx := fun w => xid_equalAt 9997 a.x b.x w
  obtain ⟨n, x, s⟩ := a
  obtain ⟨n', x', s'⟩ := b
  unfold ptV
  simp only at hx
  unfold xdV at hx
  simp only [Pt.mk.injEq]
  have hsz := Try.sizeOf24
  have ha1 := Try.isAgg24
  have ha2 := Try.isAgg5
  have ha3 := Try.isAgg43
  have hx2 : ∀ w, Sem.run Try.prog (Op.equalIn 9999 24 (Value.agg [Value.int IntKind.u32 (x.fmt : Int), Value.string (str x.glob), Value.string (str x.bran)].toArray) (Value.agg [Value.int IntKind.u32 (x'.fmt : Int), Value.string (str x'.glob), Value.string (str x'.bran)].toArray)) w = Result.ok (decide (x = x')) w := hx
  have hd : decide (n = n' ∧ x = x' ∧ s = s') = (decide ((n : Int) = (n' : Int)) && (decide (x = x') && decide ((s : Int) = (s' : Int)))) := by rw [Bool.eq_iff_iff]; simp only [Bool.and_eq_true, decide_eq_true_eq, Int.ofNat_inj]
  rw [hd]
  clear hd
  generalize decide (x = x') = dx at *
  by_cases h1 : (n : Int) = (n' : Int)
  · by_cases h3 : (s : Int) = (s' : Int)
    · cases dx <;> simp [Op.eqFields, part, run_equalIn_int _ 9998 5 .u8 .u8 _ _ Try.underlying5, run_equalIn_int _ 9998 43 .u8 .u8 _ _ Try.underlying43, hsz, ha1, ha2, ha3, hx2, h1, h3, Result.andThen]
    · cases dx <;> simp [Op.eqFields, part, run_equalIn_int _ 9998 5 .u8 .u8 _ _ Try.underlying5, run_equalIn_int _ 9998 43 .u8 .u8 _ _ Try.underlying43, hsz, ha1, ha2, ha3, hx2, h1, h3, Result.andThen]
  · simp [Op.eqFields, part, run_equalIn_int _ 9998 5 .u8 .u8 _ _ Try.underlying5, run_equalIn_int _ 9998 43 .u8 .u8 _ _ Try.underlying43, hsz, ha1, ha2, ha3, hx2, h1, Result.andThen]
theorem part_neq (a b : Pt) (w : World) : (binOp .neq 45 (.agg (ptV a)) (.agg (ptV b))).run Try.prog w = .ok (.bool (!decide (a = b))) w := by
  rw [run_neq_struct, part_equal]
  rfl
set_option maxRecDepth 20000 in
set_option maxHeartbeats 1000000 in
theorem sameparts_any (A : Option Addr) (n c : Nat) (l : List Pt) (A' : Option Addr) (n' c' : Nat) (l' : List Pt) (B : Nat) (w : World) (hr : RdP w B A n c l) (hr' : RdP w B A' n' c' l') (hB : B ≤ w.heap.size) (hn : n ≤ 140737488355328) (hn' : n' ≤ 140737488355328) :
    Calls Try.prog 48 #[.slice A n c, .slice A' n' c'] w fun e w' => e = .returned (.bool (decide (l = l'))) ∧ Below w.heap.size w w' := by
  have hl := rec_length ptShape hr
  have hl' := rec_length ptShape hr'
  by_cases hnn : n = n'
  · subst hnn
    have h0 : (((n : Nat) : Int) != ((n : Nat) : Int)) = false := by simp
    go_enter Try.func48, Try.ntmps48
    go_wp2_with (first | (with_reducible refine hold_append ?_) | (with_reducible refine hold_make ?_) | (with_reducible refine hold_copy ?_))
    go_loopw [5] (fun s wr => ∃ (k : Nat), k ≤ n ∧ s = .int .i64 k ∧ l.take k = l'.take k ∧ Below w.heap.size w wr) (fun s _ => n - (RowKit.intOf s).toNat)
    case atStart => exact ⟨0, by omega, rfl, by simp, Below.refl _ _⟩
    case round =>
      obtain ⟨k, hk, rfl, hrk, hBr⟩ := hrel
      by_cases hlt : k < n
      · obtain ⟨b, off, rfl, hbB, hkl, hc⟩ := rec_at ptShape (Rd.below hr (hBr.mono hB)) hlt
        obtain ⟨b', off', rfl, hbB', hkl', hc'⟩ := rec_at ptShape (Rd.below hr' (hBr.mono hB)) hlt
        have HT := Lib.hid (List.take_succ_eq_append_getElem hkl)
        have HT' := Lib.hid (List.take_succ_eq_append_getElem hkl')
        have HE : Hid (l = l' → l[k] = l'[k]) := Lib.hid (fun h => by subst h; rfl)
        have HK := Lib.hid hrk
        clear hrk
        generalize l[k] = x at *
        generalize l'[k] = x' at *
        have hneq := fun w => part_neq x x' w
        obtain ⟨xn, ⟨xf, xg, xh⟩, xs⟩ := x
        obtain ⟨yn, ⟨yf, yg, yh⟩, ys⟩ := x'
        simp only [ptV] at hneq
        have k0 := hc 0 _ rfl
        have k1 := hc 1 _ rfl
        have k2 := hc 2 _ rfl
        have k3 := hc 3 _ rfl
        have k4 := hc 4 _ rfl
        have j0 := hc' 0 _ rfl
        have j1 := hc' 1 _ rfl
        have j2 := hc' 2 _ rfl
        have j3 := hc' 3 _ rfl
        have j4 := hc' 4 _ rfl
        simp only [Nat.add_zero] at k0 j0
        have hkn : (k : Int) < (n : Int) := by omega
        clear hc hc'
        have hgd := fun x y => run_eqGuard_agg (P := Try.prog) wr .neq 45 x y #[.int .u8 (xn : Int), .int .u32 (xf : Int), .string (str xg), .string (str xh), .int .u8 (xs : Int)] #[.int .u8 (yn : Int), .int .u32 (yf : Int), .string (str yg), .string (str yh), .int .u8 (ys : Int)] part_guard
        by_cases hxx : (⟨xn, ⟨xf, xg, xh⟩, xs⟩ : Pt) = ⟨yn, ⟨yf, yg, yh⟩, ys⟩
        · rw [decide_eq_true hxx] at hneq
          have hy : Hid (l.take (k + 1) = l'.take (k + 1)) := Lib.hid (by rw [HT.out, HT'.out, HK.out, hxx])
          clear hxx
          simp only [Bool.not_true] at hneq
          go_wp2_with (first | (with_reducible refine hold_append ?_) | (with_reducible refine hold_make ?_) | (with_reducible refine hold_copy ?_))
          go_quiet (fail)
          go_wp2_with (first | (with_reducible refine hold_append ?_) | (with_reducible refine hold_make ?_) | (with_reducible refine hold_copy ?_))
          exact ⟨⟨k + 1, by omega, by go_num, hy.out, below_drewN hBr _⟩, by simp [RowKit.intOf]; omega⟩
        · rw [decide_eq_false hxx] at hneq
          have hno : decide (l = l') = false := by
            have := HE.out
            simp only [decide_eq_false_iff_not]
            exact fun h => hxx (this h)
          clear hxx
          simp only [Bool.not_false] at hneq
          go_wp2_with (first | (with_reducible refine hold_append ?_) | (with_reducible refine hold_make ?_) | (with_reducible refine hold_copy ?_))
          go_quiet (fail)
          go_wp2_with (first | (with_reducible refine hold_append ?_) | (with_reducible refine hold_make ?_) | (with_reducible refine hold_copy ?_))
          go_ret
          rw [hno]
          exact ⟨rfl, below_drewN hBr _⟩
      · obtain rfl : k = n := by omega
        rw [← hl, List.take_length, hl, ← hl', List.take_length] at hrk
        subst hrk
        go_wp2_with (first | (with_reducible refine hold_append ?_) | (with_reducible refine hold_make ?_) | (with_reducible refine hold_copy ?_))
        go_ret
        exact ⟨by simp, hBr⟩
  · have h0 : (((n : Nat) : Int) != ((n' : Nat) : Int)) = true := by simp; omega
    have hne : decide (l = l') = false := by
      simp; rintro rfl; omega
    go_enter Try.func48, Try.ntmps48
    go_wp2_with (first | (with_reducible refine hold_append ?_) | (with_reducible refine hold_make ?_) | (with_reducible refine hold_copy ?_))
    go_ret
    rw [hne]
    exact ⟨rfl, Below.refl _ _⟩
set_option maxRecDepth 20000 in
set_option maxHeartbeats 1000000 in
theorem equalparts_any (A : Option Addr) (n c : Nat) (l : List Pt) (A' : Option Addr) (n' c' : Nat) (l' : List Pt) (B : Nat) (w : World) (hr : RdP w B A n c l) (hr' : RdP w B A' n' c' l') (hB : B ≤ w.heap.size) (hn : n ≤ 140737488355328) (hn' : n' ≤ 140737488355328) :
    Calls Try.prog 60 #[.slice A n c, .slice A' n' c'] w fun e w' => e = .returned (.bool (decide (l = l'))) ∧ Below w.heap.size w w' := by
  have hl := rec_length ptShape hr
  have hl' := rec_length ptShape hr'
  by_cases hnn : n = n'
  · subst hnn
    have h0 : (((n : Nat) : Int) != ((n : Nat) : Int)) = false := by simp
    go_enter Try.func60, Try.ntmps60
    go_wp2_with (first | (with_reducible refine hold_append ?_) | (with_reducible refine hold_make ?_) | (with_reducible refine hold_copy ?_))
    go_loopw [13] (fun s wr => ∃ (k : Nat), k ≤ n ∧ s = .int .i64 k ∧ l.take k = l'.take k ∧ Below w.heap.size w wr) (fun s _ => n - (RowKit.intOf s).toNat)
    case atStart => exact ⟨0, by omega, rfl, by simp, Below.refl _ _⟩
    case round =>
      obtain ⟨k, hk, rfl, hrk, hBr⟩ := hrel
      by_cases hlt : k < n
      · obtain ⟨b, off, rfl, hbB, hkl, hc⟩ := rec_at ptShape (Rd.below hr (hBr.mono hB)) hlt
        obtain ⟨b', off', rfl, hbB', hkl', hc'⟩ := rec_at ptShape (Rd.below hr' (hBr.mono hB)) hlt
        have HT := Lib.hid (List.take_succ_eq_append_getElem hkl)
        have HT' := Lib.hid (List.take_succ_eq_append_getElem hkl')
        have HE : Hid (l = l' → l[k] = l'[k]) := Lib.hid (fun h => by subst h; rfl)
        have HK := Lib.hid hrk
        clear hrk
        generalize l[k] = x at *
        generalize l'[k] = x' at *
        have hneq := fun w => part_neq x x' w
        obtain ⟨xn, ⟨xf, xg, xh⟩, xs⟩ := x
        obtain ⟨yn, ⟨yf, yg, yh⟩, ys⟩ := x'
        simp only [ptV] at hneq
        have k0 := hc 0 _ rfl
        have k1 := hc 1 _ rfl
        have k2 := hc 2 _ rfl
        have k3 := hc 3 _ rfl
        have k4 := hc 4 _ rfl
        have j0 := hc' 0 _ rfl
        have j1 := hc' 1 _ rfl
        have j2 := hc' 2 _ rfl
        have j3 := hc' 3 _ rfl
        have j4 := hc' 4 _ rfl
        simp only [Nat.add_zero] at k0 j0
        have hkn : (k : Int) < (n : Int) := by omega
        clear hc hc'
        have hgd := fun x y => run_eqGuard_agg (P := Try.prog) wr .neq 45 x y #[.int .u8 (xn : Int), .int .u32 (xf : Int), .string (str xg), .string (str xh), .int .u8 (xs : Int)] #[.int .u8 (yn : Int), .int .u32 (yf : Int), .string (str yg), .string (str yh), .int .u8 (ys : Int)] part_guard
        by_cases hxx : (⟨xn, ⟨xf, xg, xh⟩, xs⟩ : Pt) = ⟨yn, ⟨yf, yg, yh⟩, ys⟩
        · rw [decide_eq_true hxx] at hneq
          have hy : Hid (l.take (k + 1) = l'.take (k + 1)) := Lib.hid (by rw [HT.out, HT'.out, HK.out, hxx])
          clear hxx
          simp only [Bool.not_true] at hneq
          go_wp2_with (first | (with_reducible refine hold_append ?_) | (with_reducible refine hold_make ?_) | (with_reducible refine hold_copy ?_))
          go_quiet (fail)
          go_wp2_with (first | (with_reducible refine hold_append ?_) | (with_reducible refine hold_make ?_) | (with_reducible refine hold_copy ?_))
          exact ⟨⟨k + 1, by omega, by go_num, hy.out, below_drewN hBr _⟩, by simp [RowKit.intOf]; omega⟩
        · rw [decide_eq_false hxx] at hneq
          have hno : decide (l = l') = false := by
            have := HE.out
            simp only [decide_eq_false_iff_not]
            exact fun h => hxx (this h)
          clear hxx
          simp only [Bool.not_false] at hneq
          go_wp2_with (first | (with_reducible refine hold_append ?_) | (with_reducible refine hold_make ?_) | (with_reducible refine hold_copy ?_))
          go_quiet (fail)
          go_wp2_with (first | (with_reducible refine hold_append ?_) | (with_reducible refine hold_make ?_) | (with_reducible refine hold_copy ?_))
          go_ret
          rw [hno]
          exact ⟨rfl, below_drewN hBr _⟩
      · obtain rfl : k = n := by omega
        rw [← hl, List.take_length, hl, ← hl', List.take_length] at hrk
        subst hrk
        go_wp2_with (first | (with_reducible refine hold_append ?_) | (with_reducible refine hold_make ?_) | (with_reducible refine hold_copy ?_))
        go_ret
        exact ⟨by simp, hBr⟩
  · have h0 : (((n : Nat) : Int) != ((n' : Nat) : Int)) = true := by simp; omega
    have hne : decide (l = l') = false := by
      simp; rintro rfl; omega
    go_enter Try.func60, Try.ntmps60
    go_wp2_with (first | (with_reducible refine hold_append ?_) | (with_reducible refine hold_make ?_) | (with_reducible refine hold_copy ?_))
    go_ret
    rw [hne]
    exact ⟨rfl, Below.refl _ _⟩
end Go.PH
end
section
/- The walks of gtx's own, ends, to, Same; of the reference's Copy, Same, ends, abort. -/
set_option linter.all false
set_option linter.unusedSimpArgs false
set_option linter.unusedVariables false
namespace Go.PH
open Go.RowKit Go.Proofs

section
variable {P : Program} {fn : Func} {p : Tmp} {ty : TypeId}
theorem results_cell1 (h : fn.results = #[.cell p ty]) (tmps : Array Value) (P : Program) (w : World) :
    (results fn tmps).run P w = ((asAddr (tmps.getD p undef)).run P w).andThen fun a w₁ => (loadVar ty a).run P w₁ := by
  simp only [results, h]
  simp [Sem.run_bind, Result.andThen]
theorem ret_box1 {R : Ending → World → Prop} {a : Act} {w : World} {g : Nat} {t : TypeId} {cs : Array Value} {d : TypeDesc} (hres : fn.results = #[.cell p ty]) (hb : Box w g t cs)
    (hp : a.tmps.getD p undef = .pointer (some ⟨g, 0, none⟩)) (hu : P.underlying ty = some d) (hd : (match d with | .struct _ | .array _ _ => true | _ => false) = true) (hi : (P.info? ty).map (·.size) = some cs.size)
    (hdf : a.defers = []) (hR : R (.returned (.agg cs)) w) : bodyPost P fn R .ret a w := by
  refine bodyPost_ret (v := .agg cs) ?_ hdf hR
  rw [results_cell1 hres, hp]
  simp [asAddr, run_loadVar_row w g t ty cs (0, 0) d hb hu hd hi, Result.andThen]
end
theorem box2_of (w : World) (cs ds : Array Value) (t u : TypeId) : Box ((w.alloc (.cells cs t)).alloc (.cells ds u)) w.heap.size t cs ∧ Box ((w.alloc (.cells cs t)).alloc (.cells ds u)) (w.heap.size + 1) u ds ∧ Below w.heap.size w ((w.alloc (.cells cs t)).alloc (.cells ds u)) := by
  refine ⟨(Box.new _ _ _).alloc _, ?_, ((Below.refl _ _).alloc (Nat.le_refl _) _).alloc (by simp) _⟩
  have := Box.new (w.alloc (.cells cs t)) ds u
  rwa [show (w.alloc (.cells cs t)).heap.size = w.heap.size + 1 by simp] at this
set_option maxRecDepth 20000 in
set_option maxHeartbeats 2000000 in
theorem rsame_any (G G' : Gl) (A : Option Addr) (n c : Nat) (A' : Option Addr) (n' c' : Nat) (B : Nat) (w : World) (hr : RdP w B A n c G.parts) (hr' : RdP w B A' n' c' G'.parts) (hB : B ≤ w.heap.size) (hn : n ≤ 140737488355328) (hn' : n' ≤ 140737488355328) :
    Calls Try.prog 14 #[.agg (glV G A n c), .agg (glV G' A' n' c')] w fun e w' => e = .returned (.bool (decide (G = G'))) ∧ Below w.heap.size w w' := by
  have sp := @sameparts_any
  have hsm := fun W hW => sp A n c G.parts A' n' c' G'.parts B W (hr.below' hW hB) (hr'.below' hW hB) (Nat.le_trans hB hW.size) hn hn'
  have HD : Hid (decide (G = G') = (decide (G.x = G'.x) && decide (G.st = G'.st) && decide (G.com = G'.com) && decide (G.wait = G'.wait) && decide (G.tries = G'.tries) && decide (G.parts = G'.parts))) := Lib.hid (by
    rw [Bool.eq_iff_iff]
    obtain ⟨a1, a2, a3, a4, a5, a6⟩ := G
    obtain ⟨b1, b2, b3, b4, b5, b6⟩ := G'
    simp only [Gl.mk.injEq, Bool.and_eq_true, decide_eq_true_eq]
    constructor
    · rintro ⟨rfl, rfl, rfl, rfl, rfl, rfl⟩; simp
    · rintro ⟨⟨⟨⟨⟨rfl, rfl⟩, rfl⟩, rfl⟩, rfl⟩, rfl⟩; simp)
  generalize decide (G = G') = R at *
  generalize decide (G.parts = G'.parts) = dp at *
  have heq := fun w => xid_eql G.x G'.x w
  obtain ⟨X, st, com, l, wt, tr⟩ := G
  obtain ⟨X', st', com', l', wt', tr'⟩ := G'
  simp only at hsm HD heq
  clear hr hr'
  generalize decide (X = X') = dx at *
  obtain ⟨f, g, h⟩ := X
  obtain ⟨f', g', h'⟩ := X'
  simp only [xdV, glV] at heq ⊢
  obtain ⟨hb0, hz0, hB0⟩ := box2_of w #[.int .u32 (f : Int), .string (str g), .string (str h), .int .u8 (st : Int), .bool com, .slice A n c, .int .u32 (wt : Int), .int .u32 (tr : Int)] #[.int .u32 (f' : Int), .string (str g'), .string (str h'), .int .u8 (st' : Int), .bool com', .slice A' n' c', .int .u32 (wt' : Int), .int .u32 (tr' : Int)] 28 28
  obtain ⟨w0, hw0⟩ : ∃ w0, w0 = ((w.alloc (.cells #[.int .u32 (f : Int), .string (str g), .string (str h), .int .u8 (st : Int), .bool com, .slice A n c, .int .u32 (wt : Int), .int .u32 (tr : Int)] 28)).alloc (.cells #[.int .u32 (f' : Int), .string (str g'), .string (str h'), .int .u8 (st' : Int), .bool com', .slice A' n' c', .int .u32 (wt' : Int), .int .u32 (tr' : Int)] 28)) := ⟨_, rfl⟩
  rw [← hw0] at hb0 hz0 hB0
  have hsm0 := hsm w0 hB0
  clear hsm
  have x0 := hb0.cell (j := 0) rfl
  have x1 := hb0.cell (j := 1) rfl
  have x2 := hb0.cell (j := 2) rfl
  have x3 := hb0.cell (j := 3) rfl
  have x4 := hb0.cell (j := 4) rfl
  have x5 := hb0.cell (j := 5) rfl
  have x6 := hb0.cell (j := 6) rfl
  have x7 := hb0.cell (j := 7) rfl
  have y0 := hz0.cell (j := 0) rfl
  have y1 := hz0.cell (j := 1) rfl
  have y2 := hz0.cell (j := 2) rfl
  have y3 := hz0.cell (j := 3) rfl
  have y4 := hz0.cell (j := 4) rfl
  have y5 := hz0.cell (j := 5) rfl
  have y6 := hz0.cell (j := 6) rfl
  have y7 := hz0.cell (j := 7) rfl
  go_enter Try.func14, Try.ntmps14
  go_upto_region 1 with fail
  rw [← hw0]
  clear hw0
  cases dx
  · have HF : Hid (R = false) := Lib.hid (by rw [HD.out]; simp)
    go_wp2_with (first | (with_reducible refine hold_append ?_) | (with_reducible refine hold_make ?_) | (with_reducible refine hold_copy ?_))
    go_ret
    rw [HF.out]
    exact ⟨rfl, hB0⟩
  · by_cases e1 : st = st'
    · have e1' : ((st : Int) == (st' : Int)) = true := by simp [e1]
      by_cases e2 : com = com'
      · have e2' : (com == com') = true := by simp [e2]
        by_cases e3 : wt = wt'
        · have e3' : ((wt : Int) == (wt' : Int)) = true := by simp [e3]
          by_cases e4 : tr = tr'
          · have e4' : ((tr : Int) == (tr' : Int)) = true := by simp [e4]
            have HF : Hid (R = dp) := Lib.hid (by rw [HD.out]; simp [e1, e2, e3, e4])
            clear e1 e2 e3 e4 HD
            go_wp2_with (first | (with_reducible refine hold_append ?_) | (with_reducible refine hold_make ?_) | (with_reducible refine hold_copy ?_))
            refine hsm0.mono ?_
            rintro e w1 ⟨rfl, hB1⟩
            go_wp2_with (first | (with_reducible refine hold_append ?_) | (with_reducible refine hold_make ?_) | (with_reducible refine hold_copy ?_))
            go_ret
            rw [HF.out]
            exact ⟨rfl, hB0.trans (hB1.mono hB0.size)⟩
          · have e4' : ((tr : Int) == (tr' : Int)) = false := by simp; omega
            have HF : Hid (R = false) := Lib.hid (by rw [HD.out]; simp [e4])
            clear e1 e2 e3 e4 HD
            go_wp2_with (first | (with_reducible refine hold_append ?_) | (with_reducible refine hold_make ?_) | (with_reducible refine hold_copy ?_))
            go_ret
            rw [HF.out]
            exact ⟨rfl, hB0⟩
        · have e3' : ((wt : Int) == (wt' : Int)) = false := by simp; omega
          have HF : Hid (R = false) := Lib.hid (by rw [HD.out]; simp [e3])
          clear e1 e2 e3 HD
          go_wp2_with (first | (with_reducible refine hold_append ?_) | (with_reducible refine hold_make ?_) | (with_reducible refine hold_copy ?_))
          go_ret
          rw [HF.out]
          exact ⟨rfl, hB0⟩
      · have e2' : (com == com') = false := by simpa using e2
        have HF : Hid (R = false) := Lib.hid (by rw [HD.out]; simp [e2])
        clear e1 e2 HD
        go_wp2_with (first | (with_reducible refine hold_append ?_) | (with_reducible refine hold_make ?_) | (with_reducible refine hold_copy ?_))
        go_ret
        rw [HF.out]
        exact ⟨rfl, hB0⟩
    · have e1' : ((st : Int) == (st' : Int)) = false := by simp; omega
      have HF : Hid (R = false) := Lib.hid (by rw [HD.out]; simp [e1])
      clear e1 HD
      go_wp2_with (first | (with_reducible refine hold_append ?_) | (with_reducible refine hold_make ?_) | (with_reducible refine hold_copy ?_))
      go_ret
      rw [HF.out]
      exact ⟨rfl, hB0⟩
set_option maxRecDepth 20000 in
set_option maxHeartbeats 2000000 in
theorem gsame_any (G G' : Gl) (A : Option Addr) (n c : Nat) (A' : Option Addr) (n' c' : Nat) (B : Nat) (w : World) (hr : RdP w B A n c G.parts) (hr' : RdP w B A' n' c' G'.parts) (hB : B ≤ w.heap.size) (hn : n ≤ 140737488355328) (hn' : n' ≤ 140737488355328) :
    Calls Try.prog 29 #[.agg (glV G A n c), .agg (glV G' A' n' c')] w fun e w' => e = .returned (.bool (decide (G = G'))) ∧ Below w.heap.size w w' := by
  have sp := @equalparts_any
  have hsm := fun W hW => sp A n c G.parts A' n' c' G'.parts B W (hr.below' hW hB) (hr'.below' hW hB) (Nat.le_trans hB hW.size) hn hn'
  have HD : Hid (decide (G = G') = (decide (G.x = G'.x) && decide (G.st = G'.st) && decide (G.com = G'.com) && decide (G.wait = G'.wait) && decide (G.tries = G'.tries) && decide (G.parts = G'.parts))) := Lib.hid (by
    rw [Bool.eq_iff_iff]
    obtain ⟨a1, a2, a3, a4, a5, a6⟩ := G
    obtain ⟨b1, b2, b3, b4, b5, b6⟩ := G'
    simp only [Gl.mk.injEq, Bool.and_eq_true, decide_eq_true_eq]
    constructor
    · rintro ⟨rfl, rfl, rfl, rfl, rfl, rfl⟩; simp
    · rintro ⟨⟨⟨⟨⟨rfl, rfl⟩, rfl⟩, rfl⟩, rfl⟩, rfl⟩; simp)
  generalize decide (G = G') = R at *
  generalize decide (G.parts = G'.parts) = dp at *
  have heq := fun w => xid_eql G.x G'.x w
  obtain ⟨X, st, com, l, wt, tr⟩ := G
  obtain ⟨X', st', com', l', wt', tr'⟩ := G'
  simp only at hsm HD heq
  clear hr hr'
  generalize decide (X = X') = dx at *
  obtain ⟨f, g, h⟩ := X
  obtain ⟨f', g', h'⟩ := X'
  simp only [xdV, glV] at heq ⊢
  obtain ⟨hb0, hz0, hB0⟩ := box2_of w #[.int .u32 (f : Int), .string (str g), .string (str h), .int .u8 (st : Int), .bool com, .slice A n c, .int .u32 (wt : Int), .int .u32 (tr : Int)] #[.int .u32 (f' : Int), .string (str g'), .string (str h'), .int .u8 (st' : Int), .bool com', .slice A' n' c', .int .u32 (wt' : Int), .int .u32 (tr' : Int)] 28 28
  obtain ⟨w0, hw0⟩ : ∃ w0, w0 = ((w.alloc (.cells #[.int .u32 (f : Int), .string (str g), .string (str h), .int .u8 (st : Int), .bool com, .slice A n c, .int .u32 (wt : Int), .int .u32 (tr : Int)] 28)).alloc (.cells #[.int .u32 (f' : Int), .string (str g'), .string (str h'), .int .u8 (st' : Int), .bool com', .slice A' n' c', .int .u32 (wt' : Int), .int .u32 (tr' : Int)] 28)) := ⟨_, rfl⟩
  rw [← hw0] at hb0 hz0 hB0
  have hsm0 := hsm w0 hB0
  clear hsm
  have x0 := hb0.cell (j := 0) rfl
  have x1 := hb0.cell (j := 1) rfl
  have x2 := hb0.cell (j := 2) rfl
  have x3 := hb0.cell (j := 3) rfl
  have x4 := hb0.cell (j := 4) rfl
  have x5 := hb0.cell (j := 5) rfl
  have x6 := hb0.cell (j := 6) rfl
  have x7 := hb0.cell (j := 7) rfl
  have y0 := hz0.cell (j := 0) rfl
  have y1 := hz0.cell (j := 1) rfl
  have y2 := hz0.cell (j := 2) rfl
  have y3 := hz0.cell (j := 3) rfl
  have y4 := hz0.cell (j := 4) rfl
  have y5 := hz0.cell (j := 5) rfl
  have y6 := hz0.cell (j := 6) rfl
  have y7 := hz0.cell (j := 7) rfl
  go_enter Try.func29, Try.ntmps29
  go_upto_region 1 with fail
  rw [← hw0]
  clear hw0
  cases dx
  · have HF : Hid (R = false) := Lib.hid (by rw [HD.out]; simp)
    go_wp2_with (first | (with_reducible refine hold_append ?_) | (with_reducible refine hold_make ?_) | (with_reducible refine hold_copy ?_))
    go_ret
    rw [HF.out]
    exact ⟨rfl, hB0⟩
  · by_cases e1 : st = st'
    · have e1' : ((st : Int) == (st' : Int)) = true := by simp [e1]
      by_cases e2 : com = com'
      · have e2' : (com == com') = true := by simp [e2]
        by_cases e3 : wt = wt'
        · have e3' : ((wt : Int) == (wt' : Int)) = true := by simp [e3]
          by_cases e4 : tr = tr'
          · have e4' : ((tr : Int) == (tr' : Int)) = true := by simp [e4]
            have HF : Hid (R = dp) := Lib.hid (by rw [HD.out]; simp [e1, e2, e3, e4])
            clear e1 e2 e3 e4 HD
            go_wp2_with (first | (with_reducible refine hold_append ?_) | (with_reducible refine hold_make ?_) | (with_reducible refine hold_copy ?_))
            refine hsm0.mono ?_
            rintro e w1 ⟨rfl, hB1⟩
            go_wp2_with (first | (with_reducible refine hold_append ?_) | (with_reducible refine hold_make ?_) | (with_reducible refine hold_copy ?_))
            go_ret
            rw [HF.out]
            exact ⟨rfl, hB0.trans (hB1.mono hB0.size)⟩
          · have e4' : ((tr : Int) == (tr' : Int)) = false := by simp; omega
            have HF : Hid (R = false) := Lib.hid (by rw [HD.out]; simp [e4])
            clear e1 e2 e3 e4 HD
            go_wp2_with (first | (with_reducible refine hold_append ?_) | (with_reducible refine hold_make ?_) | (with_reducible refine hold_copy ?_))
            go_ret
            rw [HF.out]
            exact ⟨rfl, hB0⟩
        · have e3' : ((wt : Int) == (wt' : Int)) = false := by simp; omega
          have HF : Hid (R = false) := Lib.hid (by rw [HD.out]; simp [e3])
          clear e1 e2 e3 HD
          go_wp2_with (first | (with_reducible refine hold_append ?_) | (with_reducible refine hold_make ?_) | (with_reducible refine hold_copy ?_))
          go_ret
          rw [HF.out]
          exact ⟨rfl, hB0⟩
      · have e2' : (com == com') = false := by simpa using e2
        have HF : Hid (R = false) := Lib.hid (by rw [HD.out]; simp [e2])
        clear e1 e2 HD
        go_wp2_with (first | (with_reducible refine hold_append ?_) | (with_reducible refine hold_make ?_) | (with_reducible refine hold_copy ?_))
        go_ret
        rw [HF.out]
        exact ⟨rfl, hB0⟩
    · have e1' : ((st : Int) == (st' : Int)) = false := by simp; omega
      have HF : Hid (R = false) := Lib.hid (by rw [HD.out]; simp [e1])
      clear e1 HD
      go_wp2_with (first | (with_reducible refine hold_append ?_) | (with_reducible refine hold_make ?_) | (with_reducible refine hold_copy ?_))
      go_ret
      rw [HF.out]
      exact ⟨rfl, hB0⟩
end Go.PH
end
section
/- Reading parts, transactions, decisions, letters as the laws' arguments. -/
set_option linter.all false
set_option linter.unusedSimpArgs false
set_option linter.unusedVariables false
namespace Go.PH
open Go.RowKit Go.Proofs Go.ChangeShapes Go.WideShapes Go.ChangeAt Go.Deep
variable {H : Type} {enc : TypeId × Value → H} {W : World}

def RPart (p : Pt) (cs : List Value) : Prop := cs = ptC p ∧ p.wf
theorem cells5x {cs : List Value} {a b c d e : Value} (hl : cs.length = 5) (h0 : (cs.drop 0).take 1 = [a]) (h1 : (cs.drop 1).take 3 = [b, c, d]) (h2 : (cs.drop 4).take 1 = [e]) : cs = [a, b, c, d, e] := by
  match cs, hl with
  | [x, y, z, u, v], _ => simp_all
set_option maxRecDepth 20000 in
theorem reader_part : Reader enc Try.prog W 45 RPart := fun fuel cs d p h hw => by
  obtain ⟨hl, hf⟩ := trod_field Try.underlying45 h hw
  obtain ⟨n0, h0, w0⟩ := hf 0 _ rfl (reader_int (k := .u8) Try.underlying5)
  obtain ⟨x, h1, w1⟩ := hf 1 _ rfl reader_xid
  obtain ⟨n2, h2, w2⟩ := hf 2 _ rfl (reader_int (k := .u8) Try.underlying43)
  have b0 := bounds_u8 w0
  have b2 := bounds_u8 w2
  rw [(by kernel_rfl : Try.prog.cellsOf 45 = 5)] at hl
  have e0 : n0 = ((n0.toNat : Nat) : Int) := by omega
  have e2 : n2 = ((n2.toNat : Nat) : Int) := by omega
  rw [e0] at h0
  rw [e2] at h2
  exact ⟨⟨n0.toNat, x, n2.toNat⟩, cells5x hl h0 h1 h2, by show n0.toNat < 256; omega, w1, by show n2.toNat < 256; omega⟩
def RGl (W : World) (g : Gl) (cs : List Value) : Prop := ∃ A n c, cs = (glV g A n c).toList ∧ g.wf ∧ RdP W W.heap.size A n c g.parts ∧ n ≤ 140737488351232
theorem cells8x {cs : List Value} {a b c d e f g h : Value} (hl : cs.length = 8) (h0 : (cs.drop 0).take 3 = [a, b, c]) (h1 : (cs.drop 3).take 1 = [d]) (h2 : (cs.drop 4).take 1 = [e]) (h3 : (cs.drop 5).take 1 = [f]) (h4 : (cs.drop 6).take 1 = [g]) (h5 : (cs.drop 7).take 1 = [h]) : cs = [a, b, c, d, e, f, g, h] := by
  match cs, hl with
  | [x, y, z, u, v, r, s, t], _ => simp_all
set_option maxRecDepth 20000 in
theorem reader_global : Reader enc Try.prog W 28 (RGl W) := fun fuel cs d p h hw => by
  obtain ⟨hl, hf⟩ := trod_field Try.underlying28 h hw
  obtain ⟨x, h0, w0⟩ := hf 0 _ rfl reader_xid
  obtain ⟨n1, h1, w1⟩ := hf 1 _ rfl (reader_int (k := .u8) Try.underlying25)
  obtain ⟨b2, h2⟩ := hf 2 _ rfl (reader_bool Try.underlying4)
  obtain ⟨L, A, n, c, xs, h3, hR, hn, hk, hE⟩ := hf 3 _ rfl (reader_slice Try.underlying26 (by kernel_rfl : Try.prog.cellsOf 45 = 5) (by kernel_rfl : Try.prog.bytesOf 45 = 56) (by omega) reader_part)
  obtain ⟨n4, h4, w4⟩ := hf 4 _ rfl (reader_int (k := .u32) Try.underlying22)
  obtain ⟨n5, h5, w5⟩ := hf 5 _ rfl (reader_int (k := .u32) Try.underlying22)
  have c1 := bounds_u8 w1
  have c4 := bounds_u32 w4
  have c5 := bounds_u32 w5
  rw [(by kernel_rfl : Try.prog.cellsOf 28 = 8)] at hl
  have e1 : n1 = ((n1.toNat : Nat) : Int) := by omega
  have e4 : n4 = ((n4.toNat : Nat) : Int) := by omega
  have e5 : n5 = ((n5.toNat : Nat) : Int) := by omega
  rw [e1] at h1
  rw [e4] at h4
  rw [e5] at h5
  obtain ⟨hs, hwf⟩ := rec_of (C := Pt.wf) ptShape hR hn hE
  have hcap := hs.cap
  exact ⟨⟨x, n1.toNat, b2, L, n4.toNat, n5.toNat⟩, A, n, c, cells8x hl h0 h1 h2 h3 h4 h5, ⟨w0, by show n1.toNat < 256; omega, hwf, by show n4.toNat < 4294967296; omega, by show n5.toNat < 4294967296; omega⟩, hs, by omega⟩
def RDc (W : World) (d : Xd × List Pt) (cs : List Value) : Prop := ∃ A n c, cs = (dcV d.1 A n c).toList ∧ d.1.wf ∧ RdP W W.heap.size A n c d.2 ∧ (∀ p ∈ d.2, p.wf) ∧ n ≤ 140737488351232
theorem cells4x {cs : List Value} {a b c d : Value} (hl : cs.length = 4) (h0 : (cs.drop 0).take 3 = [a, b, c]) (h1 : (cs.drop 3).take 1 = [d]) : cs = [a, b, c, d] := by
  match cs, hl with
  | [x, y, z, u], _ => simp_all
set_option maxRecDepth 20000 in
theorem reader_decision : Reader enc Try.prog W 49 (RDc W) := fun fuel cs d p h hw => by
  obtain ⟨hl, hf⟩ := trod_field Try.underlying49 h hw
  obtain ⟨x, h0, w0⟩ := hf 0 _ rfl reader_xid
  obtain ⟨L, A, n, c, xs, h3, hR, hn, hk, hE⟩ := hf 1 _ rfl (reader_slice Try.underlying26 (by kernel_rfl : Try.prog.cellsOf 45 = 5) (by kernel_rfl : Try.prog.bytesOf 45 = 56) (by omega) reader_part)
  rw [(by kernel_rfl : Try.prog.cellsOf 49 = 4)] at hl
  obtain ⟨hs, hwf⟩ := rec_of (C := Pt.wf) ptShape hR hn hE
  have hcap := hs.cap
  exact ⟨(x, L), A, n, c, cells4x hl h0 h3, w0, hs, hwf, by omega⟩
def RLt (W : World) (l : Lt) (cs : List Value) : Prop := ∃ A n c, cs = (ltV l A n c).toList ∧ l.wf ∧ RdX W W.heap.size A n c l.names ∧ n ≤ 140737488351232
theorem cells7x {cs : List Value} {a b c d e f g : Value} (hl : cs.length = 7) (h0 : (cs.drop 0).take 1 = [a]) (h1 : (cs.drop 1).take 3 = [b, c, d]) (h2 : (cs.drop 4).take 1 = [e]) (h3 : (cs.drop 5).take 1 = [f]) (h4 : (cs.drop 6).take 1 = [g]) : cs = [a, b, c, d, e, f, g] := by
  match cs, hl with
  | [x, y, z, u, v, r, s], _ => simp_all
set_option maxRecDepth 20000 in
theorem reader_letter : Reader enc Try.prog W 33 (RLt W) := fun fuel cs d p h hw => by
  obtain ⟨hl, hf⟩ := trod_field Try.underlying33 h hw
  obtain ⟨n0, h0, w0⟩ := hf 0 _ rfl (reader_int (k := .u8) Try.underlying5)
  obtain ⟨x, h1, w1⟩ := hf 1 _ rfl reader_xid
  obtain ⟨n2, h2, w2⟩ := hf 2 _ rfl (reader_int (k := .u8) Try.underlying29)
  obtain ⟨n3, h3, w3⟩ := hf 3 _ rfl (reader_int (k := .u16) Try.underlying30)
  obtain ⟨L, A, n, c, xs, h4, hR, hn, hk, hE⟩ := hf 4 _ rfl (reader_slice Try.underlying31 (by kernel_rfl : Try.prog.cellsOf 24 = 3) (by kernel_rfl : Try.prog.bytesOf 24 = 40) (by omega) reader_xid)
  have c0 := bounds_u8 w0
  have c2 := bounds_u8 w2
  have c3 := bounds_u16 w3
  rw [(by kernel_rfl : Try.prog.cellsOf 33 = 7)] at hl
  have e0 : n0 = ((n0.toNat : Nat) : Int) := by omega
  have e2 : n2 = ((n2.toNat : Nat) : Int) := by omega
  have e3 : n3 = ((n3.toNat : Nat) : Int) := by omega
  rw [e0] at h0
  rw [e2] at h2
  rw [e3] at h3
  obtain ⟨hs, hwf⟩ := rec_of (C := Xd.wf) xdShape hR hn hE
  have hcap := hs.cap
  exact ⟨⟨n0.toNat, x, n2.toNat, n3.toNat, L⟩, A, n, c, cells7x hl h0 h1 h2 h3 h4, ⟨by show n0.toNat < 256; omega, w1, by show n2.toNat < 256; omega, by show n3.toNat < 65536; omega, hwf⟩, hs, by omega⟩
set_option maxRecDepth 20000 in
theorem see_global {d : DataW H} {ps : List MemPlace} {v : Value} {r : Reach} {b0 : Nat} (hval : Value.okWide Try.prog W r b0 28 v) (hd : DataW.Trod enc Try.prog W 0 (fun _ => true) true 28 v d ps)
    {ts : List TypeId} {ds : List (DataW H)} {j : Nat} (hz : (DataW.weightsEach Try.prog ts ds).all (· ≤ reachBytes) = true) (ht : ts[j]? = some 28) (hdj : ds[j]? = some d) : ∃ (g : Gl) (A : Option Addr) (n c : Nat), v = .agg (glV g A n c) ∧ g.wf ∧ RdP W W.heap.size A n c g.parts ∧ n ≤ 140737488351232 := by
  obtain ⟨cs, rfl, _⟩ := okWide_struct Try.underlying28 hval
  obtain ⟨g, A, n, c, h1, h2⟩ := see_arg reader_global hd hz ht hdj
  refine ⟨g, A, n, c, ?_, h2⟩
  simp only [Value.cells] at h1
  congr 1
  apply Array.ext'
  rw [h1]
set_option maxRecDepth 20000 in
theorem see_decision {d : DataW H} {ps : List MemPlace} {v : Value} {r : Reach} {b0 : Nat} (hval : Value.okWide Try.prog W r b0 49 v) (hd : DataW.Trod enc Try.prog W 0 (fun _ => true) true 49 v d ps)
    {ts : List TypeId} {ds : List (DataW H)} {j : Nat} (hz : (DataW.weightsEach Try.prog ts ds).all (· ≤ reachBytes) = true) (ht : ts[j]? = some 49) (hdj : ds[j]? = some d) : ∃ (g : Xd × List Pt) (A : Option Addr) (n c : Nat), v = .agg (dcV g.1 A n c) ∧ g.1.wf ∧ RdP W W.heap.size A n c g.2 ∧ (∀ p ∈ g.2, p.wf) ∧ n ≤ 140737488351232 := by
  obtain ⟨cs, rfl, _⟩ := okWide_struct Try.underlying49 hval
  obtain ⟨g, A, n, c, h1, h2⟩ := see_arg reader_decision hd hz ht hdj
  refine ⟨g, A, n, c, ?_, h2⟩
  simp only [Value.cells] at h1
  congr 1
  apply Array.ext'
  rw [h1]
set_option maxRecDepth 20000 in
theorem see_letter {d : DataW H} {ps : List MemPlace} {v : Value} {r : Reach} {b0 : Nat} (hval : Value.okWide Try.prog W r b0 33 v) (hd : DataW.Trod enc Try.prog W 0 (fun _ => true) true 33 v d ps)
    {ts : List TypeId} {ds : List (DataW H)} {j : Nat} (hz : (DataW.weightsEach Try.prog ts ds).all (· ≤ reachBytes) = true) (ht : ts[j]? = some 33) (hdj : ds[j]? = some d) : ∃ (g : Lt) (A : Option Addr) (n c : Nat), v = .agg (ltV g A n c) ∧ g.wf ∧ RdX W W.heap.size A n c g.names ∧ n ≤ 140737488351232 := by
  obtain ⟨cs, rfl, _⟩ := okWide_struct Try.underlying33 hval
  obtain ⟨g, A, n, c, h1, h2⟩ := see_arg reader_letter hd hz ht hdj
  refine ⟨g, A, n, c, ?_, h2⟩
  simp only [Value.cells] at h1
  congr 1
  apply Array.ext'
  rw [h1]
end Go.PH
end
section
/- Rows of acts: what a law of transactions is handed, read. -/
set_option linter.all false
set_option linter.unusedSimpArgs false
set_option linter.unusedVariables false
namespace Go.PH
open Go.RowKit Go.Proofs Go.ChangeShapes Go.WideShapes Go.ChangeAt Go.Deep
variable {H : Type} {enc : TypeId × Value → H} {W : World}

/-- an act: what happens, from which node, a letter, and where its names lie -/
structure AcR where
  what : Nat
  node : Nat
  l : Lt
  A : Option Addr
  n : Nat
  c : Nat
def acC (a : AcR) : List Value := [.int .u8 (a.what : Int), .int .u8 (a.node : Int), .int .u8 (a.l.kind : Int), .int .u32 (a.l.x.fmt : Int), .string (str a.l.x.glob), .string (str a.l.x.bran), .int .u8 (a.l.xa : Int), .int .u16 (a.l.no : Int), .slice a.A a.n a.c]
def AcR.wf (W : World) (a : AcR) : Prop := a.what < 256 ∧ a.node < 256 ∧ a.l.wf ∧ RdX W W.heap.size a.A a.n a.c a.l.names ∧ a.n ≤ 140737488351232
theorem acShape : RecShape acC 9 where
  len _ := rfl
  one a u hu := by simp [acC] at hu; rcases hu with rfl | rfl | rfl | rfl | rfl | rfl | rfl | rfl | rfl <;> rfl
  pos := by omega
def RAct (W : World) (a : AcR) (cs : List Value) : Prop := cs = acC a ∧ a.wf W
theorem cells9x {cs : List Value} {a b c d e f g h i : Value} (hl : cs.length = 9) (h0 : (cs.drop 0).take 1 = [a]) (h1 : (cs.drop 1).take 1 = [b]) (h2 : (cs.drop 2).take 7 = [c, d, e, f, g, h, i]) : cs = [a, b, c, d, e, f, g, h, i] := by
  match cs, hl with
  | [x, y, z, u, v, r, s, t, o], _ => simp_all
set_option maxRecDepth 20000 in
theorem reader_act : Reader enc Try.prog W 75 (RAct W) := fun fuel cs d p h hw => by
  obtain ⟨hl, hf⟩ := trod_field Try.underlying75 h hw
  obtain ⟨n0, h0, w0⟩ := hf 0 _ rfl (reader_int (k := .u8) Try.underlying5)
  obtain ⟨n1, h1, w1⟩ := hf 1 _ rfl (reader_int (k := .u8) Try.underlying5)
  obtain ⟨l, A, n, c, h2, hwf, hrx, hn⟩ := hf 2 _ rfl reader_letter
  have c0 := bounds_u8 w0
  have c1 := bounds_u8 w1
  rw [(by kernel_rfl : Try.prog.cellsOf 75 = 9)] at hl
  have e0 : n0 = ((n0.toNat : Nat) : Int) := by omega
  have e1 : n1 = ((n1.toNat : Nat) : Int) := by omega
  rw [e0] at h0
  rw [e1] at h1
  exact ⟨⟨n0.toNat, n1.toNat, l, A, n, c⟩, cells9x hl h0 h1 h2, by show n0.toNat < 256; omega, by show n1.toNat < 256; omega, hwf, hrx, hn⟩
end Go.PH
end

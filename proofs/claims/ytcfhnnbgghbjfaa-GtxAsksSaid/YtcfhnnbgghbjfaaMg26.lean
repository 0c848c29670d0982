/- Texts laid together: GtDec, GtGreat. -/
import Derived.Test.YtcfhnnbgghbjfaaMg02
import Derived.Test.YtcfhnnbgghbjfaaMg18
import Derived.Test.YtcfhnnbgghbjfaaMg21
import Derived.Test.YtcfhnnbgghbjfaaMg24
import Derived.Test.YtcfhnnbgghbjfaaMg25
section
/- The walks of gtx's Decision and of the reference's. -/
set_option linter.all false
set_option linter.unusedSimpArgs false
set_option linter.unusedVariables false
namespace Go.PH
open Go.RowKit Go.Proofs

/-- the parts that are ready -/
def dpl (l : List Pt) : List Pt := (l.filter fun p => decide (p.st = 1)).map fun p => ⟨p.node, p.x, 0⟩
theorem dpl_snoc (l : List Pt) (p : Pt) : dpl (l ++ [p]) = dpl l ++ (if p.st = 1 then [⟨p.node, p.x, 0⟩] else []) := by
  unfold dpl
  rw [List.filter_append, List.map_append]
  congr 1
  by_cases h : p.st = 1 <;> simp [h, List.filter_cons]
theorem dpl_len (l : List Pt) : (dpl l).length ≤ l.length := by
  unfold dpl
  rw [List.length_map]
  exact List.length_filter_le _ _
def DecR (w : World) (res : Xd × List Pt) (e : Ending) (w' : World) : Prop := ∃ A2 n2 c2, e = .returned (.agg (dcV res.1 A2 n2 c2)) ∧ OwnP w' w.heap.size A2 n2 c2 res.2 ∧ n2 ≤ 1000000000 ∧ Below w.heap.size w w'
theorem dec_one {f : Int} {g h : ByteArray} {A : Option Addr} {n c : Nat} : ∀ u ∈ [Value.int .u32 f, .string g, .string h, .slice A n c], u.oneCell' = true := by
  simp
  exact ⟨rfl, rfl, rfl, rfl⟩
set_option maxRecDepth 20000 in
set_option maxHeartbeats 4000000 in
theorem decision_any (G : Gl) (A : Option Addr) (n c : Nat) (B : Nat) (w : World) (hG : G.wf) (hr : RdP w B A n c G.parts) (hB : B ≤ w.heap.size) (hn : n ≤ 1000000000) :
    Calls Try.prog 19 #[.agg (glV G A n c)] w (DecR w G.decision) := by
  obtain ⟨RS, hRS⟩ : ∃ RS, RS = G.decision := ⟨_, rfl⟩
  rw [← hRS]
  have HRS : Hid (RS = if G.ok then (G.x, dpl G.parts) else (xd0', [])) := Lib.hid (by rw [hRS]; rfl)
  have hlen := rec_length ptShape hr
  have hck := fun W hW => gcheck_any G A n c B W hG (hr.below' hW hB) (Nat.le_trans hB hW.size) hn
  have HE : Hid (G.err = if G.ok then 0 else 270) := Lib.hid rfl
  have HLEN := Lib.hid hlen
  have hr0 := fun W (hW : Below w.heap.size w W) => hr.below' hW hB
  clear hRS hG hlen hr
  generalize G.err = er at *
  generalize G.ok = ok at *
  obtain ⟨⟨f, g, h⟩, st, com, pl, wt, tr⟩ := G
  simp only at HRS HLEN hr0
  unfold glV at hck ⊢
  simp only at hck ⊢
  obtain ⟨hG0, hZ0, hB0⟩ := box2_of w #[.int .u32 (f : Int), .string (str g), .string (str h), .int .u8 (st : Int), .bool com, .slice A n c, .int .u32 (wt : Int), .int .u32 (tr : Int)] #[.int .u32 0, .string ⟨#[]⟩, .string ⟨#[]⟩, .slice none 0 0] 28 49
  obtain ⟨w0, hw0⟩ : ∃ w0, w0 = ((w.alloc (.cells #[.int .u32 (f : Int), .string (str g), .string (str h), .int .u8 (st : Int), .bool com, .slice A n c, .int .u32 (wt : Int), .int .u32 (tr : Int)] 28)).alloc (.cells #[.int .u32 0, .string ⟨#[]⟩, .string ⟨#[]⟩, .slice none 0 0] 49)) := ⟨_, rfl⟩
  rw [← hw0] at hG0 hZ0 hB0
  have hck0 := hck w0 hB0
  clear hck
  have x0 := hG0.cell (j := 0) rfl
  have x1 := hG0.cell (j := 1) rfl
  have x2 := hG0.cell (j := 2) rfl
  have x3 := hG0.cell (j := 3) rfl
  have x4 := hG0.cell (j := 4) rfl
  have x5 := hG0.cell (j := 5) rfl
  have x6 := hG0.cell (j := 6) rfl
  have x7 := hG0.cell (j := 7) rfl
  go_enter Try.func19, Try.ntmps19
  go_upto_region 1 with fail
  rw [← hw0]
  clear hw0
  go_wp2_with (first | (with_reducible refine hold_append ?_) | (with_reducible refine hold_make ?_) | (with_reducible refine hold_copy ?_) | (with_reducible refine hold_store ?_))
  refine hck0.mono ?_
  rintro e w1 ⟨rfl, hB1⟩
  have hG1 := hG0.below hB1
  have hZ1 := hZ0.below hB1
  have hB01 := hB0.trans (hB1.mono hB0.size)
  clear hck0 hG0 hZ0 hB0 hB1 x0 x1 x2 x3 x4 x5 x6 x7
  cases ok
  · obtain rfl : er = 270 := by have := HE.out; simpa using this
    have HRES : Hid (RS = (xd0', [])) := Lib.hid (by rw [HRS.out]; simp)
    go_wp2_with (first | (with_reducible refine hold_append ?_) | (with_reducible refine hold_make ?_) | (with_reducible refine hold_copy ?_) | (with_reducible refine hold_store ?_))
    refine unhold (wp_box (v := .agg #[.int .u32 0, .string ⟨#[]⟩, .string ⟨#[]⟩, .slice none 0 0]) (vs := [.int .u32 0, .string ⟨#[]⟩, .string ⟨#[]⟩, .slice none 0 0]) rfl rfl rfl rfl hZ1 rfl (by kernel_rfl) (by simp) dec_one #[.int .u32 0, .string ⟨#[]⟩, .string ⟨#[]⟩, .slice none 0 0] (by simp) ?_)
    intro w9 hb9 hg9 _
    have hB9 := below_box hB01 hg9 (by omega)
    go_wp2_with (first | (with_reducible refine hold_append ?_) | (with_reducible refine hold_make ?_) | (with_reducible refine hold_copy ?_))
    refine ret_box1 rfl hb9 rfl Try.underlying49 rfl (by kernel_rfl) rfl ?_
    rw [HRES.out]
    exact ⟨none, 0, 0, rfl, Own.none_ _ _ _ _, by omega, hB9⟩
  · obtain rfl : er = 0 := by have := HE.out; simpa using this
    have HRM : Hid (RS = (⟨f, g, h⟩, dpl pl)) := Lib.hid (by rw [HRS.out]; simp)
    clear HRS HE
    have x0 := hG1.cell (j := 0) rfl
    have x1 := hG1.cell (j := 1) rfl
    have x2 := hG1.cell (j := 2) rfl
    have hzr := hZ1.lt
    have hC := Box.new w1 #[.int .u32 (f : Int), .string (str g), .string (str h), .slice none 0 0] 49
    have hBC := hB01.alloc hB01.size (.cells #[.int .u32 (f : Int), .string (str g), .string (str h), .slice none 0 0] 49)
    have hGC := hG1.alloc (.cells #[.int .u32 (f : Int), .string (str g), .string (str h), .slice none 0 0] 49)
    have hZC := hZ1.alloc (.cells #[.int .u32 (f : Int), .string (str g), .string (str h), .slice none 0 0] 49)
    go_upto_region 4 with fail
    generalize hbc : w1.heap.size = bc at *
    generalize (w1.alloc (.cells #[.int .u32 (f : Int), .string (str g), .string (str h), .slice none 0 0] 49)) = wq at *
    clear x0 x1 x2 hB01 hZ1 hG1 hbc
    have x5 := hGC.cell (j := 5) rfl
    go_wp2_with (first | (with_reducible refine hold_append ?_) | (with_reducible refine hold_make ?_) | (with_reducible refine hold_copy ?_))
    go_loopw [16] (fun s wr => ∃ (k m2 c3 : Nat) (A3 : Option Addr), k ≤ n ∧ s = .int .i64 k ∧ m2 ≤ k ∧ OwnP wr (bc + 1) A3 m2 c3 (dpl (pl.take k)) ∧ Box wr bc 49 #[.int .u32 (f : Int), .string (str g), .string (str h), .slice A3 m2 c3] ∧ Box wr (w.heap.size + 1) 49 #[.int .u32 0, .string ⟨#[]⟩, .string ⟨#[]⟩, .slice none 0 0] ∧ Below w.heap.size w wr) (fun s _ => n - (RowKit.intOf s).toNat)
    case atStart => exact ⟨0, 0, 0, none, by omega, rfl, by omega, Own.none_ _ _ _ _, hC, hZC, hBC⟩
    case round =>
      clear hC hZC hBC hGC x5
      obtain ⟨k, m2, c3, A3, hk, rfl, hm2, hor, hCr, hZr, hBr⟩ := hrel
      have hHz := hBr.size
      have hClt := hCr.lt
      by_cases hlt : k < n
      · have hkn : (k : Int) < (n : Int) := by omega
        obtain ⟨b, off, rfl, hbB, hkl, hc⟩ := rec_at ptShape (hr0 wr hBr) hlt
        have HTK : Hid (dpl (pl.take (k + 1)) = dpl (pl.take k) ++ (if pl[k].st = 1 then [⟨pl[k].node, pl[k].x, 0⟩] else [])) := Lib.hid (by rw [List.take_succ_eq_append_getElem hkl, dpl_snoc])
        generalize pl[k] = p at *
        obtain ⟨pn, ⟨xf, xg, xh⟩, ps⟩ := p
        simp only at HTK
        have k0 := hc 0 _ rfl
        have k1 := hc 1 _ rfl
        have k2 := hc 2 _ rfl
        have k3 := hc 3 _ rfl
        have k4 := hc 4 _ rfl
        simp only [Nat.add_zero] at k0 k1 k2 k3 k4
        clear hc
        have hPp := Box.new wr #[.int .u8 (pn : Int), .int .u32 (xf : Int), .string (str xg), .string (str xh), .int .u8 (ps : Int)] 45
        have hBp := hBr.alloc hBr.size (.cells #[.int .u8 (pn : Int), .int .u32 (xf : Int), .string (str xg), .string (str xh), .int .u8 (ps : Int)] 45)
        have hCp := hCr.alloc (.cells #[.int .u8 (pn : Int), .int .u32 (xf : Int), .string (str xg), .string (str xh), .int .u8 (ps : Int)] 45)
        have hZp := hZr.alloc (.cells #[.int .u8 (pn : Int), .int .u32 (xf : Int), .string (str xg), .string (str xh), .int .u8 (ps : Int)] 45)
        have hop : OwnP (wr.alloc (.cells #[.int .u8 (pn : Int), .int .u32 (xf : Int), .string (str xg), .string (str xh), .int .u8 (ps : Int)] 45)) (bc + 1) A3 m2 c3 (dpl (pl.take k)) := hor.alloc (.cells #[.int .u8 (pn : Int), .int .u32 (xf : Int), .string (str xg), .string (str xh), .int .u8 (ps : Int)] 45)
        go_upto_region 7 with fail
        clear k0 k1 k2 k3 k4 hor hBr hCr hZr
        generalize (wr.alloc (.cells #[.int .u8 (pn : Int), .int .u32 (xf : Int), .string (str xg), .string (str xh), .int .u8 (ps : Int)] 45)) = wp at *
        have y0 := hPp.cell (j := 0) rfl
        have y1 := hPp.cell (j := 1) rfl
        have y2 := hPp.cell (j := 2) rfl
        have y3 := hPp.cell (j := 3) rfl
        have y4 := hPp.cell (j := 4) rfl
        have z3 := hCp.cell (j := 3) rfl
        have hBps := hBp.size
        have hClt := hCp.lt
        have hZlt := hZp.lt
        by_cases p1 : ps = 1
        · have f1 : ((ps : Int) == 1) = true := by simp; omega
          have HAP : Hid (dpl (pl.take (k + 1)) = dpl (pl.take k) ++ [⟨pn, ⟨xf, xg, xh⟩, 0⟩]) := Lib.hid (by rw [HTK.out, if_pos p1])
          clear HTK p1
          go_wp2_with (first | (with_reducible refine hold_append ?_) | (with_reducible refine hold_make ?_) | (with_reducible refine hold_copy ?_) | (with_reducible refine hold_store ?_))
          refine unhold (wp_rec ptShape slP Try.underlying26 rfl rfl rfl rfl rfl (⟨pn, ⟨xf, xg, xh⟩, 0⟩ : Pt) rfl hop (by omega) (by omega) (by omega) ?_)
          intro A4 c4 w4 ho4 hg4 _ _
          rw [← HAP.out] at ho4
          have hnb : ∀ g', blk A3 = some g' → bc + 1 ≤ g' := fun g' hg' => (Own.blk_lt hop hg').1
          have hB4 := hBp.grown hg4 hBp.size (fun g' hg' => by have := hnb g' hg'; omega)
          have hC4 := hCp.grown hg4 (by intro e; have := hnb _ e.symm; omega)
          have hZ4 := hZp.grown hg4 (by intro e; have := hnb _ e.symm; omega)
          clear y0 y1 y2 y3 y4 z3 hCp hZp hBp hop hPp f1
          go_wp2_with (first | (with_reducible refine hold_append ?_) | (with_reducible refine hold_make ?_) | (with_reducible refine hold_copy ?_) | (with_reducible refine hold_store ?_))
          refine unhold (wp_box (v := .slice A4 (m2 + 1) c4) (vs := [.slice A4 (m2 + 1) c4]) rfl rfl rfl rfl hC4 rfl (by kernel_rfl) (by simp) (by simp; rfl) #[.int .u32 (f : Int), .string (str g), .string (str h), .slice A4 (m2 + 1) c4] (by simp) ?_)
          intro w5 hC5 hg5 _
          have hB5 := below_box hB4 hg5 (by omega)
          have hZ5 := hZ4.grown hg5 (by intro e; injection e with e; omega)
          have ho5 := own_box ho4 hg5 (by omega)
          go_wp2_with (first | (with_reducible refine hold_append ?_) | (with_reducible refine hold_make ?_) | (with_reducible refine hold_copy ?_))
          exact ⟨⟨k + 1, m2 + 1, c4, A4, by omega, by go_num, by omega, ho5, hC5, hZ5, hB5⟩, by simp [RowKit.intOf]; omega⟩
        · have f1 : ((ps : Int) == 1) = false := by simp; omega
          have HAP : Hid (dpl (pl.take (k + 1)) = dpl (pl.take k)) := Lib.hid (by rw [HTK.out, if_neg p1, List.append_nil])
          clear HTK p1
          rw [← HAP.out] at hop
          go_wp2_with (first | (with_reducible refine hold_append ?_) | (with_reducible refine hold_make ?_) | (with_reducible refine hold_copy ?_))
          exact ⟨⟨k + 1, m2, c3, A3, by omega, by go_num, by omega, hop, hCp, hZp, hBp⟩, by simp [RowKit.intOf]; omega⟩
      · have hkk : n = k := by omega
        subst hkk
        have HALL : Hid (RS = (⟨f, g, h⟩, dpl (pl.take n))) := Lib.hid (by rw [HRM.out, List.take_of_length_le (by rw [HLEN.out]; exact Nat.le_refl _)])
        have z0 := hCr.cell (j := 0) rfl
        have z1 := hCr.cell (j := 1) rfl
        have z2 := hCr.cell (j := 2) rfl
        have z3 := hCr.cell (j := 3) rfl
        go_wp2_with (first | (with_reducible refine hold_append ?_) | (with_reducible refine hold_make ?_) | (with_reducible refine hold_copy ?_) | (with_reducible refine hold_store ?_))
        refine unhold (wp_box (v := .agg #[.int .u32 (f : Int), .string (str g), .string (str h), .slice A3 m2 c3]) (vs := [.int .u32 (f : Int), .string (str g), .string (str h), .slice A3 m2 c3]) rfl rfl rfl rfl hZr rfl (by kernel_rfl) (by simp) dec_one #[.int .u32 (f : Int), .string (str g), .string (str h), .slice A3 m2 c3] (by simp) ?_)
        intro w9 hb9 hg9 _
        have hB9 := below_box hBr hg9 (by omega)
        have ho9 := own_box hor hg9 (by omega)
        go_wp2_with (first | (with_reducible refine hold_append ?_) | (with_reducible refine hold_make ?_) | (with_reducible refine hold_copy ?_))
        refine ret_box1 rfl hb9 rfl Try.underlying49 rfl (by kernel_rfl) rfl ?_
        rw [HALL.out]
        exact ⟨A3, m2, c3, rfl, Own.base_le ho9 (by omega), by omega, hB9⟩
set_option maxRecDepth 20000 in
set_option maxHeartbeats 4000000 in
theorem rdecision_any (G : Gl) (A : Option Addr) (n c : Nat) (B : Nat) (w : World) (hG : G.wf) (hr : RdP w B A n c G.parts) (hB : B ≤ w.heap.size) (hn : n ≤ 1000000000) :
    Calls Try.prog 20 #[.agg (glV G A n c)] w (DecR w G.decision) := by
  obtain ⟨RS, hRS⟩ : ∃ RS, RS = G.decision := ⟨_, rfl⟩
  rw [← hRS]
  have HRS : Hid (RS = if G.ok then (G.x, dpl G.parts) else (xd0', [])) := Lib.hid (by rw [hRS]; rfl)
  have hlen := rec_length ptShape hr
  have hck := fun W hW => rgcheck_any G A n c B W hG (hr.below' hW hB) (Nat.le_trans hB hW.size) hn
  have HE : Hid (G.err = if G.ok then 0 else 270) := Lib.hid rfl
  have HLEN := Lib.hid hlen
  have hr0 := fun W (hW : Below w.heap.size w W) => hr.below' hW hB
  clear hRS hG hlen hr
  generalize G.err = er at *
  generalize G.ok = ok at *
  obtain ⟨⟨f, g, h⟩, st, com, pl, wt, tr⟩ := G
  simp only at HRS HLEN hr0
  unfold glV at hck ⊢
  simp only at hck ⊢
  obtain ⟨hG0, hZ0, hB0⟩ := box2_of w #[.int .u32 (f : Int), .string (str g), .string (str h), .int .u8 (st : Int), .bool com, .slice A n c, .int .u32 (wt : Int), .int .u32 (tr : Int)] #[.int .u32 0, .string ⟨#[]⟩, .string ⟨#[]⟩, .slice none 0 0] 28 49
  obtain ⟨w0, hw0⟩ : ∃ w0, w0 = ((w.alloc (.cells #[.int .u32 (f : Int), .string (str g), .string (str h), .int .u8 (st : Int), .bool com, .slice A n c, .int .u32 (wt : Int), .int .u32 (tr : Int)] 28)).alloc (.cells #[.int .u32 0, .string ⟨#[]⟩, .string ⟨#[]⟩, .slice none 0 0] 49)) := ⟨_, rfl⟩
  rw [← hw0] at hG0 hZ0 hB0
  have hck0 := hck w0 hB0
  clear hck
  have x0 := hG0.cell (j := 0) rfl
  have x1 := hG0.cell (j := 1) rfl
  have x2 := hG0.cell (j := 2) rfl
  have x3 := hG0.cell (j := 3) rfl
  have x4 := hG0.cell (j := 4) rfl
  have x5 := hG0.cell (j := 5) rfl
  have x6 := hG0.cell (j := 6) rfl
  have x7 := hG0.cell (j := 7) rfl
  go_enter Try.func20, Try.ntmps20
  go_upto_region 1 with fail
  rw [← hw0]
  clear hw0
  go_wp2_with (first | (with_reducible refine hold_append ?_) | (with_reducible refine hold_make ?_) | (with_reducible refine hold_copy ?_) | (with_reducible refine hold_store ?_))
  refine hck0.mono ?_
  rintro e w1 ⟨rfl, hB1⟩
  have hG1 := hG0.below hB1
  have hZ1 := hZ0.below hB1
  have hB01 := hB0.trans (hB1.mono hB0.size)
  clear hck0 hG0 hZ0 hB0 hB1 x0 x1 x2 x3 x4 x5 x6 x7
  cases ok
  · obtain rfl : er = 270 := by have := HE.out; simpa using this
    have HRES : Hid (RS = (xd0', [])) := Lib.hid (by rw [HRS.out]; simp)
    go_wp2_with (first | (with_reducible refine hold_append ?_) | (with_reducible refine hold_make ?_) | (with_reducible refine hold_copy ?_) | (with_reducible refine hold_store ?_))
    refine unhold (wp_box (v := .agg #[.int .u32 0, .string ⟨#[]⟩, .string ⟨#[]⟩, .slice none 0 0]) (vs := [.int .u32 0, .string ⟨#[]⟩, .string ⟨#[]⟩, .slice none 0 0]) rfl rfl rfl rfl hZ1 rfl (by kernel_rfl) (by simp) dec_one #[.int .u32 0, .string ⟨#[]⟩, .string ⟨#[]⟩, .slice none 0 0] (by simp) ?_)
    intro w9 hb9 hg9 _
    have hB9 := below_box hB01 hg9 (by omega)
    go_wp2_with (first | (with_reducible refine hold_append ?_) | (with_reducible refine hold_make ?_) | (with_reducible refine hold_copy ?_))
    refine ret_box1 rfl hb9 rfl Try.underlying49 rfl (by kernel_rfl) rfl ?_
    rw [HRES.out]
    exact ⟨none, 0, 0, rfl, Own.none_ _ _ _ _, by omega, hB9⟩
  · obtain rfl : er = 0 := by have := HE.out; simpa using this
    have HRM : Hid (RS = (⟨f, g, h⟩, dpl pl)) := Lib.hid (by rw [HRS.out]; simp)
    clear HRS HE
    have x0 := hG1.cell (j := 0) rfl
    have x1 := hG1.cell (j := 1) rfl
    have x2 := hG1.cell (j := 2) rfl
    have hzr := hZ1.lt
    have hC := Box.new w1 #[.int .u32 (f : Int), .string (str g), .string (str h), .slice none 0 0] 49
    have hBC := hB01.alloc hB01.size (.cells #[.int .u32 (f : Int), .string (str g), .string (str h), .slice none 0 0] 49)
    have hGC := hG1.alloc (.cells #[.int .u32 (f : Int), .string (str g), .string (str h), .slice none 0 0] 49)
    have hZC := hZ1.alloc (.cells #[.int .u32 (f : Int), .string (str g), .string (str h), .slice none 0 0] 49)
    go_upto_region 4 with fail
    generalize hbc : w1.heap.size = bc at *
    generalize (w1.alloc (.cells #[.int .u32 (f : Int), .string (str g), .string (str h), .slice none 0 0] 49)) = wq at *
    clear x0 x1 x2 hB01 hZ1 hG1 hbc
    go_wp2_with (first | (with_reducible refine hold_append ?_) | (with_reducible refine hold_make ?_) | (with_reducible refine hold_copy ?_))
    go_loopw [4] (fun s wr => ∃ (k m2 c3 : Nat) (A3 : Option Addr), k ≤ n ∧ s = .int .i64 k ∧ m2 ≤ k ∧ OwnP wr (bc + 1) A3 m2 c3 (dpl (pl.take k)) ∧ Box wr bc 49 #[.int .u32 (f : Int), .string (str g), .string (str h), .slice A3 m2 c3] ∧ Box wr (w.heap.size + 1) 49 #[.int .u32 0, .string ⟨#[]⟩, .string ⟨#[]⟩, .slice none 0 0] ∧ Box wr w.heap.size 28 #[.int .u32 (f : Int), .string (str g), .string (str h), .int .u8 (st : Int), .bool com, .slice A n c, .int .u32 (wt : Int), .int .u32 (tr : Int)] ∧ Below w.heap.size w wr) (fun s _ => n - (RowKit.intOf s).toNat)
    case atStart => exact ⟨0, 0, 0, none, by omega, rfl, by omega, Own.none_ _ _ _ _, hC, hZC, hGC, hBC⟩
    case round =>
      clear hC hZC hBC hGC
      obtain ⟨k, m2, c3, A3, hk, rfl, hm2, hor, hCr, hZr, hGr, hBr⟩ := hrel
      have hHz := hBr.size
      have hClt := hCr.lt
      have x5 := hGr.cell (j := 5) rfl
      by_cases hlt : k < n
      · have hkn : (k : Int) < (n : Int) := by omega
        obtain ⟨b, off, rfl, hbB, hkl, hc⟩ := rec_at ptShape (hr0 wr hBr) hlt
        have HTK : Hid (dpl (pl.take (k + 1)) = dpl (pl.take k) ++ (if pl[k].st = 1 then [⟨pl[k].node, pl[k].x, 0⟩] else [])) := Lib.hid (by rw [List.take_succ_eq_append_getElem hkl, dpl_snoc])
        generalize pl[k] = p at *
        obtain ⟨pn, ⟨xf, xg, xh⟩, ps⟩ := p
        simp only at HTK
        have hbw : b < w.heap.size := Nat.lt_of_lt_of_le hbB hB
        have hw : ∀ j u, (ptC ⟨pn, ⟨xf, xg, xh⟩, ps⟩)[j]? = some u → ∀ W, Below w.heap.size w W → W.cell? ⟨b, off + k * 5 + j, none⟩ = some u := fun j u hu W hW => (hW.cell (p := ⟨b, off + k * 5 + j, none⟩) hbw).trans ((hBr.cell (p := ⟨b, off + k * 5 + j, none⟩) hbw).symm.trans (hc j u hu))
        have hkc : (∀ W, Below w.heap.size w W → W.cell? ⟨b, off + k * 5, none⟩ = some (.int .u8 (pn : Int))) ∧ (∀ W, Below w.heap.size w W → W.cell? ⟨b, off + k * 5 + 1, none⟩ = some (.int .u32 (xf : Int))) ∧ (∀ W, Below w.heap.size w W → W.cell? ⟨b, off + k * 5 + 2, none⟩ = some (.string (str xg))) ∧ (∀ W, Below w.heap.size w W → W.cell? ⟨b, off + k * 5 + 3, none⟩ = some (.string (str xh))) := ⟨hw 0 _ rfl, hw 1 _ rfl, hw 2 _ rfl, hw 3 _ rfl⟩
        have k4 := hw 4 _ rfl wr hBr
        clear hc hw
        by_cases p1 : ps = 1
        · have f1 : ((ps : Int) == 1) = true := by simp; omega
          have HAP : Hid (dpl (pl.take (k + 1)) = dpl (pl.take k) ++ [⟨pn, ⟨xf, xg, xh⟩, 0⟩]) := Lib.hid (by rw [HTK.out, if_pos p1])
          clear HTK p1
          have hkc2 := Lib.hid hkc
          clear hkc
          go_upto_region 8 with fail
          have hkc := hkc2.out
          clear x5 k4 f1 hkc2
          refine rg_start (fun W : World => Box W w.heap.size 28 #[.int .u32 (f : Int), .string (str g), .string (str h), .int .u8 (st : Int), .bool com, .slice (some ⟨b, off, none⟩) n c, .int .u32 (wt : Int), .int .u32 (tr : Int)] ∧ Below w.heap.size w W) (by kernel_rfl) ?_
          have hS : Box wr.drew w.heap.size 28 #[.int .u32 (f : Int), .string (str g), .string (str h), .int .u8 (st : Int), .bool com, .slice (some ⟨b, off, none⟩) n c, .int .u32 (wt : Int), .int .u32 (tr : Int)] ∧ Below w.heap.size w wr.drew := ⟨hGr, below_drewN hBr 1⟩
          have hCd : Box wr.drew bc 49 #[.int .u32 (f : Int), .string (str g), .string (str h), .slice A3 m2 c3] := hCr
          have hZd : Box wr.drew (w.heap.size + 1) 49 #[.int .u32 0, .string ⟨#[]⟩, .string ⟨#[]⟩, .slice none 0 0] := hZr
          have hod : OwnP wr.drew (bc + 1) A3 m2 c3 (dpl (pl.take k)) := Own.drewN hor 1
          generalize wr.drew = wd at *
          clear hCr hZr hor hGr hBr hHz hClt
          have hHz := hS.2.size
          have hClt := hCd.lt
          have hZlt := hZd.lt
          refine rg_take 0 (v := ?_) rfl (by kernel_rfl) (by kernel_rfl) (by kernel_rfl) hS rfl ?_ ?_
          rotate_left
          · intro wS hSw; go_simp; (with_reducible rfl)
          simp only [List.getElem_toArray, List.getElem_cons_zero, Act.put, List.setIfInBounds_toArray, List.set_cons_zero, List.set_cons_succ]
          refine rg_take 2 (v := ?_) rfl (by kernel_rfl) (by kernel_rfl) (by kernel_rfl) hS rfl ?_ ?_
          rotate_left
          · intro wS hSw; go_simp; (with_reducible rfl)
          simp only [List.getElem_toArray, List.getElem_cons_succ, List.getElem_cons_zero, Act.put, List.setIfInBounds_toArray, List.set_cons_zero, List.set_cons_succ]
          refine rg_take 3 (v := ?_) rfl (by kernel_rfl) (by kernel_rfl) (by kernel_rfl) hS rfl ?_ ?_
          rotate_left
          · intro wS hSw
            have k5 := hSw.1.cell (j := 5) rfl
            go_simp
            (with_reducible rfl)
          simp only [List.getElem_toArray, List.getElem_cons_succ, List.getElem_cons_zero, Act.put, List.setIfInBounds_toArray, List.set_cons_zero, List.set_cons_succ]
          refine rg_take 4 (v := ?_) rfl (by kernel_rfl) (by kernel_rfl) (by kernel_rfl) hS rfl ?_ ?_
          rotate_left
          · intro wS hSw; go_simp; (with_reducible rfl)
          simp only [List.getElem_toArray, List.getElem_cons_succ, List.getElem_cons_zero, Act.put, List.setIfInBounds_toArray, List.set_cons_zero, List.set_cons_succ]
          refine rg_take 5 (v := ?_) rfl (by kernel_rfl) (by kernel_rfl) (by kernel_rfl) hS rfl ?_ ?_
          rotate_left
          · intro wS hSw; go_simp; (with_reducible rfl)
          simp only [List.getElem_toArray, List.getElem_cons_succ, List.getElem_cons_zero, Act.put, List.setIfInBounds_toArray, List.set_cons_zero, List.set_cons_succ]
          refine rg_take 6 (v := ?_) rfl (by kernel_rfl) (by kernel_rfl) (by kernel_rfl) hS rfl ?_ ?_
          rotate_left
          · intro wS hSw; go_simp; (with_reducible rfl)
          simp only [List.getElem_toArray, List.getElem_cons_succ, List.getElem_cons_zero, Act.put, List.setIfInBounds_toArray, List.set_cons_zero, List.set_cons_succ]
          refine rg_take 7 (v := ?_) rfl (by kernel_rfl) (by kernel_rfl) (by kernel_rfl) hS rfl ?_ ?_
          rotate_left
          · intro wS hSw
            have k0 := hkc.1 _ hSw.2
            have k1 := hkc.2.1 _ hSw.2
            have k2 := hkc.2.2.1 _ hSw.2
            have k3 := hkc.2.2.2 _ hSw.2
            go_simp
            (with_reducible rfl)
          simp only [List.getElem_toArray, List.getElem_cons_succ, List.getElem_cons_zero, Act.put, List.setIfInBounds_toArray, List.set_cons_zero, List.set_cons_succ]
          refine rg_take 8 (v := ?_) rfl (by kernel_rfl) (by kernel_rfl) (by kernel_rfl) hS rfl ?_ ?_
          rotate_left
          · intro wS hSw; go_simp; (with_reducible rfl)
          simp only [List.getElem_toArray, List.getElem_cons_succ, List.getElem_cons_zero, Act.put, List.setIfInBounds_toArray, List.set_cons_zero, List.set_cons_succ]
          refine rg_take 9 (v := ?_) rfl (by kernel_rfl) (by kernel_rfl) (by kernel_rfl) hS rfl ?_ ?_
          rotate_left
          · intro wS hSw
            have k5 := hSw.1.cell (j := 5) rfl
            go_simp
            (with_reducible rfl)
          simp only [List.getElem_toArray, List.getElem_cons_succ, List.getElem_cons_zero, Act.put, List.setIfInBounds_toArray, List.set_cons_zero, List.set_cons_succ]
          refine rg_take 10 (v := ?_) rfl (by kernel_rfl) (by kernel_rfl) (by kernel_rfl) hS rfl ?_ ?_
          rotate_left
          · intro wS hSw; go_simp; (with_reducible rfl)
          simp only [List.getElem_toArray, List.getElem_cons_succ, List.getElem_cons_zero, Act.put, List.setIfInBounds_toArray, List.set_cons_zero, List.set_cons_succ]
          refine rg_take 11 (v := ?_) rfl (by kernel_rfl) (by kernel_rfl) (by kernel_rfl) hS rfl ?_ ?_
          rotate_left
          · intro wS hSw; go_simp; (with_reducible rfl)
          simp only [List.getElem_toArray, List.getElem_cons_succ, List.getElem_cons_zero, Act.put, List.setIfInBounds_toArray, List.set_cons_zero, List.set_cons_succ]
          refine rg_take 12 (v := ?_) rfl (by kernel_rfl) (by kernel_rfl) (by kernel_rfl) hS rfl ?_ ?_
          rotate_left
          · intro wS hSw; go_simp; (with_reducible rfl)
          simp only [List.getElem_toArray, List.getElem_cons_succ, List.getElem_cons_zero, Act.put, List.setIfInBounds_toArray, List.set_cons_zero, List.set_cons_succ]
          refine rg_take 13 (v := ?_) rfl (by kernel_rfl) (by kernel_rfl) (by kernel_rfl) hS rfl ?_ ?_
          rotate_left
          · intro wS hSw
            have k0 := hkc.1 _ hSw.2
            have k1 := hkc.2.1 _ hSw.2
            have k2 := hkc.2.2.1 _ hSw.2
            have k3 := hkc.2.2.2 _ hSw.2
            go_simp
            (with_reducible rfl)
          simp only [List.getElem_toArray, List.getElem_cons_succ, List.getElem_cons_zero, Act.put, List.setIfInBounds_toArray, List.set_cons_zero, List.set_cons_succ]
          refine rg_take 14 (v := ?_) rfl (by kernel_rfl) (by kernel_rfl) (by kernel_rfl) hS rfl ?_ ?_
          rotate_left
          · intro wS hSw; go_simp; (with_reducible rfl)
          simp only [List.getElem_toArray, List.getElem_cons_succ, List.getElem_cons_zero, Act.put, List.setIfInBounds_toArray, List.set_cons_zero, List.set_cons_succ]
          have z3 := hCd.cell (j := 3) rfl
          refine rg_two 1 15 rfl rfl (by kernel_rfl) rfl rfl (fun K hK => ?_) (fun K hK => ?_)
          · go_simp
            refine hK _ _ hS ?_
            clear hK K
            refine rg_one 15 rfl (by kernel_rfl) rfl (fun K hK => ?_)
            go_simp
            refine hK _ _ ⟨hS.1.alloc _, hS.2.alloc hS.2.size _⟩ ?_
            clear hK K z3
            refine rg_one 16 rfl (by kernel_rfl) rfl (fun K hK => ?_)
            refine op_rec (W := wd) ptShape slP Try.underlying26 rfl rfl rfl rfl (⟨pn, ⟨xf, xg, xh⟩, 0⟩ : Pt) rfl hod (by omega) (by omega) (by omega) ?_
            intro A4 c4 w4 ho4 hg4 _ _
            rw [← HAP.out] at ho4
            have hnb : ∀ g', blk A3 = some g' → bc + 1 ≤ g' := fun g' hg' => (Own.blk_lt hod hg').1
            have hB4 := hS.2.grown hg4 hS.2.size (fun g' hg' => by have := hnb g' hg'; omega)
            have hG4 := hS.1.grown hg4 (by intro e; have := hnb _ e.symm; omega)
            have hC4 := hCd.grown hg4 (by intro e; have := hnb _ e.symm; omega)
            have hZ4 := hZd.grown hg4 (by intro e; have := hnb _ e.symm; omega)
            refine hK _ _ ⟨hG4, hB4⟩ ?_
            clear hK K
            refine rg_one 17 rfl (by kernel_rfl) rfl (fun K hK => ?_)
            go_simp
            refine hK _ _ ⟨hG4, hB4⟩ ?_
            clear hK K
            refine rg_one 18 rfl (by kernel_rfl) rfl (fun K hK => ?_)
            refine op_box (v := .slice A4 (m2 + 1) c4) (vs := [.slice A4 (m2 + 1) c4]) rfl rfl rfl hC4 rfl (by kernel_rfl) (by simp) (by simp; rfl) #[.int .u32 (f : Int), .string (str g), .string (str h), .slice A4 (m2 + 1) c4] (by simp) ?_
            intro w5 hC5 hg5 _
            have hB5 := below_box hB4 hg5 (by omega)
            have hG5 := hG4.grown hg5 (by intro e; injection e with e; omega)
            have hZ5 := hZ4.grown hg5 (by intro e; injection e with e; omega)
            have ho5 := own_box ho4 hg5 (by omega)
            refine hK _ _ ⟨hG5, hB5⟩ ?_
            clear hK K
            refine rg_end (by kernel_rfl) ?_
            go_wp2_with (first | (with_reducible refine hold_append ?_) | (with_reducible refine hold_make ?_) | (with_reducible refine hold_copy ?_))
            exact ⟨⟨k + 1, m2 + 1, c4, A4, by omega, by go_num, by omega, ho5, hC5, hZ5, hG5, hB5⟩, by simp [RowKit.intOf]; omega⟩
          · go_simp
            refine hK _ _ ⟨hS.1.alloc _, hS.2.alloc hS.2.size _⟩ ?_
            clear hK K z3
            have z3 := (hCd.alloc (.cells #[.int .u8 (pn : Int), .int .u32 (xf : Int), .string (str xg), .string (str xh), .int .u8 0] 45)).cell (j := 3) rfl
            refine rg_one 1 rfl (by kernel_rfl) rfl (fun K hK => ?_)
            go_simp
            refine hK _ _ ⟨hS.1.alloc _, hS.2.alloc hS.2.size _⟩ ?_
            clear hK K z3
            refine rg_one 16 rfl (by kernel_rfl) rfl (fun K hK => ?_)
            refine op_rec (W := wd) ptShape slP Try.underlying26 rfl rfl rfl rfl (⟨pn, ⟨xf, xg, xh⟩, 0⟩ : Pt) rfl hod (by omega) (by omega) (by omega) ?_
            intro A4 c4 w4 ho4 hg4 _ _
            rw [← HAP.out] at ho4
            have hnb : ∀ g', blk A3 = some g' → bc + 1 ≤ g' := fun g' hg' => (Own.blk_lt hod hg').1
            have hB4 := hS.2.grown hg4 hS.2.size (fun g' hg' => by have := hnb g' hg'; omega)
            have hG4 := hS.1.grown hg4 (by intro e; have := hnb _ e.symm; omega)
            have hC4 := hCd.grown hg4 (by intro e; have := hnb _ e.symm; omega)
            have hZ4 := hZd.grown hg4 (by intro e; have := hnb _ e.symm; omega)
            refine hK _ _ ⟨hG4, hB4⟩ ?_
            clear hK K
            refine rg_one 17 rfl (by kernel_rfl) rfl (fun K hK => ?_)
            go_simp
            refine hK _ _ ⟨hG4, hB4⟩ ?_
            clear hK K
            refine rg_one 18 rfl (by kernel_rfl) rfl (fun K hK => ?_)
            refine op_box (v := .slice A4 (m2 + 1) c4) (vs := [.slice A4 (m2 + 1) c4]) rfl rfl rfl hC4 rfl (by kernel_rfl) (by simp) (by simp; rfl) #[.int .u32 (f : Int), .string (str g), .string (str h), .slice A4 (m2 + 1) c4] (by simp) ?_
            intro w5 hC5 hg5 _
            have hB5 := below_box hB4 hg5 (by omega)
            have hG5 := hG4.grown hg5 (by intro e; injection e with e; omega)
            have hZ5 := hZ4.grown hg5 (by intro e; injection e with e; omega)
            have ho5 := own_box ho4 hg5 (by omega)
            refine hK _ _ ⟨hG5, hB5⟩ ?_
            clear hK K
            refine rg_end (by kernel_rfl) ?_
            go_wp2_with (first | (with_reducible refine hold_append ?_) | (with_reducible refine hold_make ?_) | (with_reducible refine hold_copy ?_))
            exact ⟨⟨k + 1, m2 + 1, c4, A4, by omega, by go_num, by omega, ho5, hC5, hZ5, hG5, hB5⟩, by simp [RowKit.intOf]; omega⟩
        · have f1 : ((ps : Int) == 1) = false := by simp; omega
          have HAP : Hid (dpl (pl.take (k + 1)) = dpl (pl.take k)) := Lib.hid (by rw [HTK.out, if_neg p1, List.append_nil])
          clear HTK p1 hkc
          rw [← HAP.out] at hor
          go_wp2_with (first | (with_reducible refine hold_append ?_) | (with_reducible refine hold_make ?_) | (with_reducible refine hold_copy ?_))
          exact ⟨⟨k + 1, m2, c3, A3, by omega, by go_num, by omega, hor, hCr, hZr, hGr, hBr⟩, by simp [RowKit.intOf]; omega⟩
      · have hkk : n = k := by omega
        subst hkk
        have HALL : Hid (RS = (⟨f, g, h⟩, dpl (pl.take n))) := Lib.hid (by rw [HRM.out, List.take_of_length_le (by rw [HLEN.out]; exact Nat.le_refl _)])
        have z0 := hCr.cell (j := 0) rfl
        have z1 := hCr.cell (j := 1) rfl
        have z2 := hCr.cell (j := 2) rfl
        have z3 := hCr.cell (j := 3) rfl
        go_wp2_with (first | (with_reducible refine hold_append ?_) | (with_reducible refine hold_make ?_) | (with_reducible refine hold_copy ?_) | (with_reducible refine hold_store ?_))
        refine unhold (wp_box (v := .agg #[.int .u32 (f : Int), .string (str g), .string (str h), .slice A3 m2 c3]) (vs := [.int .u32 (f : Int), .string (str g), .string (str h), .slice A3 m2 c3]) rfl rfl rfl rfl hZr rfl (by kernel_rfl) (by simp) dec_one #[.int .u32 (f : Int), .string (str g), .string (str h), .slice A3 m2 c3] (by simp) ?_)
        intro w9 hb9 hg9 _
        have hB9 := below_box hBr hg9 (by omega)
        have ho9 := own_box hor hg9 (by omega)
        go_wp2_with (first | (with_reducible refine hold_append ?_) | (with_reducible refine hold_make ?_) | (with_reducible refine hold_copy ?_))
        refine ret_box1 rfl hb9 rfl Try.underlying49 rfl (by kernel_rfl) rfl ?_
        rw [HALL.out]
        exact ⟨A3, m2, c3, rfl, Own.base_le ho9 (by omega), by omega, hB9⟩
end Go.PH
end
section
/- The walk of great. -/
set_option linter.all false
set_option linter.unusedSimpArgs false
set_option linter.unusedVariables false
namespace Go.PH
open Go.RowKit Go.Proofs

theorem great_any (G : Gl) (A : Option Addr) (n c : Nat) (w : World) : Calls Try.prog 9 #[.agg (glV G A n c)] w fun e w' => e = .returned (.bool (decide (20 < n))) ∧ Below w.heap.size w w' := by
  have hb := Box.new w (glV G A n c) 28
  have hB := (Below.refl w.heap.size w).alloc (Nat.le_refl _) (.cells (glV G A n c) 28)
  have x5 := hb.cell (j := 5) rfl
  have hd : decide ((20 : Int) < (n : Int)) = decide (20 < n) := by rw [decide_eq_decide]; omega
  obtain ⟨bb, hbb⟩ : ∃ bb, bb = decide (20 < n) := ⟨_, rfl⟩
  rw [← hbb] at hd ⊢
  clear hbb
  unfold glV at *
  go_enter Try.func9, Try.ntmps9
  go_wp2_with (first | (with_reducible refine hold_append ?_) | (with_reducible refine hold_make ?_) | (with_reducible refine hold_copy ?_))
  go_ret
  exact ⟨rfl, hB⟩
end Go.PH
end

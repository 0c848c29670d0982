/- Texts laid together: GtMl. -/
import Derived.Test.YtcfhnnbgghbjfaaMg16
section
/- Rows of mails: which are sent of a transaction; the walk of gtx's Letters. -/
set_option linter.all false
set_option linter.unusedSimpArgs false
set_option linter.unusedVariables false
namespace Go.PH
open Go.RowKit Go.Proofs

def mlC (m : Nat × Nat × Xd) : List Value := [.int .u8 (m.1 : Int), .int .u8 (m.2.1 : Int), .int .u32 (m.2.2.fmt : Int), .string (str m.2.2.glob), .string (str m.2.2.bran), .int .u8 0, .int .u16 0, .slice none 0 0]
theorem mlShape : RecShape mlC 8 where
  len _ := rfl
  one a u hu := by simp [mlC] at hu; rcases hu with rfl | rfl | rfl | rfl | rfl | rfl | rfl | rfl <;> rfl
  pos := by omega
theorem slM : SlT Try.prog 59 78 8 88 (.agg #[.int .u8 0, .int .u8 0, .int .u32 0, .string ⟨#[]⟩, .string ⟨#[]⟩, .int .u8 0, .int .u16 0, .slice none 0 0]) := SlT.mk' Try.underlying59 (by kernel_rfl) rfl (by omega)
abbrev OwnM (w : World) (base : Nat) (A : Option Addr) (n c : Nat) (l : List (Nat × Nat × Xd)) : Prop := Own w base 78 8 A n c (rowC mlC l)
abbrev RdM (w : World) (B : Nat) (A : Option Addr) (n c : Nat) (l : List (Nat × Nat × Xd)) : Prop := Rd w B 8 A n c (rowC mlC l)
/-- a mail of a kind, none of kind 0 -/
def mTo (k node : Nat) (x : Xd) : List (Nat × Nat × Xd) := if k = 0 then [] else [(node, k, x)]
def mails (st : Nat) (l : List Pt) : List (Nat × Nat × Xd) := l.flatMap fun p => mTo (waits st p.st) p.node p.x
def Gl.mails (g : Gl) : List (Nat × Nat × Xd) := if g.ok then Go.PH.mails g.st g.parts else []
theorem mTo_len (k node : Nat) (x : Xd) : (mTo k node x).length ≤ 1 := by unfold mTo; split <;> simp
theorem mails_snoc (st : Nat) (l : List Pt) (p : Pt) : mails st (l ++ [p]) = mails st l ++ mTo (waits st p.st) p.node p.x := by simp [mails]
theorem mails_len (st : Nat) : ∀ l : List Pt, (mails st l).length ≤ l.length
  | [] => by simp [mails]
  | p :: l => by
    have := mails_len st l
    have h := mTo_len (waits st p.st) p.node p.x
    simp only [mails, List.flatMap_cons, List.length_append, List.length_cons] at this ⊢
    omega
/-- the kind that the first rows tell -/
def wTo (j st ps : Nat) : Nat := if st = 2 ∧ ps = 0 ∧ 0 < j then 1 else if st = 3 ∧ ps = 1 ∧ 1 < j then 2 else if st = 4 ∧ ps = 0 ∧ 2 < j then 3 else if st = 4 ∧ ps = 1 ∧ 3 < j then 3 else 0
theorem wTo_0 (st ps : Nat) : wTo 0 st ps = 0 := by unfold wTo; simp
theorem wTo_4 (st ps : Nat) : wTo 4 st ps = waits st ps := by
  unfold wTo waits
  repeat' split
  all_goals omega
def hit (j st ps : Nat) : Prop := (j = 0 ∧ st = 2 ∧ ps = 0) ∨ (j = 1 ∧ st = 3 ∧ ps = 1) ∨ (j = 2 ∧ st = 4 ∧ ps = 0) ∨ (j = 3 ∧ st = 4 ∧ ps = 1)
theorem wTo_no {j st ps : Nat} (h : ¬ hit j st ps) : wTo (j + 1) st ps = wTo j st ps := by
  unfold hit at h
  have a1 : (st = 2 ∧ ps = 0 ∧ 0 < j + 1) ↔ (st = 2 ∧ ps = 0 ∧ 0 < j) := by omega
  have a2 : (st = 3 ∧ ps = 1 ∧ 1 < j + 1) ↔ (st = 3 ∧ ps = 1 ∧ 1 < j) := by omega
  have a3 : (st = 4 ∧ ps = 0 ∧ 2 < j + 1) ↔ (st = 4 ∧ ps = 0 ∧ 2 < j) := by omega
  have a4 : (st = 4 ∧ ps = 1 ∧ 3 < j + 1) ↔ (st = 4 ∧ ps = 1 ∧ 3 < j) := by omega
  simp only [wTo, a1, a2, a3, a4]
theorem wTo_hit {j st ps : Nat} (h : hit j st ps) : wTo j st ps = 0 ∧ wTo (j + 1) st ps = if j = 0 then 1 else if j = 1 then 2 else 3 := by
  unfold hit at h
  rcases h with ⟨rfl, rfl, rfl⟩ | ⟨rfl, rfl, rfl⟩ | ⟨rfl, rfl, rfl⟩ | ⟨rfl, rfl, rfl⟩ <;> exact ⟨rfl, rfl⟩

def MailR (w : World) (L : List (Nat × Nat × Xd)) (e : Ending) (w' : World) : Prop := ∃ A2 m2 c2, e = .returned (.slice A2 m2 c2) ∧ OwnM w' w.heap.size A2 m2 c2 L ∧ Below w.heap.size w w'
set_option maxRecDepth 20000 in
set_option maxHeartbeats 4000000 in
theorem letters_any (G : Gl) (A : Option Addr) (n c : Nat) (B : Nat) (w : World) (hG : G.wf) (hr : RdP w B A n c G.parts) (hB : B ≤ w.heap.size) (hn : n ≤ 1000000000) :
    Calls Try.prog 26 #[.agg (glV G A n c)] w (MailR w G.mails) := by
  obtain ⟨RS, hRS⟩ : ∃ RS, RS = G.mails := ⟨_, rfl⟩
  rw [← hRS]
  have HRS : Hid (RS = if G.ok then mails G.st G.parts else []) := Lib.hid (by rw [hRS]; rfl)
  have hlen := rec_length ptShape hr
  have hck := fun W hW => gcheck_any G A n c B W hG (hr.below' hW hB) (Nat.le_trans hB hW.size) hn
  have HE : Hid (G.err = if G.ok then 0 else 270) := Lib.hid rfl
  have HLEN := Lib.hid hlen
  have hr0 := fun W (hW : Below w.heap.size w W) => hr.below' hW hB
  clear hRS hG hlen hr
  generalize G.err = er at *
  generalize G.ok = ok at *
  obtain ⟨⟨f, g, h⟩, st, com, pl, wt, tr⟩ := G
  obtain ⟨si, hsi⟩ : ∃ si : Int, si = (st : Int) := ⟨_, rfl⟩
  have HSI := Lib.hid hsi
  simp only at HRS HLEN hr0
  unfold glV at hck ⊢
  simp only at hck ⊢
  rw [← hsi] at hck ⊢
  clear hsi
  have hG0 := Box.new w #[.int .u32 (f : Int), .string (str g), .string (str h), .int .u8 si, .bool com, .slice A n c, .int .u32 (wt : Int), .int .u32 (tr : Int)] 28
  have hB0 := (Below.refl w.heap.size w).alloc (Nat.le_refl _) (.cells #[.int .u32 (f : Int), .string (str g), .string (str h), .int .u8 si, .bool com, .slice A n c, .int .u32 (wt : Int), .int .u32 (tr : Int)] 28)
  obtain ⟨w0, hw0⟩ : ∃ w0, w0 = (w.alloc (.cells #[.int .u32 (f : Int), .string (str g), .string (str h), .int .u8 si, .bool com, .slice A n c, .int .u32 (wt : Int), .int .u32 (tr : Int)] 28)) := ⟨_, rfl⟩
  rw [← hw0] at hG0 hB0
  have hck0 := hck w0 hB0
  clear hck
  have x0 := hG0.cell (j := 0) rfl
  have x1 := hG0.cell (j := 1) rfl
  have x2 := hG0.cell (j := 2) rfl
  have x3 := hG0.cell (j := 3) rfl
  have x4 := hG0.cell (j := 4) rfl
  have x5 := hG0.cell (j := 5) rfl
  have x6 := hG0.cell (j := 6) rfl
  have x7 := hG0.cell (j := 7) rfl
  go_enter Try.func26, Try.ntmps26
  go_upto_region 1 with fail
  rw [← hw0]
  clear hw0
  go_wp2_with (first | (with_reducible refine hold_append ?_) | (with_reducible refine hold_make ?_) | (with_reducible refine hold_copy ?_))
  refine hck0.mono ?_
  rintro e w1 ⟨rfl, hB1⟩
  have hG1 := hG0.below hB1
  have hB01 := hB0.trans (hB1.mono hB0.size)
  clear hck0 hG0 hB0 hB1 x0 x1 x2 x3 x4 x5 x6 x7
  cases ok
  · obtain rfl : er = 270 := by have := HE.out; simpa using this
    have HRES : Hid (RS = []) := Lib.hid (by rw [HRS.out]; simp)
    go_wp2_with (first | (with_reducible refine hold_append ?_) | (with_reducible refine hold_make ?_) | (with_reducible refine hold_copy ?_))
    go_ret
    rw [HRES.out]
    exact ⟨none, 0, 0, rfl, Own.none_ _ _ _ _, hB01⟩
  · obtain rfl : er = 0 := by have := HE.out; simpa using this
    have HRM : Hid (RS = mails st pl) := Lib.hid (by rw [HRS.out]; simp)
    clear HRS HE
    have x5 := hG1.cell (j := 5) rfl
    go_wp2_with (first | (with_reducible refine hold_append ?_) | (with_reducible refine hold_make ?_) | (with_reducible refine hold_copy ?_))
    go_loopw [3, 14] (fun out s wr => ∃ (k m2 c3 : Nat) (A3 : Option Addr), k ≤ n ∧ out = .slice A3 m2 c3 ∧ s = .int .i64 k ∧ m2 ≤ k ∧ OwnM wr (w.heap.size + 1) A3 m2 c3 (mails st (pl.take k)) ∧ Box wr w.heap.size 28 #[.int .u32 (f : Int), .string (str g), .string (str h), .int .u8 si, .bool com, .slice A n c, .int .u32 (wt : Int), .int .u32 (tr : Int)] ∧ Below w.heap.size w wr) (fun _ s _ => n - (RowKit.intOf s).toNat)
    case atStart => exact ⟨0, 0, 0, none, by omega, rfl, rfl, by omega, Own.none_ _ _ _ _, hG1, hB01⟩
    case round =>
      clear hG1 hB01 x5
      obtain ⟨k, m2, c3, A3, hk, rfl, rfl, hm2, hor, hGr, hBr⟩ := hrel
      have hHz := hBr.size
      by_cases hlt : k < n
      · have hkn : (k : Int) < (n : Int) := by omega
        obtain ⟨b, off, rfl, hbB, hkl, hc⟩ := rec_at ptShape (hr0 wr hBr) hlt
        have HTK : Hid (mails st (pl.take (k + 1)) = mails st (pl.take k) ++ mTo (wTo 4 st pl[k].st) pl[k].node pl[k].x) := Lib.hid (by rw [List.take_succ_eq_append_getElem hkl, mails_snoc, wTo_4])
        generalize pl[k] = p at *
        obtain ⟨pn, ⟨xf, xg, xh⟩, ps⟩ := p
        simp only at HTK
        have k0 := hc 0 _ rfl
        have k1 := hc 1 _ rfl
        have k2 := hc 2 _ rfl
        have k3 := hc 3 _ rfl
        have k4 := hc 4 _ rfl
        simp only [Nat.add_zero] at k0 k1 k2 k3 k4
        clear hc
        have hPp := Box.new wr #[.int .u8 (pn : Int), .int .u32 (xf : Int), .string (str xg), .string (str xh), .int .u8 (ps : Int)] 45
        have hBp := hBr.alloc hBr.size (.cells #[.int .u8 (pn : Int), .int .u32 (xf : Int), .string (str xg), .string (str xh), .int .u8 (ps : Int)] 45)
        have hGp := hGr.alloc (.cells #[.int .u8 (pn : Int), .int .u32 (xf : Int), .string (str xg), .string (str xh), .int .u8 (ps : Int)] 45)
        have hop := hor.alloc (.cells #[.int .u8 (pn : Int), .int .u32 (xf : Int), .string (str xg), .string (str xh), .int .u8 (ps : Int)] 45)
        have hnb : ∀ g', blk A3 = some g' → g' < wr.heap.size := fun g' hg' => (hor.blk_lt hg').2
        have hsp : (wr.alloc (.cells #[.int .u8 (pn : Int), .int .u32 (xf : Int), .string (str xg), .string (str xh), .int .u8 (ps : Int)] 45)).heap.size = wr.heap.size + 1 := by simp
        go_upto_region 7 with fail
        clear k0 k1 k2 k3 k4
        obtain ⟨pb, hpb⟩ : ∃ pb, pb = wr.heap.size := ⟨_, rfl⟩
        rw [← hpb] at hPp ⊢
        rw [← hpb] at hHz hnb hsp
        clear hpb hor hBr hGr
        generalize (wr.alloc (.cells #[.int .u8 (pn : Int), .int .u32 (xf : Int), .string (str xg), .string (str xh), .int .u8 (ps : Int)] 45)) = wp at *
        go_wp2_with (first | (with_reducible refine hold_append ?_) | (with_reducible refine hold_make ?_) | (with_reducible refine hold_copy ?_))
        refine (rows_any _).mono ?_
        rintro e w6 ⟨rfl, rfl⟩
        have hR6 := Box.new wp rowsV 86
        have hG6 := hGp.alloc (.cells rowsV 86)
        have hP6 := hPp.alloc (.cells rowsV 86)
        have ho6 := hop.alloc (.cells rowsV 86)
        have hB6 := hBp.alloc hBp.size (.cells rowsV 86)
        obtain ⟨rb, hrb⟩ : ∃ rb, rb = wp.heap.size := ⟨_, rfl⟩
        rw [← hrb] at hR6 ⊢
        have hrp : rb = pb + 1 := hrb.trans hsp
        have HNE0 : Hid (∀ g', blk A3 = some g' → g' ≠ pb ∧ g' ≠ rb) := Lib.hid (fun g' hg' => by have := hnb g' hg'; exact ⟨by omega, by omega⟩)
        have hrpl : pb < rb := by omega
        generalize (wp.alloc (.cells rowsV 86)) = w7 at *
        clear hrb hrp hsp hGp hPp hop hBp hnb
        go_wp2_with (first | (with_reducible refine hold_append ?_) | (with_reducible refine hold_make ?_) | (with_reducible refine hold_copy ?_))
        go_loopw [3, 20] (fun out s wq => ∃ (j m2 c3 : Nat) (A3 : Option Addr), j ≤ 4 ∧ out = .slice A3 m2 c3 ∧ s = .int .i64 j ∧ m2 ≤ k + 1 ∧ OwnM wq (w.heap.size + 1) A3 m2 c3 (mails st (pl.take k) ++ mTo (wTo j st ps) pn ⟨xf, xg, xh⟩) ∧ Box wq w.heap.size 28 #[.int .u32 (f : Int), .string (str g), .string (str h), .int .u8 si, .bool com, .slice (some ⟨b, off, none⟩) n c, .int .u32 (wt : Int), .int .u32 (tr : Int)] ∧ Box wq pb 45 #[.int .u8 (pn : Int), .int .u32 (xf : Int), .string (str xg), .string (str xh), .int .u8 (ps : Int)] ∧ Box wq rb 86 rowsV ∧ Hid (∀ g', blk A3 = some g' → g' ≠ pb ∧ g' ≠ rb) ∧ Below w.heap.size w wq) (fun _ s _ => 4 - (RowKit.intOf s).toNat)
        case atStart => exact ⟨0, m2, c3, A3, by omega, rfl, rfl, by omega, by rw [wTo_0]; simpa [mTo] using ho6, hG6, hP6, hR6, HNE0, hB6⟩
        case round =>
          clear hG6 hP6 hR6 HNE0 hB6 ho6
          obtain ⟨j, m2, c3, A3, hj, rfl, rfl, hm2, hoq, hGq, hPq, hRq, HNE, hBq⟩ := hrel
          rcases (show j = 0 ∨ j = 1 ∨ j = 2 ∨ j = 3 ∨ j = 4 by omega) with rfl | rfl | rfl | rfl | rfl
          · have hrz0 := Box.new wr #[.int .u8 0, .int .u8 0, .int .u8 0, .nilFunc] 86
            have hGz0 := hGq.alloc (.cells #[.int .u8 0, .int .u8 0, .int .u8 0, .nilFunc] 86)
            have hPz0 := hPq.alloc (.cells #[.int .u8 0, .int .u8 0, .int .u8 0, .nilFunc] 86)
            have hRz0 := hRq.alloc (.cells #[.int .u8 0, .int .u8 0, .int .u8 0, .nilFunc] 86)
            have hoz0 := hoq.alloc (.cells #[.int .u8 0, .int .u8 0, .int .u8 0, .nilFunc] 86)
            have hBz0 := hBq.alloc hBq.size (.cells #[.int .u8 0, .int .u8 0, .int .u8 0, .nilFunc] 86)
            have q0 : wr.cell? ⟨rb, 4 * 0, none⟩ = some (.int .u8 2) := hRq.cell (j := 4 * 0) rfl
            have q1 : wr.cell? ⟨rb, 4 * 0 + 1, none⟩ = some (.int .u8 0) := hRq.cell (j := 4 * 0 + 1) rfl
            have q2 : wr.cell? ⟨rb, 4 * 0 + 2, none⟩ = some (.int .u8 1) := hRq.cell (j := 4 * 0 + 2) rfl
            have q3 : wr.cell? ⟨rb, 4 * 0 + 3, none⟩ = some (.func (.func 63) #[] #[]) := hRq.cell (j := 4 * 0 + 3) rfl
            simp only [Nat.reduceMul, Nat.reduceAdd] at q0 q1 q2 q3
            have hGlt := hGq.lt
            have hPlt := hPq.lt
            have hRlt := hRq.lt
            have hBrs := hBq.size
            go_wp2_with (first | (with_reducible refine hold_append ?_) | (with_reducible refine hold_make ?_) | (with_reducible refine hold_copy ?_) | (with_reducible refine hold_store ?_))
            refine unhold (wp_box (v := .agg #[.int .u8 2, .int .u8 0, .int .u8 1, .func (.func 63) #[] #[]]) (vs := [.int .u8 2, .int .u8 0, .int .u8 1, .func (.func 63) #[] #[]]) rfl rfl rfl rfl hrz0 rfl (by kernel_rfl) (by simp) (by simp; (refine ⟨?_, ?_, ?_, ?_⟩ <;> rfl)) #[.int .u8 2, .int .u8 0, .int .u8 1, .func (.func 63) #[] #[]] (by simp) ?_)
            intro wz hrz hgz hsz
            clear hsz
            have hGz := hGz0.grown hgz (by intro e; injection e with e; omega)
            have hPz := hPz0.grown hgz (by intro e; injection e with e; omega)
            have hRz := hRz0.grown hgz (by intro e; injection e with e; omega)
            have hoz := own_stays hoz0 hgz (fun g' hg' e => by injection e with e; have := (hoq.blk_lt hg').2; omega)
            have hBz := below_box hBz0 hgz (by omega)
            clear hrz0 hGz0 hPz0 hRz0 hoz0 hBz0 hgz hGq hPq hRq hoq hBq
            go_upto_region 10 with fail
            try simp only [Act.put]
            clear q0 q1 q2 q3
            have r0 := hrz.cell (j := 0) rfl
            have r1 := hrz.cell (j := 1) rfl
            have r2 := hrz.cell (j := 2) rfl
            have x3 := hGz.cell (j := 3) rfl
            have y0 := hPz.cell (j := 0) rfl
            have y1 := hPz.cell (j := 1) rfl
            have y2 := hPz.cell (j := 2) rfl
            have y3 := hPz.cell (j := 3) rfl
            have y4 := hPz.cell (j := 4) rfl
            have hGlt := hGz.lt
            have hPlt := hPz.lt
            have hRlt := hRz.lt
            have hBrs := hBz.size
            by_cases e1 : si = 2
            · subst e1
              by_cases e2 : ps = 0
              · have f2 : ((0 : Int) == (ps : Int)) = true := by simp; omega
                have hhit : hit 0 st ps := by unfold hit; have := HSI.out; omega
                have HW0 := Lib.hid (wTo_hit hhit)
                have HAP : Hid (mails st (pl.take k) ++ mTo (wTo 0 st ps) pn ⟨xf, xg, xh⟩ = mails st (pl.take k) ∧ mails st (pl.take k) ++ mTo (wTo (0 + 1) st ps) pn ⟨xf, xg, xh⟩ = mails st (pl.take k) ++ [(pn, 1, ⟨xf, xg, xh⟩)]) := Lib.hid ⟨by rw [HW0.out.1]; simp [mTo], by rw [HW0.out.2]; simp [mTo]⟩
                clear hhit HW0
                clear e2
                rw [HAP.out.1] at hoz
                have hmk : m2 ≤ k := by
                  have h1 := own_len mlShape hoz
                  have h2 := mails_len st (pl.take k)
                  have h3 := List.length_take_le k pl
                  omega
                go_wp2_with (first | (with_reducible refine hold_append ?_) | (with_reducible refine hold_make ?_) | (with_reducible refine hold_copy ?_) | (with_reducible refine hold_store ?_))
                refine unhold (wp_rec mlShape slM Try.underlying59 rfl rfl rfl rfl rfl ((pn, 1, ⟨xf, xg, xh⟩) : Nat × Nat × Xd) rfl hoz (by omega) (by omega) (by omega) ?_)
                intro A4 c4 w4 ho4 hg4 hbk _
                rw [← HAP.out.2] at ho4
                have hnb : ∀ g', blk A3 = some g' → w.heap.size + 1 ≤ g' := fun g' hg' => (hoz.blk_lt hg').1
                have hB4 := hBz.grown hg4 hBz.size (fun g' hg' => by have := hnb g' hg'; omega)
                have hG4 := hGz.grown hg4 (by intro e; have := hnb _ e.symm; omega)
                have hP4 := hPz.grown hg4 (by intro e; exact (HNE.out _ e.symm).1 rfl)
                have hR4 := hRz.grown hg4 (by intro e; exact (HNE.out _ e.symm).2 rfl)
                have HNE4 : Hid (∀ g', blk A4 = some g' → g' ≠ pb ∧ g' ≠ rb) := Lib.hid (fun g' hg' => by
                  rcases hbk with h | h
                  · exact HNE.out g' (by rw [← h]; exact hg')
                  · have := h g' hg'; exact ⟨by omega, by omega⟩)
                clear r0 r1 r2 x3 y0 y1 y2 y3 y4 hbk
                go_wp2_with (first | (with_reducible refine hold_append ?_) | (with_reducible refine hold_make ?_) | (with_reducible refine hold_copy ?_))
                exact ⟨⟨0 + 1, m2 + 1, c4, A4, by omega, rfl, by first | rfl | go_num, by omega, ho4, hG4, hP4, hR4, HNE4, hB4⟩, by simp [RowKit.intOf]⟩
              · have f2 : ((0 : Int) == (ps : Int)) = false := by simp; omega
                have HW : Hid (wTo (0 + 1) st ps = wTo 0 st ps) := Lib.hid (wTo_no (by unfold hit; have := HSI.out; omega))
                clear e2
                go_wp2_with (first | (with_reducible refine hold_append ?_) | (with_reducible refine hold_make ?_) | (with_reducible refine hold_copy ?_))
                exact ⟨⟨0 + 1, m2, c3, A3, by omega, rfl, by first | rfl | go_num, hm2, by rw [HW.out]; exact hoz, hGz, hPz, hRz, HNE, hBz⟩, by simp [RowKit.intOf]⟩
            · have f1 : ((2 : Int) == si) = false := by simp; omega
              have HW : Hid (wTo (0 + 1) st ps = wTo 0 st ps) := Lib.hid (wTo_no (by unfold hit; have := HSI.out; omega))
              clear e1
              go_wp2_with (first | (with_reducible refine hold_append ?_) | (with_reducible refine hold_make ?_) | (with_reducible refine hold_copy ?_))
              exact ⟨⟨0 + 1, m2, c3, A3, by omega, rfl, by first | rfl | go_num, hm2, by rw [HW.out]; exact hoz, hGz, hPz, hRz, HNE, hBz⟩, by simp [RowKit.intOf]⟩
          · have hrz0 := Box.new wr #[.int .u8 0, .int .u8 0, .int .u8 0, .nilFunc] 86
            have hGz0 := hGq.alloc (.cells #[.int .u8 0, .int .u8 0, .int .u8 0, .nilFunc] 86)
            have hPz0 := hPq.alloc (.cells #[.int .u8 0, .int .u8 0, .int .u8 0, .nilFunc] 86)
            have hRz0 := hRq.alloc (.cells #[.int .u8 0, .int .u8 0, .int .u8 0, .nilFunc] 86)
            have hoz0 := hoq.alloc (.cells #[.int .u8 0, .int .u8 0, .int .u8 0, .nilFunc] 86)
            have hBz0 := hBq.alloc hBq.size (.cells #[.int .u8 0, .int .u8 0, .int .u8 0, .nilFunc] 86)
            have q0 : wr.cell? ⟨rb, 4 * 1, none⟩ = some (.int .u8 3) := hRq.cell (j := 4 * 1) rfl
            have q1 : wr.cell? ⟨rb, 4 * 1 + 1, none⟩ = some (.int .u8 1) := hRq.cell (j := 4 * 1 + 1) rfl
            have q2 : wr.cell? ⟨rb, 4 * 1 + 2, none⟩ = some (.int .u8 2) := hRq.cell (j := 4 * 1 + 2) rfl
            have q3 : wr.cell? ⟨rb, 4 * 1 + 3, none⟩ = some (.func (.func 64) #[] #[]) := hRq.cell (j := 4 * 1 + 3) rfl
            simp only [Nat.reduceMul, Nat.reduceAdd] at q0 q1 q2 q3
            have hGlt := hGq.lt
            have hPlt := hPq.lt
            have hRlt := hRq.lt
            have hBrs := hBq.size
            go_wp2_with (first | (with_reducible refine hold_append ?_) | (with_reducible refine hold_make ?_) | (with_reducible refine hold_copy ?_) | (with_reducible refine hold_store ?_))
            refine unhold (wp_box (v := .agg #[.int .u8 3, .int .u8 1, .int .u8 2, .func (.func 64) #[] #[]]) (vs := [.int .u8 3, .int .u8 1, .int .u8 2, .func (.func 64) #[] #[]]) rfl rfl rfl rfl hrz0 rfl (by kernel_rfl) (by simp) (by simp; (refine ⟨?_, ?_, ?_, ?_⟩ <;> rfl)) #[.int .u8 3, .int .u8 1, .int .u8 2, .func (.func 64) #[] #[]] (by simp) ?_)
            intro wz hrz hgz hsz
            clear hsz
            have hGz := hGz0.grown hgz (by intro e; injection e with e; omega)
            have hPz := hPz0.grown hgz (by intro e; injection e with e; omega)
            have hRz := hRz0.grown hgz (by intro e; injection e with e; omega)
            have hoz := own_stays hoz0 hgz (fun g' hg' e => by injection e with e; have := (hoq.blk_lt hg').2; omega)
            have hBz := below_box hBz0 hgz (by omega)
            clear hrz0 hGz0 hPz0 hRz0 hoz0 hBz0 hgz hGq hPq hRq hoq hBq
            go_upto_region 10 with fail
            try simp only [Act.put]
            clear q0 q1 q2 q3
            have r0 := hrz.cell (j := 0) rfl
            have r1 := hrz.cell (j := 1) rfl
            have r2 := hrz.cell (j := 2) rfl
            have x3 := hGz.cell (j := 3) rfl
            have y0 := hPz.cell (j := 0) rfl
            have y1 := hPz.cell (j := 1) rfl
            have y2 := hPz.cell (j := 2) rfl
            have y3 := hPz.cell (j := 3) rfl
            have y4 := hPz.cell (j := 4) rfl
            have hGlt := hGz.lt
            have hPlt := hPz.lt
            have hRlt := hRz.lt
            have hBrs := hBz.size
            by_cases e1 : si = 3
            · subst e1
              by_cases e2 : ps = 1
              · have f2 : ((1 : Int) == (ps : Int)) = true := by simp; omega
                have hhit : hit 1 st ps := by unfold hit; have := HSI.out; omega
                have HW0 := Lib.hid (wTo_hit hhit)
                have HAP : Hid (mails st (pl.take k) ++ mTo (wTo 1 st ps) pn ⟨xf, xg, xh⟩ = mails st (pl.take k) ∧ mails st (pl.take k) ++ mTo (wTo (1 + 1) st ps) pn ⟨xf, xg, xh⟩ = mails st (pl.take k) ++ [(pn, 2, ⟨xf, xg, xh⟩)]) := Lib.hid ⟨by rw [HW0.out.1]; simp [mTo], by rw [HW0.out.2]; simp [mTo]⟩
                clear hhit HW0
                clear e2
                rw [HAP.out.1] at hoz
                have hmk : m2 ≤ k := by
                  have h1 := own_len mlShape hoz
                  have h2 := mails_len st (pl.take k)
                  have h3 := List.length_take_le k pl
                  omega
                go_wp2_with (first | (with_reducible refine hold_append ?_) | (with_reducible refine hold_make ?_) | (with_reducible refine hold_copy ?_) | (with_reducible refine hold_store ?_))
                refine unhold (wp_rec mlShape slM Try.underlying59 rfl rfl rfl rfl rfl ((pn, 2, ⟨xf, xg, xh⟩) : Nat × Nat × Xd) rfl hoz (by omega) (by omega) (by omega) ?_)
                intro A4 c4 w4 ho4 hg4 hbk _
                rw [← HAP.out.2] at ho4
                have hnb : ∀ g', blk A3 = some g' → w.heap.size + 1 ≤ g' := fun g' hg' => (hoz.blk_lt hg').1
                have hB4 := hBz.grown hg4 hBz.size (fun g' hg' => by have := hnb g' hg'; omega)
                have hG4 := hGz.grown hg4 (by intro e; have := hnb _ e.symm; omega)
                have hP4 := hPz.grown hg4 (by intro e; exact (HNE.out _ e.symm).1 rfl)
                have hR4 := hRz.grown hg4 (by intro e; exact (HNE.out _ e.symm).2 rfl)
                have HNE4 : Hid (∀ g', blk A4 = some g' → g' ≠ pb ∧ g' ≠ rb) := Lib.hid (fun g' hg' => by
                  rcases hbk with h | h
                  · exact HNE.out g' (by rw [← h]; exact hg')
                  · have := h g' hg'; exact ⟨by omega, by omega⟩)
                clear r0 r1 r2 x3 y0 y1 y2 y3 y4 hbk
                go_wp2_with (first | (with_reducible refine hold_append ?_) | (with_reducible refine hold_make ?_) | (with_reducible refine hold_copy ?_))
                exact ⟨⟨1 + 1, m2 + 1, c4, A4, by omega, rfl, by first | rfl | go_num, by omega, ho4, hG4, hP4, hR4, HNE4, hB4⟩, by simp [RowKit.intOf]⟩
              · have f2 : ((1 : Int) == (ps : Int)) = false := by simp; omega
                have HW : Hid (wTo (1 + 1) st ps = wTo 1 st ps) := Lib.hid (wTo_no (by unfold hit; have := HSI.out; omega))
                clear e2
                go_wp2_with (first | (with_reducible refine hold_append ?_) | (with_reducible refine hold_make ?_) | (with_reducible refine hold_copy ?_))
                exact ⟨⟨1 + 1, m2, c3, A3, by omega, rfl, by first | rfl | go_num, hm2, by rw [HW.out]; exact hoz, hGz, hPz, hRz, HNE, hBz⟩, by simp [RowKit.intOf]⟩
            · have f1 : ((3 : Int) == si) = false := by simp; omega
              have HW : Hid (wTo (1 + 1) st ps = wTo 1 st ps) := Lib.hid (wTo_no (by unfold hit; have := HSI.out; omega))
              clear e1
              go_wp2_with (first | (with_reducible refine hold_append ?_) | (with_reducible refine hold_make ?_) | (with_reducible refine hold_copy ?_))
              exact ⟨⟨1 + 1, m2, c3, A3, by omega, rfl, by first | rfl | go_num, hm2, by rw [HW.out]; exact hoz, hGz, hPz, hRz, HNE, hBz⟩, by simp [RowKit.intOf]⟩
          · have hrz0 := Box.new wr #[.int .u8 0, .int .u8 0, .int .u8 0, .nilFunc] 86
            have hGz0 := hGq.alloc (.cells #[.int .u8 0, .int .u8 0, .int .u8 0, .nilFunc] 86)
            have hPz0 := hPq.alloc (.cells #[.int .u8 0, .int .u8 0, .int .u8 0, .nilFunc] 86)
            have hRz0 := hRq.alloc (.cells #[.int .u8 0, .int .u8 0, .int .u8 0, .nilFunc] 86)
            have hoz0 := hoq.alloc (.cells #[.int .u8 0, .int .u8 0, .int .u8 0, .nilFunc] 86)
            have hBz0 := hBq.alloc hBq.size (.cells #[.int .u8 0, .int .u8 0, .int .u8 0, .nilFunc] 86)
            have q0 : wr.cell? ⟨rb, 4 * 2, none⟩ = some (.int .u8 4) := hRq.cell (j := 4 * 2) rfl
            have q1 : wr.cell? ⟨rb, 4 * 2 + 1, none⟩ = some (.int .u8 0) := hRq.cell (j := 4 * 2 + 1) rfl
            have q2 : wr.cell? ⟨rb, 4 * 2 + 2, none⟩ = some (.int .u8 3) := hRq.cell (j := 4 * 2 + 2) rfl
            have q3 : wr.cell? ⟨rb, 4 * 2 + 3, none⟩ = some (.func (.func 64) #[] #[]) := hRq.cell (j := 4 * 2 + 3) rfl
            simp only [Nat.reduceMul, Nat.reduceAdd] at q0 q1 q2 q3
            have hGlt := hGq.lt
            have hPlt := hPq.lt
            have hRlt := hRq.lt
            have hBrs := hBq.size
            go_wp2_with (first | (with_reducible refine hold_append ?_) | (with_reducible refine hold_make ?_) | (with_reducible refine hold_copy ?_) | (with_reducible refine hold_store ?_))
            refine unhold (wp_box (v := .agg #[.int .u8 4, .int .u8 0, .int .u8 3, .func (.func 64) #[] #[]]) (vs := [.int .u8 4, .int .u8 0, .int .u8 3, .func (.func 64) #[] #[]]) rfl rfl rfl rfl hrz0 rfl (by kernel_rfl) (by simp) (by simp; (refine ⟨?_, ?_, ?_, ?_⟩ <;> rfl)) #[.int .u8 4, .int .u8 0, .int .u8 3, .func (.func 64) #[] #[]] (by simp) ?_)
            intro wz hrz hgz hsz
            clear hsz
            have hGz := hGz0.grown hgz (by intro e; injection e with e; omega)
            have hPz := hPz0.grown hgz (by intro e; injection e with e; omega)
            have hRz := hRz0.grown hgz (by intro e; injection e with e; omega)
            have hoz := own_stays hoz0 hgz (fun g' hg' e => by injection e with e; have := (hoq.blk_lt hg').2; omega)
            have hBz := below_box hBz0 hgz (by omega)
            clear hrz0 hGz0 hPz0 hRz0 hoz0 hBz0 hgz hGq hPq hRq hoq hBq
            go_upto_region 10 with fail
            try simp only [Act.put]
            clear q0 q1 q2 q3
            have r0 := hrz.cell (j := 0) rfl
            have r1 := hrz.cell (j := 1) rfl
            have r2 := hrz.cell (j := 2) rfl
            have x3 := hGz.cell (j := 3) rfl
            have y0 := hPz.cell (j := 0) rfl
            have y1 := hPz.cell (j := 1) rfl
            have y2 := hPz.cell (j := 2) rfl
            have y3 := hPz.cell (j := 3) rfl
            have y4 := hPz.cell (j := 4) rfl
            have hGlt := hGz.lt
            have hPlt := hPz.lt
            have hRlt := hRz.lt
            have hBrs := hBz.size
            by_cases e1 : si = 4
            · subst e1
              by_cases e2 : ps = 0
              · have f2 : ((0 : Int) == (ps : Int)) = true := by simp; omega
                have hhit : hit 2 st ps := by unfold hit; have := HSI.out; omega
                have HW0 := Lib.hid (wTo_hit hhit)
                have HAP : Hid (mails st (pl.take k) ++ mTo (wTo 2 st ps) pn ⟨xf, xg, xh⟩ = mails st (pl.take k) ∧ mails st (pl.take k) ++ mTo (wTo (2 + 1) st ps) pn ⟨xf, xg, xh⟩ = mails st (pl.take k) ++ [(pn, 3, ⟨xf, xg, xh⟩)]) := Lib.hid ⟨by rw [HW0.out.1]; simp [mTo], by rw [HW0.out.2]; simp [mTo]⟩
                clear hhit HW0
                clear e2
                rw [HAP.out.1] at hoz
                have hmk : m2 ≤ k := by
                  have h1 := own_len mlShape hoz
                  have h2 := mails_len st (pl.take k)
                  have h3 := List.length_take_le k pl
                  omega
                go_wp2_with (first | (with_reducible refine hold_append ?_) | (with_reducible refine hold_make ?_) | (with_reducible refine hold_copy ?_) | (with_reducible refine hold_store ?_))
                refine unhold (wp_rec mlShape slM Try.underlying59 rfl rfl rfl rfl rfl ((pn, 3, ⟨xf, xg, xh⟩) : Nat × Nat × Xd) rfl hoz (by omega) (by omega) (by omega) ?_)
                intro A4 c4 w4 ho4 hg4 hbk _
                rw [← HAP.out.2] at ho4
                have hnb : ∀ g', blk A3 = some g' → w.heap.size + 1 ≤ g' := fun g' hg' => (hoz.blk_lt hg').1
                have hB4 := hBz.grown hg4 hBz.size (fun g' hg' => by have := hnb g' hg'; omega)
                have hG4 := hGz.grown hg4 (by intro e; have := hnb _ e.symm; omega)
                have hP4 := hPz.grown hg4 (by intro e; exact (HNE.out _ e.symm).1 rfl)
                have hR4 := hRz.grown hg4 (by intro e; exact (HNE.out _ e.symm).2 rfl)
                have HNE4 : Hid (∀ g', blk A4 = some g' → g' ≠ pb ∧ g' ≠ rb) := Lib.hid (fun g' hg' => by
                  rcases hbk with h | h
                  · exact HNE.out g' (by rw [← h]; exact hg')
                  · have := h g' hg'; exact ⟨by omega, by omega⟩)
                clear r0 r1 r2 x3 y0 y1 y2 y3 y4 hbk
                go_wp2_with (first | (with_reducible refine hold_append ?_) | (with_reducible refine hold_make ?_) | (with_reducible refine hold_copy ?_))
                exact ⟨⟨2 + 1, m2 + 1, c4, A4, by omega, rfl, by first | rfl | go_num, by omega, ho4, hG4, hP4, hR4, HNE4, hB4⟩, by simp [RowKit.intOf]⟩
              · have f2 : ((0 : Int) == (ps : Int)) = false := by simp; omega
                have HW : Hid (wTo (2 + 1) st ps = wTo 2 st ps) := Lib.hid (wTo_no (by unfold hit; have := HSI.out; omega))
                clear e2
                go_wp2_with (first | (with_reducible refine hold_append ?_) | (with_reducible refine hold_make ?_) | (with_reducible refine hold_copy ?_))
                exact ⟨⟨2 + 1, m2, c3, A3, by omega, rfl, by first | rfl | go_num, hm2, by rw [HW.out]; exact hoz, hGz, hPz, hRz, HNE, hBz⟩, by simp [RowKit.intOf]⟩
            · have f1 : ((4 : Int) == si) = false := by simp; omega
              have HW : Hid (wTo (2 + 1) st ps = wTo 2 st ps) := Lib.hid (wTo_no (by unfold hit; have := HSI.out; omega))
              clear e1
              go_wp2_with (first | (with_reducible refine hold_append ?_) | (with_reducible refine hold_make ?_) | (with_reducible refine hold_copy ?_))
              exact ⟨⟨2 + 1, m2, c3, A3, by omega, rfl, by first | rfl | go_num, hm2, by rw [HW.out]; exact hoz, hGz, hPz, hRz, HNE, hBz⟩, by simp [RowKit.intOf]⟩
          · have hrz0 := Box.new wr #[.int .u8 0, .int .u8 0, .int .u8 0, .nilFunc] 86
            have hGz0 := hGq.alloc (.cells #[.int .u8 0, .int .u8 0, .int .u8 0, .nilFunc] 86)
            have hPz0 := hPq.alloc (.cells #[.int .u8 0, .int .u8 0, .int .u8 0, .nilFunc] 86)
            have hRz0 := hRq.alloc (.cells #[.int .u8 0, .int .u8 0, .int .u8 0, .nilFunc] 86)
            have hoz0 := hoq.alloc (.cells #[.int .u8 0, .int .u8 0, .int .u8 0, .nilFunc] 86)
            have hBz0 := hBq.alloc hBq.size (.cells #[.int .u8 0, .int .u8 0, .int .u8 0, .nilFunc] 86)
            have q0 : wr.cell? ⟨rb, 4 * 3, none⟩ = some (.int .u8 4) := hRq.cell (j := 4 * 3) rfl
            have q1 : wr.cell? ⟨rb, 4 * 3 + 1, none⟩ = some (.int .u8 1) := hRq.cell (j := 4 * 3 + 1) rfl
            have q2 : wr.cell? ⟨rb, 4 * 3 + 2, none⟩ = some (.int .u8 3) := hRq.cell (j := 4 * 3 + 2) rfl
            have q3 : wr.cell? ⟨rb, 4 * 3 + 3, none⟩ = some (.func (.func 64) #[] #[]) := hRq.cell (j := 4 * 3 + 3) rfl
            simp only [Nat.reduceMul, Nat.reduceAdd] at q0 q1 q2 q3
            have hGlt := hGq.lt
            have hPlt := hPq.lt
            have hRlt := hRq.lt
            have hBrs := hBq.size
            go_wp2_with (first | (with_reducible refine hold_append ?_) | (with_reducible refine hold_make ?_) | (with_reducible refine hold_copy ?_) | (with_reducible refine hold_store ?_))
            refine unhold (wp_box (v := .agg #[.int .u8 4, .int .u8 1, .int .u8 3, .func (.func 64) #[] #[]]) (vs := [.int .u8 4, .int .u8 1, .int .u8 3, .func (.func 64) #[] #[]]) rfl rfl rfl rfl hrz0 rfl (by kernel_rfl) (by simp) (by simp; (refine ⟨?_, ?_, ?_, ?_⟩ <;> rfl)) #[.int .u8 4, .int .u8 1, .int .u8 3, .func (.func 64) #[] #[]] (by simp) ?_)
            intro wz hrz hgz hsz
            clear hsz
            have hGz := hGz0.grown hgz (by intro e; injection e with e; omega)
            have hPz := hPz0.grown hgz (by intro e; injection e with e; omega)
            have hRz := hRz0.grown hgz (by intro e; injection e with e; omega)
            have hoz := own_stays hoz0 hgz (fun g' hg' e => by injection e with e; have := (hoq.blk_lt hg').2; omega)
            have hBz := below_box hBz0 hgz (by omega)
            clear hrz0 hGz0 hPz0 hRz0 hoz0 hBz0 hgz hGq hPq hRq hoq hBq
            go_upto_region 10 with fail
            try simp only [Act.put]
            clear q0 q1 q2 q3
            have r0 := hrz.cell (j := 0) rfl
            have r1 := hrz.cell (j := 1) rfl
            have r2 := hrz.cell (j := 2) rfl
            have x3 := hGz.cell (j := 3) rfl
            have y0 := hPz.cell (j := 0) rfl
            have y1 := hPz.cell (j := 1) rfl
            have y2 := hPz.cell (j := 2) rfl
            have y3 := hPz.cell (j := 3) rfl
            have y4 := hPz.cell (j := 4) rfl
            have hGlt := hGz.lt
            have hPlt := hPz.lt
            have hRlt := hRz.lt
            have hBrs := hBz.size
            by_cases e1 : si = 4
            · subst e1
              by_cases e2 : ps = 1
              · have f2 : ((1 : Int) == (ps : Int)) = true := by simp; omega
                have hhit : hit 3 st ps := by unfold hit; have := HSI.out; omega
                have HW0 := Lib.hid (wTo_hit hhit)
                have HAP : Hid (mails st (pl.take k) ++ mTo (wTo 3 st ps) pn ⟨xf, xg, xh⟩ = mails st (pl.take k) ∧ mails st (pl.take k) ++ mTo (wTo (3 + 1) st ps) pn ⟨xf, xg, xh⟩ = mails st (pl.take k) ++ [(pn, 3, ⟨xf, xg, xh⟩)]) := Lib.hid ⟨by rw [HW0.out.1]; simp [mTo], by rw [HW0.out.2]; simp [mTo]⟩
                clear hhit HW0
                clear e2
                rw [HAP.out.1] at hoz
                have hmk : m2 ≤ k := by
                  have h1 := own_len mlShape hoz
                  have h2 := mails_len st (pl.take k)
                  have h3 := List.length_take_le k pl
                  omega
                go_wp2_with (first | (with_reducible refine hold_append ?_) | (with_reducible refine hold_make ?_) | (with_reducible refine hold_copy ?_) | (with_reducible refine hold_store ?_))
                refine unhold (wp_rec mlShape slM Try.underlying59 rfl rfl rfl rfl rfl ((pn, 3, ⟨xf, xg, xh⟩) : Nat × Nat × Xd) rfl hoz (by omega) (by omega) (by omega) ?_)
                intro A4 c4 w4 ho4 hg4 hbk _
                rw [← HAP.out.2] at ho4
                have hnb : ∀ g', blk A3 = some g' → w.heap.size + 1 ≤ g' := fun g' hg' => (hoz.blk_lt hg').1
                have hB4 := hBz.grown hg4 hBz.size (fun g' hg' => by have := hnb g' hg'; omega)
                have hG4 := hGz.grown hg4 (by intro e; have := hnb _ e.symm; omega)
                have hP4 := hPz.grown hg4 (by intro e; exact (HNE.out _ e.symm).1 rfl)
                have hR4 := hRz.grown hg4 (by intro e; exact (HNE.out _ e.symm).2 rfl)
                have HNE4 : Hid (∀ g', blk A4 = some g' → g' ≠ pb ∧ g' ≠ rb) := Lib.hid (fun g' hg' => by
                  rcases hbk with h | h
                  · exact HNE.out g' (by rw [← h]; exact hg')
                  · have := h g' hg'; exact ⟨by omega, by omega⟩)
                clear r0 r1 r2 x3 y0 y1 y2 y3 y4 hbk
                go_wp2_with (first | (with_reducible refine hold_append ?_) | (with_reducible refine hold_make ?_) | (with_reducible refine hold_copy ?_))
                exact ⟨⟨3 + 1, m2 + 1, c4, A4, by omega, rfl, by first | rfl | go_num, by omega, ho4, hG4, hP4, hR4, HNE4, hB4⟩, by simp [RowKit.intOf]⟩
              · have f2 : ((1 : Int) == (ps : Int)) = false := by simp; omega
                have HW : Hid (wTo (3 + 1) st ps = wTo 3 st ps) := Lib.hid (wTo_no (by unfold hit; have := HSI.out; omega))
                clear e2
                go_wp2_with (first | (with_reducible refine hold_append ?_) | (with_reducible refine hold_make ?_) | (with_reducible refine hold_copy ?_))
                exact ⟨⟨3 + 1, m2, c3, A3, by omega, rfl, by first | rfl | go_num, hm2, by rw [HW.out]; exact hoz, hGz, hPz, hRz, HNE, hBz⟩, by simp [RowKit.intOf]⟩
            · have f1 : ((4 : Int) == si) = false := by simp; omega
              have HW : Hid (wTo (3 + 1) st ps = wTo 3 st ps) := Lib.hid (wTo_no (by unfold hit; have := HSI.out; omega))
              clear e1
              go_wp2_with (first | (with_reducible refine hold_append ?_) | (with_reducible refine hold_make ?_) | (with_reducible refine hold_copy ?_))
              exact ⟨⟨3 + 1, m2, c3, A3, by omega, rfl, by first | rfl | go_num, hm2, by rw [HW.out]; exact hoz, hGz, hPz, hRz, HNE, hBz⟩, by simp [RowKit.intOf]⟩
          · rw [← HTK.out] at hoq
            have hmk : m2 ≤ k + 1 := hm2
            go_wp2_with (first | (with_reducible refine hold_append ?_) | (with_reducible refine hold_make ?_) | (with_reducible refine hold_copy ?_))
            exact ⟨⟨k + 1, m2, c3, A3, by omega, rfl, by go_num, hmk, hoq, hGq, hBq⟩, by simp [RowKit.intOf]; omega⟩
      · have hkk : n = k := by omega
        subst hkk
        have HALL : Hid (mails st (pl.take n) = RS) := Lib.hid (by rw [HRM.out, List.take_of_length_le (by rw [HLEN.out]; exact Nat.le_refl _)])
        rw [HALL.out] at hor
        go_wp2_with (first | (with_reducible refine hold_append ?_) | (with_reducible refine hold_make ?_) | (with_reducible refine hold_copy ?_))
        go_ret
        exact ⟨A3, m2, c3, rfl, Own.base_le hor (by omega), hBr⟩
end Go.PH
end

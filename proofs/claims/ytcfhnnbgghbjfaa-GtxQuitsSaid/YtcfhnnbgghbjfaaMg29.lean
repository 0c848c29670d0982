/- Texts laid together: GtLawQuits. -/
import Derived.Test.YtcfhnnbgghbjfaaMg10
import Derived.Test.YtcfhnnbgghbjfaaMg13
import Derived.Test.YtcfhnnbgghbjfaaMg17
import Derived.Test.YtcfhnnbgghbjfaaMg25
section
/- The law GtxQuits, walked. -/
set_option linter.all false
set_option linter.unusedSimpArgs false
set_option linter.unusedVariables false
namespace Go.PH
open Go.RowKit Go.Proofs

theorem qst_mails {x : Xd} {P : List Pt} (hd : dcOk x (allTo 0 P) = true) (h : ∀ p ∈ P, p.st = 0) (i : Nat) : (qst x P i).mails.length = P.length := by
  unfold Gl.mails
  rw [if_pos (qst_ok hd h i)]
  have hw : waits (qst x P i).st 0 ≠ 0 := by
    simp only [qst, waits]
    split <;> simp
  have : ∀ Q : List Pt, (∀ p ∈ Q, p.st = 0) → (mails (qst x P i).st Q).length = Q.length := by
    intro Q
    induction Q with
    | nil => intro _; rfl
    | cons p Q ih =>
      intro hq
      have e : mails (qst x P i).st (p :: Q) = mTo (waits (qst x P i).st p.st) p.node p.x ++ mails (qst x P i).st Q := rfl
      rw [e, hq p (List.mem_cons_self ..), List.length_append, ih (fun q hq' => hq q (List.mem_cons_of_mem _ hq'))]
      unfold mTo
      rw [if_neg hw]
      simp
      omega
  exact this P h
def QNo (w : World) (e : Ending) (w' : World) : Prop := ∃ A2 n2 c2, e = .returned (.tuple #[.agg #[.int .u32 0, .string (str []), .string (str []), .int .u8 0, .bool false, .slice A2 n2 c2, .int .u32 0, .int .u32 0], .int .i64 2]) ∧ Below w.heap.size w w'
def QYes (w : World) (n : Nat) (P : List Pt) (e : Ending) (w' : World) : Prop := ∃ A2 c2, e = .returned (.tuple #[.agg #[.int .u32 0, .string (str [103]), .string (str []), .int .u8 1, .bool false, .slice A2 n c2, .int .u32 0, .int .u32 0], .int .i64 0]) ∧ OwnP w' w.heap.size A2 n c2 P ∧ Below w.heap.size w w'
def QAsk (w : World) (n : Nat) (P : List Pt) (e : Ending) (w' : World) : Prop := ∃ A2 c2, e = .returned (.tuple #[.agg #[.int .u32 0, .string (str [103]), .string (str []), .int .u8 2, .bool false, .slice A2 n c2, .int .u32 0, .int .u32 0], .int .i64 0]) ∧ OwnP w' w.heap.size A2 n c2 P ∧ Below w.heap.size w w'
def QTick (w : World) (n : Nat) (P : List Pt) (k st : Nat) (is : Bool) (e : Ending) (w' : World) : Prop := ∃ (A2 : Option Addr) (c2 wt tr : Nat), e = .returned (.tuple #[.agg #[.int .u32 0, .string (str [103]), .string (str []), .int .u8 (st : Int), .bool false, .slice A2 n c2, .int .u32 (wt : Int), .int .u32 (tr : Int)], .bool is, .int .i64 0]) ∧ Hid (qst hx P (k + 1) = ⟨hx, st, false, P, wt, tr⟩) ∧ OwnP w' w.heap.size A2 n c2 P ∧ Below w.heap.size w w'
theorem hx_wf : hx.wf := ⟨by decide, by decide, by decide⟩
theorem hx_ok : hx.ok = true := by kernel_rfl
section
variable {P : List Pt} {nl : List UInt8} {n : Nat}
theorem qno_any (A : Option Addr) (c B : Nat) (W : World) (hr : RdB W B A n c nl) (hB : B ≤ W.heap.size) (hn : n ≤ 20) (h : (Gl.new hx (nl.map UInt8.toNat)).2 ≠ 0) :
    Calls Try.prog 15 #[.agg #[.int .u32 0, .string (str [103]), .string (str [])], .slice A n c] W (QNo W) :=
  (new_any hx A n c nl B W hx_wf hr hB (by omega)).mono fun e w' h' => by
    have h2 := new_err hx _ hx_ok rfl h
    have h3 : (Gl.new hx (nl.map UInt8.toNat)) = (gl0, 2) := by
      unfold Gl.new at h ⊢
      split
      · rename_i h1; rw [Gl.new, if_pos h1] at h2; cases h2
      · rename_i h1
        rw [if_neg h1] at h
        split
        · rfl
        · rename_i h4; rw [if_neg h4] at h; exact absurd rfl h
    rw [h3] at h'
    obtain ⟨A2, n2, c2, rfl, _, _, hB⟩ := h'
    exact ⟨A2, n2, c2, rfl, hB⟩
theorem qyes_any (A : Option Addr) (c B : Nat) (W : World) (hr : RdB W B A n c nl) (hB : B ≤ W.heap.size) (hn : n ≤ 20) (h : (Gl.new hx (nl.map UInt8.toNat)).2 = 0) :
    Calls Try.prog 15 #[.agg #[.int .u32 0, .string (str [103]), .string (str [])], .slice A n c] W (QYes W n (newParts hx (nl.map UInt8.toNat))) :=
  (new_any hx A n c nl B W hx_wf hr hB (by omega)).mono fun e w' h' => by
    have h3 : (Gl.new hx (nl.map UInt8.toNat)) = (newGl hx (nl.map UInt8.toNat), 0) := by
      rw [← (new_ask hx _ h).1, ← h]
    rw [h3] at h'
    obtain ⟨A2, n2, c2, rfl, ho, _, hB⟩ := h'
    have hl := own_len ptShape ho
    have hl2 := RdB.length hr
    obtain rfl : n2 = n := by
      simp only [newGl, newParts, List.length_map] at hl
      omega
    exact ⟨A2, c2, rfl, ho, hB⟩
theorem qask_any (A : Option Addr) (c : Nat) (W : World) (hr : RdP W W.heap.size A n c (newParts hx (nl.map UInt8.toNat))) (hn : n ≤ 20) (h : (Gl.new hx (nl.map UInt8.toNat)).2 = 0) (hwf : ∀ m ∈ nl.map UInt8.toNat, m < 256) :
    Calls Try.prog 30 #[.agg #[.int .u32 0, .string (str [103]), .string (str []), .int .u8 1, .bool false, .slice A n c, .int .u32 0, .int .u32 0], .bool true] W (QAsk W n (newParts hx (nl.map UInt8.toNat))) :=
  (ask_any (newGl hx (nl.map UInt8.toNat)) true A n c W.heap.size W (newGl_wf hx_wf _ hwf) hr (Nat.le_refl _) (by omega)).mono fun e w' h' => by
    rw [(new_ask hx _ h).2.2.2] at h'
    obtain ⟨A2, n2, c2, rfl, ho, _, hB⟩ := h'
    have hl := own_len ptShape ho
    have hl2 := rec_length ptShape hr
    obtain rfl : n2 = n := by
      simp only [qst] at hl
      omega
    exact ⟨A2, c2, rfl, ho, hB⟩
theorem qtick_any (hd : dcOk hx (allTo 0 P) = true) (h0 : ∀ p ∈ P, p.st = 0) (hwf : ∀ p ∈ P, p.wf) (k st sn wt tr : Nat) (is : Bool) (A : Option Addr) (c : Nat) (B : Nat) (W : World) (hq : Hid (qst hx P k = ⟨hx, st, false, P, wt, tr⟩)) (hr : RdP W B A n c P) (hB : B ≤ W.heap.size) (hn : n ≤ 20) (hs : sn = if k < 15 then 2 else 4) (hi : is = decide (k % 3 = 0)) :
    Calls Try.prog 31 #[.agg #[.int .u32 0, .string (str [103]), .string (str []), .int .u8 (st : Int), .bool false, .slice A n c, .int .u32 (wt : Int), .int .u32 (tr : Int)]] W (QTick W n P k sn is) := by
  have hq := hq.out
  have hok := qst_ok hd h0 k
  have htk := qst_tick hd h0 k
  rw [hq] at hok htk
  have hwfG : Gl.wf ⟨hx, st, false, P, wt, tr⟩ := by
    have h1 : (qst hx P k).st < 256 ∧ (qst hx P k).wait < 4294967296 ∧ (qst hx P k).tries < 4294967296 := by
      simp only [qst]
      refine ⟨by split <;> omega, by omega, by split <;> omega⟩
    rw [hq] at h1
    exact ⟨hx_wf, h1.1, hwf, h1.2.1, h1.2.2⟩
  refine (tick_any ⟨hx, st, false, P, wt, tr⟩ A n c B W hwfG hr hB (by omega)).mono fun e w' h' => ?_
  rw [htk] at h'
  obtain ⟨A2, n2, c2, rfl, ho, _, hB⟩ := h'
  have hl := own_len ptShape ho
  have hl2 := rec_length ptShape hr
  obtain rfl : n2 = n := by
    simp only [qst] at hl
    omega
  have hst : (qst hx P (k + 1)).st = sn := by
    simp only [qst, hs]
    by_cases h15 : k < 15
    · rw [if_pos h15, if_pos (by omega)]
    · rw [if_neg h15, if_neg (by omega)]
  subst hst hi
  exact ⟨A2, c2, (qst hx P (k + 1)).wait, (qst hx P (k + 1)).tries, rfl, Lib.hid rfl, ho, hB⟩
theorem qlet_any (hd : dcOk hx (allTo 0 P) = true) (h0 : ∀ p ∈ P, p.st = 0) (hwf : ∀ p ∈ P, p.wf) (k st wt tr : Nat) (A : Option Addr) (c : Nat) (B : Nat) (W : World) (hq : Hid (qst hx P k = ⟨hx, st, false, P, wt, tr⟩)) (hr : RdP W B A n c P) (hB : B ≤ W.heap.size) (hn : n ≤ 20) :
    Calls Try.prog 26 #[.agg #[.int .u32 0, .string (str [103]), .string (str []), .int .u8 (st : Int), .bool false, .slice A n c, .int .u32 (wt : Int), .int .u32 (tr : Int)]] W fun e w' => ∃ A2 c2, e = .returned (.slice A2 n c2) ∧ Below W.heap.size W w' := by
  have hq := hq.out
  have hm := qst_mails hd h0 k
  have h1 : (qst hx P k).st < 256 ∧ (qst hx P k).wait < 4294967296 ∧ (qst hx P k).tries < 4294967296 := by
    simp only [qst]
    refine ⟨by split <;> omega, by omega, by split <;> omega⟩
  rw [hq] at h1 hm
  refine (letters_any ⟨hx, st, false, P, wt, tr⟩ A n c B W ⟨hx_wf, h1.1, hwf, h1.2.1, h1.2.2⟩ hr hB (by omega)).mono fun e w' h' => ?_
  obtain ⟨A2, m2, c2, rfl, ho, hB⟩ := h'
  have hl := own_len mlShape ho
  have hl2 := rec_length ptShape hr
  obtain rfl : m2 = n := by omega
  exact ⟨A2, c2, rfl, hB⟩
end
set_option maxRecDepth 20000 in
set_option maxHeartbeats 4000000 in
theorem law_GtxQuits (A : Option Addr) (n c : Nat) (nl : List UInt8) (t : Nat) (w : World) (hr : RdB w w.heap.size A n c nl) (hn : n ≤ 140737488351232) (ht : t < 256) :
    Calls Try.prog 6 #[.slice A n c, .int .u8 (t : Int)] w fun e w' => e = .returned (.bool true) ∧ Below w.heap.size w w' := by
  have hB0 := Below.refl w.heap.size w
  go_enter Try.func6, Try.ntmps6
  by_cases h1 : n ≤ 20
  · have b1 : decide (20 < n) = false := by simp; omega
    have hlm : ∀ m ∈ nl.map UInt8.toNat, m < 256 := by
      intro m hm
      obtain ⟨u, _, rfl⟩ := List.mem_map.1 hm
      exact u.toNat_lt
    have HLM := Lib.hid hlm
    clear hlm
    have hX := Box.new w #[.int .u32 0, .string (str [103]), .string (str [])] 24
    by_cases hnew : (Gl.new hx (nl.map UInt8.toNat)).2 = 0
    · have HN := Lib.hid hnew
      have hn2 := fun W (hW : Below w.heap.size w W) => qyes_any A c w.heap.size W (hr.below hW) hW.size h1 HN.out
      have HA := fun A c W hr => qask_any (nl := nl) (n := n) A c W hr h1 HN.out HLM.out
      obtain ⟨-, -, hd, -⟩ := new_ask hx _ hnew
      have h0 : ∀ p ∈ newParts hx (nl.map UInt8.toNat), p.st = 0 := newParts_st
      have hwf : ∀ p ∈ newParts hx (nl.map UInt8.toNat), p.wf := (newGl_wf hx_wf _ HLM.out).2.2.1
      clear hnew HN
      generalize newParts hx (nl.map UInt8.toNat) = P at *
      have HD := Lib.hid hd
      have H0 := Lib.hid h0
      have HWF := Lib.hid hwf
      clear hd h0 hwf HLM hr
      go_wp2_with (first | (with_reducible refine hold_append ?_) | (with_reducible refine hold_make ?_) | (with_reducible refine hold_copy ?_))
      refine (hn2 w hB0).mono ?_
      rintro e w1 ⟨A1, c1, rfl, ho1, hB1⟩
      have hbg := Box.new w1 #[.int .u32 0, .string (str [103]), .string (str []), .int .u8 1, .bool false, .slice A1 n c1, .int .u32 0, .int .u32 0] 28
      have hC1 := hB1.alloc hB1.size (.cells #[.int .u32 0, .string (str [103]), .string (str []), .int .u8 1, .bool false, .slice A1 n c1, .int .u32 0, .int .u32 0] 28)
      have ho2 := own_below ho1 ((Below.refl w1.heap.size w1).alloc (Nat.le_refl _) (.cells #[.int .u32 0, .string (str [103]), .string (str []), .int .u8 1, .bool false, .slice A1 n c1, .int .u32 0, .int .u32 0] 28))
      have hgb := hB1.size
      clear hX
      go_upto_region 6 with fail
      obtain ⟨gb, hgq⟩ : ∃ g, g = w1.heap.size := ⟨_, rfl⟩
      rw [← hgq] at hbg hgb ⊢
      clear hgq ho1 hB1 hn2 hB0
      generalize (w1.alloc (.cells #[.int .u32 0, .string (str [103]), .string (str []), .int .u8 1, .bool false, .slice A1 n c1, .int .u32 0, .int .u32 0] 28)) = w2 at *
      have hltg := hbg.lt
      have x0 := hbg.cell (j := 0) rfl
      have x1 := hbg.cell (j := 1) rfl
      have x2 := hbg.cell (j := 2) rfl
      have x3 := hbg.cell (j := 3) rfl
      have x4 := hbg.cell (j := 4) rfl
      have x5 := hbg.cell (j := 5) rfl
      have x6 := hbg.cell (j := 6) rfl
      have x7 := hbg.cell (j := 7) rfl
      go_wp2_with (first | (with_reducible refine hold_append ?_) | (with_reducible refine hold_make ?_) | (with_reducible refine hold_copy ?_) | (with_reducible refine hold_store ?_))
      refine (HA A1 c1 w2 ho2.rd).mono ?_
      rintro e w3 ⟨A2, c2, rfl, ho3, hB3⟩
      have hbg3 := hbg.below hB3
      have hB13 := hC1.trans (hB3.mono hC1.size)
      clear x0 x1 x2 x3 x4 x5 x6 x7 hbg ho2 hC1 HA hB3
      go_wp2_with (first | (with_reducible refine hold_append ?_) | (with_reducible refine hold_make ?_) | (with_reducible refine hold_copy ?_) | (with_reducible refine hold_store ?_))
      refine unhold (wp_box (v := .agg #[.int .u32 0, .string (str [103]), .string (str []), .int .u8 2, .bool false, .slice A2 n c2, .int .u32 0, .int .u32 0]) (vs := [.int .u32 0, .string (str [103]), .string (str []), .int .u8 2, .bool false, .slice A2 n c2, .int .u32 0, .int .u32 0]) rfl rfl rfl rfl hbg3 rfl (by kernel_rfl) (by simp) gl_one #[.int .u32 0, .string (str [103]), .string (str []), .int .u8 2, .bool false, .slice A2 n c2, .int .u32 0, .int .u32 0] (by simp) ?_)
      intro w4 hb4 hg4 _
      have ho4 := own_box ho3 hg4 hltg
      have hB4 := below_box hB13 hg4 hgb
      have HQ0 : Hid (qst hx P 0 = ⟨hx, 2, false, P, 0, 0⟩) := Lib.hid rfl
      have hr4 := ho4.rd
      clear hbg3 hg4 ho3 ho4 hB13 hltg
      go_wp2_with (first | (with_reducible refine hold_append ?_) | (with_reducible refine hold_make ?_) | (with_reducible refine hold_copy ?_))
      go_loopw [7] (fun s wr => ∃ (k st wt tr : Nat) (Ag : Option Addr) (cg : Nat), k ≤ t % 31 ∧ s = .int .i64 k ∧ Hid (qst hx P k = ⟨hx, st, false, P, wt, tr⟩) ∧ Box wr gb 28 #[.int .u32 0, .string (str [103]), .string (str []), .int .u8 (st : Int), .bool false, .slice Ag n cg, .int .u32 (wt : Int), .int .u32 (tr : Int)] ∧ RdP wr wr.heap.size Ag n cg P ∧ Below w.heap.size w wr) (fun s _ => t % 31 - (RowKit.intOf s).toNat)
      case atStart => exact ⟨0, 2, 0, 0, A2, c2, by omega, rfl, HQ0, hb4, hr4, hB4⟩
      case round =>
        obtain ⟨k, st, wt, tr, Ag, cg, hk, rfl, HQ, hbg, hrg, hBr⟩ := hrel
        clear HQ0 hb4 hr4 hB4
        by_cases hlt : k < t % 31
        · have hkn : (k : Int) < (t : Int) % 31 := by omega
          by_cases h3 : k % 3 = 0
          · have hm : ((k : Int) % 3 == 0) = true := by simp; omega
            by_cases h15 : k < 15
            · have h15' : ¬ 15 ≤ (k : Int) := by omega
              have htk := qtick_any (n := n) HD.out H0.out HWF.out k st 2 wt tr true Ag cg _ wr HQ hrg (Nat.le_refl _) h1 (by rw [if_pos h15]) (by simp [h3])
              have hltg := hbg.lt
              have x0 := hbg.cell (j := 0) rfl
              have x1 := hbg.cell (j := 1) rfl
              have x2 := hbg.cell (j := 2) rfl
              have x3 := hbg.cell (j := 3) rfl
              have x4 := hbg.cell (j := 4) rfl
              have x5 := hbg.cell (j := 5) rfl
              have x6 := hbg.cell (j := 6) rfl
              have x7 := hbg.cell (j := 7) rfl
              go_wp2_with (first | (with_reducible refine hold_append ?_) | (with_reducible refine hold_make ?_) | (with_reducible refine hold_copy ?_))
              refine htk.mono ?_
              rintro e w5 ⟨A5, c5, wt5, tr5, rfl, HQ5, ho5, hB5⟩
              clear htk x0 x1 x2 x3 x4 x5 x6 x7 HQ
              have hbg5 := hbg.below hB5
              have hbn := Box.new w5 #[.int .u32 0, .string (str [103]), .string (str []), .int .u8 (2 : Int), .bool false, .slice A5 n c5, .int .u32 (wt5 : Int), .int .u32 (tr5 : Int)] 28
              have hBr5 := hBr.trans (hB5.mono hBr.size)
              have hC5 := hBr5.alloc hBr5.size (.cells #[.int .u32 0, .string (str [103]), .string (str []), .int .u8 (2 : Int), .bool false, .slice A5 n c5, .int .u32 (wt5 : Int), .int .u32 (tr5 : Int)] 28)
              have ho6 := own_below ho5 ((Below.refl w5.heap.size w5).alloc (Nat.le_refl _) (.cells #[.int .u32 0, .string (str [103]), .string (str []), .int .u8 (2 : Int), .bool false, .slice A5 n c5, .int .u32 (wt5 : Int), .int .u32 (tr5 : Int)] 28))
              have hbg5 := hbg5.alloc (.cells #[.int .u32 0, .string (str [103]), .string (str []), .int .u8 (2 : Int), .bool false, .slice A5 n c5, .int .u32 (wt5 : Int), .int .u32 (tr5 : Int)] 28)
              have hle5 := hB5.size
              go_upto_region 13 with fail
              obtain ⟨g5, hg5⟩ : ∃ g, g = w5.heap.size := ⟨_, rfl⟩
              rw [← hg5] at hbn hle5 ⊢
              clear hg5 ho5 hB5 hBr5
              generalize (w5.alloc (.cells #[.int .u32 0, .string (str [103]), .string (str []), .int .u8 (2 : Int), .bool false, .slice A5 n c5, .int .u32 (wt5 : Int), .int .u32 (tr5 : Int)] 28)) = w6 at *
              have hlt6 := qlet_any (n := n) HD.out H0.out HWF.out (k + 1) 2 wt5 tr5 A5 c5 _ w6 HQ5 ho6.rd (Nat.le_refl _) h1
              have x0 := hbn.cell (j := 0) rfl
              have x1 := hbn.cell (j := 1) rfl
              have x2 := hbn.cell (j := 2) rfl
              have x3 := hbn.cell (j := 3) rfl
              have x4 := hbn.cell (j := 4) rfl
              have x5 := hbn.cell (j := 5) rfl
              have x6 := hbn.cell (j := 6) rfl
              have x7 := hbn.cell (j := 7) rfl
              go_wp2_with (first | (with_reducible refine hold_append ?_) | (with_reducible refine hold_make ?_) | (with_reducible refine hold_copy ?_))
              refine hlt6.mono ?_
              rintro e w7 ⟨A7, c7, rfl, hB7⟩
              clear hlt6 x0 x1 x2 x3 x4 x5 x6 x7
              have hbg7 := hbg5.below hB7
              have hbn7 := hbn.below hB7
              have ho7 := own_below ho6 hB7
              have hBr7 := hC5.trans (hB7.mono hC5.size)
              clear hbg5 hbn ho6 hC5 hB7 hbg
              have x0 := hbn7.cell (j := 0) rfl
              have x1 := hbn7.cell (j := 1) rfl
              have x2 := hbn7.cell (j := 2) rfl
              have x3 := hbn7.cell (j := 3) rfl
              have x4 := hbn7.cell (j := 4) rfl
              have x5 := hbn7.cell (j := 5) rfl
              have x6 := hbn7.cell (j := 6) rfl
              have x7 := hbn7.cell (j := 7) rfl
              go_wp2_with (first | (with_reducible refine hold_append ?_) | (with_reducible refine hold_make ?_) | (with_reducible refine hold_copy ?_) | (with_reducible refine hold_store ?_))
              refine unhold (wp_box (v := .agg #[.int .u32 0, .string (str [103]), .string (str []), .int .u8 (2 : Int), .bool false, .slice A5 n c5, .int .u32 (wt5 : Int), .int .u32 (tr5 : Int)]) (vs := [.int .u32 0, .string (str [103]), .string (str []), .int .u8 (2 : Int), .bool false, .slice A5 n c5, .int .u32 (wt5 : Int), .int .u32 (tr5 : Int)]) rfl rfl rfl rfl hbg7 rfl (by kernel_rfl) (by simp) gl_one #[.int .u32 0, .string (str [103]), .string (str []), .int .u8 (2 : Int), .bool false, .slice A5 n c5, .int .u32 (wt5 : Int), .int .u32 (tr5 : Int)] (by simp) ?_)
              intro w8 hb8 hg8 _
              have ho8 := own_box ho7 hg8 hltg
              have hB8 := below_box hBr7 hg8 hgb
              clear hbg7 hbn7 ho7 hBr7 hg8 x0 x1 x2 x3 x4 x5 x6 x7
              go_wp2_with (first | (with_reducible refine hold_append ?_) | (with_reducible refine hold_make ?_) | (with_reducible refine hold_copy ?_))
              exact ⟨⟨k + 1, 2, wt5, tr5, A5, c5, by omega, by go_num, HQ5, hb8, ho8.rd, hB8⟩, by simp [RowKit.intOf]; omega⟩
            · have h15' : 15 ≤ (k : Int) := by omega
              have htk := qtick_any (n := n) HD.out H0.out HWF.out k st 4 wt tr true Ag cg _ wr HQ hrg (Nat.le_refl _) h1 (by rw [if_neg h15]) (by simp [h3])
              have hltg := hbg.lt
              have x0 := hbg.cell (j := 0) rfl
              have x1 := hbg.cell (j := 1) rfl
              have x2 := hbg.cell (j := 2) rfl
              have x3 := hbg.cell (j := 3) rfl
              have x4 := hbg.cell (j := 4) rfl
              have x5 := hbg.cell (j := 5) rfl
              have x6 := hbg.cell (j := 6) rfl
              have x7 := hbg.cell (j := 7) rfl
              go_wp2_with (first | (with_reducible refine hold_append ?_) | (with_reducible refine hold_make ?_) | (with_reducible refine hold_copy ?_))
              refine htk.mono ?_
              rintro e w5 ⟨A5, c5, wt5, tr5, rfl, HQ5, ho5, hB5⟩
              clear htk x0 x1 x2 x3 x4 x5 x6 x7 HQ
              have hbg5 := hbg.below hB5
              have hbn := Box.new w5 #[.int .u32 0, .string (str [103]), .string (str []), .int .u8 (4 : Int), .bool false, .slice A5 n c5, .int .u32 (wt5 : Int), .int .u32 (tr5 : Int)] 28
              have hBr5 := hBr.trans (hB5.mono hBr.size)
              have hC5 := hBr5.alloc hBr5.size (.cells #[.int .u32 0, .string (str [103]), .string (str []), .int .u8 (4 : Int), .bool false, .slice A5 n c5, .int .u32 (wt5 : Int), .int .u32 (tr5 : Int)] 28)
              have ho6 := own_below ho5 ((Below.refl w5.heap.size w5).alloc (Nat.le_refl _) (.cells #[.int .u32 0, .string (str [103]), .string (str []), .int .u8 (4 : Int), .bool false, .slice A5 n c5, .int .u32 (wt5 : Int), .int .u32 (tr5 : Int)] 28))
              have hbg5 := hbg5.alloc (.cells #[.int .u32 0, .string (str [103]), .string (str []), .int .u8 (4 : Int), .bool false, .slice A5 n c5, .int .u32 (wt5 : Int), .int .u32 (tr5 : Int)] 28)
              have hle5 := hB5.size
              go_upto_region 13 with fail
              obtain ⟨g5, hg5⟩ : ∃ g, g = w5.heap.size := ⟨_, rfl⟩
              rw [← hg5] at hbn hle5 ⊢
              clear hg5 ho5 hB5 hBr5
              generalize (w5.alloc (.cells #[.int .u32 0, .string (str [103]), .string (str []), .int .u8 (4 : Int), .bool false, .slice A5 n c5, .int .u32 (wt5 : Int), .int .u32 (tr5 : Int)] 28)) = w6 at *
              have hlt6 := qlet_any (n := n) HD.out H0.out HWF.out (k + 1) 4 wt5 tr5 A5 c5 _ w6 HQ5 ho6.rd (Nat.le_refl _) h1
              have x0 := hbn.cell (j := 0) rfl
              have x1 := hbn.cell (j := 1) rfl
              have x2 := hbn.cell (j := 2) rfl
              have x3 := hbn.cell (j := 3) rfl
              have x4 := hbn.cell (j := 4) rfl
              have x5 := hbn.cell (j := 5) rfl
              have x6 := hbn.cell (j := 6) rfl
              have x7 := hbn.cell (j := 7) rfl
              go_wp2_with (first | (with_reducible refine hold_append ?_) | (with_reducible refine hold_make ?_) | (with_reducible refine hold_copy ?_))
              refine hlt6.mono ?_
              rintro e w7 ⟨A7, c7, rfl, hB7⟩
              clear hlt6 x0 x1 x2 x3 x4 x5 x6 x7
              have hbg7 := hbg5.below hB7
              have hbn7 := hbn.below hB7
              have ho7 := own_below ho6 hB7
              have hBr7 := hC5.trans (hB7.mono hC5.size)
              clear hbg5 hbn ho6 hC5 hB7 hbg
              have x0 := hbn7.cell (j := 0) rfl
              have x1 := hbn7.cell (j := 1) rfl
              have x2 := hbn7.cell (j := 2) rfl
              have x3 := hbn7.cell (j := 3) rfl
              have x4 := hbn7.cell (j := 4) rfl
              have x5 := hbn7.cell (j := 5) rfl
              have x6 := hbn7.cell (j := 6) rfl
              have x7 := hbn7.cell (j := 7) rfl
              go_wp2_with (first | (with_reducible refine hold_append ?_) | (with_reducible refine hold_make ?_) | (with_reducible refine hold_copy ?_) | (with_reducible refine hold_store ?_))
              refine unhold (wp_box (v := .agg #[.int .u32 0, .string (str [103]), .string (str []), .int .u8 (4 : Int), .bool false, .slice A5 n c5, .int .u32 (wt5 : Int), .int .u32 (tr5 : Int)]) (vs := [.int .u32 0, .string (str [103]), .string (str []), .int .u8 (4 : Int), .bool false, .slice A5 n c5, .int .u32 (wt5 : Int), .int .u32 (tr5 : Int)]) rfl rfl rfl rfl hbg7 rfl (by kernel_rfl) (by simp) gl_one #[.int .u32 0, .string (str [103]), .string (str []), .int .u8 (4 : Int), .bool false, .slice A5 n c5, .int .u32 (wt5 : Int), .int .u32 (tr5 : Int)] (by simp) ?_)
              intro w8 hb8 hg8 _
              have ho8 := own_box ho7 hg8 hltg
              have hB8 := below_box hBr7 hg8 hgb
              clear hbg7 hbn7 ho7 hBr7 hg8 x0 x1 x2 x3 x4 x5 x6 x7
              go_wp2_with (first | (with_reducible refine hold_append ?_) | (with_reducible refine hold_make ?_) | (with_reducible refine hold_copy ?_))
              exact ⟨⟨k + 1, 4, wt5, tr5, A5, c5, by omega, by go_num, HQ5, hb8, ho8.rd, hB8⟩, by simp [RowKit.intOf]; omega⟩
          · have hm : ((k : Int) % 3 == 0) = false := by simp; omega
            by_cases h15 : k < 15
            · have h15' : ¬ 15 ≤ (k : Int) := by omega
              have htk := qtick_any (n := n) HD.out H0.out HWF.out k st 2 wt tr false Ag cg _ wr HQ hrg (Nat.le_refl _) h1 (by rw [if_pos h15]) (by simp [h3])
              have hltg := hbg.lt
              have x0 := hbg.cell (j := 0) rfl
              have x1 := hbg.cell (j := 1) rfl
              have x2 := hbg.cell (j := 2) rfl
              have x3 := hbg.cell (j := 3) rfl
              have x4 := hbg.cell (j := 4) rfl
              have x5 := hbg.cell (j := 5) rfl
              have x6 := hbg.cell (j := 6) rfl
              have x7 := hbg.cell (j := 7) rfl
              go_wp2_with (first | (with_reducible refine hold_append ?_) | (with_reducible refine hold_make ?_) | (with_reducible refine hold_copy ?_))
              refine htk.mono ?_
              rintro e w5 ⟨A5, c5, wt5, tr5, rfl, HQ5, ho5, hB5⟩
              clear htk x0 x1 x2 x3 x4 x5 x6 x7 HQ
              have hbg5 := hbg.below hB5
              have hbn := Box.new w5 #[.int .u32 0, .string (str [103]), .string (str []), .int .u8 (2 : Int), .bool false, .slice A5 n c5, .int .u32 (wt5 : Int), .int .u32 (tr5 : Int)] 28
              have hBr5 := hBr.trans (hB5.mono hBr.size)
              have hC5 := hBr5.alloc hBr5.size (.cells #[.int .u32 0, .string (str [103]), .string (str []), .int .u8 (2 : Int), .bool false, .slice A5 n c5, .int .u32 (wt5 : Int), .int .u32 (tr5 : Int)] 28)
              have ho6 := own_below ho5 ((Below.refl w5.heap.size w5).alloc (Nat.le_refl _) (.cells #[.int .u32 0, .string (str [103]), .string (str []), .int .u8 (2 : Int), .bool false, .slice A5 n c5, .int .u32 (wt5 : Int), .int .u32 (tr5 : Int)] 28))
              have hbg5 := hbg5.alloc (.cells #[.int .u32 0, .string (str [103]), .string (str []), .int .u8 (2 : Int), .bool false, .slice A5 n c5, .int .u32 (wt5 : Int), .int .u32 (tr5 : Int)] 28)
              have hle5 := hB5.size
              go_upto_region 13 with fail
              obtain ⟨g5, hg5⟩ : ∃ g, g = w5.heap.size := ⟨_, rfl⟩
              rw [← hg5] at hbn hle5 ⊢
              clear hg5 ho5 hB5 hBr5
              generalize (w5.alloc (.cells #[.int .u32 0, .string (str [103]), .string (str []), .int .u8 (2 : Int), .bool false, .slice A5 n c5, .int .u32 (wt5 : Int), .int .u32 (tr5 : Int)] 28)) = w6 at *
              have hlt6 := qlet_any (n := n) HD.out H0.out HWF.out (k + 1) 2 wt5 tr5 A5 c5 _ w6 HQ5 ho6.rd (Nat.le_refl _) h1
              have x0 := hbn.cell (j := 0) rfl
              have x1 := hbn.cell (j := 1) rfl
              have x2 := hbn.cell (j := 2) rfl
              have x3 := hbn.cell (j := 3) rfl
              have x4 := hbn.cell (j := 4) rfl
              have x5 := hbn.cell (j := 5) rfl
              have x6 := hbn.cell (j := 6) rfl
              have x7 := hbn.cell (j := 7) rfl
              go_wp2_with (first | (with_reducible refine hold_append ?_) | (with_reducible refine hold_make ?_) | (with_reducible refine hold_copy ?_))
              refine hlt6.mono ?_
              rintro e w7 ⟨A7, c7, rfl, hB7⟩
              clear hlt6 x0 x1 x2 x3 x4 x5 x6 x7
              have hbg7 := hbg5.below hB7
              have hbn7 := hbn.below hB7
              have ho7 := own_below ho6 hB7
              have hBr7 := hC5.trans (hB7.mono hC5.size)
              clear hbg5 hbn ho6 hC5 hB7 hbg
              have x0 := hbn7.cell (j := 0) rfl
              have x1 := hbn7.cell (j := 1) rfl
              have x2 := hbn7.cell (j := 2) rfl
              have x3 := hbn7.cell (j := 3) rfl
              have x4 := hbn7.cell (j := 4) rfl
              have x5 := hbn7.cell (j := 5) rfl
              have x6 := hbn7.cell (j := 6) rfl
              have x7 := hbn7.cell (j := 7) rfl
              go_wp2_with (first | (with_reducible refine hold_append ?_) | (with_reducible refine hold_make ?_) | (with_reducible refine hold_copy ?_) | (with_reducible refine hold_store ?_))
              refine unhold (wp_box (v := .agg #[.int .u32 0, .string (str [103]), .string (str []), .int .u8 (2 : Int), .bool false, .slice A5 n c5, .int .u32 (wt5 : Int), .int .u32 (tr5 : Int)]) (vs := [.int .u32 0, .string (str [103]), .string (str []), .int .u8 (2 : Int), .bool false, .slice A5 n c5, .int .u32 (wt5 : Int), .int .u32 (tr5 : Int)]) rfl rfl rfl rfl hbg7 rfl (by kernel_rfl) (by simp) gl_one #[.int .u32 0, .string (str [103]), .string (str []), .int .u8 (2 : Int), .bool false, .slice A5 n c5, .int .u32 (wt5 : Int), .int .u32 (tr5 : Int)] (by simp) ?_)
              intro w8 hb8 hg8 _
              have ho8 := own_box ho7 hg8 hltg
              have hB8 := below_box hBr7 hg8 hgb
              clear hbg7 hbn7 ho7 hBr7 hg8 x0 x1 x2 x3 x4 x5 x6 x7
              go_wp2_with (first | (with_reducible refine hold_append ?_) | (with_reducible refine hold_make ?_) | (with_reducible refine hold_copy ?_))
              exact ⟨⟨k + 1, 2, wt5, tr5, A5, c5, by omega, by go_num, HQ5, hb8, ho8.rd, hB8⟩, by simp [RowKit.intOf]; omega⟩
            · have h15' : 15 ≤ (k : Int) := by omega
              have htk := qtick_any (n := n) HD.out H0.out HWF.out k st 4 wt tr false Ag cg _ wr HQ hrg (Nat.le_refl _) h1 (by rw [if_neg h15]) (by simp [h3])
              have hltg := hbg.lt
              have x0 := hbg.cell (j := 0) rfl
              have x1 := hbg.cell (j := 1) rfl
              have x2 := hbg.cell (j := 2) rfl
              have x3 := hbg.cell (j := 3) rfl
              have x4 := hbg.cell (j := 4) rfl
              have x5 := hbg.cell (j := 5) rfl
              have x6 := hbg.cell (j := 6) rfl
              have x7 := hbg.cell (j := 7) rfl
              go_wp2_with (first | (with_reducible refine hold_append ?_) | (with_reducible refine hold_make ?_) | (with_reducible refine hold_copy ?_))
              refine htk.mono ?_
              rintro e w5 ⟨A5, c5, wt5, tr5, rfl, HQ5, ho5, hB5⟩
              clear htk x0 x1 x2 x3 x4 x5 x6 x7 HQ
              have hbg5 := hbg.below hB5
              have hbn := Box.new w5 #[.int .u32 0, .string (str [103]), .string (str []), .int .u8 (4 : Int), .bool false, .slice A5 n c5, .int .u32 (wt5 : Int), .int .u32 (tr5 : Int)] 28
              have hBr5 := hBr.trans (hB5.mono hBr.size)
              have hC5 := hBr5.alloc hBr5.size (.cells #[.int .u32 0, .string (str [103]), .string (str []), .int .u8 (4 : Int), .bool false, .slice A5 n c5, .int .u32 (wt5 : Int), .int .u32 (tr5 : Int)] 28)
              have ho6 := own_below ho5 ((Below.refl w5.heap.size w5).alloc (Nat.le_refl _) (.cells #[.int .u32 0, .string (str [103]), .string (str []), .int .u8 (4 : Int), .bool false, .slice A5 n c5, .int .u32 (wt5 : Int), .int .u32 (tr5 : Int)] 28))
              have hbg5 := hbg5.alloc (.cells #[.int .u32 0, .string (str [103]), .string (str []), .int .u8 (4 : Int), .bool false, .slice A5 n c5, .int .u32 (wt5 : Int), .int .u32 (tr5 : Int)] 28)
              have hle5 := hB5.size
              go_upto_region 13 with fail
              obtain ⟨g5, hg5⟩ : ∃ g, g = w5.heap.size := ⟨_, rfl⟩
              rw [← hg5] at hbn hle5 ⊢
              clear hg5 ho5 hB5 hBr5
              generalize (w5.alloc (.cells #[.int .u32 0, .string (str [103]), .string (str []), .int .u8 (4 : Int), .bool false, .slice A5 n c5, .int .u32 (wt5 : Int), .int .u32 (tr5 : Int)] 28)) = w6 at *
              have hlt6 := qlet_any (n := n) HD.out H0.out HWF.out (k + 1) 4 wt5 tr5 A5 c5 _ w6 HQ5 ho6.rd (Nat.le_refl _) h1
              have x0 := hbn.cell (j := 0) rfl
              have x1 := hbn.cell (j := 1) rfl
              have x2 := hbn.cell (j := 2) rfl
              have x3 := hbn.cell (j := 3) rfl
              have x4 := hbn.cell (j := 4) rfl
              have x5 := hbn.cell (j := 5) rfl
              have x6 := hbn.cell (j := 6) rfl
              have x7 := hbn.cell (j := 7) rfl
              go_wp2_with (first | (with_reducible refine hold_append ?_) | (with_reducible refine hold_make ?_) | (with_reducible refine hold_copy ?_))
              refine hlt6.mono ?_
              rintro e w7 ⟨A7, c7, rfl, hB7⟩
              clear hlt6 x0 x1 x2 x3 x4 x5 x6 x7
              have hbg7 := hbg5.below hB7
              have hbn7 := hbn.below hB7
              have ho7 := own_below ho6 hB7
              have hBr7 := hC5.trans (hB7.mono hC5.size)
              clear hbg5 hbn ho6 hC5 hB7 hbg
              have x0 := hbn7.cell (j := 0) rfl
              have x1 := hbn7.cell (j := 1) rfl
              have x2 := hbn7.cell (j := 2) rfl
              have x3 := hbn7.cell (j := 3) rfl
              have x4 := hbn7.cell (j := 4) rfl
              have x5 := hbn7.cell (j := 5) rfl
              have x6 := hbn7.cell (j := 6) rfl
              have x7 := hbn7.cell (j := 7) rfl
              go_wp2_with (first | (with_reducible refine hold_append ?_) | (with_reducible refine hold_make ?_) | (with_reducible refine hold_copy ?_) | (with_reducible refine hold_store ?_))
              refine unhold (wp_box (v := .agg #[.int .u32 0, .string (str [103]), .string (str []), .int .u8 (4 : Int), .bool false, .slice A5 n c5, .int .u32 (wt5 : Int), .int .u32 (tr5 : Int)]) (vs := [.int .u32 0, .string (str [103]), .string (str []), .int .u8 (4 : Int), .bool false, .slice A5 n c5, .int .u32 (wt5 : Int), .int .u32 (tr5 : Int)]) rfl rfl rfl rfl hbg7 rfl (by kernel_rfl) (by simp) gl_one #[.int .u32 0, .string (str [103]), .string (str []), .int .u8 (4 : Int), .bool false, .slice A5 n c5, .int .u32 (wt5 : Int), .int .u32 (tr5 : Int)] (by simp) ?_)
              intro w8 hb8 hg8 _
              have ho8 := own_box ho7 hg8 hltg
              have hB8 := below_box hBr7 hg8 hgb
              clear hbg7 hbn7 ho7 hBr7 hg8 x0 x1 x2 x3 x4 x5 x6 x7
              go_wp2_with (first | (with_reducible refine hold_append ?_) | (with_reducible refine hold_make ?_) | (with_reducible refine hold_copy ?_))
              exact ⟨⟨k + 1, 4, wt5, tr5, A5, c5, by omega, by go_num, HQ5, hb8, ho8.rd, hB8⟩, by simp [RowKit.intOf]; omega⟩
        · have hkn : ¬ (k : Int) < (t : Int) % 31 := by omega
          go_wp2_with (first | (with_reducible refine hold_append ?_) | (with_reducible refine hold_make ?_) | (with_reducible refine hold_copy ?_))
          refine (ghead_any _).mono ?_
          rintro e w9 ⟨rfl, hB9⟩
          go_wp2_with (first | (with_reducible refine hold_append ?_) | (with_reducible refine hold_make ?_) | (with_reducible refine hold_copy ?_))
          go_ret
          exact ⟨rfl, hBr.trans (hB9.mono hBr.size)⟩
    · have hn2 := fun W (hW : Below w.heap.size w W) => qno_any A c w.heap.size W (hr.below hW) hW.size h1 hnew
      clear hnew HLM hX hr
      go_wp2_with (first | (with_reducible refine hold_append ?_) | (with_reducible refine hold_make ?_) | (with_reducible refine hold_copy ?_))
      refine (hn2 w hB0).mono ?_
      rintro e w1 ⟨A2, n2, c2, rfl, hB1⟩
      clear hn2 hB0
      have hC1 := hB1.alloc hB1.size (.cells #[.int .u32 0, .string (str []), .string (str []), .int .u8 0, .bool false, .slice A2 n2 c2, .int .u32 0, .int .u32 0] 28)
      go_wp2_with (first | (with_reducible refine hold_append ?_) | (with_reducible refine hold_make ?_) | (with_reducible refine hold_copy ?_))
      refine (ghead_any _).mono ?_
      rintro e w9 ⟨rfl, hB9⟩
      go_wp2_with (first | (with_reducible refine hold_append ?_) | (with_reducible refine hold_make ?_) | (with_reducible refine hold_copy ?_))
      go_ret
      exact ⟨rfl, hC1.trans (hB9.mono hC1.size)⟩
  · have b1 : decide (20 < n) = true := by simp; omega
    go_wp2_with (first | (with_reducible refine hold_append ?_) | (with_reducible refine hold_make ?_) | (with_reducible refine hold_copy ?_))
    refine (ghead_any _).mono ?_
    rintro e w9 ⟨rfl, hB9⟩
    go_wp2_with (first | (with_reducible refine hold_append ?_) | (with_reducible refine hold_make ?_) | (with_reducible refine hold_copy ?_))
    go_ret
    exact ⟨rfl, hB0.trans (hB9.mono hB0.size)⟩
end Go.PH
end

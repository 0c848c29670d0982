/- Texts laid together: GtLawSure. -/
import Derived.Test.YtcfhnnbgghbjfaaMg10
import Derived.Test.YtcfhnnbgghbjfaaMg13
import Derived.Test.YtcfhnnbgghbjfaaMg17
import Derived.Test.YtcfhnnbgghbjfaaMg25
import Derived.Test.YtcfhnnbgghbjfaaMg29
section
/- The law GtxSure, walked. -/
set_option linter.all false
set_option linter.unusedSimpArgs false
set_option linter.unusedVariables false
namespace Go.PH
open Go.RowKit Go.Proofs

def SuA (w : World) (n : Nat) (N : Gl) (e : Ending) (w' : World) : Prop := ∃ (A2 : Option Addr) (c2 : Nat), e = .returned (.tuple #[.agg #[.int .u32 (N.x.fmt : Int), .string (str N.x.glob), .string (str N.x.bran), .int .u8 (N.st : Int), .bool N.com, .slice A2 n c2, .int .u32 (N.wait : Int), .int .u32 (N.tries : Int)], .int .i64 0]) ∧ OwnP w' w.heap.size A2 n c2 N.parts ∧ Below w.heap.size w w'
theorem SuA.of {W : World} {n : Nat} {R : Gl × Nat} {e : Ending} {w' : World} (h0 : R.2 = 0) (hl : R.1.parts.length = n) (h : TurnR W R e w') : SuA W n R.1 e w' := by
  obtain ⟨A2, n2, c2, rfl, ho, _, hB⟩ := h
  have h2 := own_len ptShape ho
  obtain rfl : n2 = n := by omega
  rw [h0]
  exact ⟨A2, c2, rfl, ho, hB⟩
/-- what an act tells -/
def SuR (w : World) (n : Nat) (G : Gl) (d : Bool) (e : Ending) (w' : World) : Prop := ∃ (N : Gl) (A2 : Option Addr) (n2 c2 E : Nat), e = .returned (.tuple #[.agg #[.int .u32 (N.x.fmt : Int), .string (str N.x.glob), .string (str N.x.bran), .int .u8 (N.st : Int), .bool N.com, .slice A2 n2 c2, .int .u32 (N.wait : Int), .int .u32 (N.tries : Int)], .int .i64 (E : Int)]) ∧ Hid (E = 0 → Kept G N d ∧ n2 = n) ∧ OwnP w' w.heap.size A2 n2 c2 N.parts ∧ Below w.heap.size w w'
def SuT (w : World) (n : Nat) (G : Gl) (e : Ending) (w' : World) : Prop := ∃ (N : Gl) (A2 : Option Addr) (c2 : Nat) (is : Bool), e = .returned (.tuple #[.agg #[.int .u32 (N.x.fmt : Int), .string (str N.x.glob), .string (str N.x.bran), .int .u8 (N.st : Int), .bool N.com, .slice A2 n c2, .int .u32 (N.wait : Int), .int .u32 (N.tries : Int)], .bool is, .int .i64 0]) ∧ Hid (Kept G N false) ∧ OwnP w' w.heap.size A2 n c2 N.parts ∧ Below w.heap.size w w'
theorem kept0 {G N : Gl} {D : Bool} {n : Nat} (h : Kept G N D) : Hid ((0 : Nat) = 0 → Kept G N D ∧ n = n) := Lib.hid fun _ => ⟨h, rfl⟩
section
variable {G : Gl} {n : Nat} {A : Option Addr} {c B : Nat} {W : World}
theorem SuR.of {R : Gl × Nat} {d : Bool} {e : Ending} {w' : World} (hl : G.parts.length = n) (hk : R.2 = 0 → Kept G R.1 d) (h : TurnR W R e w') : SuR W n G d e w' := by
  obtain ⟨A2, n2, c2, rfl, ho, _, hB⟩ := h
  have h2 := own_len ptShape ho
  exact ⟨R.1, A2, n2, c2, R.2, rfl, Lib.hid fun e => ⟨hk e, by have := (hk e).len; omega⟩, ho, hB⟩
theorem stick_any (hok : G.ok = true) (hG : G.wf) (hr : RdP W B A n c G.parts) (hB : B ≤ W.heap.size) (hn : n ≤ 20) :
    Calls Try.prog 31 #[.agg #[.int .u32 (G.x.fmt : Int), .string (str G.x.glob), .string (str G.x.bran), .int .u8 (G.st : Int), .bool G.com, .slice A n c, .int .u32 (G.wait : Int), .int .u32 (G.tries : Int)]] W (SuT W n G) := by
  obtain ⟨h0, hk⟩ := tick_kept hok
  refine (tick_any G A n c B W hG hr hB (by omega)).mono fun e w' h => ?_
  obtain ⟨A2, n2, c2, rfl, ho, _, hB⟩ := h
  have h2 := own_len ptShape ho
  have h3 := rec_length ptShape hr
  obtain rfl : n2 = n := by have := hk.len; omega
  rw [h0]
  exact ⟨G.tick.1, A2, c2, G.tick.2.1, rfl, Lib.hid hk, ho, hB⟩
theorem sdecide_any (hok : G.ok = true) (hG : G.wf) (hr : RdP W B A n c G.parts) (hB : B ≤ W.heap.size) (hn : n ≤ 20) :
    Calls Try.prog 33 #[.agg #[.int .u32 (G.x.fmt : Int), .string (str G.x.glob), .string (str G.x.bran), .int .u8 (G.st : Int), .bool G.com, .slice A n c, .int .u32 (G.wait : Int), .int .u32 (G.tries : Int)]] W (SuR W n G true) :=
  (decide_any G A n c B W hG hr hB (by omega)).mono fun _ _ h => SuR.of (rec_length ptShape hr) (decide_kept hok) h
theorem sabort_any (hok : G.ok = true) (hG : G.wf) (hr : RdP W B A n c G.parts) (hB : B ≤ W.heap.size) (hn : n ≤ 20) :
    Calls Try.prog 35 #[.agg #[.int .u32 (G.x.fmt : Int), .string (str G.x.glob), .string (str G.x.bran), .int .u8 (G.st : Int), .bool G.com, .slice A n c, .int .u32 (G.wait : Int), .int .u32 (G.tries : Int)]] W (SuR W n G false) :=
  (abort_any G A n c B W hG hr hB (by omega)).mono fun _ _ h => SuR.of (rec_length ptShape hr) (abort_kept hok) h
theorem stake_any (hok : G.ok = true) (hG : G.wf) (hr : RdP W B A n c G.parts) (hB : B ≤ W.heap.size) (hn : n ≤ 20) (node : Nat) (l : Lt) (An : Option Addr) (nn cn : Nat) (hl : l.wf) (hrn : RdX W B An nn cn l.names) (hnn : nn ≤ 300) :
    Calls Try.prog 12 #[.agg #[.int .u32 (G.x.fmt : Int), .string (str G.x.glob), .string (str G.x.bran), .int .u8 (G.st : Int), .bool G.com, .slice A n c, .int .u32 (G.wait : Int), .int .u32 (G.tries : Int)], .int .u8 (node : Int), .agg #[.int .u8 (l.kind : Int), .int .u32 (l.x.fmt : Int), .string (str l.x.glob), .string (str l.x.bran), .int .u8 (l.xa : Int), .int .u16 (l.no : Int), .slice An nn cn]] W (SuR W n G false) :=
  (take_any G node l A n c An nn cn B W hG hl hr hrn hB (by omega) (by omega)).mono fun _ _ h => SuR.of (rec_length ptShape hr) (take_kept hok node l) h
theorem scheck_any {N : Gl} {X : Xd} (hx : N.x = X) (hok : N.ok = true) (hN : N.wf) (hr : RdP W B A n c N.parts) (hB : B ≤ W.heap.size) (hn : n ≤ 20) :
    Calls Try.prog 21 #[.agg #[.int .u32 (X.fmt : Int), .string (str X.glob), .string (str X.bran), .int .u8 (N.st : Int), .bool N.com, .slice A n c, .int .u32 (N.wait : Int), .int .u32 (N.tries : Int)]] W fun e w' => e = .returned (.int .i64 0) ∧ Below W.heap.size W w' := by
  subst hx
  refine (gcheck_any N A n c B W hN hr hB (by omega)).mono fun e w' h => ?_
  have he : N.err = 0 := by unfold Gl.err; rw [hok]; rfl
  rw [he] at h
  exact h
theorem ssame_any {N : Gl} {X : Xd} {A' : Option Addr} {c' : Nat} (hx : N.x = X) (hNG : N = G) (hr : RdP W B A n c N.parts) (hr' : RdP W B A' n c' G.parts) (hB : B ≤ W.heap.size) (hn : n ≤ 20) :
    Calls Try.prog 29 #[.agg #[.int .u32 (X.fmt : Int), .string (str X.glob), .string (str X.bran), .int .u8 (N.st : Int), .bool N.com, .slice A n c, .int .u32 (N.wait : Int), .int .u32 (N.tries : Int)], .agg #[.int .u32 (G.x.fmt : Int), .string (str G.x.glob), .string (str G.x.bran), .int .u8 (G.st : Int), .bool G.com, .slice A' n c', .int .u32 (G.wait : Int), .int .u32 (G.tries : Int)]] W fun e w' => e = .returned (.bool true) ∧ Below W.heap.size W w' := by
  subst hx
  refine (gsame_any N G A n c A' n c' B W hr hr' hB (by omega) (by omega)).mono fun e w' h => ?_
  rw [decide_eq_true hNG] at h
  exact h
theorem sask (x : Xd) (l : List Nat) (cm : Bool) (h : (newGl x l).ok = true) : ((newGl x l).ask cm).2 = 0 ∧ ((newGl x l).ask cm).1.ok = true ∧ ((newGl x l).ask cm).1.x = x ∧ ((newGl x l).ask cm).1.parts = newParts x l ∧ (cm = false → ((newGl x l).ask cm).1.st ≠ 2) ∧ ((newGl x l).ask cm).1.st ≠ 1 := by
  have hd : dcOk x (allTo 0 (newParts x l)) = true := (okF h).dc
  have h0 : 0 < (newParts x l).length := by
    simp only [dcOk, allTo, List.length_map, Bool.and_eq_true, decide_eq_true_eq] at hd
    omega
  have hp : ∀ p ∈ newParts x l, p.st = 0 := newParts_st
  have o1 : onlySt [0, 1, 2, 3, 4] (newParts x l) = true := only_of hp rfl
  have o2 : onlySt [0, 1, 2] (newParts x l) = true := only_of hp rfl
  have o3 : hasSt [0, 1] (newParts x l) = true := has_of hp h0 rfl
  unfold Gl.ask
  rw [if_neg (by rw [h]; simp), if_neg (by simp [newGl])]
  cases cm
  · simp only [Bool.false_eq_true, if_false]
    have e : Gl.to (newGl x l) 4 = ⟨x, 4, false, newParts x l, 0, 0⟩ := by
      unfold Gl.to Gl.ends
      simp [newGl, o3]
    rw [e]
    refine ⟨by simp, ?_, by simp, by simp, by simp, by simp⟩
    simp only [Gl.ok, stateOk, Bool.and_eq_true, decide_eq_true_eq]
    simp [hd, o1, o3]
  · simp only [if_true]
    have e : Gl.to (newGl x l) 2 = ⟨x, 2, false, newParts x l, 0, 0⟩ := by
      unfold Gl.to Gl.ends
      simp [newGl]
    rw [e]
    refine ⟨by simp, ?_, by simp, by simp, by simp, by simp⟩
    simp only [Gl.ok, stateOk, Bool.and_eq_true, decide_eq_true_eq]
    simp [hd, o1, o2]
end
set_option maxRecDepth 20000 in
set_option maxHeartbeats 8000000 in
theorem law_GtxSure (A : Option Addr) (n c : Nat) (nl : List UInt8) (cm : Bool) (A2 : Option Addr) (n2 c2 : Nat) (L : List AcR) (w : World) (hr : RdB w w.heap.size A n c nl) (hr2 : Rd w w.heap.size 9 A2 n2 c2 (rowC acC L)) (hC : ∀ a ∈ L, a.wf w) (hn : n ≤ 140737488351232) (hn2 : n2 ≤ 140737488351232) :
    Calls Try.prog 8 #[.slice A n c, .bool cm, .slice A2 n2 c2] w fun e w' => e = .returned (.bool true) ∧ Below w.heap.size w w' := by
  have hB0 := Below.refl w.heap.size w
  go_enter Try.func8, Try.ntmps8
  by_cases h1 : n ≤ 20
  · have b1 : decide (20 < n) = false := by simp; omega
    have hlm : ∀ m ∈ nl.map UInt8.toNat, m < 256 := by
      intro m hm
      obtain ⟨u, _, rfl⟩ := List.mem_map.1 hm
      exact u.toNat_lt
    have HLM := Lib.hid hlm
    clear hlm
    by_cases hnew : (Gl.new hx (nl.map UInt8.toNat)).2 = 0
    · have HN := Lib.hid hnew
      have hn2' := fun W (hW : Below w.heap.size w W) => qyes_any A c w.heap.size W (hr.below hW) hW.size h1 HN.out
      obtain ⟨-, hok1, -, -⟩ := new_ask hx _ hnew
      have HSK := Lib.hid (sask hx _ cm hok1)
      have HA : ∀ (A c) (W : World) (_ : RdP W W.heap.size A n c (newParts hx (nl.map UInt8.toNat))), Calls Try.prog 30 #[.agg #[.int .u32 0, .string (str [103]), .string (str []), .int .u8 1, .bool false, .slice A n c, .int .u32 0, .int .u32 0], .bool cm] W (SuA W n (((newGl hx (nl.map UInt8.toNat)).ask cm).1)) := fun A c W hr' =>
        (ask_any (newGl hx (nl.map UInt8.toNat)) cm A n c W.heap.size W (newGl_wf hx_wf _ HLM.out) hr' (Nat.le_refl _) (by omega)).mono fun e w' h' => SuA.of HSK.out.1 (by rw [HSK.out.2.2.2.1]; exact rec_length ptShape hr') h'
      have HW0 : Hid ((((newGl hx (nl.map UInt8.toNat)).ask cm).1).wf) := Lib.hid (ok_wf HSK.out.2.1 (by rw [HSK.out.2.2.1]; exact hx_wf) (by rw [HSK.out.2.2.2.1]; exact (newGl_wf hx_wf _ HLM.out).2.2.1))
      have HI : Hid ((((newGl hx (nl.map UInt8.toNat)).ask cm).1).ok = true ∧ ((((newGl hx (nl.map UInt8.toNat)).ask cm).1).st = 2 → cm = true)) := Lib.hid ⟨HSK.out.2.1, fun e => by
        cases hcm : cm with
        | true => rfl
        | false => exact absurd e (HSK.out.2.2.2.2.1 hcm)⟩
      clear hnew HN hok1 HLM hr HSK
      generalize ((newGl hx (nl.map UInt8.toNat)).ask cm).1 = G0 at *
      go_wp2_with (first | (with_reducible refine hold_append ?_) | (with_reducible refine hold_make ?_) | (with_reducible refine hold_copy ?_))
      refine (hn2' w hB0).mono ?_
      rintro e w1 ⟨A1, c1, rfl, ho1, hB1⟩
      have hbg := Box.new w1 #[.int .u32 0, .string (str [103]), .string (str []), .int .u8 1, .bool false, .slice A1 n c1, .int .u32 0, .int .u32 0] 28
      have hC1 := hB1.alloc hB1.size (.cells #[.int .u32 0, .string (str [103]), .string (str []), .int .u8 1, .bool false, .slice A1 n c1, .int .u32 0, .int .u32 0] 28)
      have ho2 := own_below ho1 ((Below.refl w1.heap.size w1).alloc (Nat.le_refl _) (.cells #[.int .u32 0, .string (str [103]), .string (str []), .int .u8 1, .bool false, .slice A1 n c1, .int .u32 0, .int .u32 0] 28))
      have hgb := hB1.size
      go_upto_region 6 with fail
      obtain ⟨gb, hgq⟩ : ∃ g, g = w1.heap.size := ⟨_, rfl⟩
      rw [← hgq] at hbg hgb ⊢
      clear hgq ho1 hB1 hn2' hB0
      generalize (w1.alloc (.cells #[.int .u32 0, .string (str [103]), .string (str []), .int .u8 1, .bool false, .slice A1 n c1, .int .u32 0, .int .u32 0] 28)) = w2 at *
      have hltg := hbg.lt
      have x0 := hbg.cell (j := 0) rfl
      have x1 := hbg.cell (j := 1) rfl
      have x2 := hbg.cell (j := 2) rfl
      have x3 := hbg.cell (j := 3) rfl
      have x4 := hbg.cell (j := 4) rfl
      have x5 := hbg.cell (j := 5) rfl
      have x6 := hbg.cell (j := 6) rfl
      have x7 := hbg.cell (j := 7) rfl
      go_wp2_with (first | (with_reducible refine hold_append ?_) | (with_reducible refine hold_make ?_) | (with_reducible refine hold_copy ?_) | (with_reducible refine hold_store ?_))
      refine (HA A1 c1 w2 ho2.rd).mono ?_
      rintro e w3 ⟨A2', c2', rfl, ho3, hB3⟩
      have hbg3 := hbg.below hB3
      have hB13 := hC1.trans (hB3.mono hC1.size)
      clear x0 x1 x2 x3 x4 x5 x6 x7 hbg ho2 hC1 HA hB3
      go_wp2_with (first | (with_reducible refine hold_append ?_) | (with_reducible refine hold_make ?_) | (with_reducible refine hold_copy ?_) | (with_reducible refine hold_store ?_))
      refine unhold (wp_box (v := .agg #[.int .u32 (G0.x.fmt : Int), .string (str G0.x.glob), .string (str G0.x.bran), .int .u8 (G0.st : Int), .bool G0.com, .slice A2' n c2', .int .u32 (G0.wait : Int), .int .u32 (G0.tries : Int)]) (vs := [.int .u32 (G0.x.fmt : Int), .string (str G0.x.glob), .string (str G0.x.bran), .int .u8 (G0.st : Int), .bool G0.com, .slice A2' n c2', .int .u32 (G0.wait : Int), .int .u32 (G0.tries : Int)]) rfl rfl rfl rfl hbg3 rfl (by kernel_rfl) (by simp) gl_one #[.int .u32 (G0.x.fmt : Int), .string (str G0.x.glob), .string (str G0.x.bran), .int .u8 (G0.st : Int), .bool G0.com, .slice A2' n c2', .int .u32 (G0.wait : Int), .int .u32 (G0.tries : Int)] (by simp) ?_)
      intro w4 hb4 hg4 _
      have ho4 := own_box ho3 hg4 hltg
      have hB4 := below_box hB13 hg4 hgb
      have hr4 := ho4.rd
      clear hbg3 hg4 ho3 ho4 hB13 hltg
      go_wp2_with (first | (with_reducible refine hold_append ?_) | (with_reducible refine hold_make ?_) | (with_reducible refine hold_copy ?_))
      go_loopw [9] (fun s wr => ∃ (k : Nat) (G : Gl) (Ag : Option Addr) (cg : Nat), k ≤ n2 ∧ k ≤ 60 ∧ s = .int .i64 k ∧ Hid (G.ok = true ∧ (G.st = 2 → cm = true)) ∧ Hid (G.wf) ∧ Box wr gb 28 #[.int .u32 (G.x.fmt : Int), .string (str G.x.glob), .string (str G.x.bran), .int .u8 (G.st : Int), .bool G.com, .slice Ag n cg, .int .u32 (G.wait : Int), .int .u32 (G.tries : Int)] ∧ RdP wr wr.heap.size Ag n cg G.parts ∧ Below w.heap.size w wr) (fun s _ => 60 - (RowKit.intOf s).toNat)
      case atStart => exact ⟨0, G0, A2', c2', by omega, by omega, rfl, HI, HW0, hb4, hr4, hB4⟩
      case round =>
        obtain ⟨k, G, Ag, cg, hk, hk60, rfl, HG, HW, hbg, hrg, hBr⟩ := hrel
        clear HI HW0 hb4 hr4 hB4
        by_cases hlt : k < n2 ∧ k < 60
        · obtain ⟨ab, aoff, rfl, hab, hkL, hac⟩ := rec_at acShape (hr2.below hBr) hlt.1
          have haw := hC L[k] (List.getElem_mem hkL)
          generalize L[k] = a at *
          obtain ⟨what, node, ⟨kind, ⟨xf, xg, xh⟩, xa, no, names⟩, A9, n9, c9⟩ := a
          have z0 : wr.cell? ⟨ab, aoff + k * 9, none⟩ = _ := hac 0 _ rfl
          have z1 := hac 1 _ rfl
          have z2 := hac 2 _ rfl
          have z3 := hac 3 _ rfl
          have z4 := hac 4 _ rfl
          have z5 := hac 5 _ rfl
          have z6 := hac 6 _ rfl
          have z7 := hac 7 _ rfl
          have z8 := hac 8 _ rfl
          have hkn : (k : Int) < (n2 : Int) := by omega
          have hk6 : (k : Int) < 60 := by omega
          have HAW := Lib.hid haw
          clear hac haw
          by_cases h300 : 300 < n9
          · have b3 : decide (300 < n9) = true := by simpa using h300
            have h3 : (300 : Int) < (n9 : Int) := by omega
            have hBa := hBr.alloc hBr.size (.cells #[.int .u8 (what : Int), .int .u8 (node : Int), .int .u8 (kind : Int), .int .u32 (xf : Int), .string (str xg), .string (str xh), .int .u8 (xa : Int), .int .u16 (no : Int), .slice A9 n9 c9] 75)
            go_wp2_with (first | (with_reducible refine hold_append ?_) | (with_reducible refine hold_make ?_) | (with_reducible refine hold_copy ?_))
            refine (ghead_any _).mono ?_
            rintro e w9 ⟨rfl, hB9⟩
            go_wp2_with (first | (with_reducible refine hold_append ?_) | (with_reducible refine hold_make ?_) | (with_reducible refine hold_copy ?_))
            go_ret
            exact ⟨rfl, hBa.trans (hB9.mono hBa.size)⟩
          · have b3 : decide (300 < n9) = false := by simpa using h300
            have h3 : ¬ (300 : Int) < (n9 : Int) := by omega
            have hba := Box.new wr #[.int .u8 (what : Int), .int .u8 (node : Int), .int .u8 (kind : Int), .int .u32 (xf : Int), .string (str xg), .string (str xh), .int .u8 (xa : Int), .int .u16 (no : Int), .slice A9 n9 c9] 75
            have hBa := hBr.alloc hBr.size (.cells #[.int .u8 (what : Int), .int .u8 (node : Int), .int .u8 (kind : Int), .int .u32 (xf : Int), .string (str xg), .string (str xh), .int .u8 (xa : Int), .int .u16 (no : Int), .slice A9 n9 c9] 75)
            have hbg1 := hbg.alloc (.cells #[.int .u8 (what : Int), .int .u8 (node : Int), .int .u8 (kind : Int), .int .u32 (xf : Int), .string (str xg), .string (str xh), .int .u8 (xa : Int), .int .u16 (no : Int), .slice A9 n9 c9] 75)
            have hrg1 : RdP (wr.alloc (.cells #[.int .u8 (what : Int), .int .u8 (node : Int), .int .u8 (kind : Int), .int .u32 (xf : Int), .string (str xg), .string (str xh), .int .u8 (xa : Int), .int .u16 (no : Int), .slice A9 n9 c9] 75)) wr.heap.size Ag n cg G.parts := hrg.below ((Below.refl wr.heap.size wr).alloc (Nat.le_refl _) _)
            have hga := hbg.lt
            have hbs := hBr.size
            go_upto_region 13 with fail
            obtain ⟨xb, hxb⟩ : ∃ g, g = wr.heap.size := ⟨_, rfl⟩
            rw [← hxb] at hba hrg1 hga hbs ⊢
            clear hxb z0 z1 z2 z3 z4 z5 z6 z7 z8 hab hbg hrg hBr
            generalize (wr.alloc (.cells #[.int .u8 (what : Int), .int .u8 (node : Int), .int .u8 (kind : Int), .int .u32 (xf : Int), .string (str xg), .string (str xh), .int .u8 (xa : Int), .int .u16 (no : Int), .slice A9 n9 c9] 75)) = w3 at *
            have hxl := hba.lt
            have y8 := hba.cell (j := 8) rfl
            have y0 := hba.cell (j := 0) rfl
            have x0 := hbg1.cell (j := 0) rfl
            have x1 := hbg1.cell (j := 1) rfl
            have x2 := hbg1.cell (j := 2) rfl
            have x3 := hbg1.cell (j := 3) rfl
            have x4 := hbg1.cell (j := 4) rfl
            have x5 := hbg1.cell (j := 5) rfl
            have x6 := hbg1.cell (j := 6) rfl
            have x7 := hbg1.cell (j := 7) rfl
            have hbn := Box.new w3 #[.int .u32 (G.x.fmt : Int), .string (str G.x.glob), .string (str G.x.bran), .int .u8 (G.st : Int), .bool G.com, .slice Ag n cg, .int .u32 (G.wait : Int), .int .u32 (G.tries : Int)] 28
            have hBr := hBa.alloc hBa.size (.cells #[.int .u32 (G.x.fmt : Int), .string (str G.x.glob), .string (str G.x.bran), .int .u8 (G.st : Int), .bool G.com, .slice Ag n cg, .int .u32 (G.wait : Int), .int .u32 (G.tries : Int)] 28)
            have hbg := hbg1.alloc (.cells #[.int .u32 (G.x.fmt : Int), .string (str G.x.glob), .string (str G.x.bran), .int .u8 (G.st : Int), .bool G.com, .slice Ag n cg, .int .u32 (G.wait : Int), .int .u32 (G.tries : Int)] 28)
            have hba2 := hba.alloc (.cells #[.int .u32 (G.x.fmt : Int), .string (str G.x.glob), .string (str G.x.bran), .int .u8 (G.st : Int), .bool G.com, .slice Ag n cg, .int .u32 (G.wait : Int), .int .u32 (G.tries : Int)] 28)
            have hrg : RdP (w3.alloc (.cells #[.int .u32 (G.x.fmt : Int), .string (str G.x.glob), .string (str G.x.bran), .int .u8 (G.st : Int), .bool G.com, .slice Ag n cg, .int .u32 (G.wait : Int), .int .u32 (G.tries : Int)] 28)) xb Ag n cg G.parts := hrg1.below ((Below.refl xb w3).alloc (by omega) _)
            go_upto_block 2 with fail
            obtain ⟨nb, hnb⟩ : ∃ g, g = w3.heap.size := ⟨_, rfl⟩
            rw [← hnb] at hbn hxl ⊢
            clear hnb x0 x1 x2 x3 x4 x5 x6 x7 y8 y0 hbg1 hrg1 hBa hba
            generalize (w3.alloc (.cells #[.int .u32 (G.x.fmt : Int), .string (str G.x.glob), .string (str G.x.bran), .int .u8 (G.st : Int), .bool G.com, .slice Ag n cg, .int .u32 (G.wait : Int), .int .u32 (G.tries : Int)] 28)) = w5 at *
            have hba := hba2
            have hltn := hbn.lt
            clear hba2
            obtain ⟨D, hD⟩ : ∃ D, D = decide (what % 6 = 4) := ⟨_, rfl⟩
            have HD := Lib.hid hD
            clear hD
            go_cut [12] from 39 to 206 (fun s wx => ∃ (N : Gl) (An : Option Addr) (m cn E : Nat), s = .int .i64 (E : Int) ∧ Hid (E = 0 → Kept G N D ∧ m = n) ∧ Box wx nb 28 #[.int .u32 (N.x.fmt : Int), .string (str N.x.glob), .string (str N.x.bran), .int .u8 (N.st : Int), .bool N.com, .slice An m cn, .int .u32 (N.wait : Int), .int .u32 (N.tries : Int)] ∧ Box wx gb 28 #[.int .u32 (G.x.fmt : Int), .string (str G.x.glob), .string (str G.x.bran), .int .u8 (G.st : Int), .bool G.com, .slice Ag n cg, .int .u32 (G.wait : Int), .int .u32 (G.tries : Int)] ∧ Box wx xb 75 #[.int .u8 (what : Int), .int .u8 (node : Int), .int .u8 (kind : Int), .int .u32 (xf : Int), .string (str xg), .string (str xh), .int .u8 (xa : Int), .int .u16 (no : Int), .slice A9 n9 c9] ∧ OwnP wx (gb + 1) An m cn N.parts ∧ RdP wx xb Ag n cg G.parts ∧ Below w.heap.size w wx)
            case first =>
              as_aux_lemma =>
              have hwh := HAW.out.1
              have y0 := hba.cell (j := 0) rfl
              have x0 := hbg.cell (j := 0) rfl
              have x1 := hbg.cell (j := 1) rfl
              have x2 := hbg.cell (j := 2) rfl
              have x3 := hbg.cell (j := 3) rfl
              have x4 := hbg.cell (j := 4) rfl
              have x5 := hbg.cell (j := 5) rfl
              have x6 := hbg.cell (j := 6) rfl
              have x7 := hbg.cell (j := 7) rfl
              by_cases h3 : what % 6 = 3
              · have hd : decide (what % 6 = 4) = false := by simp; omega
                have e3 : ((what : Int) % 6 == 3) = true := by simp; omega
                have hst := stick_any (A := Ag) (c := cg) (B := xb) (W := w5) HG.out.1 HW.out hrg (by omega) h1
                go_wp2_with (first | (with_reducible refine hold_append ?_) | (with_reducible refine hold_make ?_) | (with_reducible refine hold_copy ?_))
                refine hst.mono ?_
                rintro e w6 ⟨N, A6, c6, is, rfl, HK, ho6, hB6⟩
                have HKK : Hid (Kept G N D) := Lib.hid (by rw [HD.out, hd]; exact HK.out)
                have y1 := 0; have y2 := 0; have y3 := 0; have y4 := 0; have y5 := 0; have y6 := 0; have y7 := 0; have y8 := 0
                have hbn5 := hbn.below hB6
                have hbg5 := hbg.below hB6
                have hba5 := hba.below hB6
                have hBr5 := hBr.trans (hB6.mono hBr.size)
                have hle6 := hB6.size
                have hrg5 := hrg.below' hB6 (by omega)
                clear hbn hbg hba hBr hrg hB6 x0 x1 x2 x3 x4 x5 x6 x7 y1 y2 y3 y4 y5 y6 y7 y8
                go_wp2_with (first | (with_reducible refine hold_append ?_) | (with_reducible refine hold_make ?_) | (with_reducible refine hold_copy ?_) | (with_reducible refine hold_store ?_))
                refine unhold (wp_box (v := .agg #[.int .u32 (N.x.fmt : Int), .string (str N.x.glob), .string (str N.x.bran), .int .u8 (N.st : Int), .bool N.com, .slice A6 n c6, .int .u32 (N.wait : Int), .int .u32 (N.tries : Int)]) (vs := [.int .u32 (N.x.fmt : Int), .string (str N.x.glob), .string (str N.x.bran), .int .u8 (N.st : Int), .bool N.com, .slice A6 n c6, .int .u32 (N.wait : Int), .int .u32 (N.tries : Int)]) rfl rfl rfl rfl hbn5 rfl (by kernel_rfl) (by simp) gl_one #[.int .u32 (N.x.fmt : Int), .string (str N.x.glob), .string (str N.x.bran), .int .u8 (N.st : Int), .bool N.com, .slice A6 n c6, .int .u32 (N.wait : Int), .int .u32 (N.tries : Int)] (by simp) ?_)
                intro w7 hb7 hg7 _
                have ho7 := own_box ho6 hg7 hltn
                have hbg7 := hbg5.grown hg7 (by intro e; injection e with e; omega)
                have hba7 := hba5.grown hg7 (by intro e; injection e with e; omega)
                have hB7 := below_box hBr5 hg7 (by omega)
                have hrg7 := Rd.grown hrg5 hg7 (by omega) (fun g hg => by injection hg with hg; omega)
                clear hbn5 hbg5 hba5 hBr5 hrg5 hg7 ho6
                go_wp2_with (first | (with_reducible refine hold_append ?_) | (with_reducible refine hold_make ?_) | (with_reducible refine hold_copy ?_))
                go_meet
                case rel => exact ⟨N, A6, n, c6, 0, rfl, (kept0 HKK.out), hb7, hbg7, hba7, Own.base_le ho7 (by omega), hrg7, hB7⟩
              · have e3 : ((what : Int) % 6 == 3) = false := by simp; omega
                by_cases h4 : what % 6 = 4
                · have hd : decide (what % 6 = 4) = true := by simp; omega
                  have e4 : ((what : Int) % 6 == 4) = true := by simp; omega
                  have hst := sdecide_any (A := Ag) (c := cg) (B := xb) (W := w5) HG.out.1 HW.out hrg (by omega) h1
                  go_wp2_with (first | (with_reducible refine hold_append ?_) | (with_reducible refine hold_make ?_) | (with_reducible refine hold_copy ?_))
                  refine hst.mono ?_
                  rintro e w6 ⟨N, A6, n6, c6, E, rfl, HK, ho6, hB6⟩
                  have y1 := 0; have y2 := 0; have y3 := 0; have y4 := 0; have y5 := 0; have y6 := 0; have y7 := 0; have y8 := 0
                  have HKK : Hid (E = 0 → Kept G N D ∧ n6 = n) := Lib.hid fun e => by rw [HD.out, hd]; exact HK.out e
                  have hbn5 := hbn.below hB6
                  have hbg5 := hbg.below hB6
                  have hba5 := hba.below hB6
                  have hBr5 := hBr.trans (hB6.mono hBr.size)
                  have hle6 := hB6.size
                  have hrg5 := hrg.below' hB6 (by omega)
                  clear hbn hbg hba hBr hrg hB6 x0 x1 x2 x3 x4 x5 x6 x7 y1 y2 y3 y4 y5 y6 y7 y8
                  go_wp2_with (first | (with_reducible refine hold_append ?_) | (with_reducible refine hold_make ?_) | (with_reducible refine hold_copy ?_) | (with_reducible refine hold_store ?_))
                  refine unhold (wp_box (v := .agg #[.int .u32 (N.x.fmt : Int), .string (str N.x.glob), .string (str N.x.bran), .int .u8 (N.st : Int), .bool N.com, .slice A6 n6 c6, .int .u32 (N.wait : Int), .int .u32 (N.tries : Int)]) (vs := [.int .u32 (N.x.fmt : Int), .string (str N.x.glob), .string (str N.x.bran), .int .u8 (N.st : Int), .bool N.com, .slice A6 n6 c6, .int .u32 (N.wait : Int), .int .u32 (N.tries : Int)]) rfl rfl rfl rfl hbn5 rfl (by kernel_rfl) (by simp) gl_one #[.int .u32 (N.x.fmt : Int), .string (str N.x.glob), .string (str N.x.bran), .int .u8 (N.st : Int), .bool N.com, .slice A6 n6 c6, .int .u32 (N.wait : Int), .int .u32 (N.tries : Int)] (by simp) ?_)
                  intro w7 hb7 hg7 _
                  have ho7 := own_box ho6 hg7 hltn
                  have hbg7 := hbg5.grown hg7 (by intro e; injection e with e; omega)
                  have hba7 := hba5.grown hg7 (by intro e; injection e with e; omega)
                  have hB7 := below_box hBr5 hg7 (by omega)
                  have hrg7 := Rd.grown hrg5 hg7 (by omega) (fun g hg => by injection hg with hg; omega)
                  clear hbn5 hbg5 hba5 hBr5 hrg5 hg7 ho6
                  go_wp2_with (first | (with_reducible refine hold_append ?_) | (with_reducible refine hold_make ?_) | (with_reducible refine hold_copy ?_))
                  go_meet
                  case rel => exact ⟨N, A6, n6, c6, E, rfl, HKK, hb7, hbg7, hba7, Own.base_le ho7 (by omega), hrg7, hB7⟩
                · have hd : decide (what % 6 = 4) = false := by simp; omega
                  have e4 : ((what : Int) % 6 == 4) = false := by simp; omega
                  by_cases h5 : what % 6 = 5
                  · have e5 : ((what : Int) % 6 == 5) = true := by simp; omega
                    have hst := sabort_any (A := Ag) (c := cg) (B := xb) (W := w5) HG.out.1 HW.out hrg (by omega) h1
                    go_wp2_with (first | (with_reducible refine hold_append ?_) | (with_reducible refine hold_make ?_) | (with_reducible refine hold_copy ?_))
                    refine hst.mono ?_
                    rintro e w6 ⟨N, A6, n6, c6, E, rfl, HK, ho6, hB6⟩
                    have y1 := 0; have y2 := 0; have y3 := 0; have y4 := 0; have y5 := 0; have y6 := 0; have y7 := 0; have y8 := 0
                    have HKK : Hid (E = 0 → Kept G N D ∧ n6 = n) := Lib.hid fun e => by rw [HD.out, hd]; exact HK.out e
                    have hbn5 := hbn.below hB6
                    have hbg5 := hbg.below hB6
                    have hba5 := hba.below hB6
                    have hBr5 := hBr.trans (hB6.mono hBr.size)
                    have hle6 := hB6.size
                    have hrg5 := hrg.below' hB6 (by omega)
                    clear hbn hbg hba hBr hrg hB6 x0 x1 x2 x3 x4 x5 x6 x7 y1 y2 y3 y4 y5 y6 y7 y8
                    go_wp2_with (first | (with_reducible refine hold_append ?_) | (with_reducible refine hold_make ?_) | (with_reducible refine hold_copy ?_) | (with_reducible refine hold_store ?_))
                    refine unhold (wp_box (v := .agg #[.int .u32 (N.x.fmt : Int), .string (str N.x.glob), .string (str N.x.bran), .int .u8 (N.st : Int), .bool N.com, .slice A6 n6 c6, .int .u32 (N.wait : Int), .int .u32 (N.tries : Int)]) (vs := [.int .u32 (N.x.fmt : Int), .string (str N.x.glob), .string (str N.x.bran), .int .u8 (N.st : Int), .bool N.com, .slice A6 n6 c6, .int .u32 (N.wait : Int), .int .u32 (N.tries : Int)]) rfl rfl rfl rfl hbn5 rfl (by kernel_rfl) (by simp) gl_one #[.int .u32 (N.x.fmt : Int), .string (str N.x.glob), .string (str N.x.bran), .int .u8 (N.st : Int), .bool N.com, .slice A6 n6 c6, .int .u32 (N.wait : Int), .int .u32 (N.tries : Int)] (by simp) ?_)
                    intro w7 hb7 hg7 _
                    have ho7 := own_box ho6 hg7 hltn
                    have hbg7 := hbg5.grown hg7 (by intro e; injection e with e; omega)
                    have hba7 := hba5.grown hg7 (by intro e; injection e with e; omega)
                    have hB7 := below_box hBr5 hg7 (by omega)
                    have hrg7 := Rd.grown hrg5 hg7 (by omega) (fun g hg => by injection hg with hg; omega)
                    clear hbn5 hbg5 hba5 hBr5 hrg5 hg7 ho6
                    go_wp2_with (first | (with_reducible refine hold_append ?_) | (with_reducible refine hold_make ?_) | (with_reducible refine hold_copy ?_))
                    go_meet
                    case rel => exact ⟨N, A6, n6, c6, E, rfl, HKK, hb7, hbg7, hba7, Own.base_le ho7 (by omega), hrg7, hB7⟩
                  · have e5 : ((what : Int) % 6 == 5) = false := by simp; omega
                    have y1 := hba.cell (j := 1) rfl
                    have y2 := hba.cell (j := 2) rfl
                    have y3 := hba.cell (j := 3) rfl
                    have y4 := hba.cell (j := 4) rfl
                    have y5 := hba.cell (j := 5) rfl
                    have y6 := hba.cell (j := 6) rfl
                    have y7 := hba.cell (j := 7) rfl
                    have y8 := hba.cell (j := 8) rfl
                    have hst := stake_any (A := Ag) (c := cg) (B := xb) (W := w5) HG.out.1 HW.out hrg (by omega) h1 node ⟨kind, ⟨xf, xg, xh⟩, xa, no, names⟩ A9 n9 c9 HAW.out.2.2.1 (Rd.more (HAW.out.2.2.2.1.below hBr) (by omega)) (by omega)
                    simp only at hst
                    go_wp2_with (first | (with_reducible refine hold_append ?_) | (with_reducible refine hold_make ?_) | (with_reducible refine hold_copy ?_))
                    refine hst.mono ?_
                    rintro e w6 ⟨N, A6, n6, c6, E, rfl, HK, ho6, hB6⟩
                    have HKK : Hid (E = 0 → Kept G N D ∧ n6 = n) := Lib.hid fun e => by rw [HD.out, hd]; exact HK.out e
                    have hbn5 := hbn.below hB6
                    have hbg5 := hbg.below hB6
                    have hba5 := hba.below hB6
                    have hBr5 := hBr.trans (hB6.mono hBr.size)
                    have hle6 := hB6.size
                    have hrg5 := hrg.below' hB6 (by omega)
                    clear hbn hbg hba hBr hrg hB6 x0 x1 x2 x3 x4 x5 x6 x7 y1 y2 y3 y4 y5 y6 y7 y8
                    go_wp2_with (first | (with_reducible refine hold_append ?_) | (with_reducible refine hold_make ?_) | (with_reducible refine hold_copy ?_) | (with_reducible refine hold_store ?_))
                    refine unhold (wp_box (v := .agg #[.int .u32 (N.x.fmt : Int), .string (str N.x.glob), .string (str N.x.bran), .int .u8 (N.st : Int), .bool N.com, .slice A6 n6 c6, .int .u32 (N.wait : Int), .int .u32 (N.tries : Int)]) (vs := [.int .u32 (N.x.fmt : Int), .string (str N.x.glob), .string (str N.x.bran), .int .u8 (N.st : Int), .bool N.com, .slice A6 n6 c6, .int .u32 (N.wait : Int), .int .u32 (N.tries : Int)]) rfl rfl rfl rfl hbn5 rfl (by kernel_rfl) (by simp) gl_one #[.int .u32 (N.x.fmt : Int), .string (str N.x.glob), .string (str N.x.bran), .int .u8 (N.st : Int), .bool N.com, .slice A6 n6 c6, .int .u32 (N.wait : Int), .int .u32 (N.tries : Int)] (by simp) ?_)
                    intro w7 hb7 hg7 _
                    have ho7 := own_box ho6 hg7 hltn
                    have hbg7 := hbg5.grown hg7 (by intro e; injection e with e; omega)
                    have hba7 := hba5.grown hg7 (by intro e; injection e with e; omega)
                    have hB7 := below_box hBr5 hg7 (by omega)
                    have hrg7 := Rd.grown hrg5 hg7 (by omega) (fun g hg => by injection hg with hg; omega)
                    clear hbn5 hbg5 hba5 hBr5 hrg5 hg7 ho6
                    go_wp2_with (first | (with_reducible refine hold_append ?_) | (with_reducible refine hold_make ?_) | (with_reducible refine hold_copy ?_))
                    go_meet
                    case rel => exact ⟨N, A6, n6, c6, E, rfl, HKK, hb7, hbg7, hba7, Own.base_le ho7 (by omega), hrg7, hB7⟩
            case rest =>
             as_aux_lemma =>
              obtain ⟨N, An, m, cn, E, rfl, HK, hbn, hbg, hba, hon, hrg, hBr⟩ := hcut
              clear hltn
              by_cases hE : E = 0
              · subst hE
                have hkp := (HK.out rfl).1
                have hmn := (HK.out rfl).2.symm
                subst hmn
                rw [hkp.x] at hbn
                have HKP := Lib.hid hkp
                have HWN : Hid N.wf := Lib.hid (hkp.wf HW.out)
                have hck := scheck_any hkp.x hkp.ok HWN.out hon.rd (Nat.le_refl _) h1
                clear hkp HK
                have x0 := hbn.cell (j := 0) rfl
                have x1 := hbn.cell (j := 1) rfl
                have x2 := hbn.cell (j := 2) rfl
                have x3 := hbn.cell (j := 3) rfl
                have x4 := hbn.cell (j := 4) rfl
                have x5 := hbn.cell (j := 5) rfl
                have x6 := hbn.cell (j := 6) rfl
                have x7 := hbn.cell (j := 7) rfl
                have y0 := hbg.cell (j := 0) rfl
                have y1 := hbg.cell (j := 1) rfl
                have y2 := hbg.cell (j := 2) rfl
                have y3 := hbg.cell (j := 3) rfl
                have y4 := hbg.cell (j := 4) rfl
                have y5 := hbg.cell (j := 5) rfl
                have y6 := hbg.cell (j := 6) rfl
                have y7 := hbg.cell (j := 7) rfl
                go_wp2_with (first | (with_reducible refine hold_append ?_) | (with_reducible refine hold_make ?_) | (with_reducible refine hold_copy ?_))
                refine hck.mono ?_
                rintro e w8 ⟨rfl, hB8⟩
                have hlb := hbn.lt
                have hla := hba.lt
                have hbn8 := hbn.below hB8
                have hbg8 := hbg.below hB8
                have hba8 := hba.below hB8
                have hon8 := own_below hon hB8
                have hrg8 := hrg.below' hB8 (by omega)
                have hBr8 := hBr.trans (hB8.mono hBr.size)
                have hle8 := hB8.size
                clear hck x0 x1 x2 x3 x4 x5 x6 x7 y0 y1 y2 y3 y4 y5 y6 y7 hbn hbg hba hon hrg hBr hB8
                have x0 := hbn8.cell (j := 0) rfl
                have x1 := hbn8.cell (j := 1) rfl
                have x2 := hbn8.cell (j := 2) rfl
                have x3 := hbn8.cell (j := 3) rfl
                have x4 := hbn8.cell (j := 4) rfl
                have x5 := hbn8.cell (j := 5) rfl
                have x6 := hbn8.cell (j := 6) rfl
                have x7 := hbn8.cell (j := 7) rfl
                have y0 := hbg8.cell (j := 0) rfl
                have y1 := hbg8.cell (j := 1) rfl
                have y2 := hbg8.cell (j := 2) rfl
                have y3 := hbg8.cell (j := 3) rfl
                have y4 := hbg8.cell (j := 4) rfl
                have y5 := hbg8.cell (j := 5) rfl
                have y6 := hbg8.cell (j := 6) rfl
                have y7 := hbg8.cell (j := 7) rfl
                have hneq := fun w => xid_neqC G.x G.x w
                simp only [decide_true, Bool.not_true] at hneq
                unfold xdV at hneq
                have hgd := fun x y => run_eqGuard_agg (P := Try.prog) w8 .neq 24 x y #[.int .u32 (G.x.fmt : Int), .string (str G.x.glob), .string (str G.x.bran)] #[.int .u32 (G.x.fmt : Int), .string (str G.x.glob), .string (str G.x.bran)] xid_guard
                go_upto_region 27 with fail
                clear hneq hgd
                go_cut [150] from 39 to 206 (fun s wx => s = .bool false ∧ w8 = wx)
                case first =>
                 as_aux_lemma =>
                  have hnc := (okF HG.out.1).ncom
                  have hkc := HKP.out.com
                  have hka := HKP.out.ab
                  by_cases hc : G.com = true
                  · obtain ⟨a1, a2⟩ := hkc hc
                    have e4 : ((G.st : Int) == 4) = false := by
                      simp
                      intro e
                      have := hnc (.inr (.inr (by omega)))
                      rw [hc] at this
                      cases this
                    rw [hc] at y4
                    rw [a1] at x4
                    clear hnc hkc hka
                    rcases a2 with a2 | a2
                    · rw [a2] at x3
                      clear a1 a2 hc
                      go_wp2_with (first | (with_reducible refine hold_append ?_) | (with_reducible refine hold_make ?_) | (with_reducible refine hold_copy ?_))
                      go_meet
                      case rel => exact ⟨rfl, rfl⟩
                    · rw [a2] at x3
                      clear a1 a2 hc
                      go_wp2_with (first | (with_reducible refine hold_append ?_) | (with_reducible refine hold_make ?_) | (with_reducible refine hold_copy ?_))
                      go_meet
                      case rel => exact ⟨rfl, rfl⟩
                  · have hc' : G.com = false := by simpa using hc
                    rw [hc'] at y4
                    by_cases h4 : G.st = 4
                    · obtain ⟨b1, b2⟩ := hka h4
                      rw [h4] at y3
                      rw [b1] at x4
                      clear hnc hkc hka hc hc' h4
                      rcases b2 with b2 | b2
                      · rw [b2] at x3
                        clear b1 b2
                        go_wp2_with (first | (with_reducible refine hold_append ?_) | (with_reducible refine hold_make ?_) | (with_reducible refine hold_copy ?_))
                        go_meet
                        case rel => exact ⟨rfl, rfl⟩
                      · rw [b2] at x3
                        clear b1 b2
                        go_wp2_with (first | (with_reducible refine hold_append ?_) | (with_reducible refine hold_make ?_) | (with_reducible refine hold_copy ?_))
                        go_meet
                        case rel => exact ⟨rfl, rfl⟩
                    · have e4 : ((G.st : Int) == 4) = false := by simp; omega
                      clear hnc hkc hka hc hc' h4
                      go_wp2_with (first | (with_reducible refine hold_append ?_) | (with_reducible refine hold_make ?_) | (with_reducible refine hold_copy ?_))
                      go_meet
                      case rel => exact ⟨rfl, rfl⟩
                case rest =>
                 as_aux_lemma =>
                  obtain ⟨rfl, rfl⟩ := hcut
                  go_upto_region 29 with fail
                  go_cut [178] from 39 to 206 (fun s wx => s = .bool false ∧ Below w8.heap.size w8 wx)
                  case first =>
                   as_aux_lemma =>
                    have hkn := HKP.out.new
                    have hkf := HKP.out.fin
                    have y0 := hba8.cell (j := 0) rfl
                    have hsm := fun (e : N = G) => ssame_any (W := w8) HKP.out.x e hon8.rd (Rd.more hrg8 (by omega)) (Nat.le_refl _) h1
                    by_cases h5 : G.st = 5
                    · have hsm := hsm (hkf h5)
                      have hNG := hkf h5
                      have e5 : ((G.st : Int) == 5) = true := by simp; omega
                      have hcc : N.com = G.com := by rw [hNG]
                      rw [hcc] at x4 hsm
                      clear hkn hkf h5 hNG hcc
                      cases hc : G.com
                      · rw [hc] at x4 y4 hsm
                        clear hc
                        go_wp2_with (first | (with_reducible refine hold_append ?_) | (with_reducible refine hold_make ?_) | (with_reducible refine hold_copy ?_))
                        refine hsm.mono ?_
                        rintro e w9 ⟨rfl, hB9⟩
                        go_wp2_with (first | (with_reducible refine hold_append ?_) | (with_reducible refine hold_make ?_) | (with_reducible refine hold_copy ?_))
                        go_meet
                        case rel => exact ⟨rfl, hB9⟩
                      · rw [hc] at x4 y4 hsm
                        clear hc
                        go_wp2_with (first | (with_reducible refine hold_append ?_) | (with_reducible refine hold_make ?_) | (with_reducible refine hold_copy ?_))
                        refine hsm.mono ?_
                        rintro e w9 ⟨rfl, hB9⟩
                        go_wp2_with (first | (with_reducible refine hold_append ?_) | (with_reducible refine hold_make ?_) | (with_reducible refine hold_copy ?_))
                        go_meet
                        case rel => exact ⟨rfl, hB9⟩
                    · have e5 : ((G.st : Int) == 5) = false := by simp; omega
                      clear hsm hkf
                      cases hn : N.com
                      · rw [hn] at x4
                        clear hn hkn
                        go_wp2_with (first | (with_reducible refine hold_append ?_) | (with_reducible refine hold_make ?_) | (with_reducible refine hold_copy ?_))
                        go_meet
                        case rel => exact ⟨rfl, Below.refl _ _⟩
                      · rw [hn] at x4
                        cases hc : G.com
                        · rw [hc] at y4
                          obtain ⟨d1, d2⟩ := hkn hn hc
                          have hcm : cm = true := HG.out.2 d2
                          subst hcm
                          have hw4 : ((what : Int) % 6 != 4) = false := by
                            have := HD.out
                            rw [d1] at this
                            simp at this ⊢
                            omega
                          clear hkn d1 d2 hn hc
                          have hwh := HAW.out.1
                          go_wp2_with (first | (with_reducible refine hold_append ?_) | (with_reducible refine hold_make ?_) | (with_reducible refine hold_copy ?_))
                          go_meet
                          case rel => exact ⟨rfl, Below.refl _ _⟩
                        · rw [hc] at y4
                          clear hkn hn hc
                          go_wp2_with (first | (with_reducible refine hold_append ?_) | (with_reducible refine hold_make ?_) | (with_reducible refine hold_copy ?_))
                          go_meet
                          case rel => exact ⟨rfl, Below.refl _ _⟩
                  case rest =>
                   as_aux_lemma =>
                    obtain ⟨rfl, hB9⟩ := hcut
                    have hbn9 := hbn8.below hB9
                    have hbg9 := hbg8.below hB9
                    have hon9 := own_below hon8 hB9
                    have hrg9 := hrg8.below' hB9 (by omega)
                    have hBr9 := hBr8.trans (hB9.mono hBr8.size)
                    have hle9 := hB9.size
                    clear hbn8 hbg8 hba8 hon8 hrg8 hBr8 hB9 x0 x1 x2 x3 x4 x5 x6 x7 y0 y1 y2 y3 y4 y5 y6 y7
                    go_wp2_with (first | (with_reducible refine hold_append ?_) | (with_reducible refine hold_make ?_) | (with_reducible refine hold_copy ?_))
                    go_loopw [13] (fun s wy => ∃ (j : Nat), j ≤ n ∧ s = .int .i64 j ∧ Below wc.heap.size wc wy) (fun s _ => n - (RowKit.intOf s).toNat)
                    case atStart => exact ⟨0, by omega, rfl, Below.refl _ _⟩
                    case round =>
                      as_aux_lemma =>
                      obtain ⟨j, hj, rfl, hBy⟩ := hrel
                      have hbn := hbn9.below hBy
                      have hbg := hbg9.below hBy
                      have hon := own_below hon9 hBy
                      have hrg := hrg9.below' hBy (by omega)
                      have hBr := hBr9.trans (hBy.mono hBr9.size)
                      have hly := hBy.size
                      have x5 := hbn.cell (j := 5) rfl
                      have y5 := hbg.cell (j := 5) rfl
                      clear hbn9 hbg9 hon9 hrg9 hBr9
                      by_cases hjn : j < n
                      · have hjn' : (j : Int) < (n : Int) := by omega
                        obtain ⟨gq, goff, hAg, _, hgl, hgc⟩ := rec_at ptShape hrg hjn
                        obtain ⟨nq, noff, hAn, _, hnl, hnc⟩ := rec_at ptShape hon.rd hjn
                        have HPP := Lib.hid (HKP.out.part j hgl hnl)
                        rw [hAg] at y5
                        rw [hAn] at x5
                        clear hAg hAn hbn hbg hon hrg HKP HG HW HWN
                        generalize G.parts[j] = p1 at *
                        generalize N.parts[j] = p2 at *
                        obtain ⟨pn, ⟨pf, pg, ph⟩, ps⟩ := p1
                        by_cases h2 : 2 ≤ ps
                        · have e2 := HPP.out h2
                          subst e2
                          clear HPP
                          have hneq := fun w => part_neq (⟨pn, ⟨pf, pg, ph⟩, ps⟩ : Pt) ⟨pn, ⟨pf, pg, ph⟩, ps⟩ w
                          simp only [decide_true, Bool.not_true, ptV] at hneq
                          have hgd := fun x y => run_eqGuard_agg (P := Try.prog) wr .neq 45 x y #[.int .u8 (pn : Int), .int .u32 (pf : Int), .string (str pg), .string (str ph), .int .u8 (ps : Int)] #[.int .u8 (pn : Int), .int .u32 (pf : Int), .string (str pg), .string (str ph), .int .u8 (ps : Int)] part_guard
                          have k0 : wr.cell? ⟨gq, goff + j * 5, none⟩ = _ := hgc 0 _ rfl
                          have k1 := hgc 1 _ rfl
                          have k2 := hgc 2 _ rfl
                          have k3 := hgc 3 _ rfl
                          have k4 := hgc 4 _ rfl
                          have j0 : wr.cell? ⟨nq, noff + j * 5, none⟩ = _ := hnc 0 _ rfl
                          have j1 := hnc 1 _ rfl
                          have j2 := hnc 2 _ rfl
                          have j3 := hnc 3 _ rfl
                          have j4 := hnc 4 _ rfl
                          have e2 : (2 : Int) ≤ (ps : Int) := by omega
                          clear hgc hnc
                          go_wp2_with (first | (with_reducible refine hold_append ?_) | (with_reducible refine hold_make ?_) | (with_reducible refine hold_copy ?_))
                          go_quiet (fail)
                          go_wp2_with (first | (with_reducible refine hold_append ?_) | (with_reducible refine hold_make ?_) | (with_reducible refine hold_copy ?_))
                          exact ⟨⟨j + 1, by omega, by go_num, below_drewN hBy _⟩, by simp [RowKit.intOf]; omega⟩
                        · have k4 := hgc 4 _ rfl
                          have e2 : decide ((2 : Int) ≤ (ps : Int)) = false := by simp; omega
                          clear hgc hnc HPP
                          go_wp2_with (first | (with_reducible refine hold_append ?_) | (with_reducible refine hold_make ?_) | (with_reducible refine hold_copy ?_))
                          go_quiet (fail)
                          go_wp2_with (first | (with_reducible refine hold_append ?_) | (with_reducible refine hold_make ?_) | (with_reducible refine hold_copy ?_))
                          exact ⟨⟨j + 1, by omega, by go_num, below_drewN hBy _⟩, by simp [RowKit.intOf]; omega⟩
                      · have hjj : j = n := by omega
                        subst hjj
                        clear x5
                        have x0 := hbn.cell (j := 0) rfl
                        have x1 := hbn.cell (j := 1) rfl
                        have x2 := hbn.cell (j := 2) rfl
                        have x3 := hbn.cell (j := 3) rfl
                        have x4 := hbn.cell (j := 4) rfl
                        have x5 := hbn.cell (j := 5) rfl
                        have x6 := hbn.cell (j := 6) rfl
                        have x7 := hbn.cell (j := 7) rfl
                        have hgo : gb < gb + 1 := by omega
                        go_wp2_with (first | (with_reducible refine hold_append ?_) | (with_reducible refine hold_make ?_) | (with_reducible refine hold_copy ?_) | (with_reducible refine hold_store ?_))
                        refine unhold (wp_box (v := .agg #[.int .u32 (G.x.fmt : Int), .string (str G.x.glob), .string (str G.x.bran), .int .u8 (N.st : Int), .bool N.com, .slice An j cn, .int .u32 (N.wait : Int), .int .u32 (N.tries : Int)]) (vs := [.int .u32 (G.x.fmt : Int), .string (str G.x.glob), .string (str G.x.bran), .int .u8 (N.st : Int), .bool N.com, .slice An j cn, .int .u32 (N.wait : Int), .int .u32 (N.tries : Int)]) rfl rfl rfl rfl hbg rfl (by kernel_rfl) (by simp) gl_one #[.int .u32 (G.x.fmt : Int), .string (str G.x.glob), .string (str G.x.bran), .int .u8 (N.st : Int), .bool N.com, .slice An j cn, .int .u32 (N.wait : Int), .int .u32 (N.tries : Int)] (by simp) ?_)
                        intro w8 hb8 hg8 _
                        have ho8 := own_box hon hg8 hgo
                        have hB8 := below_box hBr hg8 (by omega)
                        clear hbn hbg hon hrg hBr hg8 x0 x1 x2 x3 x4 x5 x6 x7 y5
                        go_wp2_with (first | (with_reducible refine hold_append ?_) | (with_reducible refine hold_make ?_) | (with_reducible refine hold_copy ?_))
                        exact ⟨⟨k + 1, N, An, cn, by omega, by omega, by go_num, Lib.hid ⟨HKP.out.ok, fun e => HG.out.2 (HKP.out.two e)⟩, HWN, by rw [HKP.out.x]; exact hb8, ho8.rd, hB8⟩, by simp [RowKit.intOf]; omega⟩
              · have hE' : ((E : Int) != 0) = true := by simp; omega
                go_wp2_with (first | (with_reducible refine hold_append ?_) | (with_reducible refine hold_make ?_) | (with_reducible refine hold_copy ?_))
                exact ⟨⟨k + 1, G, Ag, cg, by omega, by omega, by go_num, HG, HW, hbg, Rd.more hrg (by have := hBr.size; have := hba.lt; omega), hBr⟩, by simp [RowKit.intOf]; omega⟩
        · have hh : (¬ (k : Int) < (n2 : Int)) ∨ ((k : Int) < (n2 : Int) ∧ ¬ (k : Int) < 60) := by omega
          rcases hh with hh | ⟨hh, hh2⟩
          · go_wp2_with (first | (with_reducible refine hold_append ?_) | (with_reducible refine hold_make ?_) | (with_reducible refine hold_copy ?_))
            refine (ghead_any _).mono ?_
            rintro e w9 ⟨rfl, hB9⟩
            go_wp2_with (first | (with_reducible refine hold_append ?_) | (with_reducible refine hold_make ?_) | (with_reducible refine hold_copy ?_))
            go_ret
            exact ⟨rfl, hBr.trans (hB9.mono hBr.size)⟩
          · go_wp2_with (first | (with_reducible refine hold_append ?_) | (with_reducible refine hold_make ?_) | (with_reducible refine hold_copy ?_))
            refine (ghead_any _).mono ?_
            rintro e w9 ⟨rfl, hB9⟩
            go_wp2_with (first | (with_reducible refine hold_append ?_) | (with_reducible refine hold_make ?_) | (with_reducible refine hold_copy ?_))
            go_ret
            exact ⟨rfl, hBr.trans (hB9.mono hBr.size)⟩
    · have hn2 := fun W (hW : Below w.heap.size w W) => qno_any A c w.heap.size W (hr.below hW) hW.size h1 hnew
      clear hnew HLM hr
      go_wp2_with (first | (with_reducible refine hold_append ?_) | (with_reducible refine hold_make ?_) | (with_reducible refine hold_copy ?_))
      refine (hn2 w hB0).mono ?_
      rintro e w1 ⟨A2', n2', c2', rfl, hB1⟩
      clear hn2 hB0
      have hC1 := hB1.alloc hB1.size (.cells #[.int .u32 0, .string (str []), .string (str []), .int .u8 0, .bool false, .slice A2' n2' c2', .int .u32 0, .int .u32 0] 28)
      go_wp2_with (first | (with_reducible refine hold_append ?_) | (with_reducible refine hold_make ?_) | (with_reducible refine hold_copy ?_))
      refine (ghead_any _).mono ?_
      rintro e w9 ⟨rfl, hB9⟩
      go_wp2_with (first | (with_reducible refine hold_append ?_) | (with_reducible refine hold_make ?_) | (with_reducible refine hold_copy ?_))
      go_ret
      exact ⟨rfl, hC1.trans (hB9.mono hC1.size)⟩
  · have b1 : decide (20 < n) = true := by simp; omega
    go_wp2_with (first | (with_reducible refine hold_append ?_) | (with_reducible refine hold_make ?_) | (with_reducible refine hold_copy ?_))
    refine (ghead_any _).mono ?_
    rintro e w9 ⟨rfl, hB9⟩
    go_wp2_with (first | (with_reducible refine hold_append ?_) | (with_reducible refine hold_make ?_) | (with_reducible refine hold_copy ?_))
    go_ret
    exact ⟨rfl, hB0.trans (hB9.mono hB0.size)⟩
end Go.PH
end

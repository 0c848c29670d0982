/- Texts laid together: MdSmall, MdCopy, MdTake, MdOctets. -/
import Derived.Test.YtidpbbleneekgaaDoorMg01
import Derived.Test.YtidpbbleneekgaaDoorMg03
import Derived.Test.YtidpbbleneekgaaDoorMg08
import Derived.Test.YtidpbbleneekgaaDoorMg20
import Derived.Test.YtidpbbleneekgaaDoorMg22
import Derived.Test.YtidpbbleneekgaaDoorMg23
import Derived.Test.YtidpbbleneekgaaDoorMg25
section
/- Which methods can be looked at: the walk of the document's Small. -/
set_option linter.all false
set_option linter.unusedSimpArgs false
set_option linter.unusedVariables false
namespace Go.PH
open Go.RowKit Go.Proofs

def smallA (a : Ag) : Bool := decide (a.q.length ≤ 1100) && decide (a.s.length ≤ 70000) && smallB a.v
def smallM (m : Mt) : Bool := decide (m.args.length ≤ 8) && m.args.all smallA
set_option maxRecDepth 20000 in
set_option maxHeartbeats 1000000 in
theorem rsmallM_any (v : Mt) (A : Option Addr) (c : Nat) (w : World) (hv : RMw w v A c) :
    Calls Tryd.prog 8 #[.agg (mtV v A c)] w fun e w' => e = .returned (.bool (smallM v)) ∧ Below w.heap.size w w' := by
  unfold mtV
  obtain ⟨xb, w1, hxb, hxv, hX, hB1⟩ := alloc_stepV w #[.int .u8 (v.cls : Int), .int .u8 (v.code : Int), .bool v.sync, .slice A v.args.length c] 24
  have hv1 := hv.up hB1
  have hel := fun {i : Nat} (hi : i < v.args.length) => hv1.elem hi
  have hNm := hv.len
  have c3 := hX.cell (j := 3) rfl
  clear hv hv1
  by_cases h8 : v.args.length ≤ 8
  · have g0 : ¬ (8 : Int) < (v.args.length : Int) := by omega
    have HS : Hid (smallM v = v.args.all smallA) := Lib.hid (by unfold smallM; rw [decide_eq_true h8]; rfl)
    clear h8
    go_enter Tryd.func8, Tryd.ntmps8
    go_upto_region 1 with fail
    rw [← hxb, ← hxv]
    clear hxb hxv
    go_wp2_with (first | (with_reducible refine hold_append ?_) | (with_reducible refine hold_make ?_) | (with_reducible refine hold_copy ?_))
    clear c3 g0
    go_loopw [3] (fun s wr => ∃ i : Nat, i ≤ v.args.length ∧ s = .int .i64 i ∧ Box wr xb 24 #[.int .u8 (v.cls : Int), .int .u8 (v.code : Int), .bool v.sync, .slice A v.args.length c] ∧ Below w.heap.size w wr ∧ Below w1.heap.size w1 wr ∧ Hid ((v.args.drop i).all smallA = v.args.all smallA)) (fun s _ => v.args.length - (RowKit.intOf s).toNat)
    case atStart => exact ⟨0, by omega, rfl, hX, hB1, Below.refl _ _, Lib.hid rfl⟩
    case round =>
      as_aux_lemma =>
      clear hX hB1
      obtain ⟨i, hi, rfl, hX, hB, hB2, HC⟩ := hrel
      have c3 := hX.cell (j := 3) rfl
      simp only [List.getElem_toArray, List.getElem_cons_succ, List.getElem_cons_zero] at c3
      by_cases hlt : i < v.args.length
      · have g1 : (i : Int) < (v.args.length : Int) := by omega
        obtain ⟨b, off, hx, rfl, hvx, HX⟩ := hel hlt
        have HD : Hid ((v.args.drop i).all smallA = (smallA v.args[i] && (v.args.drop (i + 1)).all smallA)) := Lib.hid (by rw [List.drop_eq_getElem_cons hlt, List.all_cons])
        have HX1 := HX wr hB2
        have hqm : v.args[i].q.length ≤ 140737488351232 := by have a2 := hvx.c; omega
        have hsm := hvx.s
        have hrec := rsmall_any v.args[i].v hx.h wr (hvx.up hB2).v
        clear hvx HX
        generalize v.args[i] = x at *
        have k_0 := HX1 0 _ rfl
        have k_1 := HX1 1 _ rfl
        have k_2 := HX1 2 _ rfl
        have k_3 := HX1 3 _ rfl
        have k_4 := HX1 4 _ rfl
        have k_5 := HX1 5 _ rfl
        have k_6 := HX1 6 _ rfl
        have k_7 := HX1 7 _ rfl
        have k_8 := HX1 8 _ rfl
        have k_9 := HX1 9 _ rfl
        have k_10 := HX1 10 _ rfl
        have k_11 := HX1 11 _ rfl
        simp only [Nat.add_zero] at k_0
        clear HX1
        unfold vlV at hrec
        have HA : Hid (smallA x = (decide (x.q.length ≤ 1100) && decide (x.s.length ≤ 70000) && smallB x.v)) := Lib.hid rfl
        have hss := str_size x.s
        by_cases q1 : x.q.length ≤ 1100
        · have g2 : ¬ (1100 : Int) < (x.q.length : Int) := by omega
          by_cases q2 : x.s.length ≤ 70000
          · have g3 : ¬ (70000 : Int) < (x.s.length : Int) := by omega
            have HB : Hid (smallA x = smallB x.v) := Lib.hid (by rw [HA.out, decide_eq_true q1, decide_eq_true q2]; rfl)
            clear q1 q2
            cases hs : smallB x.v
            · rw [hs] at hrec
              have HF : Hid (smallM v = false) := Lib.hid (by rw [HS.out, ← HC.out, HD.out, HB.out, hs]; rfl)
              clear hs hel
              go_wp2_with (first | (with_reducible refine hold_append ?_) | (with_reducible refine hold_make ?_) | (with_reducible refine hold_copy ?_))
              refine hrec.mono ?_
              rintro e w3 ⟨rfl, hB3⟩
              clear hrec k_0 k_1 k_2 k_3 k_4 k_5 k_6 k_7 k_8 k_9 k_10 k_11 c3
              go_wp2_with (first | (with_reducible refine hold_append ?_) | (with_reducible refine hold_make ?_) | (with_reducible refine hold_copy ?_))
              go_ret
              rw [HF.out]
              exact ⟨rfl, hB.trans (hB3.mono hB.size)⟩
            · rw [hs] at hrec
              have HC2 : Hid ((v.args.drop (i + 1)).all smallA = v.args.all smallA) := Lib.hid (by rw [← HC.out, HD.out, HB.out, hs]; rfl)
              clear hs hel
              go_wp2_with (first | (with_reducible refine hold_append ?_) | (with_reducible refine hold_make ?_) | (with_reducible refine hold_copy ?_))
              refine hrec.mono ?_
              rintro e w3 ⟨rfl, hB3⟩
              clear hrec k_0 k_1 k_2 k_3 k_4 k_5 k_6 k_7 k_8 k_9 k_10 k_11 c3
              go_wp2_with (first | (with_reducible refine hold_append ?_) | (with_reducible refine hold_make ?_) | (with_reducible refine hold_copy ?_))
              exact ⟨⟨i + 1, by omega, by go_num, hX.below hB3, hB.trans (hB3.mono hB.size), hB2.trans (hB3.mono hB2.size), HC2⟩, by simp [RowKit.intOf]; omega⟩
          · have g3 : (70000 : Int) < (x.s.length : Int) := by omega
            have h0 : smallA x = false := by rw [HA.out, decide_eq_false q2]; simp
            clear q1 q2 hrec
            have HF : Hid (smallM v = false) := Lib.hid (by rw [HS.out, ← HC.out, HD.out, h0]; simp)
            clear hel
            go_wp2_with (first | (with_reducible refine hold_append ?_) | (with_reducible refine hold_make ?_) | (with_reducible refine hold_copy ?_))
            go_ret
            rw [HF.out]
            exact ⟨rfl, hB⟩
        · have g2 : (1100 : Int) < (x.q.length : Int) := by omega
          have h0 : smallA x = false := by rw [HA.out, decide_eq_false q1]; simp
          clear q1 hrec
          have HF : Hid (smallM v = false) := Lib.hid (by rw [HS.out, ← HC.out, HD.out, h0]; simp)
          clear hel
          go_wp2_with (first | (with_reducible refine hold_append ?_) | (with_reducible refine hold_make ?_) | (with_reducible refine hold_copy ?_))
          go_ret
          rw [HF.out]
          exact ⟨rfl, hB⟩
      · have g1 : ¬ (i : Int) < (v.args.length : Int) := by omega
        have HF : Hid (smallM v = true) := Lib.hid (by rw [HS.out, ← HC.out, List.drop_eq_nil_of_le (by omega)]; rfl)
        clear hel
        go_wp2_with (first | (with_reducible refine hold_append ?_) | (with_reducible refine hold_make ?_) | (with_reducible refine hold_copy ?_))
        go_ret
        rw [HF.out]
        exact ⟨rfl, hB⟩
  · have g0 : (8 : Int) < (v.args.length : Int) := by omega
    have HF : Hid (smallM v = false) := Lib.hid (by unfold smallM; rw [decide_eq_false h8]; rfl)
    clear h8 hel
    go_enter Tryd.func8, Tryd.ntmps8
    go_upto_region 1 with fail
    rw [← hxb, ← hxv]
    clear hxb hxv
    go_wp2_with (first | (with_reducible refine hold_append ?_) | (with_reducible refine hold_make ?_) | (with_reducible refine hold_copy ?_))
    go_ret
    rw [HF.out]
    exact ⟨rfl, hB1⟩
end Go.PH
end
section
/- A method in memory of its own: the walk of the document's Copy. -/
set_option linter.all false
set_option linter.unusedSimpArgs false
set_option linter.unusedVariables false
namespace Go.PH
open Go.RowKit Go.Proofs

theorem slAg : SlT Tryd.prog 22 57 12 176 (.agg #[.bool false, .int .u64 0, .string ⟨#[]⟩, .int .u32 0, .string ⟨#[]⟩, .string ⟨#[]⟩, .slice none 0 0, .int .u8 0, .int .u64 0, .string ⟨#[]⟩, .slice none 0 0, .slice none 0 0]) := SlT.mk' Tryd.underlying22 (by kernel_rfl) rfl (by omega)
structure MpS (wr : World) (base : Nat) (A : Option Addr) (c : Nat) (xs : List (Ag × AH)) : Prop where
  own : Own wr base 57 12 A xs.length c (rowC agC xs)
  el : ∀ p ∈ xs, RA wr (FB base A wr) p.1 p.2
theorem MpS.on {wr wr' : World} {base : Nat} {A : Option Addr} {c : Nat} {xs : List (Ag × AH)} (h : MpS wr base A c xs) (hk : ∀ g, base ≤ g → g < wr.heap.size → wr'.heap[g]? = wr.heap[g]?) (hs : wr.heap.size ≤ wr'.heap.size) : MpS wr' base A c xs := by
  have hF : ∀ g, FB base A wr g → FB base A wr' g := fun g hg => ⟨hg.1, Nat.lt_of_lt_of_le hg.2.1 hs, hg.2.2⟩
  refine ⟨?_, fun p hp => ((h.el p hp).keep (fun g hg => hk g hg.1 hg.2.1) hs).mono hF⟩
  have ho := h.own
  unfold Own World.ownsRow at ho ⊢
  obtain ⟨hl, h1⟩ := ho
  refine ⟨hl, h1.imp id ?_⟩
  rintro ⟨g, cap, cur, hv, hb, hh, hr⟩
  exact ⟨g, cap, cur, hv, hb, (hk g hb (Array.getElem?_eq_some_iff.1 hh).1).trans hh, hr⟩
theorem MpS.below {wr wr' : World} {base : Nat} {A : Option Addr} {c : Nat} {xs : List (Ag × AH)} (h : MpS wr base A c xs) (hB : Below wr.heap.size wr wr') : MpS wr' base A c xs := h.on (fun g _ hg => hB.block g hg) hB.size
theorem MpS.box {wr wr' : World} {base b : Nat} {A : Option Addr} {c : Nat} {xs : List (Ag × AH)} (h : MpS wr base A c xs) (hg : wr.grownBy wr' (some b)) (hb : b < base) : MpS wr' base A c xs :=
  h.on (fun g hg1 hg2 => hg.block g hg2 (fun e => by injection e with e; omega)) hg.size
theorem MpS.push {w5 w6 : World} {base : Nat} {A A2 : Option Addr} {c c2 : Nat} {xs : List (Ag × AH)} {x : Ag} {hx : AH} (h : MpS w5 base A c xs) (hv : RA w5 (FB base A w5) x hx)
    (ho : Own w6 base 57 12 A2 (xs.length + 1) c2 (rowC agC (xs ++ [(x, hx)]))) (hg : w5.grownBy w6 (blk A)) (hA : blk A2 = blk A ∨ ∀ g, blk A2 = some g → w5.heap.size ≤ g) : MpS w6 base A2 c2 (xs ++ [(x, hx)]) := by
  have hF : ∀ g, FB base A w5 g → FB base A2 w6 g := fun g hg1 => ⟨hg1.1, Nat.lt_of_lt_of_le hg1.2.1 hg.size, by
    rcases hA with e | e
    · rw [e]; exact hg1.2.2
    · intro e2; have := e g e2; have := hg1.2.1; omega⟩
  have hk : ∀ g, FB base A w5 g → w6.heap[g]? = w5.heap[g]? := fun g hg1 => hg.block g hg1.2.1 (fun e => hg1.2.2 e.symm)
  refine ⟨by rw [List.length_append]; exact ho, fun p hp => ?_⟩
  rcases List.mem_append.1 hp with hp | hp
  · exact ((h.el p hp).keep hk hg.size).mono hF
  · obtain rfl := List.mem_singleton.1 hp
    exact (hv.keep hk hg.size).mono hF
end Go.PH
end
section
/- The method reader's take and octets: the walks of the program. -/
set_option linter.all false
set_option linter.unusedSimpArgs false
set_option linter.unusedVariables false
namespace Go.PH
open Go.RowKit Go.Proofs

/-- the method reader in block rb: what is left, is it bad -/
def MRd (w : World) (B rb : Nat) (l : List UInt8) (bad : Bool) : Prop := ∃ A n c, Box w rb 68 #[.slice A n c, .bool bad] ∧ RdB w B A n c l ∧ n ≤ 140737488351232
theorem MRd.kp {w w' : World} {B rb x y : Nat} {l : List UInt8} {bad : Bool} (h : MRd w B rb l bad) (hK : KP B x y w w') (h1 : rb ≠ x) (h2 : rb ≠ y) : MRd w' B rb l bad := by
  obtain ⟨A, n, c, hb, hr, hn⟩ := h
  exact ⟨A, n, c, hK.box hb h1 h2, hr.below hK.1, hn⟩
theorem mtk_bad {w : World} {B rb : Nat} {l : List UInt8} {bad : Bool} (h : MRd w B rb l bad) (hB : B ≤ rb) (k e : Int) (hb : bad = true ∨ e ≠ 0) :
    Calls Tryd.prog 72 #[.pointer (some ⟨rb, 0, none⟩), .int .i64 k, .int .i64 e] w fun e' w' => e' = .returned (.tuple #[]) ∧ MRd w' B rb l true ∧ w.grownBy w' (some rb) := by
  obtain ⟨A, n, c, hbx, hr, hn⟩ := h
  have c1 := hbx.cell (j := 1) rfl
  have hbw := hbx.lt
  cases bad
  · have ge : (e != 0) = true := by simpa using hb
    go_enter Tryd.func72, Tryd.ntmps72
    go_wp2_with (first | (with_reducible refine hold_append ?_) | (with_reducible refine hold_make ?_) | (with_reducible refine hold_copy ?_) | (with_reducible refine hold_store ?_))
    refine unhold (wp_box (v := .bool true) (vs := [.bool true]) rfl rfl rfl rfl hbx rfl (by kernel_rfl) (by simp) (by simp; rfl) #[.slice A n c, .bool true] (by simp) ?_)
    intro w2 hb2 hg2 _
    have c1 := hb2.cell (j := 1) rfl
    go_wp2_with (first | (with_reducible refine hold_append ?_) | (with_reducible refine hold_make ?_) | (with_reducible refine hold_copy ?_))
    go_end0
    exact ⟨rfl, ⟨A, n, c, hb2, hr.grown hg2 (by omega) (fun g hg => by injection hg with hg; omega), hn⟩, hg2⟩
  · clear hb
    go_enter Tryd.func72, Tryd.ntmps72
    go_wp2_with (first | (with_reducible refine hold_append ?_) | (with_reducible refine hold_make ?_) | (with_reducible refine hold_copy ?_) | (with_reducible refine hold_store ?_))
    refine unhold (wp_box (v := .bool true) (vs := [.bool true]) rfl rfl rfl rfl hbx rfl (by kernel_rfl) (by simp) (by simp; rfl) #[.slice A n c, .bool true] (by simp) ?_)
    intro w2 hb2 hg2 _
    have c1 := hb2.cell (j := 1) rfl
    go_wp2_with (first | (with_reducible refine hold_append ?_) | (with_reducible refine hold_make ?_) | (with_reducible refine hold_copy ?_))
    go_end0
    exact ⟨rfl, ⟨A, n, c, hb2, hr.grown hg2 (by omega) (fun g hg => by injection hg with hg; omega), hn⟩, hg2⟩
theorem mtk_ok {w : World} {B rb : Nat} {l : List UInt8} (h : MRd w B rb l false) (hB : B ≤ rb) (k : Nat) (hk : k ≤ l.length) :
    Calls Tryd.prog 72 #[.pointer (some ⟨rb, 0, none⟩), .int .i64 (k : Int), .int .i64 0] w fun e' w' => e' = .returned (.tuple #[]) ∧ MRd w' B rb (l.drop k) false ∧ w.grownBy w' (some rb) := by
  obtain ⟨A, n, c, hbx, hr, hn⟩ := h
  have hln : l.length = n := RdB.length hr
  have c1 := hbx.cell (j := 1) rfl
  have hbw := hbx.lt
  go_enter Tryd.func72, Tryd.ntmps72
  go_wp2_with (first | (with_reducible refine hold_append ?_) | (with_reducible refine hold_make ?_) | (with_reducible refine hold_copy ?_) | (with_reducible refine hold_store ?_))
  refine unhold (wp_box (v := .bool false) (vs := [.bool false]) rfl rfl rfl rfl hbx rfl (by kernel_rfl) (by simp) (by simp; rfl) #[.slice A n c, .bool false] (by simp) ?_)
  intro w2 hb2 hg2 _
  have hr2 : RdB w2 B A n c l := hr.grown hg2 (by omega) (fun g hg => by injection hg with hg; omega)
  have c0 := hb2.cell (j := 0) rfl
  have c1 := hb2.cell (j := 1) rfl
  go_wp2_with (first | (with_reducible refine hold_append ?_) | (with_reducible refine hold_make ?_) | (with_reducible refine hold_copy ?_) | (with_reducible refine hold_slice ?_))
  refine unhold (wp_cutB slB rfl rfl rfl hr2 k n c (.inr ⟨_, _, rfl, rfl⟩) (.inl ⟨rfl, rfl⟩) (.inl ⟨rfl, rfl⟩) (by intro h; cases h) (by omega) (by have := hr2.cap; omega) (Nat.le_refl _) (Nat.le_refl _) ?_)
  intro A2 hr3 _
  have e3 : ((l.map u8v).take (n * 1)).drop (k * 1) = (l.drop k).map u8v := by rw [Nat.mul_one, Nat.mul_one, List.take_of_length_le (by simp; omega), List.map_drop]
  rw [e3] at hr3
  clear e3
  go_wp2_with (first | (with_reducible refine hold_append ?_) | (with_reducible refine hold_make ?_) | (with_reducible refine hold_copy ?_) | (with_reducible refine hold_store ?_))
  refine unhold (wp_box (v := .slice A2 (n - k) (c - k)) (vs := [.slice A2 (n - k) (c - k)]) rfl rfl rfl rfl hb2 rfl (by kernel_rfl) (by simp) (by simp; rfl) #[.slice A2 (n - k) (c - k), .bool false] (by simp) ?_)
  intro w3 hb3 hg3 _
  go_wp2_with (first | (with_reducible refine hold_append ?_) | (with_reducible refine hold_make ?_) | (with_reducible refine hold_copy ?_))
  go_end0
  have hg23 : w.grownBy w3 (some rb) := hg2.trans hg3
  refine ⟨rfl, ⟨A2, n - k, c - k, hb3, ?_, by omega⟩, hg23⟩
  have hr4 : RdB w2 B A2 (n - k) (c - k) (l.drop k) := hr3
  exact hr4.grown hg3 (by have := hb2.lt; omega) (fun g hg => by injection hg with hg; omega)
end Go.PH
end
section
/- The method reader's octets: the walk of the program. -/
set_option linter.all false
set_option linter.unusedSimpArgs false
set_option linter.unusedVariables false
namespace Go.PH
open Go.RowKit Go.Proofs

theorem KP.wide {B rb ab vb : Nat} {w W W' : World} (h : KP B rb ab w W) (k : KP B ab vb W W') (hv : w.heap.size ≤ vb) : KP B rb ab w W' :=
  ⟨h.1.trans k.1, fun g hg h1 h2 => (k.2 g (Nat.lt_of_lt_of_le hg h.size) h2 (by omega)).trans (h.2 g hg h1 h2)⟩
def OctR (w : World) (B rb ab : Nat) (l : List UInt8) (bad : Bool) (cells : Array Value) (e : Ending) (w' : World) : Prop := e = .returned (.tuple #[]) ∧ Box w' ab 57 cells ∧ MRd w' B rb l bad ∧ KP B rb ab w w'
set_option maxRecDepth 20000 in
set_option maxHeartbeats 2000000 in
theorem octets_any (Fn : FuncId) (cap : Array Value) (hcf : ∀ (args : Array Value) (w : World), (callFunc Fn args).run Tryd.prog w = .ok (.enter Fn args) w) {w : World} {B rb ab : Nat} {l : List UInt8} {bad : Bool} (h : MRd w B rb l bad) (hB : B ≤ rb) (cells cells' : Array Value) (ha : Box w ab 57 cells) (hab : B ≤ ab) (hne : ab ≠ rb) (l2 : List UInt8) (b2 : Bool) (hl2 : l2.length ≤ l.length)
    (hcl : ∀ (W : World) (o vb : Nat) (F : Nat → Prop), Below w.heap.size w W → Rdr F W (.pointer (some ⟨o, 0, none⟩)) (some vb) l false → (∀ g, F g → w.heap.size ≤ g ∧ g < W.heap.size) → Box W ab 57 cells →
      Calls Tryd.prog Fn (#[.pointer (some ⟨o, 0, none⟩)] ++ cap) W fun e W' => e = .returned (.tuple #[]) ∧ Rdr F W' (.pointer (some ⟨o, 0, none⟩)) (some vb) l2 b2 ∧ Box W' ab 57 cells' ∧ KP B ab vb W W') :
    Calls Tryd.prog 64 #[.pointer (some ⟨rb, 0, none⟩), .func (.func Fn) #[] cap] w (OctR w B rb ab (if (bad || b2) = true then l else l.drop (l.length - l2.length)) (bad || b2) cells') := by
  obtain ⟨lr, hlr⟩ : ∃ x, x = (if (bad || b2) = true then l else l.drop (l.length - l2.length)) := ⟨_, rfl⟩
  obtain ⟨br, hbr⟩ : ∃ x, x = (bad || b2) := ⟨_, rfl⟩
  rw [← hlr, ← hbr]
  have HLR := Lib.hid hlr
  have HBR := Lib.hid hbr
  clear hlr hbr
  obtain ⟨A, n, c, hbx, hr, hn⟩ := h
  have hln : l.length = n := RdB.length hr
  have hbw := hbx.lt
  have haw := ha.lt
  have hBw : B ≤ w.heap.size := by omega
  have hopen := rdopen_any A n c l w (rd_wide hr hBw) (by omega)
  have c0 := hbx.cell (j := 0) rfl
  have HCL := Lib.hid hcl
  clear hcl
  go_enter Tryd.func64, Tryd.ntmps64
  go_wp2_with (first | (with_reducible refine hold_append ?_) | (with_reducible refine hold_make ?_) | (with_reducible refine hold_copy ?_))
  refine hopen.mono ?_
  rintro e w2 ⟨o, vb, rfl, ho, hv, hrd, hB2⟩
  have ha2 := ha.below hB2
  have hb2 := hbx.below hB2
  have hr2 := hr.below (hB2.mono hBw)
  have hK2 := (KP.refl B rb ab w).below hBw hB2
  have hvw := hrd.inF rfl
  have hc2 := HCL.out w2 o vb _ hB2 hrd (fun g hg => hg) ha2
  clear hopen c0 HCL ha hbx hr
  go_wp2_with (first | (with_reducible refine hold_append ?_) | (with_reducible refine hold_make ?_) | (with_reducible refine hold_copy ?_))
  refine hc2.mono ?_
  rintro e w3 ⟨rfl, hrd3, ha3, hK3⟩
  have hb3 := hK3.box hb2 (Ne.symm hne) (by omega)
  have hr3 := hr2.below hK3.1
  have hK := hK2.wide hK3 hv
  clear hc2 hb2 hr2 ha2 hK3 hK2
  have c1 := hb3.cell (j := 1) rfl
  have hbl := hb3.lt
  go_upto_region 2 with fail
  cases bad
  · have hbd := rdbad_any hrd3
    cases b2
    · go_wp2_with (first | (with_reducible refine hold_append ?_) | (with_reducible refine hold_make ?_) | (with_reducible refine hold_copy ?_) | (with_reducible refine hold_store ?_))
      refine hbd.mono ?_
      rintro e w4 ⟨rfl, rfl⟩
      clear hbd
      go_wp2_with (first | (with_reducible refine hold_append ?_) | (with_reducible refine hold_make ?_) | (with_reducible refine hold_copy ?_) | (with_reducible refine hold_store ?_))
      refine unhold (wp_box (v := .bool false) (vs := [.bool false]) rfl rfl rfl rfl hb3 rfl (by kernel_rfl) (by simp) (by simp; rfl) #[.slice A n c, .bool false] (by simp) ?_)
      intro w5 hb5 hg5 _
      have ha5 := ha3.grown hg5 (by intro e; injection e with e; omega)
      have hr5 := hr3.grown hg5 (by omega) (fun g hg => by injection hg with hg; omega)
      have hrd5 := hrd3.kept hg5 (fun g hg hFg => by injection hg with hg; have := hFg.1; omega)
      have hK5 := hK.grown hBw hg5 (fun g hg => by injection hg with hg; exact ⟨by omega, .inl hg.symm⟩)
      clear hb3 ha3 hr3 hrd3 hK hg5 c1
      go_upto_region 3 with fail
      refine rg_start (fun _ : World => True) (by kernel_rfl) ?_
      replace hb5 : Box w5.drew rb 68 #[.slice A n c, .bool false] := hb5
      replace ha5 : Box w5.drew ab 57 cells' := ha5
      replace hr5 : RdB w5.drew B A n c l := hr5.drew
      replace hrd5 := hrd5.drew
      replace hK5 := hK5.drew
      have hsub : IntKind.i64.wrap ((n : Int) - (l2.length : Int)) = ((n - l2.length : Nat) : Int) := by rw [IntWalk.i64_in _ ⟨by omega, by omega⟩]; omega
      generalize w5.drew = wd at *
      refine rg_take 0 (v := ?_) rfl (by kernel_rfl) (by kernel_rfl) (by kernel_rfl) trivial rfl ?_ ?_
      rotate_left
      · intro wS hSw; go_simp; (with_reducible rfl)
      simp only [List.getElem_toArray, List.getElem_cons_zero, Act.put, List.setIfInBounds_toArray, List.set_cons_zero, List.set_cons_succ]
      refine rg_take 1 (v := ?_) rfl (by kernel_rfl) (by kernel_rfl) (by kernel_rfl) trivial rfl ?_ ?_
      rotate_left
      · intro wS hSw; go_simp; (with_reducible rfl)
      simp only [List.getElem_toArray, List.getElem_cons_succ, List.getElem_cons_zero, Act.put, List.setIfInBounds_toArray, List.set_cons_zero, List.set_cons_succ]
      refine rg_take 2 (v := ?_) rfl (by kernel_rfl) (by kernel_rfl) (by kernel_rfl) trivial rfl ?_ ?_
      rotate_left
      · intro wS hSw; go_simp; (with_reducible rfl)
      simp only [List.getElem_toArray, List.getElem_cons_succ, List.getElem_cons_zero, Act.put, List.setIfInBounds_toArray, List.set_cons_zero, List.set_cons_succ]
      refine rg_take 3 (v := ?_) rfl (by kernel_rfl) (by kernel_rfl) (by kernel_rfl) trivial rfl ?_ ?_
      rotate_left
      · intro wS hSw; go_simp; (with_reducible rfl)
      simp only [List.getElem_toArray, List.getElem_cons_succ, List.getElem_cons_zero, Act.put, List.setIfInBounds_toArray, List.set_cons_zero, List.set_cons_succ]
      refine rg_take 6 (v := ?_) rfl (by kernel_rfl) (by kernel_rfl) (by kernel_rfl) trivial rfl ?_ ?_
      rotate_left
      · intro wS hSw; go_simp; (with_reducible rfl)
      simp only [List.getElem_toArray, List.getElem_cons_succ, List.getElem_cons_zero, Act.put, List.setIfInBounds_toArray, List.set_cons_zero, List.set_cons_succ]
      have y0 := hb5.cell (j := 0) rfl
      have hr6 : MRd wd B rb l false := ⟨A, n, c, hb5, hr5, hn⟩
      have hlf := rdleft_any hrd5
      have htk := mtk_ok hr6 hB (n - l2.length) (by omega)
      refine rg_two 4 7 rfl rfl (by kernel_rfl) rfl rfl (fun K hK => ?_) (fun K hK => ?_)
      · go_simp
        refine hK _ _ trivial ?_; clear hK K
        clear y0
        try simp only [List.getElem_toArray, List.getElem_cons_succ, List.getElem_cons_zero, Act.put, List.setIfInBounds_toArray, List.set_cons_zero, List.set_cons_succ]
        refine rg_take 5 (v := ?_) rfl (by kernel_rfl) (by kernel_rfl) (by kernel_rfl) trivial rfl ?_ ?_
        rotate_left
        · intro wS hSw; go_simp; (with_reducible rfl)
        simp only [List.getElem_toArray, List.getElem_cons_succ, List.getElem_cons_zero, Act.put, List.setIfInBounds_toArray, List.set_cons_zero, List.set_cons_succ]
        refine rg_one 7 rfl (by kernel_rfl) rfl (fun K hK => ?_)
        go_simp
        refine hlf.mono ?_
        rintro e w6 ⟨rfl, rfl⟩
        refine hK _ _ trivial ?_; clear hK K
        try simp only [List.getElem_toArray, List.getElem_cons_succ, List.getElem_cons_zero, Act.put, List.setIfInBounds_toArray, List.set_cons_zero, List.set_cons_succ]
        refine rg_take 8 (v := ?_) rfl (by kernel_rfl) (by kernel_rfl) (by kernel_rfl) trivial rfl ?_ ?_
        rotate_left
        · intro wS hSw; go_simp; (with_reducible rfl)
        simp only [List.getElem_toArray, List.getElem_cons_succ, List.getElem_cons_zero, Act.put, List.setIfInBounds_toArray, List.set_cons_zero, List.set_cons_succ]
        refine rg_one 9 rfl (by kernel_rfl) rfl (fun K hK => ?_)
        go_simp
        refine htk.mono ?_
        rintro e w7 ⟨rfl, hM7, hg7⟩
        have ha7 := ha5.grown hg7 (by intro e; injection e with e; omega)
        have hK7 := hK5.grown hBw hg7 (fun g hg => by injection hg with hg; exact ⟨by omega, .inl hg.symm⟩)
        refine hK _ _ trivial ?_; clear hK K
        refine rg_end (by kernel_rfl) ?_
        go_wp2_with (first | (with_reducible refine hold_append ?_) | (with_reducible refine hold_make ?_) | (with_reducible refine hold_copy ?_))
        go_end0
        rw [HLR.out, HBR.out]
        exact ⟨rfl, ha7, by simpa [hln] using hM7, hK7⟩
      · go_simp
        refine hlf.mono ?_
        rintro e w6 ⟨rfl, rfl⟩
        refine hK _ _ trivial ?_; clear hK K
        try simp only [List.getElem_toArray, List.getElem_cons_succ, List.getElem_cons_zero, Act.put, List.setIfInBounds_toArray, List.set_cons_zero, List.set_cons_succ]
        refine rg_one 4 rfl (by kernel_rfl) rfl (fun K hK => ?_)
        go_simp
        refine hK _ _ trivial ?_; clear hK K
        clear y0
        try simp only [List.getElem_toArray, List.getElem_cons_succ, List.getElem_cons_zero, Act.put, List.setIfInBounds_toArray, List.set_cons_zero, List.set_cons_succ]
        refine rg_take 5 (v := ?_) rfl (by kernel_rfl) (by kernel_rfl) (by kernel_rfl) trivial rfl ?_ ?_
        rotate_left
        · intro wS hSw; go_simp; (with_reducible rfl)
        simp only [List.getElem_toArray, List.getElem_cons_succ, List.getElem_cons_zero, Act.put, List.setIfInBounds_toArray, List.set_cons_zero, List.set_cons_succ]
        refine rg_take 8 (v := ?_) rfl (by kernel_rfl) (by kernel_rfl) (by kernel_rfl) trivial rfl ?_ ?_
        rotate_left
        · intro wS hSw; go_simp; (with_reducible rfl)
        simp only [List.getElem_toArray, List.getElem_cons_succ, List.getElem_cons_zero, Act.put, List.setIfInBounds_toArray, List.set_cons_zero, List.set_cons_succ]
        refine rg_one 9 rfl (by kernel_rfl) rfl (fun K hK => ?_)
        go_simp
        refine htk.mono ?_
        rintro e w7 ⟨rfl, hM7, hg7⟩
        have ha7 := ha5.grown hg7 (by intro e; injection e with e; omega)
        have hK7 := hK5.grown hBw hg7 (fun g hg => by injection hg with hg; exact ⟨by omega, .inl hg.symm⟩)
        refine hK _ _ trivial ?_; clear hK K
        refine rg_end (by kernel_rfl) ?_
        go_wp2_with (first | (with_reducible refine hold_append ?_) | (with_reducible refine hold_make ?_) | (with_reducible refine hold_copy ?_))
        go_end0
        rw [HLR.out, HBR.out]
        exact ⟨rfl, ha7, by simpa [hln] using hM7, hK7⟩
    · go_wp2_with (first | (with_reducible refine hold_append ?_) | (with_reducible refine hold_make ?_) | (with_reducible refine hold_copy ?_) | (with_reducible refine hold_store ?_))
      refine hbd.mono ?_
      rintro e w4 ⟨rfl, rfl⟩
      clear hbd
      go_wp2_with (first | (with_reducible refine hold_append ?_) | (with_reducible refine hold_make ?_) | (with_reducible refine hold_copy ?_) | (with_reducible refine hold_store ?_))
      refine unhold (wp_box (v := .bool true) (vs := [.bool true]) rfl rfl rfl rfl hb3 rfl (by kernel_rfl) (by simp) (by simp; rfl) #[.slice A n c, .bool true] (by simp) ?_)
      intro w5 hb5 hg5 _
      have ha5 := ha3.grown hg5 (by intro e; injection e with e; omega)
      have hr5 := hr3.grown hg5 (by omega) (fun g hg => by injection hg with hg; omega)
      have hrd5 := hrd3.kept hg5 (fun g hg hFg => by injection hg with hg; have := hFg.1; omega)
      have hK5 := hK.grown hBw hg5 (fun g hg => by injection hg with hg; exact ⟨by omega, .inl hg.symm⟩)
      clear hb3 ha3 hr3 hrd3 hK hg5 c1
      go_upto_region 3 with fail
      refine rg_start (fun _ : World => True) (by kernel_rfl) ?_
      replace hb5 : Box w5.drew rb 68 #[.slice A n c, .bool true] := hb5
      replace ha5 : Box w5.drew ab 57 cells' := ha5
      replace hr5 : RdB w5.drew B A n c l := hr5.drew
      replace hrd5 := hrd5.drew
      replace hK5 := hK5.drew
      have hsub : IntKind.i64.wrap ((n : Int) - (l2.length : Int)) = ((n - l2.length : Nat) : Int) := by rw [IntWalk.i64_in _ ⟨by omega, by omega⟩]; omega
      generalize w5.drew = wd at *
      refine rg_take 0 (v := ?_) rfl (by kernel_rfl) (by kernel_rfl) (by kernel_rfl) trivial rfl ?_ ?_
      rotate_left
      · intro wS hSw; go_simp; (with_reducible rfl)
      simp only [List.getElem_toArray, List.getElem_cons_zero, Act.put, List.setIfInBounds_toArray, List.set_cons_zero, List.set_cons_succ]
      refine rg_take 1 (v := ?_) rfl (by kernel_rfl) (by kernel_rfl) (by kernel_rfl) trivial rfl ?_ ?_
      rotate_left
      · intro wS hSw; go_simp; (with_reducible rfl)
      simp only [List.getElem_toArray, List.getElem_cons_succ, List.getElem_cons_zero, Act.put, List.setIfInBounds_toArray, List.set_cons_zero, List.set_cons_succ]
      refine rg_take 2 (v := ?_) rfl (by kernel_rfl) (by kernel_rfl) (by kernel_rfl) trivial rfl ?_ ?_
      rotate_left
      · intro wS hSw; go_simp; (with_reducible rfl)
      simp only [List.getElem_toArray, List.getElem_cons_succ, List.getElem_cons_zero, Act.put, List.setIfInBounds_toArray, List.set_cons_zero, List.set_cons_succ]
      refine rg_take 3 (v := ?_) rfl (by kernel_rfl) (by kernel_rfl) (by kernel_rfl) trivial rfl ?_ ?_
      rotate_left
      · intro wS hSw; go_simp; (with_reducible rfl)
      simp only [List.getElem_toArray, List.getElem_cons_succ, List.getElem_cons_zero, Act.put, List.setIfInBounds_toArray, List.set_cons_zero, List.set_cons_succ]
      refine rg_take 6 (v := ?_) rfl (by kernel_rfl) (by kernel_rfl) (by kernel_rfl) trivial rfl ?_ ?_
      rotate_left
      · intro wS hSw; go_simp; (with_reducible rfl)
      simp only [List.getElem_toArray, List.getElem_cons_succ, List.getElem_cons_zero, Act.put, List.setIfInBounds_toArray, List.set_cons_zero, List.set_cons_succ]
      have y0 := hb5.cell (j := 0) rfl
      have hr6 : MRd wd B rb l true := ⟨A, n, c, hb5, hr5, hn⟩
      have hlf := rdleft_any hrd5
      have htk := mtk_bad hr6 hB ((n - l2.length : Nat) : Int) 0 (.inl rfl)
      refine rg_two 4 7 rfl rfl (by kernel_rfl) rfl rfl (fun K hK => ?_) (fun K hK => ?_)
      · go_simp
        refine hK _ _ trivial ?_; clear hK K
        clear y0
        try simp only [List.getElem_toArray, List.getElem_cons_succ, List.getElem_cons_zero, Act.put, List.setIfInBounds_toArray, List.set_cons_zero, List.set_cons_succ]
        refine rg_take 5 (v := ?_) rfl (by kernel_rfl) (by kernel_rfl) (by kernel_rfl) trivial rfl ?_ ?_
        rotate_left
        · intro wS hSw; go_simp; (with_reducible rfl)
        simp only [List.getElem_toArray, List.getElem_cons_succ, List.getElem_cons_zero, Act.put, List.setIfInBounds_toArray, List.set_cons_zero, List.set_cons_succ]
        refine rg_one 7 rfl (by kernel_rfl) rfl (fun K hK => ?_)
        go_simp
        refine hlf.mono ?_
        rintro e w6 ⟨rfl, rfl⟩
        refine hK _ _ trivial ?_; clear hK K
        try simp only [List.getElem_toArray, List.getElem_cons_succ, List.getElem_cons_zero, Act.put, List.setIfInBounds_toArray, List.set_cons_zero, List.set_cons_succ]
        refine rg_take 8 (v := ?_) rfl (by kernel_rfl) (by kernel_rfl) (by kernel_rfl) trivial rfl ?_ ?_
        rotate_left
        · intro wS hSw; go_simp; (with_reducible rfl)
        simp only [List.getElem_toArray, List.getElem_cons_succ, List.getElem_cons_zero, Act.put, List.setIfInBounds_toArray, List.set_cons_zero, List.set_cons_succ]
        refine rg_one 9 rfl (by kernel_rfl) rfl (fun K hK => ?_)
        go_simp
        refine htk.mono ?_
        rintro e w7 ⟨rfl, hM7, hg7⟩
        have ha7 := ha5.grown hg7 (by intro e; injection e with e; omega)
        have hK7 := hK5.grown hBw hg7 (fun g hg => by injection hg with hg; exact ⟨by omega, .inl hg.symm⟩)
        refine hK _ _ trivial ?_; clear hK K
        refine rg_end (by kernel_rfl) ?_
        go_wp2_with (first | (with_reducible refine hold_append ?_) | (with_reducible refine hold_make ?_) | (with_reducible refine hold_copy ?_))
        go_end0
        rw [HLR.out, HBR.out]
        exact ⟨rfl, ha7, by simpa [hln] using hM7, hK7⟩
      · go_simp
        refine hlf.mono ?_
        rintro e w6 ⟨rfl, rfl⟩
        refine hK _ _ trivial ?_; clear hK K
        try simp only [List.getElem_toArray, List.getElem_cons_succ, List.getElem_cons_zero, Act.put, List.setIfInBounds_toArray, List.set_cons_zero, List.set_cons_succ]
        refine rg_one 4 rfl (by kernel_rfl) rfl (fun K hK => ?_)
        go_simp
        refine hK _ _ trivial ?_; clear hK K
        clear y0
        try simp only [List.getElem_toArray, List.getElem_cons_succ, List.getElem_cons_zero, Act.put, List.setIfInBounds_toArray, List.set_cons_zero, List.set_cons_succ]
        refine rg_take 5 (v := ?_) rfl (by kernel_rfl) (by kernel_rfl) (by kernel_rfl) trivial rfl ?_ ?_
        rotate_left
        · intro wS hSw; go_simp; (with_reducible rfl)
        simp only [List.getElem_toArray, List.getElem_cons_succ, List.getElem_cons_zero, Act.put, List.setIfInBounds_toArray, List.set_cons_zero, List.set_cons_succ]
        refine rg_take 8 (v := ?_) rfl (by kernel_rfl) (by kernel_rfl) (by kernel_rfl) trivial rfl ?_ ?_
        rotate_left
        · intro wS hSw; go_simp; (with_reducible rfl)
        simp only [List.getElem_toArray, List.getElem_cons_succ, List.getElem_cons_zero, Act.put, List.setIfInBounds_toArray, List.set_cons_zero, List.set_cons_succ]
        refine rg_one 9 rfl (by kernel_rfl) rfl (fun K hK => ?_)
        go_simp
        refine htk.mono ?_
        rintro e w7 ⟨rfl, hM7, hg7⟩
        have ha7 := ha5.grown hg7 (by intro e; injection e with e; omega)
        have hK7 := hK5.grown hBw hg7 (fun g hg => by injection hg with hg; exact ⟨by omega, .inl hg.symm⟩)
        refine hK _ _ trivial ?_; clear hK K
        refine rg_end (by kernel_rfl) ?_
        go_wp2_with (first | (with_reducible refine hold_append ?_) | (with_reducible refine hold_make ?_) | (with_reducible refine hold_copy ?_))
        go_end0
        rw [HLR.out, HBR.out]
        exact ⟨rfl, ha7, by simpa [hln] using hM7, hK7⟩
  · go_wp2_with (first | (with_reducible refine hold_append ?_) | (with_reducible refine hold_make ?_) | (with_reducible refine hold_copy ?_) | (with_reducible refine hold_store ?_))
    refine unhold (wp_box (v := .bool true) (vs := [.bool true]) rfl rfl rfl rfl hb3 rfl (by kernel_rfl) (by simp) (by simp; rfl) #[.slice A n c, .bool true] (by simp) ?_)
    intro w5 hb5 hg5 _
    have ha5 := ha3.grown hg5 (by intro e; injection e with e; omega)
    have hr5 := hr3.grown hg5 (by omega) (fun g hg => by injection hg with hg; omega)
    have hrd5 := hrd3.kept hg5 (fun g hg hFg => by injection hg with hg; have := hFg.1; omega)
    have hK5 := hK.grown hBw hg5 (fun g hg => by injection hg with hg; exact ⟨by omega, .inl hg.symm⟩)
    clear hb3 ha3 hr3 hrd3 hK hg5 c1
    go_upto_region 3 with fail
    refine rg_start (fun _ : World => True) (by kernel_rfl) ?_
    replace hb5 : Box w5.drew rb 68 #[.slice A n c, .bool true] := hb5
    replace ha5 : Box w5.drew ab 57 cells' := ha5
    replace hr5 : RdB w5.drew B A n c l := hr5.drew
    replace hrd5 := hrd5.drew
    replace hK5 := hK5.drew
    have hsub : IntKind.i64.wrap ((n : Int) - (l2.length : Int)) = ((n - l2.length : Nat) : Int) := by rw [IntWalk.i64_in _ ⟨by omega, by omega⟩]; omega
    generalize w5.drew = wd at *
    refine rg_take 0 (v := ?_) rfl (by kernel_rfl) (by kernel_rfl) (by kernel_rfl) trivial rfl ?_ ?_
    rotate_left
    · intro wS hSw; go_simp; (with_reducible rfl)
    simp only [List.getElem_toArray, List.getElem_cons_zero, Act.put, List.setIfInBounds_toArray, List.set_cons_zero, List.set_cons_succ]
    refine rg_take 1 (v := ?_) rfl (by kernel_rfl) (by kernel_rfl) (by kernel_rfl) trivial rfl ?_ ?_
    rotate_left
    · intro wS hSw; go_simp; (with_reducible rfl)
    simp only [List.getElem_toArray, List.getElem_cons_succ, List.getElem_cons_zero, Act.put, List.setIfInBounds_toArray, List.set_cons_zero, List.set_cons_succ]
    refine rg_take 2 (v := ?_) rfl (by kernel_rfl) (by kernel_rfl) (by kernel_rfl) trivial rfl ?_ ?_
    rotate_left
    · intro wS hSw; go_simp; (with_reducible rfl)
    simp only [List.getElem_toArray, List.getElem_cons_succ, List.getElem_cons_zero, Act.put, List.setIfInBounds_toArray, List.set_cons_zero, List.set_cons_succ]
    refine rg_take 3 (v := ?_) rfl (by kernel_rfl) (by kernel_rfl) (by kernel_rfl) trivial rfl ?_ ?_
    rotate_left
    · intro wS hSw; go_simp; (with_reducible rfl)
    simp only [List.getElem_toArray, List.getElem_cons_succ, List.getElem_cons_zero, Act.put, List.setIfInBounds_toArray, List.set_cons_zero, List.set_cons_succ]
    refine rg_take 6 (v := ?_) rfl (by kernel_rfl) (by kernel_rfl) (by kernel_rfl) trivial rfl ?_ ?_
    rotate_left
    · intro wS hSw; go_simp; (with_reducible rfl)
    simp only [List.getElem_toArray, List.getElem_cons_succ, List.getElem_cons_zero, Act.put, List.setIfInBounds_toArray, List.set_cons_zero, List.set_cons_succ]
    have y0 := hb5.cell (j := 0) rfl
    have hr6 : MRd wd B rb l true := ⟨A, n, c, hb5, hr5, hn⟩
    have hlf := rdleft_any hrd5
    have htk := mtk_bad hr6 hB ((n - l2.length : Nat) : Int) 0 (.inl rfl)
    refine rg_two 4 7 rfl rfl (by kernel_rfl) rfl rfl (fun K hK => ?_) (fun K hK => ?_)
    · go_simp
      refine hK _ _ trivial ?_; clear hK K
      clear y0
      try simp only [List.getElem_toArray, List.getElem_cons_succ, List.getElem_cons_zero, Act.put, List.setIfInBounds_toArray, List.set_cons_zero, List.set_cons_succ]
      refine rg_take 5 (v := ?_) rfl (by kernel_rfl) (by kernel_rfl) (by kernel_rfl) trivial rfl ?_ ?_
      rotate_left
      · intro wS hSw; go_simp; (with_reducible rfl)
      simp only [List.getElem_toArray, List.getElem_cons_succ, List.getElem_cons_zero, Act.put, List.setIfInBounds_toArray, List.set_cons_zero, List.set_cons_succ]
      refine rg_one 7 rfl (by kernel_rfl) rfl (fun K hK => ?_)
      go_simp
      refine hlf.mono ?_
      rintro e w6 ⟨rfl, rfl⟩
      refine hK _ _ trivial ?_; clear hK K
      try simp only [List.getElem_toArray, List.getElem_cons_succ, List.getElem_cons_zero, Act.put, List.setIfInBounds_toArray, List.set_cons_zero, List.set_cons_succ]
      refine rg_take 8 (v := ?_) rfl (by kernel_rfl) (by kernel_rfl) (by kernel_rfl) trivial rfl ?_ ?_
      rotate_left
      · intro wS hSw; go_simp; (with_reducible rfl)
      simp only [List.getElem_toArray, List.getElem_cons_succ, List.getElem_cons_zero, Act.put, List.setIfInBounds_toArray, List.set_cons_zero, List.set_cons_succ]
      refine rg_one 9 rfl (by kernel_rfl) rfl (fun K hK => ?_)
      go_simp
      refine htk.mono ?_
      rintro e w7 ⟨rfl, hM7, hg7⟩
      have ha7 := ha5.grown hg7 (by intro e; injection e with e; omega)
      have hK7 := hK5.grown hBw hg7 (fun g hg => by injection hg with hg; exact ⟨by omega, .inl hg.symm⟩)
      refine hK _ _ trivial ?_; clear hK K
      refine rg_end (by kernel_rfl) ?_
      go_wp2_with (first | (with_reducible refine hold_append ?_) | (with_reducible refine hold_make ?_) | (with_reducible refine hold_copy ?_))
      go_end0
      rw [HLR.out, HBR.out]
      exact ⟨rfl, ha7, by simpa [hln] using hM7, hK7⟩
    · go_simp
      refine hlf.mono ?_
      rintro e w6 ⟨rfl, rfl⟩
      refine hK _ _ trivial ?_; clear hK K
      try simp only [List.getElem_toArray, List.getElem_cons_succ, List.getElem_cons_zero, Act.put, List.setIfInBounds_toArray, List.set_cons_zero, List.set_cons_succ]
      refine rg_one 4 rfl (by kernel_rfl) rfl (fun K hK => ?_)
      go_simp
      refine hK _ _ trivial ?_; clear hK K
      clear y0
      try simp only [List.getElem_toArray, List.getElem_cons_succ, List.getElem_cons_zero, Act.put, List.setIfInBounds_toArray, List.set_cons_zero, List.set_cons_succ]
      refine rg_take 5 (v := ?_) rfl (by kernel_rfl) (by kernel_rfl) (by kernel_rfl) trivial rfl ?_ ?_
      rotate_left
      · intro wS hSw; go_simp; (with_reducible rfl)
      simp only [List.getElem_toArray, List.getElem_cons_succ, List.getElem_cons_zero, Act.put, List.setIfInBounds_toArray, List.set_cons_zero, List.set_cons_succ]
      refine rg_take 8 (v := ?_) rfl (by kernel_rfl) (by kernel_rfl) (by kernel_rfl) trivial rfl ?_ ?_
      rotate_left
      · intro wS hSw; go_simp; (with_reducible rfl)
      simp only [List.getElem_toArray, List.getElem_cons_succ, List.getElem_cons_zero, Act.put, List.setIfInBounds_toArray, List.set_cons_zero, List.set_cons_succ]
      refine rg_one 9 rfl (by kernel_rfl) rfl (fun K hK => ?_)
      go_simp
      refine htk.mono ?_
      rintro e w7 ⟨rfl, hM7, hg7⟩
      have ha7 := ha5.grown hg7 (by intro e; injection e with e; omega)
      have hK7 := hK5.grown hBw hg7 (fun g hg => by injection hg with hg; exact ⟨by omega, .inl hg.symm⟩)
      refine hK _ _ trivial ?_; clear hK K
      refine rg_end (by kernel_rfl) ?_
      go_wp2_with (first | (with_reducible refine hold_append ?_) | (with_reducible refine hold_make ?_) | (with_reducible refine hold_copy ?_))
      go_end0
      rw [HLR.out, HBR.out]
      exact ⟨rfl, ha7, by simpa [hln] using hM7, hK7⟩
end Go.PH
end

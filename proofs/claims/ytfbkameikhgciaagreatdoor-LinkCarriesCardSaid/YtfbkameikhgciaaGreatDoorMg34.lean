/- Texts laid together: MdSameMR, MdSmall, MdCopy, MdTake, MdOctets, MdRd1, MdRd2, MdRd3, MdRd4, MdRd5. -/
import Derived.Test.YtfbkameikhgciaaGreatDoorMg01
import Derived.Test.YtfbkameikhgciaaGreatDoorMg03
import Derived.Test.YtfbkameikhgciaaGreatDoorMg09
import Derived.Test.YtfbkameikhgciaaGreatDoorMg10
import Derived.Test.YtfbkameikhgciaaGreatDoorMg11
import Derived.Test.YtfbkameikhgciaaGreatDoorMg16
import Derived.Test.YtfbkameikhgciaaGreatDoorMg24
import Derived.Test.YtfbkameikhgciaaGreatDoorMg25
import Derived.Test.YtfbkameikhgciaaGreatDoorMg26
import Derived.Test.YtfbkameikhgciaaGreatDoorMg27
import Derived.Test.YtfbkameikhgciaaGreatDoorMg31
set_option linter.all false
set_option linter.unusedSimpArgs false
set_option linter.unusedVariables false
section
/- '==' of methods: the walk of the document's program. -/
namespace Go.PH
open Go.RowKit Go.Proofs

end Go.PH
end
section
/- Which methods can be looked at: the walk of the document's Small. -/
namespace Go.PH
open Go.RowKit Go.Proofs

end Go.PH
end
section
/- A method in memory of its own: the walk of the document's Copy. -/
namespace Go.PH
open Go.RowKit Go.Proofs

theorem slAg : SlT Tryz.prog 82 80 12 176 (.agg #[.bool false, .int .u64 0, .string ⟨#[]⟩, .int .u32 0, .string ⟨#[]⟩, .string ⟨#[]⟩, .slice none 0 0, .int .u8 0, .int .u64 0, .string ⟨#[]⟩, .slice none 0 0, .slice none 0 0]) := SlT.mk' Tryz.underlying82 (by kernel_rfl) rfl (by omega)
structure MpS (wr : World) (base : Nat) (A : Option Addr) (c : Nat) (xs : List (Ag × AH)) : Prop where
 own : Own wr base 80 12 A xs.length c (rowC agC xs)
 el : ∀ p ∈ xs, RA wr (FB base A wr) p.1 p.2
theorem MpS.on {wr wr' : World} {base : Nat} {A : Option Addr} {c : Nat} {xs : List (Ag × AH)} (h : MpS wr base A c xs) (hk : ∀ g, base ≤ g → g < wr.heap.size → wr'.heap[g]? = wr.heap[g]?) (hs : wr.heap.size ≤ wr'.heap.size) : MpS wr' base A c xs := by
 have hF : ∀ g, FB base A wr g → FB base A wr' g := fun g hg => ⟨hg.1, Nat.lt_of_lt_of_le hg.2.1 hs, hg.2.2⟩
 refine ⟨?_, fun p hp => ((h.el p hp).keep (fun g hg => hk g hg.1 hg.2.1) hs).mono hF⟩
 have ho := h.own
 unfold Own World.ownsRow at ho ⊢
 obtain ⟨hl, h1⟩ := ho
 refine ⟨hl, h1.imp id ?_⟩
 rintro ⟨g, cap, cur, hv, hb, hh, hr⟩
 exact ⟨g, cap, cur, hv, hb, (hk g hb (Array.getElem?_eq_some_iff.1 hh).1).trans hh, hr⟩
theorem MpS.below {wr wr' : World} {base : Nat} {A : Option Addr} {c : Nat} {xs : List (Ag × AH)} (h : MpS wr base A c xs) (hB : Below wr.heap.size wr wr') : MpS wr' base A c xs := h.on (fun g _ hg => hB.block g hg) hB.size
theorem MpS.box {wr wr' : World} {base b : Nat} {A : Option Addr} {c : Nat} {xs : List (Ag × AH)} (h : MpS wr base A c xs) (hg : wr.grownBy wr' (some b)) (hb : b < base) : MpS wr' base A c xs :=
 h.on (fun g hg1 hg2 => hg.block g hg2 (fun e => by injection e with e; omega)) hg.size
theorem MpS.push {w5 w6 : World} {base : Nat} {A A2 : Option Addr} {c c2 : Nat} {xs : List (Ag × AH)} {x : Ag} {hx : AH} (h : MpS w5 base A c xs) (hv : RA w5 (FB base A w5) x hx)
  (ho : Own w6 base 80 12 A2 (xs.length + 1) c2 (rowC agC (xs ++ [(x, hx)]))) (hg : w5.grownBy w6 (blk A)) (hA : blk A2 = blk A ∨ ∀ g, blk A2 = some g → w5.heap.size ≤ g) : MpS w6 base A2 c2 (xs ++ [(x, hx)]) := by
 have hF : ∀ g, FB base A w5 g → FB base A2 w6 g := fun g hg1 => ⟨hg1.1, Nat.lt_of_lt_of_le hg1.2.1 hg.size, by
  rcases hA with e | e
  ·rw [e]; exact hg1.2.2
  ·intro e2; have := e g e2; have := hg1.2.1; omega⟩
 have hk : ∀ g, FB base A w5 g → w6.heap[g]? = w5.heap[g]? := fun g hg1 => hg.block g hg1.2.1 (fun e => hg1.2.2 e.symm)
 refine ⟨by rw [List.length_append]; exact ho, fun p hp => ?_⟩
 rcases List.mem_append.1 hp with hp | hp
 ·exact ((h.el p hp).keep hk hg.size).mono hF
 ·obtain rfl := List.mem_singleton.1 hp
  exact (hv.keep hk hg.size).mono hF
end Go.PH
end
section
/- The method reader's take and octets: the walks of the program. -/
namespace Go.PH
open Go.RowKit Go.Proofs

/-- the method reader in block rb: what is left, is it bad -/
def MRd (w : World) (B rb : Nat) (l : List UInt8) (bad : Bool) : Prop := ∃ A n c, Box w rb 194 #[.slice A n c, .bool bad] ∧ RdB w B A n c l ∧ n ≤ 140737488351232
theorem MRd.kp {w w' : World} {B rb x y : Nat} {l : List UInt8} {bad : Bool} (h : MRd w B rb l bad) (hK : KP B x y w w') (h1 : rb ≠ x) (h2 : rb ≠ y) : MRd w' B rb l bad := by
 obtain ⟨A, n, c, hb, hr, hn⟩ := h
 exact ⟨A, n, c, hK.box hb h1 h2, hr.below hK.1, hn⟩
theorem mtk_bad {w : World} {B rb : Nat} {l : List UInt8} {bad : Bool} (h : MRd w B rb l bad) (hB : B ≤ rb) (k e : Int) (hb : bad = true ∨ e ≠ 0) :
  Calls Tryz.prog 160 #[.pointer (some ⟨rb, 0, none⟩), .int .i64 k, .int .i64 e] w fun e' w' => e' = .returned (.tuple #[]) ∧ MRd w' B rb l true ∧ w.grownBy w' (some rb) := by
 obtain ⟨A, n, c, hbx, hr, hn⟩ := h
 have c1 := hbx.c1
 have hbw := hbx.lt
 cases bad
 ·have ge : (e != 0) = true := by simpa using hb
  go_enter Tryz.func160, Tryz.ntmps160
  go_wp2_with (with_reducible refine h_B ?_)
  refine unhold (wp_box (v := .bool true) (vs := [.bool true]) rfl rfl rfl rfl hbx rfl (by kernel_rfl) (by simp) (by simp; rfl) #[.slice A n c, .bool true] (by simp) ?_)
  intro w2 hb2 hg2 _
  have c1 := hb2.c1
  go_wp2_with (with_reducible refine h_A ?_)
  go_end0
  exact ⟨rfl, ⟨A, n, c, hb2, hr.grown hg2 (by omega) (fun g hg => by injection hg with hg; omega), hn⟩, hg2⟩
 ·clear hb
  go_enter Tryz.func160, Tryz.ntmps160
  go_wp2_with (with_reducible refine h_B ?_)
  refine unhold (wp_box (v := .bool true) (vs := [.bool true]) rfl rfl rfl rfl hbx rfl (by kernel_rfl) (by simp) (by simp; rfl) #[.slice A n c, .bool true] (by simp) ?_)
  intro w2 hb2 hg2 _
  have c1 := hb2.c1
  go_wp2_with (with_reducible refine h_A ?_)
  go_end0
  exact ⟨rfl, ⟨A, n, c, hb2, hr.grown hg2 (by omega) (fun g hg => by injection hg with hg; omega), hn⟩, hg2⟩
theorem mtk_ok {w : World} {B rb : Nat} {l : List UInt8} (h : MRd w B rb l false) (hB : B ≤ rb) (k : Nat) (hk : k ≤ l.length) :
  Calls Tryz.prog 160 #[.pointer (some ⟨rb, 0, none⟩), .int .i64 (k : Int), .int .i64 0] w fun e' w' => e' = .returned (.tuple #[]) ∧ MRd w' B rb (l.drop k) false ∧ w.grownBy w' (some rb) := by
 obtain ⟨A, n, c, hbx, hr, hn⟩ := h
 have hln : l.length = n := RdB.length hr
 have c1 := hbx.c1
 have hbw := hbx.lt
 go_enter Tryz.func160, Tryz.ntmps160
 go_wp2_with (with_reducible refine h_B ?_)
 refine unhold (wp_box (v := .bool false) (vs := [.bool false]) rfl rfl rfl rfl hbx rfl (by kernel_rfl) (by simp) (by simp; rfl) #[.slice A n c, .bool false] (by simp) ?_)
 intro w2 hb2 hg2 _
 have hr2 : RdB w2 B A n c l := hr.grown hg2 (by omega) (fun g hg => by injection hg with hg; omega)
 have c0 := hb2.c0
 have c1 := hb2.c1
 go_wp2_with (with_reducible refine h_S ?_)
 refine unhold (wp_cutB slB rfl rfl rfl hr2 k n c (.inr ⟨_, _, rfl, rfl⟩) (.inl ⟨rfl, rfl⟩) (.inl ⟨rfl, rfl⟩) (by intro h; cases h) (by omega) (by have := hr2.cap; omega) (Nat.le_refl _) (Nat.le_refl _) ?_)
 intro A2 hr3 _
 have e3 : ((l.map u8v).take (n * 1)).drop (k * 1) = (l.drop k).map u8v := by rw [Nat.mul_one, Nat.mul_one, List.take_of_length_le (by simp; omega), List.map_drop]
 rw [e3] at hr3
 clear e3
 go_wp2_with (with_reducible refine h_B ?_)
 refine unhold (wp_box (v := .slice A2 (n - k) (c - k)) (vs := [.slice A2 (n - k) (c - k)]) rfl rfl rfl rfl hb2 rfl (by kernel_rfl) (by simp) (by simp; rfl) #[.slice A2 (n - k) (c - k), .bool false] (by simp) ?_)
 intro w3 hb3 hg3 _
 go_wp2_with (with_reducible refine h_A ?_)
 go_end0
 have hg23 : w.grownBy w3 (some rb) := hg2.trans hg3
 refine ⟨rfl, ⟨A2, n - k, c - k, hb3, ?_, by omega⟩, hg23⟩
 have hr4 : RdB w2 B A2 (n - k) (c - k) (l.drop k) := hr3
 exact hr4.grown hg3 (by have := hb2.lt; omega) (fun g hg => by injection hg with hg; omega)
end Go.PH
end
section
/- The method reader's octets: the walk of the program. -/
namespace Go.PH
open Go.RowKit Go.Proofs

theorem KP.wide {B rb ab vb : Nat} {w W W' : World} (h : KP B rb ab w W) (k : KP B ab vb W W') (hv : w.heap.size ≤ vb) : KP B rb ab w W' :=
 ⟨h.1.trans k.1, fun g hg h1 h2 => (k.2 g (Nat.lt_of_lt_of_le hg h.size) h2 (by omega)).trans (h.2 g hg h1 h2)⟩
def OctR (w : World) (B rb ab : Nat) (l : List UInt8) (bad : Bool) (cells : Array Value) (e : Ending) (w' : World) : Prop := e = .returned (.tuple #[]) ∧ Box w' ab 80 cells ∧ MRd w' B rb l bad ∧ KP B rb ab w w'
set_option maxRecDepth 20000 in
set_option maxHeartbeats 2000000 in
theorem octets_any (Fn : FuncId) (cap : Array Value) (hcf : ∀ (args : Array Value) (w : World), (callFunc Fn args).run Tryz.prog w = .ok (.enter Fn args) w) {w : World} {B rb ab : Nat} {l : List UInt8} {bad : Bool} (h : MRd w B rb l bad) (hB : B ≤ rb) (cells cells' : Array Value) (ha : Box w ab 80 cells) (hab : B ≤ ab) (hne : ab ≠ rb) (l2 : List UInt8) (b2 : Bool) (hl2 : l2.length ≤ l.length)
  (hcl : ∀ (W : World) (o vb : Nat) (F : Nat → Prop), Below w.heap.size w W → Rdr F W (.pointer (some ⟨o, 0, none⟩)) (some vb) l false → (∀ g, F g → w.heap.size ≤ g ∧ g < W.heap.size) → Box W ab 80 cells →
   Calls Tryz.prog Fn (#[.pointer (some ⟨o, 0, none⟩)] ++ cap) W fun e W' => e = .returned (.tuple #[]) ∧ Rdr F W' (.pointer (some ⟨o, 0, none⟩)) (some vb) l2 b2 ∧ Box W' ab 80 cells' ∧ KP B ab vb W W') :
  Calls Tryz.prog 152 #[.pointer (some ⟨rb, 0, none⟩), .func (.func Fn) #[] cap] w (OctR w B rb ab (if (bad || b2) = true then l else l.drop (l.length - l2.length)) (bad || b2) cells') := by
 obtain ⟨lr, hlr⟩ : ∃ x, x = (if (bad || b2) = true then l else l.drop (l.length - l2.length)) := ⟨_, rfl⟩
 obtain ⟨br, hbr⟩ : ∃ x, x = (bad || b2) := ⟨_, rfl⟩
 rw [← hlr, ← hbr]
 have HLR := Lib.hid hlr
 have HBR := Lib.hid hbr
 clear hlr hbr
 obtain ⟨A, n, c, hbx, hr, hn⟩ := h
 have hln : l.length = n := RdB.length hr
 have hbw := hbx.lt
 have haw := ha.lt
 have hBw : B ≤ w.heap.size := by omega
 have hopen := rdopen_any A n c l w (rd_wide hr hBw) (by omega)
 have c0 := hbx.c0
 have HCL := Lib.hid hcl
 clear hcl
 go_enter Tryz.func152, Tryz.ntmps152
 go_wp2_with (with_reducible refine h_A ?_)
 refine hopen.mono ?_
 rintro e w2 ⟨o, vb, rfl, ho, hv, hrd, hB2⟩
 have ha2 := ha.below hB2
 have hb2 := hbx.below hB2
 have hr2 := hr.below (hB2.mono hBw)
 have hK2 := (KP.refl B rb ab w).below hBw hB2
 have hvw := hrd.inF rfl
 have hc2 := HCL.out w2 o vb _ hB2 hrd (fun g hg => hg) ha2
 clear hopen c0 HCL ha hbx hr
 go_wp2_with (with_reducible refine h_A ?_)
 refine hc2.mono ?_
 rintro e w3 ⟨rfl, hrd3, ha3, hK3⟩
 have hb3 := hK3.box hb2 (Ne.symm hne) (by omega)
 have hr3 := hr2.below hK3.1
 have hK := hK2.wide hK3 hv
 clear hc2 hb2 hr2 ha2 hK3 hK2
 have c1 := hb3.c1
 have hbl := hb3.lt
 go_upto_region 2 with fail
 cases bad
 ·have hbd := rdbad_any hrd3
  cases b2
  ·go_wp2_with (with_reducible refine h_B ?_)
   refine hbd.mono ?_
   rintro e w4 ⟨rfl, rfl⟩
   clear hbd
   go_wp2_with (with_reducible refine h_B ?_)
   refine unhold (wp_box (v := .bool false) (vs := [.bool false]) rfl rfl rfl rfl hb3 rfl (by kernel_rfl) (by simp) (by simp; rfl) #[.slice A n c, .bool false] (by simp) ?_)
   intro w5 hb5 hg5 _
   have ha5 := ha3.grown hg5 (sne (by omega))
   have hr5 := hr3.grown hg5 (by omega) (fun g hg => by injection hg with hg; omega)
   have hrd5 := hrd3.kept hg5 (fun g hg hFg => by injection hg with hg; have := hFg.1; omega)
   have hK5 := hK.grown hBw hg5 (fun g hg => by injection hg with hg; exact ⟨by omega, .inl hg.symm⟩)
   clear hb3 ha3 hr3 hrd3 hK hg5 c1
   go_upto_region 3 with fail
   refine rg_start (fun _ : World => True) (by kernel_rfl) ?_
   replace hb5 : Box w5.drew rb 194 #[.slice A n c, .bool false] := hb5
   replace ha5 : Box w5.drew ab 80 cells' := ha5
   replace hr5 : RdB w5.drew B A n c l := hr5.drew
   replace hrd5 := hrd5.drew
   replace hK5 := hK5.drew
   have hsub : IntKind.i64.wrap ((n : Int) - (l2.length : Int)) = ((n - l2.length : Nat) : Int) := by rw [IntWalk.i64_in _ ⟨by omega, by omega⟩]; omega
   generalize w5.drew = wd at *
   refine rg_t 0 trivial ?_
   simp only [List.getElem_toArray, List.getElem_cons_zero, Act.put, List.setIfInBounds_toArray, List.set_cons_zero, List.set_cons_succ]
   refine rg_t 1 trivial ?_
   simp only [g_S, Act.put]
   refine rg_t 2 trivial ?_
   simp only [g_S, Act.put]
   refine rg_t 3 trivial ?_
   simp only [g_S, Act.put]
   refine rg_t 6 trivial ?_
   simp only [g_S, Act.put]
   have y0 := hb5.c0
   have hr6 : MRd wd B rb l false := ⟨A, n, c, hb5, hr5, hn⟩
   have hlf := rdleft_any hrd5
   have htk := mtk_ok hr6 hB (n - l2.length) (by omega)
   refine rg_two 4 7 rfl rfl (by kernel_rfl) rfl rfl (fun K hK => ?_) (fun K hK => ?_)
   ·go_simp
    refine hK _ _ trivial ?_; clear hK K
    clear y0
    try simp only [g_S, Act.put]
    refine rg_t 5 trivial ?_
    simp only [g_S, Act.put]
    refine rg_one 7 rfl (by kernel_rfl) rfl (fun K hK => ?_)
    go_simp
    refine hlf.mono ?_
    rintro e w6 ⟨rfl, rfl⟩
    refine hK _ _ trivial ?_; clear hK K
    try simp only [g_S, Act.put]
    refine rg_t 8 trivial ?_
    simp only [g_S, Act.put]
    refine rg_one 9 rfl (by kernel_rfl) rfl (fun K hK => ?_)
    go_simp
    refine htk.mono ?_
    rintro e w7 ⟨rfl, hM7, hg7⟩
    have ha7 := ha5.grown hg7 (sne (by omega))
    have hK7 := hK5.grown hBw hg7 (fun g hg => by injection hg with hg; exact ⟨by omega, .inl hg.symm⟩)
    refine hK _ _ trivial ?_; clear hK K
    refine rg_end (by kernel_rfl) ?_
    go_wp2_with (with_reducible refine h_A ?_)
    go_end0
    rw [HLR.out, HBR.out]
    exact ⟨rfl, ha7, by simpa [hln] using hM7, hK7⟩
   ·go_simp
    refine hlf.mono ?_
    rintro e w6 ⟨rfl, rfl⟩
    refine hK _ _ trivial ?_; clear hK K
    try simp only [g_S, Act.put]
    refine rg_one 4 rfl (by kernel_rfl) rfl (fun K hK => ?_)
    go_simp
    refine hK _ _ trivial ?_; clear hK K
    clear y0
    try simp only [g_S, Act.put]
    refine rg_t 5 trivial ?_
    simp only [g_S, Act.put]
    refine rg_t 8 trivial ?_
    simp only [g_S, Act.put]
    refine rg_one 9 rfl (by kernel_rfl) rfl (fun K hK => ?_)
    go_simp
    refine htk.mono ?_
    rintro e w7 ⟨rfl, hM7, hg7⟩
    have ha7 := ha5.grown hg7 (sne (by omega))
    have hK7 := hK5.grown hBw hg7 (fun g hg => by injection hg with hg; exact ⟨by omega, .inl hg.symm⟩)
    refine hK _ _ trivial ?_; clear hK K
    refine rg_end (by kernel_rfl) ?_
    go_wp2_with (with_reducible refine h_A ?_)
    go_end0
    rw [HLR.out, HBR.out]
    exact ⟨rfl, ha7, by simpa [hln] using hM7, hK7⟩
  ·go_wp2_with (with_reducible refine h_B ?_)
   refine hbd.mono ?_
   rintro e w4 ⟨rfl, rfl⟩
   clear hbd
   go_wp2_with (with_reducible refine h_B ?_)
   refine unhold (wp_box (v := .bool true) (vs := [.bool true]) rfl rfl rfl rfl hb3 rfl (by kernel_rfl) (by simp) (by simp; rfl) #[.slice A n c, .bool true] (by simp) ?_)
   intro w5 hb5 hg5 _
   have ha5 := ha3.grown hg5 (sne (by omega))
   have hr5 := hr3.grown hg5 (by omega) (fun g hg => by injection hg with hg; omega)
   have hrd5 := hrd3.kept hg5 (fun g hg hFg => by injection hg with hg; have := hFg.1; omega)
   have hK5 := hK.grown hBw hg5 (fun g hg => by injection hg with hg; exact ⟨by omega, .inl hg.symm⟩)
   clear hb3 ha3 hr3 hrd3 hK hg5 c1
   go_upto_region 3 with fail
   refine rg_start (fun _ : World => True) (by kernel_rfl) ?_
   replace hb5 : Box w5.drew rb 194 #[.slice A n c, .bool true] := hb5
   replace ha5 : Box w5.drew ab 80 cells' := ha5
   replace hr5 : RdB w5.drew B A n c l := hr5.drew
   replace hrd5 := hrd5.drew
   replace hK5 := hK5.drew
   have hsub : IntKind.i64.wrap ((n : Int) - (l2.length : Int)) = ((n - l2.length : Nat) : Int) := by rw [IntWalk.i64_in _ ⟨by omega, by omega⟩]; omega
   generalize w5.drew = wd at *
   refine rg_t 0 trivial ?_
   simp only [List.getElem_toArray, List.getElem_cons_zero, Act.put, List.setIfInBounds_toArray, List.set_cons_zero, List.set_cons_succ]
   refine rg_t 1 trivial ?_
   simp only [g_S, Act.put]
   refine rg_t 2 trivial ?_
   simp only [g_S, Act.put]
   refine rg_t 3 trivial ?_
   simp only [g_S, Act.put]
   refine rg_t 6 trivial ?_
   simp only [g_S, Act.put]
   have y0 := hb5.c0
   have hr6 : MRd wd B rb l true := ⟨A, n, c, hb5, hr5, hn⟩
   have hlf := rdleft_any hrd5
   have htk := mtk_bad hr6 hB ((n - l2.length : Nat) : Int) 0 (.inl rfl)
   refine rg_two 4 7 rfl rfl (by kernel_rfl) rfl rfl (fun K hK => ?_) (fun K hK => ?_)
   ·go_simp
    refine hK _ _ trivial ?_; clear hK K
    clear y0
    try simp only [g_S, Act.put]
    refine rg_t 5 trivial ?_
    simp only [g_S, Act.put]
    refine rg_one 7 rfl (by kernel_rfl) rfl (fun K hK => ?_)
    go_simp
    refine hlf.mono ?_
    rintro e w6 ⟨rfl, rfl⟩
    refine hK _ _ trivial ?_; clear hK K
    try simp only [g_S, Act.put]
    refine rg_t 8 trivial ?_
    simp only [g_S, Act.put]
    refine rg_one 9 rfl (by kernel_rfl) rfl (fun K hK => ?_)
    go_simp
    refine htk.mono ?_
    rintro e w7 ⟨rfl, hM7, hg7⟩
    have ha7 := ha5.grown hg7 (sne (by omega))
    have hK7 := hK5.grown hBw hg7 (fun g hg => by injection hg with hg; exact ⟨by omega, .inl hg.symm⟩)
    refine hK _ _ trivial ?_; clear hK K
    refine rg_end (by kernel_rfl) ?_
    go_wp2_with (with_reducible refine h_A ?_)
    go_end0
    rw [HLR.out, HBR.out]
    exact ⟨rfl, ha7, by simpa [hln] using hM7, hK7⟩
   ·go_simp
    refine hlf.mono ?_
    rintro e w6 ⟨rfl, rfl⟩
    refine hK _ _ trivial ?_; clear hK K
    try simp only [g_S, Act.put]
    refine rg_one 4 rfl (by kernel_rfl) rfl (fun K hK => ?_)
    go_simp
    refine hK _ _ trivial ?_; clear hK K
    clear y0
    try simp only [g_S, Act.put]
    refine rg_t 5 trivial ?_
    simp only [g_S, Act.put]
    refine rg_t 8 trivial ?_
    simp only [g_S, Act.put]
    refine rg_one 9 rfl (by kernel_rfl) rfl (fun K hK => ?_)
    go_simp
    refine htk.mono ?_
    rintro e w7 ⟨rfl, hM7, hg7⟩
    have ha7 := ha5.grown hg7 (sne (by omega))
    have hK7 := hK5.grown hBw hg7 (fun g hg => by injection hg with hg; exact ⟨by omega, .inl hg.symm⟩)
    refine hK _ _ trivial ?_; clear hK K
    refine rg_end (by kernel_rfl) ?_
    go_wp2_with (with_reducible refine h_A ?_)
    go_end0
    rw [HLR.out, HBR.out]
    exact ⟨rfl, ha7, by simpa [hln] using hM7, hK7⟩
 ·go_wp2_with (with_reducible refine h_B ?_)
  refine unhold (wp_box (v := .bool true) (vs := [.bool true]) rfl rfl rfl rfl hb3 rfl (by kernel_rfl) (by simp) (by simp; rfl) #[.slice A n c, .bool true] (by simp) ?_)
  intro w5 hb5 hg5 _
  have ha5 := ha3.grown hg5 (sne (by omega))
  have hr5 := hr3.grown hg5 (by omega) (fun g hg => by injection hg with hg; omega)
  have hrd5 := hrd3.kept hg5 (fun g hg hFg => by injection hg with hg; have := hFg.1; omega)
  have hK5 := hK.grown hBw hg5 (fun g hg => by injection hg with hg; exact ⟨by omega, .inl hg.symm⟩)
  clear hb3 ha3 hr3 hrd3 hK hg5 c1
  go_upto_region 3 with fail
  refine rg_start (fun _ : World => True) (by kernel_rfl) ?_
  replace hb5 : Box w5.drew rb 194 #[.slice A n c, .bool true] := hb5
  replace ha5 : Box w5.drew ab 80 cells' := ha5
  replace hr5 : RdB w5.drew B A n c l := hr5.drew
  replace hrd5 := hrd5.drew
  replace hK5 := hK5.drew
  have hsub : IntKind.i64.wrap ((n : Int) - (l2.length : Int)) = ((n - l2.length : Nat) : Int) := by rw [IntWalk.i64_in _ ⟨by omega, by omega⟩]; omega
  generalize w5.drew = wd at *
  refine rg_t 0 trivial ?_
  simp only [List.getElem_toArray, List.getElem_cons_zero, Act.put, List.setIfInBounds_toArray, List.set_cons_zero, List.set_cons_succ]
  refine rg_t 1 trivial ?_
  simp only [g_S, Act.put]
  refine rg_t 2 trivial ?_
  simp only [g_S, Act.put]
  refine rg_t 3 trivial ?_
  simp only [g_S, Act.put]
  refine rg_t 6 trivial ?_
  simp only [g_S, Act.put]
  have y0 := hb5.c0
  have hr6 : MRd wd B rb l true := ⟨A, n, c, hb5, hr5, hn⟩
  have hlf := rdleft_any hrd5
  have htk := mtk_bad hr6 hB ((n - l2.length : Nat) : Int) 0 (.inl rfl)
  refine rg_two 4 7 rfl rfl (by kernel_rfl) rfl rfl (fun K hK => ?_) (fun K hK => ?_)
  ·go_simp
   refine hK _ _ trivial ?_; clear hK K
   clear y0
   try simp only [g_S, Act.put]
   refine rg_t 5 trivial ?_
   simp only [g_S, Act.put]
   refine rg_one 7 rfl (by kernel_rfl) rfl (fun K hK => ?_)
   go_simp
   refine hlf.mono ?_
   rintro e w6 ⟨rfl, rfl⟩
   refine hK _ _ trivial ?_; clear hK K
   try simp only [g_S, Act.put]
   refine rg_t 8 trivial ?_
   simp only [g_S, Act.put]
   refine rg_one 9 rfl (by kernel_rfl) rfl (fun K hK => ?_)
   go_simp
   refine htk.mono ?_
   rintro e w7 ⟨rfl, hM7, hg7⟩
   have ha7 := ha5.grown hg7 (sne (by omega))
   have hK7 := hK5.grown hBw hg7 (fun g hg => by injection hg with hg; exact ⟨by omega, .inl hg.symm⟩)
   refine hK _ _ trivial ?_; clear hK K
   refine rg_end (by kernel_rfl) ?_
   go_wp2_with (with_reducible refine h_A ?_)
   go_end0
   rw [HLR.out, HBR.out]
   exact ⟨rfl, ha7, by simpa [hln] using hM7, hK7⟩
  ·go_simp
   refine hlf.mono ?_
   rintro e w6 ⟨rfl, rfl⟩
   refine hK _ _ trivial ?_; clear hK K
   try simp only [g_S, Act.put]
   refine rg_one 4 rfl (by kernel_rfl) rfl (fun K hK => ?_)
   go_simp
   refine hK _ _ trivial ?_; clear hK K
   clear y0
   try simp only [g_S, Act.put]
   refine rg_t 5 trivial ?_
   simp only [g_S, Act.put]
   refine rg_t 8 trivial ?_
   simp only [g_S, Act.put]
   refine rg_one 9 rfl (by kernel_rfl) rfl (fun K hK => ?_)
   go_simp
   refine htk.mono ?_
   rintro e w7 ⟨rfl, hM7, hg7⟩
   have ha7 := ha5.grown hg7 (sne (by omega))
   have hK7 := hK5.grown hBw hg7 (fun g hg => by injection hg with hg; exact ⟨by omega, .inl hg.symm⟩)
   refine hK _ _ trivial ?_; clear hK K
   refine rg_end (by kernel_rfl) ?_
   go_wp2_with (with_reducible refine h_A ?_)
   go_end0
   rw [HLR.out, HBR.out]
   exact ⟨rfl, ha7, by simpa [hln] using hM7, hK7⟩
end Go.PH
end
section
/- The method reader's readers of numbers and texts: the walks of the program. -/
namespace Go.PH
open Go.RowKit Go.Proofs

set_option maxRecDepth 20000 in
theorem cl_word {F : Nat → Prop} {W : World} {o vb ab cb B : Nat} {l : List UInt8} (is : Bool) (T : _) (hT : T = mnum l false 2) (hr : Rdr F W (.pointer (some ⟨o, 0, none⟩)) (some vb) l false) (hcb : Box W cb 198 #[.pointer (some ⟨ab, 0, none⟩)]) (ha : Box W ab 80 #[.bool is, .int .u64 0, .string ⟨#[]⟩, .int .u32 0, .string ⟨#[]⟩, .string ⟨#[]⟩, .slice none 0 0, .int .u8 0, .int .u64 0, .string ⟨#[]⟩, .slice none 0 0, .slice none 0 0]) (hFa : ¬ F ab) (hvc : vb ≠ cb) (hva : vb ≠ ab) (hca : cb ≠ ab) (hBa : B ≤ ab) (hBv : B ≤ vb) (hBW : B ≤ W.heap.size) :
  Calls Tryz.prog 154 #[.pointer (some ⟨o, 0, none⟩), .pointer (some ⟨cb, 0, none⟩)] W fun e W' => e = .returned (.tuple #[]) ∧ Rdr F W' (.pointer (some ⟨o, 0, none⟩)) (some vb) T.2.1 T.2.2 ∧ Box W' ab 80 #[.bool is, .int .u64 (T.1 : Int), .string ⟨#[]⟩, .int .u32 0, .string ⟨#[]⟩, .string ⟨#[]⟩, .slice none 0 0, .int .u8 0, .int .u64 0, .string ⟨#[]⟩, .slice none 0 0, .slice none 0 0] ∧ KP B ab vb W W' := by
 have h1 := fun W (h : Rdr F W (.pointer (some ⟨o, 0, none⟩)) (some vb) l false) => rdnum_any h 2 (by omega) (by omega)
 rw [← hT] at h1
 clear hT
 have hKP := KP.refl B ab vb W
 go_enter Tryz.func154, Tryz.ntmps154
 go_upto_region 0 with fail
 refine rg_start (fun W : World => Box W cb 198 #[.pointer (some ⟨ab, 0, none⟩)]) (by kernel_rfl) ?_
 replace hcb : Box W.drew cb 198 #[.pointer (some ⟨ab, 0, none⟩)] := hcb
 replace ha : Box W.drew ab 80 #[.bool is, .int .u64 0, .string ⟨#[]⟩, .int .u32 0, .string ⟨#[]⟩, .string ⟨#[]⟩, .slice none 0 0, .int .u8 0, .int .u64 0, .string ⟨#[]⟩, .slice none 0 0, .slice none 0 0] := ha
 replace hr := hr.drew
 replace hKP := hKP.drew
 have h1 := h1 _ hr
 generalize W.drew = wd at *
 refine rg_take 0 (v := ?_) rfl (by kernel_rfl) (by kernel_rfl) (by kernel_rfl) hcb rfl ?_ ?_
 rotate_left
 ·intro wS hSw; have y0 := hSw.cell (j := 0) rfl; go_simp; (with_reducible rfl)
 simp only [List.getElem_toArray, List.getElem_cons_zero, Act.put, List.setIfInBounds_toArray, List.set_cons_zero, List.set_cons_succ]
 refine rg_t 1 hcb ?_
 simp only [g_S, Act.put]
 refine rg_one 2 rfl (by kernel_rfl) rfl (fun K hK => ?_)
 go_simp
 refine h1.mono ?_
 rintro e w2 ⟨rfl, hr2, hg2⟩
 have hcb2 := hcb.grown hg2 (sne (by omega))
 have ha2 := ha.grown hg2 (sne (by omega))
 have hKP2 := hKP.grown hBW hg2 (fun g hg => by injection hg with hg; exact ⟨by omega, .inr (.inl hg.symm)⟩)
 clear h1 hr hcb ha hKP hg2
 refine hK _ _ hcb2 ?_; clear hK K
 try simp only [g_S, Act.put]
 refine rg_t 3 hcb2 ?_
 simp only [g_S, Act.put]
 refine rg_t 4 hcb2 ?_
 simp only [g_S, Act.put]
 refine rg_one 5 rfl (by kernel_rfl) rfl (fun K hK => ?_)
 refine op_box (g := ab) (j := 1) (v := .int .u64 (T.1 : Int)) (vs := [.int .u64 (T.1 : Int)]) rfl rfl rfl ha2 rfl (by kernel_rfl) (by simp) (by simp; rfl) #[.bool is, .int .u64 (T.1 : Int), .string ⟨#[]⟩, .int .u32 0, .string ⟨#[]⟩, .string ⟨#[]⟩, .slice none 0 0, .int .u8 0, .int .u64 0, .string ⟨#[]⟩, .slice none 0 0, .slice none 0 0] (by simp) ?_
 intro w3 ha3 hg3 _
 have hcb3 := hcb2.grown hg3 (sne (by omega))
 have hr3 := hr2.kept hg3 (fun g hg hFg => by injection hg with hg; subst hg; exact hFa hFg)
 have hKP3 := hKP2.grown hBW hg3 (fun g hg => by injection hg with hg; exact ⟨by omega, .inl hg.symm⟩)
 refine hK _ _ hcb3 ?_; clear hK K
 refine rg_end (by kernel_rfl) ?_
 go_wp2_with (with_reducible refine h_A ?_)
 go_end0
 exact ⟨rfl, hr3, ha3, hKP3⟩
set_option maxRecDepth 20000 in
theorem cl_short {F : Nat → Prop} {W : World} {o vb ab cb B : Nat} {l : List UInt8} (is : Bool) (T : _) (hT : T = mtext l false 1 255) (hr : Rdr F W (.pointer (some ⟨o, 0, none⟩)) (some vb) l false) (hcb : Box W cb 198 #[.pointer (some ⟨ab, 0, none⟩)]) (ha : Box W ab 80 #[.bool is, .int .u64 0, .string ⟨#[]⟩, .int .u32 0, .string ⟨#[]⟩, .string ⟨#[]⟩, .slice none 0 0, .int .u8 0, .int .u64 0, .string ⟨#[]⟩, .slice none 0 0, .slice none 0 0]) (hFa : ¬ F ab) (hvc : vb ≠ cb) (hva : vb ≠ ab) (hca : cb ≠ ab) (hBa : B ≤ ab) (hBv : B ≤ vb) (hBW : B ≤ W.heap.size) :
  Calls Tryz.prog 156 #[.pointer (some ⟨o, 0, none⟩), .pointer (some ⟨cb, 0, none⟩)] W fun e W' => e = .returned (.tuple #[]) ∧ Rdr F W' (.pointer (some ⟨o, 0, none⟩)) (some vb) T.2.1 T.2.2 ∧ Box W' ab 80 #[.bool is, .int .u64 0, .string (str T.1), .int .u32 0, .string ⟨#[]⟩, .string ⟨#[]⟩, .slice none 0 0, .int .u8 0, .int .u64 0, .string ⟨#[]⟩, .slice none 0 0, .slice none 0 0] ∧ KP B ab vb W W' := by
 have h1 := fun W (h : Rdr F W (.pointer (some ⟨o, 0, none⟩)) (some vb) l false) => rdtext_any h 1 255 (by omega) (by omega) (by omega) (by omega)
 rw [← hT] at h1
 clear hT
 have hKP := KP.refl B ab vb W
 go_enter Tryz.func156, Tryz.ntmps156
 go_upto_region 0 with fail
 refine rg_start (fun W : World => Box W cb 198 #[.pointer (some ⟨ab, 0, none⟩)]) (by kernel_rfl) ?_
 replace hcb : Box W.drew cb 198 #[.pointer (some ⟨ab, 0, none⟩)] := hcb
 replace ha : Box W.drew ab 80 #[.bool is, .int .u64 0, .string ⟨#[]⟩, .int .u32 0, .string ⟨#[]⟩, .string ⟨#[]⟩, .slice none 0 0, .int .u8 0, .int .u64 0, .string ⟨#[]⟩, .slice none 0 0, .slice none 0 0] := ha
 replace hr := hr.drew
 replace hKP := hKP.drew
 have h1 := h1 _ hr
 generalize W.drew = wd at *
 refine rg_take 0 (v := ?_) rfl (by kernel_rfl) (by kernel_rfl) (by kernel_rfl) hcb rfl ?_ ?_
 rotate_left
 ·intro wS hSw; have y0 := hSw.cell (j := 0) rfl; go_simp; (with_reducible rfl)
 simp only [List.getElem_toArray, List.getElem_cons_zero, Act.put, List.setIfInBounds_toArray, List.set_cons_zero, List.set_cons_succ]
 refine rg_t 1 hcb ?_
 simp only [g_S, Act.put]
 refine rg_one 2 rfl (by kernel_rfl) rfl (fun K hK => ?_)
 go_simp
 refine h1.mono ?_
 rintro e w2 ⟨rfl, hr2, hg2⟩
 have hcb2 := hcb.grown hg2 (sne (by omega))
 have ha2 := ha.grown hg2 (sne (by omega))
 have hKP2 := hKP.grown hBW hg2 (fun g hg => by injection hg with hg; exact ⟨by omega, .inr (.inl hg.symm)⟩)
 clear h1 hr hcb ha hKP hg2
 refine hK _ _ hcb2 ?_; clear hK K
 try simp only [g_S, Act.put]
 refine rg_t 3 hcb2 ?_
 simp only [g_S, Act.put]
 refine rg_t 4 hcb2 ?_
 simp only [g_S, Act.put]
 refine rg_one 5 rfl (by kernel_rfl) rfl (fun K hK => ?_)
 refine op_box (g := ab) (j := 2) (v := .string (str T.1)) (vs := [.string (str T.1)]) rfl rfl rfl ha2 rfl (by kernel_rfl) (by simp) (by simp; rfl) #[.bool is, .int .u64 0, .string (str T.1), .int .u32 0, .string ⟨#[]⟩, .string ⟨#[]⟩, .slice none 0 0, .int .u8 0, .int .u64 0, .string ⟨#[]⟩, .slice none 0 0, .slice none 0 0] (by simp) ?_
 intro w3 ha3 hg3 _
 have hcb3 := hcb2.grown hg3 (sne (by omega))
 have hr3 := hr2.kept hg3 (fun g hg hFg => by injection hg with hg; subst hg; exact hFa hFg)
 have hKP3 := hKP2.grown hBW hg3 (fun g hg => by injection hg with hg; exact ⟨by omega, .inl hg.symm⟩)
 refine hK _ _ hcb3 ?_; clear hK K
 refine rg_end (by kernel_rfl) ?_
 go_wp2_with (with_reducible refine h_A ?_)
 go_end0
 exact ⟨rfl, hr3, ha3, hKP3⟩
set_option maxRecDepth 20000 in
theorem cl_text {F : Nat → Prop} {W : World} {o vb ab cb B : Nat} {l : List UInt8} (is : Bool) (T : _) (hT : T = mtext l false 2 65535) (hr : Rdr F W (.pointer (some ⟨o, 0, none⟩)) (some vb) l false) (hcb : Box W cb 198 #[.pointer (some ⟨ab, 0, none⟩)]) (ha : Box W ab 80 #[.bool is, .int .u64 0, .string ⟨#[]⟩, .int .u32 0, .string ⟨#[]⟩, .string ⟨#[]⟩, .slice none 0 0, .int .u8 0, .int .u64 0, .string ⟨#[]⟩, .slice none 0 0, .slice none 0 0]) (hFa : ¬ F ab) (hvc : vb ≠ cb) (hva : vb ≠ ab) (hca : cb ≠ ab) (hBa : B ≤ ab) (hBv : B ≤ vb) (hBW : B ≤ W.heap.size) :
  Calls Tryz.prog 158 #[.pointer (some ⟨o, 0, none⟩), .pointer (some ⟨cb, 0, none⟩)] W fun e W' => e = .returned (.tuple #[]) ∧ Rdr F W' (.pointer (some ⟨o, 0, none⟩)) (some vb) T.2.1 T.2.2 ∧ Box W' ab 80 #[.bool is, .int .u64 0, .string (str T.1), .int .u32 0, .string ⟨#[]⟩, .string ⟨#[]⟩, .slice none 0 0, .int .u8 0, .int .u64 0, .string ⟨#[]⟩, .slice none 0 0, .slice none 0 0] ∧ KP B ab vb W W' := by
 have h1 := fun W (h : Rdr F W (.pointer (some ⟨o, 0, none⟩)) (some vb) l false) => rdtext_any h 2 65535 (by omega) (by omega) (by omega) (by omega)
 rw [← hT] at h1
 clear hT
 have hKP := KP.refl B ab vb W
 go_enter Tryz.func158, Tryz.ntmps158
 go_upto_region 0 with fail
 refine rg_start (fun W : World => Box W cb 198 #[.pointer (some ⟨ab, 0, none⟩)]) (by kernel_rfl) ?_
 replace hcb : Box W.drew cb 198 #[.pointer (some ⟨ab, 0, none⟩)] := hcb
 replace ha : Box W.drew ab 80 #[.bool is, .int .u64 0, .string ⟨#[]⟩, .int .u32 0, .string ⟨#[]⟩, .string ⟨#[]⟩, .slice none 0 0, .int .u8 0, .int .u64 0, .string ⟨#[]⟩, .slice none 0 0, .slice none 0 0] := ha
 replace hr := hr.drew
 replace hKP := hKP.drew
 have h1 := h1 _ hr
 generalize W.drew = wd at *
 refine rg_take 0 (v := ?_) rfl (by kernel_rfl) (by kernel_rfl) (by kernel_rfl) hcb rfl ?_ ?_
 rotate_left
 ·intro wS hSw; have y0 := hSw.cell (j := 0) rfl; go_simp; (with_reducible rfl)
 simp only [List.getElem_toArray, List.getElem_cons_zero, Act.put, List.setIfInBounds_toArray, List.set_cons_zero, List.set_cons_succ]
 refine rg_t 1 hcb ?_
 simp only [g_S, Act.put]
 refine rg_one 2 rfl (by kernel_rfl) rfl (fun K hK => ?_)
 go_simp
 refine h1.mono ?_
 rintro e w2 ⟨rfl, hr2, hg2⟩
 have hcb2 := hcb.grown hg2 (sne (by omega))
 have ha2 := ha.grown hg2 (sne (by omega))
 have hKP2 := hKP.grown hBW hg2 (fun g hg => by injection hg with hg; exact ⟨by omega, .inr (.inl hg.symm)⟩)
 clear h1 hr hcb ha hKP hg2
 refine hK _ _ hcb2 ?_; clear hK K
 try simp only [g_S, Act.put]
 refine rg_t 3 hcb2 ?_
 simp only [g_S, Act.put]
 refine rg_t 4 hcb2 ?_
 simp only [g_S, Act.put]
 refine rg_one 5 rfl (by kernel_rfl) rfl (fun K hK => ?_)
 refine op_box (g := ab) (j := 2) (v := .string (str T.1)) (vs := [.string (str T.1)]) rfl rfl rfl ha2 rfl (by kernel_rfl) (by simp) (by simp; rfl) #[.bool is, .int .u64 0, .string (str T.1), .int .u32 0, .string ⟨#[]⟩, .string ⟨#[]⟩, .slice none 0 0, .int .u8 0, .int .u64 0, .string ⟨#[]⟩, .slice none 0 0, .slice none 0 0] (by simp) ?_
 intro w3 ha3 hg3 _
 have hcb3 := hcb2.grown hg3 (sne (by omega))
 have hr3 := hr2.kept hg3 (fun g hg hFg => by injection hg with hg; subst hg; exact hFa hFg)
 have hKP3 := hKP2.grown hBW hg3 (fun g hg => by injection hg with hg; exact ⟨by omega, .inl hg.symm⟩)
 refine hK _ _ hcb3 ?_; clear hK K
 refine rg_end (by kernel_rfl) ?_
 go_wp2_with (with_reducible refine h_A ?_)
 go_end0
 exact ⟨rfl, hr3, ha3, hKP3⟩
end Go.PH
end
section
/- The method reader's readers of bits, numbers and texts: the walks of the program. -/
namespace Go.PH
open Go.RowKit Go.Proofs

theorem OctR.from {w w1 w' : World} {B rb ab : Nat} {l : List UInt8} {bad : Bool} {cells : Array Value} {e : Ending} (h : OctR w1 B rb ab l bad cells e w') (hK : KP B rb ab w w1) : OctR w B rb ab l bad cells e w' := ⟨h.1, h.2.1, h.2.2.1, hK.trans h.2.2.2⟩
set_option maxRecDepth 20000 in
theorem mrd_word {w : World} {B rb ab : Nat} {l : List UInt8} {bad : Bool} (is : Bool) (h : MRd w B rb l bad) (hB : B ≤ rb) (ha : Box w ab 80 #[.bool is, .int .u64 0, .string ⟨#[]⟩, .int .u32 0, .string ⟨#[]⟩, .string ⟨#[]⟩, .slice none 0 0, .int .u8 0, .int .u64 0, .string ⟨#[]⟩, .slice none 0 0, .slice none 0 0]) (hab : B ≤ ab) (hne : ab ≠ rb) (T : _) (hT : T = mnum l false 2) (hTl : T.2.1.length ≤ l.length) :
  Calls Tryz.prog 129 #[.pointer (some ⟨rb, 0, none⟩), .pointer (some ⟨ab, 0, none⟩)] w (OctR w B rb ab (if (bad || T.2.2) = true then l else l.drop (l.length - T.2.1.length)) (bad || T.2.2) #[.bool is, .int .u64 (T.1 : Int), .string ⟨#[]⟩, .int .u32 0, .string ⟨#[]⟩, .string ⟨#[]⟩, .slice none 0 0, .int .u8 0, .int .u64 0, .string ⟨#[]⟩, .slice none 0 0, .slice none 0 0]) := by
 have hmf : ∀ (fn : Fn) (first cap : Array Value) (w : World), (Instr.makeFunc fn first cap).run Tryz.prog w = .ok (.func fn first cap) w := fun _ _ _ _ => rfl
 obtain ⟨cb, w1, hcb, hcv, hC, hB1⟩ := alloc_stepV w #[.pointer (some ⟨ab, 0, none⟩)] 198
 have haw := ha.lt
 have hK := (KP.refl B rb ab w).below (by omega) hB1
 have hcl := hC.lt
 have hoc := octets_any 154 #[.pointer (some ⟨cb, 0, none⟩)] (fun _ _ => rfl) (h.kp ((KP.refl B ab ab w).below (by omega) hB1) (Ne.symm hne) (Ne.symm hne)) hB _ #[.bool is, .int .u64 (T.1 : Int), .string ⟨#[]⟩, .int .u32 0, .string ⟨#[]⟩, .string ⟨#[]⟩, .slice none 0 0, .int .u8 0, .int .u64 0, .string ⟨#[]⟩, .slice none 0 0, .slice none 0 0] (ha.below hB1) hab hne T.2.1 T.2.2 hTl (fun W o vb F hBW hr hF ha => by
  have hv := hF vb (hr.inF rfl)
  exact cl_word is T hT hr (hC.below hBW) ha (fun hFa => by have := (hF ab hFa).1; omega) (by omega) (by omega) (by omega) hab (by omega) (by have := hBW.size; omega))
 obtain ⟨lr, hlr⟩ : ∃ x, x = (if (bad || T.2.2) = true then l else l.drop (l.length - T.2.1.length)) := ⟨_, rfl⟩
 obtain ⟨br, hbr⟩ : ∃ x, x = (bad || T.2.2) := ⟨_, rfl⟩
 rw [← hlr, ← hbr] at hoc ⊢
 clear hlr hbr
 go_enter Tryz.func129, Tryz.ntmps129
 go_upto_region 1 with fail
 rw [← hcb, ← hcv]
 clear hcb hcv
 go_wp2_with (with_reducible refine h_A ?_)
 refine hoc.mono ?_
 rintro e w2 hres
 have hr2 := hres.from hK
 obtain ⟨rfl, _⟩ := hres
 go_wp2_with (with_reducible refine h_A ?_)
 go_end0
 exact hr2
set_option maxRecDepth 20000 in
theorem mrd_short {w : World} {B rb ab : Nat} {l : List UInt8} {bad : Bool} (is : Bool) (h : MRd w B rb l bad) (hB : B ≤ rb) (ha : Box w ab 80 #[.bool is, .int .u64 0, .string ⟨#[]⟩, .int .u32 0, .string ⟨#[]⟩, .string ⟨#[]⟩, .slice none 0 0, .int .u8 0, .int .u64 0, .string ⟨#[]⟩, .slice none 0 0, .slice none 0 0]) (hab : B ≤ ab) (hne : ab ≠ rb) (T : _) (hT : T = mtext l false 1 255) (hTl : T.2.1.length ≤ l.length) :
  Calls Tryz.prog 131 #[.pointer (some ⟨rb, 0, none⟩), .pointer (some ⟨ab, 0, none⟩)] w (OctR w B rb ab (if (bad || T.2.2) = true then l else l.drop (l.length - T.2.1.length)) (bad || T.2.2) #[.bool is, .int .u64 0, .string (str T.1), .int .u32 0, .string ⟨#[]⟩, .string ⟨#[]⟩, .slice none 0 0, .int .u8 0, .int .u64 0, .string ⟨#[]⟩, .slice none 0 0, .slice none 0 0]) := by
 have hmf : ∀ (fn : Fn) (first cap : Array Value) (w : World), (Instr.makeFunc fn first cap).run Tryz.prog w = .ok (.func fn first cap) w := fun _ _ _ _ => rfl
 obtain ⟨cb, w1, hcb, hcv, hC, hB1⟩ := alloc_stepV w #[.pointer (some ⟨ab, 0, none⟩)] 198
 have haw := ha.lt
 have hK := (KP.refl B rb ab w).below (by omega) hB1
 have hcl := hC.lt
 have hoc := octets_any 156 #[.pointer (some ⟨cb, 0, none⟩)] (fun _ _ => rfl) (h.kp ((KP.refl B ab ab w).below (by omega) hB1) (Ne.symm hne) (Ne.symm hne)) hB _ #[.bool is, .int .u64 0, .string (str T.1), .int .u32 0, .string ⟨#[]⟩, .string ⟨#[]⟩, .slice none 0 0, .int .u8 0, .int .u64 0, .string ⟨#[]⟩, .slice none 0 0, .slice none 0 0] (ha.below hB1) hab hne T.2.1 T.2.2 hTl (fun W o vb F hBW hr hF ha => by
  have hv := hF vb (hr.inF rfl)
  exact cl_short is T hT hr (hC.below hBW) ha (fun hFa => by have := (hF ab hFa).1; omega) (by omega) (by omega) (by omega) hab (by omega) (by have := hBW.size; omega))
 obtain ⟨lr, hlr⟩ : ∃ x, x = (if (bad || T.2.2) = true then l else l.drop (l.length - T.2.1.length)) := ⟨_, rfl⟩
 obtain ⟨br, hbr⟩ : ∃ x, x = (bad || T.2.2) := ⟨_, rfl⟩
 rw [← hlr, ← hbr] at hoc ⊢
 clear hlr hbr
 go_enter Tryz.func131, Tryz.ntmps131
 go_upto_region 1 with fail
 rw [← hcb, ← hcv]
 clear hcb hcv
 go_wp2_with (with_reducible refine h_A ?_)
 refine hoc.mono ?_
 rintro e w2 hres
 have hr2 := hres.from hK
 obtain ⟨rfl, _⟩ := hres
 go_wp2_with (with_reducible refine h_A ?_)
 go_end0
 exact hr2
set_option maxRecDepth 20000 in
theorem mrd_text {w : World} {B rb ab : Nat} {l : List UInt8} {bad : Bool} (is : Bool) (h : MRd w B rb l bad) (hB : B ≤ rb) (ha : Box w ab 80 #[.bool is, .int .u64 0, .string ⟨#[]⟩, .int .u32 0, .string ⟨#[]⟩, .string ⟨#[]⟩, .slice none 0 0, .int .u8 0, .int .u64 0, .string ⟨#[]⟩, .slice none 0 0, .slice none 0 0]) (hab : B ≤ ab) (hne : ab ≠ rb) (T : _) (hT : T = mtext l false 2 65535) (hTl : T.2.1.length ≤ l.length) :
  Calls Tryz.prog 132 #[.pointer (some ⟨rb, 0, none⟩), .pointer (some ⟨ab, 0, none⟩)] w (OctR w B rb ab (if (bad || T.2.2) = true then l else l.drop (l.length - T.2.1.length)) (bad || T.2.2) #[.bool is, .int .u64 0, .string (str T.1), .int .u32 0, .string ⟨#[]⟩, .string ⟨#[]⟩, .slice none 0 0, .int .u8 0, .int .u64 0, .string ⟨#[]⟩, .slice none 0 0, .slice none 0 0]) := by
 have hmf : ∀ (fn : Fn) (first cap : Array Value) (w : World), (Instr.makeFunc fn first cap).run Tryz.prog w = .ok (.func fn first cap) w := fun _ _ _ _ => rfl
 obtain ⟨cb, w1, hcb, hcv, hC, hB1⟩ := alloc_stepV w #[.pointer (some ⟨ab, 0, none⟩)] 198
 have haw := ha.lt
 have hK := (KP.refl B rb ab w).below (by omega) hB1
 have hcl := hC.lt
 have hoc := octets_any 158 #[.pointer (some ⟨cb, 0, none⟩)] (fun _ _ => rfl) (h.kp ((KP.refl B ab ab w).below (by omega) hB1) (Ne.symm hne) (Ne.symm hne)) hB _ #[.bool is, .int .u64 0, .string (str T.1), .int .u32 0, .string ⟨#[]⟩, .string ⟨#[]⟩, .slice none 0 0, .int .u8 0, .int .u64 0, .string ⟨#[]⟩, .slice none 0 0, .slice none 0 0] (ha.below hB1) hab hne T.2.1 T.2.2 hTl (fun W o vb F hBW hr hF ha => by
  have hv := hF vb (hr.inF rfl)
  exact cl_text is T hT hr (hC.below hBW) ha (fun hFa => by have := (hF ab hFa).1; omega) (by omega) (by omega) (by omega) hab (by omega) (by have := hBW.size; omega))
 obtain ⟨lr, hlr⟩ : ∃ x, x = (if (bad || T.2.2) = true then l else l.drop (l.length - T.2.1.length)) := ⟨_, rfl⟩
 obtain ⟨br, hbr⟩ : ∃ x, x = (bad || T.2.2) := ⟨_, rfl⟩
 rw [← hlr, ← hbr] at hoc ⊢
 clear hlr hbr
 go_enter Tryz.func132, Tryz.ntmps132
 go_upto_region 1 with fail
 rw [← hcb, ← hcv]
 clear hcb hcv
 go_wp2_with (with_reducible refine h_A ?_)
 refine hoc.mono ?_
 rintro e w2 hres
 have hr2 := hres.from hK
 obtain ⟨rfl, _⟩ := hres
 go_wp2_with (with_reducible refine h_A ?_)
 go_end0
 exact hr2
end Go.PH
end
section
/- The method reader's readers of names, sets and values: the walks of the program. -/
namespace Go.PH
open Go.RowKit Go.Proofs

end Go.PH
end
section
/- The method reader's reader of sets: the walk of the program. -/
namespace Go.PH
open Go.RowKit Go.Proofs

end Go.PH
end
section
/- What each of the method reader's readers answers, in one form. -/
namespace Go.PH
open Go.RowKit Go.Proofs

/-- an argument was read -/
def ArgRd (w : World) (B rb ab : Nat) (kd : UInt8) (is : Bool) (l : List UInt8) (bad : Bool) (e : Ending) (w' : World) : Prop := ∃ (a : Ag) (h : AH) (l' : List UInt8) (bad' : Bool), e = .returned (.tuple #[]) ∧ Box w' ab 80 (agV a h) ∧ RA w' (FN w.heap.size w') a h ∧ MRd w' B rb l' bad' ∧ KP B rb ab w w' ∧ a.is = is ∧
 ∀ (a' : Ag) (rest : List UInt8), bad = false → l = byA kd a' ++ rest → okA kd a' = true → AB a' → a'.is = is → a = a' ∧ l' = rest ∧ bad' = false
theorem drop_back (X rest : List UInt8) : (X ++ rest).drop ((X ++ rest).length - rest.length) = rest := by
 rw [List.length_append, Nat.add_sub_cancel, List.drop_left]
theorem num_arg {w w' : World} {B rb ab : Nat} {is : Bool} {l : List UInt8} {bad : Bool} {e : Ending} (kd : UInt8) (k : Nat) (hk : k = 1 ∨ k = 2 ∨ k = 4) (hby : ∀ a, byA kd a = be k a.n) (hok : ∀ a, okA kd a = true → a.n < 256 ^ k ∧ sameA a (agN a) = true)
  (h : OctR w B rb ab (if (bad || (mnum l false (k : Int)).2.2) = true then l else l.drop (l.length - (mnum l false (k : Int)).2.1.length)) (bad || (mnum l false (k : Int)).2.2) #[.bool is, .int .u64 ((mnum l false (k : Int)).1 : Int), .string ⟨#[]⟩, .int .u32 0, .string ⟨#[]⟩, .string ⟨#[]⟩, .slice none 0 0, .int .u8 0, .int .u64 0, .string ⟨#[]⟩, .slice none 0 0, .slice none 0 0] e w') : ArgRd w B rb ab kd is l bad e w' := by
 obtain ⟨rfl, hb, hm, hK⟩ := h
 refine ⟨⟨is, (mnum l false (k : Int)).1, [], xd0, [], vl0⟩, ah0, _, _, rfl, hb, ?_, hm, hK, rfl, ?_⟩
 ·have hz := RA.zero w' (FN w.heap.size w') is
  exact ⟨mnum_lt l false k, hz.s, hz.x, hz.q, hz.ok, hz.c, hz.v⟩
 ·intro a' rest hbad hl hka _ his
  obtain ⟨h1, h2⟩ := hok a' hka
  rw [hby] at hl
  have e1 := mnum_at k (by omega) a'.n h1 rest
  subst hl hbad
  rw [e1]
  have e2 : a' = agN a' := (sameA_iff _ _).1 h2
  have e3 : a'.is = true := by rw [e2]; rfl
  refine ⟨?_, by simp, rfl⟩
  rw [e2]
  simp only [agN]
  rw [← his, e3]
theorem txt_arg {w w' : World} {B rb ab : Nat} {is : Bool} {l : List UInt8} {bad : Bool} {e : Ending} (kd : UInt8) (k : Nat) (hk : k = 1 ∨ k = 2) (most : Nat) (hms : 256 ^ k ≤ most + 1) (hmx : most ≤ 65535) (hby : ∀ a, byA kd a = putsText [] a.s (k : Int)) (hok : ∀ a, okA kd a = true → textErr a.s.length (k : Int) = 0 ∧ sameA a (agS a) = true)
  (h : OctR w B rb ab (if (bad || (mtext l false (k : Int) (most : Int)).2.2) = true then l else l.drop (l.length - (mtext l false (k : Int) (most : Int)).2.1.length)) (bad || (mtext l false (k : Int) (most : Int)).2.2) #[.bool is, .int .u64 0, .string (str (mtext l false (k : Int) (most : Int)).1), .int .u32 0, .string ⟨#[]⟩, .string ⟨#[]⟩, .slice none 0 0, .int .u8 0, .int .u64 0, .string ⟨#[]⟩, .slice none 0 0, .slice none 0 0] e w') : ArgRd w B rb ab kd is l bad e w' := by
 obtain ⟨rfl, hb, hm, hK⟩ := h
 refine ⟨⟨is, 0, (mtext l false (k : Int) (most : Int)).1, xd0, [], vl0⟩, ah0, _, _, rfl, hb, ?_, hm, hK, rfl, ?_⟩
 ·have hz := RA.zero w' (FN w.heap.size w') is
  exact ⟨hz.n, by have := mtext_slen l false k most; show (mtext l false (k : Int) (most : Int)).1.length ≤ _; omega, hz.x, hz.q, hz.ok, hz.c, hz.v⟩
 ·intro a' rest hbad hl hka _ his
  obtain ⟨h1, h2⟩ := hok a' hka
  obtain ⟨h3, h4⟩ := text_ok hk h1
  rw [hby, h4] at hl
  have e1 := mtext_app2 k (by omega) a'.s rest most h3 (by omega)
  subst hl hbad
  rw [e1]
  have e2 : a' = agS a' := (sameA_iff _ _).1 h2
  have e3 : a'.is = true := by rw [e2]; rfl
  refine ⟨?_, (by rw [if_neg (by simp)]; exact drop_back _ _), rfl⟩
  rw [e2]
  simp only [agS]
  rw [← his, e3]
end Go.PH
end

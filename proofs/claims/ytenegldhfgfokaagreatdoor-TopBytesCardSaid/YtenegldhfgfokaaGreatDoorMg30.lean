/- Texts laid together: MdOctets, MdRd1. -/
import Derived.Test.YtenegldhfgfokaaGreatDoorMg08
import Derived.Test.YtenegldhfgfokaaGreatDoorMg22
import Derived.Test.YtenegldhfgfokaaGreatDoorMg29
set_option linter.all false
set_option linter.unusedSimpArgs false
set_option linter.unusedVariables false
section
/- The method reader's octets: the walk of the program. -/
namespace Go.PH
open Go.RowKit Go.Proofs

theorem KP.wide {B rb ab vb : Nat} {w W W' : World} (h : KP B rb ab w W) (k : KP B ab vb W W') (hv : w.heap.size ≤ vb) : KP B rb ab w W' :=
 ⟨h.1.trans k.1, fun g hg h1 h2 => (k.2 g (Nat.lt_of_lt_of_le hg h.size) h2 (by omega)).trans (h.2 g hg h1 h2)⟩
def OctR (w : World) (B rb ab : Nat) (l : List UInt8) (bad : Bool) (cells : Array Value) (e : Ending) (w' : World) : Prop := e = .returned (.tuple #[]) ∧ Box w' ab 71 cells ∧ MRd w' B rb l bad ∧ KP B rb ab w w'
set_option maxRecDepth 20000 in
set_option maxHeartbeats 2000000 in
theorem octets_any (Fn : FuncId) (cap : Array Value) (hcf : ∀ (args : Array Value) (w : World), (callFunc Fn args).run Tryz.prog w = .ok (.enter Fn args) w) {w : World} {B rb ab : Nat} {l : List UInt8} {bad : Bool} (h : MRd w B rb l bad) (hB : B ≤ rb) (cells cells' : Array Value) (ha : Box w ab 71 cells) (hab : B ≤ ab) (hne : ab ≠ rb) (l2 : List UInt8) (b2 : Bool) (hl2 : l2.length ≤ l.length)
  (hcl : ∀ (W : World) (o vb : Nat) (F : Nat → Prop), Below w.heap.size w W → Rdr F W (.pointer (some ⟨o, 0, none⟩)) (some vb) l false → (∀ g, F g → w.heap.size ≤ g ∧ g < W.heap.size) → Box W ab 71 cells →
   Calls Tryz.prog Fn (#[.pointer (some ⟨o, 0, none⟩)] ++ cap) W fun e W' => e = .returned (.tuple #[]) ∧ Rdr F W' (.pointer (some ⟨o, 0, none⟩)) (some vb) l2 b2 ∧ Box W' ab 71 cells' ∧ KP B ab vb W W') :
  Calls Tryz.prog 74 #[.pointer (some ⟨rb, 0, none⟩), .func (.func Fn) #[] cap] w (OctR w B rb ab (if (bad || b2) = true then l else l.drop (l.length - l2.length)) (bad || b2) cells') := by
 obtain ⟨lr, hlr⟩ : ∃ x, x = (if (bad || b2) = true then l else l.drop (l.length - l2.length)) := ⟨_, rfl⟩
 obtain ⟨br, hbr⟩ : ∃ x, x = (bad || b2) := ⟨_, rfl⟩
 rw [← hlr, ← hbr]
 have HLR := Lib.hid hlr
 have HBR := Lib.hid hbr
 clear hlr hbr
 obtain ⟨A, n, c, hbx, hr, hn⟩ := h
 have hln : l.length = n := RdB.length hr
 have hbw := hbx.lt
 have haw := ha.lt
 have hBw : B ≤ w.heap.size := by omega
 have hopen := rdopen_any A n c l w (rd_wide hr hBw) (by omega)
 have c0 := hbx.c0
 have HCL := Lib.hid hcl
 clear hcl
 go_enter Tryz.func74, Tryz.ntmps74
 go_wp2_with (with_reducible refine h_A ?_)
 refine hopen.mono ?_
 rintro e w2 ⟨o, vb, rfl, ho, hv, hrd, hB2⟩
 have ha2 := ha.below hB2
 have hb2 := hbx.below hB2
 have hr2 := hr.below (hB2.mono hBw)
 have hK2 := (KP.refl B rb ab w).below hBw hB2
 have hvw := hrd.inF rfl
 have hc2 := HCL.out w2 o vb _ hB2 hrd (fun g hg => hg) ha2
 clear hopen c0 HCL ha hbx hr
 go_wp2_with (with_reducible refine h_A ?_)
 refine hc2.mono ?_
 rintro e w3 ⟨rfl, hrd3, ha3, hK3⟩
 have hb3 := hK3.box hb2 (Ne.symm hne) (by omega)
 have hr3 := hr2.below hK3.1
 have hK := hK2.wide hK3 hv
 clear hc2 hb2 hr2 ha2 hK3 hK2
 have c1 := hb3.c1
 have hbl := hb3.lt
 go_upto_region 2 with fail
 cases bad
 ·have hbd := rdbad_any hrd3
  cases b2
  ·go_wp2_with (with_reducible refine h_B ?_)
   refine hbd.mono ?_
   rintro e w4 ⟨rfl, rfl⟩
   clear hbd
   go_wp2_with (with_reducible refine h_B ?_)
   refine unhold (wp_box (v := .bool false) (vs := [.bool false]) rfl rfl rfl rfl hb3 rfl (by kernel_rfl) (by simp) (by simp; rfl) #[.slice A n c, .bool false] (by simp) ?_)
   intro w5 hb5 hg5 _
   have ha5 := ha3.grown hg5 (sne (by omega))
   have hr5 := hr3.grown hg5 (by omega) (fun g hg => by injection hg with hg; omega)
   have hrd5 := hrd3.kept hg5 (fun g hg hFg => by injection hg with hg; have := hFg.1; omega)
   have hK5 := hK.grown hBw hg5 (fun g hg => by injection hg with hg; exact ⟨by omega, .inl hg.symm⟩)
   clear hb3 ha3 hr3 hrd3 hK hg5 c1
   go_upto_region 3 with fail
   refine rg_start (fun _ : World => True) (by kernel_rfl) ?_
   replace hb5 : Box w5.drew rb 94 #[.slice A n c, .bool false] := hb5
   replace ha5 : Box w5.drew ab 71 cells' := ha5
   replace hr5 : RdB w5.drew B A n c l := hr5.drew
   replace hrd5 := hrd5.drew
   replace hK5 := hK5.drew
   have hsub : IntKind.i64.wrap ((n : Int) - (l2.length : Int)) = ((n - l2.length : Nat) : Int) := by rw [IntWalk.i64_in _ ⟨by omega, by omega⟩]; omega
   generalize w5.drew = wd at *
   refine rg_t 0 trivial ?_
   simp only [List.getElem_toArray, List.getElem_cons_zero, Act.put, List.setIfInBounds_toArray, List.set_cons_zero, List.set_cons_succ]
   refine rg_t 1 trivial ?_
   simp only [g_S, Act.put]
   refine rg_t 2 trivial ?_
   simp only [g_S, Act.put]
   refine rg_t 3 trivial ?_
   simp only [g_S, Act.put]
   refine rg_t 6 trivial ?_
   simp only [g_S, Act.put]
   have y0 := hb5.c0
   have hr6 : MRd wd B rb l false := ⟨A, n, c, hb5, hr5, hn⟩
   have hlf := rdleft_any hrd5
   have htk := mtk_ok hr6 hB (n - l2.length) (by omega)
   refine rg_two 4 7 rfl rfl (by kernel_rfl) rfl rfl (fun K hK => ?_) (fun K hK => ?_)
   ·go_simp
    refine hK _ _ trivial ?_; clear hK K
    clear y0
    try simp only [g_S, Act.put]
    refine rg_t 5 trivial ?_
    simp only [g_S, Act.put]
    refine rg_one 7 rfl (by kernel_rfl) rfl (fun K hK => ?_)
    go_simp
    refine hlf.mono ?_
    rintro e w6 ⟨rfl, rfl⟩
    refine hK _ _ trivial ?_; clear hK K
    try simp only [g_S, Act.put]
    refine rg_t 8 trivial ?_
    simp only [g_S, Act.put]
    refine rg_one 9 rfl (by kernel_rfl) rfl (fun K hK => ?_)
    go_simp
    refine htk.mono ?_
    rintro e w7 ⟨rfl, hM7, hg7⟩
    have ha7 := ha5.grown hg7 (sne (by omega))
    have hK7 := hK5.grown hBw hg7 (fun g hg => by injection hg with hg; exact ⟨by omega, .inl hg.symm⟩)
    refine hK _ _ trivial ?_; clear hK K
    refine rg_end (by kernel_rfl) ?_
    go_wp2_with (with_reducible refine h_A ?_)
    go_end0
    rw [HLR.out, HBR.out]
    exact ⟨rfl, ha7, by simpa [hln] using hM7, hK7⟩
   ·go_simp
    refine hlf.mono ?_
    rintro e w6 ⟨rfl, rfl⟩
    refine hK _ _ trivial ?_; clear hK K
    try simp only [g_S, Act.put]
    refine rg_one 4 rfl (by kernel_rfl) rfl (fun K hK => ?_)
    go_simp
    refine hK _ _ trivial ?_; clear hK K
    clear y0
    try simp only [g_S, Act.put]
    refine rg_t 5 trivial ?_
    simp only [g_S, Act.put]
    refine rg_t 8 trivial ?_
    simp only [g_S, Act.put]
    refine rg_one 9 rfl (by kernel_rfl) rfl (fun K hK => ?_)
    go_simp
    refine htk.mono ?_
    rintro e w7 ⟨rfl, hM7, hg7⟩
    have ha7 := ha5.grown hg7 (sne (by omega))
    have hK7 := hK5.grown hBw hg7 (fun g hg => by injection hg with hg; exact ⟨by omega, .inl hg.symm⟩)
    refine hK _ _ trivial ?_; clear hK K
    refine rg_end (by kernel_rfl) ?_
    go_wp2_with (with_reducible refine h_A ?_)
    go_end0
    rw [HLR.out, HBR.out]
    exact ⟨rfl, ha7, by simpa [hln] using hM7, hK7⟩
  ·go_wp2_with (with_reducible refine h_B ?_)
   refine hbd.mono ?_
   rintro e w4 ⟨rfl, rfl⟩
   clear hbd
   go_wp2_with (with_reducible refine h_B ?_)
   refine unhold (wp_box (v := .bool true) (vs := [.bool true]) rfl rfl rfl rfl hb3 rfl (by kernel_rfl) (by simp) (by simp; rfl) #[.slice A n c, .bool true] (by simp) ?_)
   intro w5 hb5 hg5 _
   have ha5 := ha3.grown hg5 (sne (by omega))
   have hr5 := hr3.grown hg5 (by omega) (fun g hg => by injection hg with hg; omega)
   have hrd5 := hrd3.kept hg5 (fun g hg hFg => by injection hg with hg; have := hFg.1; omega)
   have hK5 := hK.grown hBw hg5 (fun g hg => by injection hg with hg; exact ⟨by omega, .inl hg.symm⟩)
   clear hb3 ha3 hr3 hrd3 hK hg5 c1
   go_upto_region 3 with fail
   refine rg_start (fun _ : World => True) (by kernel_rfl) ?_
   replace hb5 : Box w5.drew rb 94 #[.slice A n c, .bool true] := hb5
   replace ha5 : Box w5.drew ab 71 cells' := ha5
   replace hr5 : RdB w5.drew B A n c l := hr5.drew
   replace hrd5 := hrd5.drew
   replace hK5 := hK5.drew
   have hsub : IntKind.i64.wrap ((n : Int) - (l2.length : Int)) = ((n - l2.length : Nat) : Int) := by rw [IntWalk.i64_in _ ⟨by omega, by omega⟩]; omega
   generalize w5.drew = wd at *
   refine rg_t 0 trivial ?_
   simp only [List.getElem_toArray, List.getElem_cons_zero, Act.put, List.setIfInBounds_toArray, List.set_cons_zero, List.set_cons_succ]
   refine rg_t 1 trivial ?_
   simp only [g_S, Act.put]
   refine rg_t 2 trivial ?_
   simp only [g_S, Act.put]
   refine rg_t 3 trivial ?_
   simp only [g_S, Act.put]
   refine rg_t 6 trivial ?_
   simp only [g_S, Act.put]
   have y0 := hb5.c0
   have hr6 : MRd wd B rb l true := ⟨A, n, c, hb5, hr5, hn⟩
   have hlf := rdleft_any hrd5
   have htk := mtk_bad hr6 hB ((n - l2.length : Nat) : Int) 0 (.inl rfl)
   refine rg_two 4 7 rfl rfl (by kernel_rfl) rfl rfl (fun K hK => ?_) (fun K hK => ?_)
   ·go_simp
    refine hK _ _ trivial ?_; clear hK K
    clear y0
    try simp only [g_S, Act.put]
    refine rg_t 5 trivial ?_
    simp only [g_S, Act.put]
    refine rg_one 7 rfl (by kernel_rfl) rfl (fun K hK => ?_)
    go_simp
    refine hlf.mono ?_
    rintro e w6 ⟨rfl, rfl⟩
    refine hK _ _ trivial ?_; clear hK K
    try simp only [g_S, Act.put]
    refine rg_t 8 trivial ?_
    simp only [g_S, Act.put]
    refine rg_one 9 rfl (by kernel_rfl) rfl (fun K hK => ?_)
    go_simp
    refine htk.mono ?_
    rintro e w7 ⟨rfl, hM7, hg7⟩
    have ha7 := ha5.grown hg7 (sne (by omega))
    have hK7 := hK5.grown hBw hg7 (fun g hg => by injection hg with hg; exact ⟨by omega, .inl hg.symm⟩)
    refine hK _ _ trivial ?_; clear hK K
    refine rg_end (by kernel_rfl) ?_
    go_wp2_with (with_reducible refine h_A ?_)
    go_end0
    rw [HLR.out, HBR.out]
    exact ⟨rfl, ha7, by simpa [hln] using hM7, hK7⟩
   ·go_simp
    refine hlf.mono ?_
    rintro e w6 ⟨rfl, rfl⟩
    refine hK _ _ trivial ?_; clear hK K
    try simp only [g_S, Act.put]
    refine rg_one 4 rfl (by kernel_rfl) rfl (fun K hK => ?_)
    go_simp
    refine hK _ _ trivial ?_; clear hK K
    clear y0
    try simp only [g_S, Act.put]
    refine rg_t 5 trivial ?_
    simp only [g_S, Act.put]
    refine rg_t 8 trivial ?_
    simp only [g_S, Act.put]
    refine rg_one 9 rfl (by kernel_rfl) rfl (fun K hK => ?_)
    go_simp
    refine htk.mono ?_
    rintro e w7 ⟨rfl, hM7, hg7⟩
    have ha7 := ha5.grown hg7 (sne (by omega))
    have hK7 := hK5.grown hBw hg7 (fun g hg => by injection hg with hg; exact ⟨by omega, .inl hg.symm⟩)
    refine hK _ _ trivial ?_; clear hK K
    refine rg_end (by kernel_rfl) ?_
    go_wp2_with (with_reducible refine h_A ?_)
    go_end0
    rw [HLR.out, HBR.out]
    exact ⟨rfl, ha7, by simpa [hln] using hM7, hK7⟩
 ·go_wp2_with (with_reducible refine h_B ?_)
  refine unhold (wp_box (v := .bool true) (vs := [.bool true]) rfl rfl rfl rfl hb3 rfl (by kernel_rfl) (by simp) (by simp; rfl) #[.slice A n c, .bool true] (by simp) ?_)
  intro w5 hb5 hg5 _
  have ha5 := ha3.grown hg5 (sne (by omega))
  have hr5 := hr3.grown hg5 (by omega) (fun g hg => by injection hg with hg; omega)
  have hrd5 := hrd3.kept hg5 (fun g hg hFg => by injection hg with hg; have := hFg.1; omega)
  have hK5 := hK.grown hBw hg5 (fun g hg => by injection hg with hg; exact ⟨by omega, .inl hg.symm⟩)
  clear hb3 ha3 hr3 hrd3 hK hg5 c1
  go_upto_region 3 with fail
  refine rg_start (fun _ : World => True) (by kernel_rfl) ?_
  replace hb5 : Box w5.drew rb 94 #[.slice A n c, .bool true] := hb5
  replace ha5 : Box w5.drew ab 71 cells' := ha5
  replace hr5 : RdB w5.drew B A n c l := hr5.drew
  replace hrd5 := hrd5.drew
  replace hK5 := hK5.drew
  have hsub : IntKind.i64.wrap ((n : Int) - (l2.length : Int)) = ((n - l2.length : Nat) : Int) := by rw [IntWalk.i64_in _ ⟨by omega, by omega⟩]; omega
  generalize w5.drew = wd at *
  refine rg_t 0 trivial ?_
  simp only [List.getElem_toArray, List.getElem_cons_zero, Act.put, List.setIfInBounds_toArray, List.set_cons_zero, List.set_cons_succ]
  refine rg_t 1 trivial ?_
  simp only [g_S, Act.put]
  refine rg_t 2 trivial ?_
  simp only [g_S, Act.put]
  refine rg_t 3 trivial ?_
  simp only [g_S, Act.put]
  refine rg_t 6 trivial ?_
  simp only [g_S, Act.put]
  have y0 := hb5.c0
  have hr6 : MRd wd B rb l true := ⟨A, n, c, hb5, hr5, hn⟩
  have hlf := rdleft_any hrd5
  have htk := mtk_bad hr6 hB ((n - l2.length : Nat) : Int) 0 (.inl rfl)
  refine rg_two 4 7 rfl rfl (by kernel_rfl) rfl rfl (fun K hK => ?_) (fun K hK => ?_)
  ·go_simp
   refine hK _ _ trivial ?_; clear hK K
   clear y0
   try simp only [g_S, Act.put]
   refine rg_t 5 trivial ?_
   simp only [g_S, Act.put]
   refine rg_one 7 rfl (by kernel_rfl) rfl (fun K hK => ?_)
   go_simp
   refine hlf.mono ?_
   rintro e w6 ⟨rfl, rfl⟩
   refine hK _ _ trivial ?_; clear hK K
   try simp only [g_S, Act.put]
   refine rg_t 8 trivial ?_
   simp only [g_S, Act.put]
   refine rg_one 9 rfl (by kernel_rfl) rfl (fun K hK => ?_)
   go_simp
   refine htk.mono ?_
   rintro e w7 ⟨rfl, hM7, hg7⟩
   have ha7 := ha5.grown hg7 (sne (by omega))
   have hK7 := hK5.grown hBw hg7 (fun g hg => by injection hg with hg; exact ⟨by omega, .inl hg.symm⟩)
   refine hK _ _ trivial ?_; clear hK K
   refine rg_end (by kernel_rfl) ?_
   go_wp2_with (with_reducible refine h_A ?_)
   go_end0
   rw [HLR.out, HBR.out]
   exact ⟨rfl, ha7, by simpa [hln] using hM7, hK7⟩
  ·go_simp
   refine hlf.mono ?_
   rintro e w6 ⟨rfl, rfl⟩
   refine hK _ _ trivial ?_; clear hK K
   try simp only [g_S, Act.put]
   refine rg_one 4 rfl (by kernel_rfl) rfl (fun K hK => ?_)
   go_simp
   refine hK _ _ trivial ?_; clear hK K
   clear y0
   try simp only [g_S, Act.put]
   refine rg_t 5 trivial ?_
   simp only [g_S, Act.put]
   refine rg_t 8 trivial ?_
   simp only [g_S, Act.put]
   refine rg_one 9 rfl (by kernel_rfl) rfl (fun K hK => ?_)
   go_simp
   refine htk.mono ?_
   rintro e w7 ⟨rfl, hM7, hg7⟩
   have ha7 := ha5.grown hg7 (sne (by omega))
   have hK7 := hK5.grown hBw hg7 (fun g hg => by injection hg with hg; exact ⟨by omega, .inl hg.symm⟩)
   refine hK _ _ trivial ?_; clear hK K
   refine rg_end (by kernel_rfl) ?_
   go_wp2_with (with_reducible refine h_A ?_)
   go_end0
   rw [HLR.out, HBR.out]
   exact ⟨rfl, ha7, by simpa [hln] using hM7, hK7⟩
end Go.PH
end
section
/- The method reader's readers of numbers and texts: the walks of the program. -/
namespace Go.PH
open Go.RowKit Go.Proofs

set_option maxRecDepth 20000 in
theorem cl_byte {F : Nat → Prop} {W : World} {o vb ab cb B : Nat} {l : List UInt8} (is : Bool) (T : _) (hT : T = mnum l false 1) (hr : Rdr F W (.pointer (some ⟨o, 0, none⟩)) (some vb) l false) (hcb : Box W cb 98 #[.pointer (some ⟨ab, 0, none⟩)]) (ha : Box W ab 71 #[.bool is, .int .u64 0, .string ⟨#[]⟩, .int .u32 0, .string ⟨#[]⟩, .string ⟨#[]⟩, .slice none 0 0, .int .u8 0, .int .u64 0, .string ⟨#[]⟩, .slice none 0 0, .slice none 0 0]) (hFa : ¬ F ab) (hvc : vb ≠ cb) (hva : vb ≠ ab) (hca : cb ≠ ab) (hBa : B ≤ ab) (hBv : B ≤ vb) (hBW : B ≤ W.heap.size) :
  Calls Tryz.prog 75 #[.pointer (some ⟨o, 0, none⟩), .pointer (some ⟨cb, 0, none⟩)] W fun e W' => e = .returned (.tuple #[]) ∧ Rdr F W' (.pointer (some ⟨o, 0, none⟩)) (some vb) T.2.1 T.2.2 ∧ Box W' ab 71 #[.bool is, .int .u64 (T.1 : Int), .string ⟨#[]⟩, .int .u32 0, .string ⟨#[]⟩, .string ⟨#[]⟩, .slice none 0 0, .int .u8 0, .int .u64 0, .string ⟨#[]⟩, .slice none 0 0, .slice none 0 0] ∧ KP B ab vb W W' := by
 have h1 := fun W (h : Rdr F W (.pointer (some ⟨o, 0, none⟩)) (some vb) l false) => rdnum_any h 1 (by omega) (by omega)
 rw [← hT] at h1
 clear hT
 have hKP := KP.refl B ab vb W
 go_enter Tryz.func75, Tryz.ntmps75
 go_upto_region 0 with fail
 refine rg_start (fun W : World => Box W cb 98 #[.pointer (some ⟨ab, 0, none⟩)]) (by kernel_rfl) ?_
 replace hcb : Box W.drew cb 98 #[.pointer (some ⟨ab, 0, none⟩)] := hcb
 replace ha : Box W.drew ab 71 #[.bool is, .int .u64 0, .string ⟨#[]⟩, .int .u32 0, .string ⟨#[]⟩, .string ⟨#[]⟩, .slice none 0 0, .int .u8 0, .int .u64 0, .string ⟨#[]⟩, .slice none 0 0, .slice none 0 0] := ha
 replace hr := hr.drew
 replace hKP := hKP.drew
 have h1 := h1 _ hr
 generalize W.drew = wd at *
 refine rg_take 0 (v := ?_) rfl (by kernel_rfl) (by kernel_rfl) (by kernel_rfl) hcb rfl ?_ ?_
 rotate_left
 ·intro wS hSw; have y0 := hSw.cell (j := 0) rfl; go_simp; (with_reducible rfl)
 simp only [List.getElem_toArray, List.getElem_cons_zero, Act.put, List.setIfInBounds_toArray, List.set_cons_zero, List.set_cons_succ]
 refine rg_t 1 hcb ?_
 simp only [g_S, Act.put]
 refine rg_one 2 rfl (by kernel_rfl) rfl (fun K hK => ?_)
 go_simp
 refine h1.mono ?_
 rintro e w2 ⟨rfl, hr2, hg2⟩
 have hcb2 := hcb.grown hg2 (sne (by omega))
 have ha2 := ha.grown hg2 (sne (by omega))
 have hKP2 := hKP.grown hBW hg2 (fun g hg => by injection hg with hg; exact ⟨by omega, .inr (.inl hg.symm)⟩)
 clear h1 hr hcb ha hKP hg2
 refine hK _ _ hcb2 ?_; clear hK K
 try simp only [g_S, Act.put]
 refine rg_t 3 hcb2 ?_
 simp only [g_S, Act.put]
 refine rg_t 4 hcb2 ?_
 simp only [g_S, Act.put]
 refine rg_one 5 rfl (by kernel_rfl) rfl (fun K hK => ?_)
 refine op_box (g := ab) (j := 1) (v := .int .u64 (T.1 : Int)) (vs := [.int .u64 (T.1 : Int)]) rfl rfl rfl ha2 rfl (by kernel_rfl) (by simp) (by simp; rfl) #[.bool is, .int .u64 (T.1 : Int), .string ⟨#[]⟩, .int .u32 0, .string ⟨#[]⟩, .string ⟨#[]⟩, .slice none 0 0, .int .u8 0, .int .u64 0, .string ⟨#[]⟩, .slice none 0 0, .slice none 0 0] (by simp) ?_
 intro w3 ha3 hg3 _
 have hcb3 := hcb2.grown hg3 (sne (by omega))
 have hr3 := hr2.kept hg3 (fun g hg hFg => by injection hg with hg; subst hg; exact hFa hFg)
 have hKP3 := hKP2.grown hBW hg3 (fun g hg => by injection hg with hg; exact ⟨by omega, .inl hg.symm⟩)
 refine hK _ _ hcb3 ?_; clear hK K
 refine rg_end (by kernel_rfl) ?_
 go_wp2_with (with_reducible refine h_A ?_)
 go_end0
 exact ⟨rfl, hr3, ha3, hKP3⟩
set_option maxRecDepth 20000 in
theorem cl_word {F : Nat → Prop} {W : World} {o vb ab cb B : Nat} {l : List UInt8} (is : Bool) (T : _) (hT : T = mnum l false 2) (hr : Rdr F W (.pointer (some ⟨o, 0, none⟩)) (some vb) l false) (hcb : Box W cb 98 #[.pointer (some ⟨ab, 0, none⟩)]) (ha : Box W ab 71 #[.bool is, .int .u64 0, .string ⟨#[]⟩, .int .u32 0, .string ⟨#[]⟩, .string ⟨#[]⟩, .slice none 0 0, .int .u8 0, .int .u64 0, .string ⟨#[]⟩, .slice none 0 0, .slice none 0 0]) (hFa : ¬ F ab) (hvc : vb ≠ cb) (hva : vb ≠ ab) (hca : cb ≠ ab) (hBa : B ≤ ab) (hBv : B ≤ vb) (hBW : B ≤ W.heap.size) :
  Calls Tryz.prog 76 #[.pointer (some ⟨o, 0, none⟩), .pointer (some ⟨cb, 0, none⟩)] W fun e W' => e = .returned (.tuple #[]) ∧ Rdr F W' (.pointer (some ⟨o, 0, none⟩)) (some vb) T.2.1 T.2.2 ∧ Box W' ab 71 #[.bool is, .int .u64 (T.1 : Int), .string ⟨#[]⟩, .int .u32 0, .string ⟨#[]⟩, .string ⟨#[]⟩, .slice none 0 0, .int .u8 0, .int .u64 0, .string ⟨#[]⟩, .slice none 0 0, .slice none 0 0] ∧ KP B ab vb W W' := by
 have h1 := fun W (h : Rdr F W (.pointer (some ⟨o, 0, none⟩)) (some vb) l false) => rdnum_any h 2 (by omega) (by omega)
 rw [← hT] at h1
 clear hT
 have hKP := KP.refl B ab vb W
 go_enter Tryz.func76, Tryz.ntmps76
 go_upto_region 0 with fail
 refine rg_start (fun W : World => Box W cb 98 #[.pointer (some ⟨ab, 0, none⟩)]) (by kernel_rfl) ?_
 replace hcb : Box W.drew cb 98 #[.pointer (some ⟨ab, 0, none⟩)] := hcb
 replace ha : Box W.drew ab 71 #[.bool is, .int .u64 0, .string ⟨#[]⟩, .int .u32 0, .string ⟨#[]⟩, .string ⟨#[]⟩, .slice none 0 0, .int .u8 0, .int .u64 0, .string ⟨#[]⟩, .slice none 0 0, .slice none 0 0] := ha
 replace hr := hr.drew
 replace hKP := hKP.drew
 have h1 := h1 _ hr
 generalize W.drew = wd at *
 refine rg_take 0 (v := ?_) rfl (by kernel_rfl) (by kernel_rfl) (by kernel_rfl) hcb rfl ?_ ?_
 rotate_left
 ·intro wS hSw; have y0 := hSw.cell (j := 0) rfl; go_simp; (with_reducible rfl)
 simp only [List.getElem_toArray, List.getElem_cons_zero, Act.put, List.setIfInBounds_toArray, List.set_cons_zero, List.set_cons_succ]
 refine rg_t 1 hcb ?_
 simp only [g_S, Act.put]
 refine rg_one 2 rfl (by kernel_rfl) rfl (fun K hK => ?_)
 go_simp
 refine h1.mono ?_
 rintro e w2 ⟨rfl, hr2, hg2⟩
 have hcb2 := hcb.grown hg2 (sne (by omega))
 have ha2 := ha.grown hg2 (sne (by omega))
 have hKP2 := hKP.grown hBW hg2 (fun g hg => by injection hg with hg; exact ⟨by omega, .inr (.inl hg.symm)⟩)
 clear h1 hr hcb ha hKP hg2
 refine hK _ _ hcb2 ?_; clear hK K
 try simp only [g_S, Act.put]
 refine rg_t 3 hcb2 ?_
 simp only [g_S, Act.put]
 refine rg_t 4 hcb2 ?_
 simp only [g_S, Act.put]
 refine rg_one 5 rfl (by kernel_rfl) rfl (fun K hK => ?_)
 refine op_box (g := ab) (j := 1) (v := .int .u64 (T.1 : Int)) (vs := [.int .u64 (T.1 : Int)]) rfl rfl rfl ha2 rfl (by kernel_rfl) (by simp) (by simp; rfl) #[.bool is, .int .u64 (T.1 : Int), .string ⟨#[]⟩, .int .u32 0, .string ⟨#[]⟩, .string ⟨#[]⟩, .slice none 0 0, .int .u8 0, .int .u64 0, .string ⟨#[]⟩, .slice none 0 0, .slice none 0 0] (by simp) ?_
 intro w3 ha3 hg3 _
 have hcb3 := hcb2.grown hg3 (sne (by omega))
 have hr3 := hr2.kept hg3 (fun g hg hFg => by injection hg with hg; subst hg; exact hFa hFg)
 have hKP3 := hKP2.grown hBW hg3 (fun g hg => by injection hg with hg; exact ⟨by omega, .inl hg.symm⟩)
 refine hK _ _ hcb3 ?_; clear hK K
 refine rg_end (by kernel_rfl) ?_
 go_wp2_with (with_reducible refine h_A ?_)
 go_end0
 exact ⟨rfl, hr3, ha3, hKP3⟩
set_option maxRecDepth 20000 in
theorem cl_long {F : Nat → Prop} {W : World} {o vb ab cb B : Nat} {l : List UInt8} (is : Bool) (T : _) (hT : T = mnum l false 4) (hr : Rdr F W (.pointer (some ⟨o, 0, none⟩)) (some vb) l false) (hcb : Box W cb 98 #[.pointer (some ⟨ab, 0, none⟩)]) (ha : Box W ab 71 #[.bool is, .int .u64 0, .string ⟨#[]⟩, .int .u32 0, .string ⟨#[]⟩, .string ⟨#[]⟩, .slice none 0 0, .int .u8 0, .int .u64 0, .string ⟨#[]⟩, .slice none 0 0, .slice none 0 0]) (hFa : ¬ F ab) (hvc : vb ≠ cb) (hva : vb ≠ ab) (hca : cb ≠ ab) (hBa : B ≤ ab) (hBv : B ≤ vb) (hBW : B ≤ W.heap.size) :
  Calls Tryz.prog 77 #[.pointer (some ⟨o, 0, none⟩), .pointer (some ⟨cb, 0, none⟩)] W fun e W' => e = .returned (.tuple #[]) ∧ Rdr F W' (.pointer (some ⟨o, 0, none⟩)) (some vb) T.2.1 T.2.2 ∧ Box W' ab 71 #[.bool is, .int .u64 (T.1 : Int), .string ⟨#[]⟩, .int .u32 0, .string ⟨#[]⟩, .string ⟨#[]⟩, .slice none 0 0, .int .u8 0, .int .u64 0, .string ⟨#[]⟩, .slice none 0 0, .slice none 0 0] ∧ KP B ab vb W W' := by
 have h1 := fun W (h : Rdr F W (.pointer (some ⟨o, 0, none⟩)) (some vb) l false) => rdnum_any h 4 (by omega) (by omega)
 rw [← hT] at h1
 clear hT
 have hKP := KP.refl B ab vb W
 go_enter Tryz.func77, Tryz.ntmps77
 go_upto_region 0 with fail
 refine rg_start (fun W : World => Box W cb 98 #[.pointer (some ⟨ab, 0, none⟩)]) (by kernel_rfl) ?_
 replace hcb : Box W.drew cb 98 #[.pointer (some ⟨ab, 0, none⟩)] := hcb
 replace ha : Box W.drew ab 71 #[.bool is, .int .u64 0, .string ⟨#[]⟩, .int .u32 0, .string ⟨#[]⟩, .string ⟨#[]⟩, .slice none 0 0, .int .u8 0, .int .u64 0, .string ⟨#[]⟩, .slice none 0 0, .slice none 0 0] := ha
 replace hr := hr.drew
 replace hKP := hKP.drew
 have h1 := h1 _ hr
 generalize W.drew = wd at *
 refine rg_take 0 (v := ?_) rfl (by kernel_rfl) (by kernel_rfl) (by kernel_rfl) hcb rfl ?_ ?_
 rotate_left
 ·intro wS hSw; have y0 := hSw.cell (j := 0) rfl; go_simp; (with_reducible rfl)
 simp only [List.getElem_toArray, List.getElem_cons_zero, Act.put, List.setIfInBounds_toArray, List.set_cons_zero, List.set_cons_succ]
 refine rg_t 1 hcb ?_
 simp only [g_S, Act.put]
 refine rg_one 2 rfl (by kernel_rfl) rfl (fun K hK => ?_)
 go_simp
 refine h1.mono ?_
 rintro e w2 ⟨rfl, hr2, hg2⟩
 have hcb2 := hcb.grown hg2 (sne (by omega))
 have ha2 := ha.grown hg2 (sne (by omega))
 have hKP2 := hKP.grown hBW hg2 (fun g hg => by injection hg with hg; exact ⟨by omega, .inr (.inl hg.symm)⟩)
 clear h1 hr hcb ha hKP hg2
 refine hK _ _ hcb2 ?_; clear hK K
 try simp only [g_S, Act.put]
 refine rg_t 3 hcb2 ?_
 simp only [g_S, Act.put]
 refine rg_t 4 hcb2 ?_
 simp only [g_S, Act.put]
 refine rg_one 5 rfl (by kernel_rfl) rfl (fun K hK => ?_)
 refine op_box (g := ab) (j := 1) (v := .int .u64 (T.1 : Int)) (vs := [.int .u64 (T.1 : Int)]) rfl rfl rfl ha2 rfl (by kernel_rfl) (by simp) (by simp; rfl) #[.bool is, .int .u64 (T.1 : Int), .string ⟨#[]⟩, .int .u32 0, .string ⟨#[]⟩, .string ⟨#[]⟩, .slice none 0 0, .int .u8 0, .int .u64 0, .string ⟨#[]⟩, .slice none 0 0, .slice none 0 0] (by simp) ?_
 intro w3 ha3 hg3 _
 have hcb3 := hcb2.grown hg3 (sne (by omega))
 have hr3 := hr2.kept hg3 (fun g hg hFg => by injection hg with hg; subst hg; exact hFa hFg)
 have hKP3 := hKP2.grown hBW hg3 (fun g hg => by injection hg with hg; exact ⟨by omega, .inl hg.symm⟩)
 refine hK _ _ hcb3 ?_; clear hK K
 refine rg_end (by kernel_rfl) ?_
 go_wp2_with (with_reducible refine h_A ?_)
 go_end0
 exact ⟨rfl, hr3, ha3, hKP3⟩
set_option maxRecDepth 20000 in
theorem cl_short {F : Nat → Prop} {W : World} {o vb ab cb B : Nat} {l : List UInt8} (is : Bool) (T : _) (hT : T = mtext l false 1 255) (hr : Rdr F W (.pointer (some ⟨o, 0, none⟩)) (some vb) l false) (hcb : Box W cb 98 #[.pointer (some ⟨ab, 0, none⟩)]) (ha : Box W ab 71 #[.bool is, .int .u64 0, .string ⟨#[]⟩, .int .u32 0, .string ⟨#[]⟩, .string ⟨#[]⟩, .slice none 0 0, .int .u8 0, .int .u64 0, .string ⟨#[]⟩, .slice none 0 0, .slice none 0 0]) (hFa : ¬ F ab) (hvc : vb ≠ cb) (hva : vb ≠ ab) (hca : cb ≠ ab) (hBa : B ≤ ab) (hBv : B ≤ vb) (hBW : B ≤ W.heap.size) :
  Calls Tryz.prog 78 #[.pointer (some ⟨o, 0, none⟩), .pointer (some ⟨cb, 0, none⟩)] W fun e W' => e = .returned (.tuple #[]) ∧ Rdr F W' (.pointer (some ⟨o, 0, none⟩)) (some vb) T.2.1 T.2.2 ∧ Box W' ab 71 #[.bool is, .int .u64 0, .string (str T.1), .int .u32 0, .string ⟨#[]⟩, .string ⟨#[]⟩, .slice none 0 0, .int .u8 0, .int .u64 0, .string ⟨#[]⟩, .slice none 0 0, .slice none 0 0] ∧ KP B ab vb W W' := by
 have h1 := fun W (h : Rdr F W (.pointer (some ⟨o, 0, none⟩)) (some vb) l false) => rdtext_any h 1 255 (by omega) (by omega) (by omega) (by omega)
 rw [← hT] at h1
 clear hT
 have hKP := KP.refl B ab vb W
 go_enter Tryz.func78, Tryz.ntmps78
 go_upto_region 0 with fail
 refine rg_start (fun W : World => Box W cb 98 #[.pointer (some ⟨ab, 0, none⟩)]) (by kernel_rfl) ?_
 replace hcb : Box W.drew cb 98 #[.pointer (some ⟨ab, 0, none⟩)] := hcb
 replace ha : Box W.drew ab 71 #[.bool is, .int .u64 0, .string ⟨#[]⟩, .int .u32 0, .string ⟨#[]⟩, .string ⟨#[]⟩, .slice none 0 0, .int .u8 0, .int .u64 0, .string ⟨#[]⟩, .slice none 0 0, .slice none 0 0] := ha
 replace hr := hr.drew
 replace hKP := hKP.drew
 have h1 := h1 _ hr
 generalize W.drew = wd at *
 refine rg_take 0 (v := ?_) rfl (by kernel_rfl) (by kernel_rfl) (by kernel_rfl) hcb rfl ?_ ?_
 rotate_left
 ·intro wS hSw; have y0 := hSw.cell (j := 0) rfl; go_simp; (with_reducible rfl)
 simp only [List.getElem_toArray, List.getElem_cons_zero, Act.put, List.setIfInBounds_toArray, List.set_cons_zero, List.set_cons_succ]
 refine rg_t 1 hcb ?_
 simp only [g_S, Act.put]
 refine rg_one 2 rfl (by kernel_rfl) rfl (fun K hK => ?_)
 go_simp
 refine h1.mono ?_
 rintro e w2 ⟨rfl, hr2, hg2⟩
 have hcb2 := hcb.grown hg2 (sne (by omega))
 have ha2 := ha.grown hg2 (sne (by omega))
 have hKP2 := hKP.grown hBW hg2 (fun g hg => by injection hg with hg; exact ⟨by omega, .inr (.inl hg.symm)⟩)
 clear h1 hr hcb ha hKP hg2
 refine hK _ _ hcb2 ?_; clear hK K
 try simp only [g_S, Act.put]
 refine rg_t 3 hcb2 ?_
 simp only [g_S, Act.put]
 refine rg_t 4 hcb2 ?_
 simp only [g_S, Act.put]
 refine rg_one 5 rfl (by kernel_rfl) rfl (fun K hK => ?_)
 refine op_box (g := ab) (j := 2) (v := .string (str T.1)) (vs := [.string (str T.1)]) rfl rfl rfl ha2 rfl (by kernel_rfl) (by simp) (by simp; rfl) #[.bool is, .int .u64 0, .string (str T.1), .int .u32 0, .string ⟨#[]⟩, .string ⟨#[]⟩, .slice none 0 0, .int .u8 0, .int .u64 0, .string ⟨#[]⟩, .slice none 0 0, .slice none 0 0] (by simp) ?_
 intro w3 ha3 hg3 _
 have hcb3 := hcb2.grown hg3 (sne (by omega))
 have hr3 := hr2.kept hg3 (fun g hg hFg => by injection hg with hg; subst hg; exact hFa hFg)
 have hKP3 := hKP2.grown hBW hg3 (fun g hg => by injection hg with hg; exact ⟨by omega, .inl hg.symm⟩)
 refine hK _ _ hcb3 ?_; clear hK K
 refine rg_end (by kernel_rfl) ?_
 go_wp2_with (with_reducible refine h_A ?_)
 go_end0
 exact ⟨rfl, hr3, ha3, hKP3⟩
set_option maxRecDepth 20000 in
theorem cl_text {F : Nat → Prop} {W : World} {o vb ab cb B : Nat} {l : List UInt8} (is : Bool) (T : _) (hT : T = mtext l false 2 65535) (hr : Rdr F W (.pointer (some ⟨o, 0, none⟩)) (some vb) l false) (hcb : Box W cb 98 #[.pointer (some ⟨ab, 0, none⟩)]) (ha : Box W ab 71 #[.bool is, .int .u64 0, .string ⟨#[]⟩, .int .u32 0, .string ⟨#[]⟩, .string ⟨#[]⟩, .slice none 0 0, .int .u8 0, .int .u64 0, .string ⟨#[]⟩, .slice none 0 0, .slice none 0 0]) (hFa : ¬ F ab) (hvc : vb ≠ cb) (hva : vb ≠ ab) (hca : cb ≠ ab) (hBa : B ≤ ab) (hBv : B ≤ vb) (hBW : B ≤ W.heap.size) :
  Calls Tryz.prog 80 #[.pointer (some ⟨o, 0, none⟩), .pointer (some ⟨cb, 0, none⟩)] W fun e W' => e = .returned (.tuple #[]) ∧ Rdr F W' (.pointer (some ⟨o, 0, none⟩)) (some vb) T.2.1 T.2.2 ∧ Box W' ab 71 #[.bool is, .int .u64 0, .string (str T.1), .int .u32 0, .string ⟨#[]⟩, .string ⟨#[]⟩, .slice none 0 0, .int .u8 0, .int .u64 0, .string ⟨#[]⟩, .slice none 0 0, .slice none 0 0] ∧ KP B ab vb W W' := by
 have h1 := fun W (h : Rdr F W (.pointer (some ⟨o, 0, none⟩)) (some vb) l false) => rdtext_any h 2 65535 (by omega) (by omega) (by omega) (by omega)
 rw [← hT] at h1
 clear hT
 have hKP := KP.refl B ab vb W
 go_enter Tryz.func80, Tryz.ntmps80
 go_upto_region 0 with fail
 refine rg_start (fun W : World => Box W cb 98 #[.pointer (some ⟨ab, 0, none⟩)]) (by kernel_rfl) ?_
 replace hcb : Box W.drew cb 98 #[.pointer (some ⟨ab, 0, none⟩)] := hcb
 replace ha : Box W.drew ab 71 #[.bool is, .int .u64 0, .string ⟨#[]⟩, .int .u32 0, .string ⟨#[]⟩, .string ⟨#[]⟩, .slice none 0 0, .int .u8 0, .int .u64 0, .string ⟨#[]⟩, .slice none 0 0, .slice none 0 0] := ha
 replace hr := hr.drew
 replace hKP := hKP.drew
 have h1 := h1 _ hr
 generalize W.drew = wd at *
 refine rg_take 0 (v := ?_) rfl (by kernel_rfl) (by kernel_rfl) (by kernel_rfl) hcb rfl ?_ ?_
 rotate_left
 ·intro wS hSw; have y0 := hSw.cell (j := 0) rfl; go_simp; (with_reducible rfl)
 simp only [List.getElem_toArray, List.getElem_cons_zero, Act.put, List.setIfInBounds_toArray, List.set_cons_zero, List.set_cons_succ]
 refine rg_t 1 hcb ?_
 simp only [g_S, Act.put]
 refine rg_one 2 rfl (by kernel_rfl) rfl (fun K hK => ?_)
 go_simp
 refine h1.mono ?_
 rintro e w2 ⟨rfl, hr2, hg2⟩
 have hcb2 := hcb.grown hg2 (sne (by omega))
 have ha2 := ha.grown hg2 (sne (by omega))
 have hKP2 := hKP.grown hBW hg2 (fun g hg => by injection hg with hg; exact ⟨by omega, .inr (.inl hg.symm)⟩)
 clear h1 hr hcb ha hKP hg2
 refine hK _ _ hcb2 ?_; clear hK K
 try simp only [g_S, Act.put]
 refine rg_t 3 hcb2 ?_
 simp only [g_S, Act.put]
 refine rg_t 4 hcb2 ?_
 simp only [g_S, Act.put]
 refine rg_one 5 rfl (by kernel_rfl) rfl (fun K hK => ?_)
 refine op_box (g := ab) (j := 2) (v := .string (str T.1)) (vs := [.string (str T.1)]) rfl rfl rfl ha2 rfl (by kernel_rfl) (by simp) (by simp; rfl) #[.bool is, .int .u64 0, .string (str T.1), .int .u32 0, .string ⟨#[]⟩, .string ⟨#[]⟩, .slice none 0 0, .int .u8 0, .int .u64 0, .string ⟨#[]⟩, .slice none 0 0, .slice none 0 0] (by simp) ?_
 intro w3 ha3 hg3 _
 have hcb3 := hcb2.grown hg3 (sne (by omega))
 have hr3 := hr2.kept hg3 (fun g hg hFg => by injection hg with hg; subst hg; exact hFa hFg)
 have hKP3 := hKP2.grown hBW hg3 (fun g hg => by injection hg with hg; exact ⟨by omega, .inl hg.symm⟩)
 refine hK _ _ hcb3 ?_; clear hK K
 refine rg_end (by kernel_rfl) ?_
 go_wp2_with (with_reducible refine h_A ?_)
 go_end0
 exact ⟨rfl, hr3, ha3, hKP3⟩
end Go.PH
end

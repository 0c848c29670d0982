/- Texts laid together: MdRd2, MdRd3, MdRd4, MdRd5, MdRd6, MdRd7. -/
import Derived.Test.YtenegldhfgfokaaGreatDoorMg09
import Derived.Test.YtenegldhfgfokaaGreatDoorMg19
import Derived.Test.YtenegldhfgfokaaGreatDoorMg22
import Derived.Test.YtenegldhfgfokaaGreatDoorMg25
import Derived.Test.YtenegldhfgfokaaGreatDoorMg29
import Derived.Test.YtenegldhfgfokaaGreatDoorMg30
set_option linter.all false
set_option linter.unusedSimpArgs false
set_option linter.unusedVariables false
section
/- The method reader's readers of bits, numbers and texts: the walks of the program. -/
namespace Go.PH
open Go.RowKit Go.Proofs

theorem OctR.from {w w1 w' : World} {B rb ab : Nat} {l : List UInt8} {bad : Bool} {cells : Array Value} {e : Ending} (h : OctR w1 B rb ab l bad cells e w') (hK : KP B rb ab w w1) : OctR w B rb ab l bad cells e w' := ⟨h.1, h.2.1, h.2.2.1, hK.trans h.2.2.2⟩
set_option maxRecDepth 20000 in
theorem mrd_byte {w : World} {B rb ab : Nat} {l : List UInt8} {bad : Bool} (is : Bool) (h : MRd w B rb l bad) (hB : B ≤ rb) (ha : Box w ab 71 #[.bool is, .int .u64 0, .string ⟨#[]⟩, .int .u32 0, .string ⟨#[]⟩, .string ⟨#[]⟩, .slice none 0 0, .int .u8 0, .int .u64 0, .string ⟨#[]⟩, .slice none 0 0, .slice none 0 0]) (hab : B ≤ ab) (hne : ab ≠ rb) (T : _) (hT : T = mnum l false 1) (hTl : T.2.1.length ≤ l.length) :
  Calls Tryz.prog 54 #[.pointer (some ⟨rb, 0, none⟩), .pointer (some ⟨ab, 0, none⟩)] w (OctR w B rb ab (if (bad || T.2.2) = true then l else l.drop (l.length - T.2.1.length)) (bad || T.2.2) #[.bool is, .int .u64 (T.1 : Int), .string ⟨#[]⟩, .int .u32 0, .string ⟨#[]⟩, .string ⟨#[]⟩, .slice none 0 0, .int .u8 0, .int .u64 0, .string ⟨#[]⟩, .slice none 0 0, .slice none 0 0]) := by
 have hmf : ∀ (fn : Fn) (first cap : Array Value) (w : World), (Instr.makeFunc fn first cap).run Tryz.prog w = .ok (.func fn first cap) w := fun _ _ _ _ => rfl
 obtain ⟨cb, w1, hcb, hcv, hC, hB1⟩ := alloc_stepV w #[.pointer (some ⟨ab, 0, none⟩)] 98
 have haw := ha.lt
 have hK := (KP.refl B rb ab w).below (by omega) hB1
 have hcl := hC.lt
 have hoc := octets_any 75 #[.pointer (some ⟨cb, 0, none⟩)] (fun _ _ => rfl) (h.kp ((KP.refl B ab ab w).below (by omega) hB1) (Ne.symm hne) (Ne.symm hne)) hB _ #[.bool is, .int .u64 (T.1 : Int), .string ⟨#[]⟩, .int .u32 0, .string ⟨#[]⟩, .string ⟨#[]⟩, .slice none 0 0, .int .u8 0, .int .u64 0, .string ⟨#[]⟩, .slice none 0 0, .slice none 0 0] (ha.below hB1) hab hne T.2.1 T.2.2 hTl (fun W o vb F hBW hr hF ha => by
  have hv := hF vb (hr.inF rfl)
  exact cl_byte is T hT hr (hC.below hBW) ha (fun hFa => by have := (hF ab hFa).1; omega) (by omega) (by omega) (by omega) hab (by omega) (by have := hBW.size; omega))
 obtain ⟨lr, hlr⟩ : ∃ x, x = (if (bad || T.2.2) = true then l else l.drop (l.length - T.2.1.length)) := ⟨_, rfl⟩
 obtain ⟨br, hbr⟩ : ∃ x, x = (bad || T.2.2) := ⟨_, rfl⟩
 rw [← hlr, ← hbr] at hoc ⊢
 clear hlr hbr
 go_enter Tryz.func54, Tryz.ntmps54
 go_upto_region 1 with fail
 rw [← hcb, ← hcv]
 clear hcb hcv
 go_wp2_with (with_reducible refine h_A ?_)
 refine hoc.mono ?_
 rintro e w2 hres
 have hr2 := hres.from hK
 obtain ⟨rfl, _⟩ := hres
 go_wp2_with (with_reducible refine h_A ?_)
 go_end0
 exact hr2
set_option maxRecDepth 20000 in
theorem mrd_word {w : World} {B rb ab : Nat} {l : List UInt8} {bad : Bool} (is : Bool) (h : MRd w B rb l bad) (hB : B ≤ rb) (ha : Box w ab 71 #[.bool is, .int .u64 0, .string ⟨#[]⟩, .int .u32 0, .string ⟨#[]⟩, .string ⟨#[]⟩, .slice none 0 0, .int .u8 0, .int .u64 0, .string ⟨#[]⟩, .slice none 0 0, .slice none 0 0]) (hab : B ≤ ab) (hne : ab ≠ rb) (T : _) (hT : T = mnum l false 2) (hTl : T.2.1.length ≤ l.length) :
  Calls Tryz.prog 55 #[.pointer (some ⟨rb, 0, none⟩), .pointer (some ⟨ab, 0, none⟩)] w (OctR w B rb ab (if (bad || T.2.2) = true then l else l.drop (l.length - T.2.1.length)) (bad || T.2.2) #[.bool is, .int .u64 (T.1 : Int), .string ⟨#[]⟩, .int .u32 0, .string ⟨#[]⟩, .string ⟨#[]⟩, .slice none 0 0, .int .u8 0, .int .u64 0, .string ⟨#[]⟩, .slice none 0 0, .slice none 0 0]) := by
 have hmf : ∀ (fn : Fn) (first cap : Array Value) (w : World), (Instr.makeFunc fn first cap).run Tryz.prog w = .ok (.func fn first cap) w := fun _ _ _ _ => rfl
 obtain ⟨cb, w1, hcb, hcv, hC, hB1⟩ := alloc_stepV w #[.pointer (some ⟨ab, 0, none⟩)] 98
 have haw := ha.lt
 have hK := (KP.refl B rb ab w).below (by omega) hB1
 have hcl := hC.lt
 have hoc := octets_any 76 #[.pointer (some ⟨cb, 0, none⟩)] (fun _ _ => rfl) (h.kp ((KP.refl B ab ab w).below (by omega) hB1) (Ne.symm hne) (Ne.symm hne)) hB _ #[.bool is, .int .u64 (T.1 : Int), .string ⟨#[]⟩, .int .u32 0, .string ⟨#[]⟩, .string ⟨#[]⟩, .slice none 0 0, .int .u8 0, .int .u64 0, .string ⟨#[]⟩, .slice none 0 0, .slice none 0 0] (ha.below hB1) hab hne T.2.1 T.2.2 hTl (fun W o vb F hBW hr hF ha => by
  have hv := hF vb (hr.inF rfl)
  exact cl_word is T hT hr (hC.below hBW) ha (fun hFa => by have := (hF ab hFa).1; omega) (by omega) (by omega) (by omega) hab (by omega) (by have := hBW.size; omega))
 obtain ⟨lr, hlr⟩ : ∃ x, x = (if (bad || T.2.2) = true then l else l.drop (l.length - T.2.1.length)) := ⟨_, rfl⟩
 obtain ⟨br, hbr⟩ : ∃ x, x = (bad || T.2.2) := ⟨_, rfl⟩
 rw [← hlr, ← hbr] at hoc ⊢
 clear hlr hbr
 go_enter Tryz.func55, Tryz.ntmps55
 go_upto_region 1 with fail
 rw [← hcb, ← hcv]
 clear hcb hcv
 go_wp2_with (with_reducible refine h_A ?_)
 refine hoc.mono ?_
 rintro e w2 hres
 have hr2 := hres.from hK
 obtain ⟨rfl, _⟩ := hres
 go_wp2_with (with_reducible refine h_A ?_)
 go_end0
 exact hr2
set_option maxRecDepth 20000 in
theorem mrd_long {w : World} {B rb ab : Nat} {l : List UInt8} {bad : Bool} (is : Bool) (h : MRd w B rb l bad) (hB : B ≤ rb) (ha : Box w ab 71 #[.bool is, .int .u64 0, .string ⟨#[]⟩, .int .u32 0, .string ⟨#[]⟩, .string ⟨#[]⟩, .slice none 0 0, .int .u8 0, .int .u64 0, .string ⟨#[]⟩, .slice none 0 0, .slice none 0 0]) (hab : B ≤ ab) (hne : ab ≠ rb) (T : _) (hT : T = mnum l false 4) (hTl : T.2.1.length ≤ l.length) :
  Calls Tryz.prog 56 #[.pointer (some ⟨rb, 0, none⟩), .pointer (some ⟨ab, 0, none⟩)] w (OctR w B rb ab (if (bad || T.2.2) = true then l else l.drop (l.length - T.2.1.length)) (bad || T.2.2) #[.bool is, .int .u64 (T.1 : Int), .string ⟨#[]⟩, .int .u32 0, .string ⟨#[]⟩, .string ⟨#[]⟩, .slice none 0 0, .int .u8 0, .int .u64 0, .string ⟨#[]⟩, .slice none 0 0, .slice none 0 0]) := by
 have hmf : ∀ (fn : Fn) (first cap : Array Value) (w : World), (Instr.makeFunc fn first cap).run Tryz.prog w = .ok (.func fn first cap) w := fun _ _ _ _ => rfl
 obtain ⟨cb, w1, hcb, hcv, hC, hB1⟩ := alloc_stepV w #[.pointer (some ⟨ab, 0, none⟩)] 98
 have haw := ha.lt
 have hK := (KP.refl B rb ab w).below (by omega) hB1
 have hcl := hC.lt
 have hoc := octets_any 77 #[.pointer (some ⟨cb, 0, none⟩)] (fun _ _ => rfl) (h.kp ((KP.refl B ab ab w).below (by omega) hB1) (Ne.symm hne) (Ne.symm hne)) hB _ #[.bool is, .int .u64 (T.1 : Int), .string ⟨#[]⟩, .int .u32 0, .string ⟨#[]⟩, .string ⟨#[]⟩, .slice none 0 0, .int .u8 0, .int .u64 0, .string ⟨#[]⟩, .slice none 0 0, .slice none 0 0] (ha.below hB1) hab hne T.2.1 T.2.2 hTl (fun W o vb F hBW hr hF ha => by
  have hv := hF vb (hr.inF rfl)
  exact cl_long is T hT hr (hC.below hBW) ha (fun hFa => by have := (hF ab hFa).1; omega) (by omega) (by omega) (by omega) hab (by omega) (by have := hBW.size; omega))
 obtain ⟨lr, hlr⟩ : ∃ x, x = (if (bad || T.2.2) = true then l else l.drop (l.length - T.2.1.length)) := ⟨_, rfl⟩
 obtain ⟨br, hbr⟩ : ∃ x, x = (bad || T.2.2) := ⟨_, rfl⟩
 rw [← hlr, ← hbr] at hoc ⊢
 clear hlr hbr
 go_enter Tryz.func56, Tryz.ntmps56
 go_upto_region 1 with fail
 rw [← hcb, ← hcv]
 clear hcb hcv
 go_wp2_with (with_reducible refine h_A ?_)
 refine hoc.mono ?_
 rintro e w2 hres
 have hr2 := hres.from hK
 obtain ⟨rfl, _⟩ := hres
 go_wp2_with (with_reducible refine h_A ?_)
 go_end0
 exact hr2
set_option maxRecDepth 20000 in
theorem mrd_short {w : World} {B rb ab : Nat} {l : List UInt8} {bad : Bool} (is : Bool) (h : MRd w B rb l bad) (hB : B ≤ rb) (ha : Box w ab 71 #[.bool is, .int .u64 0, .string ⟨#[]⟩, .int .u32 0, .string ⟨#[]⟩, .string ⟨#[]⟩, .slice none 0 0, .int .u8 0, .int .u64 0, .string ⟨#[]⟩, .slice none 0 0, .slice none 0 0]) (hab : B ≤ ab) (hne : ab ≠ rb) (T : _) (hT : T = mtext l false 1 255) (hTl : T.2.1.length ≤ l.length) :
  Calls Tryz.prog 57 #[.pointer (some ⟨rb, 0, none⟩), .pointer (some ⟨ab, 0, none⟩)] w (OctR w B rb ab (if (bad || T.2.2) = true then l else l.drop (l.length - T.2.1.length)) (bad || T.2.2) #[.bool is, .int .u64 0, .string (str T.1), .int .u32 0, .string ⟨#[]⟩, .string ⟨#[]⟩, .slice none 0 0, .int .u8 0, .int .u64 0, .string ⟨#[]⟩, .slice none 0 0, .slice none 0 0]) := by
 have hmf : ∀ (fn : Fn) (first cap : Array Value) (w : World), (Instr.makeFunc fn first cap).run Tryz.prog w = .ok (.func fn first cap) w := fun _ _ _ _ => rfl
 obtain ⟨cb, w1, hcb, hcv, hC, hB1⟩ := alloc_stepV w #[.pointer (some ⟨ab, 0, none⟩)] 98
 have haw := ha.lt
 have hK := (KP.refl B rb ab w).below (by omega) hB1
 have hcl := hC.lt
 have hoc := octets_any 78 #[.pointer (some ⟨cb, 0, none⟩)] (fun _ _ => rfl) (h.kp ((KP.refl B ab ab w).below (by omega) hB1) (Ne.symm hne) (Ne.symm hne)) hB _ #[.bool is, .int .u64 0, .string (str T.1), .int .u32 0, .string ⟨#[]⟩, .string ⟨#[]⟩, .slice none 0 0, .int .u8 0, .int .u64 0, .string ⟨#[]⟩, .slice none 0 0, .slice none 0 0] (ha.below hB1) hab hne T.2.1 T.2.2 hTl (fun W o vb F hBW hr hF ha => by
  have hv := hF vb (hr.inF rfl)
  exact cl_short is T hT hr (hC.below hBW) ha (fun hFa => by have := (hF ab hFa).1; omega) (by omega) (by omega) (by omega) hab (by omega) (by have := hBW.size; omega))
 obtain ⟨lr, hlr⟩ : ∃ x, x = (if (bad || T.2.2) = true then l else l.drop (l.length - T.2.1.length)) := ⟨_, rfl⟩
 obtain ⟨br, hbr⟩ : ∃ x, x = (bad || T.2.2) := ⟨_, rfl⟩
 rw [← hlr, ← hbr] at hoc ⊢
 clear hlr hbr
 go_enter Tryz.func57, Tryz.ntmps57
 go_upto_region 1 with fail
 rw [← hcb, ← hcv]
 clear hcb hcv
 go_wp2_with (with_reducible refine h_A ?_)
 refine hoc.mono ?_
 rintro e w2 hres
 have hr2 := hres.from hK
 obtain ⟨rfl, _⟩ := hres
 go_wp2_with (with_reducible refine h_A ?_)
 go_end0
 exact hr2
set_option maxRecDepth 20000 in
theorem mrd_text {w : World} {B rb ab : Nat} {l : List UInt8} {bad : Bool} (is : Bool) (h : MRd w B rb l bad) (hB : B ≤ rb) (ha : Box w ab 71 #[.bool is, .int .u64 0, .string ⟨#[]⟩, .int .u32 0, .string ⟨#[]⟩, .string ⟨#[]⟩, .slice none 0 0, .int .u8 0, .int .u64 0, .string ⟨#[]⟩, .slice none 0 0, .slice none 0 0]) (hab : B ≤ ab) (hne : ab ≠ rb) (T : _) (hT : T = mtext l false 2 65535) (hTl : T.2.1.length ≤ l.length) :
  Calls Tryz.prog 58 #[.pointer (some ⟨rb, 0, none⟩), .pointer (some ⟨ab, 0, none⟩)] w (OctR w B rb ab (if (bad || T.2.2) = true then l else l.drop (l.length - T.2.1.length)) (bad || T.2.2) #[.bool is, .int .u64 0, .string (str T.1), .int .u32 0, .string ⟨#[]⟩, .string ⟨#[]⟩, .slice none 0 0, .int .u8 0, .int .u64 0, .string ⟨#[]⟩, .slice none 0 0, .slice none 0 0]) := by
 have hmf : ∀ (fn : Fn) (first cap : Array Value) (w : World), (Instr.makeFunc fn first cap).run Tryz.prog w = .ok (.func fn first cap) w := fun _ _ _ _ => rfl
 obtain ⟨cb, w1, hcb, hcv, hC, hB1⟩ := alloc_stepV w #[.pointer (some ⟨ab, 0, none⟩)] 98
 have haw := ha.lt
 have hK := (KP.refl B rb ab w).below (by omega) hB1
 have hcl := hC.lt
 have hoc := octets_any 80 #[.pointer (some ⟨cb, 0, none⟩)] (fun _ _ => rfl) (h.kp ((KP.refl B ab ab w).below (by omega) hB1) (Ne.symm hne) (Ne.symm hne)) hB _ #[.bool is, .int .u64 0, .string (str T.1), .int .u32 0, .string ⟨#[]⟩, .string ⟨#[]⟩, .slice none 0 0, .int .u8 0, .int .u64 0, .string ⟨#[]⟩, .slice none 0 0, .slice none 0 0] (ha.below hB1) hab hne T.2.1 T.2.2 hTl (fun W o vb F hBW hr hF ha => by
  have hv := hF vb (hr.inF rfl)
  exact cl_text is T hT hr (hC.below hBW) ha (fun hFa => by have := (hF ab hFa).1; omega) (by omega) (by omega) (by omega) hab (by omega) (by have := hBW.size; omega))
 obtain ⟨lr, hlr⟩ : ∃ x, x = (if (bad || T.2.2) = true then l else l.drop (l.length - T.2.1.length)) := ⟨_, rfl⟩
 obtain ⟨br, hbr⟩ : ∃ x, x = (bad || T.2.2) := ⟨_, rfl⟩
 rw [← hlr, ← hbr] at hoc ⊢
 clear hlr hbr
 go_enter Tryz.func58, Tryz.ntmps58
 go_upto_region 1 with fail
 rw [← hcb, ← hcv]
 clear hcb hcv
 go_wp2_with (with_reducible refine h_A ?_)
 refine hoc.mono ?_
 rintro e w2 hres
 have hr2 := hres.from hK
 obtain ⟨rfl, _⟩ := hres
 go_wp2_with (with_reducible refine h_A ?_)
 go_end0
 exact hr2
theorem mrd_bit {w : World} {B rb ab : Nat} {l : List UInt8} {bad : Bool} {cells : Array Value} (h : MRd w B rb l bad) (ha : Box w ab 71 cells) :
  Calls Tryz.prog 53 #[.pointer (some ⟨rb, 0, none⟩), .pointer (some ⟨ab, 0, none⟩)] w (OctR w B rb ab l bad cells) := by
 go_enter Tryz.func53, Tryz.ntmps53
 go_wp2_with (with_reducible refine h_A ?_)
 go_end0
 exact ⟨rfl, ha, h, KP.refl _ _ _ _⟩
end Go.PH
end
section
/- The method reader's readers of names, sets and values: the walks of the program. -/
namespace Go.PH
open Go.RowKit Go.Proofs

theorem getR_len (l : List UInt8) : (getR l).2.1 ≤ l.length := by
 unfold getR
 split
 ·exact Nat.zero_le _
 ·split
  ·exact Nat.sub_le _ _
  ·exact Nat.zero_le _
theorem vget_len (l : List UInt8) : (vget l).2.1 ≤ l.length := by
 unfold vget
 split
 ·split
  ·exact Nat.sub_le _ _
  ·exact Nat.zero_le _
 ·exact Nat.zero_le _
theorem vget_err (l : List UInt8) : (vget l).2.2 = 0 ∨ (vget l).2.2 = 5 := by
 unfold vget
 split
 ·split
  ·exact .inl rfl
  ·exact .inr rfl
 ·exact .inr rfl
set_option maxRecDepth 20000 in
set_option maxHeartbeats 1000000 in
theorem mrd_value {w : World} {B rb ab : Nat} {l : List UInt8} {bad : Bool} (is : Bool) (h : MRd w B rb l bad) (hB : B ≤ rb) (ha : Box w ab 71 #[.bool is, .int .u64 0, .string ⟨#[]⟩, .int .u32 0, .string ⟨#[]⟩, .string ⟨#[]⟩, .slice none 0 0, .int .u8 0, .int .u64 0, .string ⟨#[]⟩, .slice none 0 0, .slice none 0 0]) (hab : B ≤ ab) (hne : ab ≠ rb) (hT : UTabs w) (x : Vl) (n : Nat) (er : Int) (hg : vget l = (x, n, er)) :
  Calls Tryz.prog 61 #[.pointer (some ⟨rb, 0, none⟩), .pointer (some ⟨ab, 0, none⟩)] w fun e w' => ∃ h1 : VH, OctR w B rb ab (if (bad || decide (er ≠ 0)) = true then l else l.drop n) (bad || decide (er ≠ 0)) #[.bool is, .int .u64 0, .string ⟨#[]⟩, .int .u32 0, .string ⟨#[]⟩, .string ⟨#[]⟩, .slice none 0 0, .int .u8 (x.kind : Int), .int .u64 (x.n : Int), .string (str x.s), .slice h1.A1 x.keys.length h1.c1, .slice h1.A2 x.list.length h1.c2] e w' ∧ RV w' (FN w.heap.size w') x h1 := by
 have hnl := vget_len l
 have her := vget_err l
 rw [hg] at hnl her
 obtain ⟨lr, hlr⟩ : ∃ y, y = (if (bad || decide (er ≠ 0)) = true then l else l.drop n) := ⟨_, rfl⟩
 obtain ⟨br, hbr⟩ : ∃ y, y = (bad || decide (er ≠ 0)) := ⟨_, rfl⟩
 rw [← hlr, ← hbr]
 have HLR := Lib.hid hlr
 have HBR := Lib.hid hbr
 clear hlr hbr
 obtain ⟨A, m, c, hbx, hr, hm⟩ := h
 have hln : l.length = m := RdB.length hr
 have hbw := hbx.lt
 have haw := ha.lt
 have hBw : B ≤ w.heap.size := by omega
 have hgt := vget_any A m c l w (rd_wide hr hBw) (by omega) hT
 rw [hg] at hgt
 have c0 := hbx.c0
 simp only at hnl her
 clear hg hT
 go_enter Tryz.func61, Tryz.ntmps61
 go_wp2_with (with_reducible refine h_A ?_)
 refine hgt.mono ?_
 rintro e w2 ⟨h1, rfl, hV, hB2⟩
 simp only at hV
 unfold vlV
 simp only
 have hK2 := (KP.refl B rb ab w).below hBw hB2
 have hb2 := hbx.below hB2
 have ha2 := ha.below hB2
 have hr2 := hr.below (hB2.mono hBw)
 have hs2 := hB2.size
 have hz := Box.new w2 #[.int .u8 0, .int .u64 0, .string ⟨#[]⟩, .slice none 0 0, .slice none 0 0] 69
 have hBz := (Below.refl w2.heap.size w2).alloc (Nat.le_refl _) (.cells #[.int .u8 0, .int .u64 0, .string ⟨#[]⟩, .slice none 0 0, .slice none 0 0] 69)
 have hb3 := hb2.below hBz
 have ha3 := ha2.below hBz
 have hr3 := hr2.below (hBz.mono (by omega))
 have hK3 := hK2.below hBw hBz
 have hV3 : RV (w2.alloc (.cells #[.int .u8 0, .int .u64 0, .string ⟨#[]⟩, .slice none 0 0, .slice none 0 0] 69)) (FN w.heap.size (w2.alloc (.cells #[.int .u8 0, .int .u64 0, .string ⟨#[]⟩, .slice none 0 0, .slice none 0 0] 69))) x h1 := (hV.keep (fun g hg => hBz.block g hg.2) hBz.size).mono (fun g hg => ⟨hg.1, Nat.lt_of_lt_of_le hg.2 hBz.size⟩)
 have hVl : ∀ g, FN w.heap.size w2 g → g < w2.heap.size := fun g hg => hg.2
 clear hgt c0 hbx ha hr hB2 hb2 ha2 hr2 hK2
 go_wp2_with (with_reducible refine h_B ?_)
 obtain ⟨zb, hzb⟩ : ∃ g, g = w2.heap.size := ⟨_, rfl⟩
 rw [← hzb] at hz hs2 ⊢
 have hV3' : RV (w2.alloc (.cells #[.int .u8 0, .int .u64 0, .string ⟨#[]⟩, .slice none 0 0, .slice none 0 0] 69)) (fun g => w.heap.size ≤ g ∧ g < zb) x h1 := (hV.keep (fun g hg => hBz.block g hg.2) hBz.size).mono (fun g hg => ⟨hg.1, by rw [hzb]; exact hg.2⟩)
 clear hzb hBz hV hV3 hVl
 generalize (w2.alloc (.cells #[.int .u8 0, .int .u64 0, .string ⟨#[]⟩, .slice none 0 0, .slice none 0 0] 69)) = w3 at *
 refine unhold (wp_box (v := .agg #[.int .u8 (x.kind : Int), .int .u64 (x.n : Int), .string (str x.s), .slice h1.A1 x.keys.length h1.c1, .slice h1.A2 x.list.length h1.c2]) (vs := [.int .u8 (x.kind : Int), .int .u64 (x.n : Int), .string (str x.s), .slice h1.A1 x.keys.length h1.c1, .slice h1.A2 x.list.length h1.c2]) rfl rfl rfl rfl hz rfl (by kernel_rfl) (by simp) (by intro u hu; simp at hu; rcases hu with rfl | rfl | rfl | rfl | rfl <;> rfl) #[.int .u8 (x.kind : Int), .int .u64 (x.n : Int), .string (str x.s), .slice h1.A1 x.keys.length h1.c1, .slice h1.A2 x.list.length h1.c2] (by simp) ?_)
 intro w4 hz4 hg4 _
 have hb4 := hb3.grown hg4 (sne (by omega))
 have ha4 := ha3.grown hg4 (sne (by omega))
 have hr4 := hr3.grown hg4 (by have := hz.lt; omega) (fun g hg => by injection hg with hg; omega)
 have hK4 := hK3.grown hBw hg4 (fun g hg => by injection hg with hg; exact ⟨by omega, .inr (.inr (by omega))⟩)
 have hV4 := hV3'.keep (fun g hg => hg4.block g (by have := hz.lt; omega) (sne (by omega))) hg4.size
 clear hz hb3 ha3 hr3 hK3 hV3' hg4
 have x0 := hz4.c0
 have x1 := hz4.c1
 have x2 := hz4.c2
 have x3 := hz4.c3
 have x4 := hz4.c4
 go_wp2_with (with_reducible refine h_B ?_)
 refine unhold (wp_box (v := .agg #[.int .u8 (x.kind : Int), .int .u64 (x.n : Int), .string (str x.s), .slice h1.A1 x.keys.length h1.c1, .slice h1.A2 x.list.length h1.c2]) (vs := [.int .u8 (x.kind : Int), .int .u64 (x.n : Int), .string (str x.s), .slice h1.A1 x.keys.length h1.c1, .slice h1.A2 x.list.length h1.c2]) rfl rfl rfl rfl ha4 rfl (by kernel_rfl) (by simp) (by intro u hu; simp at hu; rcases hu with rfl | rfl | rfl | rfl | rfl <;> rfl) #[.bool is, .int .u64 0, .string ⟨#[]⟩, .int .u32 0, .string ⟨#[]⟩, .string ⟨#[]⟩, .slice none 0 0, .int .u8 (x.kind : Int), .int .u64 (x.n : Int), .string (str x.s), .slice h1.A1 x.keys.length h1.c1, .slice h1.A2 x.list.length h1.c2] (by simp) ?_)
 intro w5 ha5 hg5 _
 have hb5 := hb4.grown hg5 (sne (by omega))
 have hr5 := hr4.grown hg5 (by have := ha4.lt; omega) (fun g hg => by injection hg with hg; omega)
 have hK5 := hK4.grown hBw hg5 (fun g hg => by injection hg with hg; exact ⟨by omega, .inr (.inl hg.symm)⟩)
 have hV5 := hV4.keep (fun g hg => hg5.block g (by have := hz4.lt; omega) (sne (by omega))) hg5.size
 have hzl := hz4.lt
 have hs5 := hg5.size
 clear hz4 hb4 ha4 hr4 hK4 hV4 hg5 x0 x1 x2 x3 x4
 have hM5 : MRd w5 B rb l bad := ⟨A, m, c, hb5, hr5, hm⟩
 cases br
 ·have hb0 : bad = false ∧ er = 0 := by
   have := HBR.out.symm
   simpa using this
  obtain ⟨hb0, he0⟩ := hb0
  subst hb0 he0
  have htk := mtk_ok hM5 hB n hnl
  go_wp2_with (with_reducible refine h_A ?_)
  refine htk.mono ?_
  rintro e w6 ⟨rfl, hM6, hg6⟩
  have ha6 := ha5.grown hg6 (sne (by omega))
  have hK6 := hK5.grown hBw hg6 (fun g hg => by injection hg with hg; exact ⟨by omega, .inl hg.symm⟩)
  have hV6 : RV w6 (FN w.heap.size w6) x h1 := (hV5.keep (fun g hg => hg6.block g (by omega) (sne (by omega))) hg6.size).mono (fun g hg => ⟨hg.1, by have := hg6.size; omega⟩)
  go_wp2_with (with_reducible refine h_A ?_)
  go_end0
  have e2 := HLR.out
  simp at e2
  rw [e2]
  exact ⟨h1, ⟨rfl, ha6, hM6, hK6⟩, hV6⟩
 ·have hb0 : bad = true ∨ er ≠ 0 := by
   have := HBR.out.symm
   simpa using this
  have htk := mtk_bad hM5 hB (n : Int) er hb0
  go_wp2_with (with_reducible refine h_A ?_)
  refine htk.mono ?_
  rintro e w6 ⟨rfl, hM6, hg6⟩
  have ha6 := ha5.grown hg6 (sne (by omega))
  have hK6 := hK5.grown hBw hg6 (fun g hg => by injection hg with hg; exact ⟨by omega, .inl hg.symm⟩)
  have hV6 : RV w6 (FN w.heap.size w6) x h1 := (hV5.keep (fun g hg => hg6.block g (by omega) (sne (by omega))) hg6.size).mono (fun g hg => ⟨hg.1, by have := hg6.size; omega⟩)
  go_wp2_with (with_reducible refine h_A ?_)
  go_end0
  have e2 : lr = l := by rw [HLR.out, ← HBR.out, if_pos rfl]
  rw [e2]
  exact ⟨h1, ⟨rfl, ha6, hM6, hK6⟩, hV6⟩
set_option maxRecDepth 20000 in
set_option maxHeartbeats 1000000 in
theorem mrd_name {w : World} {B rb ab : Nat} {l : List UInt8} {bad : Bool} (is : Bool) (h : MRd w B rb l bad) (hB : B ≤ rb) (ha : Box w ab 71 #[.bool is, .int .u64 0, .string ⟨#[]⟩, .int .u32 0, .string ⟨#[]⟩, .string ⟨#[]⟩, .slice none 0 0, .int .u8 0, .int .u64 0, .string ⟨#[]⟩, .slice none 0 0, .slice none 0 0]) (hab : B ≤ ab) (hne : ab ≠ rb) (x : Xd) (n er : Nat) (hg : getR l = (x, n, er)) :
  Calls Tryz.prog 59 #[.pointer (some ⟨rb, 0, none⟩), .pointer (some ⟨ab, 0, none⟩)] w fun e w' => OctR w B rb ab (if (bad || decide (er ≠ 0)) = true then l else l.drop n) (bad || decide (er ≠ 0)) #[.bool is, .int .u64 0, .string ⟨#[]⟩, .int .u32 (x.fmt : Int), .string (str x.glob), .string (str x.bran), .slice none 0 0, .int .u8 0, .int .u64 0, .string ⟨#[]⟩, .slice none 0 0, .slice none 0 0] e w' := by
 have hnl := getR_len l
 rw [hg] at hnl
 obtain ⟨lr, hlr⟩ : ∃ y, y = (if (bad || decide (er ≠ 0)) = true then l else l.drop n) := ⟨_, rfl⟩
 obtain ⟨br, hbr⟩ : ∃ y, y = (bad || decide (er ≠ 0)) := ⟨_, rfl⟩
 rw [← hlr, ← hbr]
 have HLR := Lib.hid hlr
 have HBR := Lib.hid hbr
 clear hlr hbr
 obtain ⟨A, m, c, hbx, hr, hm⟩ := h
 have hln : l.length = m := RdB.length hr
 have hbw := hbx.lt
 have haw := ha.lt
 have hBw : B ≤ w.heap.size := by omega
 have hgt := xdget_any A m c l w (rd_wide hr hBw) hm
 rw [hg] at hgt
 have c0 := hbx.c0
 simp only at hnl hgt
 unfold xdV at hgt
 clear hg
 go_enter Tryz.func59, Tryz.ntmps59
 go_wp2_with (with_reducible refine h_A ?_)
 refine hgt.mono ?_
 rintro e w2 ⟨rfl, hB2⟩
 have hK2 := (KP.refl B rb ab w).below hBw hB2
 have hb2 := hbx.below hB2
 have ha2 := ha.below hB2
 have hr2 := hr.below (hB2.mono hBw)
 have hs2 := hB2.size
 have hz := Box.new w2 #[.int .u32 0, .string ⟨#[]⟩, .string ⟨#[]⟩] 58
 have hBz := (Below.refl w2.heap.size w2).alloc (Nat.le_refl _) (.cells #[.int .u32 0, .string ⟨#[]⟩, .string ⟨#[]⟩] 58)
 have hb3 := hb2.below hBz
 have ha3 := ha2.below hBz
 have hr3 := hr2.below (hBz.mono (by omega))
 have hK3 := hK2.below hBw hBz
 clear hgt c0 hbx ha hr hB2 hb2 ha2 hr2 hK2
 go_wp2_with (with_reducible refine h_B ?_)
 obtain ⟨zb, hzb⟩ : ∃ g, g = w2.heap.size := ⟨_, rfl⟩
 rw [← hzb] at hz hs2 ⊢
 clear hzb hBz
 generalize (w2.alloc (.cells #[.int .u32 0, .string ⟨#[]⟩, .string ⟨#[]⟩] 58)) = w3 at *
 refine unhold (wp_box (v := .agg #[.int .u32 (x.fmt : Int), .string (str x.glob), .string (str x.bran)]) (vs := [.int .u32 (x.fmt : Int), .string (str x.glob), .string (str x.bran)]) rfl rfl rfl rfl hz rfl (by kernel_rfl) (by simp) (by intro u hu; simp at hu; rcases hu with rfl | rfl | rfl <;> rfl) #[.int .u32 (x.fmt : Int), .string (str x.glob), .string (str x.bran)] (by simp) ?_)
 intro w4 hz4 hg4 _
 have hb4 := hb3.grown hg4 (sne (by omega))
 have ha4 := ha3.grown hg4 (sne (by omega))
 have hr4 := hr3.grown hg4 (by have := hz.lt; omega) (fun g hg => by injection hg with hg; omega)
 have hK4 := hK3.grown hBw hg4 (fun g hg => by injection hg with hg; exact ⟨by omega, .inr (.inr (by omega))⟩)
 clear hz hb3 ha3 hr3 hK3 hg4
 have x0 := hz4.c0
 have x1 := hz4.c1
 have x2 := hz4.c2
 go_wp2_with (with_reducible refine h_B ?_)
 refine unhold (wp_box (v := .agg #[.int .u32 (x.fmt : Int), .string (str x.glob), .string (str x.bran)]) (vs := [.int .u32 (x.fmt : Int), .string (str x.glob), .string (str x.bran)]) rfl rfl rfl rfl ha4 rfl (by kernel_rfl) (by simp) (by intro u hu; simp at hu; rcases hu with rfl | rfl | rfl <;> rfl) #[.bool is, .int .u64 0, .string ⟨#[]⟩, .int .u32 (x.fmt : Int), .string (str x.glob), .string (str x.bran), .slice none 0 0, .int .u8 0, .int .u64 0, .string ⟨#[]⟩, .slice none 0 0, .slice none 0 0] (by simp) ?_)
 intro w5 ha5 hg5 _
 have hb5 := hb4.grown hg5 (sne (by omega))
 have hr5 := hr4.grown hg5 (by have := ha4.lt; omega) (fun g hg => by injection hg with hg; omega)
 have hK5 := hK4.grown hBw hg5 (fun g hg => by injection hg with hg; exact ⟨by omega, .inr (.inl hg.symm)⟩)
 have hzl := hz4.lt
 have hs5 := hg5.size
 clear hz4 hb4 ha4 hr4 hK4 hg5 x0 x1 x2
 have hM5 : MRd w5 B rb l bad := ⟨A, m, c, hb5, hr5, hm⟩
 cases br
 ·have hb0 : bad = false ∧ er = 0 := by
   have := HBR.out.symm
   simpa using this
  obtain ⟨hb0, he0⟩ := hb0
  subst hb0 he0
  have htk := mtk_ok hM5 hB n hnl
  go_wp2_with (with_reducible refine h_A ?_)
  refine htk.mono ?_
  rintro e w6 ⟨rfl, hM6, hg6⟩
  have ha6 := ha5.grown hg6 (sne (by omega))
  have hK6 := hK5.grown hBw hg6 (fun g hg => by injection hg with hg; exact ⟨by omega, .inl hg.symm⟩)
  go_wp2_with (with_reducible refine h_A ?_)
  go_end0
  have e2 := HLR.out
  simp at e2
  rw [e2]
  exact ⟨rfl, ha6, hM6, hK6⟩
 ·have hb0 : bad = true ∨ er ≠ 0 := by
   have := HBR.out.symm
   simpa using this
  have htk := mtk_bad hM5 hB (n : Int) (er : Int) (hb0.imp id (fun h => by omega))
  go_wp2_with (with_reducible refine h_A ?_)
  refine htk.mono ?_
  rintro e w6 ⟨rfl, hM6, hg6⟩
  have ha6 := ha5.grown hg6 (sne (by omega))
  have hK6 := hK5.grown hBw hg6 (fun g hg => by injection hg with hg; exact ⟨by omega, .inl hg.symm⟩)
  go_wp2_with (with_reducible refine h_A ?_)
  go_end0
  have e2 : lr = l := by rw [HLR.out, ← HBR.out, if_pos rfl]
  rw [e2]
  exact ⟨rfl, ha6, hM6, hK6⟩
end Go.PH
end
section
/- The method reader's reader of sets: the walk of the program. -/
namespace Go.PH
open Go.RowKit Go.Proofs

theorem spGetN_len (b : List UInt8) : spGetN b ≤ b.length := by
 unfold spGetN
 split
 ·rename_i h
  unfold spGetErr at h
  split at h
  ·omega
  split at h
  ·omega
  split at h
  ·omega
  ·omega
 ·exact Nat.zero_le _
set_option maxRecDepth 20000 in
set_option maxHeartbeats 1000000 in
theorem mrd_set {w : World} {B rb ab : Nat} {l : List UInt8} {bad : Bool} (is : Bool) (h : MRd w B rb l bad) (hB : B ≤ rb) (ha : Box w ab 71 #[.bool is, .int .u64 0, .string ⟨#[]⟩, .int .u32 0, .string ⟨#[]⟩, .string ⟨#[]⟩, .slice none 0 0, .int .u8 0, .int .u64 0, .string ⟨#[]⟩, .slice none 0 0, .slice none 0 0]) (hab : B ≤ ab) (hne : ab ≠ rb) :
  Calls Tryz.prog 60 #[.pointer (some ⟨rb, 0, none⟩), .pointer (some ⟨ab, 0, none⟩)] w fun e w' => ∃ A2 c2, OctR w B rb ab (if (bad || decide (spGetErr l ≠ 0)) = true then l else l.drop (spGetN l)) (bad || decide (spGetErr l ≠ 0)) #[.bool is, .int .u64 0, .string ⟨#[]⟩, .int .u32 0, .string ⟨#[]⟩, .string ⟨#[]⟩, .slice A2 (spGet l).length c2, .int .u8 0, .int .u64 0, .string ⟨#[]⟩, .slice none 0 0, .slice none 0 0] e w' ∧ OwnS w' w.heap.size A2 (spGet l).length c2 (spGet l) := by
 have hnl := spGetN_len l
 obtain ⟨lr, hlr⟩ : ∃ y, y = (if (bad || decide (spGetErr l ≠ 0)) = true then l else l.drop (spGetN l)) := ⟨_, rfl⟩
 obtain ⟨br, hbr⟩ : ∃ y, y = (bad || decide (spGetErr l ≠ 0)) := ⟨_, rfl⟩
 rw [← hlr, ← hbr]
 have HLR := Lib.hid hlr
 have HBR := Lib.hid hbr
 clear hlr hbr
 obtain ⟨A, m, c, hbx, hr, hm⟩ := h
 have hln : l.length = m := RdB.length hr
 have hbw := hbx.lt
 have haw := ha.lt
 have hBw : B ≤ w.heap.size := by omega
 have hgt := spget_any A m c l w (rd_wide hr hBw) hm
 have c0 := hbx.c0
 generalize spGetErr l = er at *
 generalize spGetN l = n at *
 go_enter Tryz.func60, Tryz.ntmps60
 go_wp2_with (with_reducible refine h_A ?_)
 refine hgt.mono ?_
 rintro e w4 ⟨A2, c2, rfl, ho4, hB2⟩
 have hK4 := (KP.refl B rb ab w).below hBw hB2
 have hb4 := hbx.below hB2
 have ha4 := ha.below hB2
 have hr4 := hr.below (hB2.mono hBw)
 have hs4 := hB2.size
 clear hgt c0 hbx ha hr hB2
 go_wp2_with (with_reducible refine h_B ?_)
 refine unhold (wp_box (v := .slice A2 (spGet l).length c2) (vs := [.slice A2 (spGet l).length c2]) rfl rfl rfl rfl ha4 rfl (by kernel_rfl) (by simp) (by simp; rfl) #[.bool is, .int .u64 0, .string ⟨#[]⟩, .int .u32 0, .string ⟨#[]⟩, .string ⟨#[]⟩, .slice A2 (spGet l).length c2, .int .u8 0, .int .u64 0, .string ⟨#[]⟩, .slice none 0 0, .slice none 0 0] (by simp) ?_)
 intro w5 ha5 hg5 _
 have hb5 := hb4.grown hg5 (sne (by omega))
 have hr5 := hr4.grown hg5 (by have := ha4.lt; omega) (fun g hg => by injection hg with hg; omega)
 have hK5 := hK4.grown hBw hg5 (fun g hg => by injection hg with hg; exact ⟨by omega, .inr (.inl hg.symm)⟩)
 have ho5 : OwnS w5 w.heap.size A2 (spGet l).length c2 (spGet l) := own_stays ho4 hg5 (fun g hg e => by injection e with e; have := (ho4.blk_lt hg).1; omega)
 clear hb4 ha4 hr4 hK4 ho4 hg5
 have hM5 : MRd w5 B rb l bad := ⟨A, m, c, hb5, hr5, hm⟩
 cases br
 ·have hb0 : bad = false ∧ er = 0 := by
   have := HBR.out.symm
   simpa using this
  obtain ⟨hb0, he0⟩ := hb0
  subst hb0 he0
  have htk := mtk_ok hM5 hB n hnl
  go_wp2_with (with_reducible refine h_A ?_)
  refine htk.mono ?_
  rintro e w6 ⟨rfl, hM6, hg6⟩
  have ha6 := ha5.grown hg6 (sne (by omega))
  have hK6 := hK5.grown hBw hg6 (fun g hg => by injection hg with hg; exact ⟨by omega, .inl hg.symm⟩)
  have ho6 := own_stays ho5 hg6 (fun g hg e => by injection e with e; have := (ho5.blk_lt hg).1; omega)
  go_wp2_with (with_reducible refine h_A ?_)
  go_end0
  have e2 := HLR.out
  simp at e2
  rw [e2]
  exact ⟨A2, c2, ⟨rfl, ha6, hM6, hK6⟩, ho6⟩
 ·have hb0 : bad = true ∨ er ≠ 0 := by
   have := HBR.out.symm
   simpa using this
  have htk := mtk_bad hM5 hB (n : Int) (er : Int) (hb0.imp id (fun h => by omega))
  go_wp2_with (with_reducible refine h_A ?_)
  refine htk.mono ?_
  rintro e w6 ⟨rfl, hM6, hg6⟩
  have ha6 := ha5.grown hg6 (sne (by omega))
  have hK6 := hK5.grown hBw hg6 (fun g hg => by injection hg with hg; exact ⟨by omega, .inl hg.symm⟩)
  have ho6 := own_stays ho5 hg6 (fun g hg e => by injection e with e; have := (ho5.blk_lt hg).1; omega)
  go_wp2_with (with_reducible refine h_A ?_)
  go_end0
  have e2 : lr = l := by rw [HLR.out, ← HBR.out, if_pos rfl]
  rw [e2]
  exact ⟨A2, c2, ⟨rfl, ha6, hM6, hK6⟩, ho6⟩
end Go.PH
end
section
/- What each of the method reader's readers answers, in one form. -/
namespace Go.PH
open Go.RowKit Go.Proofs

/-- an argument was read -/
def ArgRd (w : World) (B rb ab : Nat) (kd : UInt8) (is : Bool) (l : List UInt8) (bad : Bool) (e : Ending) (w' : World) : Prop := ∃ (a : Ag) (h : AH) (l' : List UInt8) (bad' : Bool), e = .returned (.tuple #[]) ∧ Box w' ab 71 (agV a h) ∧ RA w' (FN w.heap.size w') a h ∧ MRd w' B rb l' bad' ∧ KP B rb ab w w' ∧ a.is = is ∧
 ∀ (a' : Ag) (rest : List UInt8), bad = false → l = byA kd a' ++ rest → okA kd a' = true → AB a' → a'.is = is → a = a' ∧ l' = rest ∧ bad' = false
theorem drop_back (X rest : List UInt8) : (X ++ rest).drop ((X ++ rest).length - rest.length) = rest := by
 rw [List.length_append, Nat.add_sub_cancel, List.drop_left]
theorem num_arg {w w' : World} {B rb ab : Nat} {is : Bool} {l : List UInt8} {bad : Bool} {e : Ending} (kd : UInt8) (k : Nat) (hk : k = 1 ∨ k = 2 ∨ k = 4) (hby : ∀ a, byA kd a = be k a.n) (hok : ∀ a, okA kd a = true → a.n < 256 ^ k ∧ sameA a (agN a) = true)
  (h : OctR w B rb ab (if (bad || (mnum l false (k : Int)).2.2) = true then l else l.drop (l.length - (mnum l false (k : Int)).2.1.length)) (bad || (mnum l false (k : Int)).2.2) #[.bool is, .int .u64 ((mnum l false (k : Int)).1 : Int), .string ⟨#[]⟩, .int .u32 0, .string ⟨#[]⟩, .string ⟨#[]⟩, .slice none 0 0, .int .u8 0, .int .u64 0, .string ⟨#[]⟩, .slice none 0 0, .slice none 0 0] e w') : ArgRd w B rb ab kd is l bad e w' := by
 obtain ⟨rfl, hb, hm, hK⟩ := h
 refine ⟨⟨is, (mnum l false (k : Int)).1, [], xd0, [], vl0⟩, ah0, _, _, rfl, hb, ?_, hm, hK, rfl, ?_⟩
 ·have hz := RA.zero w' (FN w.heap.size w') is
  exact ⟨mnum_lt l false k, hz.s, hz.x, hz.q, hz.ok, hz.c, hz.v⟩
 ·intro a' rest hbad hl hka _ his
  obtain ⟨h1, h2⟩ := hok a' hka
  rw [hby] at hl
  have e1 := mnum_at k (by omega) a'.n h1 rest
  subst hl hbad
  rw [e1]
  have e2 : a' = agN a' := (sameA_iff _ _).1 h2
  have e3 : a'.is = true := by rw [e2]; rfl
  refine ⟨?_, by simp, rfl⟩
  rw [e2]
  simp only [agN]
  rw [← his, e3]
theorem txt_arg {w w' : World} {B rb ab : Nat} {is : Bool} {l : List UInt8} {bad : Bool} {e : Ending} (kd : UInt8) (k : Nat) (hk : k = 1 ∨ k = 2) (most : Nat) (hms : 256 ^ k ≤ most + 1) (hmx : most ≤ 65535) (hby : ∀ a, byA kd a = putsText [] a.s (k : Int)) (hok : ∀ a, okA kd a = true → textErr a.s.length (k : Int) = 0 ∧ sameA a (agS a) = true)
  (h : OctR w B rb ab (if (bad || (mtext l false (k : Int) (most : Int)).2.2) = true then l else l.drop (l.length - (mtext l false (k : Int) (most : Int)).2.1.length)) (bad || (mtext l false (k : Int) (most : Int)).2.2) #[.bool is, .int .u64 0, .string (str (mtext l false (k : Int) (most : Int)).1), .int .u32 0, .string ⟨#[]⟩, .string ⟨#[]⟩, .slice none 0 0, .int .u8 0, .int .u64 0, .string ⟨#[]⟩, .slice none 0 0, .slice none 0 0] e w') : ArgRd w B rb ab kd is l bad e w' := by
 obtain ⟨rfl, hb, hm, hK⟩ := h
 refine ⟨⟨is, 0, (mtext l false (k : Int) (most : Int)).1, xd0, [], vl0⟩, ah0, _, _, rfl, hb, ?_, hm, hK, rfl, ?_⟩
 ·have hz := RA.zero w' (FN w.heap.size w') is
  exact ⟨hz.n, by have := mtext_slen l false k most; show (mtext l false (k : Int) (most : Int)).1.length ≤ _; omega, hz.x, hz.q, hz.ok, hz.c, hz.v⟩
 ·intro a' rest hbad hl hka _ his
  obtain ⟨h1, h2⟩ := hok a' hka
  obtain ⟨h3, h4⟩ := text_ok hk h1
  rw [hby, h4] at hl
  have e1 := mtext_app2 k (by omega) a'.s rest most h3 (by omega)
  subst hl hbad
  rw [e1]
  have e2 : a' = agS a' := (sameA_iff _ _).1 h2
  have e3 : a'.is = true := by rw [e2]; rfl
  refine ⟨?_, (by rw [if_neg (by simp)]; exact drop_back _ _), rfl⟩
  rw [e2]
  simp only [agS]
  rw [← his, e3]
theorem bit_arg {w w' : World} {B rb ab : Nat} {is : Bool} {l : List UInt8} {bad : Bool} {e : Ending} (h : OctR w B rb ab l bad #[.bool is, .int .u64 0, .string ⟨#[]⟩, .int .u32 0, .string ⟨#[]⟩, .string ⟨#[]⟩, .slice none 0 0, .int .u8 0, .int .u64 0, .string ⟨#[]⟩, .slice none 0 0, .slice none 0 0] e w') : ArgRd w B rb ab 98 is l bad e w' := by
 obtain ⟨rfl, hb, hm, hK⟩ := h
 refine ⟨ag0 is, ah0, _, _, rfl, hb, RA.zero _ _ _, hm, hK, rfl, ?_⟩
 intro a' rest hbad hl hka _ his
 have h2 : sameA a' (ag0 a'.is) = true := hka
 have e2 : a' = ag0 a'.is := (sameA_iff _ _).1 h2
 refine ⟨by rw [e2, ← his], ?_, hbad⟩
 rw [hl]
 rfl
theorem value_arg {w w' : World} {B rb ab : Nat} {is : Bool} {l : List UInt8} {bad : Bool} {e : Ending} (x : Vl) (n : Nat) (er : Int) (hg : vget l = (x, n, er)) (h1 : VH)
  (h : OctR w B rb ab (if (bad || decide (er ≠ 0)) = true then l else l.drop n) (bad || decide (er ≠ 0)) #[.bool is, .int .u64 0, .string ⟨#[]⟩, .int .u32 0, .string ⟨#[]⟩, .string ⟨#[]⟩, .slice none 0 0, .int .u8 (x.kind : Int), .int .u64 (x.n : Int), .string (str x.s), .slice h1.A1 x.keys.length h1.c1, .slice h1.A2 x.list.length h1.c2] e w') (hv : RV w' (FN w.heap.size w') x h1) : ArgRd w B rb ab 118 is l bad e w' := by
 obtain ⟨rfl, hb, hm, hK⟩ := h
 refine ⟨⟨is, 0, [], xd0, [], x⟩, ⟨none, 0, h1⟩, _, _, rfl, hb, ?_, hm, hK, rfl, ?_⟩
 ·have hz := RA.zero w' (FN w.heap.size w') is
  exact ⟨hz.n, hz.s, hz.x, hz.q, hz.ok, hz.c, hv⟩
 ·intro a' rest hbad hl hka hab his
  have h2 : (decide (errV a'.v = 0) && sameA a' (agX2 a')) = true := hka
  rw [Bool.and_eq_true, decide_eq_true_eq] at h2
  obtain ⟨h3, h4⟩ := h2
  have e2 : a' = agX2 a' := (sameA_iff _ _).1 h4
  have e3 : a'.is = true := by rw [e2]; rfl
  have hl' : l = vlB a'.v ++ rest := by
   rw [hl]
   show vlP a'.v ++ rest = _
   rw [vlP, if_pos h3]
  rw [hl', vget_ok hab.v h3] at hg
  injection hg with g1 g2
  injection g2 with g2 g3
  subst g1 g2 g3 hbad
  refine ⟨?_, ?_, rfl⟩
  ·rw [e2]
   simp only [agX2]
   rw [← his, e3]
  ·rw [if_neg (by simp), hl', List.drop_left]
theorem getR_wf (l : List UInt8) : (getR l).1.wf := by
 have h0 : xd00.wf := ⟨by decide, by decide, by decide⟩
 unfold getR
 split
 ·exact h0
 ·split
  ·refine ⟨Nat.mod_lt _ (by decide), ?_, ?_⟩
   ·have := mtext_slen (mnum l false 4).2.1 (mnum l false 4).2.2 1 255
    exact Nat.le_trans this (by decide)
   ·have := mtext_slen (getT (mnum l false 4).2.1 (mnum l false 4).2.2).2.1 (getT (mnum l false 4).2.1 (mnum l false 4).2.2).2.2 1 255
    exact Nat.le_trans this (by decide)
  ·exact h0
theorem name_arg {w w' : World} {B rb ab : Nat} {is : Bool} {l : List UInt8} {bad : Bool} {e : Ending} (x : Xd) (n er : Nat) (hg : getR l = (x, n, er))
  (h : OctR w B rb ab (if (bad || decide (er ≠ 0)) = true then l else l.drop n) (bad || decide (er ≠ 0)) #[.bool is, .int .u64 0, .string ⟨#[]⟩, .int .u32 (x.fmt : Int), .string (str x.glob), .string (str x.bran), .slice none 0 0, .int .u8 0, .int .u64 0, .string ⟨#[]⟩, .slice none 0 0, .slice none 0 0] e w') : ArgRd w B rb ab 120 is l bad e w' := by
 obtain ⟨rfl, hb, hm, hK⟩ := h
 have hwf := getR_wf l
 rw [hg] at hwf
 refine ⟨⟨is, 0, [], x, [], vl0⟩, ah0, _, _, rfl, hb, ?_, hm, hK, rfl, ?_⟩
 ·have hz := RA.zero w' (FN w.heap.size w') is
  exact ⟨hz.n, hz.s, hwf, hz.q, hz.ok, hz.c, hz.v⟩
 ·intro a' rest hbad hl hka hab his
  have h2 : (decide (((a'.x.err : Nat) : Int) = 0) && sameA a' (agX a')) = true := hka
  rw [Bool.and_eq_true, decide_eq_true_eq] at h2
  obtain ⟨h3, h4⟩ := h2
  have e2 : a' = agX a' := (sameA_iff _ _).1 h4
  have e3 : a'.is = true := by rw [e2]; rfl
  have hok : a'.x.ok = true := by
   cases hk : a'.x.ok
   ·simp [Xd.err, hk] at h3
   ·rfl
  have hl' : l = a'.x.bytes ++ rest := by
   rw [hl]
   show a'.x.put ++ rest = _
   rw [Xd.put_ok hok]
  rw [hl', getR_bytes hab.x hok] at hg
  injection hg with g1 g2
  injection g2 with g2 g3
  subst g1 g2 g3 hbad
  refine ⟨?_, ?_, rfl⟩
  ·rw [e2]
   simp only [agX]
   rw [← his, e3]
  ·rw [if_neg (by simp), hl', List.drop_left]
end Go.PH
end
section
/- What the method reader's reader of sets answers; all nine in one form. -/
namespace Go.PH
open Go.RowKit Go.Proofs

theorem spGet_okM (b : List UInt8) : spOK 4294967296 (spGet b) := by
 unfold spGet
 split
 ·exact getSpans_ok _ _
 ·intro z hz; cases hz
theorem set_arg {w w' : World} {B rb ab : Nat} {is : Bool} {l : List UInt8} {bad : Bool} {e : Ending} (A2 : Option Addr) (c2 : Nat)
  (h : OctR w B rb ab (if (bad || decide (spGetErr l ≠ 0)) = true then l else l.drop (spGetN l)) (bad || decide (spGetErr l ≠ 0)) #[.bool is, .int .u64 0, .string ⟨#[]⟩, .int .u32 0, .string ⟨#[]⟩, .string ⟨#[]⟩, .slice A2 (spGet l).length c2, .int .u8 0, .int .u64 0, .string ⟨#[]⟩, .slice none 0 0, .slice none 0 0] e w') (ho : OwnS w' w.heap.size A2 (spGet l).length c2 (spGet l)) (hlen : (spGet l).length ≤ 140737488351232) : ArgRd w B rb ab 114 is l bad e w' := by
 obtain ⟨rfl, hb, hm, hK⟩ := h
 refine ⟨⟨is, 0, [], xd0, spGet l, vl0⟩, ⟨A2, c2, ⟨none, 0, none, 0⟩⟩, _, _, rfl, hb, ?_, hm, hK, rfl, ?_⟩
 ·have hz := RA.zero w' (FN w.heap.size w') is
  refine ⟨hz.n, hz.s, hz.x, RdX.of_own ho (fun g hg => ?_), spGet_okM l, hlen, hz.v⟩
  have := ho.blk_lt hg
  exact ⟨this.1, this.2⟩
 ·intro a' rest hbad hl hka hab his
  have h2 : (decide (((spPutErr a'.q : Nat) : Int) = 0) && sameA a' (agQ a')) = true := hka
  rw [Bool.and_eq_true, decide_eq_true_eq] at h2
  obtain ⟨h3, h4⟩ := h2
  have e2 : a' = agQ a' := (sameA_iff _ _).1 h4
  have e3 : a'.is = true := by rw [e2]; rfl
  have hl' : l = spPut a'.q ++ rest := hl
  have hrl : spRight a'.q = true ∧ a'.q.length ≤ 1000 := by
   unfold spPutErr at h3
   split at h3
   ·rename_i hr
    split at h3
    ·exact ⟨hr, by omega⟩
    ·omega
   ·omega
  obtain ⟨g1, g2, g3⟩ := put_got rest hrl.1 hrl.2 hab.q
  rw [← hl'] at g1 g2 g3
  subst hbad
  rw [g1, g2, g3]
  refine ⟨?_, ?_, rfl⟩
  ·rw [e2]
   simp only [agQ]
   rw [← his, e3]
  ·rw [if_neg (by simp), hl', List.drop_left]
end Go.PH
end
section
/- All of the method reader's readers in one form. -/
namespace Go.PH
open Go.RowKit Go.Proofs

/-- the reader of a kind -/
def rdFn (kd : UInt8) : FuncId :=
 if kd = 98 then 53 else if kd = 110 then 54 else if kd = 119 then 55 else if kd = 100 then 56
 else if kd = 115 then 57 else if kd = 116 then 58 else if kd = 120 then 59 else if kd = 114 then 60 else 61
theorem num_ok {a : Ag} {k : Nat} (h : (decide (a.n < k) && sameA a (agN a)) = true) : a.n < k ∧ sameA a (agN a) = true := by
 rw [Bool.and_eq_true, decide_eq_true_eq] at h; exact h
theorem txt_ok {a : Ag} {k : Int} (h : (decide (textErr a.s.length k = 0) && sameA a (agS a)) = true) : textErr a.s.length k = 0 ∧ sameA a (agS a) = true := by
 rw [Bool.and_eq_true, decide_eq_true_eq] at h; exact h
theorem mrd_any (kd : UInt8) (hk : kd ∈ kindL) {w : World} {B rb ab : Nat} {l : List UInt8} {bad : Bool} (is : Bool) (h : MRd w B rb l bad) (hB : B ≤ rb) (ha : Box w ab 71 #[.bool is, .int .u64 0, .string ⟨#[]⟩, .int .u32 0, .string ⟨#[]⟩, .string ⟨#[]⟩, .slice none 0 0, .int .u8 0, .int .u64 0, .string ⟨#[]⟩, .slice none 0 0, .slice none 0 0]) (hab : B ≤ ab) (hne : ab ≠ rb) (hT : UTabs w) :
  Calls Tryz.prog (rdFn kd) #[.pointer (some ⟨rb, 0, none⟩), .pointer (some ⟨ab, 0, none⟩)] w (ArgRd w B rb ab kd is l bad) := by
 unfold kindL at hk
 simp only [List.mem_cons, List.not_mem_nil, or_false] at hk
 rcases hk with rfl | rfl | rfl | rfl | rfl | rfl | rfl | rfl | rfl
 ·exact (mrd_bit h ha).mono fun e w' hh => bit_arg hh
 ·exact (mrd_byte is h hB ha hab hne _ rfl (mnum_len _ _ _)).mono fun e w' hh => num_arg 110 1 (.inl rfl) (fun a => rfl) (fun a h => num_ok h) hh
 ·exact (mrd_word is h hB ha hab hne _ rfl (mnum_len _ _ _)).mono fun e w' hh => num_arg 119 2 (.inr (.inl rfl)) (fun a => rfl) (fun a h => num_ok h) hh
 ·exact (mrd_long is h hB ha hab hne _ rfl (mnum_len _ _ _)).mono fun e w' hh => num_arg 100 4 (.inr (.inr rfl)) (fun a => rfl) (fun a h => num_ok h) hh
 ·exact (mrd_short is h hB ha hab hne _ rfl (mtext_len _ _ _ _)).mono fun e w' hh => txt_arg 115 1 (.inl rfl) 255 (by decide) (by decide) (fun a => rfl) (fun a h => txt_ok h) hh
 ·exact (mrd_text is h hB ha hab hne _ rfl (mtext_len _ _ _ _)).mono fun e w' hh => txt_arg 116 2 (.inr rfl) 65535 (by decide) (by decide) (fun a => rfl) (fun a h => txt_ok h) hh
 ·exact (mrd_name is h hB ha hab hne (getR l).1 (getR l).2.1 (getR l).2.2 rfl).mono fun e w' hh => name_arg _ _ _ rfl hh
 ·exact (mrd_set is h hB ha hab hne).mono fun e w' ⟨A2, c2, hh, ho⟩ => set_arg A2 c2 hh ho (by
   unfold spGet
   split
   ·rw [getSpans_len]
    have hN : getN l < 65536 := unbe_take
    omega
   ·simp)
 ·exact (mrd_value is h hB ha hab hne hT (vget l).1 (vget l).2.1 (vget l).2.2 rfl).mono fun e w' ⟨h1, hh, hv⟩ => value_arg _ _ _ rfl h1 hh hv
end Go.PH
end

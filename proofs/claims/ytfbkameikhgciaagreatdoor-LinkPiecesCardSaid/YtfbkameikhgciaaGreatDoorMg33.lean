/- Texts laid together: MdRd1, MdRd2, MdRd3. -/
import Derived.Test.YtfbkameikhgciaaGreatDoorMg07
import Derived.Test.YtfbkameikhgciaaGreatDoorMg08
import Derived.Test.YtfbkameikhgciaaGreatDoorMg19
import Derived.Test.YtfbkameikhgciaaGreatDoorMg27
import Derived.Test.YtfbkameikhgciaaGreatDoorMg32
set_option linter.all false
set_option linter.unusedSimpArgs false
set_option linter.unusedVariables false
set_option maxRecDepth 20000
set_option maxHeartbeats 8000000
section
namespace Go.PH
open Go.RowKit Go.Proofs
theorem VQ {F : Nat → Prop} {W : World} {o vb ab cb B : Nat} {l : List UInt8} (is : Bool) (T : _) (hT : T = mnum l false 1) (hr : Rdr F W (.pointer (some ⟨o, 0, none⟩)) (some vb) l false) (hcb : Box W cb 198 #[.pointer (some ⟨ab, 0, none⟩)]) (ha : Box W ab 80 #[.bool is, .int .u64 0, .string ⟨#[]⟩, .int .u32 0, .string ⟨#[]⟩, .string ⟨#[]⟩, .slice none 0 0, .int .u8 0, .int .u64 0, .string ⟨#[]⟩, .slice none 0 0, .slice none 0 0]) (hFa : ¬ F ab) (hvc : vb ≠ cb) (hva : vb ≠ ab) (hca : cb ≠ ab) (hBa : B ≤ ab) (hBv : B ≤ vb) (hBW : B ≤ W.heap.size) :
  Calls Tryz.prog 153 #[.pointer (some ⟨o, 0, none⟩), .pointer (some ⟨cb, 0, none⟩)] W fun e W' => e = .returned (.tuple #[]) ∧ Rdr F W' (.pointer (some ⟨o, 0, none⟩)) (some vb) T.2.1 T.2.2 ∧ Box W' ab 80 #[.bool is, .int .u64 (T.1 : Int), .string ⟨#[]⟩, .int .u32 0, .string ⟨#[]⟩, .string ⟨#[]⟩, .slice none 0 0, .int .u8 0, .int .u64 0, .string ⟨#[]⟩, .slice none 0 0, .slice none 0 0] ∧ KP B ab vb W W' := by
 have h1 := fun W (h : Rdr F W (.pointer (some ⟨o, 0, none⟩)) (some vb) l false) => zP h 1 (by omega) (by omega)
 rw [← hT] at h1
 clear hT
 have hKP := KP.refl B ab vb W
 go_enter Tryz.func153, Tryz.ntmps153
 go_upto_region 0 with fail
 refine zD (fun W : World => Box W cb 198 #[.pointer (some ⟨ab, 0, none⟩)]) (by kernel_rfl) ?_
 replace hcb : Box W.drew cb 198 #[.pointer (some ⟨ab, 0, none⟩)] := hcb
 replace ha : Box W.drew ab 80 #[.bool is, .int .u64 0, .string ⟨#[]⟩, .int .u32 0, .string ⟨#[]⟩, .string ⟨#[]⟩, .slice none 0 0, .int .u8 0, .int .u64 0, .string ⟨#[]⟩, .slice none 0 0, .slice none 0 0] := ha
 replace hr := hr.drew
 replace hKP := hKP.drew
 have h1 := h1 _ hr
 generalize W.drew = wd at *
 refine zv 0 (v := ?_) rfl (by kernel_rfl) (by kernel_rfl) (by kernel_rfl) hcb rfl ?_ ?_
 rotate_left
 ·intro wS hSw; have y0 := hSw.cell (j := 0) rfl; go_simp; (with_reducible rfl)
 simp only [List.getElem_toArray, List.getElem_cons_zero, Act.put, List.setIfInBounds_toArray, List.set_cons_zero, List.set_cons_succ]
 refine rg_t 1 hcb ?_
 simp only [g_S, Act.put]
 refine zi 2 rfl (by kernel_rfl) rfl (fun K hK => ?_)
 go_simp
 refine h1.mono ?_
 rintro e w2 ⟨rfl, hr2, hg2⟩
 have hcb2 := hcb.grown hg2 (sne (by omega))
 have ha2 := ha.grown hg2 (sne (by omega))
 have hKP2 := hKP.grown hBW hg2 (fun g hg => by injection hg with hg; exact ⟨by omega, .inr (.inl hg.symm)⟩)
 clear h1 hr hcb ha hKP hg2
 refine hK _ _ hcb2 ?_; clear hK K
 try simp only [g_S, Act.put]
 refine rg_t 3 hcb2 ?_
 simp only [g_S, Act.put]
 refine rg_t 4 hcb2 ?_
 simp only [g_S, Act.put]
 refine zi 5 rfl (by kernel_rfl) rfl (fun K hK => ?_)
 refine zM (g := ab) (j := 1) (v := .int .u64 (T.1 : Int)) (vs := [.int .u64 (T.1 : Int)]) rfl rfl rfl ha2 rfl (by kernel_rfl) (by simp) (by simp; rfl) #[.bool is, .int .u64 (T.1 : Int), .string ⟨#[]⟩, .int .u32 0, .string ⟨#[]⟩, .string ⟨#[]⟩, .slice none 0 0, .int .u8 0, .int .u64 0, .string ⟨#[]⟩, .slice none 0 0, .slice none 0 0] (by simp) ?_
 intro w3 ha3 hg3 _
 have hcb3 := hcb2.grown hg3 (sne (by omega))
 have hr3 := hr2.kept hg3 (fun g hg hFg => by injection hg with hg; subst hg; exact hFa hFg)
 have hKP3 := hKP2.grown hBW hg3 (fun g hg => by injection hg with hg; exact ⟨by omega, .inl hg.symm⟩)
 refine hK _ _ hcb3 ?_; clear hK K
 refine zK (by kernel_rfl) ?_
 go_wp2_with (with_reducible refine h_A ?_)
 go_end0
 exact ⟨rfl, hr3, ha3, hKP3⟩
theorem VR {F : Nat → Prop} {W : World} {o vb ab cb B : Nat} {l : List UInt8} (is : Bool) (T : _) (hT : T = mnum l false 2) (hr : Rdr F W (.pointer (some ⟨o, 0, none⟩)) (some vb) l false) (hcb : Box W cb 198 #[.pointer (some ⟨ab, 0, none⟩)]) (ha : Box W ab 80 #[.bool is, .int .u64 0, .string ⟨#[]⟩, .int .u32 0, .string ⟨#[]⟩, .string ⟨#[]⟩, .slice none 0 0, .int .u8 0, .int .u64 0, .string ⟨#[]⟩, .slice none 0 0, .slice none 0 0]) (hFa : ¬ F ab) (hvc : vb ≠ cb) (hva : vb ≠ ab) (hca : cb ≠ ab) (hBa : B ≤ ab) (hBv : B ≤ vb) (hBW : B ≤ W.heap.size) :
  Calls Tryz.prog 154 #[.pointer (some ⟨o, 0, none⟩), .pointer (some ⟨cb, 0, none⟩)] W fun e W' => e = .returned (.tuple #[]) ∧ Rdr F W' (.pointer (some ⟨o, 0, none⟩)) (some vb) T.2.1 T.2.2 ∧ Box W' ab 80 #[.bool is, .int .u64 (T.1 : Int), .string ⟨#[]⟩, .int .u32 0, .string ⟨#[]⟩, .string ⟨#[]⟩, .slice none 0 0, .int .u8 0, .int .u64 0, .string ⟨#[]⟩, .slice none 0 0, .slice none 0 0] ∧ KP B ab vb W W' := by
 have h1 := fun W (h : Rdr F W (.pointer (some ⟨o, 0, none⟩)) (some vb) l false) => zP h 2 (by omega) (by omega)
 rw [← hT] at h1
 clear hT
 have hKP := KP.refl B ab vb W
 go_enter Tryz.func154, Tryz.ntmps154
 go_upto_region 0 with fail
 refine zD (fun W : World => Box W cb 198 #[.pointer (some ⟨ab, 0, none⟩)]) (by kernel_rfl) ?_
 replace hcb : Box W.drew cb 198 #[.pointer (some ⟨ab, 0, none⟩)] := hcb
 replace ha : Box W.drew ab 80 #[.bool is, .int .u64 0, .string ⟨#[]⟩, .int .u32 0, .string ⟨#[]⟩, .string ⟨#[]⟩, .slice none 0 0, .int .u8 0, .int .u64 0, .string ⟨#[]⟩, .slice none 0 0, .slice none 0 0] := ha
 replace hr := hr.drew
 replace hKP := hKP.drew
 have h1 := h1 _ hr
 generalize W.drew = wd at *
 refine zv 0 (v := ?_) rfl (by kernel_rfl) (by kernel_rfl) (by kernel_rfl) hcb rfl ?_ ?_
 rotate_left
 ·intro wS hSw; have y0 := hSw.cell (j := 0) rfl; go_simp; (with_reducible rfl)
 simp only [List.getElem_toArray, List.getElem_cons_zero, Act.put, List.setIfInBounds_toArray, List.set_cons_zero, List.set_cons_succ]
 refine rg_t 1 hcb ?_
 simp only [g_S, Act.put]
 refine zi 2 rfl (by kernel_rfl) rfl (fun K hK => ?_)
 go_simp
 refine h1.mono ?_
 rintro e w2 ⟨rfl, hr2, hg2⟩
 have hcb2 := hcb.grown hg2 (sne (by omega))
 have ha2 := ha.grown hg2 (sne (by omega))
 have hKP2 := hKP.grown hBW hg2 (fun g hg => by injection hg with hg; exact ⟨by omega, .inr (.inl hg.symm)⟩)
 clear h1 hr hcb ha hKP hg2
 refine hK _ _ hcb2 ?_; clear hK K
 try simp only [g_S, Act.put]
 refine rg_t 3 hcb2 ?_
 simp only [g_S, Act.put]
 refine rg_t 4 hcb2 ?_
 simp only [g_S, Act.put]
 refine zi 5 rfl (by kernel_rfl) rfl (fun K hK => ?_)
 refine zM (g := ab) (j := 1) (v := .int .u64 (T.1 : Int)) (vs := [.int .u64 (T.1 : Int)]) rfl rfl rfl ha2 rfl (by kernel_rfl) (by simp) (by simp; rfl) #[.bool is, .int .u64 (T.1 : Int), .string ⟨#[]⟩, .int .u32 0, .string ⟨#[]⟩, .string ⟨#[]⟩, .slice none 0 0, .int .u8 0, .int .u64 0, .string ⟨#[]⟩, .slice none 0 0, .slice none 0 0] (by simp) ?_
 intro w3 ha3 hg3 _
 have hcb3 := hcb2.grown hg3 (sne (by omega))
 have hr3 := hr2.kept hg3 (fun g hg hFg => by injection hg with hg; subst hg; exact hFa hFg)
 have hKP3 := hKP2.grown hBW hg3 (fun g hg => by injection hg with hg; exact ⟨by omega, .inl hg.symm⟩)
 refine hK _ _ hcb3 ?_; clear hK K
 refine zK (by kernel_rfl) ?_
 go_wp2_with (with_reducible refine h_A ?_)
 go_end0
 exact ⟨rfl, hr3, ha3, hKP3⟩
theorem VS {F : Nat → Prop} {W : World} {o vb ab cb B : Nat} {l : List UInt8} (is : Bool) (T : _) (hT : T = mnum l false 4) (hr : Rdr F W (.pointer (some ⟨o, 0, none⟩)) (some vb) l false) (hcb : Box W cb 198 #[.pointer (some ⟨ab, 0, none⟩)]) (ha : Box W ab 80 #[.bool is, .int .u64 0, .string ⟨#[]⟩, .int .u32 0, .string ⟨#[]⟩, .string ⟨#[]⟩, .slice none 0 0, .int .u8 0, .int .u64 0, .string ⟨#[]⟩, .slice none 0 0, .slice none 0 0]) (hFa : ¬ F ab) (hvc : vb ≠ cb) (hva : vb ≠ ab) (hca : cb ≠ ab) (hBa : B ≤ ab) (hBv : B ≤ vb) (hBW : B ≤ W.heap.size) :
  Calls Tryz.prog 155 #[.pointer (some ⟨o, 0, none⟩), .pointer (some ⟨cb, 0, none⟩)] W fun e W' => e = .returned (.tuple #[]) ∧ Rdr F W' (.pointer (some ⟨o, 0, none⟩)) (some vb) T.2.1 T.2.2 ∧ Box W' ab 80 #[.bool is, .int .u64 (T.1 : Int), .string ⟨#[]⟩, .int .u32 0, .string ⟨#[]⟩, .string ⟨#[]⟩, .slice none 0 0, .int .u8 0, .int .u64 0, .string ⟨#[]⟩, .slice none 0 0, .slice none 0 0] ∧ KP B ab vb W W' := by
 have h1 := fun W (h : Rdr F W (.pointer (some ⟨o, 0, none⟩)) (some vb) l false) => zP h 4 (by omega) (by omega)
 rw [← hT] at h1
 clear hT
 have hKP := KP.refl B ab vb W
 go_enter Tryz.func155, Tryz.ntmps155
 go_upto_region 0 with fail
 refine zD (fun W : World => Box W cb 198 #[.pointer (some ⟨ab, 0, none⟩)]) (by kernel_rfl) ?_
 replace hcb : Box W.drew cb 198 #[.pointer (some ⟨ab, 0, none⟩)] := hcb
 replace ha : Box W.drew ab 80 #[.bool is, .int .u64 0, .string ⟨#[]⟩, .int .u32 0, .string ⟨#[]⟩, .string ⟨#[]⟩, .slice none 0 0, .int .u8 0, .int .u64 0, .string ⟨#[]⟩, .slice none 0 0, .slice none 0 0] := ha
 replace hr := hr.drew
 replace hKP := hKP.drew
 have h1 := h1 _ hr
 generalize W.drew = wd at *
 refine zv 0 (v := ?_) rfl (by kernel_rfl) (by kernel_rfl) (by kernel_rfl) hcb rfl ?_ ?_
 rotate_left
 ·intro wS hSw; have y0 := hSw.cell (j := 0) rfl; go_simp; (with_reducible rfl)
 simp only [List.getElem_toArray, List.getElem_cons_zero, Act.put, List.setIfInBounds_toArray, List.set_cons_zero, List.set_cons_succ]
 refine rg_t 1 hcb ?_
 simp only [g_S, Act.put]
 refine zi 2 rfl (by kernel_rfl) rfl (fun K hK => ?_)
 go_simp
 refine h1.mono ?_
 rintro e w2 ⟨rfl, hr2, hg2⟩
 have hcb2 := hcb.grown hg2 (sne (by omega))
 have ha2 := ha.grown hg2 (sne (by omega))
 have hKP2 := hKP.grown hBW hg2 (fun g hg => by injection hg with hg; exact ⟨by omega, .inr (.inl hg.symm)⟩)
 clear h1 hr hcb ha hKP hg2
 refine hK _ _ hcb2 ?_; clear hK K
 try simp only [g_S, Act.put]
 refine rg_t 3 hcb2 ?_
 simp only [g_S, Act.put]
 refine rg_t 4 hcb2 ?_
 simp only [g_S, Act.put]
 refine zi 5 rfl (by kernel_rfl) rfl (fun K hK => ?_)
 refine zM (g := ab) (j := 1) (v := .int .u64 (T.1 : Int)) (vs := [.int .u64 (T.1 : Int)]) rfl rfl rfl ha2 rfl (by kernel_rfl) (by simp) (by simp; rfl) #[.bool is, .int .u64 (T.1 : Int), .string ⟨#[]⟩, .int .u32 0, .string ⟨#[]⟩, .string ⟨#[]⟩, .slice none 0 0, .int .u8 0, .int .u64 0, .string ⟨#[]⟩, .slice none 0 0, .slice none 0 0] (by simp) ?_
 intro w3 ha3 hg3 _
 have hcb3 := hcb2.grown hg3 (sne (by omega))
 have hr3 := hr2.kept hg3 (fun g hg hFg => by injection hg with hg; subst hg; exact hFa hFg)
 have hKP3 := hKP2.grown hBW hg3 (fun g hg => by injection hg with hg; exact ⟨by omega, .inl hg.symm⟩)
 refine hK _ _ hcb3 ?_; clear hK K
 refine zK (by kernel_rfl) ?_
 go_wp2_with (with_reducible refine h_A ?_)
 go_end0
 exact ⟨rfl, hr3, ha3, hKP3⟩
theorem KF {F : Nat → Prop} {W : World} {o vb ab cb B : Nat} {l : List UInt8} (is : Bool) (T : _) (hT : T = zR l false 1 255) (hr : Rdr F W (.pointer (some ⟨o, 0, none⟩)) (some vb) l false) (hcb : Box W cb 198 #[.pointer (some ⟨ab, 0, none⟩)]) (ha : Box W ab 80 #[.bool is, .int .u64 0, .string ⟨#[]⟩, .int .u32 0, .string ⟨#[]⟩, .string ⟨#[]⟩, .slice none 0 0, .int .u8 0, .int .u64 0, .string ⟨#[]⟩, .slice none 0 0, .slice none 0 0]) (hFa : ¬ F ab) (hvc : vb ≠ cb) (hva : vb ≠ ab) (hca : cb ≠ ab) (hBa : B ≤ ab) (hBv : B ≤ vb) (hBW : B ≤ W.heap.size) :
  Calls Tryz.prog 156 #[.pointer (some ⟨o, 0, none⟩), .pointer (some ⟨cb, 0, none⟩)] W fun e W' => e = .returned (.tuple #[]) ∧ Rdr F W' (.pointer (some ⟨o, 0, none⟩)) (some vb) T.2.1 T.2.2 ∧ Box W' ab 80 #[.bool is, .int .u64 0, .string (str T.1), .int .u32 0, .string ⟨#[]⟩, .string ⟨#[]⟩, .slice none 0 0, .int .u8 0, .int .u64 0, .string ⟨#[]⟩, .slice none 0 0, .slice none 0 0] ∧ KP B ab vb W W' := by
 have h1 := fun W (h : Rdr F W (.pointer (some ⟨o, 0, none⟩)) (some vb) l false) => xl h 1 255 (by omega) (by omega) (by omega) (by omega)
 rw [← hT] at h1
 clear hT
 have hKP := KP.refl B ab vb W
 go_enter Tryz.func156, Tryz.ntmps156
 go_upto_region 0 with fail
 refine zD (fun W : World => Box W cb 198 #[.pointer (some ⟨ab, 0, none⟩)]) (by kernel_rfl) ?_
 replace hcb : Box W.drew cb 198 #[.pointer (some ⟨ab, 0, none⟩)] := hcb
 replace ha : Box W.drew ab 80 #[.bool is, .int .u64 0, .string ⟨#[]⟩, .int .u32 0, .string ⟨#[]⟩, .string ⟨#[]⟩, .slice none 0 0, .int .u8 0, .int .u64 0, .string ⟨#[]⟩, .slice none 0 0, .slice none 0 0] := ha
 replace hr := hr.drew
 replace hKP := hKP.drew
 have h1 := h1 _ hr
 generalize W.drew = wd at *
 refine zv 0 (v := ?_) rfl (by kernel_rfl) (by kernel_rfl) (by kernel_rfl) hcb rfl ?_ ?_
 rotate_left
 ·intro wS hSw; have y0 := hSw.cell (j := 0) rfl; go_simp; (with_reducible rfl)
 simp only [List.getElem_toArray, List.getElem_cons_zero, Act.put, List.setIfInBounds_toArray, List.set_cons_zero, List.set_cons_succ]
 refine rg_t 1 hcb ?_
 simp only [g_S, Act.put]
 refine zi 2 rfl (by kernel_rfl) rfl (fun K hK => ?_)
 go_simp
 refine h1.mono ?_
 rintro e w2 ⟨rfl, hr2, hg2⟩
 have hcb2 := hcb.grown hg2 (sne (by omega))
 have ha2 := ha.grown hg2 (sne (by omega))
 have hKP2 := hKP.grown hBW hg2 (fun g hg => by injection hg with hg; exact ⟨by omega, .inr (.inl hg.symm)⟩)
 clear h1 hr hcb ha hKP hg2
 refine hK _ _ hcb2 ?_; clear hK K
 try simp only [g_S, Act.put]
 refine rg_t 3 hcb2 ?_
 simp only [g_S, Act.put]
 refine rg_t 4 hcb2 ?_
 simp only [g_S, Act.put]
 refine zi 5 rfl (by kernel_rfl) rfl (fun K hK => ?_)
 refine zM (g := ab) (j := 2) (v := .string (str T.1)) (vs := [.string (str T.1)]) rfl rfl rfl ha2 rfl (by kernel_rfl) (by simp) (by simp; rfl) #[.bool is, .int .u64 0, .string (str T.1), .int .u32 0, .string ⟨#[]⟩, .string ⟨#[]⟩, .slice none 0 0, .int .u8 0, .int .u64 0, .string ⟨#[]⟩, .slice none 0 0, .slice none 0 0] (by simp) ?_
 intro w3 ha3 hg3 _
 have hcb3 := hcb2.grown hg3 (sne (by omega))
 have hr3 := hr2.kept hg3 (fun g hg hFg => by injection hg with hg; subst hg; exact hFa hFg)
 have hKP3 := hKP2.grown hBW hg3 (fun g hg => by injection hg with hg; exact ⟨by omega, .inl hg.symm⟩)
 refine hK _ _ hcb3 ?_; clear hK K
 refine zK (by kernel_rfl) ?_
 go_wp2_with (with_reducible refine h_A ?_)
 go_end0
 exact ⟨rfl, hr3, ha3, hKP3⟩
theorem VT {F : Nat → Prop} {W : World} {o vb ab cb B : Nat} {l : List UInt8} (is : Bool) (T : _) (hT : T = zR l false 2 65535) (hr : Rdr F W (.pointer (some ⟨o, 0, none⟩)) (some vb) l false) (hcb : Box W cb 198 #[.pointer (some ⟨ab, 0, none⟩)]) (ha : Box W ab 80 #[.bool is, .int .u64 0, .string ⟨#[]⟩, .int .u32 0, .string ⟨#[]⟩, .string ⟨#[]⟩, .slice none 0 0, .int .u8 0, .int .u64 0, .string ⟨#[]⟩, .slice none 0 0, .slice none 0 0]) (hFa : ¬ F ab) (hvc : vb ≠ cb) (hva : vb ≠ ab) (hca : cb ≠ ab) (hBa : B ≤ ab) (hBv : B ≤ vb) (hBW : B ≤ W.heap.size) :
  Calls Tryz.prog 158 #[.pointer (some ⟨o, 0, none⟩), .pointer (some ⟨cb, 0, none⟩)] W fun e W' => e = .returned (.tuple #[]) ∧ Rdr F W' (.pointer (some ⟨o, 0, none⟩)) (some vb) T.2.1 T.2.2 ∧ Box W' ab 80 #[.bool is, .int .u64 0, .string (str T.1), .int .u32 0, .string ⟨#[]⟩, .string ⟨#[]⟩, .slice none 0 0, .int .u8 0, .int .u64 0, .string ⟨#[]⟩, .slice none 0 0, .slice none 0 0] ∧ KP B ab vb W W' := by
 have h1 := fun W (h : Rdr F W (.pointer (some ⟨o, 0, none⟩)) (some vb) l false) => xl h 2 65535 (by omega) (by omega) (by omega) (by omega)
 rw [← hT] at h1
 clear hT
 have hKP := KP.refl B ab vb W
 go_enter Tryz.func158, Tryz.ntmps158
 go_upto_region 0 with fail
 refine zD (fun W : World => Box W cb 198 #[.pointer (some ⟨ab, 0, none⟩)]) (by kernel_rfl) ?_
 replace hcb : Box W.drew cb 198 #[.pointer (some ⟨ab, 0, none⟩)] := hcb
 replace ha : Box W.drew ab 80 #[.bool is, .int .u64 0, .string ⟨#[]⟩, .int .u32 0, .string ⟨#[]⟩, .string ⟨#[]⟩, .slice none 0 0, .int .u8 0, .int .u64 0, .string ⟨#[]⟩, .slice none 0 0, .slice none 0 0] := ha
 replace hr := hr.drew
 replace hKP := hKP.drew
 have h1 := h1 _ hr
 generalize W.drew = wd at *
 refine zv 0 (v := ?_) rfl (by kernel_rfl) (by kernel_rfl) (by kernel_rfl) hcb rfl ?_ ?_
 rotate_left
 ·intro wS hSw; have y0 := hSw.cell (j := 0) rfl; go_simp; (with_reducible rfl)
 simp only [List.getElem_toArray, List.getElem_cons_zero, Act.put, List.setIfInBounds_toArray, List.set_cons_zero, List.set_cons_succ]
 refine rg_t 1 hcb ?_
 simp only [g_S, Act.put]
 refine zi 2 rfl (by kernel_rfl) rfl (fun K hK => ?_)
 go_simp
 refine h1.mono ?_
 rintro e w2 ⟨rfl, hr2, hg2⟩
 have hcb2 := hcb.grown hg2 (sne (by omega))
 have ha2 := ha.grown hg2 (sne (by omega))
 have hKP2 := hKP.grown hBW hg2 (fun g hg => by injection hg with hg; exact ⟨by omega, .inr (.inl hg.symm)⟩)
 clear h1 hr hcb ha hKP hg2
 refine hK _ _ hcb2 ?_; clear hK K
 try simp only [g_S, Act.put]
 refine rg_t 3 hcb2 ?_
 simp only [g_S, Act.put]
 refine rg_t 4 hcb2 ?_
 simp only [g_S, Act.put]
 refine zi 5 rfl (by kernel_rfl) rfl (fun K hK => ?_)
 refine zM (g := ab) (j := 2) (v := .string (str T.1)) (vs := [.string (str T.1)]) rfl rfl rfl ha2 rfl (by kernel_rfl) (by simp) (by simp; rfl) #[.bool is, .int .u64 0, .string (str T.1), .int .u32 0, .string ⟨#[]⟩, .string ⟨#[]⟩, .slice none 0 0, .int .u8 0, .int .u64 0, .string ⟨#[]⟩, .slice none 0 0, .slice none 0 0] (by simp) ?_
 intro w3 ha3 hg3 _
 have hcb3 := hcb2.grown hg3 (sne (by omega))
 have hr3 := hr2.kept hg3 (fun g hg hFg => by injection hg with hg; subst hg; exact hFa hFg)
 have hKP3 := hKP2.grown hBW hg3 (fun g hg => by injection hg with hg; exact ⟨by omega, .inl hg.symm⟩)
 refine hK _ _ hcb3 ?_; clear hK K
 refine zK (by kernel_rfl) ?_
 go_wp2_with (with_reducible refine h_A ?_)
 go_end0
 exact ⟨rfl, hr3, ha3, hKP3⟩
end Go.PH
end
section
namespace Go.PH
open Go.RowKit Go.Proofs
theorem OctR.from {w w1 w' : World} {B rb ab : Nat} {l : List UInt8} {bad : Bool} {cells : Array Value} {e : Ending} (h : OctR w1 B rb ab l bad cells e w') (hK : KP B rb ab w w1) : OctR w B rb ab l bad cells e w' := ⟨h.1, h.2.1, h.2.2.1, hK.trans h.2.2.2⟩
theorem KA {w : World} {B rb ab : Nat} {l : List UInt8} {bad : Bool} (is : Bool) (h : MRd w B rb l bad) (hB : B ≤ rb) (ha : Box w ab 80 #[.bool is, .int .u64 0, .string ⟨#[]⟩, .int .u32 0, .string ⟨#[]⟩, .string ⟨#[]⟩, .slice none 0 0, .int .u8 0, .int .u64 0, .string ⟨#[]⟩, .slice none 0 0, .slice none 0 0]) (hab : B ≤ ab) (hne : ab ≠ rb) (T : _) (hT : T = mnum l false 1) (hTl : T.2.1.length ≤ l.length) :
  Calls Tryz.prog 128 #[.pointer (some ⟨rb, 0, none⟩), .pointer (some ⟨ab, 0, none⟩)] w (OctR w B rb ab (if (bad || T.2.2) = true then l else l.drop (l.length - T.2.1.length)) (bad || T.2.2) #[.bool is, .int .u64 (T.1 : Int), .string ⟨#[]⟩, .int .u32 0, .string ⟨#[]⟩, .string ⟨#[]⟩, .slice none 0 0, .int .u8 0, .int .u64 0, .string ⟨#[]⟩, .slice none 0 0, .slice none 0 0]) := by
 have hmf : ∀ (fn : Fn) (first cap : Array Value) (w : World), (Instr.makeFunc fn first cap).run Tryz.prog w = .ok (.func fn first cap) w := fun _ _ _ _ => rfl
 obtain ⟨cb, w1, hcb, hcv, hC, hB1⟩ := zo w #[.pointer (some ⟨ab, 0, none⟩)] 198
 have haw := ha.lt
 have hK := (KP.refl B rb ab w).below (by omega) hB1
 have hcl := hC.lt
 have hoc := ql 153 #[.pointer (some ⟨cb, 0, none⟩)] (fun _ _ => rfl) (h.kp ((KP.refl B ab ab w).below (by omega) hB1) (Ne.symm hne) (Ne.symm hne)) hB _ #[.bool is, .int .u64 (T.1 : Int), .string ⟨#[]⟩, .int .u32 0, .string ⟨#[]⟩, .string ⟨#[]⟩, .slice none 0 0, .int .u8 0, .int .u64 0, .string ⟨#[]⟩, .slice none 0 0, .slice none 0 0] (ha.below hB1) hab hne T.2.1 T.2.2 hTl (fun W o vb F hBW hr hF ha => by
  have hv := hF vb (hr.inF rfl)
  exact VQ is T hT hr (hC.below hBW) ha (fun hFa => by have := (hF ab hFa).1; omega) (by omega) (by omega) (by omega) hab (by omega) (by have := hBW.size; omega))
 obtain ⟨lr, hlr⟩ : ∃ x, x = (if (bad || T.2.2) = true then l else l.drop (l.length - T.2.1.length)) := ⟨_, rfl⟩
 obtain ⟨br, hbr⟩ : ∃ x, x = (bad || T.2.2) := ⟨_, rfl⟩
 rw [← hlr, ← hbr] at hoc ⊢
 clear hlr hbr
 go_enter Tryz.func128, Tryz.ntmps128
 go_upto_region 1 with fail
 rw [← hcb, ← hcv]
 clear hcb hcv
 go_wp2_with (with_reducible refine h_A ?_)
 refine hoc.mono ?_
 rintro e w2 hres
 have hr2 := hres.from hK
 obtain ⟨rfl, _⟩ := hres
 go_wp2_with (with_reducible refine h_A ?_)
 go_end0
 exact hr2
theorem KC {w : World} {B rb ab : Nat} {l : List UInt8} {bad : Bool} (is : Bool) (h : MRd w B rb l bad) (hB : B ≤ rb) (ha : Box w ab 80 #[.bool is, .int .u64 0, .string ⟨#[]⟩, .int .u32 0, .string ⟨#[]⟩, .string ⟨#[]⟩, .slice none 0 0, .int .u8 0, .int .u64 0, .string ⟨#[]⟩, .slice none 0 0, .slice none 0 0]) (hab : B ≤ ab) (hne : ab ≠ rb) (T : _) (hT : T = mnum l false 2) (hTl : T.2.1.length ≤ l.length) :
  Calls Tryz.prog 129 #[.pointer (some ⟨rb, 0, none⟩), .pointer (some ⟨ab, 0, none⟩)] w (OctR w B rb ab (if (bad || T.2.2) = true then l else l.drop (l.length - T.2.1.length)) (bad || T.2.2) #[.bool is, .int .u64 (T.1 : Int), .string ⟨#[]⟩, .int .u32 0, .string ⟨#[]⟩, .string ⟨#[]⟩, .slice none 0 0, .int .u8 0, .int .u64 0, .string ⟨#[]⟩, .slice none 0 0, .slice none 0 0]) := by
 have hmf : ∀ (fn : Fn) (first cap : Array Value) (w : World), (Instr.makeFunc fn first cap).run Tryz.prog w = .ok (.func fn first cap) w := fun _ _ _ _ => rfl
 obtain ⟨cb, w1, hcb, hcv, hC, hB1⟩ := zo w #[.pointer (some ⟨ab, 0, none⟩)] 198
 have haw := ha.lt
 have hK := (KP.refl B rb ab w).below (by omega) hB1
 have hcl := hC.lt
 have hoc := ql 154 #[.pointer (some ⟨cb, 0, none⟩)] (fun _ _ => rfl) (h.kp ((KP.refl B ab ab w).below (by omega) hB1) (Ne.symm hne) (Ne.symm hne)) hB _ #[.bool is, .int .u64 (T.1 : Int), .string ⟨#[]⟩, .int .u32 0, .string ⟨#[]⟩, .string ⟨#[]⟩, .slice none 0 0, .int .u8 0, .int .u64 0, .string ⟨#[]⟩, .slice none 0 0, .slice none 0 0] (ha.below hB1) hab hne T.2.1 T.2.2 hTl (fun W o vb F hBW hr hF ha => by
  have hv := hF vb (hr.inF rfl)
  exact VR is T hT hr (hC.below hBW) ha (fun hFa => by have := (hF ab hFa).1; omega) (by omega) (by omega) (by omega) hab (by omega) (by have := hBW.size; omega))
 obtain ⟨lr, hlr⟩ : ∃ x, x = (if (bad || T.2.2) = true then l else l.drop (l.length - T.2.1.length)) := ⟨_, rfl⟩
 obtain ⟨br, hbr⟩ : ∃ x, x = (bad || T.2.2) := ⟨_, rfl⟩
 rw [← hlr, ← hbr] at hoc ⊢
 clear hlr hbr
 go_enter Tryz.func129, Tryz.ntmps129
 go_upto_region 1 with fail
 rw [← hcb, ← hcv]
 clear hcb hcv
 go_wp2_with (with_reducible refine h_A ?_)
 refine hoc.mono ?_
 rintro e w2 hres
 have hr2 := hres.from hK
 obtain ⟨rfl, _⟩ := hres
 go_wp2_with (with_reducible refine h_A ?_)
 go_end0
 exact hr2
theorem KD {w : World} {B rb ab : Nat} {l : List UInt8} {bad : Bool} (is : Bool) (h : MRd w B rb l bad) (hB : B ≤ rb) (ha : Box w ab 80 #[.bool is, .int .u64 0, .string ⟨#[]⟩, .int .u32 0, .string ⟨#[]⟩, .string ⟨#[]⟩, .slice none 0 0, .int .u8 0, .int .u64 0, .string ⟨#[]⟩, .slice none 0 0, .slice none 0 0]) (hab : B ≤ ab) (hne : ab ≠ rb) (T : _) (hT : T = mnum l false 4) (hTl : T.2.1.length ≤ l.length) :
  Calls Tryz.prog 130 #[.pointer (some ⟨rb, 0, none⟩), .pointer (some ⟨ab, 0, none⟩)] w (OctR w B rb ab (if (bad || T.2.2) = true then l else l.drop (l.length - T.2.1.length)) (bad || T.2.2) #[.bool is, .int .u64 (T.1 : Int), .string ⟨#[]⟩, .int .u32 0, .string ⟨#[]⟩, .string ⟨#[]⟩, .slice none 0 0, .int .u8 0, .int .u64 0, .string ⟨#[]⟩, .slice none 0 0, .slice none 0 0]) := by
 have hmf : ∀ (fn : Fn) (first cap : Array Value) (w : World), (Instr.makeFunc fn first cap).run Tryz.prog w = .ok (.func fn first cap) w := fun _ _ _ _ => rfl
 obtain ⟨cb, w1, hcb, hcv, hC, hB1⟩ := zo w #[.pointer (some ⟨ab, 0, none⟩)] 198
 have haw := ha.lt
 have hK := (KP.refl B rb ab w).below (by omega) hB1
 have hcl := hC.lt
 have hoc := ql 155 #[.pointer (some ⟨cb, 0, none⟩)] (fun _ _ => rfl) (h.kp ((KP.refl B ab ab w).below (by omega) hB1) (Ne.symm hne) (Ne.symm hne)) hB _ #[.bool is, .int .u64 (T.1 : Int), .string ⟨#[]⟩, .int .u32 0, .string ⟨#[]⟩, .string ⟨#[]⟩, .slice none 0 0, .int .u8 0, .int .u64 0, .string ⟨#[]⟩, .slice none 0 0, .slice none 0 0] (ha.below hB1) hab hne T.2.1 T.2.2 hTl (fun W o vb F hBW hr hF ha => by
  have hv := hF vb (hr.inF rfl)
  exact VS is T hT hr (hC.below hBW) ha (fun hFa => by have := (hF ab hFa).1; omega) (by omega) (by omega) (by omega) hab (by omega) (by have := hBW.size; omega))
 obtain ⟨lr, hlr⟩ : ∃ x, x = (if (bad || T.2.2) = true then l else l.drop (l.length - T.2.1.length)) := ⟨_, rfl⟩
 obtain ⟨br, hbr⟩ : ∃ x, x = (bad || T.2.2) := ⟨_, rfl⟩
 rw [← hlr, ← hbr] at hoc ⊢
 clear hlr hbr
 go_enter Tryz.func130, Tryz.ntmps130
 go_upto_region 1 with fail
 rw [← hcb, ← hcv]
 clear hcb hcv
 go_wp2_with (with_reducible refine h_A ?_)
 refine hoc.mono ?_
 rintro e w2 hres
 have hr2 := hres.from hK
 obtain ⟨rfl, _⟩ := hres
 go_wp2_with (with_reducible refine h_A ?_)
 go_end0
 exact hr2
theorem Jt {w : World} {B rb ab : Nat} {l : List UInt8} {bad : Bool} (is : Bool) (h : MRd w B rb l bad) (hB : B ≤ rb) (ha : Box w ab 80 #[.bool is, .int .u64 0, .string ⟨#[]⟩, .int .u32 0, .string ⟨#[]⟩, .string ⟨#[]⟩, .slice none 0 0, .int .u8 0, .int .u64 0, .string ⟨#[]⟩, .slice none 0 0, .slice none 0 0]) (hab : B ≤ ab) (hne : ab ≠ rb) (T : _) (hT : T = zR l false 1 255) (hTl : T.2.1.length ≤ l.length) :
  Calls Tryz.prog 131 #[.pointer (some ⟨rb, 0, none⟩), .pointer (some ⟨ab, 0, none⟩)] w (OctR w B rb ab (if (bad || T.2.2) = true then l else l.drop (l.length - T.2.1.length)) (bad || T.2.2) #[.bool is, .int .u64 0, .string (str T.1), .int .u32 0, .string ⟨#[]⟩, .string ⟨#[]⟩, .slice none 0 0, .int .u8 0, .int .u64 0, .string ⟨#[]⟩, .slice none 0 0, .slice none 0 0]) := by
 have hmf : ∀ (fn : Fn) (first cap : Array Value) (w : World), (Instr.makeFunc fn first cap).run Tryz.prog w = .ok (.func fn first cap) w := fun _ _ _ _ => rfl
 obtain ⟨cb, w1, hcb, hcv, hC, hB1⟩ := zo w #[.pointer (some ⟨ab, 0, none⟩)] 198
 have haw := ha.lt
 have hK := (KP.refl B rb ab w).below (by omega) hB1
 have hcl := hC.lt
 have hoc := ql 156 #[.pointer (some ⟨cb, 0, none⟩)] (fun _ _ => rfl) (h.kp ((KP.refl B ab ab w).below (by omega) hB1) (Ne.symm hne) (Ne.symm hne)) hB _ #[.bool is, .int .u64 0, .string (str T.1), .int .u32 0, .string ⟨#[]⟩, .string ⟨#[]⟩, .slice none 0 0, .int .u8 0, .int .u64 0, .string ⟨#[]⟩, .slice none 0 0, .slice none 0 0] (ha.below hB1) hab hne T.2.1 T.2.2 hTl (fun W o vb F hBW hr hF ha => by
  have hv := hF vb (hr.inF rfl)
  exact KF is T hT hr (hC.below hBW) ha (fun hFa => by have := (hF ab hFa).1; omega) (by omega) (by omega) (by omega) hab (by omega) (by have := hBW.size; omega))
 obtain ⟨lr, hlr⟩ : ∃ x, x = (if (bad || T.2.2) = true then l else l.drop (l.length - T.2.1.length)) := ⟨_, rfl⟩
 obtain ⟨br, hbr⟩ : ∃ x, x = (bad || T.2.2) := ⟨_, rfl⟩
 rw [← hlr, ← hbr] at hoc ⊢
 clear hlr hbr
 go_enter Tryz.func131, Tryz.ntmps131
 go_upto_region 1 with fail
 rw [← hcb, ← hcv]
 clear hcb hcv
 go_wp2_with (with_reducible refine h_A ?_)
 refine hoc.mono ?_
 rintro e w2 hres
 have hr2 := hres.from hK
 obtain ⟨rfl, _⟩ := hres
 go_wp2_with (with_reducible refine h_A ?_)
 go_end0
 exact hr2
theorem KE {w : World} {B rb ab : Nat} {l : List UInt8} {bad : Bool} (is : Bool) (h : MRd w B rb l bad) (hB : B ≤ rb) (ha : Box w ab 80 #[.bool is, .int .u64 0, .string ⟨#[]⟩, .int .u32 0, .string ⟨#[]⟩, .string ⟨#[]⟩, .slice none 0 0, .int .u8 0, .int .u64 0, .string ⟨#[]⟩, .slice none 0 0, .slice none 0 0]) (hab : B ≤ ab) (hne : ab ≠ rb) (T : _) (hT : T = zR l false 2 65535) (hTl : T.2.1.length ≤ l.length) :
  Calls Tryz.prog 132 #[.pointer (some ⟨rb, 0, none⟩), .pointer (some ⟨ab, 0, none⟩)] w (OctR w B rb ab (if (bad || T.2.2) = true then l else l.drop (l.length - T.2.1.length)) (bad || T.2.2) #[.bool is, .int .u64 0, .string (str T.1), .int .u32 0, .string ⟨#[]⟩, .string ⟨#[]⟩, .slice none 0 0, .int .u8 0, .int .u64 0, .string ⟨#[]⟩, .slice none 0 0, .slice none 0 0]) := by
 have hmf : ∀ (fn : Fn) (first cap : Array Value) (w : World), (Instr.makeFunc fn first cap).run Tryz.prog w = .ok (.func fn first cap) w := fun _ _ _ _ => rfl
 obtain ⟨cb, w1, hcb, hcv, hC, hB1⟩ := zo w #[.pointer (some ⟨ab, 0, none⟩)] 198
 have haw := ha.lt
 have hK := (KP.refl B rb ab w).below (by omega) hB1
 have hcl := hC.lt
 have hoc := ql 158 #[.pointer (some ⟨cb, 0, none⟩)] (fun _ _ => rfl) (h.kp ((KP.refl B ab ab w).below (by omega) hB1) (Ne.symm hne) (Ne.symm hne)) hB _ #[.bool is, .int .u64 0, .string (str T.1), .int .u32 0, .string ⟨#[]⟩, .string ⟨#[]⟩, .slice none 0 0, .int .u8 0, .int .u64 0, .string ⟨#[]⟩, .slice none 0 0, .slice none 0 0] (ha.below hB1) hab hne T.2.1 T.2.2 hTl (fun W o vb F hBW hr hF ha => by
  have hv := hF vb (hr.inF rfl)
  exact VT is T hT hr (hC.below hBW) ha (fun hFa => by have := (hF ab hFa).1; omega) (by omega) (by omega) (by omega) hab (by omega) (by have := hBW.size; omega))
 obtain ⟨lr, hlr⟩ : ∃ x, x = (if (bad || T.2.2) = true then l else l.drop (l.length - T.2.1.length)) := ⟨_, rfl⟩
 obtain ⟨br, hbr⟩ : ∃ x, x = (bad || T.2.2) := ⟨_, rfl⟩
 rw [← hlr, ← hbr] at hoc ⊢
 clear hlr hbr
 go_enter Tryz.func132, Tryz.ntmps132
 go_upto_region 1 with fail
 rw [← hcb, ← hcv]
 clear hcb hcv
 go_wp2_with (with_reducible refine h_A ?_)
 refine hoc.mono ?_
 rintro e w2 hres
 have hr2 := hres.from hK
 obtain ⟨rfl, _⟩ := hres
 go_wp2_with (with_reducible refine h_A ?_)
 go_end0
 exact hr2
theorem VP {w : World} {B rb ab : Nat} {l : List UInt8} {bad : Bool} {cells : Array Value} (h : MRd w B rb l bad) (ha : Box w ab 80 cells) :
  Calls Tryz.prog 127 #[.pointer (some ⟨rb, 0, none⟩), .pointer (some ⟨ab, 0, none⟩)] w (OctR w B rb ab l bad cells) := by
 go_enter Tryz.func127, Tryz.ntmps127
 go_wp2_with (with_reducible refine h_A ?_)
 go_end0
 exact ⟨rfl, ha, h, KP.refl _ _ _ _⟩
end Go.PH
end
section
namespace Go.PH
open Go.RowKit Go.Proofs
theorem Kw (l : List UInt8) : (getR l).2.1 ≤ l.length := by
 unfold getR
 split
 ·exact Nat.zero_le _
 ·split
  ·exact Nat.sub_le _ _
  ·exact Nat.zero_le _
theorem Kx (l : List UInt8) : (vget l).2.1 ≤ l.length := by
 unfold vget
 split
 ·split
  ·exact Nat.sub_le _ _
  ·exact Nat.zero_le _
 ·exact Nat.zero_le _
theorem Ky (l : List UInt8) : (vget l).2.2 = 0 ∨ (vget l).2.2 = 5 := by
 unfold vget
 split
 ·split
  ·exact .inl rfl
  ·exact .inr rfl
 ·exact .inr rfl
theorem Js {w : World} {B rb ab : Nat} {l : List UInt8} {bad : Bool} (is : Bool) (h : MRd w B rb l bad) (hB : B ≤ rb) (ha : Box w ab 80 #[.bool is, .int .u64 0, .string ⟨#[]⟩, .int .u32 0, .string ⟨#[]⟩, .string ⟨#[]⟩, .slice none 0 0, .int .u8 0, .int .u64 0, .string ⟨#[]⟩, .slice none 0 0, .slice none 0 0]) (hab : B ≤ ab) (hne : ab ≠ rb) (hT : UTabs w) (x : Vl) (n : Nat) (er : Int) (hg : vget l = (x, n, er)) :
  Calls Tryz.prog 135 #[.pointer (some ⟨rb, 0, none⟩), .pointer (some ⟨ab, 0, none⟩)] w fun e w' => ∃ h1 : VH, OctR w B rb ab (if (bad || decide (er ≠ 0)) = true then l else l.drop n) (bad || decide (er ≠ 0)) #[.bool is, .int .u64 0, .string ⟨#[]⟩, .int .u32 0, .string ⟨#[]⟩, .string ⟨#[]⟩, .slice none 0 0, .int .u8 (x.kind : Int), .int .u64 (x.n : Int), .string (str x.s), .slice h1.A1 x.keys.length h1.c1, .slice h1.A2 x.list.length h1.c2] e w' ∧ RV w' (FN w.heap.size w') x h1 := by
 have hnl := Kx l
 have her := Ky l
 rw [hg] at hnl her
 obtain ⟨lr, hlr⟩ : ∃ y, y = (if (bad || decide (er ≠ 0)) = true then l else l.drop n) := ⟨_, rfl⟩
 obtain ⟨br, hbr⟩ : ∃ y, y = (bad || decide (er ≠ 0)) := ⟨_, rfl⟩
 rw [← hlr, ← hbr]
 have HLR := Lib.hid hlr
 have HBR := Lib.hid hbr
 clear hlr hbr
 obtain ⟨A, m, c, hbx, hr, hm⟩ := h
 have hln : l.length = m := RdB.length hr
 have hbw := hbx.lt
 have haw := ha.lt
 have hBw : B ≤ w.heap.size := by omega
 have hgt := KG A m c l w (jQ hr hBw) (by omega) hT
 rw [hg] at hgt
 have c0 := hbx.c0
 simp only at hnl her
 clear hg hT
 go_enter Tryz.func135, Tryz.ntmps135
 go_wp2_with (with_reducible refine h_A ?_)
 refine hgt.mono ?_
 rintro e w2 ⟨h1, rfl, hV, hB2⟩
 simp only at hV
 unfold vlV
 simp only
 have hK2 := (KP.refl B rb ab w).below hBw hB2
 have hb2 := hbx.below hB2
 have ha2 := ha.below hB2
 have hr2 := hr.below (hB2.mono hBw)
 have hs2 := hB2.size
 have hz := Box.new w2 #[.int .u8 0, .int .u64 0, .string ⟨#[]⟩, .slice none 0 0, .slice none 0 0] 78
 have hBz := (Below.refl w2.heap.size w2).alloc (Nat.le_refl _) (.cells #[.int .u8 0, .int .u64 0, .string ⟨#[]⟩, .slice none 0 0, .slice none 0 0] 78)
 have hb3 := hb2.below hBz
 have ha3 := ha2.below hBz
 have hr3 := hr2.below (hBz.mono (by omega))
 have hK3 := hK2.below hBw hBz
 have hV3 : RV (w2.alloc (.cells #[.int .u8 0, .int .u64 0, .string ⟨#[]⟩, .slice none 0 0, .slice none 0 0] 78)) (FN w.heap.size (w2.alloc (.cells #[.int .u8 0, .int .u64 0, .string ⟨#[]⟩, .slice none 0 0, .slice none 0 0] 78))) x h1 := (hV.keep (fun g hg => hBz.block g hg.2) hBz.size).mono (fun g hg => ⟨hg.1, Nat.lt_of_lt_of_le hg.2 hBz.size⟩)
 have hVl : ∀ g, FN w.heap.size w2 g → g < w2.heap.size := fun g hg => hg.2
 clear hgt c0 hbx ha hr hB2 hb2 ha2 hr2 hK2
 go_wp2_with (with_reducible refine h_B ?_)
 obtain ⟨zb, hzb⟩ : ∃ g, g = w2.heap.size := ⟨_, rfl⟩
 rw [← hzb] at hz hs2 ⊢
 have hV3' : RV (w2.alloc (.cells #[.int .u8 0, .int .u64 0, .string ⟨#[]⟩, .slice none 0 0, .slice none 0 0] 78)) (fun g => w.heap.size ≤ g ∧ g < zb) x h1 := (hV.keep (fun g hg => hBz.block g hg.2) hBz.size).mono (fun g hg => ⟨hg.1, by rw [hzb]; exact hg.2⟩)
 clear hzb hBz hV hV3 hVl
 generalize (w2.alloc (.cells #[.int .u8 0, .int .u64 0, .string ⟨#[]⟩, .slice none 0 0, .slice none 0 0] 78)) = w3 at *
 refine zc (zm (v := .agg #[.int .u8 (x.kind : Int), .int .u64 (x.n : Int), .string (str x.s), .slice h1.A1 x.keys.length h1.c1, .slice h1.A2 x.list.length h1.c2]) (vs := [.int .u8 (x.kind : Int), .int .u64 (x.n : Int), .string (str x.s), .slice h1.A1 x.keys.length h1.c1, .slice h1.A2 x.list.length h1.c2]) rfl rfl rfl rfl hz rfl (by kernel_rfl) (by simp) (by intro u hu; simp at hu; rcases hu with rfl | rfl | rfl | rfl | rfl <;> rfl) #[.int .u8 (x.kind : Int), .int .u64 (x.n : Int), .string (str x.s), .slice h1.A1 x.keys.length h1.c1, .slice h1.A2 x.list.length h1.c2] (by simp) ?_)
 intro w4 hz4 hg4 _
 have hb4 := hb3.grown hg4 (sne (by omega))
 have ha4 := ha3.grown hg4 (sne (by omega))
 have hr4 := hr3.grown hg4 (by have := hz.lt; omega) (fun g hg => by injection hg with hg; omega)
 have hK4 := hK3.grown hBw hg4 (fun g hg => by injection hg with hg; exact ⟨by omega, .inr (.inr (by omega))⟩)
 have hV4 := hV3'.keep (fun g hg => hg4.block g (by have := hz.lt; omega) (sne (by omega))) hg4.size
 clear hz hb3 ha3 hr3 hK3 hV3' hg4
 have x0 := hz4.c0
 have x1 := hz4.c1
 have x2 := hz4.c2
 have x3 := hz4.c3
 have x4 := hz4.c4
 go_wp2_with (with_reducible refine h_B ?_)
 refine zc (zm (v := .agg #[.int .u8 (x.kind : Int), .int .u64 (x.n : Int), .string (str x.s), .slice h1.A1 x.keys.length h1.c1, .slice h1.A2 x.list.length h1.c2]) (vs := [.int .u8 (x.kind : Int), .int .u64 (x.n : Int), .string (str x.s), .slice h1.A1 x.keys.length h1.c1, .slice h1.A2 x.list.length h1.c2]) rfl rfl rfl rfl ha4 rfl (by kernel_rfl) (by simp) (by intro u hu; simp at hu; rcases hu with rfl | rfl | rfl | rfl | rfl <;> rfl) #[.bool is, .int .u64 0, .string ⟨#[]⟩, .int .u32 0, .string ⟨#[]⟩, .string ⟨#[]⟩, .slice none 0 0, .int .u8 (x.kind : Int), .int .u64 (x.n : Int), .string (str x.s), .slice h1.A1 x.keys.length h1.c1, .slice h1.A2 x.list.length h1.c2] (by simp) ?_)
 intro w5 ha5 hg5 _
 have hb5 := hb4.grown hg5 (sne (by omega))
 have hr5 := hr4.grown hg5 (by have := ha4.lt; omega) (fun g hg => by injection hg with hg; omega)
 have hK5 := hK4.grown hBw hg5 (fun g hg => by injection hg with hg; exact ⟨by omega, .inr (.inl hg.symm)⟩)
 have hV5 := hV4.keep (fun g hg => hg5.block g (by have := hz4.lt; omega) (sne (by omega))) hg5.size
 have hzl := hz4.lt
 have hs5 := hg5.size
 clear hz4 hb4 ha4 hr4 hK4 hV4 hg5 x0 x1 x2 x3 x4
 have hM5 : MRd w5 B rb l bad := ⟨A, m, c, hb5, hr5, hm⟩
 cases br
 ·have hb0 : bad = false ∧ er = 0 := by
   have := HBR.out.symm
   simpa using this
  obtain ⟨hb0, he0⟩ := hb0
  subst hb0 he0
  have htk := Xf hM5 hB n hnl
  go_wp2_with (with_reducible refine h_A ?_)
  refine htk.mono ?_
  rintro e w6 ⟨rfl, hM6, hg6⟩
  have ha6 := ha5.grown hg6 (sne (by omega))
  have hK6 := hK5.grown hBw hg6 (fun g hg => by injection hg with hg; exact ⟨by omega, .inl hg.symm⟩)
  have hV6 : RV w6 (FN w.heap.size w6) x h1 := (hV5.keep (fun g hg => hg6.block g (by omega) (sne (by omega))) hg6.size).mono (fun g hg => ⟨hg.1, by have := hg6.size; omega⟩)
  go_wp2_with (with_reducible refine h_A ?_)
  go_end0
  have e2 := HLR.out
  simp at e2
  rw [e2]
  exact ⟨h1, ⟨rfl, ha6, hM6, hK6⟩, hV6⟩
 ·have hb0 : bad = true ∨ er ≠ 0 := by
   have := HBR.out.symm
   simpa using this
  have htk := kZ hM5 hB (n : Int) er hb0
  go_wp2_with (with_reducible refine h_A ?_)
  refine htk.mono ?_
  rintro e w6 ⟨rfl, hM6, hg6⟩
  have ha6 := ha5.grown hg6 (sne (by omega))
  have hK6 := hK5.grown hBw hg6 (fun g hg => by injection hg with hg; exact ⟨by omega, .inl hg.symm⟩)
  have hV6 : RV w6 (FN w.heap.size w6) x h1 := (hV5.keep (fun g hg => hg6.block g (by omega) (sne (by omega))) hg6.size).mono (fun g hg => ⟨hg.1, by have := hg6.size; omega⟩)
  go_wp2_with (with_reducible refine h_A ?_)
  go_end0
  have e2 : lr = l := by rw [HLR.out, ← HBR.out, if_pos rfl]
  rw [e2]
  exact ⟨h1, ⟨rfl, ha6, hM6, hK6⟩, hV6⟩
theorem Kz {w : World} {B rb ab : Nat} {l : List UInt8} {bad : Bool} (is : Bool) (h : MRd w B rb l bad) (hB : B ≤ rb) (ha : Box w ab 80 #[.bool is, .int .u64 0, .string ⟨#[]⟩, .int .u32 0, .string ⟨#[]⟩, .string ⟨#[]⟩, .slice none 0 0, .int .u8 0, .int .u64 0, .string ⟨#[]⟩, .slice none 0 0, .slice none 0 0]) (hab : B ≤ ab) (hne : ab ≠ rb) (x : Xd) (n er : Nat) (hg : getR l = (x, n, er)) :
  Calls Tryz.prog 133 #[.pointer (some ⟨rb, 0, none⟩), .pointer (some ⟨ab, 0, none⟩)] w fun e w' => OctR w B rb ab (if (bad || decide (er ≠ 0)) = true then l else l.drop n) (bad || decide (er ≠ 0)) #[.bool is, .int .u64 0, .string ⟨#[]⟩, .int .u32 (x.fmt : Int), .string (str x.glob), .string (str x.bran), .slice none 0 0, .int .u8 0, .int .u64 0, .string ⟨#[]⟩, .slice none 0 0, .slice none 0 0] e w' := by
 have hnl := Kw l
 rw [hg] at hnl
 obtain ⟨lr, hlr⟩ : ∃ y, y = (if (bad || decide (er ≠ 0)) = true then l else l.drop n) := ⟨_, rfl⟩
 obtain ⟨br, hbr⟩ : ∃ y, y = (bad || decide (er ≠ 0)) := ⟨_, rfl⟩
 rw [← hlr, ← hbr]
 have HLR := Lib.hid hlr
 have HBR := Lib.hid hbr
 clear hlr hbr
 obtain ⟨A, m, c, hbx, hr, hm⟩ := h
 have hln : l.length = m := RdB.length hr
 have hbw := hbx.lt
 have haw := ha.lt
 have hBw : B ≤ w.heap.size := by omega
 have hgt := JB A m c l w (jQ hr hBw) hm
 rw [hg] at hgt
 have c0 := hbx.c0
 simp only at hnl hgt
 unfold xdV at hgt
 clear hg
 go_enter Tryz.func133, Tryz.ntmps133
 go_wp2_with (with_reducible refine h_A ?_)
 refine hgt.mono ?_
 rintro e w2 ⟨rfl, hB2⟩
 have hK2 := (KP.refl B rb ab w).below hBw hB2
 have hb2 := hbx.below hB2
 have ha2 := ha.below hB2
 have hr2 := hr.below (hB2.mono hBw)
 have hs2 := hB2.size
 have hz := Box.new w2 #[.int .u32 0, .string ⟨#[]⟩, .string ⟨#[]⟩] 73
 have hBz := (Below.refl w2.heap.size w2).alloc (Nat.le_refl _) (.cells #[.int .u32 0, .string ⟨#[]⟩, .string ⟨#[]⟩] 73)
 have hb3 := hb2.below hBz
 have ha3 := ha2.below hBz
 have hr3 := hr2.below (hBz.mono (by omega))
 have hK3 := hK2.below hBw hBz
 clear hgt c0 hbx ha hr hB2 hb2 ha2 hr2 hK2
 go_wp2_with (with_reducible refine h_B ?_)
 obtain ⟨zb, hzb⟩ : ∃ g, g = w2.heap.size := ⟨_, rfl⟩
 rw [← hzb] at hz hs2 ⊢
 clear hzb hBz
 generalize (w2.alloc (.cells #[.int .u32 0, .string ⟨#[]⟩, .string ⟨#[]⟩] 73)) = w3 at *
 refine zc (zm (v := .agg #[.int .u32 (x.fmt : Int), .string (str x.glob), .string (str x.bran)]) (vs := [.int .u32 (x.fmt : Int), .string (str x.glob), .string (str x.bran)]) rfl rfl rfl rfl hz rfl (by kernel_rfl) (by simp) (by intro u hu; simp at hu; rcases hu with rfl | rfl | rfl <;> rfl) #[.int .u32 (x.fmt : Int), .string (str x.glob), .string (str x.bran)] (by simp) ?_)
 intro w4 hz4 hg4 _
 have hb4 := hb3.grown hg4 (sne (by omega))
 have ha4 := ha3.grown hg4 (sne (by omega))
 have hr4 := hr3.grown hg4 (by have := hz.lt; omega) (fun g hg => by injection hg with hg; omega)
 have hK4 := hK3.grown hBw hg4 (fun g hg => by injection hg with hg; exact ⟨by omega, .inr (.inr (by omega))⟩)
 clear hz hb3 ha3 hr3 hK3 hg4
 have x0 := hz4.c0
 have x1 := hz4.c1
 have x2 := hz4.c2
 go_wp2_with (with_reducible refine h_B ?_)
 refine zc (zm (v := .agg #[.int .u32 (x.fmt : Int), .string (str x.glob), .string (str x.bran)]) (vs := [.int .u32 (x.fmt : Int), .string (str x.glob), .string (str x.bran)]) rfl rfl rfl rfl ha4 rfl (by kernel_rfl) (by simp) (by intro u hu; simp at hu; rcases hu with rfl | rfl | rfl <;> rfl) #[.bool is, .int .u64 0, .string ⟨#[]⟩, .int .u32 (x.fmt : Int), .string (str x.glob), .string (str x.bran), .slice none 0 0, .int .u8 0, .int .u64 0, .string ⟨#[]⟩, .slice none 0 0, .slice none 0 0] (by simp) ?_)
 intro w5 ha5 hg5 _
 have hb5 := hb4.grown hg5 (sne (by omega))
 have hr5 := hr4.grown hg5 (by have := ha4.lt; omega) (fun g hg => by injection hg with hg; omega)
 have hK5 := hK4.grown hBw hg5 (fun g hg => by injection hg with hg; exact ⟨by omega, .inr (.inl hg.symm)⟩)
 have hzl := hz4.lt
 have hs5 := hg5.size
 clear hz4 hb4 ha4 hr4 hK4 hg5 x0 x1 x2
 have hM5 : MRd w5 B rb l bad := ⟨A, m, c, hb5, hr5, hm⟩
 cases br
 ·have hb0 : bad = false ∧ er = 0 := by
   have := HBR.out.symm
   simpa using this
  obtain ⟨hb0, he0⟩ := hb0
  subst hb0 he0
  have htk := Xf hM5 hB n hnl
  go_wp2_with (with_reducible refine h_A ?_)
  refine htk.mono ?_
  rintro e w6 ⟨rfl, hM6, hg6⟩
  have ha6 := ha5.grown hg6 (sne (by omega))
  have hK6 := hK5.grown hBw hg6 (fun g hg => by injection hg with hg; exact ⟨by omega, .inl hg.symm⟩)
  go_wp2_with (with_reducible refine h_A ?_)
  go_end0
  have e2 := HLR.out
  simp at e2
  rw [e2]
  exact ⟨rfl, ha6, hM6, hK6⟩
 ·have hb0 : bad = true ∨ er ≠ 0 := by
   have := HBR.out.symm
   simpa using this
  have htk := kZ hM5 hB (n : Int) (er : Int) (hb0.imp id (fun h => by omega))
  go_wp2_with (with_reducible refine h_A ?_)
  refine htk.mono ?_
  rintro e w6 ⟨rfl, hM6, hg6⟩
  have ha6 := ha5.grown hg6 (sne (by omega))
  have hK6 := hK5.grown hBw hg6 (fun g hg => by injection hg with hg; exact ⟨by omega, .inl hg.symm⟩)
  go_wp2_with (with_reducible refine h_A ?_)
  go_end0
  have e2 : lr = l := by rw [HLR.out, ← HBR.out, if_pos rfl]
  rw [e2]
  exact ⟨rfl, ha6, hM6, hK6⟩
end Go.PH
end

/- Texts laid together: MdRd1, MdRd2. -/
import Derived.Test.YtidpbbleneekgaaDoorMg03
import Derived.Test.YtidpbbleneekgaaDoorMg26
section
/- The method reader's readers of numbers and texts: the walks of the program. -/
set_option linter.all false
set_option linter.unusedSimpArgs false
set_option linter.unusedVariables false
namespace Go.PH
open Go.RowKit Go.Proofs

set_option maxRecDepth 20000 in
theorem cl_byte {F : Nat → Prop} {W : World} {o vb ab cb B : Nat} {l : List UInt8} (is : Bool) (T : _) (hT : T = mnum l false 1) (hr : Rdr F W (.pointer (some ⟨o, 0, none⟩)) (some vb) l false) (hcb : Box W cb 72 #[.pointer (some ⟨ab, 0, none⟩)]) (ha : Box W ab 57 #[.bool is, .int .u64 0, .string ⟨#[]⟩, .int .u32 0, .string ⟨#[]⟩, .string ⟨#[]⟩, .slice none 0 0, .int .u8 0, .int .u64 0, .string ⟨#[]⟩, .slice none 0 0, .slice none 0 0]) (hFa : ¬ F ab) (hvc : vb ≠ cb) (hva : vb ≠ ab) (hca : cb ≠ ab) (hBa : B ≤ ab) (hBv : B ≤ vb) (hBW : B ≤ W.heap.size) :
    Calls Tryd.prog 65 #[.pointer (some ⟨o, 0, none⟩), .pointer (some ⟨cb, 0, none⟩)] W fun e W' => e = .returned (.tuple #[]) ∧ Rdr F W' (.pointer (some ⟨o, 0, none⟩)) (some vb) T.2.1 T.2.2 ∧ Box W' ab 57 #[.bool is, .int .u64 (T.1 : Int), .string ⟨#[]⟩, .int .u32 0, .string ⟨#[]⟩, .string ⟨#[]⟩, .slice none 0 0, .int .u8 0, .int .u64 0, .string ⟨#[]⟩, .slice none 0 0, .slice none 0 0] ∧ KP B ab vb W W' := by
  have h1 := fun W (h : Rdr F W (.pointer (some ⟨o, 0, none⟩)) (some vb) l false) => rdnum_any h 1 (by omega) (by omega)
  rw [← hT] at h1
  clear hT
  have hKP := KP.refl B ab vb W
  go_enter Tryd.func65, Tryd.ntmps65
  go_upto_region 0 with fail
  refine rg_start (fun W : World => Box W cb 72 #[.pointer (some ⟨ab, 0, none⟩)]) (by kernel_rfl) ?_
  replace hcb : Box W.drew cb 72 #[.pointer (some ⟨ab, 0, none⟩)] := hcb
  replace ha : Box W.drew ab 57 #[.bool is, .int .u64 0, .string ⟨#[]⟩, .int .u32 0, .string ⟨#[]⟩, .string ⟨#[]⟩, .slice none 0 0, .int .u8 0, .int .u64 0, .string ⟨#[]⟩, .slice none 0 0, .slice none 0 0] := ha
  replace hr := hr.drew
  replace hKP := hKP.drew
  have h1 := h1 _ hr
  generalize W.drew = wd at *
  refine rg_take 0 (v := ?_) rfl (by kernel_rfl) (by kernel_rfl) (by kernel_rfl) hcb rfl ?_ ?_
  rotate_left
  · intro wS hSw; have y0 := hSw.cell (j := 0) rfl; go_simp; (with_reducible rfl)
  simp only [List.getElem_toArray, List.getElem_cons_zero, Act.put, List.setIfInBounds_toArray, List.set_cons_zero, List.set_cons_succ]
  refine rg_take 1 (v := ?_) rfl (by kernel_rfl) (by kernel_rfl) (by kernel_rfl) hcb rfl ?_ ?_
  rotate_left
  · intro wS hSw; go_simp; (with_reducible rfl)
  simp only [List.getElem_toArray, List.getElem_cons_succ, List.getElem_cons_zero, Act.put, List.setIfInBounds_toArray, List.set_cons_zero, List.set_cons_succ]
  refine rg_one 2 rfl (by kernel_rfl) rfl (fun K hK => ?_)
  go_simp
  refine h1.mono ?_
  rintro e w2 ⟨rfl, hr2, hg2⟩
  have hcb2 := hcb.grown hg2 (by intro e; injection e with e; omega)
  have ha2 := ha.grown hg2 (by intro e; injection e with e; omega)
  have hKP2 := hKP.grown hBW hg2 (fun g hg => by injection hg with hg; exact ⟨by omega, .inr (.inl hg.symm)⟩)
  clear h1 hr hcb ha hKP hg2
  refine hK _ _ hcb2 ?_; clear hK K
  try simp only [List.getElem_toArray, List.getElem_cons_succ, List.getElem_cons_zero, Act.put, List.setIfInBounds_toArray, List.set_cons_zero, List.set_cons_succ]
  refine rg_take 3 (v := ?_) rfl (by kernel_rfl) (by kernel_rfl) (by kernel_rfl) hcb2 rfl ?_ ?_
  rotate_left
  · intro wS hSw; go_simp; (with_reducible rfl)
  simp only [List.getElem_toArray, List.getElem_cons_succ, List.getElem_cons_zero, Act.put, List.setIfInBounds_toArray, List.set_cons_zero, List.set_cons_succ]
  refine rg_take 4 (v := ?_) rfl (by kernel_rfl) (by kernel_rfl) (by kernel_rfl) hcb2 rfl ?_ ?_
  rotate_left
  · intro wS hSw; go_simp; (with_reducible rfl)
  simp only [List.getElem_toArray, List.getElem_cons_succ, List.getElem_cons_zero, Act.put, List.setIfInBounds_toArray, List.set_cons_zero, List.set_cons_succ]
  refine rg_one 5 rfl (by kernel_rfl) rfl (fun K hK => ?_)
  refine op_box (g := ab) (j := 1) (v := .int .u64 (T.1 : Int)) (vs := [.int .u64 (T.1 : Int)]) rfl rfl rfl ha2 rfl (by kernel_rfl) (by simp) (by simp; rfl) #[.bool is, .int .u64 (T.1 : Int), .string ⟨#[]⟩, .int .u32 0, .string ⟨#[]⟩, .string ⟨#[]⟩, .slice none 0 0, .int .u8 0, .int .u64 0, .string ⟨#[]⟩, .slice none 0 0, .slice none 0 0] (by simp) ?_
  intro w3 ha3 hg3 _
  have hcb3 := hcb2.grown hg3 (by intro e; injection e with e; omega)
  have hr3 := hr2.kept hg3 (fun g hg hFg => by injection hg with hg; subst hg; exact hFa hFg)
  have hKP3 := hKP2.grown hBW hg3 (fun g hg => by injection hg with hg; exact ⟨by omega, .inl hg.symm⟩)
  refine hK _ _ hcb3 ?_; clear hK K
  refine rg_end (by kernel_rfl) ?_
  go_wp2_with (first | (with_reducible refine hold_append ?_) | (with_reducible refine hold_make ?_) | (with_reducible refine hold_copy ?_))
  go_end0
  exact ⟨rfl, hr3, ha3, hKP3⟩
set_option maxRecDepth 20000 in
theorem cl_word {F : Nat → Prop} {W : World} {o vb ab cb B : Nat} {l : List UInt8} (is : Bool) (T : _) (hT : T = mnum l false 2) (hr : Rdr F W (.pointer (some ⟨o, 0, none⟩)) (some vb) l false) (hcb : Box W cb 72 #[.pointer (some ⟨ab, 0, none⟩)]) (ha : Box W ab 57 #[.bool is, .int .u64 0, .string ⟨#[]⟩, .int .u32 0, .string ⟨#[]⟩, .string ⟨#[]⟩, .slice none 0 0, .int .u8 0, .int .u64 0, .string ⟨#[]⟩, .slice none 0 0, .slice none 0 0]) (hFa : ¬ F ab) (hvc : vb ≠ cb) (hva : vb ≠ ab) (hca : cb ≠ ab) (hBa : B ≤ ab) (hBv : B ≤ vb) (hBW : B ≤ W.heap.size) :
    Calls Tryd.prog 66 #[.pointer (some ⟨o, 0, none⟩), .pointer (some ⟨cb, 0, none⟩)] W fun e W' => e = .returned (.tuple #[]) ∧ Rdr F W' (.pointer (some ⟨o, 0, none⟩)) (some vb) T.2.1 T.2.2 ∧ Box W' ab 57 #[.bool is, .int .u64 (T.1 : Int), .string ⟨#[]⟩, .int .u32 0, .string ⟨#[]⟩, .string ⟨#[]⟩, .slice none 0 0, .int .u8 0, .int .u64 0, .string ⟨#[]⟩, .slice none 0 0, .slice none 0 0] ∧ KP B ab vb W W' := by
  have h1 := fun W (h : Rdr F W (.pointer (some ⟨o, 0, none⟩)) (some vb) l false) => rdnum_any h 2 (by omega) (by omega)
  rw [← hT] at h1
  clear hT
  have hKP := KP.refl B ab vb W
  go_enter Tryd.func66, Tryd.ntmps66
  go_upto_region 0 with fail
  refine rg_start (fun W : World => Box W cb 72 #[.pointer (some ⟨ab, 0, none⟩)]) (by kernel_rfl) ?_
  replace hcb : Box W.drew cb 72 #[.pointer (some ⟨ab, 0, none⟩)] := hcb
  replace ha : Box W.drew ab 57 #[.bool is, .int .u64 0, .string ⟨#[]⟩, .int .u32 0, .string ⟨#[]⟩, .string ⟨#[]⟩, .slice none 0 0, .int .u8 0, .int .u64 0, .string ⟨#[]⟩, .slice none 0 0, .slice none 0 0] := ha
  replace hr := hr.drew
  replace hKP := hKP.drew
  have h1 := h1 _ hr
  generalize W.drew = wd at *
  refine rg_take 0 (v := ?_) rfl (by kernel_rfl) (by kernel_rfl) (by kernel_rfl) hcb rfl ?_ ?_
  rotate_left
  · intro wS hSw; have y0 := hSw.cell (j := 0) rfl; go_simp; (with_reducible rfl)
  simp only [List.getElem_toArray, List.getElem_cons_zero, Act.put, List.setIfInBounds_toArray, List.set_cons_zero, List.set_cons_succ]
  refine rg_take 1 (v := ?_) rfl (by kernel_rfl) (by kernel_rfl) (by kernel_rfl) hcb rfl ?_ ?_
  rotate_left
  · intro wS hSw; go_simp; (with_reducible rfl)
  simp only [List.getElem_toArray, List.getElem_cons_succ, List.getElem_cons_zero, Act.put, List.setIfInBounds_toArray, List.set_cons_zero, List.set_cons_succ]
  refine rg_one 2 rfl (by kernel_rfl) rfl (fun K hK => ?_)
  go_simp
  refine h1.mono ?_
  rintro e w2 ⟨rfl, hr2, hg2⟩
  have hcb2 := hcb.grown hg2 (by intro e; injection e with e; omega)
  have ha2 := ha.grown hg2 (by intro e; injection e with e; omega)
  have hKP2 := hKP.grown hBW hg2 (fun g hg => by injection hg with hg; exact ⟨by omega, .inr (.inl hg.symm)⟩)
  clear h1 hr hcb ha hKP hg2
  refine hK _ _ hcb2 ?_; clear hK K
  try simp only [List.getElem_toArray, List.getElem_cons_succ, List.getElem_cons_zero, Act.put, List.setIfInBounds_toArray, List.set_cons_zero, List.set_cons_succ]
  refine rg_take 3 (v := ?_) rfl (by kernel_rfl) (by kernel_rfl) (by kernel_rfl) hcb2 rfl ?_ ?_
  rotate_left
  · intro wS hSw; go_simp; (with_reducible rfl)
  simp only [List.getElem_toArray, List.getElem_cons_succ, List.getElem_cons_zero, Act.put, List.setIfInBounds_toArray, List.set_cons_zero, List.set_cons_succ]
  refine rg_take 4 (v := ?_) rfl (by kernel_rfl) (by kernel_rfl) (by kernel_rfl) hcb2 rfl ?_ ?_
  rotate_left
  · intro wS hSw; go_simp; (with_reducible rfl)
  simp only [List.getElem_toArray, List.getElem_cons_succ, List.getElem_cons_zero, Act.put, List.setIfInBounds_toArray, List.set_cons_zero, List.set_cons_succ]
  refine rg_one 5 rfl (by kernel_rfl) rfl (fun K hK => ?_)
  refine op_box (g := ab) (j := 1) (v := .int .u64 (T.1 : Int)) (vs := [.int .u64 (T.1 : Int)]) rfl rfl rfl ha2 rfl (by kernel_rfl) (by simp) (by simp; rfl) #[.bool is, .int .u64 (T.1 : Int), .string ⟨#[]⟩, .int .u32 0, .string ⟨#[]⟩, .string ⟨#[]⟩, .slice none 0 0, .int .u8 0, .int .u64 0, .string ⟨#[]⟩, .slice none 0 0, .slice none 0 0] (by simp) ?_
  intro w3 ha3 hg3 _
  have hcb3 := hcb2.grown hg3 (by intro e; injection e with e; omega)
  have hr3 := hr2.kept hg3 (fun g hg hFg => by injection hg with hg; subst hg; exact hFa hFg)
  have hKP3 := hKP2.grown hBW hg3 (fun g hg => by injection hg with hg; exact ⟨by omega, .inl hg.symm⟩)
  refine hK _ _ hcb3 ?_; clear hK K
  refine rg_end (by kernel_rfl) ?_
  go_wp2_with (first | (with_reducible refine hold_append ?_) | (with_reducible refine hold_make ?_) | (with_reducible refine hold_copy ?_))
  go_end0
  exact ⟨rfl, hr3, ha3, hKP3⟩
set_option maxRecDepth 20000 in
theorem cl_long {F : Nat → Prop} {W : World} {o vb ab cb B : Nat} {l : List UInt8} (is : Bool) (T : _) (hT : T = mnum l false 4) (hr : Rdr F W (.pointer (some ⟨o, 0, none⟩)) (some vb) l false) (hcb : Box W cb 72 #[.pointer (some ⟨ab, 0, none⟩)]) (ha : Box W ab 57 #[.bool is, .int .u64 0, .string ⟨#[]⟩, .int .u32 0, .string ⟨#[]⟩, .string ⟨#[]⟩, .slice none 0 0, .int .u8 0, .int .u64 0, .string ⟨#[]⟩, .slice none 0 0, .slice none 0 0]) (hFa : ¬ F ab) (hvc : vb ≠ cb) (hva : vb ≠ ab) (hca : cb ≠ ab) (hBa : B ≤ ab) (hBv : B ≤ vb) (hBW : B ≤ W.heap.size) :
    Calls Tryd.prog 67 #[.pointer (some ⟨o, 0, none⟩), .pointer (some ⟨cb, 0, none⟩)] W fun e W' => e = .returned (.tuple #[]) ∧ Rdr F W' (.pointer (some ⟨o, 0, none⟩)) (some vb) T.2.1 T.2.2 ∧ Box W' ab 57 #[.bool is, .int .u64 (T.1 : Int), .string ⟨#[]⟩, .int .u32 0, .string ⟨#[]⟩, .string ⟨#[]⟩, .slice none 0 0, .int .u8 0, .int .u64 0, .string ⟨#[]⟩, .slice none 0 0, .slice none 0 0] ∧ KP B ab vb W W' := by
  have h1 := fun W (h : Rdr F W (.pointer (some ⟨o, 0, none⟩)) (some vb) l false) => rdnum_any h 4 (by omega) (by omega)
  rw [← hT] at h1
  clear hT
  have hKP := KP.refl B ab vb W
  go_enter Tryd.func67, Tryd.ntmps67
  go_upto_region 0 with fail
  refine rg_start (fun W : World => Box W cb 72 #[.pointer (some ⟨ab, 0, none⟩)]) (by kernel_rfl) ?_
  replace hcb : Box W.drew cb 72 #[.pointer (some ⟨ab, 0, none⟩)] := hcb
  replace ha : Box W.drew ab 57 #[.bool is, .int .u64 0, .string ⟨#[]⟩, .int .u32 0, .string ⟨#[]⟩, .string ⟨#[]⟩, .slice none 0 0, .int .u8 0, .int .u64 0, .string ⟨#[]⟩, .slice none 0 0, .slice none 0 0] := ha
  replace hr := hr.drew
  replace hKP := hKP.drew
  have h1 := h1 _ hr
  generalize W.drew = wd at *
  refine rg_take 0 (v := ?_) rfl (by kernel_rfl) (by kernel_rfl) (by kernel_rfl) hcb rfl ?_ ?_
  rotate_left
  · intro wS hSw; have y0 := hSw.cell (j := 0) rfl; go_simp; (with_reducible rfl)
  simp only [List.getElem_toArray, List.getElem_cons_zero, Act.put, List.setIfInBounds_toArray, List.set_cons_zero, List.set_cons_succ]
  refine rg_take 1 (v := ?_) rfl (by kernel_rfl) (by kernel_rfl) (by kernel_rfl) hcb rfl ?_ ?_
  rotate_left
  · intro wS hSw; go_simp; (with_reducible rfl)
  simp only [List.getElem_toArray, List.getElem_cons_succ, List.getElem_cons_zero, Act.put, List.setIfInBounds_toArray, List.set_cons_zero, List.set_cons_succ]
  refine rg_one 2 rfl (by kernel_rfl) rfl (fun K hK => ?_)
  go_simp
  refine h1.mono ?_
  rintro e w2 ⟨rfl, hr2, hg2⟩
  have hcb2 := hcb.grown hg2 (by intro e; injection e with e; omega)
  have ha2 := ha.grown hg2 (by intro e; injection e with e; omega)
  have hKP2 := hKP.grown hBW hg2 (fun g hg => by injection hg with hg; exact ⟨by omega, .inr (.inl hg.symm)⟩)
  clear h1 hr hcb ha hKP hg2
  refine hK _ _ hcb2 ?_; clear hK K
  try simp only [List.getElem_toArray, List.getElem_cons_succ, List.getElem_cons_zero, Act.put, List.setIfInBounds_toArray, List.set_cons_zero, List.set_cons_succ]
  refine rg_take 3 (v := ?_) rfl (by kernel_rfl) (by kernel_rfl) (by kernel_rfl) hcb2 rfl ?_ ?_
  rotate_left
  · intro wS hSw; go_simp; (with_reducible rfl)
  simp only [List.getElem_toArray, List.getElem_cons_succ, List.getElem_cons_zero, Act.put, List.setIfInBounds_toArray, List.set_cons_zero, List.set_cons_succ]
  refine rg_take 4 (v := ?_) rfl (by kernel_rfl) (by kernel_rfl) (by kernel_rfl) hcb2 rfl ?_ ?_
  rotate_left
  · intro wS hSw; go_simp; (with_reducible rfl)
  simp only [List.getElem_toArray, List.getElem_cons_succ, List.getElem_cons_zero, Act.put, List.setIfInBounds_toArray, List.set_cons_zero, List.set_cons_succ]
  refine rg_one 5 rfl (by kernel_rfl) rfl (fun K hK => ?_)
  refine op_box (g := ab) (j := 1) (v := .int .u64 (T.1 : Int)) (vs := [.int .u64 (T.1 : Int)]) rfl rfl rfl ha2 rfl (by kernel_rfl) (by simp) (by simp; rfl) #[.bool is, .int .u64 (T.1 : Int), .string ⟨#[]⟩, .int .u32 0, .string ⟨#[]⟩, .string ⟨#[]⟩, .slice none 0 0, .int .u8 0, .int .u64 0, .string ⟨#[]⟩, .slice none 0 0, .slice none 0 0] (by simp) ?_
  intro w3 ha3 hg3 _
  have hcb3 := hcb2.grown hg3 (by intro e; injection e with e; omega)
  have hr3 := hr2.kept hg3 (fun g hg hFg => by injection hg with hg; subst hg; exact hFa hFg)
  have hKP3 := hKP2.grown hBW hg3 (fun g hg => by injection hg with hg; exact ⟨by omega, .inl hg.symm⟩)
  refine hK _ _ hcb3 ?_; clear hK K
  refine rg_end (by kernel_rfl) ?_
  go_wp2_with (first | (with_reducible refine hold_append ?_) | (with_reducible refine hold_make ?_) | (with_reducible refine hold_copy ?_))
  go_end0
  exact ⟨rfl, hr3, ha3, hKP3⟩
set_option maxRecDepth 20000 in
theorem cl_short {F : Nat → Prop} {W : World} {o vb ab cb B : Nat} {l : List UInt8} (is : Bool) (T : _) (hT : T = mtext l false 1 255) (hr : Rdr F W (.pointer (some ⟨o, 0, none⟩)) (some vb) l false) (hcb : Box W cb 72 #[.pointer (some ⟨ab, 0, none⟩)]) (ha : Box W ab 57 #[.bool is, .int .u64 0, .string ⟨#[]⟩, .int .u32 0, .string ⟨#[]⟩, .string ⟨#[]⟩, .slice none 0 0, .int .u8 0, .int .u64 0, .string ⟨#[]⟩, .slice none 0 0, .slice none 0 0]) (hFa : ¬ F ab) (hvc : vb ≠ cb) (hva : vb ≠ ab) (hca : cb ≠ ab) (hBa : B ≤ ab) (hBv : B ≤ vb) (hBW : B ≤ W.heap.size) :
    Calls Tryd.prog 68 #[.pointer (some ⟨o, 0, none⟩), .pointer (some ⟨cb, 0, none⟩)] W fun e W' => e = .returned (.tuple #[]) ∧ Rdr F W' (.pointer (some ⟨o, 0, none⟩)) (some vb) T.2.1 T.2.2 ∧ Box W' ab 57 #[.bool is, .int .u64 0, .string (str T.1), .int .u32 0, .string ⟨#[]⟩, .string ⟨#[]⟩, .slice none 0 0, .int .u8 0, .int .u64 0, .string ⟨#[]⟩, .slice none 0 0, .slice none 0 0] ∧ KP B ab vb W W' := by
  have h1 := fun W (h : Rdr F W (.pointer (some ⟨o, 0, none⟩)) (some vb) l false) => rdtext_any h 1 255 (by omega) (by omega) (by omega) (by omega)
  rw [← hT] at h1
  clear hT
  have hKP := KP.refl B ab vb W
  go_enter Tryd.func68, Tryd.ntmps68
  go_upto_region 0 with fail
  refine rg_start (fun W : World => Box W cb 72 #[.pointer (some ⟨ab, 0, none⟩)]) (by kernel_rfl) ?_
  replace hcb : Box W.drew cb 72 #[.pointer (some ⟨ab, 0, none⟩)] := hcb
  replace ha : Box W.drew ab 57 #[.bool is, .int .u64 0, .string ⟨#[]⟩, .int .u32 0, .string ⟨#[]⟩, .string ⟨#[]⟩, .slice none 0 0, .int .u8 0, .int .u64 0, .string ⟨#[]⟩, .slice none 0 0, .slice none 0 0] := ha
  replace hr := hr.drew
  replace hKP := hKP.drew
  have h1 := h1 _ hr
  generalize W.drew = wd at *
  refine rg_take 0 (v := ?_) rfl (by kernel_rfl) (by kernel_rfl) (by kernel_rfl) hcb rfl ?_ ?_
  rotate_left
  · intro wS hSw; have y0 := hSw.cell (j := 0) rfl; go_simp; (with_reducible rfl)
  simp only [List.getElem_toArray, List.getElem_cons_zero, Act.put, List.setIfInBounds_toArray, List.set_cons_zero, List.set_cons_succ]
  refine rg_take 1 (v := ?_) rfl (by kernel_rfl) (by kernel_rfl) (by kernel_rfl) hcb rfl ?_ ?_
  rotate_left
  · intro wS hSw; go_simp; (with_reducible rfl)
  simp only [List.getElem_toArray, List.getElem_cons_succ, List.getElem_cons_zero, Act.put, List.setIfInBounds_toArray, List.set_cons_zero, List.set_cons_succ]
  refine rg_one 2 rfl (by kernel_rfl) rfl (fun K hK => ?_)
  go_simp
  refine h1.mono ?_
  rintro e w2 ⟨rfl, hr2, hg2⟩
  have hcb2 := hcb.grown hg2 (by intro e; injection e with e; omega)
  have ha2 := ha.grown hg2 (by intro e; injection e with e; omega)
  have hKP2 := hKP.grown hBW hg2 (fun g hg => by injection hg with hg; exact ⟨by omega, .inr (.inl hg.symm)⟩)
  clear h1 hr hcb ha hKP hg2
  refine hK _ _ hcb2 ?_; clear hK K
  try simp only [List.getElem_toArray, List.getElem_cons_succ, List.getElem_cons_zero, Act.put, List.setIfInBounds_toArray, List.set_cons_zero, List.set_cons_succ]
  refine rg_take 3 (v := ?_) rfl (by kernel_rfl) (by kernel_rfl) (by kernel_rfl) hcb2 rfl ?_ ?_
  rotate_left
  · intro wS hSw; go_simp; (with_reducible rfl)
  simp only [List.getElem_toArray, List.getElem_cons_succ, List.getElem_cons_zero, Act.put, List.setIfInBounds_toArray, List.set_cons_zero, List.set_cons_succ]
  refine rg_take 4 (v := ?_) rfl (by kernel_rfl) (by kernel_rfl) (by kernel_rfl) hcb2 rfl ?_ ?_
  rotate_left
  · intro wS hSw; go_simp; (with_reducible rfl)
  simp only [List.getElem_toArray, List.getElem_cons_succ, List.getElem_cons_zero, Act.put, List.setIfInBounds_toArray, List.set_cons_zero, List.set_cons_succ]
  refine rg_one 5 rfl (by kernel_rfl) rfl (fun K hK => ?_)
  refine op_box (g := ab) (j := 2) (v := .string (str T.1)) (vs := [.string (str T.1)]) rfl rfl rfl ha2 rfl (by kernel_rfl) (by simp) (by simp; rfl) #[.bool is, .int .u64 0, .string (str T.1), .int .u32 0, .string ⟨#[]⟩, .string ⟨#[]⟩, .slice none 0 0, .int .u8 0, .int .u64 0, .string ⟨#[]⟩, .slice none 0 0, .slice none 0 0] (by simp) ?_
  intro w3 ha3 hg3 _
  have hcb3 := hcb2.grown hg3 (by intro e; injection e with e; omega)
  have hr3 := hr2.kept hg3 (fun g hg hFg => by injection hg with hg; subst hg; exact hFa hFg)
  have hKP3 := hKP2.grown hBW hg3 (fun g hg => by injection hg with hg; exact ⟨by omega, .inl hg.symm⟩)
  refine hK _ _ hcb3 ?_; clear hK K
  refine rg_end (by kernel_rfl) ?_
  go_wp2_with (first | (with_reducible refine hold_append ?_) | (with_reducible refine hold_make ?_) | (with_reducible refine hold_copy ?_))
  go_end0
  exact ⟨rfl, hr3, ha3, hKP3⟩
set_option maxRecDepth 20000 in
theorem cl_text {F : Nat → Prop} {W : World} {o vb ab cb B : Nat} {l : List UInt8} (is : Bool) (T : _) (hT : T = mtext l false 2 65535) (hr : Rdr F W (.pointer (some ⟨o, 0, none⟩)) (some vb) l false) (hcb : Box W cb 72 #[.pointer (some ⟨ab, 0, none⟩)]) (ha : Box W ab 57 #[.bool is, .int .u64 0, .string ⟨#[]⟩, .int .u32 0, .string ⟨#[]⟩, .string ⟨#[]⟩, .slice none 0 0, .int .u8 0, .int .u64 0, .string ⟨#[]⟩, .slice none 0 0, .slice none 0 0]) (hFa : ¬ F ab) (hvc : vb ≠ cb) (hva : vb ≠ ab) (hca : cb ≠ ab) (hBa : B ≤ ab) (hBv : B ≤ vb) (hBW : B ≤ W.heap.size) :
    Calls Tryd.prog 70 #[.pointer (some ⟨o, 0, none⟩), .pointer (some ⟨cb, 0, none⟩)] W fun e W' => e = .returned (.tuple #[]) ∧ Rdr F W' (.pointer (some ⟨o, 0, none⟩)) (some vb) T.2.1 T.2.2 ∧ Box W' ab 57 #[.bool is, .int .u64 0, .string (str T.1), .int .u32 0, .string ⟨#[]⟩, .string ⟨#[]⟩, .slice none 0 0, .int .u8 0, .int .u64 0, .string ⟨#[]⟩, .slice none 0 0, .slice none 0 0] ∧ KP B ab vb W W' := by
  have h1 := fun W (h : Rdr F W (.pointer (some ⟨o, 0, none⟩)) (some vb) l false) => rdtext_any h 2 65535 (by omega) (by omega) (by omega) (by omega)
  rw [← hT] at h1
  clear hT
  have hKP := KP.refl B ab vb W
  go_enter Tryd.func70, Tryd.ntmps70
  go_upto_region 0 with fail
  refine rg_start (fun W : World => Box W cb 72 #[.pointer (some ⟨ab, 0, none⟩)]) (by kernel_rfl) ?_
  replace hcb : Box W.drew cb 72 #[.pointer (some ⟨ab, 0, none⟩)] := hcb
  replace ha : Box W.drew ab 57 #[.bool is, .int .u64 0, .string ⟨#[]⟩, .int .u32 0, .string ⟨#[]⟩, .string ⟨#[]⟩, .slice none 0 0, .int .u8 0, .int .u64 0, .string ⟨#[]⟩, .slice none 0 0, .slice none 0 0] := ha
  replace hr := hr.drew
  replace hKP := hKP.drew
  have h1 := h1 _ hr
  generalize W.drew = wd at *
  refine rg_take 0 (v := ?_) rfl (by kernel_rfl) (by kernel_rfl) (by kernel_rfl) hcb rfl ?_ ?_
  rotate_left
  · intro wS hSw; have y0 := hSw.cell (j := 0) rfl; go_simp; (with_reducible rfl)
  simp only [List.getElem_toArray, List.getElem_cons_zero, Act.put, List.setIfInBounds_toArray, List.set_cons_zero, List.set_cons_succ]
  refine rg_take 1 (v := ?_) rfl (by kernel_rfl) (by kernel_rfl) (by kernel_rfl) hcb rfl ?_ ?_
  rotate_left
  · intro wS hSw; go_simp; (with_reducible rfl)
  simp only [List.getElem_toArray, List.getElem_cons_succ, List.getElem_cons_zero, Act.put, List.setIfInBounds_toArray, List.set_cons_zero, List.set_cons_succ]
  refine rg_one 2 rfl (by kernel_rfl) rfl (fun K hK => ?_)
  go_simp
  refine h1.mono ?_
  rintro e w2 ⟨rfl, hr2, hg2⟩
  have hcb2 := hcb.grown hg2 (by intro e; injection e with e; omega)
  have ha2 := ha.grown hg2 (by intro e; injection e with e; omega)
  have hKP2 := hKP.grown hBW hg2 (fun g hg => by injection hg with hg; exact ⟨by omega, .inr (.inl hg.symm)⟩)
  clear h1 hr hcb ha hKP hg2
  refine hK _ _ hcb2 ?_; clear hK K
  try simp only [List.getElem_toArray, List.getElem_cons_succ, List.getElem_cons_zero, Act.put, List.setIfInBounds_toArray, List.set_cons_zero, List.set_cons_succ]
  refine rg_take 3 (v := ?_) rfl (by kernel_rfl) (by kernel_rfl) (by kernel_rfl) hcb2 rfl ?_ ?_
  rotate_left
  · intro wS hSw; go_simp; (with_reducible rfl)
  simp only [List.getElem_toArray, List.getElem_cons_succ, List.getElem_cons_zero, Act.put, List.setIfInBounds_toArray, List.set_cons_zero, List.set_cons_succ]
  refine rg_take 4 (v := ?_) rfl (by kernel_rfl) (by kernel_rfl) (by kernel_rfl) hcb2 rfl ?_ ?_
  rotate_left
  · intro wS hSw; go_simp; (with_reducible rfl)
  simp only [List.getElem_toArray, List.getElem_cons_succ, List.getElem_cons_zero, Act.put, List.setIfInBounds_toArray, List.set_cons_zero, List.set_cons_succ]
  refine rg_one 5 rfl (by kernel_rfl) rfl (fun K hK => ?_)
  refine op_box (g := ab) (j := 2) (v := .string (str T.1)) (vs := [.string (str T.1)]) rfl rfl rfl ha2 rfl (by kernel_rfl) (by simp) (by simp; rfl) #[.bool is, .int .u64 0, .string (str T.1), .int .u32 0, .string ⟨#[]⟩, .string ⟨#[]⟩, .slice none 0 0, .int .u8 0, .int .u64 0, .string ⟨#[]⟩, .slice none 0 0, .slice none 0 0] (by simp) ?_
  intro w3 ha3 hg3 _
  have hcb3 := hcb2.grown hg3 (by intro e; injection e with e; omega)
  have hr3 := hr2.kept hg3 (fun g hg hFg => by injection hg with hg; subst hg; exact hFa hFg)
  have hKP3 := hKP2.grown hBW hg3 (fun g hg => by injection hg with hg; exact ⟨by omega, .inl hg.symm⟩)
  refine hK _ _ hcb3 ?_; clear hK K
  refine rg_end (by kernel_rfl) ?_
  go_wp2_with (first | (with_reducible refine hold_append ?_) | (with_reducible refine hold_make ?_) | (with_reducible refine hold_copy ?_))
  go_end0
  exact ⟨rfl, hr3, ha3, hKP3⟩
end Go.PH
end
section
/- The method reader's readers of bits, numbers and texts: the walks of the program. -/
set_option linter.all false
set_option linter.unusedSimpArgs false
set_option linter.unusedVariables false
namespace Go.PH
open Go.RowKit Go.Proofs

theorem OctR.from {w w1 w' : World} {B rb ab : Nat} {l : List UInt8} {bad : Bool} {cells : Array Value} {e : Ending} (h : OctR w1 B rb ab l bad cells e w') (hK : KP B rb ab w w1) : OctR w B rb ab l bad cells e w' := ⟨h.1, h.2.1, h.2.2.1, hK.trans h.2.2.2⟩
set_option maxRecDepth 20000 in
theorem mrd_byte {w : World} {B rb ab : Nat} {l : List UInt8} {bad : Bool} (is : Bool) (h : MRd w B rb l bad) (hB : B ≤ rb) (ha : Box w ab 57 #[.bool is, .int .u64 0, .string ⟨#[]⟩, .int .u32 0, .string ⟨#[]⟩, .string ⟨#[]⟩, .slice none 0 0, .int .u8 0, .int .u64 0, .string ⟨#[]⟩, .slice none 0 0, .slice none 0 0]) (hab : B ≤ ab) (hne : ab ≠ rb) (T : _) (hT : T = mnum l false 1) (hTl : T.2.1.length ≤ l.length) :
    Calls Tryd.prog 47 #[.pointer (some ⟨rb, 0, none⟩), .pointer (some ⟨ab, 0, none⟩)] w (OctR w B rb ab (if (bad || T.2.2) = true then l else l.drop (l.length - T.2.1.length)) (bad || T.2.2) #[.bool is, .int .u64 (T.1 : Int), .string ⟨#[]⟩, .int .u32 0, .string ⟨#[]⟩, .string ⟨#[]⟩, .slice none 0 0, .int .u8 0, .int .u64 0, .string ⟨#[]⟩, .slice none 0 0, .slice none 0 0]) := by
  have hmf : ∀ (fn : Fn) (first cap : Array Value) (w : World), (Instr.makeFunc fn first cap).run Tryd.prog w = .ok (.func fn first cap) w := fun _ _ _ _ => rfl
  obtain ⟨cb, w1, hcb, hcv, hC, hB1⟩ := alloc_stepV w #[.pointer (some ⟨ab, 0, none⟩)] 72
  have haw := ha.lt
  have hK := (KP.refl B rb ab w).below (by omega) hB1
  have hcl := hC.lt
  have hoc := octets_any 65 #[.pointer (some ⟨cb, 0, none⟩)] (fun _ _ => rfl) (h.kp ((KP.refl B ab ab w).below (by omega) hB1) (Ne.symm hne) (Ne.symm hne)) hB _ #[.bool is, .int .u64 (T.1 : Int), .string ⟨#[]⟩, .int .u32 0, .string ⟨#[]⟩, .string ⟨#[]⟩, .slice none 0 0, .int .u8 0, .int .u64 0, .string ⟨#[]⟩, .slice none 0 0, .slice none 0 0] (ha.below hB1) hab hne T.2.1 T.2.2 hTl (fun W o vb F hBW hr hF ha => by
    have hv := hF vb (hr.inF rfl)
    exact cl_byte is T hT hr (hC.below hBW) ha (fun hFa => by have := (hF ab hFa).1; omega) (by omega) (by omega) (by omega) hab (by omega) (by have := hBW.size; omega))
  obtain ⟨lr, hlr⟩ : ∃ x, x = (if (bad || T.2.2) = true then l else l.drop (l.length - T.2.1.length)) := ⟨_, rfl⟩
  obtain ⟨br, hbr⟩ : ∃ x, x = (bad || T.2.2) := ⟨_, rfl⟩
  rw [← hlr, ← hbr] at hoc ⊢
  clear hlr hbr
  go_enter Tryd.func47, Tryd.ntmps47
  go_upto_region 1 with fail
  rw [← hcb, ← hcv]
  clear hcb hcv
  go_wp2_with (first | (with_reducible refine hold_append ?_) | (with_reducible refine hold_make ?_) | (with_reducible refine hold_copy ?_))
  refine hoc.mono ?_
  rintro e w2 hres
  have hr2 := hres.from hK
  obtain ⟨rfl, _⟩ := hres
  go_wp2_with (first | (with_reducible refine hold_append ?_) | (with_reducible refine hold_make ?_) | (with_reducible refine hold_copy ?_))
  go_end0
  exact hr2
set_option maxRecDepth 20000 in
theorem mrd_word {w : World} {B rb ab : Nat} {l : List UInt8} {bad : Bool} (is : Bool) (h : MRd w B rb l bad) (hB : B ≤ rb) (ha : Box w ab 57 #[.bool is, .int .u64 0, .string ⟨#[]⟩, .int .u32 0, .string ⟨#[]⟩, .string ⟨#[]⟩, .slice none 0 0, .int .u8 0, .int .u64 0, .string ⟨#[]⟩, .slice none 0 0, .slice none 0 0]) (hab : B ≤ ab) (hne : ab ≠ rb) (T : _) (hT : T = mnum l false 2) (hTl : T.2.1.length ≤ l.length) :
    Calls Tryd.prog 48 #[.pointer (some ⟨rb, 0, none⟩), .pointer (some ⟨ab, 0, none⟩)] w (OctR w B rb ab (if (bad || T.2.2) = true then l else l.drop (l.length - T.2.1.length)) (bad || T.2.2) #[.bool is, .int .u64 (T.1 : Int), .string ⟨#[]⟩, .int .u32 0, .string ⟨#[]⟩, .string ⟨#[]⟩, .slice none 0 0, .int .u8 0, .int .u64 0, .string ⟨#[]⟩, .slice none 0 0, .slice none 0 0]) := by
  have hmf : ∀ (fn : Fn) (first cap : Array Value) (w : World), (Instr.makeFunc fn first cap).run Tryd.prog w = .ok (.func fn first cap) w := fun _ _ _ _ => rfl
  obtain ⟨cb, w1, hcb, hcv, hC, hB1⟩ := alloc_stepV w #[.pointer (some ⟨ab, 0, none⟩)] 72
  have haw := ha.lt
  have hK := (KP.refl B rb ab w).below (by omega) hB1
  have hcl := hC.lt
  have hoc := octets_any 66 #[.pointer (some ⟨cb, 0, none⟩)] (fun _ _ => rfl) (h.kp ((KP.refl B ab ab w).below (by omega) hB1) (Ne.symm hne) (Ne.symm hne)) hB _ #[.bool is, .int .u64 (T.1 : Int), .string ⟨#[]⟩, .int .u32 0, .string ⟨#[]⟩, .string ⟨#[]⟩, .slice none 0 0, .int .u8 0, .int .u64 0, .string ⟨#[]⟩, .slice none 0 0, .slice none 0 0] (ha.below hB1) hab hne T.2.1 T.2.2 hTl (fun W o vb F hBW hr hF ha => by
    have hv := hF vb (hr.inF rfl)
    exact cl_word is T hT hr (hC.below hBW) ha (fun hFa => by have := (hF ab hFa).1; omega) (by omega) (by omega) (by omega) hab (by omega) (by have := hBW.size; omega))
  obtain ⟨lr, hlr⟩ : ∃ x, x = (if (bad || T.2.2) = true then l else l.drop (l.length - T.2.1.length)) := ⟨_, rfl⟩
  obtain ⟨br, hbr⟩ : ∃ x, x = (bad || T.2.2) := ⟨_, rfl⟩
  rw [← hlr, ← hbr] at hoc ⊢
  clear hlr hbr
  go_enter Tryd.func48, Tryd.ntmps48
  go_upto_region 1 with fail
  rw [← hcb, ← hcv]
  clear hcb hcv
  go_wp2_with (first | (with_reducible refine hold_append ?_) | (with_reducible refine hold_make ?_) | (with_reducible refine hold_copy ?_))
  refine hoc.mono ?_
  rintro e w2 hres
  have hr2 := hres.from hK
  obtain ⟨rfl, _⟩ := hres
  go_wp2_with (first | (with_reducible refine hold_append ?_) | (with_reducible refine hold_make ?_) | (with_reducible refine hold_copy ?_))
  go_end0
  exact hr2
set_option maxRecDepth 20000 in
theorem mrd_long {w : World} {B rb ab : Nat} {l : List UInt8} {bad : Bool} (is : Bool) (h : MRd w B rb l bad) (hB : B ≤ rb) (ha : Box w ab 57 #[.bool is, .int .u64 0, .string ⟨#[]⟩, .int .u32 0, .string ⟨#[]⟩, .string ⟨#[]⟩, .slice none 0 0, .int .u8 0, .int .u64 0, .string ⟨#[]⟩, .slice none 0 0, .slice none 0 0]) (hab : B ≤ ab) (hne : ab ≠ rb) (T : _) (hT : T = mnum l false 4) (hTl : T.2.1.length ≤ l.length) :
    Calls Tryd.prog 49 #[.pointer (some ⟨rb, 0, none⟩), .pointer (some ⟨ab, 0, none⟩)] w (OctR w B rb ab (if (bad || T.2.2) = true then l else l.drop (l.length - T.2.1.length)) (bad || T.2.2) #[.bool is, .int .u64 (T.1 : Int), .string ⟨#[]⟩, .int .u32 0, .string ⟨#[]⟩, .string ⟨#[]⟩, .slice none 0 0, .int .u8 0, .int .u64 0, .string ⟨#[]⟩, .slice none 0 0, .slice none 0 0]) := by
  have hmf : ∀ (fn : Fn) (first cap : Array Value) (w : World), (Instr.makeFunc fn first cap).run Tryd.prog w = .ok (.func fn first cap) w := fun _ _ _ _ => rfl
  obtain ⟨cb, w1, hcb, hcv, hC, hB1⟩ := alloc_stepV w #[.pointer (some ⟨ab, 0, none⟩)] 72
  have haw := ha.lt
  have hK := (KP.refl B rb ab w).below (by omega) hB1
  have hcl := hC.lt
  have hoc := octets_any 67 #[.pointer (some ⟨cb, 0, none⟩)] (fun _ _ => rfl) (h.kp ((KP.refl B ab ab w).below (by omega) hB1) (Ne.symm hne) (Ne.symm hne)) hB _ #[.bool is, .int .u64 (T.1 : Int), .string ⟨#[]⟩, .int .u32 0, .string ⟨#[]⟩, .string ⟨#[]⟩, .slice none 0 0, .int .u8 0, .int .u64 0, .string ⟨#[]⟩, .slice none 0 0, .slice none 0 0] (ha.below hB1) hab hne T.2.1 T.2.2 hTl (fun W o vb F hBW hr hF ha => by
    have hv := hF vb (hr.inF rfl)
    exact cl_long is T hT hr (hC.below hBW) ha (fun hFa => by have := (hF ab hFa).1; omega) (by omega) (by omega) (by omega) hab (by omega) (by have := hBW.size; omega))
  obtain ⟨lr, hlr⟩ : ∃ x, x = (if (bad || T.2.2) = true then l else l.drop (l.length - T.2.1.length)) := ⟨_, rfl⟩
  obtain ⟨br, hbr⟩ : ∃ x, x = (bad || T.2.2) := ⟨_, rfl⟩
  rw [← hlr, ← hbr] at hoc ⊢
  clear hlr hbr
  go_enter Tryd.func49, Tryd.ntmps49
  go_upto_region 1 with fail
  rw [← hcb, ← hcv]
  clear hcb hcv
  go_wp2_with (first | (with_reducible refine hold_append ?_) | (with_reducible refine hold_make ?_) | (with_reducible refine hold_copy ?_))
  refine hoc.mono ?_
  rintro e w2 hres
  have hr2 := hres.from hK
  obtain ⟨rfl, _⟩ := hres
  go_wp2_with (first | (with_reducible refine hold_append ?_) | (with_reducible refine hold_make ?_) | (with_reducible refine hold_copy ?_))
  go_end0
  exact hr2
set_option maxRecDepth 20000 in
theorem mrd_short {w : World} {B rb ab : Nat} {l : List UInt8} {bad : Bool} (is : Bool) (h : MRd w B rb l bad) (hB : B ≤ rb) (ha : Box w ab 57 #[.bool is, .int .u64 0, .string ⟨#[]⟩, .int .u32 0, .string ⟨#[]⟩, .string ⟨#[]⟩, .slice none 0 0, .int .u8 0, .int .u64 0, .string ⟨#[]⟩, .slice none 0 0, .slice none 0 0]) (hab : B ≤ ab) (hne : ab ≠ rb) (T : _) (hT : T = mtext l false 1 255) (hTl : T.2.1.length ≤ l.length) :
    Calls Tryd.prog 50 #[.pointer (some ⟨rb, 0, none⟩), .pointer (some ⟨ab, 0, none⟩)] w (OctR w B rb ab (if (bad || T.2.2) = true then l else l.drop (l.length - T.2.1.length)) (bad || T.2.2) #[.bool is, .int .u64 0, .string (str T.1), .int .u32 0, .string ⟨#[]⟩, .string ⟨#[]⟩, .slice none 0 0, .int .u8 0, .int .u64 0, .string ⟨#[]⟩, .slice none 0 0, .slice none 0 0]) := by
  have hmf : ∀ (fn : Fn) (first cap : Array Value) (w : World), (Instr.makeFunc fn first cap).run Tryd.prog w = .ok (.func fn first cap) w := fun _ _ _ _ => rfl
  obtain ⟨cb, w1, hcb, hcv, hC, hB1⟩ := alloc_stepV w #[.pointer (some ⟨ab, 0, none⟩)] 72
  have haw := ha.lt
  have hK := (KP.refl B rb ab w).below (by omega) hB1
  have hcl := hC.lt
  have hoc := octets_any 68 #[.pointer (some ⟨cb, 0, none⟩)] (fun _ _ => rfl) (h.kp ((KP.refl B ab ab w).below (by omega) hB1) (Ne.symm hne) (Ne.symm hne)) hB _ #[.bool is, .int .u64 0, .string (str T.1), .int .u32 0, .string ⟨#[]⟩, .string ⟨#[]⟩, .slice none 0 0, .int .u8 0, .int .u64 0, .string ⟨#[]⟩, .slice none 0 0, .slice none 0 0] (ha.below hB1) hab hne T.2.1 T.2.2 hTl (fun W o vb F hBW hr hF ha => by
    have hv := hF vb (hr.inF rfl)
    exact cl_short is T hT hr (hC.below hBW) ha (fun hFa => by have := (hF ab hFa).1; omega) (by omega) (by omega) (by omega) hab (by omega) (by have := hBW.size; omega))
  obtain ⟨lr, hlr⟩ : ∃ x, x = (if (bad || T.2.2) = true then l else l.drop (l.length - T.2.1.length)) := ⟨_, rfl⟩
  obtain ⟨br, hbr⟩ : ∃ x, x = (bad || T.2.2) := ⟨_, rfl⟩
  rw [← hlr, ← hbr] at hoc ⊢
  clear hlr hbr
  go_enter Tryd.func50, Tryd.ntmps50
  go_upto_region 1 with fail
  rw [← hcb, ← hcv]
  clear hcb hcv
  go_wp2_with (first | (with_reducible refine hold_append ?_) | (with_reducible refine hold_make ?_) | (with_reducible refine hold_copy ?_))
  refine hoc.mono ?_
  rintro e w2 hres
  have hr2 := hres.from hK
  obtain ⟨rfl, _⟩ := hres
  go_wp2_with (first | (with_reducible refine hold_append ?_) | (with_reducible refine hold_make ?_) | (with_reducible refine hold_copy ?_))
  go_end0
  exact hr2
set_option maxRecDepth 20000 in
theorem mrd_text {w : World} {B rb ab : Nat} {l : List UInt8} {bad : Bool} (is : Bool) (h : MRd w B rb l bad) (hB : B ≤ rb) (ha : Box w ab 57 #[.bool is, .int .u64 0, .string ⟨#[]⟩, .int .u32 0, .string ⟨#[]⟩, .string ⟨#[]⟩, .slice none 0 0, .int .u8 0, .int .u64 0, .string ⟨#[]⟩, .slice none 0 0, .slice none 0 0]) (hab : B ≤ ab) (hne : ab ≠ rb) (T : _) (hT : T = mtext l false 2 65535) (hTl : T.2.1.length ≤ l.length) :
    Calls Tryd.prog 51 #[.pointer (some ⟨rb, 0, none⟩), .pointer (some ⟨ab, 0, none⟩)] w (OctR w B rb ab (if (bad || T.2.2) = true then l else l.drop (l.length - T.2.1.length)) (bad || T.2.2) #[.bool is, .int .u64 0, .string (str T.1), .int .u32 0, .string ⟨#[]⟩, .string ⟨#[]⟩, .slice none 0 0, .int .u8 0, .int .u64 0, .string ⟨#[]⟩, .slice none 0 0, .slice none 0 0]) := by
  have hmf : ∀ (fn : Fn) (first cap : Array Value) (w : World), (Instr.makeFunc fn first cap).run Tryd.prog w = .ok (.func fn first cap) w := fun _ _ _ _ => rfl
  obtain ⟨cb, w1, hcb, hcv, hC, hB1⟩ := alloc_stepV w #[.pointer (some ⟨ab, 0, none⟩)] 72
  have haw := ha.lt
  have hK := (KP.refl B rb ab w).below (by omega) hB1
  have hcl := hC.lt
  have hoc := octets_any 70 #[.pointer (some ⟨cb, 0, none⟩)] (fun _ _ => rfl) (h.kp ((KP.refl B ab ab w).below (by omega) hB1) (Ne.symm hne) (Ne.symm hne)) hB _ #[.bool is, .int .u64 0, .string (str T.1), .int .u32 0, .string ⟨#[]⟩, .string ⟨#[]⟩, .slice none 0 0, .int .u8 0, .int .u64 0, .string ⟨#[]⟩, .slice none 0 0, .slice none 0 0] (ha.below hB1) hab hne T.2.1 T.2.2 hTl (fun W o vb F hBW hr hF ha => by
    have hv := hF vb (hr.inF rfl)
    exact cl_text is T hT hr (hC.below hBW) ha (fun hFa => by have := (hF ab hFa).1; omega) (by omega) (by omega) (by omega) hab (by omega) (by have := hBW.size; omega))
  obtain ⟨lr, hlr⟩ : ∃ x, x = (if (bad || T.2.2) = true then l else l.drop (l.length - T.2.1.length)) := ⟨_, rfl⟩
  obtain ⟨br, hbr⟩ : ∃ x, x = (bad || T.2.2) := ⟨_, rfl⟩
  rw [← hlr, ← hbr] at hoc ⊢
  clear hlr hbr
  go_enter Tryd.func51, Tryd.ntmps51
  go_upto_region 1 with fail
  rw [← hcb, ← hcv]
  clear hcb hcv
  go_wp2_with (first | (with_reducible refine hold_append ?_) | (with_reducible refine hold_make ?_) | (with_reducible refine hold_copy ?_))
  refine hoc.mono ?_
  rintro e w2 hres
  have hr2 := hres.from hK
  obtain ⟨rfl, _⟩ := hres
  go_wp2_with (first | (with_reducible refine hold_append ?_) | (with_reducible refine hold_make ?_) | (with_reducible refine hold_copy ?_))
  go_end0
  exact hr2
theorem mrd_bit {w : World} {B rb ab : Nat} {l : List UInt8} {bad : Bool} {cells : Array Value} (h : MRd w B rb l bad) (ha : Box w ab 57 cells) :
    Calls Tryd.prog 46 #[.pointer (some ⟨rb, 0, none⟩), .pointer (some ⟨ab, 0, none⟩)] w (OctR w B rb ab l bad cells) := by
  go_enter Tryd.func46, Tryd.ntmps46
  go_wp2_with (first | (with_reducible refine hold_append ?_) | (with_reducible refine hold_make ?_) | (with_reducible refine hold_copy ?_))
  go_end0
  exact ⟨rfl, ha, h, KP.refl _ _ _ _⟩
end Go.PH
end

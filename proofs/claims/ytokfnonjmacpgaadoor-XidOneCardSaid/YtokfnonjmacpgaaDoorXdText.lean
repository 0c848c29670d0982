/- The walks of Text and the reference's Text. -/
import Derived.Test.YtokfnonjmacpgaaDoorXdEnv
import Derived.Test.YtokfnonjmacpgaaDoorXdCompare
set_option linter.all false
set_option linter.unusedSimpArgs false
set_option linter.unusedVariables false
namespace Go.PH
open Go.RowKit Go.Proofs

def Xd.txt (x : Xd) : List UInt8 := Lib.decDigits x.fmt ++ [46] ++ hexB x.glob ++ [46] ++ hexB x.bran
def Xd.text (x : Xd) : List UInt8 := if x.ok then x.txt else []
theorem dec_len {n : Nat} (h : n < 18446744073709551616) : (Lib.decDigits n).length ≤ 20 := by rw [← digB_dec]; exact digB_len 19 n (by omega)
theorem Xd.err_ok {x : Xd} (h : x.ok = true) : x.err = 0 := by simp [Xd.err, h]
theorem Xd.err_no {x : Xd} (h : x.ok = false) : x.err = 40 := by simp [Xd.err, h]
theorem str_dot : (⟨#[46]⟩ : ByteArray) = str [46] := rfl
theorem dots (d a b : List UInt8) : str (d ++ [46] ++ a ++ [46] ++ b) = str d ++ ⟨#[46]⟩ ++ str a ++ ⟨#[46]⟩ ++ str b := by
  rw [str_dot]; simp only [str_app]
set_option maxRecDepth 20000 in
set_option maxHeartbeats 1000000 in
theorem text_any (x : Xd) (w : World) (hw : x.wf) (he : XEnv w) :
    Calls Tryd.prog 21 #[.agg (xdV x)] w fun e w' => e = .returned (.tuple #[.string (str x.text), .int .i64 x.err]) ∧ Below w.heap.size w w' := by
  have hc := fun w => check_any x w hw
  have hB0 : Below w.heap.size w (w.alloc (.cells (xdV x) 24)) := (Below.refl _ _).alloc (Nat.le_refl _) _
  have hb0 : Box (w.alloc (.cells (xdV x) 24)) w.heap.size 24 (xdV x) := Box.new _ _ _
  cases hok : x.ok
  · have e1 : x.text = [] := by simp [Xd.text, hok]
    rw [e1, Xd.err_no hok]
    rw [Xd.err_no hok] at hc
    clear hok e1 hb0
    unfold xdV at *
    go_enter Tryd.func21, Tryd.ntmps21
    go_wp2_with (first | (with_reducible refine hold_append ?_) | (with_reducible refine hold_make ?_) | (with_reducible refine hold_copy ?_))
    refine (hc _).mono ?_
    rintro e w1 ⟨rfl, hB1⟩
    have hB2 := hB0.trans (hB1.mono hB0.size)
    go_wp2_with (first | (with_reducible refine hold_append ?_) | (with_reducible refine hold_make ?_) | (with_reducible refine hold_copy ?_))
    go_ret2
    exact ⟨rfl, hB2⟩
  · have HT : Hid (x.text = Lib.decDigits x.fmt ++ [46] ++ hexB x.glob ++ [46] ++ hexB x.bran) := Lib.hid (by simp [Xd.text, hok, Xd.txt])
    have hcs := x.ok_iff.1 hok
    rw [Xd.err_ok hok]
    rw [Xd.err_ok hok] at hc
    clear hok
    generalize x.text = tx at *
    obtain ⟨f, g, h⟩ := x
    obtain ⟨hf, _, _⟩ := hw
    unfold xdV at *
    simp only at hc hB0 hb0 HT hcs hf ⊢
    have hfm := fun w h => fmtuint_any f w (by omega) h
    have hhg := fun w => hex_any g w (by omega)
    have hhh := fun w => hex_any h w (by omega)
    have l1 := dec_len (n := f) (by omega)
    have l2 := hexB_len g
    have l3 := hexB_len h
    have s1 : (str (Lib.decDigits f)).size = (Lib.decDigits f).length := str_size _
    have s2 : (str (hexB g)).size = (hexB g).length := str_size _
    have s3 : (str (hexB h)).size = (hexB h).length := str_size _
    have hwf : IntKind.u64.wrap (f : Int) = (f : Int) := IntWalk.u64_in _ ⟨by omega, by omega⟩
    generalize Lib.decDigits f = d at *
    generalize hexB g = hg at *
    generalize hexB h = hh at *
    have q1 : ¬ 9223372036854775807 < (str d).size + 1 := by omega
    have q2 : ¬ 9223372036854775807 < (str d).size + 1 + (str hg).size := by omega
    have q3 : ¬ 9223372036854775807 < (str d).size + 1 + (str hg).size + 1 := by omega
    have q4 : ¬ 9223372036854775807 < (str d).size + 1 + (str hg).size + 1 + (str hh).size := by omega
    clear l1 l2 l3 s1 s2 s3 hcs
    go_enter Tryd.func21, Tryd.ntmps21
    go_wp2_with (first | (with_reducible refine hold_append ?_) | (with_reducible refine hold_make ?_) | (with_reducible refine hold_copy ?_))
    refine (hc _).mono ?_
    rintro e w1 ⟨rfl, hB1⟩
    have hB2 := hB0.trans (hB1.mono hB0.size)
    have hb2 := hb0.below hB1
    have h8 := he.lt
    clear hb0 hB0 hB1 hc
    go_wp2_with (first | (with_reducible refine hold_append ?_) | (with_reducible refine hold_make ?_) | (with_reducible refine hold_copy ?_))
    refine rg_start (fun wx : World => Box wx w.heap.size 24 #[.int .u32 (f : Int), .string (str g), .string (str h)] ∧ Below w.heap.size w wx) (by kernel_rfl) ?_
    have hS : Box w1.drew w.heap.size 24 #[.int .u32 (f : Int), .string (str g), .string (str h)] ∧ Below w.heap.size w w1.drew := ⟨hb2, below_drewN hB2 1⟩
    refine rg_take 0 (v := ?_) rfl (by kernel_rfl) (by kernel_rfl) (by kernel_rfl) hS rfl ?_ ?_
    rotate_left
    · intro wS hSw; go_simp; (with_reducible rfl)
    simp only [List.getElem_toArray, List.getElem_cons_zero, Act.put, List.setIfInBounds_toArray, List.set_cons_zero, List.set_cons_succ]
    refine rg_take 1 (v := ?_) rfl (by kernel_rfl) (by kernel_rfl) (by kernel_rfl) hS rfl ?_ ?_
    rotate_left
    · intro wS hSw; have k0 := hSw.1.cell (j := 0) rfl; go_simp; (with_reducible rfl)
    simp only [List.getElem_toArray, List.getElem_cons_succ, List.getElem_cons_zero, Act.put, List.setIfInBounds_toArray, List.set_cons_zero, List.set_cons_succ]
    refine rg_take 2 (v := ?_) rfl (by kernel_rfl) (by kernel_rfl) (by kernel_rfl) hS rfl ?_ ?_
    rotate_left
    · intro wS hSw; go_simp; (with_reducible rfl)
    simp only [List.getElem_toArray, List.getElem_cons_succ, List.getElem_cons_zero, Act.put, List.setIfInBounds_toArray, List.set_cons_zero, List.set_cons_succ]
    refine rg_take 5 (v := ?_) rfl (by kernel_rfl) (by kernel_rfl) (by kernel_rfl) hS rfl ?_ ?_
    rotate_left
    · intro wS hSw; go_simp; (with_reducible rfl)
    simp only [List.getElem_toArray, List.getElem_cons_succ, List.getElem_cons_zero, Act.put, List.setIfInBounds_toArray, List.set_cons_zero, List.set_cons_succ]
    refine rg_take 6 (v := ?_) rfl (by kernel_rfl) (by kernel_rfl) (by kernel_rfl) hS rfl ?_ ?_
    rotate_left
    · intro wS hSw; have k0 := hSw.1.cell (j := 1) rfl; go_simp; (with_reducible rfl)
    simp only [List.getElem_toArray, List.getElem_cons_succ, List.getElem_cons_zero, Act.put, List.setIfInBounds_toArray, List.set_cons_zero, List.set_cons_succ]
    refine rg_take 10 (v := ?_) rfl (by kernel_rfl) (by kernel_rfl) (by kernel_rfl) hS rfl ?_ ?_
    rotate_left
    · intro wS hSw; go_simp; (with_reducible rfl)
    simp only [List.getElem_toArray, List.getElem_cons_succ, List.getElem_cons_zero, Act.put, List.setIfInBounds_toArray, List.set_cons_zero, List.set_cons_succ]
    refine rg_take 11 (v := ?_) rfl (by kernel_rfl) (by kernel_rfl) (by kernel_rfl) hS rfl ?_ ?_
    rotate_left
    · intro wS hSw; have k0 := hSw.1.cell (j := 2) rfl; go_simp; (with_reducible rfl)
    simp only [List.getElem_toArray, List.getElem_cons_succ, List.getElem_cons_zero, Act.put, List.setIfInBounds_toArray, List.set_cons_zero, List.set_cons_succ]
    refine rg_one 3 rfl (by kernel_rfl) rfl (fun K hK => ?_)
    go_simp
    refine (hfm w1.drew (he.below hS.2 h8 hS.2.size)).mono ?_
    rintro e w3 ⟨rfl, hB3⟩
    have hS3 : Box w3 w.heap.size 24 #[.int .u32 (f : Int), .string (str g), .string (str h)] ∧ Below w.heap.size w w3 := ⟨hS.1.below hB3, hS.2.trans (hB3.mono hS.2.size)⟩
    refine hK _ _ hS3 ?_; clear hK K
    refine rg_take 4 (v := ?_) rfl (by kernel_rfl) (by kernel_rfl) (by kernel_rfl) hS3 rfl ?_ ?_
    rotate_left
    · intro wS hSw; go_simp; (with_reducible rfl)
    simp only [List.getElem_toArray, List.getElem_cons_succ, List.getElem_cons_zero, Act.put, List.setIfInBounds_toArray, List.set_cons_zero, List.set_cons_succ]
    refine rg_one 7 rfl (by kernel_rfl) rfl (fun K hK => ?_)
    go_simp
    refine (hhg w3).mono ?_
    rintro e w4 ⟨rfl, hB4⟩
    have hS4 : Box w4 w.heap.size 24 #[.int .u32 (f : Int), .string (str g), .string (str h)] ∧ Below w.heap.size w w4 := ⟨hS3.1.below hB4, hS3.2.trans (hB4.mono hS3.2.size)⟩
    refine hK _ _ hS4 ?_; clear hK K
    refine rg_take 8 (v := ?_) rfl (by kernel_rfl) (by kernel_rfl) (by kernel_rfl) hS4 rfl ?_ ?_
    rotate_left
    · intro wS hSw; go_simp; (with_reducible rfl)
    simp only [List.getElem_toArray, List.getElem_cons_succ, List.getElem_cons_zero, Act.put, List.setIfInBounds_toArray, List.set_cons_zero, List.set_cons_succ]
    refine rg_take 9 (v := ?_) rfl (by kernel_rfl) (by kernel_rfl) (by kernel_rfl) hS4 rfl ?_ ?_
    rotate_left
    · intro wS hSw; go_simp; (with_reducible rfl)
    simp only [List.getElem_toArray, List.getElem_cons_succ, List.getElem_cons_zero, Act.put, List.setIfInBounds_toArray, List.set_cons_zero, List.set_cons_succ]
    refine rg_one 12 rfl (by kernel_rfl) rfl (fun K hK => ?_)
    go_simp
    refine (hhh w4).mono ?_
    rintro e w5 ⟨rfl, hB5⟩
    have hS5 : Box w5 w.heap.size 24 #[.int .u32 (f : Int), .string (str g), .string (str h)] ∧ Below w.heap.size w w5 := ⟨hS4.1.below hB5, hS4.2.trans (hB5.mono hS4.2.size)⟩
    refine hK _ _ hS5 ?_; clear hK K
    refine rg_take 13 (v := ?_) rfl (by kernel_rfl) (by kernel_rfl) (by kernel_rfl) hS5 rfl ?_ ?_
    rotate_left
    · intro wS hSw; go_simp; (with_reducible rfl)
    simp only [List.getElem_toArray, List.getElem_cons_succ, List.getElem_cons_zero, Act.put, List.setIfInBounds_toArray, List.set_cons_zero, List.set_cons_succ]
    refine rg_take 14 (v := ?_) rfl (by kernel_rfl) (by kernel_rfl) (by kernel_rfl) hS5 rfl ?_ ?_
    rotate_left
    · intro wS hSw; go_simp; (with_reducible rfl)
    simp only [List.getElem_toArray, List.getElem_cons_succ, List.getElem_cons_zero, Act.put, List.setIfInBounds_toArray, List.set_cons_zero, List.set_cons_succ]
    refine rg_take 15 (v := ?_) rfl (by kernel_rfl) (by kernel_rfl) (by kernel_rfl) hS5 rfl ?_ ?_
    rotate_left
    · intro wS hSw; go_simp; (with_reducible rfl)
    simp only [List.getElem_toArray, List.getElem_cons_succ, List.getElem_cons_zero, Act.put, List.setIfInBounds_toArray, List.set_cons_zero, List.set_cons_succ]
    refine rg_end (by kernel_rfl) ?_
    go_wp2_with (first | (with_reducible refine hold_append ?_) | (with_reducible refine hold_make ?_) | (with_reducible refine hold_copy ?_))
    go_ret2
    rw [HT.out, dots]
    exact ⟨rfl, hS5.2⟩
set_option maxRecDepth 20000 in
set_option maxHeartbeats 1000000 in
theorem rtext_any (x : Xd) (w : World) (hw : x.wf) :
    Calls Tryd.prog 22 #[.agg (xdV x)] w fun e w' => e = .returned (.tuple #[.string (str x.text), .int .i64 x.err]) ∧ Below w.heap.size w w' := by
  have hc := fun w => rcheck_any x w hw
  have hB0 : Below w.heap.size w (w.alloc (.cells (xdV x) 24)) := (Below.refl _ _).alloc (Nat.le_refl _) _
  have hb0 : Box (w.alloc (.cells (xdV x) 24)) w.heap.size 24 (xdV x) := Box.new _ _ _
  cases hok : x.ok
  · have e1 : x.text = [] := by simp [Xd.text, hok]
    rw [e1, Xd.err_no hok]
    rw [Xd.err_no hok] at hc
    clear hok e1 hb0
    unfold xdV at *
    go_enter Tryd.func22, Tryd.ntmps22
    go_wp2_with (first | (with_reducible refine hold_append ?_) | (with_reducible refine hold_make ?_) | (with_reducible refine hold_copy ?_))
    refine (hc _).mono ?_
    rintro e w1 ⟨rfl, hB1⟩
    have hB2 := hB0.trans (hB1.mono hB0.size)
    go_wp2_with (first | (with_reducible refine hold_append ?_) | (with_reducible refine hold_make ?_) | (with_reducible refine hold_copy ?_))
    go_ret2
    exact ⟨rfl, hB2⟩
  · have HT : Hid (x.text = Lib.decDigits x.fmt ++ [46] ++ hexB x.glob ++ [46] ++ hexB x.bran) := Lib.hid (by simp [Xd.text, hok, Xd.txt])
    have hcs := x.ok_iff.1 hok
    rw [Xd.err_ok hok]
    rw [Xd.err_ok hok] at hc
    clear hok
    generalize x.text = tx at *
    obtain ⟨f, g, h⟩ := x
    obtain ⟨hf, _, _⟩ := hw
    unfold xdV at *
    simp only at hc hB0 hb0 HT hcs hf ⊢
    have hfm := fun w => digits_any f w (by omega)
    rw [digB_dec] at hfm
    have hhg := fun w => rhex_any g w (by omega)
    have hhh := fun w => rhex_any h w (by omega)
    have l1 := dec_len (n := f) (by omega)
    have l2 := hexB_len g
    have l3 := hexB_len h
    have s1 : (str (Lib.decDigits f)).size = (Lib.decDigits f).length := str_size _
    have s2 : (str (hexB g)).size = (hexB g).length := str_size _
    have s3 : (str (hexB h)).size = (hexB h).length := str_size _
    have hwf : IntKind.u64.wrap (f : Int) = (f : Int) := IntWalk.u64_in _ ⟨by omega, by omega⟩
    generalize Lib.decDigits f = d at *
    generalize hexB g = hg at *
    generalize hexB h = hh at *
    have q1 : ¬ 9223372036854775807 < (str d).size + 1 := by omega
    have q2 : ¬ 9223372036854775807 < (str d).size + 1 + (str hg).size := by omega
    have q3 : ¬ 9223372036854775807 < (str d).size + 1 + (str hg).size + 1 := by omega
    have q4 : ¬ 9223372036854775807 < (str d).size + 1 + (str hg).size + 1 + (str hh).size := by omega
    clear l1 l2 l3 s1 s2 s3 hcs
    go_enter Tryd.func22, Tryd.ntmps22
    go_wp2_with (first | (with_reducible refine hold_append ?_) | (with_reducible refine hold_make ?_) | (with_reducible refine hold_copy ?_))
    refine (hc _).mono ?_
    rintro e w1 ⟨rfl, hB1⟩
    have hB2 := hB0.trans (hB1.mono hB0.size)
    have hb2 := hb0.below hB1
    clear hb0 hB0 hB1 hc
    go_wp2_with (first | (with_reducible refine hold_append ?_) | (with_reducible refine hold_make ?_) | (with_reducible refine hold_copy ?_))
    refine rg_start (fun wx : World => Box wx w.heap.size 24 #[.int .u32 (f : Int), .string (str g), .string (str h)] ∧ Below w.heap.size w wx) (by kernel_rfl) ?_
    have hS : Box w1.drew w.heap.size 24 #[.int .u32 (f : Int), .string (str g), .string (str h)] ∧ Below w.heap.size w w1.drew := ⟨hb2, below_drewN hB2 1⟩
    refine rg_take 0 (v := ?_) rfl (by kernel_rfl) (by kernel_rfl) (by kernel_rfl) hS rfl ?_ ?_
    rotate_left
    · intro wS hSw; go_simp; (with_reducible rfl)
    simp only [List.getElem_toArray, List.getElem_cons_zero, Act.put, List.setIfInBounds_toArray, List.set_cons_zero, List.set_cons_succ]
    refine rg_take 1 (v := ?_) rfl (by kernel_rfl) (by kernel_rfl) (by kernel_rfl) hS rfl ?_ ?_
    rotate_left
    · intro wS hSw; have k0 := hSw.1.cell (j := 0) rfl; go_simp; (with_reducible rfl)
    simp only [List.getElem_toArray, List.getElem_cons_succ, List.getElem_cons_zero, Act.put, List.setIfInBounds_toArray, List.set_cons_zero, List.set_cons_succ]
    refine rg_take 2 (v := ?_) rfl (by kernel_rfl) (by kernel_rfl) (by kernel_rfl) hS rfl ?_ ?_
    rotate_left
    · intro wS hSw; go_simp; (with_reducible rfl)
    simp only [List.getElem_toArray, List.getElem_cons_succ, List.getElem_cons_zero, Act.put, List.setIfInBounds_toArray, List.set_cons_zero, List.set_cons_succ]
    refine rg_take 5 (v := ?_) rfl (by kernel_rfl) (by kernel_rfl) (by kernel_rfl) hS rfl ?_ ?_
    rotate_left
    · intro wS hSw; go_simp; (with_reducible rfl)
    simp only [List.getElem_toArray, List.getElem_cons_succ, List.getElem_cons_zero, Act.put, List.setIfInBounds_toArray, List.set_cons_zero, List.set_cons_succ]
    refine rg_take 6 (v := ?_) rfl (by kernel_rfl) (by kernel_rfl) (by kernel_rfl) hS rfl ?_ ?_
    rotate_left
    · intro wS hSw; have k0 := hSw.1.cell (j := 1) rfl; go_simp; (with_reducible rfl)
    simp only [List.getElem_toArray, List.getElem_cons_succ, List.getElem_cons_zero, Act.put, List.setIfInBounds_toArray, List.set_cons_zero, List.set_cons_succ]
    refine rg_take 10 (v := ?_) rfl (by kernel_rfl) (by kernel_rfl) (by kernel_rfl) hS rfl ?_ ?_
    rotate_left
    · intro wS hSw; go_simp; (with_reducible rfl)
    simp only [List.getElem_toArray, List.getElem_cons_succ, List.getElem_cons_zero, Act.put, List.setIfInBounds_toArray, List.set_cons_zero, List.set_cons_succ]
    refine rg_take 11 (v := ?_) rfl (by kernel_rfl) (by kernel_rfl) (by kernel_rfl) hS rfl ?_ ?_
    rotate_left
    · intro wS hSw; have k0 := hSw.1.cell (j := 2) rfl; go_simp; (with_reducible rfl)
    simp only [List.getElem_toArray, List.getElem_cons_succ, List.getElem_cons_zero, Act.put, List.setIfInBounds_toArray, List.set_cons_zero, List.set_cons_succ]
    refine rg_one 3 rfl (by kernel_rfl) rfl (fun K hK => ?_)
    go_simp
    refine (hfm w1.drew).mono ?_
    rintro e w3 ⟨rfl, hB3⟩
    have hS3 : Box w3 w.heap.size 24 #[.int .u32 (f : Int), .string (str g), .string (str h)] ∧ Below w.heap.size w w3 := ⟨hS.1.below hB3, hS.2.trans (hB3.mono hS.2.size)⟩
    refine hK _ _ hS3 ?_; clear hK K
    refine rg_take 4 (v := ?_) rfl (by kernel_rfl) (by kernel_rfl) (by kernel_rfl) hS3 rfl ?_ ?_
    rotate_left
    · intro wS hSw; go_simp; (with_reducible rfl)
    simp only [List.getElem_toArray, List.getElem_cons_succ, List.getElem_cons_zero, Act.put, List.setIfInBounds_toArray, List.set_cons_zero, List.set_cons_succ]
    refine rg_one 7 rfl (by kernel_rfl) rfl (fun K hK => ?_)
    go_simp
    refine (hhg w3).mono ?_
    rintro e w4 ⟨rfl, hB4⟩
    have hS4 : Box w4 w.heap.size 24 #[.int .u32 (f : Int), .string (str g), .string (str h)] ∧ Below w.heap.size w w4 := ⟨hS3.1.below hB4, hS3.2.trans (hB4.mono hS3.2.size)⟩
    refine hK _ _ hS4 ?_; clear hK K
    refine rg_take 8 (v := ?_) rfl (by kernel_rfl) (by kernel_rfl) (by kernel_rfl) hS4 rfl ?_ ?_
    rotate_left
    · intro wS hSw; go_simp; (with_reducible rfl)
    simp only [List.getElem_toArray, List.getElem_cons_succ, List.getElem_cons_zero, Act.put, List.setIfInBounds_toArray, List.set_cons_zero, List.set_cons_succ]
    refine rg_take 9 (v := ?_) rfl (by kernel_rfl) (by kernel_rfl) (by kernel_rfl) hS4 rfl ?_ ?_
    rotate_left
    · intro wS hSw; go_simp; (with_reducible rfl)
    simp only [List.getElem_toArray, List.getElem_cons_succ, List.getElem_cons_zero, Act.put, List.setIfInBounds_toArray, List.set_cons_zero, List.set_cons_succ]
    refine rg_one 12 rfl (by kernel_rfl) rfl (fun K hK => ?_)
    go_simp
    refine (hhh w4).mono ?_
    rintro e w5 ⟨rfl, hB5⟩
    have hS5 : Box w5 w.heap.size 24 #[.int .u32 (f : Int), .string (str g), .string (str h)] ∧ Below w.heap.size w w5 := ⟨hS4.1.below hB5, hS4.2.trans (hB5.mono hS4.2.size)⟩
    refine hK _ _ hS5 ?_; clear hK K
    refine rg_take 13 (v := ?_) rfl (by kernel_rfl) (by kernel_rfl) (by kernel_rfl) hS5 rfl ?_ ?_
    rotate_left
    · intro wS hSw; go_simp; (with_reducible rfl)
    simp only [List.getElem_toArray, List.getElem_cons_succ, List.getElem_cons_zero, Act.put, List.setIfInBounds_toArray, List.set_cons_zero, List.set_cons_succ]
    refine rg_take 14 (v := ?_) rfl (by kernel_rfl) (by kernel_rfl) (by kernel_rfl) hS5 rfl ?_ ?_
    rotate_left
    · intro wS hSw; go_simp; (with_reducible rfl)
    simp only [List.getElem_toArray, List.getElem_cons_succ, List.getElem_cons_zero, Act.put, List.setIfInBounds_toArray, List.set_cons_zero, List.set_cons_succ]
    refine rg_take 15 (v := ?_) rfl (by kernel_rfl) (by kernel_rfl) (by kernel_rfl) hS5 rfl ?_ ?_
    rotate_left
    · intro wS hSw; go_simp; (with_reducible rfl)
    simp only [List.getElem_toArray, List.getElem_cons_succ, List.getElem_cons_zero, Act.put, List.setIfInBounds_toArray, List.set_cons_zero, List.set_cons_succ]
    refine rg_end (by kernel_rfl) ?_
    go_wp2_with (first | (with_reducible refine hold_append ?_) | (with_reducible refine hold_make ?_) | (with_reducible refine hold_copy ?_))
    go_ret2
    rw [HT.out, dots]
    exact ⟨rfl, hS5.2⟩
end Go.PH

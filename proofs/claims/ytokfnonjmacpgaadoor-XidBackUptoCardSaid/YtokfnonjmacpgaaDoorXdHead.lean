/- The walk of OneGlobal; the laws' head of names. -/
import Derived.Test.YtokfnonjmacpgaaDoorXdParse
set_option linter.all false
set_option linter.unusedSimpArgs false
set_option linter.unusedVariables false
namespace Go.PH
open Go.RowKit Go.Proofs

def oneG (a b : Xd) : Bool := decide (a.fmt = b.fmt) && decide (a.glob = b.glob)
set_option maxRecDepth 20000 in
set_option maxHeartbeats 1000000 in
theorem oneglobal_any (a b : Xd) (w : World) :
    Calls Tryd.prog 18 #[.agg (xdV a), .agg (xdV b)] w fun e w' => e = .returned (.bool (oneG a b)) ∧ Below w.heap.size w w' := by
  have heq := fun w => xid_eql ⟨a.fmt, a.glob, []⟩ ⟨b.fmt, b.glob, []⟩ w
  have HE : Hid (oneG a b = decide ((⟨a.fmt, a.glob, []⟩ : Xd) = ⟨b.fmt, b.glob, []⟩)) := Lib.hid (by unfold oneG; rw [Bool.eq_iff_iff]; simp)
  generalize oneG a b = r at *
  obtain ⟨f, g, h⟩ := a
  obtain ⟨f', g', h'⟩ := b
  unfold xdV at heq ⊢
  simp only at heq HE ⊢
  rw [← HE.out] at heq
  simp only [str_nil] at heq
  clear HE
  obtain ⟨w0, hw0⟩ : ∃ w0, w0 = ((w.alloc (.cells #[.int .u32 (f : Int), .string (str g), .string (str h)] 24)).alloc (.cells #[.int .u32 (f' : Int), .string (str g'), .string (str h')] 24)) := ⟨_, rfl⟩
  have hB0 : Below w.heap.size w w0 := by rw [hw0]; exact ((Below.refl _ _).alloc (Nat.le_refl _) _).alloc (by simp) _
  have hb0 : Box w0 w.heap.size 24 #[.int .u32 (f : Int), .string (str g), .string (str h)] := by rw [hw0]; exact (Box.new _ _ _).alloc _
  have hb1 : Box w0 (w.heap.size + 1) 24 #[.int .u32 (f' : Int), .string (str g'), .string (str h')] := by
    rw [hw0]
    have := Box.new (w.alloc (.cells #[.int .u32 (f : Int), .string (str g), .string (str h)] 24)) #[.int .u32 (f' : Int), .string (str g'), .string (str h')] 24
    rwa [show (w.alloc (.cells #[.int .u32 (f : Int), .string (str g), .string (str h)] 24)).heap.size = w.heap.size + 1 by simp] at this
  go_enter Tryd.func18, Tryd.ntmps18
  go_wp2_with (first | (with_reducible refine hold_append ?_) | (with_reducible refine hold_make ?_) | (with_reducible refine hold_copy ?_) | (with_reducible refine hold_store ?_))
  rw [← hw0]
  clear hw0
  refine unhold (wp_box (v := .string ⟨#[]⟩) (vs := [.string ⟨#[]⟩]) rfl rfl rfl rfl hb0 rfl (by kernel_rfl) (by simp) (by simp; rfl) #[.int .u32 (f : Int), .string (str g), .string ⟨#[]⟩] (by simp) ?_)
  intro w1 hb2 hg1 _
  have hb3 := hb1.grown hg1 (by intro e; injection e with e; omega)
  have hB1 := hB0.grown hg1 hB0.size (fun k hk => by injection hk with hk; omega)
  clear hb0 hb1 hB0
  go_wp2_with (first | (with_reducible refine hold_append ?_) | (with_reducible refine hold_make ?_) | (with_reducible refine hold_copy ?_) | (with_reducible refine hold_store ?_))
  refine unhold (wp_box (v := .string ⟨#[]⟩) (vs := [.string ⟨#[]⟩]) rfl rfl rfl rfl hb3 rfl (by kernel_rfl) (by simp) (by simp; rfl) #[.int .u32 (f' : Int), .string (str g'), .string ⟨#[]⟩] (by simp) ?_)
  intro w2 hb4 hg2 _
  have hb5 := hb2.grown hg2 (by intro e; injection e with e; omega)
  have hB2 := hB1.grown hg2 hB1.size (fun k hk => by injection hk with hk; omega)
  clear hb2 hb3 hB1
  have k0 := hb5.cell (j := 0) rfl
  have k1 := hb5.cell (j := 1) rfl
  have k2 := hb5.cell (j := 2) rfl
  have j0 := hb4.cell (j := 0) rfl
  have j1 := hb4.cell (j := 1) rfl
  have j2 := hb4.cell (j := 2) rfl
  go_wp2_with (first | (with_reducible refine hold_append ?_) | (with_reducible refine hold_make ?_) | (with_reducible refine hold_copy ?_))
  go_ret
  exact ⟨rfl, hB2⟩
def xdH : Xd := ⟨7, [97, 98], []⟩
def txtH : List UInt8 := [55, 46, 54, 49, 54, 50, 46]
theorem dec7 : Lib.decDigits 7 = [55] := Lib.decDigits_one (by omega)
theorem xdH_ok : xdH.ok = true := rfl
theorem xdH_txt : xdH.txt = txtH := by
  unfold Xd.txt xdH
  simp only
  rw [dec7]
  rfl
theorem xdH_text : xdH.text = txtH := by unfold Xd.text; rw [xdH_ok, xdH_txt]; rfl
theorem parseH : parseR txtH = (xdH, 0) := by
  unfold parseR
  rw [← xdH_txt, parse_txt (x := xdH) (by decide) xdH_ok]
theorem parseH2 : parseR [48, 55, 46, 54, 49, 46] = (xd0, 5) := by
  unfold parseR
  have h : parseX [48, 55, 46, 54, 49, 46] = none := by
    have hd : dotsB [48, 55, 46, 54, 49, 46] = [[48, 55], [54, 49], []] := by decide
    unfold parseX
    rw [hd]
    simp only
    unfold parse3
    have hu : Lib.parseUintB 32 [48, 55] = .ok 7 := by decide
    rw [hu]
    simp only
    rw [if_neg]
    rintro ⟨h, _⟩
    rw [dec7] at h
    exact absurd h (by decide)
  rw [h]
theorem xdH_wf : xdH.wf := ⟨by decide, by decide, by decide⟩
set_option maxRecDepth 20000 in
set_option maxHeartbeats 1000000 in
theorem head_any (w : World) (he : XEnv w) : Calls Tryd.prog 13 #[] w fun e w' => e = .returned (.bool true) ∧ Below w.heap.size w w' := by
  have h8 := he.lt
  have ht := text_any xdH w xdH_wf he
  rw [xdH_text, Xd.err_ok xdH_ok] at ht
  have hp1 := fun w he => parse_any txtH w (by decide) he
  rw [parseH] at hp1
  have hp2 := fun w he => parse_any [48, 55, 46, 54, 49, 46] w (by decide) he
  rw [parseH2] at hp2
  have heq : ∀ w, (binOp .eql 24 (.agg #[.int .u32 7, .string (str [97, 98]), .string (str [])]) (.agg #[.int .u32 7, .string ⟨#[97, 98]⟩, .string ⟨#[]⟩])).run Tryd.prog w = .ok (.bool true) w := fun w => by
    have := xid_eql xdH xdH w
    rw [decide_eq_true rfl] at this
    exact this
  unfold xdV xdH at ht hp1
  unfold xdV xd0 at hp2
  simp only at ht hp1 hp2
  go_enter Tryd.func13, Tryd.ntmps13
  go_wp2_with (first | (with_reducible refine hold_append ?_) | (with_reducible refine hold_make ?_) | (with_reducible refine hold_copy ?_))
  refine ht.mono ?_
  rintro e w1 ⟨rfl, hB1⟩
  have hp1' := hp1 w1 (he.below hB1 h8 hB1.size)
  clear ht hp1
  go_wp2_with (first | (with_reducible refine hold_append ?_) | (with_reducible refine hold_make ?_) | (with_reducible refine hold_copy ?_))
  refine hp1'.mono ?_
  rintro e w2 ⟨rfl, hB2⟩
  have hB3 := hB1.trans (hB2.mono hB1.size)
  have hbx := Box.new w2 zx 24
  have hB4 := hB3.alloc hB3.size (.cells zx 24)
  rw [zx_eq] at hbx hB4
  clear hp1' hB1 hB2
  go_wp2_with (first | (with_reducible refine hold_append ?_) | (with_reducible refine hold_make ?_) | (with_reducible refine hold_copy ?_) | (with_reducible refine hold_slice ?_) | (with_reducible refine hold_conv (s := 9) (t := 37) ?_) | (with_reducible refine hold_store ?_))
  refine unhold (wp_box (v := .agg #[.int .u32 7, .string (str [97, 98]), .string (str [])]) (vs := [.int .u32 7, .string (str [97, 98]), .string (str [])]) rfl rfl rfl rfl hbx rfl (by kernel_rfl) (by simp) (by simp; exact ⟨rfl, rfl, rfl⟩) #[.int .u32 7, .string (str [97, 98]), .string (str [])] (by simp) ?_)
  intro w3 hb3 hg3 _
  have hB5 := hB4.grown hg3 hB4.size (fun g hg => by injection hg with hg; have := hB3.size; omega)
  have hp2' := hp2 w3 (he.below hB5 h8 hB5.size)
  clear hp2 hbx hB4
  go_wp2_with (first | (with_reducible refine hold_append ?_) | (with_reducible refine hold_make ?_) | (with_reducible refine hold_copy ?_))
  refine hp2'.mono ?_
  rintro e w4 ⟨rfl, hB6⟩
  have hB7 := hB5.trans (hB6.mono hB5.size)
  have hb4 := hb3.below hB6
  have hbx2 := Box.new w4 zx 24
  have hb5 := hb4.alloc (.cells zx 24)
  have hB8 := hB7.alloc hB7.size (.cells zx 24)
  have hlt := hb4.lt
  rw [zx_eq] at hbx2 hB8 hb5
  clear hp2' hB5 hB6 hb3 hb4
  go_wp2_with (first | (with_reducible refine hold_append ?_) | (with_reducible refine hold_make ?_) | (with_reducible refine hold_copy ?_) | (with_reducible refine hold_slice ?_) | (with_reducible refine hold_conv (s := 9) (t := 37) ?_) | (with_reducible refine hold_store ?_))
  refine unhold (wp_box (v := .agg #[.int .u32 0, .string (str []), .string (str [])]) (vs := [.int .u32 0, .string (str []), .string (str [])]) rfl rfl rfl rfl hbx2 rfl (by kernel_rfl) (by simp) (by simp; exact ⟨rfl, rfl⟩) #[.int .u32 0, .string (str []), .string (str [])] (by simp) ?_)
  intro w5 _ hg5 _
  have hB9 := hB8.grown hg5 hB8.size (fun g hg => by injection hg with hg; have := hB7.size; omega)
  have hb6 := hb5.grown hg5 (by intro e; injection e with e; omega)
  have k0 := hb6.cell (j := 0) rfl
  have k1 := hb6.cell (j := 1) rfl
  have k2 := hb6.cell (j := 2) rfl
  have hq : ((str txtH).toList == [55, 46, 54, 49, 54, 50, 46]) = true := by rw [str_toList]; decide
  clear hB8 hbx2 hb5 hlt
  go_wp2_with (first | (with_reducible refine hold_append ?_) | (with_reducible refine hold_make ?_) | (with_reducible refine hold_copy ?_))
  go_ret
  exact ⟨rfl, hB9⟩
end Go.PH

/- Texts laid together: PrPut, PrGetMath, PrGet, PrSame, TmSee. -/
import Derived.Deep.CutRange
import Derived.Test.YtenegldhfgfokaaDoorMg03
import Derived.Test.YtenegldhfgfokaaDoorMg04
import Derived.Test.YtenegldhfgfokaaDoorMg08
import Derived.Test.YtenegldhfgfokaaDoorMg12
import Derived.Test.YtenegldhfgfokaaDoorMg19
set_option linter.all false
set_option linter.unusedSimpArgs false
set_option linter.unusedVariables false
section
/- The walk of props' Put. -/
namespace Go.PH
open Go.RowKit Go.Proofs

theorem okP_key {p : Pr} (h : okP p = true) : p.key.length ≤ 255 ∧ p.id.length ≤ 255 := by
 unfold okP at h
 rw [Bool.and_eq_true, Bool.and_eq_true] at h
 exact ⟨of_decide_eq_true h.1.1, of_decide_eq_true h.1.2⟩
theorem f1P_lt (p : Pr) : f1P p < 65536 := by
 have := bitsN_lt [p.dur, p.red, p.key != []]
 simp at this
 unfold f1P
 omega
theorem f2P_lt (p : Pr) : f2P p < 65536 ∧ bits .and .u64 (f2P p : Int) 2 = (if isMap p.app then 2 else 0) := by
 unfold f2P
 generalize (p.id != []) = a
 generalize isMap p.app = b
 cases a <;> cases b <;> decide
theorem txtP_len (s : List UInt8) : (txtP s).length ≤ s.length + 1 := by
 unfold txtP
 split
 ·simp
 ·simp
theorem b1P_len (p : Pr) (h : p.key.length ≤ 255) : (putPart [] (b1P p)).length ≤ 264 := by
 have := txtP_len p.key
 simp [putPart, b1P, partB, be_length]
 omega
set_option maxRecDepth 20000 in
set_option maxHeartbeats 4000000 in
theorem prput_any (p : Pr) (h : VH) (w : World) (hp : PrW w p h) (hT : UTabs w) :
  Calls Tryd.prog 4 #[.agg (prV p h)] w fun e w' => e = .returned (.tuple #[.string (str (putP p)), .int .i64 (errP p)]) ∧ Below w.heap.size w w' := by
 obtain ⟨pb, w1, hpb, hpv, hP, hB1⟩ := alloc_stepV w (prV p h) 29
 have hck := prcheck_any p h w1 (hp.up hB1) (hT.on hB1)
 have HPW := Lib.hid hp
 have HTW := Lib.hid hT
 clear hp hT
 obtain ⟨E, hE⟩ : ∃ E, E = errP p := ⟨_, rfl⟩
 obtain ⟨R, hR⟩ : ∃ R, R = putP p := ⟨_, rfl⟩
 rw [← hE] at hck ⊢
 rw [← hR]
 have HE := Lib.hid hE
 have HR := Lib.hid hR
 clear hE hR
 unfold prV at *
 go_enter Tryd.func4, Tryd.ntmps4
 go_upto_region 1 with fail
 rw [← hpb, ← hpv]
 have hpw : w.heap.size ≤ pb := by omega
 clear hpb hpv
 have x0 := hP.c0
 have x1 := hP.c1
 have x2 := hP.c2
 have x3 := hP.c3
 have x4 := hP.c4
 have x5 := hP.c5
 have x6 := hP.c6
 have x7 := hP.c7
 have x8 := hP.c8
 go_wp2_with (with_reducible refine h_A ?_)
 refine hck.mono ?_
 rintro e w2 ⟨rfl, hB2⟩
 clear hck x0 x1 x2 x3 x4 x5 x6 x7 x8
 have hP2 := hP.below hB2
 replace hB2 := hB1.trans (hB2.mono hB1.size)
 clear hP hB1
 cases hok : okP p
 ·have HE2 : Hid (E = 90) := Lib.hid (by rw [HE.out]; simp [errP, hok])
  have HR2 : Hid (R = []) := Lib.hid (by rw [HR.out]; simp [putP, hok])
  obtain rfl := HE2.out
  go_wp2_with (with_reducible refine h_A ?_)
  go_ret2
  exact ⟨by rw [HR2.out]; rfl, hB2⟩
 ·have HE2 : Hid (E = 0) := Lib.hid (by rw [HE.out]; simp [errP, hok])
  obtain rfl := HE2.out
  have HR2 : Hid (R = bytesP p) := Lib.hid (by rw [HR.out]; simp [putP, hok])
  obtain ⟨hkl, hil⟩ := okP_key hok
  have HOK := Lib.hid hok
  clear hok HE HR
  obtain ⟨ob, w3, hob, hov, hO, hB3⟩ := alloc_stepV w2 #[.slice none 0 0] 47
  have hP3 := hP2.below hB3
  replace hB3 := hB2.trans (hB3.mono hB2.size)
  have hne : ob ≠ pb := by have := hP2.lt; omega
  have how : w.heap.size ≤ ob := by have := hB2.size; omega
  clear hP2 hB2
  go_upto_region 5 with fail
  rw [← hob, ← hov]
  clear hob hov
  obtain ⟨kx, hkx⟩ : ∃ b, b = (p.key != []) := ⟨_, rfl⟩
  have hkn : (str p.key).toList.isEmpty = !kx := by rw [hkx, str_toList]; cases p.key <;> rfl
  obtain ⟨F, hF⟩ : ∃ F, F = f1P p := ⟨_, rfl⟩
  have HBITS := Lib.hid fun (W : World) (A : Option Addr) (hr : Rd W W.heap.size 1 A 3 3 ([p.dur, p.red, kx].map fun b => Value.bool b)) => bits_any [p.dur, p.red, kx] A 3 3 W hr (by omega)
  have HPART := Lib.hid fun (W : World) (At : Option Addr) (hW : Below w3.heap.size w3 W) (hr : Rd W W.heap.size 1 At 1 1 [.string (str p.key)]) (hOW : Box W ob 47 #[.slice none 0 0]) (hPW : Box W pb 29 (prV p h)) =>
   prpart_any 1 (f1P p) false p.key p h pb ob [] none At 0 0 1 W ((HTW.out.on hB3).on hW) ((HPW.out.app.up hB3).up hW) hPW hOW (Rd.nil _ _ _ _ (by simp [maxLen]) _) (by omega) hne hr hkl (f1P_lt p) (by omega) (.inr ⟨by omega, rfl⟩)
  have hFb : F = bitsN [p.dur, p.red, kx] := by rw [hF, hkx]; rfl
  have HB1 : Hid (partB 1 F (txtP p.key ++ if false = true then vlP p.app else []) = b1P p) := Lib.hid (by rw [hF]; simp [b1P])
  rw [← hF] at HPART
  rw [← hFb] at HBITS
  rw [HB1.out] at HPART
  rw [show ((1 : Nat) : Int) = 1 from rfl] at HPART
  clear hF hFb HB1 hkx
  go_cut [] from 11 (fun wx => ∃ (A : Option Addr) (n c : Nat), Box wx ob 47 #[.slice A n c] ∧ Own wx w.heap.size 5 1 A n c ((putPart [] (b1P p)).map u8v) ∧ Box wx pb 29 (prV p h) ∧ Below w.heap.size w wx)
  case first =>
   refine rg_start (fun W : World => Box W pb 29 (prV p h)) (by kernel_rfl) ?_
   have hB : Below w3.heap.size w3 w3.drew := below_drewN (Below.refl _ _) 1
   have hS : Box w3.drew pb 29 (prV p h) := hP3.below hB
   have hO := hO.below hB
   unfold prV at *
   clear hP3
   generalize w3.drew = wd at *
   refine rg_t 0 hS ?_
   simp only [List.getElem_toArray, List.getElem_cons_zero, Act.put, List.setIfInBounds_toArray, List.set_cons_zero, List.set_cons_succ]
   refine rg_t 1 hS ?_
   simp only [g_S, Act.put]
   refine rg_t 3 hS ?_
   simp only [g_S, Act.put]
   refine rg_t 5 hS ?_
   simp only [g_S, Act.put]
   refine rg_t 10 hS ?_
   simp only [g_S, Act.put]
   refine rg_take 2 (v := ?_) rfl (by kernel_rfl) (by kernel_rfl) (by kernel_rfl) hS rfl ?_ ?_
   rotate_left
   ·intro wS hSw; have y := hSw.cell (j := 1) rfl; go_simp; (with_reducible rfl)
   simp only [g_S, Act.put]
   refine rg_take 4 (v := ?_) rfl (by kernel_rfl) (by kernel_rfl) (by kernel_rfl) hS rfl ?_ ?_
   rotate_left
   ·intro wS hSw; have y := hSw.cell (j := 2) rfl; go_simp; (with_reducible rfl)
   simp only [g_S, Act.put]
   refine rg_take 6 (v := ?_) rfl (by kernel_rfl) (by kernel_rfl) (by kernel_rfl) hS rfl ?_ ?_
   rotate_left
   ·intro wS hSw; have y := hSw.cell (j := 0) rfl; go_simp; (with_reducible rfl)
   simp only [g_S, Act.put]
   refine rg_take 11 (v := ?_) rfl (by kernel_rfl) (by kernel_rfl) (by kernel_rfl) hS rfl ?_ ?_
   rotate_left
   ·intro wS hSw; have y := hSw.cell (j := 0) rfl; go_simp; (with_reducible rfl)
   simp only [g_S, Act.put]
   refine rg_t 7 hS ?_
   simp only [g_S, Act.put]
   clear hkn
   refine rg_two 8 12 rfl rfl (by kernel_rfl) rfl rfl (fun K hK => ?_) (fun K hK => ?_)
   ·go_simp
    obtain ⟨ga, va, hga, hva, hbx, hBA⟩ := alloc_stepV wd #[.bool p.dur, .bool p.red, .bool kx] 4
    have hrA : Rd va (va).heap.size 1 (some ⟨ga, 0, none⟩) 3 3 ([p.dur, p.red, kx].map fun b => Value.bool b) := by rw [hga, hva]; exact rd_new wd #[.bool p.dur, .bool p.red, .bool kx] 4 (0, 0) 3 3 rfl (by omega) (by simp [maxLen])
    rw [← hva, ← hga]
    have hS := hS.below hBA
    have hO := hO.below hBA
    have hB := hB.trans (hBA.mono hB.size)
    refine hK _ _ hS ?_
    clear hK K hga hva hbx
    try simp only [g_S, Act.put]
    refine rg_two 9 12 rfl rfl (by kernel_rfl) rfl rfl (fun K hK => ?_) (fun K hK => ?_)
    ·go_simp
     refine (HBITS.out va _ hrA).mono ?_
     rintro e w' ⟨rfl, rfl⟩
     refine hK _ _ hS ?_
     clear hK K
     try simp only [g_S, Act.put]
     refine rg_one 12 rfl (by kernel_rfl) rfl (fun K hK => ?_)
     go_simp
     obtain ⟨gc, vc, hgc, hvc, hbx, hBC⟩ := alloc_stepV va #[.string (str p.key)] 9
     have hrC : Rd vc (vc).heap.size 1 (some ⟨gc, 0, none⟩) 1 1 [.string (str p.key)] := by rw [hgc, hvc]; exact rd_new va #[.string (str p.key)] 9 (0, 0) 1 1 rfl (by omega) (by simp [maxLen])
     rw [← hvc, ← hgc]
     have hS := hS.below hBC
     have hO := hO.below hBC
     have hB := hB.trans (hBC.mono hB.size)
     refine hK _ _ hS ?_
     clear hK K hgc hvc hbx
     try simp only [g_S, Act.put]
     refine rg_one 13 rfl (by kernel_rfl) rfl (fun K hK => ?_)
     go_simp
     refine (HPART.out vc _ hB hrC hO hS).mono ?_
     rintro e w9 ⟨rfl, A', n', c', hb', ho', hk'⟩
     refine hK _ _ (box_keepF hS hk' (fun e => hne e.symm)) ?_
     clear hK K
     refine rg_end (by kernel_rfl) ?_
     go_wp2_with fail
     go_meet
     have hBw := hB3.trans (hB.mono hB3.size)
     refine ⟨A', n', c', hb', ho'.base_le hBw.size, box_keepF hS hk' (fun e => hne e.symm), hBw.trans (hk'.toBelow hBw.size (fun g hg => by omega))⟩
    ·go_simp
     obtain ⟨gc, vc, hgc, hvc, hbx, hBC⟩ := alloc_stepV va #[.string (str p.key)] 9
     have hrC : Rd vc (vc).heap.size 1 (some ⟨gc, 0, none⟩) 1 1 [.string (str p.key)] := by rw [hgc, hvc]; exact rd_new va #[.string (str p.key)] 9 (0, 0) 1 1 rfl (by omega) (by simp [maxLen])
     rw [← hvc, ← hgc]
     have hS := hS.below hBC
     have hO := hO.below hBC
     have hB := hB.trans (hBC.mono hB.size)
     refine hK _ _ hS ?_
     clear hK K hgc hvc hbx
     try simp only [g_S, Act.put]
     have hrA := (hrA.below hBC).more hBC.size
     refine rg_one 9 rfl (by kernel_rfl) rfl (fun K hK => ?_)
     go_simp
     refine (HBITS.out vc _ hrA).mono ?_
     rintro e w' ⟨rfl, rfl⟩
     refine hK _ _ hS ?_
     clear hK K
     try simp only [g_S, Act.put]
     refine rg_one 13 rfl (by kernel_rfl) rfl (fun K hK => ?_)
     go_simp
     refine (HPART.out vc _ hB hrC hO hS).mono ?_
     rintro e w9 ⟨rfl, A', n', c', hb', ho', hk'⟩
     refine hK _ _ (box_keepF hS hk' (fun e => hne e.symm)) ?_
     clear hK K
     refine rg_end (by kernel_rfl) ?_
     go_wp2_with fail
     go_meet
     have hBw := hB3.trans (hB.mono hB3.size)
     refine ⟨A', n', c', hb', ho'.base_le hBw.size, box_keepF hS hk' (fun e => hne e.symm), hBw.trans (hk'.toBelow hBw.size (fun g hg => by omega))⟩
   ·go_simp
    obtain ⟨gc, vc, hgc, hvc, hbx, hBC⟩ := alloc_stepV wd #[.string (str p.key)] 9
    have hrC : Rd vc (vc).heap.size 1 (some ⟨gc, 0, none⟩) 1 1 [.string (str p.key)] := by rw [hgc, hvc]; exact rd_new wd #[.string (str p.key)] 9 (0, 0) 1 1 rfl (by omega) (by simp [maxLen])
    rw [← hvc, ← hgc]
    have hS := hS.below hBC
    have hO := hO.below hBC
    have hB := hB.trans (hBC.mono hB.size)
    refine hK _ _ hS ?_
    clear hK K hgc hvc hbx
    try simp only [g_S, Act.put]
    refine rg_one 8 rfl (by kernel_rfl) rfl (fun K hK => ?_)
    go_simp
    obtain ⟨ga, va, hga, hva, hbx, hBA⟩ := alloc_stepV vc #[.bool p.dur, .bool p.red, .bool kx] 4
    have hrA : Rd va (va).heap.size 1 (some ⟨ga, 0, none⟩) 3 3 ([p.dur, p.red, kx].map fun b => Value.bool b) := by rw [hga, hva]; exact rd_new vc #[.bool p.dur, .bool p.red, .bool kx] 4 (0, 0) 3 3 rfl (by omega) (by simp [maxLen])
    rw [← hva, ← hga]
    have hS := hS.below hBA
    have hO := hO.below hBA
    have hB := hB.trans (hBA.mono hB.size)
    refine hK _ _ hS ?_
    clear hK K hga hva hbx
    try simp only [g_S, Act.put]
    have hrC := (hrC.below hBA).more hBA.size
    refine rg_one 9 rfl (by kernel_rfl) rfl (fun K hK => ?_)
    go_simp
    refine (HBITS.out va _ hrA).mono ?_
    rintro e w' ⟨rfl, rfl⟩
    refine hK _ _ hS ?_
    clear hK K
    try simp only [g_S, Act.put]
    refine rg_one 13 rfl (by kernel_rfl) rfl (fun K hK => ?_)
    go_simp
    refine (HPART.out va _ hB hrC hO hS).mono ?_
    rintro e w9 ⟨rfl, A', n', c', hb', ho', hk'⟩
    refine hK _ _ (box_keepF hS hk' (fun e => hne e.symm)) ?_
    clear hK K
    refine rg_end (by kernel_rfl) ?_
    go_wp2_with fail
    go_meet
    have hBw := hB3.trans (hB.mono hB3.size)
    refine ⟨A', n', c', hb', ho'.base_le hBw.size, box_keepF hS hk' (fun e => hne e.symm), hBw.trans (hk'.toBelow hBw.size (fun g hg => by omega))⟩
  case rest =>
   clear HPART HBITS hO hP3 hB3 hkn
   obtain ⟨A1, n1, c1, hO1, ho1, hP1, hB1⟩ := hcut
   have hSX : Box wc pb 29 (prV p h) := hP1
   unfold prV at hP1
   obtain ⟨kx, hkx⟩ : ∃ b, b = (p.id != []) := ⟨_, rfl⟩
   have hkn : (str p.id).toList.isEmpty = !kx := by rw [hkx, str_toList]; cases p.id <;> rfl
   obtain ⟨mp, hmp⟩ : ∃ b, b = isMap p.app := ⟨_, rfl⟩
   have hmk : ((p.app.kind : Int) == 168) = mp := by
    rw [hmp]
    unfold isMap
    rw [show (168 : Int) = ((168 : Nat) : Int) from rfl]
    by_cases e : p.app.kind = 168
    ·rw [e]; rfl
    ·exact (beq_eq_false_iff_ne.2 (by omega)).trans (beq_eq_false_iff_ne.2 e).symm
   obtain ⟨F, hF⟩ : ∃ F, F = f2P p := ⟨_, rfl⟩
   have hFb : F = bitsN [kx, mp] := by rw [hF, hkx, hmp]; rfl
   have x3 := hP1.c3
   have x4 := hP1.c4
   obtain ⟨ga, wa, hga, hwa, hbx, hBA⟩ := alloc_stepV wc #[.bool kx, .bool mp] 4
   have hrA : Rd wa wa.heap.size 1 (some ⟨ga, 0, none⟩) 2 2 ([kx, mp].map fun b => Value.bool b) := by rw [hga, hwa]; exact rd_new wc #[.bool kx, .bool mp] 4 (0, 0) 2 2 rfl (by omega) (by simp [maxLen])
   have hbits := bits_any [kx, mp] _ 2 2 wa hrA (by omega)
   rw [← hFb] at hbits
   obtain ⟨hF1, hF2⟩ := f2P_lt p
   rw [← hF, ← hmp] at hF2
   rw [← hF] at hF1
   have hn1 := OwnB.length ho1
   have hn2 : n1 ≤ 264 := by rw [← hn1]; exact b1P_len p hkl
   have hBW := hB1.trans (hBA.mono hB1.size)
   have HB2 : Hid (F ≠ 0 → partB 3 F (txtP p.id ++ if mp = true then vlP p.app else []) = b2P p) := Lib.hid (fun _ => by rw [hF, hmp]; rfl)
   have HR3 : Hid (R = if F = 0 then putPart [] (b1P p) else putPart (putPart [] (b1P p)) (b2P p)) := Lib.hid (by rw [HR2.out, bytesP, hF])
   generalize putPart [] (b1P p) = O1 at *
   have hS1 := hSX.below hBA
   have hO2 := hO1.below hBA
   have ho2 := own_below ho1 hBA
   clear hkx hmp hF hFb HR2 hbx hrA hP1 ho1
   go_wp2_with (with_reducible refine h_A ?_)
   rw [← hwa, ← hga]
   clear hwa hga
   refine hbits.mono ?_
   rintro e w' ⟨rfl, rfl⟩
   clear hbits hkn hmk x3 x4
   by_cases hF0 : F = 0
   ·have HRE : Hid (R = O1) := Lib.hid (by rw [HR3.out, if_pos hF0])
    subst hF0
    have x0 := hO2.c0
    have hcv := run_str (P := Tryd.prog) Tryd.underlying47 Tryd.underlying9 Tryd.underlying5 ho2.rd
    rw [← HRE.out] at hcv
    clear hF2 HB2 HR3
    go_wp2_with (with_reducible refine h_A ?_)
    go_ret2
    exact ⟨rfl, hBW⟩
   ·have HRE : Hid (R = putPart O1 (b2P p)) := Lib.hid (by rw [HR3.out, if_neg hF0])
    have HB3 := Lib.hid (HB2.out hF0)
    have d0 : ((F : Int) != 0) = true := by simp; omega
    have x3 : wa.cell? ⟨pb, 3, none⟩ = some (.string (str p.id)) := (show Box wa pb 29 (prV p h) from hS1).c3
    obtain ⟨gc, wb, hgc, hwb, hbx, hBC⟩ := alloc_stepV wa #[.string (str p.id)] 9
    have hrC : Rd wb wb.heap.size 1 (some ⟨gc, 0, none⟩) 1 1 [.string (str p.id)] := by rw [hgc, hwb]; exact rd_new wa #[.string (str p.id)] 9 (0, 0) 1 1 rfl (by omega) (by simp [maxLen])
    have hBX := hBW.trans (hBC.mono hBW.size)
    have hpr := prpart_any 3 F mp p.id p h pb ob O1 A1 (some ⟨gc, 0, none⟩) n1 c1 1 wb (HTW.out.on hBX) (HPW.out.app.up hBX) (hS1.below hBC) (hO2.below hBC) ((own_below ho2 hBC).rd) (by omega) hne hrC hil hF1 (by omega) (.inl ⟨rfl, hF2⟩)
    rw [HB3.out, ← HRE.out] at hpr
    rw [show ((3 : Nat) : Int) = 3 from rfl] at hpr
    clear HB2 HR3 HB3 hF0 hF2 hbx hrC
    go_wp2_with (with_reducible refine h_A ?_)
    rw [← hgc, ← hwb]
    clear hgc hwb
    refine hpr.mono ?_
    rintro e w9 ⟨rfl, A', n', c', hb', ho', hk'⟩
    have hB9 := hBX.trans (hk'.toBelow hBX.size (fun g hg => by omega))
    have x0 := hb'.c0
    have hcv := run_str (P := Tryd.prog) Tryd.underlying47 Tryd.underlying9 Tryd.underlying5 ho'.rd
    clear hpr x3 d0
    go_wp2_with (with_reducible refine h_A ?_)
    go_ret2
    exact ⟨rfl, hB9⟩
end Go.PH
end
section
/- What props' bytes read as: plain mathematics. -/
namespace Go.PH
open Go.RowKit Go.Proofs

theorem take_front (X r : List UInt8) (n : Nat) (h : X.length = n) : mtake (X ++ r) false (n : Int) = (X, r, false) := by
 rw [mtake_yes (by simp; omega), List.take_left' h, List.drop_left' h]
theorem num_front (x : Nat) (r : List UInt8) (h : x < 65536) : mnum (be 2 x ++ r) false 2 = (x, r, false) := by
 have h2 := take_front (be 2 x) r 2 (be_length 2 x)
 rw [mnum_yes (by decide)]
 rw [show ((2 : Nat) : Int) = 2 from rfl] at h2
 rw [h2, unbe_be]
 simp only
 rw [Nat.mod_eq_of_lt (by simpa using h)]
theorem text_front (s r : List UInt8) (h : s.length ≤ 255) (hne : s ≠ []) : mtext (txtP s ++ r) false 1 255 = (s, r, false) := by
 have h2 := take_front [UInt8.ofNat s.length] (s ++ r) 1 rfl
 have h3 := take_front s r s.length rfl
 have e : txtP s ++ r = [UInt8.ofNat s.length] ++ (s ++ r) := by unfold txtP; rw [if_neg hne]; rfl
 have hn : mnum (txtP s ++ r) false 1 = (s.length, s ++ r, false) := by
  rw [mnum_yes (by decide), e]
  rw [show ((1 : Nat) : Int) = 1 from rfl] at h2
  rw [h2]
  have : unbe [UInt8.ofNat s.length] = s.length := by
   show 256 * 0 + (UInt8.ofNat s.length).toNat = s.length
   rw [UInt8.toNat_ofNat']; omega
  rw [this]
 rw [mtext_eq (by decide), hn]
 simp only
 rw [if_neg]
 ·exact h3
 ·rw [List.length_append]
  simp
  omega
/-- what stands behind the first part -/
def tailP (p : Pr) : List UInt8 := if f2P p = 0 then [] else be 4 (b2P p).length ++ b2P p
theorem bytesP_eq (p : Pr) : bytesP p = (be 4 (b1P p).length ++ [4, 1]) ++ (be 2 (f1P p) ++ (txtP p.key ++ tailP p)) := by
 unfold bytesP tailP
 split
 ·simp [putPart, b1P, partB]
 ·simp [putPart, b1P, partB]
theorem tailP_eq {p : Pr} (h : f2P p ≠ 0) : tailP p = (be 4 (b2P p).length ++ [4, 3]) ++ (be 2 (f2P p) ++ (txtP p.id ++ if isMap p.app then vlP p.app else [])) := by
 unfold tailP
 rw [if_neg h]
 simp [b2P, partB]
theorem f1P_bits (p : Pr) : (bits .and .u64 (f1P p : Int) 1 != 0) = p.dur ∧ (bits .and .u64 (f1P p : Int) 2 != 0) = p.red ∧ (bits .and .u64 (f1P p : Int) 4 != 0) = (p.key != []) := by
 unfold f1P
 generalize (p.key != []) = c
 generalize p.dur = a
 generalize p.red = b
 cases a <;> cases b <;> cases c <;> decide
theorem f2P_bits (p : Pr) : (bits .and .u64 (f2P p : Int) 1 != 0) = (p.id != []) ∧ (bits .and .u64 (f2P p : Int) 2 != 0) = isMap p.app := by
 unfold f2P
 generalize (p.id != []) = a
 generalize isMap p.app = b
 cases a <;> cases b <;> decide
theorem f2P_zero {p : Pr} (h : f2P p = 0) : p.id = [] ∧ isMap p.app = false := by
 unfold f2P at h
 generalize hb : isMap p.app = b at *
 cases b
 ·refine ⟨?_, rfl⟩
  cases hi : p.id with
  | nil => rfl
  | cons x r => rw [hi] at h; simp [bitsN] at h
 ·simp [bitsN] at h
/-- what is no map is nothing -/
theorem okP_app {p : Pr} (h : okP p = true) : (isMap p.app = false → p.app = vl0) ∧ (isMap p.app = true → errV p.app = 0) := by
 unfold okP at h
 rw [Bool.and_eq_true, Bool.or_eq_true, Bool.and_eq_true] at h
 refine ⟨fun hm => ?_, fun hm => ?_⟩
 ·rcases h.2 with h2 | h2
  ·exact (sameV_iff _ _).1 h2
  ·rw [hm] at h2; cases h2
 ·rcases h.2 with h2 | h2
  ·rw [(sameV_iff _ _).1 h2] at hm; cases hm
  ·rw [hm] at h2; simpa using h2
theorem bytesP_len {p : Pr} (h : okP p = true) : (bytesP p).length ≤ 1001000 := by
 obtain ⟨h1, h2⟩ := okP_key h
 have t1 := txtP_len p.key
 have t2 := txtP_len p.id
 have t3 := vlP_len p.app
 rw [bytesP_eq]
 simp only [List.length_append, be_length, List.length_cons, List.length_nil]
 unfold tailP b2P partB
 split
 ·simp; omega
 ·simp only [List.length_append, be_length, List.length_cons, List.length_nil]
  split <;> simp <;> omega
end Go.PH
end
section
/- The walk of props' Get, at the bytes of properties that may be. -/
namespace Go.PH
open Go.RowKit Go.Proofs

set_option maxRecDepth 20000 in
theorem ptext_any {F : Nat → Prop} {w : World} {rb : Nat} {vb : Option Nat} {l : List UInt8} (h : Rdr F w (.pointer (some ⟨rb, 0, none⟩)) vb l false) (hF : ∀ g, F g → g < w.heap.size) (th : Bool) (s r : List UInt8) (he : if th = true then mtext l false 1 255 = (s, r, false) else s = [] ∧ r = l) :
  Calls Tryd.prog 30 #[.agg #[.pointer (some ⟨rb, 0, none⟩)], .bool th] w fun e w' => e = .returned (.string (str s)) ∧ Rdr F w' (.pointer (some ⟨rb, 0, none⟩)) vb r false ∧ w.grownBy w' vb := by
 obtain ⟨xb, w1, hxb, hxv, hX, hB1⟩ := alloc_stepV w #[.pointer (some ⟨rb, 0, none⟩)] 89
 have h1 := h.below hB1
 have x0 := hX.c0
 have ht := rdtext_any h1 1 255 (by omega) (by omega) (by omega) (by omega)
 clear h
 go_enter Tryd.func30, Tryd.ntmps30
 go_upto_region 1 with fail
 rw [← hxb, ← hxv]
 clear hxb hxv
 cases th
 ·rw [if_neg (by simp)] at he
  obtain ⟨rfl, rfl⟩ := he
  clear ht x0
  go_wp2_with (with_reducible refine h_A ?_)
  go_ret
  exact ⟨rfl, h1, grownOf hB1 _⟩
 ·rw [if_pos rfl] at he
  rw [he] at ht
  clear he
  go_wp2_with (with_reducible refine h_A ?_)
  refine ht.mono ?_
  rintro e w2 ⟨rfl, hR, hg⟩
  go_wp2_with (with_reducible refine h_A ?_)
  go_ret
  exact ⟨rfl, hR, (grownOf hB1 vb).trans hg⟩

def zp : Array Value := #[.string ⟨#[]⟩, .bool false, .bool false, .string ⟨#[]⟩, .int .u8 0, .int .u64 0, .string ⟨#[]⟩, .slice none 0 0, .slice none 0 0]
/-- memory between the steps: the result's block q, the reader's holder gb, the reader -/
structure PgS (w wr : World) (q gb rb vb N0 N1 : Nat) (l : List UInt8) : Prop where
 cq : Box wr q 29 zp
 cg : Box wr gb 89 #[.pointer (some ⟨rb, 0, none⟩)]
 rd : Rdr (fun g => N0 ≤ g ∧ g < N1) wr (.pointer (some ⟨rb, 0, none⟩)) (some vb) l false
 bl : Below w.heap.size w wr
 lt : w.heap.size ≤ q ∧ q < N0 ∧ N1 ≤ gb
theorem PgS.vb {w wr : World} {q gb rb vb N0 N1 : Nat} {l : List UInt8} (h : PgS w wr q gb rb vb N0 N1 l) : N0 ≤ vb ∧ vb < N1 := h.rd.inF rfl
theorem PgS.read {w wr w' : World} {q gb rb vb N0 N1 : Nat} {l l' : List UInt8} (h : PgS w wr q gb rb vb N0 N1 l) (hR : Rdr (fun g => N0 ≤ g ∧ g < N1) w' (.pointer (some ⟨rb, 0, none⟩)) (some vb) l' false) (hg : wr.grownBy w' (some vb)) : PgS w w' q gb rb vb N0 N1 l' := by
 have hv := h.vb
 have hl := h.lt
 exact ⟨h.cq.grown hg (sne (by omega)), h.cg.grown hg (sne (by omega)), hR, h.bl.grown hg h.bl.size (fun g e => by injection e with e; omega), h.lt⟩
theorem PgS.below {w wr w' : World} {q gb rb vb N0 N1 : Nat} {l : List UInt8} (h : PgS w wr q gb rb vb N0 N1 l) (hB : Below wr.heap.size wr w') : PgS w w' q gb rb vb N0 N1 l :=
 ⟨h.cq.below hB, h.cg.below hB, h.rd.below hB, h.bl.trans (hB.mono h.bl.size), h.lt⟩
theorem PgS.other {w wr w' : World} {q gb rb vb N0 N1 : Nat} {l : List UInt8} (h : PgS w wr q gb rb vb N0 N1 l) {b : Nat} (hg : wr.grownBy w' (some b)) (hb : gb < b) : PgS w w' q gb rb vb N0 N1 l := by
 have hl := h.lt
 have hv := h.vb
 exact ⟨h.cq.grown hg (sne (by omega)), h.cg.grown hg (sne (by omega)), h.rd.kept hg (by rintro g ⟨rfl⟩ ⟨_, h⟩; omega), h.bl.grown hg h.bl.size (fun g e => by injection e with e; omega), h.lt⟩
theorem PgS.take {w wr : World} {q gb rb vb N0 N1 : Nat} {X r : List UInt8} (h : PgS w wr q gb rb vb N0 N1 (X ++ r)) (n : Nat) (hn : X.length = n) (hn2 : n ≤ 10000000) :
  Calls Tryd.prog 28 #[.pointer (some ⟨rb, 0, none⟩), .int .i64 (n : Int)] wr fun e w' => ∃ A2 c2, e = .returned (.slice A2 n c2) ∧ RdB w' w'.heap.size A2 n c2 X ∧ PgS w w' q gb rb vb N0 N1 r ∧ wr.grownBy w' (some vb) := by
 refine (rdtake_any h.rd (n : Int) (by omega) (by omega)).mono ?_
 rintro e w' ⟨A2, c2, rfl, hO, hR, hg⟩
 rw [take_front X r n hn] at hO hR
 simp only at hO hR
 rw [hn] at hO
 exact ⟨A2, c2, by rw [take_front X r n hn, hn], hO.rd, h.read hR hg, hg⟩
theorem PgS.num {w wr : World} {q gb rb vb N0 N1 x : Nat} {r : List UInt8} (h : PgS w wr q gb rb vb N0 N1 (be 2 x ++ r)) (hx : x < 65536) :
  Calls Tryd.prog 29 #[.pointer (some ⟨rb, 0, none⟩), .int .i64 2] wr fun e w' => e = .returned (.int .u64 (x : Int)) ∧ PgS w w' q gb rb vb N0 N1 r ∧ wr.grownBy w' (some vb) := by
 refine (rdnum_any h.rd 2 (by omega) (by omega)).mono ?_
 rintro e w' ⟨rfl, hR, hg⟩
 rw [num_front x r hx] at hR
 exact ⟨by rw [num_front x r hx], h.read hR hg, hg⟩
theorem PgS.text {w wr : World} {q gb rb vb N0 N1 : Nat} {s r : List UInt8} (h : PgS w wr q gb rb vb N0 N1 (txtP s ++ r)) (hs : s.length ≤ 255) (hN : N1 ≤ wr.heap.size) (th : Bool) (ht : th = (s != [])) :
  Calls Tryd.prog 30 #[.agg #[.pointer (some ⟨rb, 0, none⟩)], .bool th] wr fun e w' => e = .returned (.string (str s)) ∧ PgS w w' q gb rb vb N0 N1 r ∧ wr.grownBy w' (some vb) := by
 refine (ptext_any h.rd (fun g hg => by have := hg.2; omega) th s r ?_).mono ?_
 ·subst ht
  by_cases hne : s = []
  ·subst hne; simp [txtP]
  ·rw [if_pos (by simpa using hne)]; exact text_front s r hs hne
 ·rintro e w' ⟨rfl, hR, hg⟩
  exact ⟨rfl, h.read hR hg, hg⟩
set_option maxRecDepth 20000 in
set_option maxHeartbeats 4000000 in
theorem prget_any (p : Pr) (hh : VH) (w0 w : World) (hok : okP p = true) (hp : PrW w0 p hh) (hT : UTabs w) :
  Calls Tryd.prog 11 #[.string (str (bytesP p))] w fun e w' => ∃ h, e = .returned (.tuple #[.agg (prV p h), .int .i64 0]) ∧ RVw w' p.app h ∧ Below w.heap.size w w' := by
 obtain ⟨hkl, hil⟩ := okP_key hok
 obtain ⟨ha1, ha2⟩ := okP_app hok
 have hvb := hp.app.vb
 have hlen := bytesP_len hok
 obtain ⟨S, hS⟩ : ∃ S, S = bytesP p := ⟨_, rfl⟩
 rw [← hS] at hlen ⊢
 have HS := Lib.hid hS
 have HOK := Lib.hid hok
 have HA1 := Lib.hid ha1
 have HA2 := Lib.hid ha2
 have HTW := Lib.hid hT
 have hpk := hp.key
 have hpi := hp.id
 clear hS hok ha1 ha2 hT hp
 obtain ⟨q, w1, hqb, hqv, hQ, hB1⟩ := alloc_stepV w zp 29
 have hqw : w.heap.size ≤ q := by omega
 have hql := hQ.lt
 unfold zp at *
 go_enter Tryd.func11, Tryd.ntmps11
 go_upto_region 1 with fail
 rw [← hqb, ← hqv]
 clear hqb hqv
 go_wp2_with (with_reducible refine h_X ?_)
 refine unhold (wp_s2b Tryd.underlying9 Tryd.underlying47 Tryd.underlying5 rfl rfl rfl (by omega) ?_)
 intro cs w2 hr2 hB2
 have hQ2 := hQ.below hB2
 replace hB2 := hB1.trans (hB2.mono hB1.size)
 clear hQ hB1
 go_wp2_with (with_reducible refine h_A ?_)
 refine (rdopen_any _ _ _ S w2 hr2 (by omega)).mono ?_
 rintro e w3 ⟨rb, vb, rfl, hrb, hvbb, hR3, hB3⟩
 have hQ3 := hQ2.below hB3
 have hs3 := hB3.size
 have hql2 := hQ2.lt
 replace hB3 := hB2.trans (hB3.mono hB2.size)
 clear hQ2 hB2 hr2
 obtain ⟨gb, w4, hgb, hgv, hG, hB4⟩ := alloc_stepV w3 #[.pointer (some ⟨rb, 0, none⟩)] 89
 have hS4 : PgS w w4 q gb rb vb w2.heap.size w3.heap.size S := ⟨hQ3.below hB4, hG, hR3.below hB4, hB3.trans (hB4.mono hB3.size), hqw, hql2, by omega⟩
 have hN4 : w3.heap.size ≤ w4.heap.size := hB4.size
 have hgl := hG.lt
 clear hG hB4 hR3 hB3 hQ3
 go_upto_region 2 with fail
 rw [← hgb, ← hgv]
 clear hgb hgv
 rw [HS.out, bytesP_eq] at hS4
 have htk := hS4.take 6 (by simp [be_length]) (by omega)
 rw [show ((6 : Nat) : Int) = 6 from rfl] at htk
 have x0 := hS4.cg.c0
 clear hS4
 go_wp2_with (with_reducible refine h_A ?_)
 refine htk.mono ?_
 rintro e w5 ⟨A5, c5, rfl, _, hS5, hg5⟩
 have hN5 : w3.heap.size ≤ w5.heap.size := Nat.le_trans hN4 hg5.size
 have hgl5 := hS5.cg.lt
 have hnm := hS5.num (f1P_lt p)
 have x0 := hS5.cg.c0
 clear hS5 htk hN4 hgl hg5
 go_wp2_with (with_reducible refine h_A ?_)
 refine hnm.mono ?_
 rintro e w6 ⟨rfl, hS6, hg6⟩
 have hN6 : w3.heap.size ≤ w6.heap.size := Nat.le_trans hN5 hg6.size
 obtain ⟨d1, d2, d3⟩ := f1P_bits p
 obtain ⟨kx, hkx⟩ : ∃ b, b = (p.key != []) := ⟨_, rfl⟩
 rw [← hkx] at d3
 have htx := hS6.text hkl hN6 kx hkx
 have x0 := hS6.cg.c0
 have HKX := Lib.hid hkx
 generalize f1P p = F1 at *
 clear hS6 hnm hN5 hgl5 hg6 hkx
 go_wp2_with (with_reducible refine h_A ?_)
 refine htx.mono ?_
 rintro e w7 ⟨rfl, hS7, hg7⟩
 have hN7 : w3.heap.size ≤ w7.heap.size := Nat.le_trans hN6 hg7.size
 clear htx hg7 hN6 x0 d3
 obtain ⟨pb, w8, hpb, hpv, hP, hB8⟩ := alloc_stepV w7 #[.string (str p.key), .bool p.dur, .bool p.red, .string ⟨#[]⟩, .int .u8 0, .int .u64 0, .string ⟨#[]⟩, .slice none 0 0, .slice none 0 0] 29
 have hS8 := hS7.below hB8
 have hgp : gb < pb := by have := hS7.cg.lt; omega
 have hN8 : w3.heap.size ≤ w8.heap.size := Nat.le_trans hN7 hB8.size
 clear hS7 hN7
 go_upto_region 5 with fail
 rw [← hpb, ← hpv]
 clear hpb hpv d1 d2 hB8
 have x0 := hS8.cg.c0
 have hlf := rdleft_any hS8.rd
 obtain ⟨N, hN⟩ : ∃ N, N = (tailP p).length := ⟨_, rfl⟩
 rw [← hN] at hlf
 have HN := Lib.hid hN
 clear hN
 go_upto_if 35 with fail
 refine hlf.mono ?_
 rintro e w9 ⟨rfl, rfl⟩
 clear hlf
 go_upto_if 35 with fail
 go_cut [7] from 10 (fun s7 wx => ∃ h, Box wx pb 29 (prV p h) ∧ RV wx (fun g => q < g ∧ g < wx.heap.size) p.app h ∧ PgS w wx q gb rb vb w2.heap.size w3.heap.size [] ∧ w3.heap.size ≤ wx.heap.size)
 case first =>
  by_cases hF2 : f2P p = 0
  ·obtain ⟨hid0, hmap0⟩ := f2P_zero hF2
   have hap := HA1.out hmap0
   have ht0 : tailP p = [] := by unfold tailP; rw [if_pos hF2]
   obtain rfl : N = 0 := by rw [HN.out, ht0]; rfl
   rw [ht0] at hS8
   go_wp2_with (with_reducible refine h_A ?_)
   go_meet
   refine ⟨⟨none, 0, none, 0⟩, ?_, ?_, hS8, hN8⟩
   ·unfold prV
    rw [hap, hid0]
    exact hP
   ·rw [hap]; exact RV.zero _ _
  ·have hF2l := (f2P_lt p).1
   have hN0 : 0 < N := by rw [HN.out, tailP_eq hF2]; simp only [List.length_append, be_length]; omega
   have g0 : (0 : Int) < (N : Int) := by omega
   rw [tailP_eq hF2] at hS8
   clear hF2
   have htk := hS8.take 6 (by simp [be_length]) (by omega)
   rw [show ((6 : Nat) : Int) = 6 from rfl] at htk
   go_wp2_with (with_reducible refine h_A ?_)
   refine htk.mono ?_
   rintro e wa ⟨Aa, ca, rfl, _, hSa, hga⟩
   have hvl := hS8.vb
   have hlt := hS8.lt
   have hPa := hP.grown hga (sne (by omega))
   have hNa : w3.heap.size ≤ wa.heap.size := Nat.le_trans hN8 hga.size
   have hnm := hSa.num hF2l
   have x0 := hSa.cg.c0
   clear hSa htk hN8 hga g0 hN0 hS8 hP
   go_wp2_with (with_reducible refine h_A ?_)
   refine hnm.mono ?_
   rintro e wb ⟨rfl, hSb, hgb⟩
   have hNb : w3.heap.size ≤ wb.heap.size := Nat.le_trans hNa hgb.size
   have hPb := hPa.grown hgb (sne (by omega))
   obtain ⟨d1, d2⟩ := f2P_bits p
   obtain ⟨ix, hix⟩ : ∃ b, b = (p.id != []) := ⟨_, rfl⟩
   rw [← hix] at d1
   have htx := hSb.text hil hNb ix hix
   have x0 := hSb.cg.c0
   generalize f2P p = F2 at *
   clear hSb hnm hPa hNa hgb hix
   go_wp2_with (with_reducible refine h_B ?_)
   refine htx.mono ?_
   rintro e wc ⟨rfl, hSc, hgc⟩
   have hNc : w3.heap.size ≤ wc.heap.size := Nat.le_trans hNb hgc.size
   have hPc := hPb.grown hgc (sne (by omega))
   clear htx hPb hNb hgc x0
   go_wp2_with (with_reducible refine h_B ?_)
   refine unhold (wp_boxAt rfl rfl rfl rfl hPc (j := 3) (v := .string (str p.id)) rfl (by kernel_rfl) (by simp) ?_)
   intro wd hPd hgd hzd
   clear hzd
   replace hPd : Box wd pb 29 #[.string (str p.key), .bool p.dur, .bool p.red, .string (str p.id), .int .u8 0, .int .u64 0, .string ⟨#[]⟩, .slice none 0 0, .slice none 0 0] := hPd
   have hSd := hSc.other hgd hgp
   have hNd : w3.heap.size ≤ wd.heap.size := Nat.le_trans hNc hgd.size
   clear hSc hPc hNc hgd d1
   cases hmp : isMap p.app
   ·have hap := HA1.out hmp
    rw [hmp] at d2 hSd
    go_wp2_with (with_reducible refine h_A ?_)
    go_meet
    refine ⟨⟨none, 0, none, 0⟩, ?_, ?_, hSd, hNd⟩
    ·unfold prV
     rw [hap]
     exact hPd
    ·rw [hap]; exact RV.zero _ _
   ·have hev := HA2.out hmp
    rw [hmp] at d2 hSd
    go_upto_region 10 with fail
    have hvp : vlP p.app = vlB p.app := by unfold vlP; rw [if_pos hev]
    rw [if_pos rfl, hvp] at hSd
    have hvo := vget_ok (rest := []) hvb hev
    rw [List.append_nil] at hvo
    have hbl : (vlB p.app).length ≤ 1000000 := by rw [← hvp]; exact vlP_len p.app
    have hpbl := hPd.lt
    refine rg_start (fun W : World => Box W gb 89 #[.pointer (some ⟨rb, 0, none⟩)]) (by kernel_rfl) ?_
    have hBd : Below wd.heap.size wd wd.drew := below_drewN (Below.refl _ _) 1
    have hSe := hSd.below hBd
    have hS := hSe.cg
    have hPe := hPd.below hBd
    have hpbl2 := hPe.lt
    clear hSd hPd d2 hvp
    generalize wd.drew = we at *
    refine rg_t 0 hS ?_
    simp only [List.getElem_toArray, List.getElem_cons_zero, Act.put, List.setIfInBounds_toArray, List.set_cons_zero, List.set_cons_succ]
    refine rg_t 2 hS ?_
    simp only [g_S, Act.put]
    refine rg_take 1 (v := ?_) rfl (by kernel_rfl) (by kernel_rfl) (by kernel_rfl) hS rfl ?_ ?_
    rotate_left
    ·intro wS hSw; have y := hSw.cell (j := 0) rfl; go_simp; (with_reducible rfl)
    simp only [g_S, Act.put]
    refine rg_take 3 (v := ?_) rfl (by kernel_rfl) (by kernel_rfl) (by kernel_rfl) hS rfl ?_ ?_
    rotate_left
    ·intro wS hSw; have y := hSw.cell (j := 0) rfl; go_simp; (with_reducible rfl)
    simp only [g_S, Act.put]
    have hlf := rdleft_any hSe.rd
    refine rg_one 4 rfl (by kernel_rfl) rfl (fun K hK => ?_)
    go_simp
    refine hlf.mono ?_
    rintro e w' ⟨rfl, rfl⟩
    refine hK _ _ hS ?_
    clear hK K hlf
    try simp only [g_S, Act.put]
    have hSe2 : PgS w w' q gb rb vb w2.heap.size w3.heap.size (vlB p.app ++ []) := by rw [List.append_nil]; exact hSe
    have htk := hSe2.take (vlB p.app).length rfl (by omega)
    refine rg_one 5 rfl (by kernel_rfl) rfl (fun K hK => ?_)
    go_simp
    refine htk.mono ?_
    rintro e wf ⟨Af, cf, rfl, hrf, hSf, hgf⟩
    have hPf := hPe.grown hgf (sne (by omega))
    have hNf : w3.heap.size ≤ wf.heap.size := by have := hBd.size; have := hgf.size; omega
    refine hK _ _ hSf.cg ?_
    clear hK K htk hSe2 hSe hPe hgf hS
    try simp only [g_S, Act.put]
    have hvg := vget_any Af _ cf (vlB p.app) wf hrf (by omega) (HTW.out.on hSf.bl)
    rw [hvo] at hvg
    refine rg_one 6 rfl (by kernel_rfl) rfl (fun K hK => ?_)
    go_simp
    refine hvg.mono ?_
    rintro e wg ⟨hh2, rfl, hV, hBg⟩
    have hSg := hSf.below hBg
    have hPg := hPf.below hBg
    have hNg : w3.heap.size ≤ wg.heap.size := by have := hBg.size; omega
    have hpfl := hPf.lt
    have hS := hSg.cg
    refine hK _ _ hS ?_
    clear hK K hvg hSf hPf hBg hrf
    try simp only [g_S, Act.put]
    refine rg_t 7 hS ?_
    simp only [g_S, Act.put]
    refine rg_t 8 hS ?_
    simp only [g_S, Act.put]
    refine rg_t 9 hS ?_
    simp only [g_S, Act.put]
    refine rg_t 10 hS ?_
    simp only [g_S, Act.put]
    refine rg_t 11 hS ?_
    simp only [g_S, Act.put]
    refine rg_one 12 rfl (by kernel_rfl) rfl (fun K hK => ?_)
    unfold vlV
    refine op_box (v := .agg #[.int .u8 (p.app.kind : Int), .int .u64 (p.app.n : Int), .string (str p.app.s), .slice hh2.A1 p.app.keys.length hh2.c1, .slice hh2.A2 p.app.list.length hh2.c2]) (vs := [.int .u8 (p.app.kind : Int), .int .u64 (p.app.n : Int), .string (str p.app.s), .slice hh2.A1 p.app.keys.length hh2.c1, .slice hh2.A2 p.app.list.length hh2.c2]) (j := 4) rfl rfl rfl hPg rfl (by kernel_rfl) (by simp) (by simp [Value.oneCell']) (prV p hh2) (by simp [prV]) ?_
    intro wi hPi hgi hzi
    have hVi : RV wi (fun g => q < g ∧ g < wi.heap.size) p.app hh2 := (hV.keep (fun g hg => hgi.block g hg.2 (fun e => by injection e with e; have := hg.1; omega)) hgi.size).mono (fun g hg => ⟨by have := hg.1; omega, by rw [hzi]; exact hg.2⟩)
    have hSi := hSg.other hgi hgp
    clear hzi
    refine hK _ _ hSi.cg ?_
    clear hK K
    refine rg_end (by kernel_rfl) ?_
    go_wp2_with fail
    go_meet
    exact ⟨hh2, hPi, hVi, hSi, Nat.le_trans hNg hgi.size⟩
 case rest =>
  clear hS8 hP hN8
  obtain ⟨h, hP, hV0, hS, hN⟩ := hcut
  have hV : RVw wc p.app h := hV0.mono (fun g hg => hg.2)
  have hpp : putP p = bytesP p := by unfold putP; rw [if_pos HOK.out]
  have hee : errP p = 0 := by unfold errP; rw [if_pos HOK.out]
  have hpu := prput_any p h wc ⟨hpk, hpi, hV⟩ (HTW.out.on hS.bl)
  rw [hpp, hee, ← HS.out] at hpu
  have hpw : Box wc pb 29 #[.string (str p.key), .bool p.dur, .bool p.red, .string (str p.id), .int .u8 (p.app.kind : Int), .int .u64 (p.app.n : Int), .string (str p.app.s), .slice h.A1 p.app.keys.length h.c1, .slice h.A2 p.app.list.length h.c2] := hP
  unfold prV at hpu
  have x0 := hpw.c0
  have x1 := hpw.c1
  have x2 := hpw.c2
  have x3 := hpw.c3
  have x4 := hpw.c4
  have x5 := hpw.c5
  have x6 := hpw.c6
  have x7 := hpw.c7
  have x8 := hpw.c8
  clear hpp hee
  go_wp2_with (with_reducible refine h_A ?_)
  refine hpu.mono ?_
  rintro e wd ⟨rfl, hBd⟩
  have hSd := hS.below hBd
  have hPd := hpw.below hBd
  have hVd := hV0.keep (fun g hg => hBd.block g hg.2) hBd.size
  clear hpu x0 x1 x2 x3 x4 x5 x6 x7 x8 hP hV hV0 hS
  have y0 := hSd.cg.c0
  have hbd := rdbad_any hSd.rd
  go_wp2_with (with_reducible refine h_A ?_)
  refine hbd.mono ?_
  rintro e we ⟨rfl, rfl⟩
  have x0 := hPd.c0
  have x1 := hPd.c1
  have x2 := hPd.c2
  have x3 := hPd.c3
  have x4 := hPd.c4
  have x5 := hPd.c5
  have x6 := hPd.c6
  have x7 := hPd.c7
  have x8 := hPd.c8
  clear hbd
  go_wp2_with (with_reducible refine h_B ?_)
  refine unhold (wp_box (v := .agg #[.string (str p.key), .bool p.dur, .bool p.red, .string (str p.id), .int .u8 (p.app.kind : Int), .int .u64 (p.app.n : Int), .string (str p.app.s), .slice h.A1 p.app.keys.length h.c1, .slice h.A2 p.app.list.length h.c2]) (vs := [.string (str p.key), .bool p.dur, .bool p.red, .string (str p.id), .int .u8 (p.app.kind : Int), .int .u64 (p.app.n : Int), .string (str p.app.s), .slice h.A1 p.app.keys.length h.c1, .slice h.A2 p.app.list.length h.c2]) (j := 0) rfl rfl rfl rfl hSd.cq rfl (by kernel_rfl) (Nat.le_refl 9) (by simp [Value.oneCell']) (prV p h) (by simp [prV, zp]) ?_)
  intro wz hbz hgz hzz
  clear hzz
  go_wp2_with (with_reducible refine h_A ?_)
  (try simp only [Exit.inBlock, Exit.then])
  refine ret_box_tmp rfl hbz rfl rfl Tryd.underlying29 rfl (by kernel_rfl) rfl ?_
  have hql3 := hSd.lt
  exact ⟨h, rfl, (hVd.keep (fun g hg => hgz.block g (Nat.lt_of_lt_of_le hg.2 hBd.size) (fun e => by injection e with e; have := hg.1; omega)) hgz.size).mono (fun g hg => Nat.lt_of_lt_of_le hg.2 (Nat.le_trans hBd.size hgz.size)), hSd.bl.grown hgz hSd.bl.size (fun g e => by injection e with e; omega)⟩
end Go.PH
end
section
/- The walk of props' Same, of properties that are the same. -/
namespace Go.PH
open Go.RowKit Go.Proofs

set_option maxRecDepth 20000 in
set_option maxHeartbeats 2000000 in
theorem psame_any (p : Pr) (h k : VH) (w : World) (hv : RVw w p.app h) (hu : RVw w p.app k) :
  Calls Tryd.prog 12 #[.agg (prV p h), .agg (prV p k)] w fun e w' => e = .returned (.bool true) ∧ Below w.heap.size w w' := by
 obtain ⟨xb, w1, hxb, hxv, hX, hB1⟩ := alloc_stepV w (prV p h) 29
 obtain ⟨yb, w2, hyb, hyv, hY, hB2⟩ := alloc_stepV w1 (prV p k) 29
 have e1 : yb = w.heap.size + 1 := by rw [hyb, hxv]; simp
 have hX2 := hX.below hB2
 have hB := hB1.trans (hB2.mono hB1.size)
 have hss := vsame_any p.app p.app h k w2 (hv.up hB) (hu.up hB)
 have hst : sameV p.app p.app = true := (sameV_iff _ _).2 rfl
 unfold SameR vlV at hss
 rw [hst] at hss
 unfold prV at *
 clear hv hu hX hB1 hB2 hst
 go_enter Tryd.func12, Tryd.ntmps12
 go_upto_region 1 with fail
 rw [← e1, ← hxb, ← hxv, ← hyv]
 clear e1 hxb hxv hyb hyv
 have x0 := hX2.c0
 have x1 := hX2.c1
 have x2 := hX2.c2
 have x3 := hX2.c3
 have x4 := hX2.c4
 have x5 := hX2.c5
 have x6 := hX2.c6
 have x7 := hX2.c7
 have x8 := hX2.c8
 have y0 := hY.c0
 have y1 := hY.c1
 have y2 := hY.c2
 have y3 := hY.c3
 have y4 := hY.c4
 have y5 := hY.c5
 have y6 := hY.c6
 have y7 := hY.c7
 have y8 := hY.c8
 go_wp2_with (with_reducible refine h_A ?_)
 refine hss.mono ?_
 rintro e w3 ⟨rfl, hB3⟩
 go_wp2_with (with_reducible refine h_A ?_)
 go_ret
 exact ⟨rfl, hB.trans (hB3.mono hB.size)⟩
end Go.PH
end
section
/- Reading properties, and what tells how a message is cut, as a law's arguments. -/
namespace Go.PH
open Go.RowKit Go.Proofs Go.ChangeShapes Go.WideShapes Go.ChangeAt Go.Deep
variable {H : Type} {enc : TypeId × Value → H} {W : World}

def RPr (W : World) (x : Pr × VH) (cs : List Value) : Prop := cs = (prV x.1 x.2).toList ∧ PrW W x.1 x.2
theorem cells9p {cs : List Value} {a b c d : Value} {l : List Value} (hl : cs.length = 9) (h0 : (cs.drop 0).take 1 = [a]) (h1 : (cs.drop 1).take 1 = [b]) (h2 : (cs.drop 2).take 1 = [c]) (h3 : (cs.drop 3).take 1 = [d]) (h4 : (cs.drop 4).take 5 = l) : cs = a :: b :: c :: d :: l := by
 match cs, hl with
 | [x, y, z, u, v, p, q, r, s], _ =>
  simp at h0 h1 h2 h3 h4
  subst h0 h1 h2 h3 h4
  rfl
set_option maxRecDepth 20000 in
theorem reader_props : Reader enc Tryd.prog W 29 (RPr W) := fun fuel cs d p h hw => by
 obtain ⟨hl, hf⟩ := trod_field Tryd.underlying29 h hw
 obtain ⟨l0, h0, w0⟩ := hf 0 _ rfl (reader_str Tryd.underlying9)
 obtain ⟨b1, h1⟩ := hf 1 _ rfl (reader_bool Tryd.underlying4)
 obtain ⟨b2, h2⟩ := hf 2 _ rfl (reader_bool Tryd.underlying4)
 obtain ⟨l3, h3, w3⟩ := hf 3 _ rfl (reader_str Tryd.underlying9)
 obtain ⟨v4, k4, h4, w4⟩ := hf 4 _ rfl reader_val
 rw [(by kernel_rfl : Tryd.prog.cellsOf 29 = 9)] at hl
 replace h4 : List.take 5 (List.drop 4 cs) = vlC (v4, k4) := h4
 exact ⟨(⟨l0, b1, b2, l3, v4⟩, k4), cells9p hl h0 h1 h2 h3 h4, w0, w3, w4⟩
set_option maxRecDepth 20000 in
theorem see_props {d : DataW H} {ps : List MemPlace} {v : Value} {r : Reach} {b0 : Nat} (hval : Value.okWide Tryd.prog W r b0 29 v) (hd : DataW.Trod enc Tryd.prog W 0 (fun _ => true) true 29 v d ps)
  {ts : List TypeId} {ds : List (DataW H)} {j : Nat} (hz : (DataW.weightsEach Tryd.prog ts ds).all (· ≤ reachBytes) = true) (ht : ts[j]? = some 29) (hdj : ds[j]? = some d) :
  ∃ (x : Pr) (k : VH), v = .agg (prV x k) ∧ PrW W x k := by
 obtain ⟨cs, rfl, _⟩ := okWide_struct Tryd.underlying29 hval
 obtain ⟨⟨x, k⟩, h1, h2⟩ := see_arg reader_props hd hz ht hdj
 refine ⟨x, k, ?_, h2⟩
 simp only [Value.cells] at h1
 congr 1
 apply Array.ext'
 rw [h1]
theorem cells3q {cs : List Value} {a b c : Value} (hl : cs.length = 3) (h0 : (cs.drop 0).take 1 = [a]) (h1 : (cs.drop 1).take 1 = [b]) (h2 : (cs.drop 2).take 1 = [c]) : cs = [a, b, c] := by
 match cs, hl with
 | [x, y, z], _ => simp_all
def RPieces (x : Nat × Nat × Bool) (cs : List Value) : Prop := cs = [.int .u16 (x.1 : Int), .int .u16 (x.2.1 : Int), .bool x.2.2] ∧ x.1 < 65536 ∧ x.2.1 < 65536
set_option maxRecDepth 20000 in
theorem reader_pieces : Reader enc Tryd.prog W 32 RPieces := fun fuel cs d p h hw => by
 obtain ⟨hl, hf⟩ := trod_field Tryd.underlying32 h hw
 obtain ⟨n0, h0, w0⟩ := hf 0 _ rfl (reader_int (k := .u16) Tryd.underlying30)
 obtain ⟨n1, h1, w1⟩ := hf 1 _ rfl (reader_int (k := .u16) Tryd.underlying30)
 obtain ⟨b2, h2⟩ := hf 2 _ rfl (reader_bool Tryd.underlying4)
 have k0 := bounds_u16 w0
 have k1 := bounds_u16 w1
 rw [(by kernel_rfl : Tryd.prog.cellsOf 32 = 3)] at hl
 have e0 : n0 = ((n0.toNat : Nat) : Int) := by omega
 have e1 : n1 = ((n1.toNat : Nat) : Int) := by omega
 rw [e0] at h0
 rw [e1] at h1
 exact ⟨(n0.toNat, n1.toNat, b2), cells3q hl h0 h1 h2, by show n0.toNat < 65536; omega, by show n1.toNat < 65536; omega⟩
set_option maxRecDepth 20000 in
theorem see_pieces {d : DataW H} {ps : List MemPlace} {v : Value} {r : Reach} {b0 : Nat} (hval : Value.okWide Tryd.prog W r b0 32 v) (hd : DataW.Trod enc Tryd.prog W 0 (fun _ => true) true 32 v d ps)
  {ts : List TypeId} {ds : List (DataW H)} {j : Nat} (hz : (DataW.weightsEach Tryd.prog ts ds).all (· ≤ reachBytes) = true) (ht : ts[j]? = some 32) (hdj : ds[j]? = some d) :
  ∃ (a b : Nat) (c : Bool), v = .agg #[.int .u16 (a : Int), .int .u16 (b : Int), .bool c] ∧ a < 65536 ∧ b < 65536 := by
 obtain ⟨cs, rfl, _⟩ := okWide_struct Tryd.underlying32 hval
 obtain ⟨⟨a, b, c⟩, h1, h2⟩ := see_arg reader_pieces hd hz ht hdj
 refine ⟨a, b, c, ?_, h2⟩
 simp only [Value.cells] at h1
 congr 1
 apply Array.ext'
 rw [h1]
end Go.PH
end

/- The walks of the reference's One and Scan of records. -/
import Derived.Test.YtcfdgndigmcacaaDoorRcScan
import Derived.Test.YtcfdgndigmcacaaDoorCrcWalk3
import Derived.Test.YtcfdgndigmcacaaDoorOctRef
namespace Go.PH
open Go.RowKit Go.Proofs

theorem results_cell_tmp2 {fn : Func} {p u v : Tmp} {ty : TypeId} (h : fn.results = #[.cell p ty, .tmp u, .tmp v]) (tmps : Array Value) (P : Program) (w : World) :
    (results fn tmps).run P w =
      ((asAddr (tmps.getD p undef)).run P w).andThen fun a w₁ => ((loadVar ty a).run P w₁).andThen fun x w₂ => .ok (.tuple #[x, tmps.getD u undef, tmps.getD v undef]) w₂ := by
  simp only [results, h]
  simp [Sem.run_bind, Result.andThen]
/-- a function's end whose first result of three lies in a box -/
theorem ret_box_tmp2 {P : Program} {fn : Func} {R : Ending → World → Prop} {a : Act} {w : World} {g : Nat} {t ty : TypeId} {cs : Array Value} {p u u2 : Tmp} {v v2 : Value} {d : TypeDesc} (hres : fn.results = #[.cell p ty, .tmp u, .tmp u2]) (hb : Box w g t cs)
    (hp : a.tmps.getD p undef = .pointer (some ⟨g, 0, none⟩)) (hv : a.tmps.getD u undef = v) (hv2 : a.tmps.getD u2 undef = v2) (hu : P.underlying ty = some d) (hd : (match d with | .struct _ | .array _ _ => true | _ => false) = true) (hi : (P.info? ty).map (·.size) = some cs.size)
    (hdf : a.defers = []) (hR : R (.returned (.tuple #[.agg cs, v, v2])) w) : bodyPost P fn R .ret a w := by
  refine bodyPost_ret (v := .tuple #[.agg cs, v, v2]) ?_ hdf hR
  rw [results_cell_tmp2 hres, hp, hv, hv2]
  simp [asAddr, run_loadVar_row w g t ty cs (0, 0) d hb hu hd hi, Result.andThen]
theorem unbe_one (l : List UInt8) (h : 1 ≤ l.length) : unbe (l.take 1) = (l.getD 0 0).toNat := by
  match l, h with
  | x :: r, _ => simp [unbe]
set_option maxRecDepth 20000 in
set_option maxHeartbeats 4000000 in
theorem rone_any (rest : List UInt8) (w : World) (hn : rest.length ≤ 1000000000) :
    Calls Tryd.prog 23 #[.string (str rest)] w fun e w' => e = .returned (.tuple #[.agg (rcV (rcOne rest).1), .int .i64 ((rcOne rest).2.1 : Nat), .int .i64 ((rcOne rest).2.2 : Nat)]) ∧ Below w.heap.size w w' := by
  obtain ⟨R, hrl⟩ : ∃ R, rest.length = R := ⟨_, rfl⟩
  rw [hrl] at hn
  have hss : (str rest).size = R := by rw [str_size]; exact hrl
  have hB0 : Below w.heap.size w (w.alloc (.cells zr 33)) := (Below.refl _ _).alloc (Nat.le_refl _) _
  have hbx0 : Box (w.alloc (.cells zr 33)) w.heap.size 33 zr := Box.new _ _ _
  have hz0 : w.heap.size + 1 ≤ (w.alloc (.cells zr 33)).heap.size := hbx0.lt
  rw [zr_eq] at hB0 hbx0 hz0
  go_enter Tryd.func23, Tryd.ntmps23
  by_cases h0 : rest = []
  · have hq : (str rest).toList.isEmpty = true := by rw [h0, str_toList]; rfl
    have HF := Lib.hid (show rcOne rest = (⟨0, []⟩, 0, 0) by rw [h0]; rfl)
    clear h0 hss
    go_wp2_with (first | (with_reducible refine hold_append ?_) | (with_reducible refine hold_make ?_) | (with_reducible refine hold_copy ?_) | (with_reducible refine hold_slice ?_) | (with_reducible refine hold_conv (s := 9) (t := 31) ?_) | (with_reducible refine hold_store ?_))
    refine unhold (wp_box (v := .agg zr) (vs := zr.toList) rfl rfl rfl rfl hbx0 rfl (by kernel_rfl) (by decide) (by decide) zr rfl ?_)
    intro wz hbz hgz _
    have hBz := Below.grown hB0 hgz (Below.size hB0) (fun g hg => by injection hg with hg; omega)
    go_wp2_with (first | (with_reducible refine hold_append ?_) | (with_reducible refine hold_make ?_) | (with_reducible refine hold_copy ?_))
    (try simp only [Exit.inBlock, Exit.then])
    refine ret_box_tmp2 rfl hbz rfl rfl rfl Tryd.underlying33 rfl (by kernel_rfl) rfl ?_
    rw [HF.out]
    exact ⟨rfl, hBz⟩
  · have hq : (str rest).toList.isEmpty = false := by rw [str_toList]; simpa using h0
    by_cases h9 : R < 9
    · have hd9 : (R : Int) < 9 := by omega
      have HF := Lib.hid (rcOne_short h0 (by omega))
      clear h0
      go_wp2_with (first | (with_reducible refine hold_append ?_) | (with_reducible refine hold_make ?_) | (with_reducible refine hold_copy ?_) | (with_reducible refine hold_slice ?_) | (with_reducible refine hold_conv (s := 9) (t := 31) ?_) | (with_reducible refine hold_store ?_))
      refine unhold (wp_box (v := .agg zr) (vs := zr.toList) rfl rfl rfl rfl hbx0 rfl (by kernel_rfl) (by decide) (by decide) zr rfl ?_)
      intro wz hbz hgz _
      have hBz := Below.grown hB0 hgz (Below.size hB0) (fun g hg => by injection hg with hg; omega)
      go_wp2_with (first | (with_reducible refine hold_append ?_) | (with_reducible refine hold_make ?_) | (with_reducible refine hold_copy ?_))
      (try simp only [Exit.inBlock, Exit.then])
      refine ret_box_tmp2 rfl hbz rfl rfl rfl Tryd.underlying33 rfl (by kernel_rfl) rfl ?_
      rw [HF.out]
      exact ⟨rfl, hBz⟩
    · have hd9 : ¬ (R : Int) < 9 := by omega
      clear h0
      go_wp2_with (first | (with_reducible refine hold_append ?_) | (with_reducible refine hold_make ?_) | (with_reducible refine hold_copy ?_) | (with_reducible refine hold_slice ?_) | (with_reducible refine hold_conv (s := 9) (t := 31) ?_))
      refine unhold (wp_cutS Tryd.underlying9 rfl rfl rfl (l := rest) 0 9 (.inl ⟨rfl, rfl⟩) (.inr ⟨_, _, rfl, rfl⟩) (by omega) (by omega) ?_)
      rw [List.drop_zero]
      have hx9 : (rest.take 9).length = 9 := by rw [List.length_take]; omega
      have hxo : (rest.take 9).take 5 = rest.take 5 := by rw [List.take_take]; rfl
      go_wp2_with (first | (with_reducible refine hold_append ?_) | (with_reducible refine hold_make ?_) | (with_reducible refine hold_copy ?_) | (with_reducible refine hold_slice ?_) | (with_reducible refine hold_conv (s := 9) (t := 31) ?_))
      refine unhold (wp_s2b Tryd.underlying9 Tryd.underlying31 Tryd.underlying5 rfl rfl rfl (l := rest.take 9) (by omega) ?_)
      rw [hx9]
      intro c3 w3 hr3 hB3
      rw [show (w.alloc (.cells #[.int .u8 0, .string ⟨#[]⟩] 33)).heap.size = w.heap.size + 1 by simp] at hr3
      have hB4 := hB0.trans (hB3.mono (by omega))
      have hb3 := hbx0.below hB3
      have hz4 : w.heap.size + 1 ≤ w3.heap.size := hb3.lt
      have hop := ropen_any _ 9 c3 _ w3 hr3 (by omega)
      clear hB0 hB3 hbx0 hr3
      cases hopn : opens (rest.take 9)
      · have HF := Lib.hid (rcOne_head (b := rest) (by omega) hopn)
        rw [hopn] at hop
        clear hopn hss
        generalize (opn (rest.take 9)).length = m at *
        generalize opn (rest.take 9) = y at *
        go_wp2_with (first | (with_reducible refine hold_append ?_) | (with_reducible refine hold_make ?_) | (with_reducible refine hold_copy ?_))
        refine hop.mono ?_
        rintro e w4 ⟨A4, c4, rfl, _, hB5⟩
        have hB6 := hB4.trans (hB5.mono (by omega))
        have hb4 := hb3.below hB5
        go_wp2_with (first | (with_reducible refine hold_append ?_) | (with_reducible refine hold_make ?_) | (with_reducible refine hold_copy ?_) | (with_reducible refine hold_slice ?_) | (with_reducible refine hold_conv (s := 9) (t := 31) ?_) | (with_reducible refine hold_store ?_))
        refine unhold (wp_box (v := .agg zr) (vs := zr.toList) rfl rfl rfl rfl hb4 rfl (by kernel_rfl) (by decide) (by decide) zr rfl ?_)
        intro wz hbz hgz _
        have hBz := Below.grown hB6 hgz (Below.size hB6) (fun g hg => by injection hg with hg; omega)
        go_wp2_with (first | (with_reducible refine hold_append ?_) | (with_reducible refine hold_make ?_) | (with_reducible refine hold_copy ?_))
        (try simp only [Exit.inBlock, Exit.then])
        refine ret_box_tmp2 rfl hbz rfl rfl rfl Tryd.underlying33 rfl (by kernel_rfl) rfl ?_
        rw [HF.out]
        exact ⟨rfl, hBz⟩
      · have hopl : opn (rest.take 9) = rest.take 5 := by rw [opn_of hopn, hx9, hxo]
        have hl5 : (rest.take 5).length = 5 := by rw [List.length_take]; omega
        rw [hopn, hopl, hl5] at hop
        clear hxo hopl hx9
        have hN := rcN_eq rest
        have hNb : rcN rest < 4294967296 := rcN_lt rest (by omega)
        have HGR := rcOne_great (b := rest) (by omega) hopn
        have HTN := rcOne_torn (b := rest) (by omega) hopn
        have HDT := rcOne_data (b := rest) (by omega) hopn
        have HYE := rcOne_yes (b := rest) (by omega) hopn
        obtain ⟨x0, hx0⟩ : ∃ x0, x0 = (rest.getD 0 0).toNat := ⟨_, rfl⟩
        have h50 : unbe ((rest.take 5).take 1) = x0 := by
          rw [List.take_take, hx0]; exact unbe_one _ (by omega)
        rw [← hx0] at HYE
        have hx0b : x0 < 256 := by rw [hx0]; exact (rest.getD 0 0).toNat_lt
        clear hx0
        obtain ⟨N0, hN0⟩ : ∃ N0, N0 = rcN rest := ⟨_, rfl⟩
        rw [← hN0] at HGR HTN HDT HYE hNb hN
        clear hN0 hopn
        generalize rest.take 5 = hd at *
        have hm1 : mnum hd false 1 = (x0, hd.drop 1, false) := by
          refine (rnum_ok (x := 1) (by omega) (by omega)).trans ?_
          rw [h50]
        have hmn : mnum (hd.drop 1) false 4 = (N0, (hd.drop 1).drop 4, false) := by
          refine (rnum_ok (x := 4) (by omega) (by rw [List.length_drop]; omega)).trans ?_
          rw [hN, List.take_of_length_le (by rw [List.length_drop]; omega)]
        clear hN h50
        go_wp2_with (first | (with_reducible refine hold_append ?_) | (with_reducible refine hold_make ?_) | (with_reducible refine hold_copy ?_))
        refine hop.mono ?_
        rintro e w4 ⟨A4, c4, rfl, hoh, hB5⟩
        have hB6 := hB4.trans (hB5.mono (by omega))
        have hb4 := hb3.below hB5
        have hz6 : w.heap.size + 1 ≤ w4.heap.size := hb4.lt
        clear hop hB4 hb3
        go_wp2_with (first | (with_reducible refine hold_append ?_) | (with_reducible refine hold_make ?_) | (with_reducible refine hold_copy ?_))
        refine (qopen_any A4 5 c4 hd w4 hoh.rd (by omega)).mono ?_
        rintro e w5 ⟨rb, rfl, hrb, hQ, hB7⟩
        have hB8 := hB6.trans (hB7.mono (by omega))
        have hb5 := hb4.below hB7
        have hz8 : w.heap.size + 1 ≤ w5.heap.size := hb5.lt
        have hvw : ∀ g, some rb = some g → w.heap.size ≤ g := fun g hg => by injection hg with hg; omega
        have hrw : some w.heap.size ≠ some rb := by intro e; injection e with e; omega
        have hn1 := qnum_any hQ 1 (by omega) (by omega)
        rw [hm1] at hn1
        clear hm1 hoh hB6 hB7 hb4
        go_wp2_with (first | (with_reducible refine hold_append ?_) | (with_reducible refine hold_make ?_) | (with_reducible refine hold_copy ?_))
        refine hn1.mono ?_
        rintro e w6 ⟨rfl, hQ6, hg6⟩
        have hB9 := hB8.grown hg6 (by omega) hvw
        have hb6 := hb5.grown hg6 hrw
        have hz9 : w.heap.size + 1 ≤ w6.heap.size := hb6.lt
        have hn2 := qnum_any hQ6 4 (by omega) (by omega)
        rw [hmn] at hn2
        have hw1 : IntKind.i64.wrap (N0 : Int) = (N0 : Int) := IntWalk.i64_in _ ⟨by omega, by omega⟩
        clear hn1 hmn hB8 hQ hb5
        go_wp2_with (first | (with_reducible refine hold_append ?_) | (with_reducible refine hold_make ?_) | (with_reducible refine hold_copy ?_))
        refine hn2.mono ?_
        rintro e w7 ⟨rfl, _, hg7⟩
        have hB10 := hB9.grown hg7 (by omega) hvw
        have hb7 := hb6.grown hg7 hrw
        have hz10 : w.heap.size + 1 ≤ w7.heap.size := hb7.lt
        clear hn2 hB9 hQ6 hb6 hvw hrw hg6 hg7
        by_cases hgr : 65536 < N0
        · have hdg : (65536 : Int) < (N0 : Int) := by omega
          have HF := Lib.hid (HGR hgr)
          clear HGR HTN HDT HYE
          go_wp2_with (first | (with_reducible refine hold_append ?_) | (with_reducible refine hold_make ?_) | (with_reducible refine hold_copy ?_) | (with_reducible refine hold_slice ?_) | (with_reducible refine hold_conv (s := 9) (t := 31) ?_) | (with_reducible refine hold_store ?_))
          refine unhold (wp_box (v := .agg zr) (vs := zr.toList) rfl rfl rfl rfl hb7 rfl (by kernel_rfl) (by decide) (by decide) zr rfl ?_)
          intro wz hbz hgz _
          have hBz := Below.grown hB10 hgz (Below.size hB10) (fun g hg => by injection hg with hg; omega)
          go_wp2_with (first | (with_reducible refine hold_append ?_) | (with_reducible refine hold_make ?_) | (with_reducible refine hold_copy ?_))
          (try simp only [Exit.inBlock, Exit.then])
          refine ret_box_tmp2 rfl hbz rfl rfl rfl Tryd.underlying33 rfl (by kernel_rfl) rfl ?_
          rw [HF.out]
          exact ⟨rfl, hBz⟩
        · have hdg : ¬ (65536 : Int) < (N0 : Int) := by omega
          have HTN := HTN (by omega)
          have HDT := HDT (by omega)
          have HYE := HYE (by omega)
          obtain ⟨E, hE⟩ : ∃ E, E = N0 + 13 := ⟨_, rfl⟩
          have hw3 : IntKind.i64.wrap ((N0 : Int) + 13) = (E : Int) := by rw [IntWalk.i64_in _ ⟨by omega, by omega⟩]; omega
          by_cases htn : R < E
          · have hdt : (R : Int) < (E : Int) := by omega
            have HF := Lib.hid (HTN (by omega))
            clear HGR HTN HDT HYE hE
            go_wp2_with (first | (with_reducible refine hold_append ?_) | (with_reducible refine hold_make ?_) | (with_reducible refine hold_copy ?_) | (with_reducible refine hold_slice ?_) | (with_reducible refine hold_conv (s := 9) (t := 31) ?_) | (with_reducible refine hold_store ?_))
            refine unhold (wp_box (v := .agg zr) (vs := zr.toList) rfl rfl rfl rfl hb7 rfl (by kernel_rfl) (by decide) (by decide) zr rfl ?_)
            intro wz hbz hgz _
            have hBz := Below.grown hB10 hgz (Below.size hB10) (fun g hg => by injection hg with hg; omega)
            go_wp2_with (first | (with_reducible refine hold_append ?_) | (with_reducible refine hold_make ?_) | (with_reducible refine hold_copy ?_))
            (try simp only [Exit.inBlock, Exit.then])
            refine ret_box_tmp2 rfl hbz rfl rfl rfl Tryd.underlying33 rfl (by kernel_rfl) rfl ?_
            rw [HF.out]
            exact ⟨rfl, hBz⟩
          · have hdt : ¬ (R : Int) < (E : Int) := by omega
            have HDT := HDT (by omega)
            have HYE := HYE (by omega)
            have hE9 : 9 ≤ E := by omega
            obtain ⟨N4, hN4⟩ : ∃ N4, N4 = N0 + 4 := ⟨_, rfl⟩
            have hyl : ((rest.take E).drop 9).length = N4 := by rw [List.length_drop, List.length_take]; omega
            have hyo : ((rest.take E).drop 9).take N0 = (rest.drop 9).take N0 := by rw [List.drop_take, List.take_take, Nat.min_eq_left (by omega)]
            rw [← hE] at HDT HYE
            have hN40 : N4 - 4 = N0 := by omega
            have hN4b : N4 ≤ 65540 := by omega
            clear HGR HTN hE hN4
            go_wp2_with (first | (with_reducible refine hold_append ?_) | (with_reducible refine hold_make ?_) | (with_reducible refine hold_copy ?_) | (with_reducible refine hold_slice ?_) | (with_reducible refine hold_conv (s := 9) (t := 31) ?_))
            refine unhold (wp_cutS Tryd.underlying9 rfl rfl rfl (l := rest) 9 E (.inr ⟨_, _, rfl, rfl⟩) (.inr ⟨_, _, rfl, rfl⟩) hE9 (by omega) ?_)
            generalize (rest.take E).drop 9 = y at *
            go_wp2_with (first | (with_reducible refine hold_append ?_) | (with_reducible refine hold_make ?_) | (with_reducible refine hold_copy ?_) | (with_reducible refine hold_slice ?_) | (with_reducible refine hold_conv (s := 9) (t := 31) ?_))
            refine unhold (wp_s2b Tryd.underlying9 Tryd.underlying31 Tryd.underlying5 rfl rfl rfl (l := y) (by omega) ?_)
            rw [hyl]
            intro c8 w8 hr8 hB8
            have hB11 := hB10.trans (hB8.mono (by omega))
            have hb8 := hb7.below hB8
            have hz11 : w.heap.size + 1 ≤ w8.heap.size := hb8.lt
            have hop := ropen_any _ N4 c8 y w8 hr8 (by omega)
            clear hB10 hB8 hb7 hr8 hss
            cases hopn : opens y
            · have HF := Lib.hid (HDT hopn)
              rw [hopn] at hop
              clear hopn HDT HYE
              generalize (opn y).length = m at *
              generalize opn y = z at *
              go_wp2_with (first | (with_reducible refine hold_append ?_) | (with_reducible refine hold_make ?_) | (with_reducible refine hold_copy ?_))
              refine hop.mono ?_
              rintro e w9 ⟨A9, c9, rfl, _, hB9⟩
              have hB12 := hB11.trans (hB9.mono (by omega))
              have hb9 := hb8.below hB9
              go_wp2_with (first | (with_reducible refine hold_append ?_) | (with_reducible refine hold_make ?_) | (with_reducible refine hold_copy ?_) | (with_reducible refine hold_slice ?_) | (with_reducible refine hold_conv (s := 9) (t := 31) ?_) | (with_reducible refine hold_store ?_))
              refine unhold (wp_box (v := .agg zr) (vs := zr.toList) rfl rfl rfl rfl hb9 rfl (by kernel_rfl) (by decide) (by decide) zr rfl ?_)
              intro wz hbz hgz _
              have hBz := Below.grown hB12 hgz (Below.size hB12) (fun g hg => by injection hg with hg; omega)
              go_wp2_with (first | (with_reducible refine hold_append ?_) | (with_reducible refine hold_make ?_) | (with_reducible refine hold_copy ?_))
              (try simp only [Exit.inBlock, Exit.then])
              refine ret_box_tmp2 rfl hbz rfl rfl rfl Tryd.underlying33 rfl (by kernel_rfl) rfl ?_
              rw [HF.out]
              exact ⟨rfl, hBz⟩
            · have hopl : opn y = (rest.drop 9).take N0 := by rw [opn_of hopn, hyl, hN40, hyo]
              have HF := Lib.hid (HYE hopn)
              have hdl : ((rest.drop 9).take N0).length = N0 := by rw [← hyo, List.length_take]; omega
              rw [hopn, hopl, hdl] at hop
              clear hopn HDT HYE hyo hopl hdl
              generalize (rest.drop 9).take N0 = dt at *
              go_wp2_with (first | (with_reducible refine hold_append ?_) | (with_reducible refine hold_make ?_) | (with_reducible refine hold_copy ?_))
              refine hop.mono ?_
              rintro e w9 ⟨A9, c9, rfl, hod, hB9⟩
              have hB12 := hB11.trans (hB9.mono (by omega))
              have hb9 := hb8.below hB9
              have hz12 : w.heap.size + 1 ≤ w9.heap.size := hb9.lt
              have hst := run_strB (w := w9) hod.rd
              have hwk : IntKind.u8.wrap (x0 : Int) = (x0 : Int) := IntWalk.u8_in _ ⟨by omega, by omega⟩
              clear hop hB11 hb8 hB9
              rw [← zr_eq] at hb9
              go_wp2_with (first | (with_reducible refine hold_append ?_) | (with_reducible refine hold_make ?_) | (with_reducible refine hold_copy ?_) | (with_reducible refine hold_slice ?_) | (with_reducible refine hold_conv (s := 9) (t := 31) ?_) | (with_reducible refine hold_store ?_))
              refine unhold (wp_box (v := .agg #[.int .u8 (x0 : Int), .string (str dt)]) (vs := [.int .u8 (x0 : Int), .string (str dt)]) rfl rfl rfl rfl hb9 rfl (by kernel_rfl) (by simp [zr]) (by simp; exact ⟨rfl, rfl⟩) #[.int .u8 (x0 : Int), .string (str dt)] (by simp [zr]) ?_)
              intro wz hbz hgz _
              have hBz := Below.grown hB12 hgz (by omega) (fun g hg => by injection hg with hg; omega)
              go_wp2_with (first | (with_reducible refine hold_append ?_) | (with_reducible refine hold_make ?_) | (with_reducible refine hold_copy ?_))
              (try simp only [Exit.inBlock, Exit.then])
              refine ret_box_tmp2 rfl hbz rfl rfl rfl Tryd.underlying33 rfl (by kernel_rfl) rfl ?_
              rw [HF.out]
              exact ⟨rfl, hBz⟩
end Go.PH

/- The walk of Parse. -/
import Derived.Test.YtokfnonjmacpgaaDoorXdUnhex
set_option linter.all false
set_option linter.unusedSimpArgs false
set_option linter.unusedVariables false
namespace Go.PH
open Go.RowKit Go.Proofs

def xd0 : Xd := ⟨0, [], []⟩
def parseR (s : List UInt8) : Xd × Nat := match parseX s with
  | some x => (x, 0)
  | none => (xd0, 5)
def zx : Array Value := #[.int .u32 0, .string ⟨#[]⟩, .string ⟨#[]⟩]
theorem zx_eq : zx = #[.int .u32 0, .string ⟨#[]⟩, .string ⟨#[]⟩] := rfl
theorem parseX_no3 {s : List UInt8} (h : (dotsB s).length ≠ 3) : parseX s = none := by
  unfold parseX
  split
  · rename_i hd; rw [hd] at h; simp at h
  · rfl
theorem dots3 {s : List UInt8} (h : (dotsB s).length = 3) : ∃ a b c, dotsB s = [a, b, c] := by
  match dotsB s, h with
  | [a, b, c], _ => exact ⟨a, b, c, rfl⟩
theorem parse3_bad {a b c : List UInt8} (h : ∀ u, Lib.parseUintB 32 a ≠ .ok u) : parse3 a b c = none := by
  unfold parse3
  split
  · rename_i u hu; exact absurd hu (h u)
  · rfl
theorem join_le (l : List (List UInt8)) : ∀ p ∈ l, p.length ≤ (joinB l).length := by
  induction l with
  | nil => simp
  | cons a l ih =>
    intro p hp
    cases l with
    | nil => simp only [List.mem_singleton] at hp; rw [hp]; simp [joinB]
    | cons b r =>
      rw [joinB, List.length_append, List.length_cons]
      rcases List.mem_cons.1 hp with rfl | hp
      · omega
      · have := ih p hp; omega
theorem pairs_len : ∀ l : List UInt8, (pairsU l).length ≤ l.length
  | [] => by simp [pairsU]
  | [_] => by simp [pairsU]
  | a :: b :: r => by have := pairs_len r; simp [pairsU]; omega
theorem unhex_len (l : List UInt8) : (unhexR l).1.length ≤ l.length := by
  unfold unhexR
  split
  · exact pairs_len l
  · simp
set_option maxRecDepth 20000 in
set_option maxHeartbeats 4000000 in
theorem parse_any (l : List UInt8) (w : World) (hl : l.length < 4294967281) (he : XEnv w) :
    Calls Tryd.prog 11 #[.string (str l)] w fun e w' => e = .returned (.tuple #[.agg (xdV (parseR l).1), .int .i64 ((parseR l).2 : Nat)]) ∧ Below w.heap.size w w' := by
  have hB0 : Below w.heap.size w (w.alloc (.cells zx 24)) := (Below.refl _ _).alloc (Nat.le_refl _) _
  have hb0 : Box (w.alloc (.cells zx 24)) w.heap.size 24 zx := Box.new _ _ _
  obtain ⟨m, hm⟩ := (he.below hB0 he.lt hB0.size).mx
  have hsp := Tryd.strings_Split (str l) dotS m (w.alloc (.cells zx 24)) (by rw [str_size]; exact hl) hm (by decide)
  rw [split_cells] at hsp
  have hcd : Lib.countB (str l) dotS + 1 = (dotsB l).length := by rw [count_dots, dots_len]
  rw [hcd] at hsp
  have hb1 : Box ((w.alloc (.cells zx 24)).alloc (.cells ((dotsB l).map (fun p => Value.string (str p))).toArray 9)) (w.alloc (.cells zx 24)).heap.size 9 ((dotsB l).map (fun p => Value.string (str p))).toArray := Box.new _ _ _
  have hb01 := hb0.alloc (.cells ((dotsB l).map (fun p => Value.string (str p))).toArray 9)
  have hB1 := hB0.alloc hB0.size (.cells ((dotsB l).map (fun p => Value.string (str p))).toArray 9)
  have hsz : (w.alloc (.cells zx 24)).heap.size = w.heap.size + 1 := by simp
  rw [hsz] at hsp hb1
  have h8 := he.lt
  generalize (w.alloc (.cells zx 24)).alloc (.cells ((dotsB l).map (fun p => Value.string (str p))).toArray 9) = w1 at *
  have he1 := he.below hB1 h8 hB1.size
  rw [zx_eq] at hsp
  clear hm hcd hsz hB0 hb0
  by_cases h3 : (dotsB l).length = 3
  · obtain ⟨a, b, c, hd⟩ := dots3 h3
    have hjn := join_dots l
    have hjl := join_le (dotsB l)
    rw [hjn, hd] at hjl
    have la := hjl a (by simp)
    have lb := hjl b (by simp)
    have lc := hjl c (by simp)
    have hpx : parseX l = parse3 a b c := by unfold parseX; rw [hd]
    rw [h3] at hsp
    rw [hd] at hb1
    clear hjn hjl hd h3
    have hub := fun W => unhex_any b W (by omega)
    have huc := fun W => unhex_any c W (by omega)
    have k0 := hb1.cell (j := 0) rfl
    cases hpu : Lib.parseUintB 32 a with
    | ok u =>
      have hu := uint_lt hpu
      have hpw := Tryd.strconv_ParseUint_10_at32_ok (str a) (by rw [str_size]; omega) u hpu w1
      have hwu : IntKind.u32.wrap (u : Int) = (u : Int) := IntWalk.u32_in _ ⟨by omega, by omega⟩
      have hp3 : parse3 a b c = if Lib.decDigits u = a ∧ (unhexR b).2 = true ∧ (unhexR c).2 = true ∧ Xd.ok ⟨u, (unhexR b).1, (unhexR c).1⟩ = true then some ⟨u, (unhexR b).1, (unhexR c).1⟩ else none := by unfold parse3; rw [hpu]
      clear hpu
      have hgbl := unhex_len b
      have hgcl := unhex_len c
      go_enter Tryd.func11, Tryd.ntmps11
      go_wp2_with (first | (with_reducible refine hold_append ?_) | (with_reducible refine hold_make ?_) | (with_reducible refine hold_copy ?_))
      refine hsp.mono ?_
      rintro e wq ⟨rfl, hww⟩
      subst wq
      clear hsp
      go_wp2_with (first | (with_reducible refine hold_append ?_) | (with_reducible refine hold_make ?_) | (with_reducible refine hold_copy ?_))
      refine hpw.mono ?_
      rintro e w2 ⟨rfl, hww2⟩
      have hB2 : Below w1.heap.size w1 w2 := by
        rcases hww2 with rfl | rfl
        · exact Below.refl _ _
        · exact Lib.bytesWorld_below _ _ _
      clear hww2
      have hBa := hB1.trans (hB2.mono hB1.size)
      have hb2 := hb01.below hB2
      have hb3 := hb1.below hB2
      have k1 := hb3.cell (j := 1) rfl
      clear hpw hb1 hb01 hB1 hB2 k0
      go_wp2_with (first | (with_reducible refine hold_append ?_) | (with_reducible refine hold_make ?_) | (with_reducible refine hold_copy ?_))
      refine (hub _).mono ?_
      rintro e w3 ⟨rfl, hB3⟩
      have hBb := hBa.trans (hB3.mono hBa.size)
      have hb4 := hb2.below hB3
      have hb5 := hb3.below hB3
      have k2 := hb5.cell (j := 2) rfl
      clear hub hBa hB3 hb2 hb3 k1
      go_wp2_with (first | (with_reducible refine hold_append ?_) | (with_reducible refine hold_make ?_) | (with_reducible refine hold_copy ?_))
      refine (huc _).mono ?_
      rintro e w4 ⟨rfl, hB4⟩
      have hBc := hBb.trans (hB4.mono hBb.size)
      have hb6 := hb4.below hB4
      have hb7 := hb5.below hB4
      have hg64 := hb6.lt
      have hg74 := hb7.lt
      clear huc hBb hB4 hb4 hb5 k2
      generalize hgb : (unhexR b).1 = gb at *
      generalize hob : (unhexR b).2 = ob at *
      generalize hgc : (unhexR c).1 = gc at *
      generalize hoc : (unhexR c).2 = oc at *
      clear hgb hob hgc hoc
      have hbx := Box.new w4 zx 24
      have hb6a := hb6.alloc (.cells zx 24)
      have hb7a := hb7.alloc (.cells zx 24)
      have hBd := hBc.alloc hBc.size (.cells zx 24)
      obtain ⟨g2, hg2⟩ : ∃ g2, g2 = w4.heap.size := ⟨_, rfl⟩
      rw [← hg2] at hbx hg64 hg74
      rw [zx_eq] at hbx hb6a hb7a hBd
      go_wp2_with (first | (with_reducible refine hold_append ?_) | (with_reducible refine hold_make ?_) | (with_reducible refine hold_copy ?_) | (with_reducible refine hold_slice ?_) | (with_reducible refine hold_conv (s := 9) (t := 37) ?_) | (with_reducible refine hold_store ?_))
      rw [← hg2]
      refine unhold (wp_box (v := .agg #[.int .u32 (u : Int), .string (str gb), .string (str gc)]) (vs := [.int .u32 (u : Int), .string (str gb), .string (str gc)]) rfl rfl rfl rfl hbx rfl (by kernel_rfl) (by simp) (by simp; exact ⟨rfl, rfl, rfl⟩) #[.int .u32 (u : Int), .string (str gb), .string (str gc)] (by simp) ?_)
      intro w6 hbx6 hgw6 _
      have hB6 := Below.grown hBd hgw6 (Below.size hBd) (fun g hg => by injection hg with hg; have := hBc.size; omega)
      have hb6 : Box w6 w.heap.size 24 zx := hb6a.grown hgw6 (by intro e; injection e with e; omega)
      have hb7 := hb7a.grown hgw6 (by intro e; injection e with e; omega)
      clear hb6a hb7a hBd hBc hbx hgw6 hg64 hg74 hg2
      go_wp2_with (first | (with_reducible refine hold_append ?_) | (with_reducible refine hold_make ?_) | (with_reducible refine hold_copy ?_))
      cases ob
      · have HF := Lib.hid (show parseR l = (xd0, 5) by unfold parseR; rw [hpx, hp3, if_neg (by rintro ⟨_, h, _⟩; cases h)])
        clear hpx hp3
        go_quiet (fail)
        have hBq := below_drewN hB6 nq
        have hb0q : Box (w6.drewN nq) w.heap.size 24 zx := hb6
        generalize w6.drewN nq = w7 at *
        go_wp2_with (first | (with_reducible refine hold_append ?_) | (with_reducible refine hold_make ?_) | (with_reducible refine hold_copy ?_) | (with_reducible refine hold_slice ?_) | (with_reducible refine hold_conv (s := 9) (t := 37) ?_) | (with_reducible refine hold_store ?_))
        refine unhold (wp_box (v := .agg zx) (vs := zx.toList) rfl rfl rfl rfl hb0q rfl (by kernel_rfl) (by decide) (by decide) zx rfl ?_)
        intro wz hbz hgz _
        have hBz := Below.grown hBq hgz (Below.size hBq) (fun g hg => by injection hg with hg; omega)
        go_wp2_with (first | (with_reducible refine hold_append ?_) | (with_reducible refine hold_make ?_) | (with_reducible refine hold_copy ?_))
        (try simp only [Exit.inBlock, Exit.then])
        refine ret_box_tmp rfl hbz rfl rfl Tryd.underlying24 rfl (by kernel_rfl) rfl ?_
        rw [HF.out]
        exact ⟨rfl, hBz⟩
      · cases oc
        · have HF := Lib.hid (show parseR l = (xd0, 5) by unfold parseR; rw [hpx, hp3, if_neg (by rintro ⟨_, _, h, _⟩; cases h)])
          clear hpx hp3
          go_quiet (fail)
          have hBq := below_drewN hB6 nq
          have hb0q : Box (w6.drewN nq) w.heap.size 24 zx := hb6
          generalize w6.drewN nq = w7 at *
          go_wp2_with (first | (with_reducible refine hold_append ?_) | (with_reducible refine hold_make ?_) | (with_reducible refine hold_copy ?_) | (with_reducible refine hold_slice ?_) | (with_reducible refine hold_conv (s := 9) (t := 37) ?_) | (with_reducible refine hold_store ?_))
          refine unhold (wp_box (v := .agg zx) (vs := zx.toList) rfl rfl rfl rfl hb0q rfl (by kernel_rfl) (by decide) (by decide) zx rfl ?_)
          intro wz hbz hgz _
          have hBz := Below.grown hBq hgz (Below.size hBq) (fun g hg => by injection hg with hg; omega)
          go_wp2_with (first | (with_reducible refine hold_append ?_) | (with_reducible refine hold_make ?_) | (with_reducible refine hold_copy ?_))
          (try simp only [Exit.inBlock, Exit.then])
          refine ret_box_tmp rfl hbz rfl rfl Tryd.underlying24 rfl (by kernel_rfl) rfl ?_
          rw [HF.out]
          exact ⟨rfl, hBz⟩
        · have hS : (Box w6.drew (w.heap.size + 1) 9 ([a, b, c].map (fun p => Value.string (str p))).toArray ∧ Box w6.drew g2 24 #[.int .u32 (u : Int), .string (str gb), .string (str gc)]) ∧ Box w6.drew w.heap.size 24 zx ∧ Below w.heap.size w w6.drew := ⟨⟨hb7, hbx6⟩, hb6, below_drewN hB6 1⟩
          have hck := fun W => check_any ⟨u, gb, gc⟩ W ⟨hu, by simp only; omega, by simp only; omega⟩
          refine rg_start (fun wx : World => (Box wx (w.heap.size + 1) 9 ([a, b, c].map (fun p => Value.string (str p))).toArray ∧ Box wx g2 24 #[.int .u32 (u : Int), .string (str gb), .string (str gc)]) ∧ Box wx w.heap.size 24 zx ∧ Below w.heap.size w wx) (by kernel_rfl) ?_
          have hfm := fmtuint_any u w6.drew (by omega) (he.below hS.2.2 h8 hS.2.2.size)
          clear hB6 hb6 hb7 hbx6 he1
          generalize w6.drew = w7 at *
          refine rg_take 0 (v := ?_) rfl (by kernel_rfl) (by kernel_rfl) (by kernel_rfl) hS rfl ?_ ?_
          rotate_left
          · intro wS hSw; go_simp; (with_reducible rfl)
          simp only [List.getElem_toArray, List.getElem_cons_zero, Act.put, List.setIfInBounds_toArray, List.set_cons_zero, List.set_cons_succ]
          refine rg_take 1 (v := ?_) rfl (by kernel_rfl) (by kernel_rfl) (by kernel_rfl) hS rfl ?_ ?_
          rotate_left
          · intro wS hSw; go_simp; (with_reducible rfl)
          simp only [List.getElem_toArray, List.getElem_cons_succ, List.getElem_cons_zero, Act.put, List.setIfInBounds_toArray, List.set_cons_zero, List.set_cons_succ]
          refine rg_take 2 (v := ?_) rfl (by kernel_rfl) (by kernel_rfl) (by kernel_rfl) hS rfl ?_ ?_
          rotate_left
          · intro wS hSw; go_simp; (with_reducible rfl)
          simp only [List.getElem_toArray, List.getElem_cons_succ, List.getElem_cons_zero, Act.put, List.setIfInBounds_toArray, List.set_cons_zero, List.set_cons_succ]
          refine rg_take 3 (v := ?_) rfl (by kernel_rfl) (by kernel_rfl) (by kernel_rfl) hS rfl ?_ ?_
          rotate_left
          · intro wS hSw; go_simp; (with_reducible rfl)
          simp only [List.getElem_toArray, List.getElem_cons_succ, List.getElem_cons_zero, Act.put, List.setIfInBounds_toArray, List.set_cons_zero, List.set_cons_succ]
          refine rg_take 4 (v := ?_) rfl (by kernel_rfl) (by kernel_rfl) (by kernel_rfl) hS rfl ?_ ?_
          rotate_left
          · intro wS hSw; go_simp; (with_reducible rfl)
          simp only [List.getElem_toArray, List.getElem_cons_succ, List.getElem_cons_zero, Act.put, List.setIfInBounds_toArray, List.set_cons_zero, List.set_cons_succ]
          refine rg_take 5 (v := ?_) rfl (by kernel_rfl) (by kernel_rfl) (by kernel_rfl) hS rfl ?_ ?_
          rotate_left
          · intro wS hSw; go_simp; (with_reducible rfl)
          simp only [List.getElem_toArray, List.getElem_cons_succ, List.getElem_cons_zero, Act.put, List.setIfInBounds_toArray, List.set_cons_zero, List.set_cons_succ]
          refine rg_take 6 (v := ?_) rfl (by kernel_rfl) (by kernel_rfl) (by kernel_rfl) hS rfl ?_ ?_
          rotate_left
          · intro wS hSw; go_simp; (with_reducible rfl)
          simp only [List.getElem_toArray, List.getElem_cons_succ, List.getElem_cons_zero, Act.put, List.setIfInBounds_toArray, List.set_cons_zero, List.set_cons_succ]
          refine rg_take 7 (v := ?_) rfl (by kernel_rfl) (by kernel_rfl) (by kernel_rfl) hS rfl ?_ ?_
          rotate_left
          · intro wS hSw; go_simp; (with_reducible rfl)
          simp only [List.getElem_toArray, List.getElem_cons_succ, List.getElem_cons_zero, Act.put, List.setIfInBounds_toArray, List.set_cons_zero, List.set_cons_succ]
          refine rg_take 8 (v := ?_) rfl (by kernel_rfl) (by kernel_rfl) (by kernel_rfl) hS rfl ?_ ?_
          rotate_left
          · intro wS hSw; go_simp; (with_reducible rfl)
          simp only [List.getElem_toArray, List.getElem_cons_succ, List.getElem_cons_zero, Act.put, List.setIfInBounds_toArray, List.set_cons_zero, List.set_cons_succ]
          refine rg_take 9 (v := ?_) rfl (by kernel_rfl) (by kernel_rfl) (by kernel_rfl) hS rfl ?_ ?_
          rotate_left
          · intro wS hSw; go_simp; (with_reducible rfl)
          simp only [List.getElem_toArray, List.getElem_cons_succ, List.getElem_cons_zero, Act.put, List.setIfInBounds_toArray, List.set_cons_zero, List.set_cons_succ]
          refine rg_take 10 (v := ?_) rfl (by kernel_rfl) (by kernel_rfl) (by kernel_rfl) hS rfl ?_ ?_
          rotate_left
          · intro wS hSw; go_simp; (with_reducible rfl)
          simp only [List.getElem_toArray, List.getElem_cons_succ, List.getElem_cons_zero, Act.put, List.setIfInBounds_toArray, List.set_cons_zero, List.set_cons_succ]
          refine rg_take 11 (v := ?_) rfl (by kernel_rfl) (by kernel_rfl) (by kernel_rfl) hS rfl ?_ ?_
          rotate_left
          · intro wS hSw; go_simp; (with_reducible rfl)
          simp only [List.getElem_toArray, List.getElem_cons_succ, List.getElem_cons_zero, Act.put, List.setIfInBounds_toArray, List.set_cons_zero, List.set_cons_succ]
          refine rg_take 13 (v := ?_) rfl (by kernel_rfl) (by kernel_rfl) (by kernel_rfl) hS rfl ?_ ?_
          rotate_left
          · intro wS hSw; go_simp; (with_reducible rfl)
          simp only [List.getElem_toArray, List.getElem_cons_succ, List.getElem_cons_zero, Act.put, List.setIfInBounds_toArray, List.set_cons_zero, List.set_cons_succ]
          refine rg_take 14 (v := ?_) rfl (by kernel_rfl) (by kernel_rfl) (by kernel_rfl) hS rfl ?_ ?_
          rotate_left
          · intro wS hSw; go_simp; (with_reducible rfl)
          simp only [List.getElem_toArray, List.getElem_cons_succ, List.getElem_cons_zero, Act.put, List.setIfInBounds_toArray, List.set_cons_zero, List.set_cons_succ]
          refine rg_take 15 (v := ?_) rfl (by kernel_rfl) (by kernel_rfl) (by kernel_rfl) hS rfl ?_ ?_
          rotate_left
          · intro wS hSw; have k0 := hSw.1.1.cell (j := 0) rfl; go_simp; (with_reducible rfl)
          simp only [List.getElem_toArray, List.getElem_cons_succ, List.getElem_cons_zero, Act.put, List.setIfInBounds_toArray, List.set_cons_zero, List.set_cons_succ]
          refine rg_one 12 rfl (by kernel_rfl) rfl (fun K hK => ?_)
          go_simp
          refine hfm.mono ?_
          rintro e w8 ⟨rfl, hB8⟩
          have hS8 := And.intro (And.intro (hS.1.1.below hB8) (hS.1.2.below hB8)) (And.intro (hS.2.1.below hB8) (hS.2.2.trans (hB8.mono hS.2.2.size)))
          refine hK _ _ hS8 ?_; clear hK K
          by_cases hda : Lib.decDigits u = a
          · have q1 : ((str (Lib.decDigits u)).toList != (str a).toList) = false := by rw [hda]; simp
            have q2 : ((str (Lib.decDigits u)).toList == (str a).toList) = true := by rw [hda]; simp
            have HDA := Lib.hid hda
            generalize Lib.decDigits u = dd at *
            clear hda
            refine rg_take 16 (v := ?_) rfl (by kernel_rfl) (by kernel_rfl) (by kernel_rfl) hS8 rfl ?_ ?_
            rotate_left
            · intro wS hSw; go_simp; (with_reducible rfl)
            simp only [List.getElem_toArray, List.getElem_cons_succ, List.getElem_cons_zero, Act.put, List.setIfInBounds_toArray, List.set_cons_zero, List.set_cons_succ]
            refine rg_take 17 (v := ?_) rfl (by kernel_rfl) (by kernel_rfl) (by kernel_rfl) hS8 rfl ?_ ?_
            rotate_left
            · intro wS hSw; go_simp; (with_reducible rfl)
            simp only [List.getElem_toArray, List.getElem_cons_succ, List.getElem_cons_zero, Act.put, List.setIfInBounds_toArray, List.set_cons_zero, List.set_cons_succ]
            refine rg_take 18 (v := ?_) rfl (by kernel_rfl) (by kernel_rfl) (by kernel_rfl) hS8 rfl ?_ ?_
            rotate_left
            · intro wS hSw; go_simp; (with_reducible rfl)
            simp only [List.getElem_toArray, List.getElem_cons_succ, List.getElem_cons_zero, Act.put, List.setIfInBounds_toArray, List.set_cons_zero, List.set_cons_succ]
            refine rg_take 19 (v := ?_) rfl (by kernel_rfl) (by kernel_rfl) (by kernel_rfl) hS8 rfl ?_ ?_
            rotate_left
            · intro wS hSw; have k0 := hSw.1.2.cell (j := 0) rfl; have k1 := hSw.1.2.cell (j := 1) rfl; have k2 := hSw.1.2.cell (j := 2) rfl; go_simp; (with_reducible rfl)
            simp only [List.getElem_toArray, List.getElem_cons_succ, List.getElem_cons_zero, Act.put, List.setIfInBounds_toArray, List.set_cons_zero, List.set_cons_succ]
            refine rg_one 20 rfl (by kernel_rfl) rfl (fun K hK => ?_)
            go_simp
            cases hok : Xd.ok ⟨u, gb, gc⟩
            · have HF := Lib.hid (show parseR l = (xd0, 5) by unfold parseR; rw [hpx, hp3, if_neg (by rintro ⟨_, _, _, h⟩; rw [hok] at h; cases h)])
              rw [Xd.err_no hok] at hck
              clear hok hpx hp3
              refine (hck _).mono ?_
              rintro e w9 ⟨rfl, hB9⟩
              have hS9 := And.intro (And.intro (hS8.1.1.below hB9) (hS8.1.2.below hB9)) (And.intro (hS8.2.1.below hB9) (hS8.2.2.trans (hB9.mono hS8.2.2.size)))
              refine hK _ _ hS9 ?_; clear hK K
              refine rg_take 21 (v := ?_) rfl (by kernel_rfl) (by kernel_rfl) (by kernel_rfl) hS9 rfl ?_ ?_
              rotate_left
              · intro wS hSw; go_simp; (with_reducible rfl)
              simp only [List.getElem_toArray, List.getElem_cons_succ, List.getElem_cons_zero, Act.put, List.setIfInBounds_toArray, List.set_cons_zero, List.set_cons_succ]
              refine rg_take 22 (v := ?_) rfl (by kernel_rfl) (by kernel_rfl) (by kernel_rfl) hS9 rfl ?_ ?_
              rotate_left
              · intro wS hSw; go_simp; (with_reducible rfl)
              simp only [List.getElem_toArray, List.getElem_cons_succ, List.getElem_cons_zero, Act.put, List.setIfInBounds_toArray, List.set_cons_zero, List.set_cons_succ]
              refine rg_end (by kernel_rfl) ?_
              have hb0q := hS9.2.1
              have hBq := hS9.2.2
              go_wp2_with (first | (with_reducible refine hold_append ?_) | (with_reducible refine hold_make ?_) | (with_reducible refine hold_copy ?_) | (with_reducible refine hold_slice ?_) | (with_reducible refine hold_conv (s := 9) (t := 37) ?_) | (with_reducible refine hold_store ?_))
              refine unhold (wp_box (v := .agg zx) (vs := zx.toList) rfl rfl rfl rfl hb0q rfl (by kernel_rfl) (by decide) (by decide) zx rfl ?_)
              intro wz hbz hgz _
              have hBz := Below.grown hBq hgz (Below.size hBq) (fun g hg => by injection hg with hg; omega)
              go_wp2_with (first | (with_reducible refine hold_append ?_) | (with_reducible refine hold_make ?_) | (with_reducible refine hold_copy ?_))
              (try simp only [Exit.inBlock, Exit.then])
              refine ret_box_tmp rfl hbz rfl rfl Tryd.underlying24 rfl (by kernel_rfl) rfl ?_
              rw [HF.out]
              exact ⟨rfl, hBz⟩
            · have HF := Lib.hid (show parseR l = (⟨u, gb, gc⟩, 0) by unfold parseR; rw [hpx, hp3, if_pos ⟨HDA.out, rfl, rfl, hok⟩])
              rw [Xd.err_ok hok] at hck
              clear hok hpx hp3
              refine (hck _).mono ?_
              rintro e w9 ⟨rfl, hB9⟩
              have hS9 := And.intro (And.intro (hS8.1.1.below hB9) (hS8.1.2.below hB9)) (And.intro (hS8.2.1.below hB9) (hS8.2.2.trans (hB9.mono hS8.2.2.size)))
              refine hK _ _ hS9 ?_; clear hK K
              refine rg_take 21 (v := ?_) rfl (by kernel_rfl) (by kernel_rfl) (by kernel_rfl) hS9 rfl ?_ ?_
              rotate_left
              · intro wS hSw; go_simp; (with_reducible rfl)
              simp only [List.getElem_toArray, List.getElem_cons_succ, List.getElem_cons_zero, Act.put, List.setIfInBounds_toArray, List.set_cons_zero, List.set_cons_succ]
              refine rg_take 22 (v := ?_) rfl (by kernel_rfl) (by kernel_rfl) (by kernel_rfl) hS9 rfl ?_ ?_
              rotate_left
              · intro wS hSw; go_simp; (with_reducible rfl)
              simp only [List.getElem_toArray, List.getElem_cons_succ, List.getElem_cons_zero, Act.put, List.setIfInBounds_toArray, List.set_cons_zero, List.set_cons_succ]
              refine rg_end (by kernel_rfl) ?_
              have hb0q := hS9.2.1
              have hBq := hS9.2.2
              have k0 := hS9.1.2.cell (j := 0) rfl
              have k1 := hS9.1.2.cell (j := 1) rfl
              have k2 := hS9.1.2.cell (j := 2) rfl
              clear hS hS8 hS9
              go_wp2_with (first | (with_reducible refine hold_append ?_) | (with_reducible refine hold_make ?_) | (with_reducible refine hold_copy ?_) | (with_reducible refine hold_slice ?_) | (with_reducible refine hold_conv (s := 9) (t := 37) ?_) | (with_reducible refine hold_store ?_))
              refine unhold (wp_box (v := .agg #[.int .u32 (u : Int), .string (str gb), .string (str gc)]) (vs := [.int .u32 (u : Int), .string (str gb), .string (str gc)]) rfl rfl rfl rfl hb0q rfl (by kernel_rfl) (by simp [zx]) (by simp; exact ⟨rfl, rfl, rfl⟩) #[.int .u32 (u : Int), .string (str gb), .string (str gc)] (by simp [zx]) ?_)
              intro wz hbz hgz _
              have hBz := Below.grown hBq hgz (Below.size hBq) (fun g hg => by injection hg with hg; omega)
              go_wp2_with (first | (with_reducible refine hold_append ?_) | (with_reducible refine hold_make ?_) | (with_reducible refine hold_copy ?_))
              (try simp only [Exit.inBlock, Exit.then])
              refine ret_box_tmp rfl hbz rfl rfl Tryd.underlying24 rfl (by kernel_rfl) rfl ?_
              rw [HF.out]
              exact ⟨rfl, hBz⟩
          · have q2 := str_ne hda
            have q1 : ((str (Lib.decDigits u)).toList != (str a).toList) = true := by simp [bne, q2]
            have HF := Lib.hid (show parseR l = (xd0, 5) by unfold parseR; rw [hpx, hp3, if_neg (by rintro ⟨h, _⟩; exact hda h)])
            generalize Lib.decDigits u = dd at *
            clear hda hpx hp3
            refine rg_take 16 (v := ?_) rfl (by kernel_rfl) (by kernel_rfl) (by kernel_rfl) hS8 rfl ?_ ?_
            rotate_left
            · intro wS hSw; go_simp; (with_reducible rfl)
            simp only [List.getElem_toArray, List.getElem_cons_succ, List.getElem_cons_zero, Act.put, List.setIfInBounds_toArray, List.set_cons_zero, List.set_cons_succ]
            refine rg_take 17 (v := ?_) rfl (by kernel_rfl) (by kernel_rfl) (by kernel_rfl) hS8 rfl ?_ ?_
            rotate_left
            · intro wS hSw; go_simp; (with_reducible rfl)
            simp only [List.getElem_toArray, List.getElem_cons_succ, List.getElem_cons_zero, Act.put, List.setIfInBounds_toArray, List.set_cons_zero, List.set_cons_succ]
            refine rg_take 18 (v := ?_) rfl (by kernel_rfl) (by kernel_rfl) (by kernel_rfl) hS8 rfl ?_ ?_
            rotate_left
            · intro wS hSw; go_simp; (with_reducible rfl)
            simp only [List.getElem_toArray, List.getElem_cons_succ, List.getElem_cons_zero, Act.put, List.setIfInBounds_toArray, List.set_cons_zero, List.set_cons_succ]
            refine rg_pass 19 rfl (by kernel_rfl) (by kernel_rfl) (by kernel_rfl) hS8 rfl ?_
            simp only [List.getElem_toArray, List.getElem_cons_succ, List.getElem_cons_zero, Act.put, List.setIfInBounds_toArray, List.set_cons_zero, List.set_cons_succ]
            refine rg_pass 20 rfl (by kernel_rfl) (by kernel_rfl) (by kernel_rfl) hS8 rfl ?_
            simp only [List.getElem_toArray, List.getElem_cons_succ, List.getElem_cons_zero, Act.put, List.setIfInBounds_toArray, List.set_cons_zero, List.set_cons_succ]
            refine rg_pass 21 rfl (by kernel_rfl) (by kernel_rfl) (by kernel_rfl) hS8 rfl ?_
            simp only [List.getElem_toArray, List.getElem_cons_succ, List.getElem_cons_zero, Act.put, List.setIfInBounds_toArray, List.set_cons_zero, List.set_cons_succ]
            refine rg_take 22 (v := ?_) rfl (by kernel_rfl) (by kernel_rfl) (by kernel_rfl) hS8 rfl ?_ ?_
            rotate_left
            · intro wS hSw; go_simp; (with_reducible rfl)
            simp only [List.getElem_toArray, List.getElem_cons_succ, List.getElem_cons_zero, Act.put, List.setIfInBounds_toArray, List.set_cons_zero, List.set_cons_succ]
            refine rg_end (by kernel_rfl) ?_
            have hb0q := hS8.2.1
            have hBq := hS8.2.2
            go_wp2_with (first | (with_reducible refine hold_append ?_) | (with_reducible refine hold_make ?_) | (with_reducible refine hold_copy ?_) | (with_reducible refine hold_slice ?_) | (with_reducible refine hold_conv (s := 9) (t := 37) ?_) | (with_reducible refine hold_store ?_))
            refine unhold (wp_box (v := .agg zx) (vs := zx.toList) rfl rfl rfl rfl hb0q rfl (by kernel_rfl) (by decide) (by decide) zx rfl ?_)
            intro wz hbz hgz _
            have hBz := Below.grown hBq hgz (Below.size hBq) (fun g hg => by injection hg with hg; omega)
            go_wp2_with (first | (with_reducible refine hold_append ?_) | (with_reducible refine hold_make ?_) | (with_reducible refine hold_copy ?_))
            (try simp only [Exit.inBlock, Exit.then])
            refine ret_box_tmp rfl hbz rfl rfl Tryd.underlying24 rfl (by kernel_rfl) rfl ?_
            rw [HF.out]
            exact ⟨rfl, hBz⟩
    | «syntax» =>
      obtain ⟨tp, pv, hv⟩ := he1.syn
      have hpw := Tryd.strconv_ParseUint_10_at32_syntax_var (str a) (by rw [str_size]; omega) hpu tp pv w1 hv
      have HF := Lib.hid (show parseR l = (xd0, 5) by unfold parseR; rw [hpx, parse3_bad (fun u hu => by rw [hpu] at hu; cases hu)])
      have hwu : IntKind.u32.wrap 0 = 0 := by decide
      clear hpu hpx hv
      go_enter Tryd.func11, Tryd.ntmps11
      go_wp2_with (first | (with_reducible refine hold_append ?_) | (with_reducible refine hold_make ?_) | (with_reducible refine hold_copy ?_))
      refine hsp.mono ?_
      rintro e wq ⟨rfl, hww⟩
      subst wq
      clear hsp
      go_wp2_with (first | (with_reducible refine hold_append ?_) | (with_reducible refine hold_make ?_) | (with_reducible refine hold_copy ?_))
      refine hpw.mono ?_
      rintro e w2 ⟨Nn, rfl, _, _, hB2⟩
      have hBa := hB1.trans (hB2.mono hB1.size)
      have hb2 := hb01.below hB2
      have hb3 := hb1.below hB2
      have k1 := hb3.cell (j := 1) rfl
      clear hpw hb1 hb01 hB1 hB2 k0
      go_wp2_with (first | (with_reducible refine hold_append ?_) | (with_reducible refine hold_make ?_) | (with_reducible refine hold_copy ?_))
      refine (hub _).mono ?_
      rintro e w3 ⟨rfl, hB3⟩
      have hBb := hBa.trans (hB3.mono hBa.size)
      have hb4 := hb2.below hB3
      have hb5 := hb3.below hB3
      have k2 := hb5.cell (j := 2) rfl
      clear hub hBa hB3 hb2 hb3 k1
      go_wp2_with (first | (with_reducible refine hold_append ?_) | (with_reducible refine hold_make ?_) | (with_reducible refine hold_copy ?_))
      refine (huc _).mono ?_
      rintro e w4 ⟨rfl, hB4⟩
      have hBc := hBb.trans (hB4.mono hBb.size)
      have hb6 := hb4.below hB4
      have hb7 := hb5.below hB4
      have hg64 := hb6.lt
      have hg74 := hb7.lt
      clear huc hBb hB4 hb4 hb5 k2
      generalize hgb : (unhexR b).1 = gb at *
      generalize hob : (unhexR b).2 = ob at *
      generalize hgc : (unhexR c).1 = gc at *
      generalize hoc : (unhexR c).2 = oc at *
      clear hgb hob hgc hoc
      have hbx := Box.new w4 zx 24
      have hb6a := hb6.alloc (.cells zx 24)
      have hb7a := hb7.alloc (.cells zx 24)
      have hBd := hBc.alloc hBc.size (.cells zx 24)
      obtain ⟨g2, hg2⟩ : ∃ g2, g2 = w4.heap.size := ⟨_, rfl⟩
      rw [← hg2] at hbx hg64 hg74
      rw [zx_eq] at hbx hb6a hb7a hBd
      go_wp2_with (first | (with_reducible refine hold_append ?_) | (with_reducible refine hold_make ?_) | (with_reducible refine hold_copy ?_) | (with_reducible refine hold_slice ?_) | (with_reducible refine hold_conv (s := 9) (t := 37) ?_) | (with_reducible refine hold_store ?_))
      rw [← hg2]
      refine unhold (wp_box (v := .agg #[.int .u32 0, .string (str gb), .string (str gc)]) (vs := [.int .u32 0, .string (str gb), .string (str gc)]) rfl rfl rfl rfl hbx rfl (by kernel_rfl) (by simp) (by simp; exact ⟨rfl, rfl, rfl⟩) #[.int .u32 0, .string (str gb), .string (str gc)] (by simp) ?_)
      intro w6 hbx6 hgw6 _
      have hB6 := Below.grown hBd hgw6 (Below.size hBd) (fun g hg => by injection hg with hg; have := hBc.size; omega)
      have hb6 : Box w6 w.heap.size 24 zx := hb6a.grown hgw6 (by intro e; injection e with e; omega)
      have hb7 := hb7a.grown hgw6 (by intro e; injection e with e; omega)
      clear hb6a hb7a hBd hBc hbx hgw6 hg64 hg74 hg2
      go_wp2_with (first | (with_reducible refine hold_append ?_) | (with_reducible refine hold_make ?_) | (with_reducible refine hold_copy ?_))
      go_quiet (fail)
      have hBq := below_drewN hB6 nq
      have hb0q : Box (w6.drewN nq) w.heap.size 24 zx := hb6
      generalize w6.drewN nq = w7 at *
      go_wp2_with (first | (with_reducible refine hold_append ?_) | (with_reducible refine hold_make ?_) | (with_reducible refine hold_copy ?_) | (with_reducible refine hold_slice ?_) | (with_reducible refine hold_conv (s := 9) (t := 37) ?_) | (with_reducible refine hold_store ?_))
      refine unhold (wp_box (v := .agg zx) (vs := zx.toList) rfl rfl rfl rfl hb0q rfl (by kernel_rfl) (by decide) (by decide) zx rfl ?_)
      intro wz hbz hgz _
      have hBz := Below.grown hBq hgz (Below.size hBq) (fun g hg => by injection hg with hg; omega)
      go_wp2_with (first | (with_reducible refine hold_append ?_) | (with_reducible refine hold_make ?_) | (with_reducible refine hold_copy ?_))
      (try simp only [Exit.inBlock, Exit.then])
      refine ret_box_tmp rfl hbz rfl rfl Tryd.underlying24 rfl (by kernel_rfl) rfl ?_
      rw [HF.out]
      exact ⟨rfl, hBz⟩
    | range =>
      obtain ⟨tp, pv, hv⟩ := he1.rng
      have hpw := Tryd.strconv_ParseUint_10_at32_range_var (str a) (by rw [str_size]; omega) hpu tp pv w1 hv
      have HF := Lib.hid (show parseR l = (xd0, 5) by unfold parseR; rw [hpx, parse3_bad (fun u hu => by rw [hpu] at hu; cases hu)])
      have hwu : IntKind.u32.wrap 4294967295 = 4294967295 := by decide
      clear hpu hpx hv
      go_enter Tryd.func11, Tryd.ntmps11
      go_wp2_with (first | (with_reducible refine hold_append ?_) | (with_reducible refine hold_make ?_) | (with_reducible refine hold_copy ?_))
      refine hsp.mono ?_
      rintro e wq ⟨rfl, hww⟩
      subst wq
      clear hsp
      go_wp2_with (first | (with_reducible refine hold_append ?_) | (with_reducible refine hold_make ?_) | (with_reducible refine hold_copy ?_))
      refine hpw.mono ?_
      rintro e w2 ⟨Nn, rfl, _, _, hB2⟩
      have hBa := hB1.trans (hB2.mono hB1.size)
      have hb2 := hb01.below hB2
      have hb3 := hb1.below hB2
      have k1 := hb3.cell (j := 1) rfl
      clear hpw hb1 hb01 hB1 hB2 k0
      go_wp2_with (first | (with_reducible refine hold_append ?_) | (with_reducible refine hold_make ?_) | (with_reducible refine hold_copy ?_))
      refine (hub _).mono ?_
      rintro e w3 ⟨rfl, hB3⟩
      have hBb := hBa.trans (hB3.mono hBa.size)
      have hb4 := hb2.below hB3
      have hb5 := hb3.below hB3
      have k2 := hb5.cell (j := 2) rfl
      clear hub hBa hB3 hb2 hb3 k1
      go_wp2_with (first | (with_reducible refine hold_append ?_) | (with_reducible refine hold_make ?_) | (with_reducible refine hold_copy ?_))
      refine (huc _).mono ?_
      rintro e w4 ⟨rfl, hB4⟩
      have hBc := hBb.trans (hB4.mono hBb.size)
      have hb6 := hb4.below hB4
      have hb7 := hb5.below hB4
      have hg64 := hb6.lt
      have hg74 := hb7.lt
      clear huc hBb hB4 hb4 hb5 k2
      generalize hgb : (unhexR b).1 = gb at *
      generalize hob : (unhexR b).2 = ob at *
      generalize hgc : (unhexR c).1 = gc at *
      generalize hoc : (unhexR c).2 = oc at *
      clear hgb hob hgc hoc
      have hbx := Box.new w4 zx 24
      have hb6a := hb6.alloc (.cells zx 24)
      have hb7a := hb7.alloc (.cells zx 24)
      have hBd := hBc.alloc hBc.size (.cells zx 24)
      obtain ⟨g2, hg2⟩ : ∃ g2, g2 = w4.heap.size := ⟨_, rfl⟩
      rw [← hg2] at hbx hg64 hg74
      rw [zx_eq] at hbx hb6a hb7a hBd
      go_wp2_with (first | (with_reducible refine hold_append ?_) | (with_reducible refine hold_make ?_) | (with_reducible refine hold_copy ?_) | (with_reducible refine hold_slice ?_) | (with_reducible refine hold_conv (s := 9) (t := 37) ?_) | (with_reducible refine hold_store ?_))
      rw [← hg2]
      refine unhold (wp_box (v := .agg #[.int .u32 4294967295, .string (str gb), .string (str gc)]) (vs := [.int .u32 4294967295, .string (str gb), .string (str gc)]) rfl rfl rfl rfl hbx rfl (by kernel_rfl) (by simp) (by simp; exact ⟨rfl, rfl, rfl⟩) #[.int .u32 4294967295, .string (str gb), .string (str gc)] (by simp) ?_)
      intro w6 hbx6 hgw6 _
      have hB6 := Below.grown hBd hgw6 (Below.size hBd) (fun g hg => by injection hg with hg; have := hBc.size; omega)
      have hb6 : Box w6 w.heap.size 24 zx := hb6a.grown hgw6 (by intro e; injection e with e; omega)
      have hb7 := hb7a.grown hgw6 (by intro e; injection e with e; omega)
      clear hb6a hb7a hBd hBc hbx hgw6 hg64 hg74 hg2
      go_wp2_with (first | (with_reducible refine hold_append ?_) | (with_reducible refine hold_make ?_) | (with_reducible refine hold_copy ?_))
      go_quiet (fail)
      have hBq := below_drewN hB6 nq
      have hb0q : Box (w6.drewN nq) w.heap.size 24 zx := hb6
      generalize w6.drewN nq = w7 at *
      go_wp2_with (first | (with_reducible refine hold_append ?_) | (with_reducible refine hold_make ?_) | (with_reducible refine hold_copy ?_) | (with_reducible refine hold_slice ?_) | (with_reducible refine hold_conv (s := 9) (t := 37) ?_) | (with_reducible refine hold_store ?_))
      refine unhold (wp_box (v := .agg zx) (vs := zx.toList) rfl rfl rfl rfl hb0q rfl (by kernel_rfl) (by decide) (by decide) zx rfl ?_)
      intro wz hbz hgz _
      have hBz := Below.grown hBq hgz (Below.size hBq) (fun g hg => by injection hg with hg; omega)
      go_wp2_with (first | (with_reducible refine hold_append ?_) | (with_reducible refine hold_make ?_) | (with_reducible refine hold_copy ?_))
      (try simp only [Exit.inBlock, Exit.then])
      refine ret_box_tmp rfl hbz rfl rfl Tryd.underlying24 rfl (by kernel_rfl) rfl ?_
      rw [HF.out]
      exact ⟨rfl, hBz⟩
  · have HF := Lib.hid (show parseR l = (xd0, 5) by unfold parseR; rw [parseX_no3 h3])
    have hd : (((dotsB l).length : Int) != 3) = true := by simp; omega
    generalize (dotsB l).length = K at *
    clear hb1 h3
    go_enter Tryd.func11, Tryd.ntmps11
    go_wp2_with (first | (with_reducible refine hold_append ?_) | (with_reducible refine hold_make ?_) | (with_reducible refine hold_copy ?_))
    refine hsp.mono ?_
    rintro e w2 ⟨rfl, hww⟩
    subst w2
    clear hsp
    go_wp2_with (first | (with_reducible refine hold_append ?_) | (with_reducible refine hold_make ?_) | (with_reducible refine hold_copy ?_) | (with_reducible refine hold_slice ?_) | (with_reducible refine hold_conv (s := 9) (t := 37) ?_) | (with_reducible refine hold_store ?_))
    refine unhold (wp_box (v := .agg zx) (vs := zx.toList) rfl rfl rfl rfl hb01 rfl (by kernel_rfl) (by decide) (by decide) zx rfl ?_)
    intro wz hbz hgz _
    have hBz := Below.grown hB1 hgz (Below.size hB1) (fun g hg => by injection hg with hg; omega)
    go_wp2_with (first | (with_reducible refine hold_append ?_) | (with_reducible refine hold_make ?_) | (with_reducible refine hold_copy ?_))
    (try simp only [Exit.inBlock, Exit.then])
    refine ret_box_tmp rfl hbz rfl rfl Tryd.underlying24 rfl (by kernel_rfl) rfl ?_
    rw [HF.out]
    exact ⟨rfl, hBz⟩
end Go.PH

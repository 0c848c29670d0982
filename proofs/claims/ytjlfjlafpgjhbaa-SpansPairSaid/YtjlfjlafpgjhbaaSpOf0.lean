/- The walk of the reference's Of: what both have. -/
import Derived.Test.YtjlfjlafpgjhbaaSpOfBase
import Derived.Deep.QuietTactic
import Derived.BigQuiet
import Derived.Deep.RegionWith
namespace Go.PH
open Go.RowKit Go.Proofs
set_option maxRecDepth 20000 in
set_option maxHeartbeats 4000000 in
theorem of_any0 (A : Option Addr) (n c : Nat) (a : List Sp) (A' : Option Addr) (n' c' : Nat) (b : List Sp) (w : World) (hr : RdS w w.heap.size A n c a) (hb : spOK 4294967296 a) (hr' : RdS w w.heap.size A' n' c' b) (hb' : spOK 4294967296 b) (hn : n ≤ 100000) (hn' : n' ≤ 100000) :
    Calls Try.prog 31 #[.slice A n c, .slice A' n' c', .int .i64 0] w fun e w' => ∃ A2 c2, e = .returned (.slice A2 (spOf (fun x y => x && y) a b).length c2) ∧ OwnS w' w.heap.size A2 (spOf (fun x y => x && y) a b).length c2 (spOf (fun x y => x && y) a b) ∧ Below w.heap.size w w' := by
  have hl := hr.length
  have hl' := hr'.length
  go_enter Try.func31, Try.ntmps31
  go_wp2_with (first | (with_reducible refine hold_append ?_) | (with_reducible refine hold_make ?_) | (with_reducible refine hold_copy ?_))
  refine unhold (wp_app (base := w.heap.size) slS rfl rfl rfl rfl (Own.none_ w w.heap.size _ _) hr (spCells_one _) (by omega) (by simp [maxLen]; omega) (Nat.le_refl _) ?_)
  intro A1 c1 w1 ho1 hg1 _
  have hB1 : Below w.heap.size w w1 := (Below.refl _ _).grown hg1 (Nat.le_refl _) (by simp [blk])
  simp only [Nat.zero_add, List.nil_append] at ho1
  clear hg1
  go_wp2_with (first | (with_reducible refine hold_append ?_) | (with_reducible refine hold_make ?_) | (with_reducible refine hold_copy ?_))
  refine unhold (wp_app (base := w.heap.size) slS rfl rfl rfl rfl ho1 (hr'.below hB1) (spCells_one _) (by omega) (by simp [maxLen]; omega) hB1.size ?_)
  intro A2 c2 w2 ho2 hg2 _
  have hB2 : Below w.heap.size w w2 := hB1.grown hg2 hB1.size (fun g hg => (ho1.blk_lt hg).1)
  rw [← spCells_app] at ho2
  clear hg2 ho1
  have hab : spOK 4294967296 (a ++ b) := fun z hz => by
    rcases List.mem_append.1 hz with h | h
    · exact hb z h
    · exact hb' z h
  go_wp2_with (first | (with_reducible refine hold_append ?_) | (with_reducible refine hold_make ?_) | (with_reducible refine hold_copy ?_))
  refine (edges_any A2 (n + n') c2 (a ++ b) w2 ho2.rd hab (by omega)).mono ?_
  rintro e w3 ⟨Ae, ce, rfl, hoe3, hB3⟩
  rw [efold_edges] at hoe3 ⊢
  have hB13 := hB2.trans (hB3.mono hB2.size)
  have hoe3' : OwnU w3 w.heap.size Ae (edgesOf (a ++ b)).length ce (edgesOf (a ++ b)) := Own.base_le hoe3 hB2.size
  have HRI := Lib.hid (edgesOf_rising (a ++ b))
  have hebd := edges_bd hab
  have HOF : Hid (spOf (fun x y => x && y) a b = spOfGo (fun u => spIn a u && spIn b u) [] (edgesOf (a ++ b))) := Lib.hid rfl
  have hEl : (edgesOf (a ++ b)).length ≤ 4 * (n + n') := by
    have h1 := efold_len (a ++ b)
    rw [efold_edges] at h1
    simp only [List.length_append] at h1
    omega
  clear hoe3 ho2 hB1 hB2 hB3
  generalize edgesOf (a ++ b) = es at *
  obtain ⟨E, hE⟩ : ∃ E, E = es.length := ⟨_, rfl⟩
  rw [← hE] at hoe3' ⊢ hEl
  have HE := Lib.hid hE
  clear hE
  go_wp2_with (first | (with_reducible refine hold_append ?_) | (with_reducible refine hold_make ?_) | (with_reducible refine hold_copy ?_))
  go_loopw [10, 9] (fun s v wr => ∃ (i N c2 : Nat) (A2 : Option Addr) (out : List Sp), s = .int .i64 i ∧ v = .slice A2 N c2 ∧ out.length = N ∧ i ≤ E ∧ N ≤ i ∧ spOK 4294967296 out ∧ spOfGo (fun u => spIn a u && spIn b u) [] es = spOfGo (fun u => spIn a u && spIn b u) out (es.drop i) ∧ OwnS wr w.heap.size A2 N c2 out ∧ OwnU wr w.heap.size Ae E ce es ∧ (∀ g, blk A2 = some g → blk Ae ≠ some g) ∧ Below w.heap.size w wr) (fun s _ _ => E - (intOf s).toNat)
  case atStart => exact ⟨0, 0, 0, none, [], rfl, rfl, rfl, by omega, by omega, (fun z hz => by cases hz), rfl, Own.none_ _ _ _ _, hoe3', by simp [blk], hB13⟩
  case round =>
    clear hoe3' hB13
    obtain ⟨i, N, c2, A2, out, rfl, rfl, hol, hi, hNi, hobd, hgo, ho, hoe, hdis, hBr⟩ := hrel
    by_cases hlt : i + 1 < E
    · have hd0 : (i : Int) + 1 < (E : Int) := by omega
      have hd1 : (i : Int) < (E : Int) := by omega
      have hil : i + 1 < es.length := by have := HE.out; omega
      obtain ⟨eg, eoff, hAe, _, hk0, hce0⟩ := RdU.at_k hoe.rd (k := i) (by omega)
      obtain ⟨eg', eoff', hAe', _, hk1, hce1⟩ := RdU.at_k hoe.rd (k := i + 1) hlt
      obtain ⟨rfl, rfl⟩ : eg = eg' ∧ eoff = eoff' := by rw [hAe] at hAe'; simpa using hAe'
      have hxy := rising_next HRI.out hil
      have hxb := hebd _ (List.getElem_mem hk0)
      have hyb0 := hebd _ (List.getElem_mem hk1)
      have HN : Hid (spOfGo (fun u => spIn a u && spIn b u) [] es = spOfGo (fun u => spIn a u && spIn b u) (if spIn a es[i] && spIn b es[i] then spPush out es[i] es[i + 1] else out) (es.drop (i + 1))) := Lib.hid (by rw [hgo, ofgo_next hil])
      clear hgo hAe'
      generalize es[i] = ex at *
      generalize es[i + 1] = ey at *
      have hina := fun W hBW => in_any A n c a ex w.heap.size W (Rd.below hr hBW) hb (by omega) (Below.size hBW) (by omega)
      have hinb := fun W hBW => in_any A' n' c' b ex w.heap.size W (Rd.below hr' hBW) hb' (by omega) (Below.size hBW) (by omega)
      subst hAe
      cases hxa' : spIn a ex <;> cases hyb' : spIn b ex
      · skip
        have hxa := Lib.hid hxa'
        have hyb := Lib.hid hyb'
        rw [hxa'] at hina
        rw [hyb'] at hinb
        clear hxa' hyb'
        go_wp2_with (first | (with_reducible refine hold_append ?_) | (with_reducible refine hold_make ?_) | (with_reducible refine hold_copy ?_))
        go_quiet (first | (go_at_call_of 32 (Value.slice A n c); exact Calls.quiet_of_same (hina _ (below_drewN hBr _))) | (go_at_call_of 32 (Value.slice A' n' c'); exact Calls.quiet_of_same (hinb _ (below_drewN hBr _))))
        have hoz : OwnS (wr.drewN nq) w.heap.size A2 N c2 out := ho
        have hez : OwnU (wr.drewN nq) w.heap.size (some ⟨eg, eoff, none⟩) E ce es := hoe
        have hBz : Below w.heap.size w (wr.drewN nq) := below_drewN hBr nq
        have hcz0 : (wr.drewN nq).cell? ⟨eg, eoff + i, none⟩ = some (.int .u64 (ex : Int)) := hce0
        have hcz1 : (wr.drewN nq).cell? ⟨eg, eoff + (i + 1), none⟩ = some (.int .u64 (ey : Int)) := hce1
        clear ho hoe hBr hce0 hce1 hina hinb
        generalize wr.drewN nq = wz at *
        have ho := hoz
        have hoe := hez
        have hBr := hBz
        have hce0 := hcz0
        have hce1 := hcz1
        clear hoz hez hBz hcz0 hcz1
        clear nq
        have hN2 : Hid (spOfGo (fun u => spIn a u && spIn b u) [] es = spOfGo (fun u => spIn a u && spIn b u) out (es.drop (i + 1))) := Lib.hid (by
          have h := HN.out
          rw [if_neg (by rw [hxa.out, hyb.out]; decide)] at h
          exact h)
        clear HN
        go_wp2_with (first | (with_reducible refine hold_append ?_) | (with_reducible refine hold_make ?_) | (with_reducible refine hold_copy ?_))
        exact ⟨⟨i + 1, N, c2, A2, out, by go_num, rfl, hol, by omega, by omega, hobd, hN2.out, ho, hoe, hdis, hBr⟩, by simp [intOf]; omega⟩
      · skip
        have hxa := Lib.hid hxa'
        have hyb := Lib.hid hyb'
        rw [hxa'] at hina
        rw [hyb'] at hinb
        clear hxa' hyb'
        go_wp2_with (first | (with_reducible refine hold_append ?_) | (with_reducible refine hold_make ?_) | (with_reducible refine hold_copy ?_))
        go_quiet (first | (go_at_call_of 32 (Value.slice A n c); exact Calls.quiet_of_same (hina _ (below_drewN hBr _))) | (go_at_call_of 32 (Value.slice A' n' c'); exact Calls.quiet_of_same (hinb _ (below_drewN hBr _))))
        have hoz : OwnS (wr.drewN nq) w.heap.size A2 N c2 out := ho
        have hez : OwnU (wr.drewN nq) w.heap.size (some ⟨eg, eoff, none⟩) E ce es := hoe
        have hBz : Below w.heap.size w (wr.drewN nq) := below_drewN hBr nq
        have hcz0 : (wr.drewN nq).cell? ⟨eg, eoff + i, none⟩ = some (.int .u64 (ex : Int)) := hce0
        have hcz1 : (wr.drewN nq).cell? ⟨eg, eoff + (i + 1), none⟩ = some (.int .u64 (ey : Int)) := hce1
        clear ho hoe hBr hce0 hce1 hina hinb
        generalize wr.drewN nq = wz at *
        have ho := hoz
        have hoe := hez
        have hBr := hBz
        have hce0 := hcz0
        have hce1 := hcz1
        clear hoz hez hBz hcz0 hcz1
        clear nq
        have hN2 : Hid (spOfGo (fun u => spIn a u && spIn b u) [] es = spOfGo (fun u => spIn a u && spIn b u) out (es.drop (i + 1))) := Lib.hid (by
          have h := HN.out
          rw [if_neg (by rw [hxa.out, hyb.out]; decide)] at h
          exact h)
        clear HN
        go_wp2_with (first | (with_reducible refine hold_append ?_) | (with_reducible refine hold_make ?_) | (with_reducible refine hold_copy ?_))
        exact ⟨⟨i + 1, N, c2, A2, out, by go_num, rfl, hol, by omega, by omega, hobd, hN2.out, ho, hoe, hdis, hBr⟩, by simp [intOf]; omega⟩
      · skip
        have hxa := Lib.hid hxa'
        have hyb := Lib.hid hyb'
        rw [hxa'] at hina
        rw [hyb'] at hinb
        clear hxa' hyb'
        go_wp2_with (first | (with_reducible refine hold_append ?_) | (with_reducible refine hold_make ?_) | (with_reducible refine hold_copy ?_))
        go_quiet (first | (go_at_call_of 32 (Value.slice A n c); exact Calls.quiet_of_same (hina _ (below_drewN hBr _))) | (go_at_call_of 32 (Value.slice A' n' c'); exact Calls.quiet_of_same (hinb _ (below_drewN hBr _))))
        have hoz : OwnS (wr.drewN nq) w.heap.size A2 N c2 out := ho
        have hez : OwnU (wr.drewN nq) w.heap.size (some ⟨eg, eoff, none⟩) E ce es := hoe
        have hBz : Below w.heap.size w (wr.drewN nq) := below_drewN hBr nq
        have hcz0 : (wr.drewN nq).cell? ⟨eg, eoff + i, none⟩ = some (.int .u64 (ex : Int)) := hce0
        have hcz1 : (wr.drewN nq).cell? ⟨eg, eoff + (i + 1), none⟩ = some (.int .u64 (ey : Int)) := hce1
        clear ho hoe hBr hce0 hce1 hina hinb
        generalize wr.drewN nq = wz at *
        have ho := hoz
        have hoe := hez
        have hBr := hBz
        have hce0 := hcz0
        have hce1 := hcz1
        clear hoz hez hBz hcz0 hcz1
        clear nq
        have hN2 : Hid (spOfGo (fun u => spIn a u && spIn b u) [] es = spOfGo (fun u => spIn a u && spIn b u) out (es.drop (i + 1))) := Lib.hid (by
          have h := HN.out
          rw [if_neg (by rw [hxa.out, hyb.out]; decide)] at h
          exact h)
        clear HN
        go_wp2_with (first | (with_reducible refine hold_append ?_) | (with_reducible refine hold_make ?_) | (with_reducible refine hold_copy ?_))
        exact ⟨⟨i + 1, N, c2, A2, out, by go_num, rfl, hol, by omega, by omega, hobd, hN2.out, ho, hoe, hdis, hBr⟩, by simp [intOf]; omega⟩
      · skip
        have hxa := Lib.hid hxa'
        have hyb := Lib.hid hyb'
        rw [hxa'] at hina
        rw [hyb'] at hinb
        clear hxa' hyb'
        go_wp2_with (first | (with_reducible refine hold_append ?_) | (with_reducible refine hold_make ?_) | (with_reducible refine hold_copy ?_))
        go_quiet (first | (go_at_call_of 32 (Value.slice A n c); exact Calls.quiet_of_same (hina _ (below_drewN hBr _))) | (go_at_call_of 32 (Value.slice A' n' c'); exact Calls.quiet_of_same (hinb _ (below_drewN hBr _))))
        have hoz : OwnS (wr.drewN nq) w.heap.size A2 N c2 out := ho
        have hez : OwnU (wr.drewN nq) w.heap.size (some ⟨eg, eoff, none⟩) E ce es := hoe
        have hBz : Below w.heap.size w (wr.drewN nq) := below_drewN hBr nq
        have hcz0 : (wr.drewN nq).cell? ⟨eg, eoff + i, none⟩ = some (.int .u64 (ex : Int)) := hce0
        have hcz1 : (wr.drewN nq).cell? ⟨eg, eoff + (i + 1), none⟩ = some (.int .u64 (ey : Int)) := hce1
        clear ho hoe hBr hce0 hce1 hina hinb
        generalize wr.drewN nq = wz at *
        have ho := hoz
        have hoe := hez
        have hBr := hBz
        have hce0 := hcz0
        have hce1 := hcz1
        clear hoz hez hBz hcz0 hcz1
        clear nq
        have hN2 : Hid (spOfGo (fun u => spIn a u && spIn b u) [] es = spOfGo (fun u => spIn a u && spIn b u) (spPush out ex ey) (es.drop (i + 1))) := Lib.hid (by
          have h := HN.out
          rw [if_pos (by rw [hxa.out, hyb.out]; rfl)] at h
          exact h)
        clear HN
        obtain ⟨i1, hi1⟩ : ∃ i1, i1 = i + 1 := ⟨_, rfl⟩
        rw [← hi1] at hce1
        have hwi : IntKind.i64.wrap ((i : Int) + 1) = (i1 : Int) := by rw [IntWalk.i64_in _ ⟨by omega, by omega⟩]; omega
        have hdi1 : (i1 : Int) < (E : Int) := by omega
        have HI1 := Lib.hid hi1
        clear hi1
        rcases Nat.eq_zero_or_pos N with hN0 | hN0
        · have hk0 : IntKind.i64.wrap ((N : Int) - 1) = -1 := by rw [IntWalk.i64_in _ ⟨by omega, by omega⟩]; omega
          have hpush : Hid (spPush out ex ey = out ++ [(ex, ey - 1)]) := Lib.hid (by rw [List.eq_nil_of_length_eq_zero (by omega : out.length = 0)]; exact push_none)
          clear hN0
          go_wp2_with (first | (with_reducible refine hold_append ?_) | (with_reducible refine hold_make ?_) | (with_reducible refine hold_copy ?_))
          go_quiet (fail)
          have ho' : OwnS (wz.drewN nq) w.heap.size A2 N c2 out := ho
          have he' : OwnU (wz.drewN nq) w.heap.size (some ⟨eg, eoff, none⟩) E ce es := hoe
          have hB' : Below w.heap.size w (wz.drewN nq) := below_drewN hBr nq
          have hS9 : (wz.drewN nq).cell? ⟨eg, eoff + i, none⟩ = some (.int .u64 (ex : Int)) ∧ (wz.drewN nq).cell? ⟨eg, eoff + i1, none⟩ = some (.int .u64 (ey : Int)) := ⟨hce0, hce1⟩
          clear ho hoe hBr hce0 hce1
          generalize wz.drewN nq = wq at *
          go_wp2_with (first | (with_reducible refine hold_append ?_) | (with_reducible refine hold_make ?_) | (with_reducible refine hold_copy ?_))
          have hex2 : IntKind.u32.wrap ((ex : Nat) : Int) = (ex : Int) := IntWalk.u32_in _ ⟨by omega, by omega⟩
          have hey : IntKind.u64.wrap ((ey : Int) - 1) = ((ey - 1 : Nat) : Int) := by rw [IntWalk.u64_in _ ⟨by omega, by omega⟩]; omega
          have hey2 : IntKind.u32.wrap ((ey - 1 : Nat) : Int) = ((ey - 1 : Nat) : Int) := IntWalk.u32_in _ ⟨by omega, by omega⟩
          have hob2 : spOK 4294967296 (out ++ [(ex, ey - 1)]) := fun z hz => by
            rcases List.mem_append.1 hz with h | h
            · exact hobd z h
            · obtain rfl := List.mem_singleton.1 h
              exact ⟨by show ex < _; omega, by show ey - 1 < _; omega⟩
          have hegq : eg < wq.heap.size := World.block_lt_of_cell? wq _ hS9.1
          have hneq : some eg = blk A2 → False := fun e => hdis eg e.symm rfl
          have hkeep : ∀ w4 : World, wq.grownBy w4 (blk A2) → (fun wx => wx.cell? ⟨eg, eoff + i, none⟩ = some (.int .u64 (ex : Int)) ∧ wx.cell? ⟨eg, eoff + i1, none⟩ = some (.int .u64 (ey : Int))) w4 := fun w4 hg => ⟨hg.cell hS9.1 hneq, hg.cell hS9.2 hneq⟩
          have hS : (fun wx => wx.cell? ⟨eg, eoff + i, none⟩ = some (.int .u64 (ex : Int)) ∧ wx.cell? ⟨eg, eoff + i1, none⟩ = some (.int .u64 (ey : Int))) wq.drew := hS9
          simp only at hS
          refine rg_start (fun wx => wx.cell? ⟨eg, eoff + i, none⟩ = some (.int .u64 (ex : Int)) ∧ wx.cell? ⟨eg, eoff + i1, none⟩ = some (.int .u64 (ey : Int))) (by kernel_rfl) ?_
          refine rg_take 0 (v := ?_) rfl (by kernel_rfl) (by kernel_rfl) (by kernel_rfl) hS rfl ?_ ?_
          rotate_left
          · intro wS hSw; go_simp; (with_reducible rfl)
          simp only [List.getElem_toArray, List.getElem_cons_zero, Act.put, List.setIfInBounds_toArray, List.set_cons_zero, List.set_cons_succ]
          refine rg_take 1 (v := ?_) rfl (by kernel_rfl) (by kernel_rfl) (by kernel_rfl) hS rfl ?_ ?_
          rotate_left
          · intro wS hSw; go_simp; (with_reducible rfl)
          simp only [List.getElem_toArray, List.getElem_cons_succ, List.getElem_cons_zero, Act.put, List.setIfInBounds_toArray, List.set_cons_zero, List.set_cons_succ]
          refine rg_take 2 (v := ?_) rfl (by kernel_rfl) (by kernel_rfl) (by kernel_rfl) hS rfl ?_ ?_
          rotate_left
          · intro wS hSw; go_simp; (with_reducible rfl)
          simp only [List.getElem_toArray, List.getElem_cons_succ, List.getElem_cons_zero, Act.put, List.setIfInBounds_toArray, List.set_cons_zero, List.set_cons_succ]
          refine rg_take 3 (v := ?_) rfl (by kernel_rfl) (by kernel_rfl) (by kernel_rfl) hS rfl ?_ ?_
          rotate_left
          · intro wS hSw; go_simp; (with_reducible rfl)
          simp only [List.getElem_toArray, List.getElem_cons_succ, List.getElem_cons_zero, Act.put, List.setIfInBounds_toArray, List.set_cons_zero, List.set_cons_succ]
          refine rg_take 4 (v := ?_) rfl (by kernel_rfl) (by kernel_rfl) (by kernel_rfl) hS rfl ?_ ?_
          rotate_left
          · intro wS hSw; go_simp; (with_reducible rfl)
          simp only [List.getElem_toArray, List.getElem_cons_succ, List.getElem_cons_zero, Act.put, List.setIfInBounds_toArray, List.set_cons_zero, List.set_cons_succ]
          refine rg_take 5 (v := ?_) rfl (by kernel_rfl) (by kernel_rfl) (by kernel_rfl) hS rfl ?_ ?_
          rotate_left
          · intro wS hSw; go_simp; (with_reducible rfl)
          simp only [List.getElem_toArray, List.getElem_cons_succ, List.getElem_cons_zero, Act.put, List.setIfInBounds_toArray, List.set_cons_zero, List.set_cons_succ]
          refine rg_take 6 (v := ?_) rfl (by kernel_rfl) (by kernel_rfl) (by kernel_rfl) hS rfl ?_ ?_
          rotate_left
          · intro wS hSw; go_simp; (with_reducible rfl)
          simp only [List.getElem_toArray, List.getElem_cons_succ, List.getElem_cons_zero, Act.put, List.setIfInBounds_toArray, List.set_cons_zero, List.set_cons_succ]
          refine rg_take 7 (v := ?_) rfl (by kernel_rfl) (by kernel_rfl) (by kernel_rfl) hS rfl ?_ ?_
          rotate_left
          · intro wS hSw; go_simp; (with_reducible rfl)
          simp only [List.getElem_toArray, List.getElem_cons_succ, List.getElem_cons_zero, Act.put, List.setIfInBounds_toArray, List.set_cons_zero, List.set_cons_succ]
          refine rg_take 8 (v := ?_) rfl (by kernel_rfl) (by kernel_rfl) (by kernel_rfl) hS rfl ?_ ?_
          rotate_left
          · intro wS hSw; go_simp; (with_reducible rfl)
          simp only [List.getElem_toArray, List.getElem_cons_succ, List.getElem_cons_zero, Act.put, List.setIfInBounds_toArray, List.set_cons_zero, List.set_cons_succ]
          refine rg_take 9 (v := ?_) rfl (by kernel_rfl) (by kernel_rfl) (by kernel_rfl) hS rfl ?_ ?_
          rotate_left
          · intro wS hSw; go_simp; (with_reducible rfl)
          simp only [List.getElem_toArray, List.getElem_cons_succ, List.getElem_cons_zero, Act.put, List.setIfInBounds_toArray, List.set_cons_zero, List.set_cons_succ]
          refine rg_take 10 (v := ?_) rfl (by kernel_rfl) (by kernel_rfl) (by kernel_rfl) hS rfl ?_ ?_
          rotate_left
          · intro wS hSw; go_simp; (with_reducible rfl)
          simp only [List.getElem_toArray, List.getElem_cons_succ, List.getElem_cons_zero, Act.put, List.setIfInBounds_toArray, List.set_cons_zero, List.set_cons_succ]
          refine rg_take 11 (v := ?_) rfl (by kernel_rfl) (by kernel_rfl) (by kernel_rfl) hS rfl ?_ ?_
          rotate_left
          · intro wS hSw; go_simp; (with_reducible rfl)
          simp only [List.getElem_toArray, List.getElem_cons_succ, List.getElem_cons_zero, Act.put, List.setIfInBounds_toArray, List.set_cons_zero, List.set_cons_succ]
          refine rg_take 12 (v := ?_) rfl (by kernel_rfl) (by kernel_rfl) (by kernel_rfl) hS rfl ?_ ?_
          rotate_left
          · intro wS hSw; go_simp; (with_reducible rfl)
          simp only [List.getElem_toArray, List.getElem_cons_succ, List.getElem_cons_zero, Act.put, List.setIfInBounds_toArray, List.set_cons_zero, List.set_cons_succ]
          refine rg_take 13 (v := ?_) rfl (by kernel_rfl) (by kernel_rfl) (by kernel_rfl) hS rfl ?_ ?_
          rotate_left
          · intro wS hSw; go_simp; (with_reducible rfl)
          simp only [List.getElem_toArray, List.getElem_cons_succ, List.getElem_cons_zero, Act.put, List.setIfInBounds_toArray, List.set_cons_zero, List.set_cons_succ]
          refine rg_one 14 rfl (by kernel_rfl) rfl (fun K hK => ?_)
          go_simp
          refine hK _ _ (hkeep _ ((grownOf ((Below.refl wq.heap.size wq).alloc (Nat.le_refl _) _) _).trans (grownDrew _ _))) ?_
          clear hK K
          refine rg_one 15 rfl (by kernel_rfl) rfl (fun K hK => ?_)
          refine op_push (ops := #[]) (W := wq.drew) slS Try.underlying22 rfl rfl rfl rfl ex (ey - 1) rfl rfl ho' (by omega) hB'.size ?_
          intro A4 c4 w4 ho4 hg4 hb4 hB4
          have hg4' : wq.grownBy w4 (blk A2) := (grownDrew wq _).trans hg4
          have hBn : Below w.heap.size w w4 := (below_drewN hB' 1).trans hB4
          have hoe4 : OwnU w4 w.heap.size (some ⟨eg, eoff, none⟩) E ce es := own_keep he' hg4' (fun q hq e => hneq (by rw [e]; exact hq.symm ▸ rfl))
          have hdis4 : ∀ q, blk A4 = some q → blk (some (⟨eg, eoff, none⟩ : Addr)) ≠ some q := fun q hq e => by
            rcases hb4 with h | h
            · exact hdis q (by rw [← h]; exact hq) e
            · have h1 := h q hq
              have hx : wq.drew.heap.size = wq.heap.size := rfl
              simp [blk] at e
              omega
          simp only [List.getElem_toArray, List.getElem_cons_succ, List.getElem_cons_zero, Act.put, List.setIfInBounds_toArray, List.set_cons_zero, List.set_cons_succ]
          refine hK _ _ (hkeep _ hg4') ?_
          clear hK K
          have hS4 := hkeep _ hg4'
          simp only at hS4
          refine rg_take 16 (v := ?_) rfl (by kernel_rfl) (by kernel_rfl) (by kernel_rfl) hS4 rfl ?_ ?_
          rotate_left
          · intro wS hSw; go_simp; (with_reducible rfl)
          simp only [List.getElem_toArray, List.getElem_cons_succ, List.getElem_cons_zero, Act.put, List.setIfInBounds_toArray, List.set_cons_zero, List.set_cons_succ]
          refine rg_end (by kernel_rfl) ?_
          go_wp2_with (first | (with_reducible refine hold_append ?_) | (with_reducible refine hold_make ?_) | (with_reducible refine hold_copy ?_))
          have hi1 := HI1.out
          exact ⟨⟨i + 1, N + 1, c4, A4, out ++ [(ex, ey - 1)], by go_num, rfl, by simp [hol], by omega, by omega, hob2, by rw [hN2.out, hpush.out], ho4, hoe4, hdis4, hBn⟩, by simp [intOf]; omega⟩
        · have hk0 : IntKind.i64.wrap ((N : Int) - 1) = ((N - 1 : Nat) : Int) := by rw [IntWalk.i64_in _ ⟨by omega, by omega⟩]; omega
          have hkN : ((N - 1 : Nat) : Int) < (N : Int) := by omega
          have hk1 : (0 : Int) ≤ ((N - 1 : Nat) : Int) := by omega
          obtain ⟨g, rfl, hg1, hg2, hgl, hz0, hz1, hzf, hzs⟩ := OwnS.at_k ho (k := N - 1) (by omega)
          have hzb := hobd _ (List.getElem_mem hgl)
          have HNEAR := Lib.hid (push_near (x := ex) (y := ey) hol hN0 hgl)
          have HFAR : Hid (out[N - 1].2 + 1 ≠ ex → spPush out ex ey = out ++ [(ex, ey - 1)]) := Lib.hid (fun h => push_far (x := ex) (y := ey) hol hN0 (fun _ => h))
          have hzs2 := Lib.hid (hzs (ey - 1))
          clear hzs
          obtain ⟨zf, zt, hzz⟩ : ∃ zf zt, out[N - 1] = (zf, zt) := ⟨_, _, rfl⟩
          rw [hzz] at hz0 hz1 hzb HNEAR HFAR hzs2
          clear hzz
          simp only at hz0 hz1 hzb HNEAR HFAR hzs2
          by_cases hnear : zt + 1 = ex
          · have hd : (((zt : Int) + 1) == (ex : Int)) = true := by simp; omega
            have hpush : Hid (spPush out ex ey = out.set (N - 1) (zf, ey - 1)) := Lib.hid (HNEAR.out hnear)
            clear HNEAR HFAR hnear
            have hey : IntKind.u64.wrap ((ey : Int) - 1) = ((ey - 1 : Nat) : Int) := by rw [IntWalk.u64_in _ ⟨by omega, by omega⟩]; omega
            have hey2 : IntKind.u32.wrap ((ey - 1 : Nat) : Int) = ((ey - 1 : Nat) : Int) := IntWalk.u32_in _ ⟨by omega, by omega⟩
            have hob2 : spOK 4294967296 (out.set (N - 1) (zf, ey - 1)) := fun z hz => by
              rcases List.mem_or_eq_of_mem_set hz with h | rfl
              · exact hobd z h
              · exact ⟨hzb.1, by show ey - 1 < _; omega⟩
            have hgE : eg ≠ g := fun e => hdis g rfl (by simp [blk, e])
            have hgb : w.heap.size ≤ g := hg1
            have hg2' := hg2
            go_wp2_with (first | (with_reducible refine hold_append ?_) | (with_reducible refine hold_make ?_) | (with_reducible refine hold_copy ?_))
            go_quiet (fail)
            go_wp2_with (first | (with_reducible refine hold_append ?_) | (with_reducible refine hold_make ?_) | (with_reducible refine hold_copy ?_))
            have hgs := grownSet (wz.drewN nq) ⟨g, (N - 1) * 2 + 1, none⟩ (.int .u32 ((ey - 1 : Nat) : Int))
            have hoeN : OwnU ((wz.drewN nq).setCell ⟨g, (N - 1) * 2 + 1, none⟩ (.int .u32 ((ey - 1 : Nat) : Int))) w.heap.size (some ⟨eg, eoff, none⟩) E ce es := own_keep (w := wz.drewN nq) hoe hgs (fun q hq e => hgE (by simp [blk] at hq; simp at e; omega))
            have hi1 := HI1.out
            exact ⟨⟨i + 1, N, c2, some ⟨g, 0, none⟩, out.set (N - 1) (zf, ey - 1), by go_num, rfl, by simpa using hol, by omega, by omega, hob2, by rw [hN2.out, hpush.out], hzs2.out, hoeN, hdis, (below_drewN hBr nq).setCell (p := ⟨g, (N - 1) * 2 + 1, none⟩) hgb _⟩, by simp [intOf]; omega⟩
          · have hd : (((zt : Int) + 1) == (ex : Int)) = false := by simp; omega
            have hpush : Hid (spPush out ex ey = out ++ [(ex, ey - 1)]) := Lib.hid (HFAR.out hnear)
            clear HNEAR HFAR hnear
            go_wp2_with (first | (with_reducible refine hold_append ?_) | (with_reducible refine hold_make ?_) | (with_reducible refine hold_copy ?_))
            go_quiet (fail)
            have ho' : OwnS (wz.drewN nq) w.heap.size (some ⟨g, 0, none⟩) N c2 out := ho
            have he' : OwnU (wz.drewN nq) w.heap.size (some ⟨eg, eoff, none⟩) E ce es := hoe
            have hB' : Below w.heap.size w (wz.drewN nq) := below_drewN hBr nq
            have hS9 : (wz.drewN nq).cell? ⟨eg, eoff + i, none⟩ = some (.int .u64 (ex : Int)) ∧ (wz.drewN nq).cell? ⟨eg, eoff + i1, none⟩ = some (.int .u64 (ey : Int)) := ⟨hce0, hce1⟩
            clear hz0 hz1 hzf hzs2 ho hoe hBr hce0 hce1
            generalize wz.drewN nq = wq at *
            go_wp2_with (first | (with_reducible refine hold_append ?_) | (with_reducible refine hold_make ?_) | (with_reducible refine hold_copy ?_))
            have hex2 : IntKind.u32.wrap ((ex : Nat) : Int) = (ex : Int) := IntWalk.u32_in _ ⟨by omega, by omega⟩
            have hey : IntKind.u64.wrap ((ey : Int) - 1) = ((ey - 1 : Nat) : Int) := by rw [IntWalk.u64_in _ ⟨by omega, by omega⟩]; omega
            have hey2 : IntKind.u32.wrap ((ey - 1 : Nat) : Int) = ((ey - 1 : Nat) : Int) := IntWalk.u32_in _ ⟨by omega, by omega⟩
            have hob2 : spOK 4294967296 (out ++ [(ex, ey - 1)]) := fun z hz => by
              rcases List.mem_append.1 hz with h | h
              · exact hobd z h
              · obtain rfl := List.mem_singleton.1 h
                exact ⟨by show ex < _; omega, by show ey - 1 < _; omega⟩
            have hegq : eg < wq.heap.size := World.block_lt_of_cell? wq _ hS9.1
            have hneq : some eg = blk (some ⟨g, 0, none⟩) → False := fun e => hdis eg e.symm rfl
            have hkeep : ∀ w4 : World, wq.grownBy w4 (blk (some ⟨g, 0, none⟩)) → (fun wx => wx.cell? ⟨eg, eoff + i, none⟩ = some (.int .u64 (ex : Int)) ∧ wx.cell? ⟨eg, eoff + i1, none⟩ = some (.int .u64 (ey : Int))) w4 := fun w4 hg => ⟨hg.cell hS9.1 hneq, hg.cell hS9.2 hneq⟩
            have hS : (fun wx => wx.cell? ⟨eg, eoff + i, none⟩ = some (.int .u64 (ex : Int)) ∧ wx.cell? ⟨eg, eoff + i1, none⟩ = some (.int .u64 (ey : Int))) wq.drew := hS9
            simp only at hS
            refine rg_start (fun wx => wx.cell? ⟨eg, eoff + i, none⟩ = some (.int .u64 (ex : Int)) ∧ wx.cell? ⟨eg, eoff + i1, none⟩ = some (.int .u64 (ey : Int))) (by kernel_rfl) ?_
            refine rg_take 0 (v := ?_) rfl (by kernel_rfl) (by kernel_rfl) (by kernel_rfl) hS rfl ?_ ?_
            rotate_left
            · intro wS hSw; go_simp; (with_reducible rfl)
            simp only [List.getElem_toArray, List.getElem_cons_zero, Act.put, List.setIfInBounds_toArray, List.set_cons_zero, List.set_cons_succ]
            refine rg_take 1 (v := ?_) rfl (by kernel_rfl) (by kernel_rfl) (by kernel_rfl) hS rfl ?_ ?_
            rotate_left
            · intro wS hSw; go_simp; (with_reducible rfl)
            simp only [List.getElem_toArray, List.getElem_cons_succ, List.getElem_cons_zero, Act.put, List.setIfInBounds_toArray, List.set_cons_zero, List.set_cons_succ]
            refine rg_take 2 (v := ?_) rfl (by kernel_rfl) (by kernel_rfl) (by kernel_rfl) hS rfl ?_ ?_
            rotate_left
            · intro wS hSw; go_simp; (with_reducible rfl)
            simp only [List.getElem_toArray, List.getElem_cons_succ, List.getElem_cons_zero, Act.put, List.setIfInBounds_toArray, List.set_cons_zero, List.set_cons_succ]
            refine rg_take 3 (v := ?_) rfl (by kernel_rfl) (by kernel_rfl) (by kernel_rfl) hS rfl ?_ ?_
            rotate_left
            · intro wS hSw; go_simp; (with_reducible rfl)
            simp only [List.getElem_toArray, List.getElem_cons_succ, List.getElem_cons_zero, Act.put, List.setIfInBounds_toArray, List.set_cons_zero, List.set_cons_succ]
            refine rg_take 4 (v := ?_) rfl (by kernel_rfl) (by kernel_rfl) (by kernel_rfl) hS rfl ?_ ?_
            rotate_left
            · intro wS hSw; go_simp; (with_reducible rfl)
            simp only [List.getElem_toArray, List.getElem_cons_succ, List.getElem_cons_zero, Act.put, List.setIfInBounds_toArray, List.set_cons_zero, List.set_cons_succ]
            refine rg_take 5 (v := ?_) rfl (by kernel_rfl) (by kernel_rfl) (by kernel_rfl) hS rfl ?_ ?_
            rotate_left
            · intro wS hSw; go_simp; (with_reducible rfl)
            simp only [List.getElem_toArray, List.getElem_cons_succ, List.getElem_cons_zero, Act.put, List.setIfInBounds_toArray, List.set_cons_zero, List.set_cons_succ]
            refine rg_take 6 (v := ?_) rfl (by kernel_rfl) (by kernel_rfl) (by kernel_rfl) hS rfl ?_ ?_
            rotate_left
            · intro wS hSw; go_simp; (with_reducible rfl)
            simp only [List.getElem_toArray, List.getElem_cons_succ, List.getElem_cons_zero, Act.put, List.setIfInBounds_toArray, List.set_cons_zero, List.set_cons_succ]
            refine rg_take 7 (v := ?_) rfl (by kernel_rfl) (by kernel_rfl) (by kernel_rfl) hS rfl ?_ ?_
            rotate_left
            · intro wS hSw; go_simp; (with_reducible rfl)
            simp only [List.getElem_toArray, List.getElem_cons_succ, List.getElem_cons_zero, Act.put, List.setIfInBounds_toArray, List.set_cons_zero, List.set_cons_succ]
            refine rg_take 8 (v := ?_) rfl (by kernel_rfl) (by kernel_rfl) (by kernel_rfl) hS rfl ?_ ?_
            rotate_left
            · intro wS hSw; go_simp; (with_reducible rfl)
            simp only [List.getElem_toArray, List.getElem_cons_succ, List.getElem_cons_zero, Act.put, List.setIfInBounds_toArray, List.set_cons_zero, List.set_cons_succ]
            refine rg_take 9 (v := ?_) rfl (by kernel_rfl) (by kernel_rfl) (by kernel_rfl) hS rfl ?_ ?_
            rotate_left
            · intro wS hSw; go_simp; (with_reducible rfl)
            simp only [List.getElem_toArray, List.getElem_cons_succ, List.getElem_cons_zero, Act.put, List.setIfInBounds_toArray, List.set_cons_zero, List.set_cons_succ]
            refine rg_take 10 (v := ?_) rfl (by kernel_rfl) (by kernel_rfl) (by kernel_rfl) hS rfl ?_ ?_
            rotate_left
            · intro wS hSw; go_simp; (with_reducible rfl)
            simp only [List.getElem_toArray, List.getElem_cons_succ, List.getElem_cons_zero, Act.put, List.setIfInBounds_toArray, List.set_cons_zero, List.set_cons_succ]
            refine rg_take 11 (v := ?_) rfl (by kernel_rfl) (by kernel_rfl) (by kernel_rfl) hS rfl ?_ ?_
            rotate_left
            · intro wS hSw; go_simp; (with_reducible rfl)
            simp only [List.getElem_toArray, List.getElem_cons_succ, List.getElem_cons_zero, Act.put, List.setIfInBounds_toArray, List.set_cons_zero, List.set_cons_succ]
            refine rg_take 12 (v := ?_) rfl (by kernel_rfl) (by kernel_rfl) (by kernel_rfl) hS rfl ?_ ?_
            rotate_left
            · intro wS hSw; go_simp; (with_reducible rfl)
            simp only [List.getElem_toArray, List.getElem_cons_succ, List.getElem_cons_zero, Act.put, List.setIfInBounds_toArray, List.set_cons_zero, List.set_cons_succ]
            refine rg_take 13 (v := ?_) rfl (by kernel_rfl) (by kernel_rfl) (by kernel_rfl) hS rfl ?_ ?_
            rotate_left
            · intro wS hSw; go_simp; (with_reducible rfl)
            simp only [List.getElem_toArray, List.getElem_cons_succ, List.getElem_cons_zero, Act.put, List.setIfInBounds_toArray, List.set_cons_zero, List.set_cons_succ]
            refine rg_one 14 rfl (by kernel_rfl) rfl (fun K hK => ?_)
            go_simp
            refine hK _ _ (hkeep _ ((grownOf ((Below.refl wq.heap.size wq).alloc (Nat.le_refl _) _) _).trans (grownDrew _ _))) ?_
            clear hK K
            refine rg_one 15 rfl (by kernel_rfl) rfl (fun K hK => ?_)
            refine op_push (ops := #[]) (W := wq.drew) slS Try.underlying22 rfl rfl rfl rfl ex (ey - 1) rfl rfl ho' (by omega) hB'.size ?_
            intro A4 c4 w4 ho4 hg4 hb4 hB4
            have hg4' : wq.grownBy w4 (blk (some ⟨g, 0, none⟩)) := (grownDrew wq _).trans hg4
            have hBn : Below w.heap.size w w4 := (below_drewN hB' 1).trans hB4
            have hoe4 : OwnU w4 w.heap.size (some ⟨eg, eoff, none⟩) E ce es := own_keep he' hg4' (fun q hq e => hneq (by rw [e]; exact hq.symm ▸ rfl))
            have hdis4 : ∀ q, blk A4 = some q → blk (some (⟨eg, eoff, none⟩ : Addr)) ≠ some q := fun q hq e => by
              rcases hb4 with h | h
              · exact hdis q (by rw [← h]; exact hq) e
              · have h1 := h q hq
                have hx : wq.drew.heap.size = wq.heap.size := rfl
                simp [blk] at e
                omega
            simp only [List.getElem_toArray, List.getElem_cons_succ, List.getElem_cons_zero, Act.put, List.setIfInBounds_toArray, List.set_cons_zero, List.set_cons_succ]
            refine hK _ _ (hkeep _ hg4') ?_
            clear hK K
            have hS4 := hkeep _ hg4'
            simp only at hS4
            refine rg_take 16 (v := ?_) rfl (by kernel_rfl) (by kernel_rfl) (by kernel_rfl) hS4 rfl ?_ ?_
            rotate_left
            · intro wS hSw; go_simp; (with_reducible rfl)
            simp only [List.getElem_toArray, List.getElem_cons_succ, List.getElem_cons_zero, Act.put, List.setIfInBounds_toArray, List.set_cons_zero, List.set_cons_succ]
            refine rg_end (by kernel_rfl) ?_
            go_wp2_with (first | (with_reducible refine hold_append ?_) | (with_reducible refine hold_make ?_) | (with_reducible refine hold_copy ?_))
            have hi1 := HI1.out
            exact ⟨⟨i + 1, N + 1, c4, A4, out ++ [(ex, ey - 1)], by go_num, rfl, by simp [hol], by omega, by omega, hob2, by rw [hN2.out, hpush.out], ho4, hoe4, hdis4, hBn⟩, by simp [intOf]; omega⟩
    · have hd0 : ¬ (i : Int) + 1 < (E : Int) := by omega
      have hnil : ¬ i + 1 < es.length := by have := HE.out; omega
      have HF : Hid (spOf (fun x y => x && y) a b = out) := Lib.hid (by rw [HOF.out, hgo, ofgo_end hnil])
      clear hgo
      subst hol
      go_wp2_with (first | (with_reducible refine hold_append ?_) | (with_reducible refine hold_make ?_) | (with_reducible refine hold_copy ?_))
      go_ret
      rw [HF.out]
      exact ⟨A2, c2, rfl, ho, hBr⟩
end Go.PH

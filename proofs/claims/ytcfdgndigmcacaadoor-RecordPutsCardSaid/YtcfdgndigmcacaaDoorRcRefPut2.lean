/- The walk of the reference's Put. -/
import Derived.Test.YtcfdgndigmcacaaDoorRcRefPut
namespace Go.PH
open Go.RowKit Go.Proofs

set_option maxRecDepth 20000 in
set_option maxHeartbeats 2000000 in
theorem rrput_any (A : Option Addr) (n c : Nat) (l : List Rc) (w : World) (hr : RdR w w.heap.size A n c l) (hf : ∀ r ∈ l, r.wf ∧ r.data.length ≤ 140737488351232) (hn : n ≤ 140737488351232) (hT : (rcBytes l).length ≤ 1000000) :
    Calls Tryd.prog 12 #[.slice A n c] w fun e w' => e = .returned (.tuple #[.string (str (rcPut l).1), .int .i64 ((rcPut l).2 : Nat)]) ∧ Below w.heap.size w w' := by
  have hl := rec_length rcShape hr
  go_enter Tryd.func12, Tryd.ntmps12
  go_wp2_with (first | (with_reducible refine hold_append ?_) | (with_reducible refine hold_make ?_) | (with_reducible refine hold_copy ?_))
  go_loopw [5, 4] (fun s v wr => ∃ (k : Nat) (bs : List UInt8), k ≤ n ∧ s = .int .i64 k ∧ v = .string (str bs) ∧ Hid (RcSt l k bs) ∧ Below w.heap.size w wr) (fun s _ _ => n - (intOf s).toNat)
  case atStart => exact ⟨0, [], by omega, rfl, rfl, Lib.hid (RcSt.start l), Below.refl _ _⟩
  case round =>
    obtain ⟨k, bs, hk, rfl, rfl, HS, hB⟩ := hrel
    by_cases hlt : k < n
    · have hz := hB.size
      have hkn : (k : Int) < (n : Int) := by omega
      obtain ⟨b, off, rfl, hbB, hkl, hc⟩ := rec_at rcShape hr hlt
      have hfk := hf l[k] (List.getElem_mem hkl)
      have HLG := fun h : 65536 < l[k].data.length => rcPut_long (List.getElem_mem hkl) h
      have HST := fun h : l[k].data.length ≤ 65536 => RcSt.step HS.out hkl h
      have hhw := fun W => rhead_any l[k] W hfk.1 hfk.2
      obtain ⟨f, hfe⟩ : ∃ f, f = l[k] := ⟨_, rfl⟩
      rw [← hfe] at hfk hc HLG HST hhw
      have hby : f.bytes = seal' f.hd ++ seal' f.data := rfl
      clear hfe
      obtain ⟨kd, dt⟩ := f
      simp only [Rc.wf] at hfk HLG HST hby
      rw [hby] at HST
      unfold rcV at hhw
      simp only at hhw
      have HHL : (seal' (Rc.hd ⟨kd, dt⟩)).length = 9 := by rw [seal_length, Rc.hd_length]
      generalize Rc.hd ⟨kd, dt⟩ = hd at *
      clear hby
      obtain ⟨hkd, hdt⟩ := hfk
      have c0 := hc 0 _ rfl
      have c1 := hc 1 _ rfl
      simp only [Nat.add_zero] at c0
      clear hc
      have hcs : ∀ W, Below w.heap.size w W → (W.cell? ⟨b, off + k * 2, none⟩ = some (.int .u8 (kd : Int)) ∧ W.cell? ⟨b, off + k * 2 + 1, none⟩ = some (.string (str dt))) := fun W h => ⟨(h.cell (p := ⟨b, off + k * 2, none⟩) hbB).trans c0, (h.cell (p := ⟨b, off + k * 2 + 1, none⟩) hbB).trans c1⟩
      obtain ⟨k0, k1⟩ := hcs wr hB
      have hss := str_size dt
      by_cases hlg : 65536 < dt.length
      · have hd : (65536 : Int) < ((str dt).size : Int) := by omega
        have HF := Lib.hid (HLG hlg)
        clear HLG HST hss hlg
        go_wp2_with (first | (with_reducible refine hold_append ?_) | (with_reducible refine hold_make ?_) | (with_reducible refine hold_copy ?_))
        go_ret2
        rw [HF.out]
        exact ⟨rfl, hB⟩
      · have hdd : ¬ (65536 : Int) < ((str dt).size : Int) := by omega
        have HF := Lib.hid (HST (by omega))
        have hbl := rcBytes_take_le l k
        rw [← HS.out.1] at hbl
        have hhl : (seal' hd).length = 9 := HHL
        have hdl := seal_length dt
        have hq1 : ¬ 9223372036854775807 < (str bs).size + (str (seal' hd)).size := by rw [str_size, str_size]; omega
        have hq2 : ¬ 9223372036854775807 < (str bs).size + (str (seal' hd)).size + (str (seal' dt)).size := by rw [str_size, str_size, str_size]; omega
        have hq3 : ¬ 9223372036854775807 < (str bs ++ str (seal' hd)).size + (str (seal' dt)).size := by rw [str_app, str_size, str_size, List.length_append]; omega
        clear HLG HST hss hbl hhl hdl HHL
        go_wp2_with (first | (with_reducible refine hold_append ?_) | (with_reducible refine hold_make ?_) | (with_reducible refine hold_copy ?_))
        have hBd : Below w.heap.size w wr.drew := below_drewN hB 1
        have hS := hcs wr.drew hBd
        clear k0 k1 c0 c1
        refine rg_start (fun wx => wx.cell? ⟨b, off + k * 2, none⟩ = some (.int .u8 (kd : Int)) ∧ wx.cell? ⟨b, off + k * 2 + 1, none⟩ = some (.string (str dt))) (by kernel_rfl) ?_
        generalize wr.drew = w1 at *
        refine rg_take 0 (v := ?_) rfl (by kernel_rfl) (by kernel_rfl) (by kernel_rfl) hS rfl ?_ ?_
        rotate_left
        · intro wS hSw; go_simp; (with_reducible rfl)
        simp only [List.getElem_toArray, List.getElem_cons_zero, Act.put, List.setIfInBounds_toArray, List.set_cons_zero, List.set_cons_succ]
        refine rg_take 1 (v := ?_) rfl (by kernel_rfl) (by kernel_rfl) (by kernel_rfl) hS rfl ?_ ?_
        rotate_left
        · intro wS hSw; go_simp; (with_reducible rfl)
        simp only [List.getElem_toArray, List.getElem_cons_succ, List.getElem_cons_zero, Act.put, List.setIfInBounds_toArray, List.set_cons_zero, List.set_cons_succ]
        refine rg_take 2 (v := ?_) rfl (by kernel_rfl) (by kernel_rfl) (by kernel_rfl) hS rfl ?_ ?_
        rotate_left
        · intro wS hSw; go_simp; (with_reducible rfl)
        simp only [List.getElem_toArray, List.getElem_cons_succ, List.getElem_cons_zero, Act.put, List.setIfInBounds_toArray, List.set_cons_zero, List.set_cons_succ]
        refine rg_take 3 (v := ?_) rfl (by kernel_rfl) (by kernel_rfl) (by kernel_rfl) hS rfl ?_ ?_
        rotate_left
        · intro wS hSw; go_simp; (with_reducible rfl)
        simp only [List.getElem_toArray, List.getElem_cons_succ, List.getElem_cons_zero, Act.put, List.setIfInBounds_toArray, List.set_cons_zero, List.set_cons_succ]
        refine rg_take 4 (v := ?_) rfl (by kernel_rfl) (by kernel_rfl) (by kernel_rfl) hS rfl ?_ ?_
        rotate_left
        · intro wS hSw; go_simp; (with_reducible rfl)
        simp only [List.getElem_toArray, List.getElem_cons_succ, List.getElem_cons_zero, Act.put, List.setIfInBounds_toArray, List.set_cons_zero, List.set_cons_succ]
        refine rg_take 8 (v := ?_) rfl (by kernel_rfl) (by kernel_rfl) (by kernel_rfl) hS rfl ?_ ?_
        rotate_left
        · intro wS hSw; go_simp; (with_reducible rfl)
        simp only [List.getElem_toArray, List.getElem_cons_succ, List.getElem_cons_zero, Act.put, List.setIfInBounds_toArray, List.set_cons_zero, List.set_cons_succ]
        refine rg_take 9 (v := ?_) rfl (by kernel_rfl) (by kernel_rfl) (by kernel_rfl) hS rfl ?_ ?_
        rotate_left
        · intro wS hSw; go_simp; (with_reducible rfl)
        simp only [List.getElem_toArray, List.getElem_cons_succ, List.getElem_cons_zero, Act.put, List.setIfInBounds_toArray, List.set_cons_zero, List.set_cons_succ]
        refine rg_take 10 (v := ?_) rfl (by kernel_rfl) (by kernel_rfl) (by kernel_rfl) hS rfl ?_ ?_
        rotate_left
        · intro wS hSw; go_simp; (with_reducible rfl)
        simp only [List.getElem_toArray, List.getElem_cons_succ, List.getElem_cons_zero, Act.put, List.setIfInBounds_toArray, List.set_cons_zero, List.set_cons_succ]
        refine rg_take 11 (v := ?_) rfl (by kernel_rfl) (by kernel_rfl) (by kernel_rfl) hS rfl ?_ ?_
        rotate_left
        · intro wS hSw; go_simp; (with_reducible rfl)
        simp only [List.getElem_toArray, List.getElem_cons_succ, List.getElem_cons_zero, Act.put, List.setIfInBounds_toArray, List.set_cons_zero, List.set_cons_succ]
        refine rg_take 12 (v := ?_) rfl (by kernel_rfl) (by kernel_rfl) (by kernel_rfl) hS rfl ?_ ?_
        rotate_left
        · intro wS hSw; go_simp; (with_reducible rfl)
        simp only [List.getElem_toArray, List.getElem_cons_succ, List.getElem_cons_zero, Act.put, List.setIfInBounds_toArray, List.set_cons_zero, List.set_cons_succ]
        refine rg_two 5 13 rfl rfl (by kernel_rfl) rfl rfl (fun K hK => ?_) (fun K hK => ?_)
        · go_simp
          refine (hhw w1).mono ?_
          rintro e w5 ⟨A5, c5, rfl, ho5, hB5⟩
          have hBm := hBd.trans (hB5.mono hBd.size)
          have hS5 := And.intro (hcs w5 hBm) ho5.rd
          refine hK _ _ hS5.1 ?_
          clear hK K
          refine rg_str (fun wx => (wx.cell? ⟨b, off + k * 2, none⟩ = some (.int .u8 (kd : Int)) ∧ wx.cell? ⟨b, off + k * 2 + 1, none⟩ = some (.string (str dt))) ∧ RdB wx w5.heap.size A5 9 c5 (seal' hd)) (fun w h => h.1) ?_
          refine rg_take 6 (v := ?_) rfl (by kernel_rfl) (by kernel_rfl) (by kernel_rfl) hS5 rfl ?_ ?_
          rotate_left
          · intro wS hSw; have hv := run_strB (w := wS) hSw.2; go_simp; (with_reducible rfl)
          simp only [List.getElem_toArray, List.getElem_cons_succ, List.getElem_cons_zero, Act.put, List.setIfInBounds_toArray, List.set_cons_zero, List.set_cons_succ]
          refine rg_take 7 (v := ?_) rfl (by kernel_rfl) (by kernel_rfl) (by kernel_rfl) hS5 rfl ?_ ?_
          rotate_left
          · intro wS hSw; go_simp; (with_reducible rfl)
          simp only [List.getElem_toArray, List.getElem_cons_succ, List.getElem_cons_zero, Act.put, List.setIfInBounds_toArray, List.set_cons_zero, List.set_cons_succ]
          refine rg_one 13 rfl (by kernel_rfl) rfl (fun K hK => ?_)
          refine op_s2b Tryd.underlying9 Tryd.underlying31 Tryd.underlying5 rfl rfl (l := dt) (by omega) ?_
          intro c6 w6 hr6 hB6
          have hBm6 := hBm.trans (hB6.mono hBm.size)
          have hS6 := And.intro (hcs w6 hBm6) (Rd.below hS5.2 hB6)
          simp only [List.getElem_toArray, List.getElem_cons_succ, List.getElem_cons_zero, Act.put, List.setIfInBounds_toArray, List.set_cons_zero, List.set_cons_succ]
          refine hK _ _ hS6 ?_; clear hK K
          refine rg_one 14 rfl (by kernel_rfl) rfl (fun K hK => ?_)
          go_simp
          refine (rseal_any _ dt.length c6 dt w6 hr6 (by omega)).mono ?_
          rintro e w7 ⟨A7, c7, rfl, ho7, hB7'⟩
          have hB7 := hBm6.trans (hB7'.mono hBm6.size)
          have hS7 := And.intro (And.intro (hcs w7 hB7) (Rd.below hS6.2 (hB7'.mono hB6.size))) ho7.rd
          refine hK _ _ hS7.1 ?_
          clear hK K
          refine rg_str (fun wx => ((wx.cell? ⟨b, off + k * 2, none⟩ = some (.int .u8 (kd : Int)) ∧ wx.cell? ⟨b, off + k * 2 + 1, none⟩ = some (.string (str dt))) ∧ RdB wx w5.heap.size A5 9 c5 (seal' hd)) ∧ RdB wx w7.heap.size A7 (dt.length + 4) c7 (seal' dt)) (fun w h => h.1) ?_
          refine rg_take 15 (v := ?_) rfl (by kernel_rfl) (by kernel_rfl) (by kernel_rfl) hS7 rfl ?_ ?_
          rotate_left
          · intro wS hSw; have hv := run_strB (w := wS) hSw.2; go_simp; (with_reducible rfl)
          simp only [List.getElem_toArray, List.getElem_cons_succ, List.getElem_cons_zero, Act.put, List.setIfInBounds_toArray, List.set_cons_zero, List.set_cons_succ]
          refine rg_take 16 (v := ?_) rfl (by kernel_rfl) (by kernel_rfl) (by kernel_rfl) hS7 rfl ?_ ?_
          rotate_left
          · intro wS hSw; go_simp; (with_reducible rfl)
          simp only [List.getElem_toArray, List.getElem_cons_succ, List.getElem_cons_zero, Act.put, List.setIfInBounds_toArray, List.set_cons_zero, List.set_cons_succ]
          refine rg_take 17 (v := ?_) rfl (by kernel_rfl) (by kernel_rfl) (by kernel_rfl) hS7 rfl ?_ ?_
          rotate_left
          · intro wS hSw; go_simp; (with_reducible rfl)
          simp only [List.getElem_toArray, List.getElem_cons_succ, List.getElem_cons_zero, Act.put, List.setIfInBounds_toArray, List.set_cons_zero, List.set_cons_succ]
          refine rg_end (by kernel_rfl) ?_
          go_wp2_with (first | (with_reducible refine hold_append ?_) | (with_reducible refine hold_make ?_) | (with_reducible refine hold_copy ?_))
          exact ⟨⟨k + 1, bs ++ (seal' hd ++ seal' dt), by omega, by go_num, by first | rfl | (simp only [str_app, List.append_assoc]) , HF, hB7⟩, by simp [intOf]; omega⟩
        · refine op_s2b Tryd.underlying9 Tryd.underlying31 Tryd.underlying5 rfl rfl (l := dt) (by omega) ?_
          intro c5 w5 hr5 hB5
          have hBm := hBd.trans (hB5.mono hBd.size)
          have hS5 := hcs w5 hBm
          simp only [List.getElem_toArray, List.getElem_cons_succ, List.getElem_cons_zero, Act.put, List.setIfInBounds_toArray, List.set_cons_zero, List.set_cons_succ]
          refine hK _ _ hS5 ?_; clear hK K
          refine rg_one 5 rfl (by kernel_rfl) rfl (fun K hK => ?_)
          go_simp
          refine (hhw w5).mono ?_
          rintro e w6 ⟨A6, c6, rfl, ho6, hB6⟩
          have hBm6 := hBm.trans (hB6.mono hBm.size)
          have hS6 := And.intro (hcs w6 hBm6) ho6.rd
          have hr6 := (Rd.below hr5 hB6).more hB6.size
          refine hK _ _ hS6.1 ?_
          clear hK K
          refine rg_str (fun wx => (wx.cell? ⟨b, off + k * 2, none⟩ = some (.int .u8 (kd : Int)) ∧ wx.cell? ⟨b, off + k * 2 + 1, none⟩ = some (.string (str dt))) ∧ RdB wx w6.heap.size A6 9 c6 (seal' hd)) (fun w h => h.1) ?_
          refine rg_take 6 (v := ?_) rfl (by kernel_rfl) (by kernel_rfl) (by kernel_rfl) hS6 rfl ?_ ?_
          rotate_left
          · intro wS hSw; have hv := run_strB (w := wS) hSw.2; go_simp; (with_reducible rfl)
          simp only [List.getElem_toArray, List.getElem_cons_succ, List.getElem_cons_zero, Act.put, List.setIfInBounds_toArray, List.set_cons_zero, List.set_cons_succ]
          refine rg_take 7 (v := ?_) rfl (by kernel_rfl) (by kernel_rfl) (by kernel_rfl) hS6 rfl ?_ ?_
          rotate_left
          · intro wS hSw; go_simp; (with_reducible rfl)
          simp only [List.getElem_toArray, List.getElem_cons_succ, List.getElem_cons_zero, Act.put, List.setIfInBounds_toArray, List.set_cons_zero, List.set_cons_succ]
          refine rg_one 14 rfl (by kernel_rfl) rfl (fun K hK => ?_)
          go_simp
          refine (rseal_any _ dt.length c5 dt w6 hr6 (by omega)).mono ?_
          rintro e w7 ⟨A7, c7, rfl, ho7, hB7'⟩
          have hB7 := hBm6.trans (hB7'.mono hBm6.size)
          have hS7 := And.intro (And.intro (hcs w7 hB7) (Rd.below hS6.2 hB7')) ho7.rd
          refine hK _ _ hS7.1 ?_
          clear hK K
          refine rg_str (fun wx => ((wx.cell? ⟨b, off + k * 2, none⟩ = some (.int .u8 (kd : Int)) ∧ wx.cell? ⟨b, off + k * 2 + 1, none⟩ = some (.string (str dt))) ∧ RdB wx w6.heap.size A6 9 c6 (seal' hd)) ∧ RdB wx w7.heap.size A7 (dt.length + 4) c7 (seal' dt)) (fun w h => h.1) ?_
          refine rg_take 15 (v := ?_) rfl (by kernel_rfl) (by kernel_rfl) (by kernel_rfl) hS7 rfl ?_ ?_
          rotate_left
          · intro wS hSw; have hv := run_strB (w := wS) hSw.2; go_simp; (with_reducible rfl)
          simp only [List.getElem_toArray, List.getElem_cons_succ, List.getElem_cons_zero, Act.put, List.setIfInBounds_toArray, List.set_cons_zero, List.set_cons_succ]
          refine rg_take 16 (v := ?_) rfl (by kernel_rfl) (by kernel_rfl) (by kernel_rfl) hS7 rfl ?_ ?_
          rotate_left
          · intro wS hSw; go_simp; (with_reducible rfl)
          simp only [List.getElem_toArray, List.getElem_cons_succ, List.getElem_cons_zero, Act.put, List.setIfInBounds_toArray, List.set_cons_zero, List.set_cons_succ]
          refine rg_take 17 (v := ?_) rfl (by kernel_rfl) (by kernel_rfl) (by kernel_rfl) hS7 rfl ?_ ?_
          rotate_left
          · intro wS hSw; go_simp; (with_reducible rfl)
          simp only [List.getElem_toArray, List.getElem_cons_succ, List.getElem_cons_zero, Act.put, List.setIfInBounds_toArray, List.set_cons_zero, List.set_cons_succ]
          refine rg_end (by kernel_rfl) ?_
          go_wp2_with (first | (with_reducible refine hold_append ?_) | (with_reducible refine hold_make ?_) | (with_reducible refine hold_copy ?_))
          exact ⟨⟨k + 1, bs ++ (seal' hd ++ seal' dt), by omega, by go_num, by first | rfl | (simp only [str_app, List.append_assoc]) , HF, hB7⟩, by simp [intOf]; omega⟩
    · obtain rfl : k = n := by omega
      have hfin := HS.out
      rw [← hl] at hfin
      have HF := Lib.hid hfin.fin
      clear hfin HS
      go_wp2_with (first | (with_reducible refine hold_append ?_) | (with_reducible refine hold_make ?_) | (with_reducible refine hold_copy ?_))
      go_ret2
      rw [HF.out]
      exact ⟨rfl, hB⟩
end Go.PH

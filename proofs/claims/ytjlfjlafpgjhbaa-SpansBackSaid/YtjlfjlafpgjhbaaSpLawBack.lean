/- SpansBack: for every input of the form's own reach the law returns true and writes nothing that was there. -/
import Derived.Test.YtjlfjlafpgjhbaaSpBackMath
import Derived.Test.YtjlfjlafpgjhbaaSpLawGets
import Derived.Test.YtjlfjlafpgjhbaaSpLawPuts
import Derived.Test.YtjlfjlafpgjhbaaRegion2
namespace Go.PH
open Go.RowKit Go.Proofs

theorem spGet_ok (b : List UInt8) : spOK 4294967296 (spGet b) := by
  unfold spGet
  split
  · exact getSpans_ok _ _
  · intro z hz; cases hz
set_option maxRecDepth 20000 in
set_option maxHeartbeats 2000000 in
theorem law_SpansBack (A : Option Addr) (n c : Nat) (l : List Sp) (B : Option Addr) (m d : Nat) (b : List UInt8) (w : World) (hr : RdS w w.heap.size A n c l) (hok : spOK 4294967296 l) (hr' : RdB w w.heap.size B m d b) (hn : n ≤ 140737488351232) (hm : m ≤ 140737488351232) :
    Calls Try.prog 9 #[.slice A n c, .slice B m d] w fun e w' => e = .returned (.bool true) ∧ Below w.heap.size w w' := by
  have hl := hr.length
  by_cases h20 : 300 < n
  · have h20' : (300 : Int) < (n : Int) := by omega
    go_enter Try.func9, Try.ntmps9
    go_wp2_with (first | (with_reducible refine hold_append ?_) | (with_reducible refine hold_make ?_) | (with_reducible refine hold_copy ?_))
    refine (head_any w).mono ?_
    rintro e w1 ⟨rfl, hB1⟩
    go_wp2_with (first | (with_reducible refine hold_append ?_) | (with_reducible refine hold_make ?_) | (with_reducible refine hold_copy ?_))
    go_ret
    exact ⟨rfl, hB1⟩
  · have h20' : decide ((300 : Int) < (n : Int)) = false := by simp; omega
    by_cases h21 : 3000 < m
    · have h21' : (3000 : Int) < (m : Int) := by omega
      go_enter Try.func9, Try.ntmps9
      go_wp2_with (first | (with_reducible refine hold_append ?_) | (with_reducible refine hold_make ?_) | (with_reducible refine hold_copy ?_))
      refine (head_any w).mono ?_
      rintro e w1 ⟨rfl, hB1⟩
      go_wp2_with (first | (with_reducible refine hold_append ?_) | (with_reducible refine hold_make ?_) | (with_reducible refine hold_copy ?_))
      go_ret
      exact ⟨rfl, hB1⟩
    · have h21' : decide ((3000 : Int) < (m : Int)) = false := by simp; omega
      have hp := spput_any A n c l _ w hr hok (Nat.le_refl _) (by omega)
      have hra := fun w1 (h : Below w.heap.size w w1) => right_any A n c l w.heap.size w1 (hr.below h) hok h.size (by omega)
      have hpl := spPut_len l
      cases hright : spRight l
      · rw [hright] at hra
        have e1 : spPutErr l = 30 := by simp [spPutErr, hright]
        rw [e1] at hp
        clear hright e1
        go_enter Try.func9, Try.ntmps9
        go_wp2_with (first | (with_reducible refine hold_append ?_) | (with_reducible refine hold_make ?_) | (with_reducible refine hold_copy ?_))
        refine hp.mono ?_
        rintro e w1 ⟨A1, c1, rfl, ho1, hB1⟩
        go_wp2_with (first | (with_reducible refine hold_append ?_) | (with_reducible refine hold_make ?_) | (with_reducible refine hold_copy ?_))
        refine (hra w1 hB1).mono ?_
        rintro e wt ⟨rfl, hB2⟩
        have hBt := hB1.trans (hB2.mono hB1.size)
        have hzt := hBt.size
        by_cases hge : spGetErr b = 0
        · obtain ⟨hp1, hp2, hp3⟩ := get_put hge
          have hgb := spGet_ok b
          have hgl := spGet_len b
          have hp3' := congrArg List.length hp3
          have hc1 := spget_any B m d b wt ((hr'.below hBt).more hzt) (by omega)
          rw [hge] at hc1
          have hc2 := fun A2 c2 B2 w2 => spput_any A2 (spGet b).length c2 (spGet b) B2 w2
          rw [hp1] at hc2
          have hple := spPut_len (spGet b)
          have HP3 := Lib.hid hp3
          have hlb : b.length = m := RdB.length hr'
          rw [hlb] at hp2
          clear hge hp1 hp3 hp3'
          generalize spGet b = g at *
          generalize spGetN b = gn at *
          generalize spPut g = pg at *
          go_wp2_with (first | (with_reducible refine hold_append ?_) | (with_reducible refine hold_make ?_) | (with_reducible refine hold_copy ?_))
          refine hc1.mono ?_
          rintro e wa ⟨Aa, ca, rfl, hoa, hBa'⟩
          have hBa := hBt.trans (hBa'.mono hzt)
          have hza := hBa.size
          go_wp2_with (first | (with_reducible refine hold_append ?_) | (with_reducible refine hold_make ?_) | (with_reducible refine hold_copy ?_))
          refine (hc2 Aa ca _ wa hoa.rd hgb (Nat.le_refl _) (by omega)).mono ?_
          rintro e wb ⟨Ab, cb, rfl, hob, hBb'⟩
          have hBb := hBa.trans (hBb'.mono hza)
          have hzb := hBb.size
          have hrb := (hr'.below hBb).more hzb
          have hcut := RdB.cut (lo := 0) (k := gn) hrb (by omega)
          simp only [Nat.sub_zero, List.drop_zero] at hcut
          rw [← HP3.out] at hcut
          have hmd := hrb.cap
          have hS : RdB wb.drew wb.heap.size Ab pg.length cb pg ∧ RdB wb.drew wb.heap.size (cutA B 1 0 d) gn d pg := ⟨hob.rd.drew, Rd.drew hcut⟩
          have hdle : (gn : Int) ≤ (m : Int) := by omega
          go_wp2_with (first | (with_reducible refine hold_append ?_) | (with_reducible refine hold_make ?_) | (with_reducible refine hold_copy ?_))
          refine rg_start (fun wx => RdB wx wb.heap.size Ab pg.length cb pg ∧ RdB wx wb.heap.size (cutA B 1 0 d) gn d pg) (by kernel_rfl) ?_
          refine rg_take 0 (v := ?_) rfl (by kernel_rfl) (by kernel_rfl) (by kernel_rfl) hS rfl ?_ ?_
          rotate_left
          · intro wS hSw; go_simp; (with_reducible rfl)
          simp only [List.getElem_toArray, List.getElem_cons_zero, Act.put, List.setIfInBounds_toArray, List.set_cons_zero, List.set_cons_succ]
          refine rg_take 1 (v := ?_) rfl (by kernel_rfl) (by kernel_rfl) (by kernel_rfl) hS rfl ?_ ?_
          rotate_left
          · intro wS hSw; go_simp; (with_reducible rfl)
          simp only [List.getElem_toArray, List.getElem_cons_succ, List.getElem_cons_zero, Act.put, List.setIfInBounds_toArray, List.set_cons_zero, List.set_cons_succ]
          refine rg_take 2 (v := ?_) rfl (by kernel_rfl) (by kernel_rfl) (by kernel_rfl) hS rfl ?_ ?_
          rotate_left
          · intro wS hSw; go_simp; (with_reducible rfl)
          simp only [List.getElem_toArray, List.getElem_cons_succ, List.getElem_cons_zero, Act.put, List.setIfInBounds_toArray, List.set_cons_zero, List.set_cons_succ]
          refine rg_take 3 (v := ?_) rfl (by kernel_rfl) (by kernel_rfl) (by kernel_rfl) hS rfl ?_ ?_
          rotate_left
          · intro wS hSw; go_simp; (with_reducible rfl)
          simp only [List.getElem_toArray, List.getElem_cons_succ, List.getElem_cons_zero, Act.put, List.setIfInBounds_toArray, List.set_cons_zero, List.set_cons_succ]
          refine rg_take 4 (v := ?_) rfl (by kernel_rfl) (by kernel_rfl) (by kernel_rfl) hS rfl ?_ ?_
          rotate_left
          · intro wS hSw; go_simp; (with_reducible rfl)
          simp only [List.getElem_toArray, List.getElem_cons_succ, List.getElem_cons_zero, Act.put, List.setIfInBounds_toArray, List.set_cons_zero, List.set_cons_succ]
          refine rg_take 5 (v := ?_) rfl (by kernel_rfl) (by kernel_rfl) (by kernel_rfl) hS rfl ?_ ?_
          rotate_left
          · intro wS hSw; go_simp; (with_reducible rfl)
          simp only [List.getElem_toArray, List.getElem_cons_succ, List.getElem_cons_zero, Act.put, List.setIfInBounds_toArray, List.set_cons_zero, List.set_cons_succ]
          refine rg_take 6 (v := ?_) rfl (by kernel_rfl) (by kernel_rfl) (by kernel_rfl) hS rfl ?_ ?_
          rotate_left
          · intro wS hSw; go_simp; (with_reducible rfl)
          simp only [List.getElem_toArray, List.getElem_cons_succ, List.getElem_cons_zero, Act.put, List.setIfInBounds_toArray, List.set_cons_zero, List.set_cons_succ]
          refine rg_take 7 (v := ?_) rfl (by kernel_rfl) (by kernel_rfl) (by kernel_rfl) hS rfl ?_ ?_
          rotate_left
          · intro wS hSw; go_simp; (with_reducible rfl)
          simp only [List.getElem_toArray, List.getElem_cons_succ, List.getElem_cons_zero, Act.put, List.setIfInBounds_toArray, List.set_cons_zero, List.set_cons_succ]
          refine rg_take 8 (v := ?_) rfl (by kernel_rfl) (by kernel_rfl) (by kernel_rfl) hS rfl ?_ ?_
          rotate_left
          · intro wS hSw; go_simp; (with_reducible rfl)
          simp only [List.getElem_toArray, List.getElem_cons_succ, List.getElem_cons_zero, Act.put, List.setIfInBounds_toArray, List.set_cons_zero, List.set_cons_succ]
          refine rg_take 9 (v := ?_) rfl (by kernel_rfl) (by kernel_rfl) (by kernel_rfl) hS rfl ?_ ?_
          rotate_left
          · intro wS hSw; go_simp; (with_reducible rfl)
          simp only [List.getElem_toArray, List.getElem_cons_succ, List.getElem_cons_zero, Act.put, List.setIfInBounds_toArray, List.set_cons_zero, List.set_cons_succ]
          refine rg_take 10 (v := ?_) rfl (by kernel_rfl) (by kernel_rfl) (by kernel_rfl) hS rfl ?_ ?_
          rotate_left
          · intro wS hSw; have hv := run_strB (w := wS) hSw.1; go_simp; (with_reducible rfl)
          simp only [List.getElem_toArray, List.getElem_cons_succ, List.getElem_cons_zero, Act.put, List.setIfInBounds_toArray, List.set_cons_zero, List.set_cons_succ]
          refine rg_take 11 (v := ?_) rfl (by kernel_rfl) (by kernel_rfl) (by kernel_rfl) hS rfl ?_ ?_
          rotate_left
          · intro wS hSw; go_simp; (with_reducible rfl)
          simp only [List.getElem_toArray, List.getElem_cons_succ, List.getElem_cons_zero, Act.put, List.setIfInBounds_toArray, List.set_cons_zero, List.set_cons_succ]
          refine rg_take 12 (v := ?_) rfl (by kernel_rfl) (by kernel_rfl) (by kernel_rfl) hS rfl ?_ ?_
          rotate_left
          · intro wS hSw; go_simp; (with_reducible rfl)
          simp only [List.getElem_toArray, List.getElem_cons_succ, List.getElem_cons_zero, Act.put, List.setIfInBounds_toArray, List.set_cons_zero, List.set_cons_succ]
          have hcutb : Bd (some (Value.int .i64 (gn : Int))) m gn := .inr ⟨_, _, rfl, rfl⟩
          refine rg_slice 13 slB rfl (by kernel_rfl) (by kernel_rfl) (by kernel_rfl) hS rfl rfl rfl hrb.max hrb.cap 0 gn d (.inl ⟨rfl, rfl⟩) hcutb (.inl ⟨rfl, rfl⟩) (fun h => by cases h) (by omega) (by omega) (Nat.le_refl _) (by omega) ?_
          simp only [List.getElem_toArray, List.getElem_cons_succ, List.getElem_cons_zero, Act.put, List.setIfInBounds_toArray, List.set_cons_zero, List.set_cons_succ, Nat.sub_zero]
          refine rg_take 14 (v := ?_) rfl (by kernel_rfl) (by kernel_rfl) (by kernel_rfl) hS rfl ?_ ?_
          rotate_left
          · intro wS hSw; have hv := run_strB (w := wS) hSw.2; go_simp; (with_reducible rfl)
          simp only [List.getElem_toArray, List.getElem_cons_succ, List.getElem_cons_zero, Act.put, List.setIfInBounds_toArray, List.set_cons_zero, List.set_cons_succ]
          have hqs : ((str pg).toList == (str pg).toList) = true := by simp
          refine rg_take 15 (v := ?_) rfl (by kernel_rfl) (by kernel_rfl) (by kernel_rfl) hS rfl ?_ ?_
          rotate_left
          · intro wS hSw; go_simp; (with_reducible rfl)
          simp only [List.getElem_toArray, List.getElem_cons_succ, List.getElem_cons_zero, Act.put, List.setIfInBounds_toArray, List.set_cons_zero, List.set_cons_succ]
          refine rg_take 16 (v := ?_) rfl (by kernel_rfl) (by kernel_rfl) (by kernel_rfl) hS rfl ?_ ?_
          rotate_left
          · intro wS hSw; go_simp; (with_reducible rfl)
          simp only [List.getElem_toArray, List.getElem_cons_succ, List.getElem_cons_zero, Act.put, List.setIfInBounds_toArray, List.set_cons_zero, List.set_cons_succ]
          refine rg_take 17 (v := ?_) rfl (by kernel_rfl) (by kernel_rfl) (by kernel_rfl) hS rfl ?_ ?_
          rotate_left
          · intro wS hSw; go_simp; (with_reducible rfl)
          simp only [List.getElem_toArray, List.getElem_cons_succ, List.getElem_cons_zero, Act.put, List.setIfInBounds_toArray, List.set_cons_zero, List.set_cons_succ]
          refine rg_one 18 rfl (by kernel_rfl) rfl (fun K hK => ?_)
          go_simp
          refine (head_any wb.drew).mono ?_
          rintro e wc ⟨rfl, hBc'⟩
          have hBc := (below_drewN hBb 1).trans (hBc'.mono hzb)
          have hS2 : RdB wc wb.heap.size Ab pg.length cb pg ∧ RdB wc wb.heap.size (cutA B 1 0 d) gn d pg := ⟨Rd.below hS.1 hBc', Rd.below hS.2 hBc'⟩
          refine hK _ _ hS2 ?_; clear hK K
          refine rg_take 19 (v := ?_) rfl (by kernel_rfl) (by kernel_rfl) (by kernel_rfl) hS2 rfl ?_ ?_
          rotate_left
          · intro wS hSw; go_simp; (with_reducible rfl)
          simp only [List.getElem_toArray, List.getElem_cons_succ, List.getElem_cons_zero, Act.put, List.setIfInBounds_toArray, List.set_cons_zero, List.set_cons_succ]
          refine rg_take 20 (v := ?_) rfl (by kernel_rfl) (by kernel_rfl) (by kernel_rfl) hS2 rfl ?_ ?_
          rotate_left
          · intro wS hSw; go_simp; (with_reducible rfl)
          simp only [List.getElem_toArray, List.getElem_cons_succ, List.getElem_cons_zero, Act.put, List.setIfInBounds_toArray, List.set_cons_zero, List.set_cons_succ]
          refine rg_end (by kernel_rfl) ?_
          go_wp2_with (first | (with_reducible refine hold_append ?_) | (with_reducible refine hold_make ?_) | (with_reducible refine hold_copy ?_))
          go_ret
          exact ⟨rfl, hBc⟩
        · obtain ⟨hg1, hg2⟩ := spGet_err rfl hge
          have hc1 := spget_any B m d b wt ((hr'.below hBt).more hzt) (by omega)
          rw [hg1, hg2] at hc1
          have hne : (((spGetErr b : Nat) : Int) != 0) = true := by simp; omega
          clear hge hg1 hg2
          generalize spGetErr b = ge at *
          go_wp2_with (first | (with_reducible refine hold_append ?_) | (with_reducible refine hold_make ?_) | (with_reducible refine hold_copy ?_))
          refine hc1.mono ?_
          rintro e wa ⟨Aa, ca, rfl, hoa, hBa'⟩
          have hBa := hBt.trans (hBa'.mono hzt)
          go_wp2_with (first | (with_reducible refine hold_append ?_) | (with_reducible refine hold_make ?_) | (with_reducible refine hold_copy ?_))
          refine (head_any wa).mono ?_
          rintro e wb ⟨rfl, hBb⟩
          have hBc := hBa.trans (hBb.mono hBa.size)
          go_wp2_with (first | (with_reducible refine hold_append ?_) | (with_reducible refine hold_make ?_) | (with_reducible refine hold_copy ?_))
          go_ret
          exact ⟨rfl, hBc⟩
      · rw [hright] at hra
        have e1 : spPutErr l = 0 := by rw [spPutErr, if_pos hright, if_pos (by omega)]
        rw [e1] at hp
        obtain ⟨hg1, hg2, hg3⟩ := put_got b hright (by omega) hok
        have hgc := fun A2 n2 c2 w2 h => spget_any A2 n2 c2 (spPut l ++ b) w2 h
        rw [hg1, hg2, hg3, hl] at hgc
        clear hright e1 hg1 hg2 hg3
        generalize spPut l = pl at *
        go_enter Try.func9, Try.ntmps9
        go_wp2_with (first | (with_reducible refine hold_append ?_) | (with_reducible refine hold_make ?_) | (with_reducible refine hold_copy ?_))
        refine hp.mono ?_
        rintro e w1 ⟨A1, c1, rfl, ho1, hB1⟩
        go_wp2_with (first | (with_reducible refine hold_append ?_) | (with_reducible refine hold_make ?_) | (with_reducible refine hold_copy ?_))
        refine (hra w1 hB1).mono ?_
        rintro e w2 ⟨rfl, hB2'⟩
        have hB2 := hB1.trans (hB2'.mono hB1.size)
        have ho12 := below_ownS ho1 hB2'
        have hz2 := hB2.size
        go_wp2_with (first | (with_reducible refine hold_append ?_) | (with_reducible refine hold_make ?_) | (with_reducible refine hold_copy ?_))
        refine unhold (wp_app slB rfl rfl rfl rfl (Own.none_ w2 w.heap.size _ _) ho12.rd (map_one _) (by omega) (by simp [maxLen]; omega) hz2 ?_)
        intro A3 c3 w3 ho3 hg3 _
        have hB3 : Below w.heap.size w w3 := hB2.grown hg3 hz2 (by simp [blk])
        have ho13 := own_keep ho12 hg3 (by intro g _ e; simp [blk] at e)
        simp only [Nat.zero_add, List.nil_append] at ho3
        go_wp2_with (first | (with_reducible refine hold_append ?_) | (with_reducible refine hold_make ?_) | (with_reducible refine hold_copy ?_))
        refine unhold (wp_app slB rfl rfl rfl rfl ho3 (hr'.below hB3) (map_one _) (by omega) (by simp [maxLen]; omega) hB3.size ?_)
        intro A4 c4 w4 ho4 hg4 _
        have hB4 := hB3.grown hg4 hB3.size (fun g hg => (ho3.blk_lt hg).1)
        rw [← List.map_append] at ho4
        have hz4 := hB4.size
        go_wp2_with (first | (with_reducible refine hold_append ?_) | (with_reducible refine hold_make ?_) | (with_reducible refine hold_copy ?_))
        refine (hgc A4 (pl.length + m) c4 w4 ho4.rd (by omega)).mono ?_
        rintro e w5 ⟨A5, c5, rfl, ho5, hB5'⟩
        have hB5 := hB4.trans (hB5'.mono hz4)
        have hz5 := hB5.size
        have hpp : (((pl.length : Nat) : Int) != ((pl.length : Nat) : Int)) = false := by simp
        go_wp2_with (first | (with_reducible refine hold_append ?_) | (with_reducible refine hold_make ?_) | (with_reducible refine hold_copy ?_))
        refine (ssame_any _ _ _ _ _ _ _ _ _ w5 ((hr.below hB5).more hz5) ho5.rd (Nat.le_refl _) (by omega) (by omega)).mono ?_
        rintro e wt ⟨rfl, hB6⟩
        have hBt := hB5.trans (hB6.mono hz5)
        rw [decide_eq_true rfl]
        have hzt := hBt.size
        by_cases hge : spGetErr b = 0
        · obtain ⟨hp1, hp2, hp3⟩ := get_put hge
          have hgb := spGet_ok b
          have hgl := spGet_len b
          have hp3' := congrArg List.length hp3
          have hc1 := spget_any B m d b wt ((hr'.below hBt).more hzt) (by omega)
          rw [hge] at hc1
          have hc2 := fun A2 c2 B2 w2 => spput_any A2 (spGet b).length c2 (spGet b) B2 w2
          rw [hp1] at hc2
          have hple := spPut_len (spGet b)
          have HP3 := Lib.hid hp3
          have hlb : b.length = m := RdB.length hr'
          rw [hlb] at hp2
          clear hge hp1 hp3 hp3'
          generalize spGet b = g at *
          generalize spGetN b = gn at *
          generalize spPut g = pg at *
          go_wp2_with (first | (with_reducible refine hold_append ?_) | (with_reducible refine hold_make ?_) | (with_reducible refine hold_copy ?_))
          refine hc1.mono ?_
          rintro e wa ⟨Aa, ca, rfl, hoa, hBa'⟩
          have hBa := hBt.trans (hBa'.mono hzt)
          have hza := hBa.size
          go_wp2_with (first | (with_reducible refine hold_append ?_) | (with_reducible refine hold_make ?_) | (with_reducible refine hold_copy ?_))
          refine (hc2 Aa ca _ wa hoa.rd hgb (Nat.le_refl _) (by omega)).mono ?_
          rintro e wb ⟨Ab, cb, rfl, hob, hBb'⟩
          have hBb := hBa.trans (hBb'.mono hza)
          have hzb := hBb.size
          have hrb := (hr'.below hBb).more hzb
          have hcut := RdB.cut (lo := 0) (k := gn) hrb (by omega)
          simp only [Nat.sub_zero, List.drop_zero] at hcut
          rw [← HP3.out] at hcut
          have hmd := hrb.cap
          have hS : RdB wb.drew wb.heap.size Ab pg.length cb pg ∧ RdB wb.drew wb.heap.size (cutA B 1 0 d) gn d pg := ⟨hob.rd.drew, Rd.drew hcut⟩
          have hdle : (gn : Int) ≤ (m : Int) := by omega
          go_wp2_with (first | (with_reducible refine hold_append ?_) | (with_reducible refine hold_make ?_) | (with_reducible refine hold_copy ?_))
          refine rg_start (fun wx => RdB wx wb.heap.size Ab pg.length cb pg ∧ RdB wx wb.heap.size (cutA B 1 0 d) gn d pg) (by kernel_rfl) ?_
          refine rg_take 0 (v := ?_) rfl (by kernel_rfl) (by kernel_rfl) (by kernel_rfl) hS rfl ?_ ?_
          rotate_left
          · intro wS hSw; go_simp; (with_reducible rfl)
          simp only [List.getElem_toArray, List.getElem_cons_zero, Act.put, List.setIfInBounds_toArray, List.set_cons_zero, List.set_cons_succ]
          refine rg_take 1 (v := ?_) rfl (by kernel_rfl) (by kernel_rfl) (by kernel_rfl) hS rfl ?_ ?_
          rotate_left
          · intro wS hSw; go_simp; (with_reducible rfl)
          simp only [List.getElem_toArray, List.getElem_cons_succ, List.getElem_cons_zero, Act.put, List.setIfInBounds_toArray, List.set_cons_zero, List.set_cons_succ]
          refine rg_take 2 (v := ?_) rfl (by kernel_rfl) (by kernel_rfl) (by kernel_rfl) hS rfl ?_ ?_
          rotate_left
          · intro wS hSw; go_simp; (with_reducible rfl)
          simp only [List.getElem_toArray, List.getElem_cons_succ, List.getElem_cons_zero, Act.put, List.setIfInBounds_toArray, List.set_cons_zero, List.set_cons_succ]
          refine rg_take 3 (v := ?_) rfl (by kernel_rfl) (by kernel_rfl) (by kernel_rfl) hS rfl ?_ ?_
          rotate_left
          · intro wS hSw; go_simp; (with_reducible rfl)
          simp only [List.getElem_toArray, List.getElem_cons_succ, List.getElem_cons_zero, Act.put, List.setIfInBounds_toArray, List.set_cons_zero, List.set_cons_succ]
          refine rg_take 4 (v := ?_) rfl (by kernel_rfl) (by kernel_rfl) (by kernel_rfl) hS rfl ?_ ?_
          rotate_left
          · intro wS hSw; go_simp; (with_reducible rfl)
          simp only [List.getElem_toArray, List.getElem_cons_succ, List.getElem_cons_zero, Act.put, List.setIfInBounds_toArray, List.set_cons_zero, List.set_cons_succ]
          refine rg_take 5 (v := ?_) rfl (by kernel_rfl) (by kernel_rfl) (by kernel_rfl) hS rfl ?_ ?_
          rotate_left
          · intro wS hSw; go_simp; (with_reducible rfl)
          simp only [List.getElem_toArray, List.getElem_cons_succ, List.getElem_cons_zero, Act.put, List.setIfInBounds_toArray, List.set_cons_zero, List.set_cons_succ]
          refine rg_take 6 (v := ?_) rfl (by kernel_rfl) (by kernel_rfl) (by kernel_rfl) hS rfl ?_ ?_
          rotate_left
          · intro wS hSw; go_simp; (with_reducible rfl)
          simp only [List.getElem_toArray, List.getElem_cons_succ, List.getElem_cons_zero, Act.put, List.setIfInBounds_toArray, List.set_cons_zero, List.set_cons_succ]
          refine rg_take 7 (v := ?_) rfl (by kernel_rfl) (by kernel_rfl) (by kernel_rfl) hS rfl ?_ ?_
          rotate_left
          · intro wS hSw; go_simp; (with_reducible rfl)
          simp only [List.getElem_toArray, List.getElem_cons_succ, List.getElem_cons_zero, Act.put, List.setIfInBounds_toArray, List.set_cons_zero, List.set_cons_succ]
          refine rg_take 8 (v := ?_) rfl (by kernel_rfl) (by kernel_rfl) (by kernel_rfl) hS rfl ?_ ?_
          rotate_left
          · intro wS hSw; go_simp; (with_reducible rfl)
          simp only [List.getElem_toArray, List.getElem_cons_succ, List.getElem_cons_zero, Act.put, List.setIfInBounds_toArray, List.set_cons_zero, List.set_cons_succ]
          refine rg_take 9 (v := ?_) rfl (by kernel_rfl) (by kernel_rfl) (by kernel_rfl) hS rfl ?_ ?_
          rotate_left
          · intro wS hSw; go_simp; (with_reducible rfl)
          simp only [List.getElem_toArray, List.getElem_cons_succ, List.getElem_cons_zero, Act.put, List.setIfInBounds_toArray, List.set_cons_zero, List.set_cons_succ]
          refine rg_take 10 (v := ?_) rfl (by kernel_rfl) (by kernel_rfl) (by kernel_rfl) hS rfl ?_ ?_
          rotate_left
          · intro wS hSw; have hv := run_strB (w := wS) hSw.1; go_simp; (with_reducible rfl)
          simp only [List.getElem_toArray, List.getElem_cons_succ, List.getElem_cons_zero, Act.put, List.setIfInBounds_toArray, List.set_cons_zero, List.set_cons_succ]
          refine rg_take 11 (v := ?_) rfl (by kernel_rfl) (by kernel_rfl) (by kernel_rfl) hS rfl ?_ ?_
          rotate_left
          · intro wS hSw; go_simp; (with_reducible rfl)
          simp only [List.getElem_toArray, List.getElem_cons_succ, List.getElem_cons_zero, Act.put, List.setIfInBounds_toArray, List.set_cons_zero, List.set_cons_succ]
          refine rg_take 12 (v := ?_) rfl (by kernel_rfl) (by kernel_rfl) (by kernel_rfl) hS rfl ?_ ?_
          rotate_left
          · intro wS hSw; go_simp; (with_reducible rfl)
          simp only [List.getElem_toArray, List.getElem_cons_succ, List.getElem_cons_zero, Act.put, List.setIfInBounds_toArray, List.set_cons_zero, List.set_cons_succ]
          have hcutb : Bd (some (Value.int .i64 (gn : Int))) m gn := .inr ⟨_, _, rfl, rfl⟩
          refine rg_slice 13 slB rfl (by kernel_rfl) (by kernel_rfl) (by kernel_rfl) hS rfl rfl rfl hrb.max hrb.cap 0 gn d (.inl ⟨rfl, rfl⟩) hcutb (.inl ⟨rfl, rfl⟩) (fun h => by cases h) (by omega) (by omega) (Nat.le_refl _) (by omega) ?_
          simp only [List.getElem_toArray, List.getElem_cons_succ, List.getElem_cons_zero, Act.put, List.setIfInBounds_toArray, List.set_cons_zero, List.set_cons_succ, Nat.sub_zero]
          refine rg_take 14 (v := ?_) rfl (by kernel_rfl) (by kernel_rfl) (by kernel_rfl) hS rfl ?_ ?_
          rotate_left
          · intro wS hSw; have hv := run_strB (w := wS) hSw.2; go_simp; (with_reducible rfl)
          simp only [List.getElem_toArray, List.getElem_cons_succ, List.getElem_cons_zero, Act.put, List.setIfInBounds_toArray, List.set_cons_zero, List.set_cons_succ]
          have hqs : ((str pg).toList == (str pg).toList) = true := by simp
          refine rg_take 15 (v := ?_) rfl (by kernel_rfl) (by kernel_rfl) (by kernel_rfl) hS rfl ?_ ?_
          rotate_left
          · intro wS hSw; go_simp; (with_reducible rfl)
          simp only [List.getElem_toArray, List.getElem_cons_succ, List.getElem_cons_zero, Act.put, List.setIfInBounds_toArray, List.set_cons_zero, List.set_cons_succ]
          refine rg_take 16 (v := ?_) rfl (by kernel_rfl) (by kernel_rfl) (by kernel_rfl) hS rfl ?_ ?_
          rotate_left
          · intro wS hSw; go_simp; (with_reducible rfl)
          simp only [List.getElem_toArray, List.getElem_cons_succ, List.getElem_cons_zero, Act.put, List.setIfInBounds_toArray, List.set_cons_zero, List.set_cons_succ]
          refine rg_take 17 (v := ?_) rfl (by kernel_rfl) (by kernel_rfl) (by kernel_rfl) hS rfl ?_ ?_
          rotate_left
          · intro wS hSw; go_simp; (with_reducible rfl)
          simp only [List.getElem_toArray, List.getElem_cons_succ, List.getElem_cons_zero, Act.put, List.setIfInBounds_toArray, List.set_cons_zero, List.set_cons_succ]
          refine rg_one 18 rfl (by kernel_rfl) rfl (fun K hK => ?_)
          go_simp
          refine (head_any wb.drew).mono ?_
          rintro e wc ⟨rfl, hBc'⟩
          have hBc := (below_drewN hBb 1).trans (hBc'.mono hzb)
          have hS2 : RdB wc wb.heap.size Ab pg.length cb pg ∧ RdB wc wb.heap.size (cutA B 1 0 d) gn d pg := ⟨Rd.below hS.1 hBc', Rd.below hS.2 hBc'⟩
          refine hK _ _ hS2 ?_; clear hK K
          refine rg_take 19 (v := ?_) rfl (by kernel_rfl) (by kernel_rfl) (by kernel_rfl) hS2 rfl ?_ ?_
          rotate_left
          · intro wS hSw; go_simp; (with_reducible rfl)
          simp only [List.getElem_toArray, List.getElem_cons_succ, List.getElem_cons_zero, Act.put, List.setIfInBounds_toArray, List.set_cons_zero, List.set_cons_succ]
          refine rg_take 20 (v := ?_) rfl (by kernel_rfl) (by kernel_rfl) (by kernel_rfl) hS2 rfl ?_ ?_
          rotate_left
          · intro wS hSw; go_simp; (with_reducible rfl)
          simp only [List.getElem_toArray, List.getElem_cons_succ, List.getElem_cons_zero, Act.put, List.setIfInBounds_toArray, List.set_cons_zero, List.set_cons_succ]
          refine rg_end (by kernel_rfl) ?_
          go_wp2_with (first | (with_reducible refine hold_append ?_) | (with_reducible refine hold_make ?_) | (with_reducible refine hold_copy ?_))
          go_ret
          exact ⟨rfl, hBc⟩
        · obtain ⟨hg1, hg2⟩ := spGet_err rfl hge
          have hc1 := spget_any B m d b wt ((hr'.below hBt).more hzt) (by omega)
          rw [hg1, hg2] at hc1
          have hne : (((spGetErr b : Nat) : Int) != 0) = true := by simp; omega
          clear hge hg1 hg2
          generalize spGetErr b = ge at *
          go_wp2_with (first | (with_reducible refine hold_append ?_) | (with_reducible refine hold_make ?_) | (with_reducible refine hold_copy ?_))
          refine hc1.mono ?_
          rintro e wa ⟨Aa, ca, rfl, hoa, hBa'⟩
          have hBa := hBt.trans (hBa'.mono hzt)
          go_wp2_with (first | (with_reducible refine hold_append ?_) | (with_reducible refine hold_make ?_) | (with_reducible refine hold_copy ?_))
          refine (head_any wa).mono ?_
          rintro e wb ⟨rfl, hBb⟩
          have hBc := hBa.trans (hBb.mono hBa.size)
          go_wp2_with (first | (with_reducible refine hold_append ?_) | (with_reducible refine hold_make ?_) | (with_reducible refine hold_copy ?_))
          go_ret
          exact ⟨rfl, hBc⟩
end Go.PH

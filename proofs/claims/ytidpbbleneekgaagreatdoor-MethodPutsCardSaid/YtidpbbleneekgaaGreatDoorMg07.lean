/- Texts laid together: SpWalk, SpPut, SpPutR, Str. -/
import Derived.Deep.QuietTactic
import Derived.BigQuiet
import Derived.Lib.ConvBytes
import Derived.Test.YtidpbbleneekgaaGreatDoorMg02
import Derived.Test.YtidpbbleneekgaaGreatDoorMg03
import Derived.Test.YtidpbbleneekgaaGreatDoorMg05
import Derived.Test.YtidpbbleneekgaaGreatDoorMg06
section
/- The walks of spans: Right. -/
set_option linter.all false
set_option linter.unusedSimpArgs false
set_option linter.unusedVariables false
namespace Go.PH
open Go.RowKit Go.Proofs

set_option maxRecDepth 20000 in
theorem right_any (A : Option Addr) (n c : Nat) (l : List Sp) (B : Nat) (w : World) (hr : RdS w B A n c l) (hb : spOK 4294967296 l) (hB : B ≤ w.heap.size) (hn : n ≤ 140737488355328) :
    Calls Tryz.prog 101 #[.slice A n c] w fun e w' => e = .returned (.bool (spRight l)) ∧ Below w.heap.size w w' := by
  have hl := hr.length
  go_enter Tryz.func101, Tryz.ntmps101
  go_wp2_with (first | (with_reducible refine hold_append ?_) | (with_reducible refine hold_make ?_) | (with_reducible refine hold_copy ?_))
  go_loopw [7] (fun s wr => ∃ (k : Nat), k ≤ n ∧ s = .int .i64 k ∧ spRight (l.take k) = true ∧ Below w.heap.size w wr) (fun s _ => n - (RowKit.intOf s).toNat)
  case atStart => exact ⟨0, by omega, rfl, by simp [spRight], Below.refl _ _⟩
  case round =>
    obtain ⟨k, hk, rfl, hrk, hBr⟩ := hrel
    by_cases hlt : k < n
    · have hrr := hr.below (hBr.mono hB)
      obtain ⟨b, off, rfl, hbB, hkl, hc0, hc1⟩ := RdS.at_k hrr hlt
      have hbk := hb l[k] (List.getElem_mem hkl)
      have HN := Lib.hid (spNext_iff hkl)
      have hcp := RdS.at_p hrr hk
      have hbp := (spOK_getD hb (k - 1) (by omega)).2
      generalize (l.getD (k - 1) (0, 0)).2 = t0 at *
      generalize l[k].1 = f at *
      generalize l[k].2 = t at *
      have hB2 : Below w.heap.size w ((wr.alloc (.cells #[.int .u32 (f : Int), .int .u32 (t : Int)] 113))) := hBr.alloc hBr.size _
      by_cases h1 : t < f
      · have hd : (t : Int) < (f : Int) := by omega
        go_wp2_with (first | (with_reducible refine hold_append ?_) | (with_reducible refine hold_make ?_) | (with_reducible refine hold_copy ?_))
        skip
        go_quiet (fail)
        go_wp2_with (first | (with_reducible refine hold_append ?_) | (with_reducible refine hold_make ?_) | (with_reducible refine hold_copy ?_))
        go_ret
        have e := spRight_no hkl hrk (by rw [HN.out]; omega)
        rw [e]
        exact ⟨rfl, below_drewN hB2 _⟩
      · have hd : decide ((t : Int) < (f : Int)) = false := by simp; omega
        rcases Nat.eq_zero_or_pos k with hk0 | h0
        · have hd0 : decide (0 < k) = false := by simp; omega
          have hy := spRight_yes hkl hrk (by rw [HN.out]; omega)
          clear hk0
          go_wp2_with (first | (with_reducible refine hold_append ?_) | (with_reducible refine hold_make ?_) | (with_reducible refine hold_copy ?_))
          skip
          go_quiet (fail)
          go_wp2_with (first | (with_reducible refine hold_append ?_) | (with_reducible refine hold_make ?_) | (with_reducible refine hold_copy ?_))
          exact ⟨⟨k + 1, by omega, by go_num, hy, below_drewN hB2 _⟩, by simp [RowKit.intOf]; omega⟩
        · have hd0 : (0 : Int) < (k : Int) := by omega
          obtain ⟨b', off', e', _, hc2⟩ := hcp h0
          obtain ⟨rfl, rfl⟩ : b = b' ∧ off = off' := by simpa using e'
          clear e' hcp
          have hbb : b < wr.heap.size := World.block_lt_of_cell? wr _ hc0
          have hc3 := (World.cell?_alloc_past (w := wr) (.cells #[.int .u32 (f : Int), .int .u32 (t : Int)] 113) b (off + (k - 1) * 2 + 1) hbb).trans hc2
          have hw1 : IntKind.i64.wrap ((k : Int) - 1) = ((k - 1 : Nat) : Int) := by rw [IntWalk.i64_in _ ⟨by omega, by omega⟩]; omega
          have hlt1 : ((k - 1 : Nat) : Int) < (n : Int) := by omega
          by_cases h2 : f ≤ t0
          · have hd1 : (f : Int) ≤ (t0 : Int) := by omega
            go_wp2_with (first | (with_reducible refine hold_append ?_) | (with_reducible refine hold_make ?_) | (with_reducible refine hold_copy ?_))
            skip
            go_quiet (fail)
            go_wp2_with (first | (with_reducible refine hold_append ?_) | (with_reducible refine hold_make ?_) | (with_reducible refine hold_copy ?_))
            go_ret
            have e := spRight_no hkl hrk (by rw [HN.out]; omega)
            rw [e]
            exact ⟨rfl, below_drewN hB2 _⟩
          · have hd1 : decide ((f : Int) ≤ (t0 : Int)) = false := by simp; omega
            by_cases h3 : t0 + 1 = f
            · have hd3 : (((t0 : Int) + 1) == (f : Int)) = true := by simp; omega
              have hno := spRight_no hkl hrk (by rw [HN.out]; omega)
              clear h3
              go_wp2_with (first | (with_reducible refine hold_append ?_) | (with_reducible refine hold_make ?_) | (with_reducible refine hold_copy ?_))
              skip
              go_quiet (fail)
              go_wp2_with (first | (with_reducible refine hold_append ?_) | (with_reducible refine hold_make ?_) | (with_reducible refine hold_copy ?_))
              go_ret
              rw [hno]
              exact ⟨rfl, below_drewN hB2 _⟩
            · have hd3 : (((t0 : Int) + 1) == (f : Int)) = false := by simp; omega
              have hy := spRight_yes hkl hrk (by rw [HN.out]; omega)
              go_wp2_with (first | (with_reducible refine hold_append ?_) | (with_reducible refine hold_make ?_) | (with_reducible refine hold_copy ?_))
              skip
              go_quiet (fail)
              go_wp2_with (first | (with_reducible refine hold_append ?_) | (with_reducible refine hold_make ?_) | (with_reducible refine hold_copy ?_))
              exact ⟨⟨k + 1, by omega, by go_num, hy, below_drewN hB2 _⟩, by simp [RowKit.intOf]; omega⟩
    · obtain rfl : k = n := by omega
      go_wp2_with (first | (with_reducible refine hold_append ?_) | (with_reducible refine hold_make ?_) | (with_reducible refine hold_copy ?_))
      go_ret
      rw [← hl, List.take_length] at hrk
      rw [hrk]
      exact ⟨rfl, hBr⟩
end Go.PH
end
section
/- The walks of spans' Put and of its reference's. -/
set_option linter.all false
set_option linter.unusedSimpArgs false
set_option linter.unusedVariables false
namespace Go.PH
open Go.RowKit Go.Proofs

def spBytes (l : List Sp) : List UInt8 := l.flatMap fun a => be 4 a.1 ++ be 4 a.2
def spPut (l : List Sp) : List UInt8 := if spRight l = true ∧ l.length ≤ 1000 then be 2 (8 * l.length) ++ spBytes l else []
def spPutErr (l : List Sp) : Nat := if spRight l = true then (if l.length ≤ 1000 then 0 else 6) else 30
theorem spBytes_next {l : List Sp} {k : Nat} (hk : k < l.length) : spBytes (l.take (k + 1)) = spBytes (l.take k) ++ be 4 l[k].1 ++ be 4 l[k].2 := by
  unfold spBytes; rw [List.take_succ_eq_append_getElem hk, List.flatMap_append]; simp
theorem spBytes_len (l : List Sp) : (spBytes l).length = 8 * l.length := by
  induction l with
  | nil => rfl
  | cons a l ih =>
    have e : spBytes (a :: l) = be 4 a.1 ++ be 4 a.2 ++ spBytes l := rfl
    rw [e]; simp only [List.length_append, be_length, ih, List.length_cons]; omega
theorem put2 {b : List UInt8} {v : Nat} : puts b v 2 = b ++ be 2 v := puts_yes (by decide)
theorem put4 {b : List UInt8} {v : Nat} : puts b v 4 = b ++ be 4 v := puts_yes (by decide)

set_option maxRecDepth 20000 in
set_option maxHeartbeats 1000000 in
theorem spput_any (A : Option Addr) (n c : Nat) (l : List Sp) (B : Nat) (w : World) (hr : RdS w B A n c l) (hb : spOK 4294967296 l) (hB : B ≤ w.heap.size) (hn : n ≤ 140737488351232) :
    Calls Tryz.prog 66 #[.slice A n c] w fun e w' => ∃ A2 c2, e = .returned (.tuple #[.slice A2 (spPut l).length c2, .int .i64 (spPutErr l)]) ∧ Own w' w.heap.size 5 1 A2 (spPut l).length c2 ((spPut l).map u8v) ∧ Below w.heap.size w w' := by
  have hl := hr.length
  have hra := right_any A n c l B w hr hb hB (by omega)
  cases hright : spRight l
  · rw [hright] at hra
    have e1 : spPut l = [] := by simp [spPut, hright]
    have e2 : spPutErr l = 30 := by simp [spPutErr, hright]
    rw [e1, e2]
    go_enter Tryz.func66, Tryz.ntmps66
    go_wp2_with (first | (with_reducible refine hold_append ?_) | (with_reducible refine hold_make ?_) | (with_reducible refine hold_copy ?_))
    refine hra.mono ?_
    rintro e w1 ⟨rfl, hB1⟩
    go_wp2_with (first | (with_reducible refine hold_append ?_) | (with_reducible refine hold_make ?_) | (with_reducible refine hold_copy ?_))
    go_ret2
    exact ⟨none, 0, rfl, Own.none_ _ _ _ _, hB1⟩
  · rw [hright] at hra
    by_cases h1000 : 1000 < n
    · have e1 : spPut l = [] := by simp [spPut]; omega
      have e2 : spPutErr l = 6 := by simp [spPutErr, hright]; omega
      rw [e1, e2]
      have hd : (1000 : Int) < (n : Int) := by omega
      clear hright e1 e2
      go_enter Tryz.func66, Tryz.ntmps66
      go_wp2_with (first | (with_reducible refine hold_append ?_) | (with_reducible refine hold_make ?_) | (with_reducible refine hold_copy ?_))
      refine hra.mono ?_
      rintro e w1 ⟨rfl, hB1⟩
      go_wp2_with (first | (with_reducible refine hold_append ?_) | (with_reducible refine hold_make ?_) | (with_reducible refine hold_copy ?_))
      go_ret2
      exact ⟨none, 0, rfl, Own.none_ _ _ _ _, hB1⟩
    · have e1 : spPut l = be 2 (8 * n) ++ spBytes l := by rw [spPut, if_pos ⟨hright, by omega⟩, hl]
      have e2 : spPutErr l = 0 := by rw [spPutErr, if_pos hright, if_pos (by omega)]
      rw [e1, e2]
      have hd : ¬ (1000 : Int) < (n : Int) := by omega
      clear hright e1 e2
      go_enter Tryz.func66, Tryz.ntmps66
      go_wp2_with (first | (with_reducible refine hold_append ?_) | (with_reducible refine hold_make ?_) | (with_reducible refine hold_copy ?_))
      refine hra.mono ?_
      rintro e w1 ⟨rfl, hB1⟩
      have hw8 : IntKind.i64.wrap (8 * (n : Int)) = ((8 * n : Nat) : Int) := by rw [IntWalk.i64_in _ ⟨by omega, by omega⟩]; omega
      have hw9 : IntKind.u64.wrap ((8 * n : Nat) : Int) = ((8 * n : Nat) : Int) := IntWalk.u64_in _ ⟨by omega, by omega⟩
      have hp2 := put_any none 0 0 [] (8 * n) 2 w1 (Rd.nil _ _ _ _ (by simp [maxLen]) _) (by omega) (by omega)
      rw [put2, List.nil_append] at hp2
      obtain ⟨n8, hn8⟩ : ∃ n8, n8 = 8 * n := ⟨_, rfl⟩
      rw [← hn8] at hw8 hw9 hp2
      have HN8 := Lib.hid hn8
      clear hn8
      go_wp2_with (first | (with_reducible refine hold_append ?_) | (with_reducible refine hold_make ?_) | (with_reducible refine hold_copy ?_))
      refine hp2.mono ?_
      rintro e w2 ⟨A2, c2, rfl, ho2, hB2⟩
      have hB12 := hB1.trans (hB2.mono hB1.size)
      have ho2' := ho2.base_le hB1.size
      rw [HN8.out] at ho2'
      rw [be_length] at ho2' ⊢
      clear ho2 hB1 hB2 hp2
      go_wp2_with (first | (with_reducible refine hold_append ?_) | (with_reducible refine hold_make ?_) | (with_reducible refine hold_copy ?_))
      go_loopw [20, 4] (fun s v wr => ∃ (k N c2 : Nat) (A2 : Option Addr) (out : List UInt8), k ≤ n ∧ s = .int .i64 k ∧ v = .slice A2 N c2 ∧ N = 2 + 8 * k ∧ out = be 2 (8 * n) ++ spBytes (l.take k) ∧ Own wr w.heap.size 5 1 A2 N c2 (out.map u8v) ∧ Below w.heap.size w wr) (fun s _ _ => n - (RowKit.intOf s).toNat)
      case atStart => exact ⟨0, 2, c2, A2, be 2 (8 * n), by omega, rfl, rfl, by omega, by simp [spBytes], ho2', hB12⟩
      case round =>
        clear ho2' hB12
        obtain ⟨k, N, c2, A2, out, hk, rfl, rfl, hN, hout, ho, hBr⟩ := hrel
        by_cases hlt : k < n
        · obtain ⟨b, off, rfl, hbB, hkl, hc0, hc1⟩ := RdS.at_k (hr.below (hBr.mono hB)) hlt
          have hbk := hb l[k] (List.getElem_mem hkl)
          have hnx := spBytes_next hkl
          have HN : Hid (be 2 (8 * n) ++ spBytes (l.take (k + 1)) = (out ++ be 4 l[k].1) ++ be 4 l[k].2) := Lib.hid (by rw [hnx, hout]; simp)
          clear hnx hout
          have HNN := Lib.hid hN
          have hN2 : N ≤ 10000 := by omega
          clear hN
          generalize l[k].1 = f at *
          generalize l[k].2 = t at *
          have hB2 : Below w.heap.size w (wr.alloc (.cells #[.int .u32 (f : Int), .int .u32 (t : Int)] 113)) := hBr.alloc hBr.size _
          have ho2 : Own (wr.alloc (.cells #[.int .u32 (f : Int), .int .u32 (t : Int)] 113)) w.heap.size 5 1 A2 N c2 (out.map u8v) := ho.alloc _
          have hq : (wr.alloc (.cells #[.int .u32 (f : Int), .int .u32 (t : Int)] 113)).drew.cell? ⟨wr.heap.size, 0, none⟩ = some (.int .u32 (f : Int)) ∧ (wr.alloc (.cells #[.int .u32 (f : Int), .int .u32 (t : Int)] 113)).drew.cell? ⟨wr.heap.size, 1, none⟩ = some (.int .u32 (t : Int)) := ⟨World.cell?_alloc_new _ _ _ _, World.cell?_alloc_new _ _ _ _⟩
          go_wp2_with (first | (with_reducible refine hold_append ?_) | (with_reducible refine hold_make ?_) | (with_reducible refine hold_copy ?_))
          have hwf : IntKind.u64.wrap ((f : Nat) : Int) = (f : Int) := IntWalk.u64_in _ ⟨by omega, by omega⟩
          have hwt : IntKind.u64.wrap ((t : Nat) : Int) = (t : Int) := IntWalk.u64_in _ ⟨by omega, by omega⟩
          refine rg_start (fun wx => wx.cell? ⟨wr.heap.size, 0, none⟩ = some (.int .u32 (f : Int)) ∧ wx.cell? ⟨wr.heap.size, 1, none⟩ = some (.int .u32 (t : Int))) (by kernel_rfl) ?_
          refine rg_take 0 (v := ?_) rfl (by kernel_rfl) (by kernel_rfl) (by kernel_rfl) hq rfl ?_ ?_
          rotate_left
          · intro wS hSw; go_simp; (with_reducible rfl)
          simp only [List.getElem_toArray, List.getElem_cons_zero, Act.put, List.setIfInBounds_toArray, List.set_cons_zero, List.set_cons_succ]
          refine rg_take 1 (v := ?_) rfl (by kernel_rfl) (by kernel_rfl) (by kernel_rfl) hq rfl ?_ ?_
          rotate_left
          · intro wS hSw; go_simp; (with_reducible rfl)
          simp only [List.getElem_toArray, List.getElem_cons_succ, List.getElem_cons_zero, Act.put, List.setIfInBounds_toArray, List.set_cons_zero, List.set_cons_succ]
          refine rg_take 2 (v := ?_) rfl (by kernel_rfl) (by kernel_rfl) (by kernel_rfl) hq rfl ?_ ?_
          rotate_left
          · intro wS hSw; go_simp; (with_reducible rfl)
          simp only [List.getElem_toArray, List.getElem_cons_succ, List.getElem_cons_zero, Act.put, List.setIfInBounds_toArray, List.set_cons_zero, List.set_cons_succ]
          refine rg_take 3 (v := ?_) rfl (by kernel_rfl) (by kernel_rfl) (by kernel_rfl) hq rfl ?_ ?_
          rotate_left
          · intro wS hSw; go_simp; (with_reducible rfl)
          simp only [List.getElem_toArray, List.getElem_cons_succ, List.getElem_cons_zero, Act.put, List.setIfInBounds_toArray, List.set_cons_zero, List.set_cons_succ]
          refine rg_take 5 (v := ?_) rfl (by kernel_rfl) (by kernel_rfl) (by kernel_rfl) hq rfl ?_ ?_
          rotate_left
          · intro wS hSw; go_simp; (with_reducible rfl)
          simp only [List.getElem_toArray, List.getElem_cons_succ, List.getElem_cons_zero, Act.put, List.setIfInBounds_toArray, List.set_cons_zero, List.set_cons_succ]
          refine rg_take 6 (v := ?_) rfl (by kernel_rfl) (by kernel_rfl) (by kernel_rfl) hq rfl ?_ ?_
          rotate_left
          · intro wS hSw; go_simp; (with_reducible rfl)
          simp only [List.getElem_toArray, List.getElem_cons_succ, List.getElem_cons_zero, Act.put, List.setIfInBounds_toArray, List.set_cons_zero, List.set_cons_succ]
          refine rg_take 7 (v := ?_) rfl (by kernel_rfl) (by kernel_rfl) (by kernel_rfl) hq rfl ?_ ?_
          rotate_left
          · intro wS hSw; go_simp; (with_reducible rfl)
          simp only [List.getElem_toArray, List.getElem_cons_succ, List.getElem_cons_zero, Act.put, List.setIfInBounds_toArray, List.set_cons_zero, List.set_cons_succ]
          have hB2d := below_drewN hB2 1
          have hkeep : ∀ w4 : World, Below (wr.alloc (.cells #[.int .u32 (f : Int), .int .u32 (t : Int)] 113)).drew.heap.size (wr.alloc (.cells #[.int .u32 (f : Int), .int .u32 (t : Int)] 113)).drew w4 → w4.cell? ⟨wr.heap.size, 0, none⟩ = some (.int .u32 (f : Int)) ∧ w4.cell? ⟨wr.heap.size, 1, none⟩ = some (.int .u32 (t : Int)) := fun w4 hb =>
            ⟨(hb.cell (p := ⟨wr.heap.size, 0, none⟩) (World.block_lt_of_cell? _ _ hq.1)).trans hq.1, (hb.cell (p := ⟨wr.heap.size, 1, none⟩) (World.block_lt_of_cell? _ _ hq.2)).trans hq.2⟩
          have hp4 := put_any A2 N c2 out f 4 (wr.alloc (.cells #[.int .u32 (f : Int), .int .u32 (t : Int)] 113)).drew ho2.rd.drew (by omega) (by omega)
          have hlo : out.length = N := RdB.length ho.rd
          have hlen4 : (out ++ be 4 f).length = N + 4 := by simp [be_length, hlo]
          have hlen8 : ((out ++ be 4 f) ++ be 4 t).length = N + 8 := by simp [be_length, hlo]
          rw [put4, hlen4] at hp4
          refine rg_one 4 rfl (by kernel_rfl) rfl (fun K hK => ?_)
          go_simp
          refine hp4.mono ?_
          rintro e w4 ⟨A4, c4, rfl, ho4, hB4⟩
          have hq4 := hkeep _ hB4
          have hB24 := hB2d.trans (hB4.mono hB2d.size)
          have ho4' := ho4.base_le hB2d.size
          have hp8 := put_any A4 (N + 4) c4 (out ++ be 4 f) t 4 w4 ho4.rd (by omega) (by omega)
          rw [put4, hlen8] at hp8
          refine hK _ _ hq4 ?_; clear hK K
          refine rg_one 8 rfl (by kernel_rfl) rfl (fun K hK => ?_)
          go_simp
          refine hp8.mono ?_
          rintro e w5 ⟨A5, c5, rfl, ho5, hB5⟩
          have hq5 : w5.cell? ⟨wr.heap.size, 0, none⟩ = some (.int .u32 (f : Int)) ∧ w5.cell? ⟨wr.heap.size, 1, none⟩ = some (.int .u32 (t : Int)) := ⟨(hB5.cell (p := ⟨wr.heap.size, 0, none⟩) (World.block_lt_of_cell? _ _ hq4.1)).trans hq4.1, (hB5.cell (p := ⟨wr.heap.size, 1, none⟩) (World.block_lt_of_cell? _ _ hq4.2)).trans hq4.2⟩
          have hB25 := hB24.trans (hB5.mono hB24.size)
          have ho5' := ho5.base_le hB24.size
          refine hK _ _ hq5 ?_; clear hK K
          refine rg_take 9 (v := ?_) rfl (by kernel_rfl) (by kernel_rfl) (by kernel_rfl) hq5 rfl ?_ ?_
          rotate_left
          · intro wS hSw; go_simp; (with_reducible rfl)
          simp only [List.getElem_toArray, List.getElem_cons_succ, List.getElem_cons_zero, Act.put, List.setIfInBounds_toArray, List.set_cons_zero, List.set_cons_succ]
          refine rg_end (by kernel_rfl) ?_
          go_wp2_with (first | (with_reducible refine hold_append ?_) | (with_reducible refine hold_make ?_) | (with_reducible refine hold_copy ?_))
          have hNN := HNN.out
          exact ⟨⟨k + 1, N + 8, c5, A5, (out ++ be 4 f) ++ be 4 t, by omega, by go_num, rfl, by omega, HN.out.symm, ho5', hB25⟩, by simp [RowKit.intOf]; omega⟩
        · obtain rfl : k = n := by omega
          have HO : Hid (out = be 2 (8 * k) ++ spBytes l) := Lib.hid (by rw [hout, List.take_of_length_le (by omega)])
          clear hout
          have hlen : (be 2 (8 * k) ++ spBytes l).length = N := by rw [← HO.out]; exact RdB.length ho.rd
          have HL := Lib.hid hlen
          clear hlen
          go_wp2_with (first | (with_reducible refine hold_append ?_) | (with_reducible refine hold_make ?_) | (with_reducible refine hold_copy ?_))
          go_ret2
          rw [HL.out, ← HO.out]
          exact ⟨A2, c2, rfl, ho, hBr⟩
end Go.PH
end
section
/- The walk of Put of spans, the document's. -/
set_option linter.all false
set_option linter.unusedSimpArgs false
set_option linter.unusedVariables false
namespace Go.PH
open Go.RowKit Go.Proofs

set_option maxRecDepth 20000 in
set_option maxHeartbeats 1000000 in
theorem rspput_any (A : Option Addr) (n c : Nat) (l : List Sp) (B : Nat) (w : World) (hr : RdS w B A n c l) (hb : spOK 4294967296 l) (hB : B ≤ w.heap.size) (hn : n ≤ 140737488351232) :
    Calls Tryz.prog 73 #[.slice A n c] w fun e w' => ∃ A2 c2, e = .returned (.tuple #[.slice A2 (spPut l).length c2, .int .i64 (spPutErr l)]) ∧ Own w' w.heap.size 5 1 A2 (spPut l).length c2 ((spPut l).map u8v) ∧ Below w.heap.size w w' := by
  have hl := hr.length
  have hra := rright_any A n c l B w hr hb hB (by omega)
  cases hright : spRight l
  · rw [hright] at hra
    have e1 : spPut l = [] := by simp [spPut, hright]
    have e2 : spPutErr l = 30 := by simp [spPutErr, hright]
    rw [e1, e2]
    go_enter Tryz.func73, Tryz.ntmps73
    go_wp2_with (first | (with_reducible refine hold_append ?_) | (with_reducible refine hold_make ?_) | (with_reducible refine hold_copy ?_))
    refine hra.mono ?_
    rintro e w1 ⟨rfl, hB1⟩
    go_wp2_with (first | (with_reducible refine hold_append ?_) | (with_reducible refine hold_make ?_) | (with_reducible refine hold_copy ?_))
    go_ret2
    exact ⟨none, 0, rfl, Own.none_ _ _ _ _, hB1⟩
  · rw [hright] at hra
    by_cases h1000 : 1000 < n
    · have e1 : spPut l = [] := by simp [spPut]; omega
      have e2 : spPutErr l = 6 := by simp [spPutErr, hright]; omega
      rw [e1, e2]
      have hd : (1000 : Int) < (n : Int) := by omega
      clear hright e1 e2
      go_enter Tryz.func73, Tryz.ntmps73
      go_wp2_with (first | (with_reducible refine hold_append ?_) | (with_reducible refine hold_make ?_) | (with_reducible refine hold_copy ?_))
      refine hra.mono ?_
      rintro e w1 ⟨rfl, hB1⟩
      go_wp2_with (first | (with_reducible refine hold_append ?_) | (with_reducible refine hold_make ?_) | (with_reducible refine hold_copy ?_))
      go_ret2
      exact ⟨none, 0, rfl, Own.none_ _ _ _ _, hB1⟩
    · have e1 : spPut l = be 2 (8 * n) ++ spBytes l := by rw [spPut, if_pos ⟨hright, by omega⟩, hl]
      have e2 : spPutErr l = 0 := by rw [spPutErr, if_pos hright, if_pos (by omega)]
      rw [e1, e2]
      have hd : ¬ (1000 : Int) < (n : Int) := by omega
      clear hright e1 e2
      go_enter Tryz.func73, Tryz.ntmps73
      go_wp2_with (first | (with_reducible refine hold_append ?_) | (with_reducible refine hold_make ?_) | (with_reducible refine hold_copy ?_))
      refine hra.mono ?_
      rintro e w1 ⟨rfl, hB1⟩
      have hw8 : IntKind.i64.wrap (8 * (n : Int)) = ((8 * n : Nat) : Int) := by rw [IntWalk.i64_in _ ⟨by omega, by omega⟩]; omega
      have hw9 : IntKind.u64.wrap ((8 * n : Nat) : Int) = ((8 * n : Nat) : Int) := IntWalk.u64_in _ ⟨by omega, by omega⟩
      have hp2 := rnumber_any (8 * n) 2 w1 (by omega) (by omega)
      obtain ⟨n8, hn8⟩ : ∃ n8, n8 = 8 * n := ⟨_, rfl⟩
      rw [← hn8] at hw8 hw9 hp2
      have HN8 := Lib.hid hn8
      clear hn8
      go_wp2_with (first | (with_reducible refine hold_append ?_) | (with_reducible refine hold_make ?_) | (with_reducible refine hold_copy ?_))
      refine hp2.mono ?_
      rintro e w2 ⟨A2, c2, rfl, ho2, hB2⟩
      have hB12 := hB1.trans (hB2.mono hB1.size)
      have ho2' := ho2.base_le hB1.size
      rw [HN8.out] at ho2'
      clear ho2 hB1 hB2 hp2
      go_wp2_with (first | (with_reducible refine hold_append ?_) | (with_reducible refine hold_make ?_) | (with_reducible refine hold_copy ?_))
      go_loopw [5, 4] (fun s v wr => ∃ (k N c2 : Nat) (A2 : Option Addr) (out : List UInt8), k ≤ n ∧ s = .int .i64 k ∧ v = .slice A2 N c2 ∧ N = 2 + 8 * k ∧ out = be 2 (8 * n) ++ spBytes (l.take k) ∧ Own wr w.heap.size 5 1 A2 N c2 (out.map u8v) ∧ Below w.heap.size w wr) (fun s _ _ => n - (RowKit.intOf s).toNat)
      case atStart => exact ⟨0, 2, c2, A2, be 2 (8 * n), by omega, rfl, rfl, by omega, by simp [spBytes], ho2', hB12⟩
      case round =>
        clear ho2' hB12
        obtain ⟨k, N, c2, A2, out, hk, rfl, rfl, hN, hout, ho, hBr⟩ := hrel
        by_cases hlt : k < n
        · obtain ⟨b, off, rfl, hbB, hkl, hc0, hc1⟩ := RdS.at_k (hr.below (hBr.mono hB)) hlt
          have hbk := hb l[k] (List.getElem_mem hkl)
          have hnx := spBytes_next hkl
          have HN : Hid (be 2 (8 * n) ++ spBytes (l.take (k + 1)) = (out ++ be 4 l[k].1) ++ be 4 l[k].2) := Lib.hid (by rw [hnx, hout]; simp)
          clear hnx hout
          generalize l[k].1 = f at *
          generalize l[k].2 = t at *
          have hbb : b < wr.heap.size := World.block_lt_of_cell? wr _ hc0
          have HNN := Lib.hid hN
          have hN2 : N ≤ 10000 := by omega
          clear hN
          go_wp2_with (first | (with_reducible refine hold_append ?_) | (with_reducible refine hold_make ?_) | (with_reducible refine hold_copy ?_))
          refine (rnumber_any f 4 wr (by omega) (by omega)).mono ?_
          rintro e w3 ⟨A3, c3, rfl, ho3, hB3⟩
          have hB13 := hBr.trans (hB3.mono hBr.size)
          have hok3 := own_below ho hB3
          go_wp2_with (first | (with_reducible refine hold_append ?_) | (with_reducible refine hold_make ?_) | (with_reducible refine hold_copy ?_))
          refine unhold (wp_app slB rfl rfl rfl rfl hok3 ho3.rd (map_one _) (by omega) (by simp [maxLen]; omega) hB13.size ?_)
          intro A4 c4 w4 ho4 hg4 _
          have hB4 := hB13.grown hg4 hB13.size (fun g hg => (hok3.blk_lt hg).1)
          rw [← List.map_append] at ho4
          have hc1' : w4.cell? ⟨b, off + k * 2 + 1, none⟩ = some (.int .u32 (t : Int)) := by
            have h1 := (hB3.cell (p := ⟨b, off + k * 2 + 1, none⟩) hbb).trans hc1
            refine hg4.cell h1 (fun e => ?_)
            have h2 := (hok3.blk_lt e.symm).1
            have h3 : b < w.heap.size := by omega
            exact absurd h2 (by show ¬ w.heap.size ≤ b; omega)
          clear hg4 hok3 ho3 hc0 hc1
          go_wp2_with (first | (with_reducible refine hold_append ?_) | (with_reducible refine hold_make ?_) | (with_reducible refine hold_copy ?_))
          refine (rnumber_any t 4 w4 (by omega) (by omega)).mono ?_
          rintro e w5 ⟨A5, c5, rfl, ho5, hB5⟩
          have hB15 := hB4.trans (hB5.mono hB4.size)
          have hok5 := own_below ho4 hB5
          go_wp2_with (first | (with_reducible refine hold_append ?_) | (with_reducible refine hold_make ?_) | (with_reducible refine hold_copy ?_))
          refine unhold (wp_app slB rfl rfl rfl rfl hok5 ho5.rd (map_one _) (by omega) (by simp [maxLen]; omega) hB15.size ?_)
          intro A6 c6 w6 ho6 hg6 _
          have hB6 := hB15.grown hg6 hB15.size (fun g hg => (hok5.blk_lt hg).1)
          rw [← List.map_append] at ho6
          go_wp2_with (first | (with_reducible refine hold_append ?_) | (with_reducible refine hold_make ?_) | (with_reducible refine hold_copy ?_))
          have hNN := HNN.out
          exact ⟨⟨k + 1, N + 4 + 4, c6, A6, (out ++ be 4 f) ++ be 4 t, by omega, by go_num, rfl, by omega, HN.out.symm, ho6, hB6⟩, by simp [RowKit.intOf]; omega⟩
        · obtain rfl : k = n := by omega
          have HO : Hid (out = be 2 (8 * k) ++ spBytes l) := Lib.hid (by rw [hout, List.take_of_length_le (by omega)])
          clear hout
          have hlen : (be 2 (8 * k) ++ spBytes l).length = N := by rw [← HO.out]; exact RdB.length ho.rd
          have HL := Lib.hid hlen
          clear hlen
          go_wp2_with (first | (with_reducible refine hold_append ?_) | (with_reducible refine hold_make ?_) | (with_reducible refine hold_copy ?_))
          go_ret2
          rw [HL.out, ← HO.out]
          exact ⟨A2, c2, rfl, ho, hBr⟩
end Go.PH
end
section
/- Texts: cut, put together, turned into bytes. -/
set_option linter.all false
set_option linter.unusedSimpArgs false
set_option linter.unusedVariables false
namespace Go.PH
open Go.RowKit
section
variable {P : Program} {w : World} {t : TypeId}
theorem str_extract (l : List UInt8) (a b : Nat) : (str l).extract a b = str ((l.take b).drop a) := by
  rw [List.drop_take]; exact ByteArray.extract_mk l a b
theorem str_app (a b : List UInt8) : str a ++ str b = str (a ++ b) := by
  apply ByteArray.ext
  simp [str]
theorem str_nil : str [] = ⟨#[]⟩ := rfl
theorem run_cutS (hu : P.underlying t = some .string) (w : World) {l : List UInt8} {lo hi : Option Value} (i j : Nat) (hlo : Bd lo 0 i) (hhi : Bd hi l.length j) (h1 : i ≤ j) (h2 : j ≤ l.length) :
    (Instr.sliceAt t (.string (str l)) lo hi none).run P w = .ok (.string (str ((l.take j).drop i))) w := by
  rw [run_sliceAt_string w t _ _ _ _ hu]
  rcases hlo with ⟨rfl, rfl⟩ | ⟨kd, X, rfl, rfl⟩
  · rcases hhi with ⟨rfl, rfl⟩ | ⟨kd, X, rfl, rfl⟩
    · rw [run_slice_string_all (h := hu), str_size, str_extract]
    · rw [run_slice_string_h (ht := hu) (h0 := by omega) (h2 := by rw [str_size]; omega), str_extract]; simp
  · rcases hhi with ⟨rfl, rfl⟩ | ⟨kd', X, rfl, rfl⟩
    · rw [run_slice_string_l (ht := hu) (h0 := by omega) (h1 := by rw [str_size]; omega), str_size, str_extract]; simp
    · rw [run_slice_string (h := hu) (h0 := by omega) (h1 := by omega) (h2 := by rw [str_size]; omega), str_extract]; simp
variable {ops : Array Oper} {rest : List Oper} {o : Oper} {a : Act} {Q : Exit → Act → World → Prop} {x : Operand} {K : Act → World → Prop}
theorem op_cutS {lo hi : Option Operand} (hu : P.underlying t = some .string) (ho : o.op = .slice t x lo hi none) {l : List UInt8} (hx : a.eval x = .string (str l)) (i j : Nat) (hlo : Bd (lo.map a.eval) 0 i) (hhi : Bd (hi.map a.eval) l.length j) (h1 : i ≤ j) (h2 : j ≤ l.length)
    (hk : K (a.put o.dst (.string (str ((l.take j).drop i)))) w) : o.wp P a w K Q := by
  have hrun := run_cutS hu w i j hlo hhi h1 h2
  unfold Oper.wp execOp
  simp only [ho, hx, Sem.run_bind, Sem.run_pure, Result.andThen_ok, Option.map_none, hrun]
  exact hk
theorem wp_cutS {lo hi : Option Operand} (hu : P.underlying t = some .string) (hw : Region.wanted o (yielded ops a.tmps) = true) (ho : o.op = .slice t x lo hi none) {l : List UInt8} (hx : a.eval x = .string (str l)) (i j : Nat) (hlo : Bd (lo.map a.eval) 0 i) (hhi : Bd (hi.map a.eval) l.length j) (h1 : i ≤ j) (h2 : j ≤ l.length)
    (hk : wpList P ops Q rest (a.put o.dst (.string (str ((l.take j).drop i)))) w) : wpList P ops Q (o :: rest) a w :=
  BigFrame.wpList_want hw fun K hK => op_cutS hu ho hx i j hlo hhi h1 h2 (hK _ _ hk)
/-- []byte(s) -/
theorem run_s2b {src dst e : TypeId} (hs : P.underlying src = some .string) (hd : P.underlying dst = some (.slice e)) (he : P.underlying e = some (.int .u8)) (w : World) (l : List UInt8) (hl : l.length ≤ 140737488351240) :
    ∃ c w', (convert src dst (.string (str l))).run P w = .ok (.slice (some ⟨w.heap.size, 0, none⟩) l.length c) w' ∧ RdB w' w'.heap.size (some ⟨w.heap.size, 0, none⟩) l.length c l ∧ Below w.heap.size w w' := by
  refine ⟨_, _, Lib.run_convert_string_bytes w src dst e (str l) hs hd he, ?_, ?_⟩
  · refine ⟨by simp, ?_, ?_, fun hn => ⟨_, _, rfl, by rw [Lib.bytesWorld_size]; omega, fun j u hu => ?_⟩⟩
    · exact grownCap_ge _ _ _ _
    · exact grownCap_le_maxLen _ _ _ _ (by simp only [maxLen, str_size]; omega)
    · have hj : j < l.length := by have := (List.getElem?_eq_some_iff.1 hu).1; simpa using this
      have := Lib.bytesWorld_cell w e (str l) j (by rw [str_size]; exact hj)
      simp only [Nat.zero_add]
      rw [this]
      simp [u8v, str, List.getD, hj] at hu ⊢
      exact hu
  · refine ⟨?_, ?_, ?_, by rw [Lib.bytesWorld_size]; omega, fun k hk => Lib.bytesWorld_at_old w e (str l) k hk⟩
    all_goals rfl
theorem op_s2b {src dst e : TypeId} (hs : P.underlying src = some .string) (hd : P.underlying dst = some (.slice e)) (he : P.underlying e = some (.int .u8)) (ho : o.op = .convert src dst x) {l : List UInt8} (hx : a.eval x = .string (str l)) (hl : l.length ≤ 140737488351240)
    (hk : ∀ c w', RdB w' w'.heap.size (some ⟨w.heap.size, 0, none⟩) l.length c l → Below w.heap.size w w' → K (a.put o.dst (.slice (some ⟨w.heap.size, 0, none⟩) l.length c)) w') : o.wp P a w K Q := by
  obtain ⟨c, w', hrun, h1, h2⟩ := run_s2b hs hd he w l hl
  unfold Oper.wp execOp
  simp only [ho, hx, Sem.run_bind, Sem.run_pure, Result.andThen_ok, hrun]
  exact hk _ _ h1 h2
theorem wp_s2b {src dst e : TypeId} (hs : P.underlying src = some .string) (hd : P.underlying dst = some (.slice e)) (he : P.underlying e = some (.int .u8)) (hw : Region.wanted o (yielded ops a.tmps) = true) (ho : o.op = .convert src dst x) {l : List UInt8} (hx : a.eval x = .string (str l)) (hl : l.length ≤ 140737488351240)
    (hk : ∀ c w', RdB w' w'.heap.size (some ⟨w.heap.size, 0, none⟩) l.length c l → Below w.heap.size w w' → wpList P ops Q rest (a.put o.dst (.slice (some ⟨w.heap.size, 0, none⟩) l.length c)) w') : wpList P ops Q (o :: rest) a w :=
  BigFrame.wpList_want hw fun K hK => op_s2b hs hd he ho hx hl fun c w' h1 h2 => hK _ _ (hk c w' h1 h2)
end
end Go.PH
end

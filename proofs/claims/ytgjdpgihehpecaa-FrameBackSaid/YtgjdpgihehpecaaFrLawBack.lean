/- FrameBack: for every input of the form's own reach the law returns true and writes nothing that was there. -/
import Derived.Test.YtgjdpgihehpecaaFrHead
import Derived.Test.YtgjdpgihehpecaaFrBytes
import Derived.Test.YtgjdpgihehpecaaFrSame
import Derived.Test.YtgjdpgihehpecaaFrScanMath4
import Derived.Test.YtgjdpgihehpecaaRegion2
namespace Go.PH
open Go.RowKit Go.Proofs

set_option maxRecDepth 20000 in
set_option maxHeartbeats 1000000 in
theorem law_FrameBack (A : Option Addr) (n c : Nat) (l : List Fr) (f : Fr) (cut : Nat) (w : World) (hr : RdF w w.heap.size A n c l) (hf : ∀ f ∈ l, f.wf ∧ f.load.length ≤ 140737488351232) (hw : f.wf) (hld : f.load.length ≤ 140737488351232) (hcut : cut < 65536) (hn : n ≤ 140737488351232) :
    Calls Try.prog 5 #[.slice A n c, .agg (frV f), .int .u16 cut] w fun e w' => e = .returned (.bool true) ∧ Below w.heap.size w w' := by
  have hl := rec_length frShape hr
  have hp := fun W => fput_any f W hw hld
  have hc := fun W => check_any f W hw hld
  have hback := fun k hk => frScan_back (l := l) (fun g hg => (hf g hg).1) (f := f) hw (k := k) hk
  have hok0 : f.err = 0 ∧ f.ok = true ∨ f.err = 60 := by
    cases h : f.ok
    · right; simp [Fr.err, h]
    · left; simp [Fr.err, h]
  have hblen := f.bytes_length
  have hput : f.ok = true → f.put = f.bytes := fun h => by simp [Fr.put, h]
  have hok4 : f.ok = true → f.load.length ≤ 4084 := fun h => by unfold Fr.ok at h; simp at h; exact h.2
  generalize hpe : f.put = pb at *
  generalize hee : f.err = pe at *
  generalize hbb : f.bytes = fb at *
  generalize hoo : f.ok = fo at *
  clear hpe hee hbb hoo
  obtain ⟨b1, b2, b3, b4, ty, tr, ch, ld⟩ := f
  unfold frV at *
  simp only at hp hc hblen hok4
  have hB0 : Below w.heap.size w (w.alloc (.cells #[.bool b1, .bool b2, .bool b3, .bool b4, .int .u8 (ty : Int), .int .u8 (tr : Int), .int .u16 (ch : Int), .string (str ld)] 24)) := (Below.refl _ _).alloc (Nat.le_refl _) _
  have hb0 := box_new (w := w) (b1 := b1) (b2 := b2) (b3 := b3) (b4 := b4) (ty := ty) (tr := tr) (ch := ch) (ld := ld)
  have hz0 := hB0.size
  by_cases h30 : 30 < n
  · have hd : (30 : Int) < (n : Int) := by omega
    clear hp hc hback hok0
    go_enter Try.func5, Try.ntmps5
    go_wp2_with (first | (with_reducible refine hold_append ?_) | (with_reducible refine hold_make ?_) | (with_reducible refine hold_copy ?_))
    refine (head_any _).mono ?_
    rintro e w1 ⟨rfl, hB1⟩
    have hB2 := hB0.trans (hB1.mono hz0)
    go_wp2_with (first | (with_reducible refine hold_append ?_) | (with_reducible refine hold_make ?_) | (with_reducible refine hold_copy ?_))
    go_ret
    exact ⟨rfl, hB2⟩
  · have hd : ¬ (30 : Int) < (n : Int) := by omega
    obtain ⟨k0, k1, k2, k3, k4, k5, k6, k7⟩ := id hb0
    rcases hok0 with ⟨rfl, rfl⟩ | rfl
    · have hput := hput rfl
      subst hput
      have hok4 := hok4 rfl
      have hby := fun W h => bytes_any A n c l w.heap.size W h
      go_enter Try.func5, Try.ntmps5
      go_wp2_with (first | (with_reducible refine hold_append ?_) | (with_reducible refine hold_make ?_) | (with_reducible refine hold_copy ?_))
      refine (hc _).mono ?_
      rintro e w1 ⟨rfl, hB1⟩
      have hb1 := box_below hb0 hB1
      have hB2 := hB0.trans (hB1.mono hz0)
      clear hB0 hB1 hb0 k0 k1 k2 k3 k4 k5 k6 k7
      have hz2 := hB2.size
      go_wp2_with (first | (with_reducible refine hold_append ?_) | (with_reducible refine hold_make ?_) | (with_reducible refine hold_copy ?_))
      refine (bytes_any A n c l w.heap.size w1 (Rd.below hr hB2) hz2 hf (by omega)).mono ?_
      have hbl := frBytes_len l
      have hol := frOks_len l
      obtain ⟨N, hN⟩ : ∃ N, N = (frBytes l).length := ⟨_, rfl⟩
      obtain ⟨M, hM⟩ : ∃ M, M = (frOks l).length := ⟨_, rfl⟩
      simp only [← hN] at hback
      rw [← hN, ← hM]
      rw [← hN] at hbl
      rw [← hM] at hol
      have HM := Lib.hid hM
      clear hN hM
      generalize frBytes l = bs at *
      generalize frOks l = ms at *
      rintro e w2 ⟨A1, c1, A2, c2, rfl, ho1, ho2, hB3⟩
      have hb2 := box_below hb1 hB3
      have hB4 := hB2.trans (hB3.mono hz2)
      have hz4 := hB4.size
      clear hB2 hB3 hb1
      obtain ⟨k0, k1, k2, k3, k4, k5, k6, k7⟩ := id hb2
      go_wp2_with (first | (with_reducible refine hold_append ?_) | (with_reducible refine hold_make ?_) | (with_reducible refine hold_copy ?_))
      refine (hp _).mono ?_
      obtain ⟨X, hX⟩ : ∃ X, X = pb.length := ⟨_, rfl⟩
      rw [← hX] at hblen hback ⊢
      have HX := Lib.hid hX
      clear hX
      rintro e w3 ⟨A3, c3, rfl, ho3, hB5⟩
      have ho13 := own_below ho1 hB5
      have ho23 : OwnF w3 w1.heap.size A2 M c2 ms := own_below ho2 hB5
      have hB6 := hB4.trans (hB5.mono hz4)
      have hz6 := hB6.size
      clear hB4 hB5 ho1 ho2 k0 k1 k2 k3 k4 k5 k6 k7 hb2
      have hX0 : (((X : Nat) : Int) == 0) = false := by rw [beq_eq_false_iff_ne]; omega
      have hX1 : 12 ≤ X := by omega
      have hX4 : X ≤ 4096 := by omega
      have hXn : ¬ X = 0 := by omega
      clear hblen hp hc
      obtain ⟨k, hk⟩ : ∃ k, k = cut % X := ⟨_, rfl⟩
      have hkX : k < X := by rw [hk]; exact Nat.mod_lt _ (by omega)
      have hwc : IntKind.i64.wrap ((cut : Nat) : Int) = (cut : Int) := IntWalk.i64_in _ ⟨by omega, by omega⟩
      have hm1 : ((cut : Nat) : Int) % ((X : Nat) : Int) = ((k : Nat) : Int) := by rw [hk]; simp
      have hm2 : ((cut : Nat) : Int).tmod ((X : Nat) : Int) = ((k : Nat) : Int) := by rw [Int.tmod_eq_emod_of_nonneg (by omega)]; exact hm1
      have hwk : IntKind.i64.wrap ((k : Nat) : Int) = (k : Int) := IntWalk.i64_in _ ⟨by omega, by omega⟩
      have hfs := hback k (by first | trivial | rfl) hkX
      have hsc := fun A c W h => scan_any A (N + k) c (bs ++ pb.take k) W h (by omega)
      rw [hfs] at hsc
      simp only [← HM.out] at hsc
      have HK := Lib.hid hk
      clear hk hfs hback
      have hXc := ho3.rd.cap
      have hXm := ho3.rd.max
      have hcutx := rd_cut ho3.rd 0 k c3 (Nat.zero_le _) (by omega) (Nat.le_refl _) (by omega)
      simp only [Nat.mul_one, ← List.map_take, ← List.map_drop, Nat.zero_mul, List.drop_zero, Nat.sub_zero] at hcutx
      go_wp2_with (first | (with_reducible refine hold_append ?_) | (with_reducible refine hold_make ?_) | (with_reducible refine hold_copy ?_))
      refine rg_start (fun wx : World => RdB wx w3.heap.size A1 N c1 bs ∧ RdB wx w3.heap.size (cutA A3 1 0 c3) k c3 (pb.take k)) (by kernel_rfl) ?_
      have hS : RdB w3.drew w3.heap.size A1 N c1 bs ∧ RdB w3.drew w3.heap.size (cutA A3 1 0 c3) k c3 (pb.take k) := ⟨Rd.drew ho13.rd, Rd.drew hcutx⟩
      refine rg_take 0 (v := ?_) rfl (by kernel_rfl) (by kernel_rfl) (by kernel_rfl) hS rfl ?_ ?_
      rotate_left
      · intro wS hSw; go_simp; (with_reducible rfl)
      simp only [List.getElem_toArray, List.getElem_cons_zero, Act.put, List.setIfInBounds_toArray, List.set_cons_zero, List.set_cons_succ]
      refine rg_take 2 (v := ?_) rfl (by kernel_rfl) (by kernel_rfl) (by kernel_rfl) hS rfl ?_ ?_
      rotate_left
      · intro wS hSw; go_simp; (with_reducible rfl)
      simp only [List.getElem_toArray, List.getElem_cons_succ, List.getElem_cons_zero, Act.put, List.setIfInBounds_toArray, List.set_cons_zero, List.set_cons_succ]
      refine rg_take 3 (v := ?_) rfl (by kernel_rfl) (by kernel_rfl) (by kernel_rfl) hS rfl ?_ ?_
      rotate_left
      · intro wS hSw; go_simp; (with_reducible rfl)
      simp only [List.getElem_toArray, List.getElem_cons_succ, List.getElem_cons_zero, Act.put, List.setIfInBounds_toArray, List.set_cons_zero, List.set_cons_succ]
      refine rg_take 4 (v := ?_) rfl (by kernel_rfl) (by kernel_rfl) (by kernel_rfl) hS rfl ?_ ?_
      rotate_left
      · intro wS hSw; go_simp; (with_reducible rfl)
      simp only [List.getElem_toArray, List.getElem_cons_succ, List.getElem_cons_zero, Act.put, List.setIfInBounds_toArray, List.set_cons_zero, List.set_cons_succ]
      refine rg_take 5 (v := ?_) rfl (by kernel_rfl) (by kernel_rfl) (by kernel_rfl) hS rfl ?_ ?_
      rotate_left
      · intro wS hSw; go_simp; (with_reducible rfl)
      simp only [List.getElem_toArray, List.getElem_cons_succ, List.getElem_cons_zero, Act.put, List.setIfInBounds_toArray, List.set_cons_zero, List.set_cons_succ]
      refine rg_take 6 (v := ?_) rfl (by kernel_rfl) (by kernel_rfl) (by kernel_rfl) hS rfl ?_ ?_
      rotate_left
      · intro wS hSw; go_simp; (with_reducible rfl)
      simp only [List.getElem_toArray, List.getElem_cons_succ, List.getElem_cons_zero, Act.put, List.setIfInBounds_toArray, List.set_cons_zero, List.set_cons_succ]
      refine rg_take 7 (v := ?_) rfl (by kernel_rfl) (by kernel_rfl) (by kernel_rfl) hS rfl ?_ ?_
      rotate_left
      · intro wS hSw; go_simp; (with_reducible rfl)
      simp only [List.getElem_toArray, List.getElem_cons_succ, List.getElem_cons_zero, Act.put, List.setIfInBounds_toArray, List.set_cons_zero, List.set_cons_succ]
      have hd2 : Bd (some (Value.int .i64 (k : Int))) X k := .inr ⟨_, _, rfl, rfl⟩
      refine rg_slice 8 slB rfl (by kernel_rfl) (by kernel_rfl) (by kernel_rfl) hS rfl rfl rfl hXm hXc 0 k c3 (.inl ⟨rfl, rfl⟩) hd2 (.inl ⟨rfl, rfl⟩) (fun h => by cases h) (by omega) (by omega) (Nat.le_refl _) (by omega) ?_
      simp only [List.getElem_toArray, List.getElem_cons_succ, List.getElem_cons_zero, Act.put, List.setIfInBounds_toArray, List.set_cons_zero, List.set_cons_succ, Nat.sub_zero]
      refine rg_one 1 rfl (by kernel_rfl) rfl (fun K hK => ?_)
      refine op_app (ops := #[]) slB Try.underlying25 rfl rfl rfl (Own.none_ w3.drew w3.heap.size _ _) hS.1 (map_one _) (by omega) (by simp [maxLen]; omega) (Nat.le_refl _) ?_
      intro A5 c5 w5 ho5 hg5 _
      have hB35 : Below w3.heap.size w3 w5 := (below_drewN (Below.refl _ _) 1).grown hg5 (Nat.le_refl _) (by simp [blk])
      have hS5 : RdB w5 w3.heap.size A1 N c1 bs ∧ RdB w5 w3.heap.size (cutA A3 1 0 c3) k c3 (pb.take k) := ⟨Rd.below ho13.rd hB35, Rd.below hcutx hB35⟩
      simp only [List.nil_append, Nat.zero_add] at ho5
      have hz5 := hB35.size
      simp only [List.getElem_toArray, List.getElem_cons_succ, List.getElem_cons_zero, Act.put, List.setIfInBounds_toArray, List.set_cons_zero, List.set_cons_succ, Nat.zero_add]
      refine hK _ _ hS5 ?_; clear hK K
      refine rg_one 9 rfl (by kernel_rfl) rfl (fun K hK => ?_)
      refine op_app (ops := #[]) slB Try.underlying25 rfl rfl rfl ho5 hS5.2 (map_one _) (by omega) (by simp [maxLen]; omega) hz5 ?_
      intro A7 c7 w7 ho7 hg7 _
      have hB37 := hB35.grown hg7 hz5 (fun g hg => (ho5.blk_lt hg).1)
      have hS7 : RdB w7 w3.heap.size A1 N c1 bs ∧ RdB w7 w3.heap.size (cutA A3 1 0 c3) k c3 (pb.take k) := ⟨Rd.below ho13.rd hB37, Rd.below hcutx hB37⟩
      rw [← List.map_append] at ho7
      have hz7 := hB37.size
      simp only [List.getElem_toArray, List.getElem_cons_succ, List.getElem_cons_zero, Act.put, List.setIfInBounds_toArray, List.set_cons_zero, List.set_cons_succ]
      refine hK _ _ hS7 ?_; clear hK K
      refine rg_one 10 rfl (by kernel_rfl) rfl (fun K hK => ?_)
      go_simp
      refine (hsc A7 c7 w7 ho7.rd).mono ?_
      rintro e w8 ⟨A8, c8, rfl, ho8, hB8⟩
      have hB38 := hB37.trans (hB8.mono hz7)
      have hB08 := hB6.trans (hB38.mono hz6)
      have hS8 : RdB w8 w3.heap.size A1 N c1 bs ∧ RdB w8 w3.heap.size (cutA A3 1 0 c3) k c3 (pb.take k) := ⟨Rd.below ho13.rd hB38, Rd.below hcutx hB38⟩
      have ho28 : OwnF w8 w1.heap.size A2 M c2 ms := own_below ho23 hB38
      refine hK _ _ hS8 ?_; clear hK K
      refine rg_take 11 (v := ?_) rfl (by kernel_rfl) (by kernel_rfl) (by kernel_rfl) hS8 rfl ?_ ?_
      rotate_left
      · intro wS hSw; go_simp; (with_reducible rfl)
      simp only [List.getElem_toArray, List.getElem_cons_succ, List.getElem_cons_zero, Act.put, List.setIfInBounds_toArray, List.set_cons_zero, List.set_cons_succ]
      refine rg_take 12 (v := ?_) rfl (by kernel_rfl) (by kernel_rfl) (by kernel_rfl) hS8 rfl ?_ ?_
      rotate_left
      · intro wS hSw; go_simp; (with_reducible rfl)
      simp only [List.getElem_toArray, List.getElem_cons_succ, List.getElem_cons_zero, Act.put, List.setIfInBounds_toArray, List.set_cons_zero, List.set_cons_succ]
      refine rg_take 13 (v := ?_) rfl (by kernel_rfl) (by kernel_rfl) (by kernel_rfl) hS8 rfl ?_ ?_
      rotate_left
      · intro wS hSw; go_simp; (with_reducible rfl)
      simp only [List.getElem_toArray, List.getElem_cons_succ, List.getElem_cons_zero, Act.put, List.setIfInBounds_toArray, List.set_cons_zero, List.set_cons_succ]
      refine rg_take 14 (v := ?_) rfl (by kernel_rfl) (by kernel_rfl) (by kernel_rfl) hS8 rfl ?_ ?_
      rotate_left
      · intro wS hSw; go_simp; (with_reducible rfl)
      simp only [List.getElem_toArray, List.getElem_cons_succ, List.getElem_cons_zero, Act.put, List.setIfInBounds_toArray, List.set_cons_zero, List.set_cons_succ]
      refine rg_take 15 (v := ?_) rfl (by kernel_rfl) (by kernel_rfl) (by kernel_rfl) hS8 rfl ?_ ?_
      rotate_left
      · intro wS hSw; go_simp; (with_reducible rfl)
      simp only [List.getElem_toArray, List.getElem_cons_succ, List.getElem_cons_zero, Act.put, List.setIfInBounds_toArray, List.set_cons_zero, List.set_cons_succ]
      refine rg_take 16 (v := ?_) rfl (by kernel_rfl) (by kernel_rfl) (by kernel_rfl) hS8 rfl ?_ ?_
      rotate_left
      · intro wS hSw; go_simp; (with_reducible rfl)
      simp only [List.getElem_toArray, List.getElem_cons_succ, List.getElem_cons_zero, Act.put, List.setIfInBounds_toArray, List.set_cons_zero, List.set_cons_succ]
      refine rg_take 17 (v := ?_) rfl (by kernel_rfl) (by kernel_rfl) (by kernel_rfl) hS8 rfl ?_ ?_
      rotate_left
      · intro wS hSw; go_simp; (with_reducible rfl)
      simp only [List.getElem_toArray, List.getElem_cons_succ, List.getElem_cons_zero, Act.put, List.setIfInBounds_toArray, List.set_cons_zero, List.set_cons_succ]
      refine rg_end (by kernel_rfl) ?_
      have hsm := fsame_any A8 M c8 ms A2 M c2 ms w8.heap.size w8 ho8.rd ho28.rd (Nat.le_refl _) (by omega) (by omega)
      rw [decide_eq_true rfl] at hsm
      have hq1 : (((N : Nat) : Int) == ((N : Nat) : Int)) = true := by simp
      go_wp2_with (first | (with_reducible refine hold_append ?_) | (with_reducible refine hold_make ?_) | (with_reducible refine hold_copy ?_))
      refine hsm.mono ?_
      rintro e w9 ⟨rfl, hB9⟩
      have hB09 := hB08.trans (hB9.mono hB08.size)
      go_wp2_with (first | (with_reducible refine hold_append ?_) | (with_reducible refine hold_make ?_) | (with_reducible refine hold_copy ?_))
      refine (head_any _).mono ?_
      rintro e w10 ⟨rfl, hB10⟩
      have hB010 := hB09.trans (hB10.mono hB09.size)
      go_wp2_with (first | (with_reducible refine hold_append ?_) | (with_reducible refine hold_make ?_) | (with_reducible refine hold_copy ?_))
      go_ret
      exact ⟨rfl, hB010⟩
    · clear hback hp
      go_enter Try.func5, Try.ntmps5
      go_wp2_with (first | (with_reducible refine hold_append ?_) | (with_reducible refine hold_make ?_) | (with_reducible refine hold_copy ?_))
      refine (hc _).mono ?_
      rintro e w1 ⟨rfl, hB1⟩
      have hB2 := hB0.trans (hB1.mono hz0)
      go_wp2_with (first | (with_reducible refine hold_append ?_) | (with_reducible refine hold_make ?_) | (with_reducible refine hold_copy ?_))
      refine (head_any _).mono ?_
      rintro e w2 ⟨rfl, hB3⟩
      have hB4 := hB2.trans (hB3.mono hB2.size)
      go_wp2_with (first | (with_reducible refine hold_append ?_) | (with_reducible refine hold_make ?_) | (with_reducible refine hold_copy ?_))
      go_ret
      exact ⟨rfl, hB4⟩
end Go.PH

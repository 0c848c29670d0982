/- The walk of the reference's Scan of records. -/
import Derived.Test.YtcfdgndigmcacaaDoorRcRefScan
namespace Go.PH
open Go.RowKit Go.Proofs

theorem RcSc.fin0 {b rest : List UInt8} {u w m : Nat} {l : List Rc} {r : Rc} (h : RcSc b u l) (hr : b.drop u = rest) (h1 : rcOne rest = (r, m, w)) (hm : m = 0) : rcScan b = (l, u, w) := by
  rcases rcOne_cases rest with ⟨w', _, e⟩ | ⟨_, _, _, _, _, e⟩
  · rw [h1] at e
    injection e with e1 e2
    injection e2 with e2 e3
    subst e1 e2 e3
    exact h.fin hr h1
  · rw [h1] at e
    injection e with e1 e2
    injection e2 with e2 e3
    omega
theorem RcSc.step0 {b rest : List UInt8} {u w m : Nat} {l : List Rc} {r : Rc} (h : RcSc b u l) (hr : b.drop u = rest) (h1 : rcOne rest = (r, m, w)) (hm : m ≠ 0) : RcSc b (u + m) (l ++ [r]) ∧ 13 ≤ m ∧ m ≤ rest.length := by
  rcases rcOne_cases rest with ⟨w', _, e⟩ | ⟨_, _, _, hl, _, e⟩
  · rw [h1] at e
    injection e with e1 e2
    injection e2 with e2 e3
    omega
  · rw [h1] at e
    injection e with e1 e2
    injection e2 with e2 e3
    subst e3
    exact ⟨h.step hr h1 hm, by omega, by omega⟩
set_option maxRecDepth 20000 in
set_option maxHeartbeats 4000000 in
theorem rrscan_any (b : List UInt8) (w : World) (hn : b.length ≤ 1000000000) :
    Calls Tryd.prog 14 #[.string (str b)] w fun e w' => ∃ A2 c2, e = .returned (.tuple #[.slice A2 (rcScan b).1.length c2, .int .i64 ((rcScan b).2.1 : Nat), .int .i64 ((rcScan b).2.2 : Nat)]) ∧ OwnR w' w.heap.size A2 (rcScan b).1.length c2 (rcScan b).1 ∧ Below w.heap.size w w' := by
  obtain ⟨n, hbl⟩ : ∃ n, b.length = n := ⟨_, rfl⟩
  rw [hbl] at hn
  go_enter Tryd.func14, Tryd.ntmps14
  go_wp2_with (first | (with_reducible refine hold_append ?_) | (with_reducible refine hold_make ?_) | (with_reducible refine hold_copy ?_))
  go_loopw [6, 5] (fun s v wr => ∃ (u N c2 : Nat) (A2 : Option Addr) (l : List Rc), u ≤ n ∧ s = .int .i64 u ∧ v = .slice A2 N c2 ∧ Hid (RcSc b u l) ∧ Hid (l.length = N) ∧ N ≤ u ∧ OwnR wr w.heap.size A2 N c2 l ∧ Below w.heap.size w wr) (fun s _ _ => n - (intOf s).toNat)
  case atStart => exact ⟨0, 0, 0, none, [], by omega, rfl, rfl, Lib.hid (RcSc.start b), Lib.hid rfl, by omega, Own.none_ _ _ _ _, Below.refl _ _⟩
  case round =>
    obtain ⟨u, N, c2, A2, l, hu, rfl, rfl, HSC, HLN, hNu, ho, hB⟩ := hrel
    have hz := hB.size
    go_wp2_with (first | (with_reducible refine hold_append ?_) | (with_reducible refine hold_make ?_) | (with_reducible refine hold_copy ?_) | (with_reducible refine hold_slice ?_) | (with_reducible refine hold_conv (s := 9) (t := 31) ?_))
    refine unhold (wp_cutS Tryd.underlying9 rfl rfl rfl (l := b) u n (.inr ⟨_, _, rfl, rfl⟩) (.inl ⟨rfl, hbl.symm⟩) hu (by omega) ?_)
    rw [List.take_of_length_le (by omega)]
    have hrl : (b.drop u).length = n - u := by simp; omega
    generalize hrest : b.drop u = rest at *
    have HREST := Lib.hid hrest
    clear hrest
    have hone := rone_any rest wr (by omega)
    have HNO := fun (x : Rc × Nat × Nat) (h : rcOne rest = x) (hm : x.2.1 = 0) => HSC.out.fin0 HREST.out h hm
    have HYE := fun (x : Rc × Nat × Nat) (h : rcOne rest = x) (hm : x.2.1 ≠ 0) => HSC.out.step0 HREST.out h hm
    obtain ⟨⟨⟨kd, dt⟩, M, lf⟩, hx⟩ : ∃ x, x = rcOne rest := ⟨_, rfl⟩
    have HNO := HNO _ hx.symm
    have HYE := HYE _ hx.symm
    rw [← hx] at hone
    simp only [rcV] at hone HNO HYE
    clear hx
    rw [hrl] at HYE
    clear hrl
    go_wp2_with (first | (with_reducible refine hold_append ?_) | (with_reducible refine hold_make ?_) | (with_reducible refine hold_copy ?_))
    refine hone.mono ?_
    rintro e w1 ⟨rfl, hB1⟩
    have hB2 := hB.trans (hB1.mono hz)
    have ho1 := own_below ho hB1
    have hz1 := hB2.size
    clear hone ho hB hB1
    have hb1' := Box.new w1 zr 33
    have hB2' : Below w.heap.size w (w1.alloc (.cells zr 33)) := hB2.alloc hz1 _
    have ho1' : OwnR (w1.alloc (.cells zr 33)) w.heap.size A2 N c2 l := ho1.alloc _
    have hAb : ∀ g, blk A2 = some g → g < w1.heap.size := fun g hg => (ho1.blk_lt hg).2
    rw [zr_eq] at hb1' hB2' ho1'
    go_wp2_with (first | (with_reducible refine hold_append ?_) | (with_reducible refine hold_make ?_) | (with_reducible refine hold_copy ?_) | (with_reducible refine hold_store ?_))
    refine unhold (wp_box (v := .agg #[.int .u8 (kd : Int), .string (str dt)]) (vs := [.int .u8 (kd : Int), .string (str dt)]) rfl rfl rfl rfl hb1' rfl (by kernel_rfl) (by simp) (by simp; exact ⟨rfl, rfl⟩) #[.int .u8 (kd : Int), .string (str dt)] (by simp) ?_)
    intro w2 hb2 hg2 hs2
    clear hs2
    have hB3 := hB2'.grown hg2 hB2'.size (fun g hg => by injection hg with hg; omega)
    have ho3 : OwnR w2 w.heap.size A2 N c2 l := own_stays ho1' hg2 (fun g hg e => by injection e with e; have := hAb g hg; omega)
    have k0 := hb2.cell (j := 0) rfl
    have k1 := hb2.cell (j := 1) rfl
    by_cases hM : M = 0
    · have hd0 : (((M : Nat) : Int) == 0) = true := by simp [hM]
      have HF := Lib.hid (HNO hM)
      clear hM HYE HNO
      go_wp2_with (first | (with_reducible refine hold_append ?_) | (with_reducible refine hold_make ?_) | (with_reducible refine hold_copy ?_))
      go_ret3
      rw [HF.out]
      simp only
      rw [HLN.out]
      exact ⟨A2, c2, rfl, ho3, hB3⟩
    · have hd0 : (((M : Nat) : Int) == 0) = false := by simp [hM]
      obtain ⟨hf, hM13, hMl⟩ := HYE hM
      have HF := Lib.hid hf
      clear hM HYE HNO hf
      have hwu : IntKind.i64.wrap ((u : Int) + (M : Int)) = ((u + M : Nat) : Int) := by rw [IntWalk.i64_in _ ⟨by omega, by omega⟩]; omega
      go_wp2_with (first | (with_reducible refine hold_append ?_) | (with_reducible refine hold_make ?_) | (with_reducible refine hold_copy ?_))
      refine unhold (wp_rec rcShape slR Tryd.underlying22 rfl rfl rfl rfl rfl ⟨kd, dt⟩ rfl ho3 (by omega) (by omega) hB3.size ?_)
      intro A8 c8 w8 ho8 hg8 _ hB38
      have hB9 := hB3.trans hB38
      clear k0 k1
      go_wp2_with (first | (with_reducible refine hold_append ?_) | (with_reducible refine hold_make ?_) | (with_reducible refine hold_copy ?_))
      exact ⟨⟨u + M, N + 1, c8, A8, l ++ [⟨kd, dt⟩], by omega, by first | rfl | go_num, rfl, HF, Lib.hid (by simp [HLN.out]), by omega, ho8, hB9⟩, by simp [intOf]; omega⟩
end Go.PH

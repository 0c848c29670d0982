/- The walk of record's Put. -/
import Derived.Test.YtcfdgndigmcacaaDoorRcBase
import Derived.Test.YtcfdgndigmcacaaDoorCrcBelow
import Derived.Test.YtcfdgndigmcacaaDoorOctPut
namespace Go.PH
open Go.RowKit Go.Proofs

theorem rcBytes_take {l : List Rc} {k : Nat} (hk : k < l.length) : rcBytes (l.take (k + 1)) = rcBytes (l.take k) ++ l[k].bytes := by
  rw [List.take_succ_eq_append_getElem hk, rcBytes_app]; simp [rcBytes]
theorem rcBytes_take_le (l : List Rc) (k : Nat) : (rcBytes (l.take k)).length ≤ (rcBytes l).length := by
  have h : rcBytes l = rcBytes (l.take k) ++ rcBytes (l.drop k) := by rw [← rcBytes_app, List.take_append_drop]
  rw [h, List.length_append]; omega
/-- what stands between the rows and the records that are done -/
def RcSt (l : List Rc) (k : Nat) (bs : List UInt8) : Prop := bs = rcBytes (l.take k) ∧ ∀ r ∈ l.take k, r.data.length ≤ 65536
theorem RcSt.start (l : List Rc) : RcSt l 0 [] := ⟨by simp [rcBytes], by simp⟩
theorem RcSt.step {l : List Rc} {k : Nat} {bs : List UInt8} (h : RcSt l k bs) (hk : k < l.length) (hd : l[k].data.length ≤ 65536) : RcSt l (k + 1) (bs ++ l[k].bytes) := by
  refine ⟨by rw [rcBytes_take hk, h.1], fun r hr => ?_⟩
  rw [List.take_succ_eq_append_getElem hk] at hr
  rcases List.mem_append.1 hr with h1 | h1
  · exact h.2 r h1
  · rw [List.mem_singleton.1 h1]; exact hd
theorem RcSt.fin {l : List Rc} {bs : List UInt8} (h : RcSt l l.length bs) : rcPut l = (bs, 0) := by
  obtain ⟨h1, h2⟩ := h
  rw [List.take_length] at h1 h2
  rw [rcPut_of h2, h1]

set_option maxRecDepth 20000 in
set_option maxHeartbeats 4000000 in
theorem rcput_any (A : Option Addr) (n c : Nat) (l : List Rc) (w : World) (hr : RdR w w.heap.size A n c l) (hf : ∀ r ∈ l, r.wf ∧ r.data.length ≤ 140737488351232) (hn : n ≤ 140737488351232) (ht : TabAt w) (hg0 : 0 < w.heap.size) (hT : (rcBytes l).length ≤ 1000000) :
    Calls Tryd.prog 11 #[.slice A n c] w fun e w' => e = .returned (.tuple #[.string (str (rcPut l).1), .int .i64 ((rcPut l).2 : Nat)]) ∧ Below w.heap.size w w' := by
  have hl := rec_length rcShape hr
  go_enter Tryd.func11, Tryd.ntmps11
  go_wp2_with (first | (with_reducible refine hold_append ?_) | (with_reducible refine hold_make ?_) | (with_reducible refine hold_copy ?_))
  go_loopw [9, 4] (fun s v wr => ∃ (k N c1 : Nat) (A1 : Option Addr) (bs : List UInt8), k ≤ n ∧ s = .int .i64 k ∧ v = .slice A1 N c1 ∧ Hid (RcSt l k bs) ∧ N ≤ 1000000 ∧ Own wr w.heap.size 5 1 A1 N c1 (bs.map u8v) ∧ Below w.heap.size w wr) (fun s _ _ => n - (intOf s).toNat)
  case atStart => exact ⟨0, 0, 0, none, [], by omega, rfl, rfl, Lib.hid (RcSt.start l), by omega, Own.none_ _ _ _ _, Below.refl _ _⟩
  case round =>
    obtain ⟨k, N, c1, A1, bs, hk, rfl, rfl, HS, hN, ho, hB⟩ := hrel
    by_cases hlt : k < n
    · have hz := hB.size
      have hkn : (k : Int) < (n : Int) := by omega
      obtain ⟨b, off, rfl, hbB, hkl, hc⟩ := rec_at rcShape (Rd.below hr hB) hlt
      have hfk := hf l[k] (List.getElem_mem hkl)
      have HLG := fun h : 65536 < l[k].data.length => rcPut_long (List.getElem_mem hkl) h
      have HST := fun h : l[k].data.length ≤ 65536 => RcSt.step HS.out hkl h
      have hlen := rcBytes_take_le l (k + 1)
      rw [rcBytes_take hkl, ← HS.out.1, List.length_append, l[k].bytes_length, OwnB.length ho] at hlen
      obtain ⟨f, hfe⟩ : ∃ f, f = l[k] := ⟨_, rfl⟩
      rw [← hfe] at hfk hc HLG HST hlen
      have hby : f.bytes = seal' f.hd ++ seal' f.data := rfl
      have hhd : f.hd = UInt8.ofNat f.kind :: be 4 f.data.length := rfl
      clear hfe
      obtain ⟨kd, dt⟩ := f
      simp only [Rc.wf] at hfk HLG HST hlen
      obtain ⟨hkd, hdt⟩ := hfk
      have k0 := hc 0 _ rfl
      have k1 := hc 1 _ rfl
      simp only [Nat.add_zero] at k0
      clear hc
      have hbx : Box (wr.alloc (.cells zr 33)) wr.heap.size 33 zr := Box.new _ _ _
      have hB1 : Below w.heap.size w (wr.alloc (.cells zr 33)) := hB.alloc hz _
      have ho1 : Own (wr.alloc (.cells zr 33)) w.heap.size 5 1 A1 N c1 (bs.map u8v) := ho.alloc _
      have hAb : ∀ g, blk A1 = some g → g < wr.heap.size := fun g hg => (ho.blk_lt hg).2
      rw [zr_eq] at hbx hB1 ho1
      go_wp2_with (first | (with_reducible refine hold_append ?_) | (with_reducible refine hold_make ?_) | (with_reducible refine hold_copy ?_) | (with_reducible refine hold_store ?_))
      refine unhold (wp_box (v := .agg #[.int .u8 (kd : Int), .string (str dt)]) (vs := [.int .u8 (kd : Int), .string (str dt)]) rfl rfl rfl rfl hbx rfl (by kernel_rfl) (by simp) (by simp; exact ⟨rfl, rfl⟩) #[.int .u8 (kd : Int), .string (str dt)] (by simp) ?_)
      intro w2 hb2 hg2 hs2
      clear hs2
      have hB2 := hB1.grown hg2 hB1.size (fun g hg => by injection hg with hg; omega)
      have ho2 := own_stays ho1 hg2 (fun g hg e => by injection e with e; have := hAb g hg; omega)
      have k10 := hb2.cell (j := 0) rfl
      have k11 := hb2.cell (j := 1) rfl
      have hss := str_size dt
      clear ho ho1 hbx hg2 hB1 k0 k1
      by_cases hlg : 65536 < dt.length
      · have hd : (65536 : Int) < ((str dt).size : Int) := by omega
        have HF := Lib.hid (HLG hlg)
        clear HLG HST hss hlg
        go_wp2_with (first | (with_reducible refine hold_append ?_) | (with_reducible refine hold_make ?_) | (with_reducible refine hold_copy ?_))
        go_ret2
        rw [HF.out]
        exact ⟨rfl, hB2⟩
      · have hd : ¬ (65536 : Int) < ((str dt).size : Int) := by omega
        have HF := Lib.hid (HST (by omega))
        clear HLG HST
        obtain ⟨D, hD⟩ : ∃ D, D = dt.length := ⟨_, rfl⟩
        have hDs : ((str dt).size : Int) = (D : Int) := by omega
        have hDb : D ≤ 65536 := by omega
        have hwu : IntKind.u64.wrap ((str dt).size : Int) = (D : Int) := by rw [hDs]; exact IntWalk.u64_in _ ⟨by omega, by omega⟩
        have HD := Lib.hid hD
        rw [← hD] at hlen
        have hz2 := hB2.size
        have hlit : Own (w2.alloc (.cells #[.int .u8 (kd : Int)] 5)) w2.heap.size 5 1 (some ⟨w2.heap.size, 0, none⟩) 1 1 ([UInt8.ofNat kd].map u8v) := by
          rw [show [UInt8.ofNat kd].map u8v = (#[Value.int .u8 (kd : Int)] : Array Value).toList from by rw [kind_u8v hkd]; rfl]
          exact own_lit (w := w2) w2.heap.size #[.int .u8 (kd : Int)] 5 1 (Nat.le_refl _) (by simp [maxLen]) rfl (size := 1) (by omega)
        have hB3 : Below w.heap.size w (w2.alloc (.cells #[.int .u8 (kd : Int)] 5)) := hB2.alloc hz2 _
        have ho3 : Own (w2.alloc (.cells #[.int .u8 (kd : Int)] 5)) w.heap.size 5 1 A1 N c1 (bs.map u8v) := ho2.alloc _
        have hb3 : Box (w2.alloc (.cells #[.int .u8 (kd : Int)] 5)) wr.heap.size 33 #[.int .u8 (kd : Int), .string (str dt)] := hb2.alloc _
        have k31 := hb3.cell (j := 1) rfl
        have hpt := put_any _ 1 1 [UInt8.ofNat kd] D 4 _ hlit.rd (by omega) (by omega)
        have hps : puts [UInt8.ofNat kd] D 4 = Rc.hd ⟨kd, dt⟩ := by rw [puts_yes (by decide), hhd, hD]; rfl
        have hpl : (puts [UInt8.ofNat kd] D 4).length = 5 := by rw [hps]; exact Rc.hd_length _
        rw [hpl, hps] at hpt
        generalize Rc.hd ⟨kd, dt⟩ = hb at *
        clear hpl hps hD hDs hss
        go_wp2_with (first | (with_reducible refine hold_append ?_) | (with_reducible refine hold_make ?_) | (with_reducible refine hold_copy ?_))
        refine hpt.mono ?_
        rintro e w4 ⟨A4, c4, rfl, ho4, hB4⟩
        have hB5 := hB3.trans (hB4.mono hB3.size)
        have hs4 := seal_any A4 5 c4 hb w4 ho4.rd (ht.below hB5 hg0) (Nat.lt_of_lt_of_le hg0 hB5.size) (by omega)
        have ho34 := own_below ho3 hB4
        have hb34 := hb3.below hB4
        clear hpt hlit hB3 ho3 hb3 ho2 hB2 hb2 k31 k10 k11
        go_wp2_with (first | (with_reducible refine hold_append ?_) | (with_reducible refine hold_make ?_) | (with_reducible refine hold_copy ?_))
        refine hs4.mono ?_
        rintro e w5 ⟨A5, c5, rfl, ho5, hB6⟩
        have hB7 := hB5.trans (hB6.mono hB5.size)
        have ho35 := own_below ho34 hB6
        have hb35 := hb34.below hB6
        have hz7 := hB7.size
        clear hs4 hB6 hB5 hB4 ho34 hb34
        go_wp2_with (first | (with_reducible refine hold_append ?_) | (with_reducible refine hold_make ?_) | (with_reducible refine hold_copy ?_))
        refine unhold (wp_app slB rfl rfl rfl rfl ho35 ho5.rd (map_one _) (by omega) (by simp [maxLen]; omega) hz7 ?_)
        intro A6 c6 w6 ho6 hg6 _
        have hB8 := hB7.grown hg6 hz7 (fun g hg => (ho35.blk_lt hg).1)
        have hb6 := hb35.grown hg6 (fun e => by have := hAb _ e.symm; omega)
        rw [← List.map_append] at ho6
        have hz8 := hB8.size
        clear ho35 ho5 hg6 hB7 hb35
        have k61 := hb6.cell (j := 1) rfl
        go_wp2_with (first | (with_reducible refine hold_append ?_) | (with_reducible refine hold_make ?_) | (with_reducible refine hold_copy ?_) | (with_reducible refine hold_slice ?_) | (with_reducible refine hold_conv (s := 9) (t := 31) ?_))
        refine unhold (wp_s2b Tryd.underlying9 Tryd.underlying31 Tryd.underlying5 rfl rfl rfl (l := dt) (by omega) ?_)
        rw [← HD.out]
        intro c8 w8 hr8 hB9
        have hB10 := hB8.trans (hB9.mono hz8)
        have ho8 := own_below ho6 hB9
        have hs8 := seal_any _ D c8 dt w8 hr8 (ht.below hB10 hg0) (Nat.lt_of_lt_of_le hg0 hB10.size) (by omega)
        clear ho6 hB8 hB9 hb6 k61
        go_wp2_with (first | (with_reducible refine hold_append ?_) | (with_reducible refine hold_make ?_) | (with_reducible refine hold_copy ?_))
        refine hs8.mono ?_
        rintro e w9 ⟨A9, c9, rfl, ho9, hB11⟩
        have hB12 := hB10.trans (hB11.mono hB10.size)
        have ho89 := own_below ho8 hB11
        have hz9 := hB12.size
        clear hs8 hB11 hB10 ho8 hr8
        go_wp2_with (first | (with_reducible refine hold_append ?_) | (with_reducible refine hold_make ?_) | (with_reducible refine hold_copy ?_))
        refine unhold (wp_app slB rfl rfl rfl rfl ho89 ho9.rd (map_one _) (by omega) (by simp [maxLen]; omega) hz9 ?_)
        intro A10 c10 w10 ho10 hg10 _
        have hB13 := hB12.grown hg10 hz9 (fun g hg => (ho89.blk_lt hg).1)
        rw [← List.map_append, List.append_assoc] at ho10
        have hx : bs ++ Rc.bytes ⟨kd, dt⟩ = bs ++ (seal' hb ++ seal' dt) := by rw [hby]
        rw [hx] at HF
        go_wp2_with (first | (with_reducible refine hold_append ?_) | (with_reducible refine hold_make ?_) | (with_reducible refine hold_copy ?_))
        exact ⟨⟨k + 1, N + 9 + (D + 4), c10, A10, _, by omega, by go_num, by first | rfl | simp, HF, by omega, by simpa using ho10, hB13⟩, by simp [intOf]; omega⟩
    · obtain rfl : k = n := by omega
      have hfin := HS.out
      rw [← hl] at hfin
      have HF := Lib.hid hfin.fin
      clear hfin HS
      have hst := run_strB (w := wr) ho.rd
      go_wp2_with (first | (with_reducible refine hold_append ?_) | (with_reducible refine hold_make ?_) | (with_reducible refine hold_copy ?_))
      go_ret2
      rw [HF.out]
      exact ⟨rfl, hB⟩
end Go.PH

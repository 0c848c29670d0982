/- XidBack: for a name, bytes and a text within the second form's bound the law returns true and writes nothing that was there. Condition: the listed variables read as listed. -/
import Derived.Test.YtokfnonjmacpgaaDoorXdHead
import Derived.Test.YtokfnonjmacpgaaDoorXdGet
import Derived.Test.YtokfnonjmacpgaaDoorXdPut
set_option linter.all false
set_option linter.unusedSimpArgs false
set_option linter.unusedVariables false
namespace Go.PH
open Go.RowKit Go.Proofs

theorem xid_neq (a b : Xd) (w : World) : (binOp .neq 24 (.agg (xdV a)) (.agg (xdV b))).run Tryd.prog w = .ok (.bool (!decide (a = b))) w := by
  rw [run_neq_struct, xid_equal]
  rfl
theorem parseR_none {s : List UInt8} (h : parseX s = none) : parseR s = (xd0, 5) := by unfold parseR; rw [h]
theorem parseR_some {s : List UInt8} {x : Xd} (h : parseX s = some x) : parseR s = (x, 0) := by unfold parseR; rw [h]
set_option maxRecDepth 20000 in
set_option maxHeartbeats 8000000 in
theorem law_XidBack (x : Xd) (A : Option Addr) (n c : Nat) (lb s : List UInt8) (w : World) (hw : x.wf) (hr : RdB w w.heap.size A n c lb) (hn : n ≤ 1048576) (hsl : s.length < 4294967281) (he : XEnv w) :
    Calls Tryd.prog 9 #[.agg (xdV x), .slice A n c, .string (str s)] w fun e w' => e = .returned (.bool true) ∧ Below w.heap.size w w' := by
  have hwfy : ∀ y : Xd, y.ok = true → y.glob.length ≤ 140737488351232 ∧ y.bran.length ≤ 140737488351232 := fun y h => by
    have := (Xd.ok_iff y).1 h
    omega
  have hp := fun W => xdput_any x W hw
  have ht := fun W hE => text_any x W hw hE
  have hck := fun W => check_any x W hw
  have h8 := he.lt
  cases hok : x.ok
  · have e1 : x.put = [] := Xd.put_no hok
    have e2 : x.err = 40 := Xd.err_no hok
    have e3 : x.text = [] := by unfold Xd.text; rw [if_neg (by simp [hok])]
    rw [e1, e2] at hp
    rw [e2, e3] at ht
    rw [e2] at hck
    clear e1 e2 e3 hok
    obtain ⟨f, g, h⟩ := x
    unfold xdV at hp ht hck ⊢
    simp only [str_nil, List.length_nil] at hp ht hck ⊢
    have hB0 : Below w.heap.size w (w.alloc (.cells #[.int .u32 (f : Int), .string (str g), .string (str h)] 24)) := (Below.refl _ _).alloc (Nat.le_refl _) _
    have hb0 : Box (w.alloc (.cells #[.int .u32 (f : Int), .string (str g), .string (str h)] 24)) w.heap.size 24 #[.int .u32 (f : Int), .string (str g), .string (str h)] := Box.new _ _ _
    go_enter Tryd.func9, Tryd.ntmps9
    go_wp2_with (first | (with_reducible refine hold_append ?_) | (with_reducible refine hold_make ?_) | (with_reducible refine hold_copy ?_))
    refine (hp _).mono ?_
    rintro e w1 ⟨A1, c1, rfl, _, hB1⟩
    have hb1 := hb0.below hB1
    replace hB1 := hB0.trans (hB1.mono hB0.size)
    clear hp hb0 hB0
    have k0 := hb1.cell (j := 0) rfl
    have k1 := hb1.cell (j := 1) rfl
    have k2 := hb1.cell (j := 2) rfl
    go_wp2_with (first | (with_reducible refine hold_append ?_) | (with_reducible refine hold_make ?_) | (with_reducible refine hold_copy ?_))
    refine (ht _ (he.below hB1 h8 hB1.size)).mono ?_
    rintro e w2 ⟨rfl, hB2⟩
    have hb2 := hb1.below hB2
    replace hB2 := hB1.trans (hB2.mono hB1.size)
    clear ht k0 k1 k2 hb1 hB1
    have k0 := hb2.cell (j := 0) rfl
    have k1 := hb2.cell (j := 1) rfl
    have k2 := hb2.cell (j := 2) rfl
    go_wp2_with (first | (with_reducible refine hold_append ?_) | (with_reducible refine hold_make ?_) | (with_reducible refine hold_copy ?_))
    refine (hck _).mono ?_
    rintro e w3 ⟨rfl, hB3⟩
    replace hB3 := hB2.trans (hB3.mono hB2.size)
    clear hck k0 k1 k2 hb2 hB2
    go_wp2_with (first | (with_reducible refine hold_append ?_) | (with_reducible refine hold_make ?_) | (with_reducible refine hold_copy ?_))
    have hps := parse_any s w3 hsl (he.below hB3 h8 (Below.size hB3))
    cases hpx : parseX s with
    | none =>
      rw [parseR_none hpx] at hps
      unfold xdV xd0 at hps
      simp only at hps
      have heq : ∀ w, (binOp .eql 24 (.agg #[.int .u32 0, .string (str []), .string (str [])]) (.agg #[.int .u32 0, .string ⟨#[]⟩, .string ⟨#[]⟩])).run Tryd.prog w = .ok (.bool true) w := fun w => by
        have := xid_eql xd0 xd0 w
        rw [decide_eq_true rfl] at this
        exact this
      go_wp2_with (first | (with_reducible refine hold_append ?_) | (with_reducible refine hold_make ?_) | (with_reducible refine hold_copy ?_))
      refine hps.mono ?_
      rintro e wq ⟨rfl, hBq⟩
      have hBr := Below.trans hB3 (hBq.mono (Below.size hB3))
      have hbz : Box (wq.alloc (.cells #[.int .u32 (0 : Int), .string (str []), .string (str [])] 24)) wq.heap.size 24 #[.int .u32 (0 : Int), .string (str []), .string (str [])] := Box.new _ _ _
      have hBs := hBr.alloc hBr.size (.cells #[.int .u32 (0 : Int), .string (str []), .string (str [])] 24)
      clear hps hBq hpx
      have k0 := hbz.cell (j := 0) rfl
      have k1 := hbz.cell (j := 1) rfl
      have k2 := hbz.cell (j := 2) rfl
      go_wp2_with (first | (with_reducible refine hold_append ?_) | (with_reducible refine hold_make ?_) | (with_reducible refine hold_copy ?_))
      refine (head_any _ (he.below hBs h8 (Below.size hBs))).mono ?_
      rintro e wz ⟨rfl, hBz⟩
      have hB0z := Below.trans hBs (hBz.mono (Below.size hBs))
      go_wp2_with (first | (with_reducible refine hold_append ?_) | (with_reducible refine hold_make ?_) | (with_reducible refine hold_copy ?_))
      go_ret
      exact ⟨rfl, hB0z⟩
    | some y =>
      obtain ⟨ht, hky, hfy⟩ := txt_parse hpx
      have htxt := fun W hE => text_any y W ⟨hfy, hwfy y hky⟩ hE
      have htt : y.text = s := by unfold Xd.text; rw [if_pos hky, ht]
      rw [htt, Xd.err_ok hky] at htxt
      rw [parseR_some hpx] at hps
      obtain ⟨yf, yg, yh⟩ := y
      unfold xdV at hps htxt
      simp only at hps htxt
      clear htt ht hky hfy hpx
      have hqs : ((str s).toList == (str s).toList) = true := by simp
      go_wp2_with (first | (with_reducible refine hold_append ?_) | (with_reducible refine hold_make ?_) | (with_reducible refine hold_copy ?_))
      refine hps.mono ?_
      rintro e wq ⟨rfl, hBq⟩
      have hBr := Below.trans hB3 (hBq.mono (Below.size hB3))
      have hbz : Box (wq.alloc (.cells #[.int .u32 (yf : Int), .string (str yg), .string (str yh)] 24)) wq.heap.size 24 #[.int .u32 (yf : Int), .string (str yg), .string (str yh)] := Box.new _ _ _
      have hBs := hBr.alloc hBr.size (.cells #[.int .u32 (yf : Int), .string (str yg), .string (str yh)] 24)
      clear hps hBq
      have k0 := hbz.cell (j := 0) rfl
      have k1 := hbz.cell (j := 1) rfl
      have k2 := hbz.cell (j := 2) rfl
      go_wp2_with (first | (with_reducible refine hold_append ?_) | (with_reducible refine hold_make ?_) | (with_reducible refine hold_copy ?_))
      refine (htxt _ (he.below hBs h8 hBs.size)).mono ?_
      rintro e wt ⟨rfl, hBt⟩
      have hBu := hBs.trans (hBt.mono hBs.size)
      clear k0 k1 k2 hbz htxt
      go_wp2_with (first | (with_reducible refine hold_append ?_) | (with_reducible refine hold_make ?_) | (with_reducible refine hold_copy ?_))
      refine (head_any _ (he.below hBu h8 (Below.size hBu))).mono ?_
      rintro e wz ⟨rfl, hBz⟩
      have hB0z := Below.trans hBu (hBz.mono (Below.size hBu))
      go_wp2_with (first | (with_reducible refine hold_append ?_) | (with_reducible refine hold_make ?_) | (with_reducible refine hold_copy ?_))
      go_ret
      exact ⟨rfl, hB0z⟩
  · obtain ⟨h1, h2, h3⟩ := (Xd.ok_iff x).1 hok
    have e1 : x.put = x.bytes := Xd.put_ok hok
    have e2 : x.err = 0 := Xd.err_ok hok
    have e3 : x.text = x.txt := by unfold Xd.text; rw [if_pos hok]
    have hgr : getR (x.bytes ++ lb) = (x, x.bytes.length, 0) := getR_bytes hw.1 hok lb
    have hpr : parseR x.txt = (x, 0) := parseR_some (parse_txt hw.1 hok)
    have hbl := Xd.bytes_length x
    have htl : x.txt.length ≤ 300 := by
      have := hexB_len x.glob
      have := hexB_len x.bran
      have := dec_len (show x.fmt < 18446744073709551616 by have := hw.1; omega)
      simp [Xd.txt]
      omega
    rw [e1, e2] at hp
    rw [e2, e3] at ht
    rw [e2] at hck
    have hgt := fun A n c W hr hn => xdget_any A n c (x.bytes ++ lb) W hr hn
    rw [hgr] at hgt
    have hpt := fun W hE => parse_any x.txt W (by omega) hE
    rw [hpr] at hpt
    have heq := fun W => xid_neq x x W
    rw [decide_eq_true rfl] at heq
    have hM : x.bytes.length ≤ 134 := by omega
    clear e1 e2 e3 hok hgr hpr hbl htl h1 h2 h3
    generalize x.txt = tx at *
    generalize x.bytes = bs at *
    obtain ⟨f, g, h⟩ := x
    unfold xdV at hp ht hck heq hgt hpt ⊢
    simp only at hp ht hck heq hgt hpt ⊢
    have hB0 : Below w.heap.size w (w.alloc (.cells #[.int .u32 (f : Int), .string (str g), .string (str h)] 24)) := (Below.refl _ _).alloc (Nat.le_refl _) _
    have hb0 : Box (w.alloc (.cells #[.int .u32 (f : Int), .string (str g), .string (str h)] 24)) w.heap.size 24 #[.int .u32 (f : Int), .string (str g), .string (str h)] := Box.new _ _ _
    go_enter Tryd.func9, Tryd.ntmps9
    go_wp2_with (first | (with_reducible refine hold_append ?_) | (with_reducible refine hold_make ?_) | (with_reducible refine hold_copy ?_))
    refine (hp _).mono ?_
    rintro e w1 ⟨A1, c1, rfl, ho1, hB1⟩
    have hb1 := hb0.below hB1
    have ho1 := ho1.base_le (show w.heap.size + 1 ≤ _ from hb0.lt)
    replace hB1 := hB0.trans (hB1.mono hB0.size)
    clear hp hb0 hB0
    generalize bs.length = M at *
    have k0 := hb1.cell (j := 0) rfl
    have k1 := hb1.cell (j := 1) rfl
    have k2 := hb1.cell (j := 2) rfl
    go_wp2_with (first | (with_reducible refine hold_append ?_) | (with_reducible refine hold_make ?_) | (with_reducible refine hold_copy ?_))
    refine (ht _ (he.below hB1 h8 hB1.size)).mono ?_
    rintro e w2 ⟨rfl, hB2⟩
    have hb2 := hb1.below hB2
    have ho2 := own_below ho1 hB2
    replace hB2 := hB1.trans (hB2.mono hB1.size)
    clear ht k0 k1 k2 hb1 hB1 ho1
    have k0 := hb2.cell (j := 0) rfl
    have k1 := hb2.cell (j := 1) rfl
    have k2 := hb2.cell (j := 2) rfl
    go_wp2_with (first | (with_reducible refine hold_append ?_) | (with_reducible refine hold_make ?_) | (with_reducible refine hold_copy ?_))
    refine (hck _).mono ?_
    rintro e w3 ⟨rfl, hB3⟩
    have hb3 := hb2.below hB3
    have ho3 := own_below ho2 hB3
    replace hB3 := hB2.trans (hB3.mono hB2.size)
    clear hck k0 k1 k2 hb2 hB2 ho2
    have hz3 : w.heap.size + 1 ≤ w3.heap.size := hb3.lt
    go_wp2_with (first | (with_reducible refine hold_append ?_) | (with_reducible refine hold_make ?_) | (with_reducible refine hold_copy ?_))
    refine unhold (wp_app slB rfl rfl rfl rfl (Own.none_ w3 (w.heap.size + 1) _ _) ho3.rd (map_one _) (by omega) (by unfold maxLen; omega) hz3 ?_)
    intro A4 c4 w4 ho4 hg4 _
    have hB4 := hB3.grown hg4 hB3.size (fun g hg => by cases hg)
    have hb4 := hb3.grown hg4 (by intro e; cases e)
    have hz4 : w.heap.size + 1 ≤ w4.heap.size := hb4.lt
    have hr4 := hr.below hB4
    simp only [List.nil_append, Nat.zero_add] at ho4 ⊢
    clear ho3 hb3 hB3 hg4
    go_wp2_with (first | (with_reducible refine hold_append ?_) | (with_reducible refine hold_make ?_) | (with_reducible refine hold_copy ?_))
    refine unhold (wp_app slB rfl rfl rfl rfl ho4 hr4 (map_one _) (by omega) (by unfold maxLen; omega) hz4 ?_)
    intro A5 c5 w5 ho5 hg5 _
    have hB5 := hB4.grown hg5 hB4.size (fun g hg => by have := (ho4.blk_lt hg).1; omega)
    have hb5 := hb4.grown hg5 (fun e => by have := (ho4.blk_lt e.symm).1; omega)
    rw [← List.map_append] at ho5
    clear ho4 hb4 hB4 hg5 hr4
    go_wp2_with (first | (with_reducible refine hold_append ?_) | (with_reducible refine hold_make ?_) | (with_reducible refine hold_copy ?_))
    refine (hgt A5 (M + n) c5 w5 ho5.rd (by omega)).mono ?_
    rintro e w6 ⟨rfl, hB6⟩
    have hb6 := (hb5.below hB6).alloc (.cells #[.int .u32 (f : Int), .string (str g), .string (str h)] 24)
    have hB6' := hB5.trans (hB6.mono hB5.size)
    have hy6 : Box (w6.alloc (.cells #[.int .u32 (f : Int), .string (str g), .string (str h)] 24)) w6.heap.size 24 #[.int .u32 (f : Int), .string (str g), .string (str h)] := Box.new _ _ _
    have hB7 := hB6'.alloc hB6'.size (.cells #[.int .u32 (f : Int), .string (str g), .string (str h)] 24)
    clear hgt ho5 hb5 hB5 hB6 hB6'
    go_wp2_with (first | (with_reducible refine hold_append ?_) | (with_reducible refine hold_make ?_) | (with_reducible refine hold_copy ?_))
    refine (hpt _ (he.below hB7 h8 hB7.size)).mono ?_
    rintro e w8 ⟨rfl, hB8⟩
    have hb8 := (hb6.below hB8).alloc (.cells #[.int .u32 (f : Int), .string (str g), .string (str h)] 24)
    have hy8 := (hy6.below hB8).alloc (.cells #[.int .u32 (f : Int), .string (str g), .string (str h)] 24)
    have hB8' := hB7.trans (hB8.mono hB7.size)
    have hv8 : Box (w8.alloc (.cells #[.int .u32 (f : Int), .string (str g), .string (str h)] 24)) w8.heap.size 24 #[.int .u32 (f : Int), .string (str g), .string (str h)] := Box.new _ _ _
    have hB9 := hB8'.alloc hB8'.size (.cells #[.int .u32 (f : Int), .string (str g), .string (str h)] 24)
    clear hpt hb6 hy6 hB7 hB8 hB8'
    have k0 := hb8.cell (j := 0) rfl
    have k1 := hb8.cell (j := 1) rfl
    have k2 := hb8.cell (j := 2) rfl
    have y0 := hy8.cell (j := 0) rfl
    have y1 := hy8.cell (j := 1) rfl
    have y2 := hy8.cell (j := 2) rfl
    have v0 := hv8.cell (j := 0) rfl
    have v1 := hv8.cell (j := 1) rfl
    have v2 := hv8.cell (j := 2) rfl
    have hqm : ((M : Int) != (M : Int)) = false := by simp
    go_wp2_with (first | (with_reducible refine hold_append ?_) | (with_reducible refine hold_make ?_) | (with_reducible refine hold_copy ?_))
    clear k0 k1 k2 y0 y1 y2 v0 v1 v2 hb8 hy8 hv8 heq
    have hps := parse_any s _ hsl (he.below hB9 h8 (Below.size hB9))
    cases hpx : parseX s with
    | none =>
      rw [parseR_none hpx] at hps
      unfold xdV xd0 at hps
      simp only at hps
      have heq : ∀ w, (binOp .eql 24 (.agg #[.int .u32 0, .string (str []), .string (str [])]) (.agg #[.int .u32 0, .string ⟨#[]⟩, .string ⟨#[]⟩])).run Tryd.prog w = .ok (.bool true) w := fun w => by
        have := xid_eql xd0 xd0 w
        rw [decide_eq_true rfl] at this
        exact this
      go_wp2_with (first | (with_reducible refine hold_append ?_) | (with_reducible refine hold_make ?_) | (with_reducible refine hold_copy ?_))
      refine hps.mono ?_
      rintro e wq ⟨rfl, hBq⟩
      have hBr := Below.trans hB9 (hBq.mono (Below.size hB9))
      have hbz : Box (wq.alloc (.cells #[.int .u32 (0 : Int), .string (str []), .string (str [])] 24)) wq.heap.size 24 #[.int .u32 (0 : Int), .string (str []), .string (str [])] := Box.new _ _ _
      have hBs := hBr.alloc hBr.size (.cells #[.int .u32 (0 : Int), .string (str []), .string (str [])] 24)
      clear hps hBq hpx
      have k0 := hbz.cell (j := 0) rfl
      have k1 := hbz.cell (j := 1) rfl
      have k2 := hbz.cell (j := 2) rfl
      go_wp2_with (first | (with_reducible refine hold_append ?_) | (with_reducible refine hold_make ?_) | (with_reducible refine hold_copy ?_))
      refine (head_any _ (he.below hBs h8 (Below.size hBs))).mono ?_
      rintro e wz ⟨rfl, hBz⟩
      have hB0z := Below.trans hBs (hBz.mono (Below.size hBs))
      go_wp2_with (first | (with_reducible refine hold_append ?_) | (with_reducible refine hold_make ?_) | (with_reducible refine hold_copy ?_))
      go_ret
      exact ⟨rfl, hB0z⟩
    | some y =>
      obtain ⟨ht, hky, hfy⟩ := txt_parse hpx
      have htxt := fun W hE => text_any y W ⟨hfy, hwfy y hky⟩ hE
      have htt : y.text = s := by unfold Xd.text; rw [if_pos hky, ht]
      rw [htt, Xd.err_ok hky] at htxt
      rw [parseR_some hpx] at hps
      obtain ⟨yf, yg, yh⟩ := y
      unfold xdV at hps htxt
      simp only at hps htxt
      clear htt ht hky hfy hpx
      have hqs : ((str s).toList == (str s).toList) = true := by simp
      go_wp2_with (first | (with_reducible refine hold_append ?_) | (with_reducible refine hold_make ?_) | (with_reducible refine hold_copy ?_))
      refine hps.mono ?_
      rintro e wq ⟨rfl, hBq⟩
      have hBr := Below.trans hB9 (hBq.mono (Below.size hB9))
      have hbz : Box (wq.alloc (.cells #[.int .u32 (yf : Int), .string (str yg), .string (str yh)] 24)) wq.heap.size 24 #[.int .u32 (yf : Int), .string (str yg), .string (str yh)] := Box.new _ _ _
      have hBs := hBr.alloc hBr.size (.cells #[.int .u32 (yf : Int), .string (str yg), .string (str yh)] 24)
      clear hps hBq
      have k0 := hbz.cell (j := 0) rfl
      have k1 := hbz.cell (j := 1) rfl
      have k2 := hbz.cell (j := 2) rfl
      go_wp2_with (first | (with_reducible refine hold_append ?_) | (with_reducible refine hold_make ?_) | (with_reducible refine hold_copy ?_))
      refine (htxt _ (he.below hBs h8 hBs.size)).mono ?_
      rintro e wt ⟨rfl, hBt⟩
      have hBu := hBs.trans (hBt.mono hBs.size)
      clear k0 k1 k2 hbz htxt
      go_wp2_with (first | (with_reducible refine hold_append ?_) | (with_reducible refine hold_make ?_) | (with_reducible refine hold_copy ?_))
      refine (head_any _ (he.below hBu h8 (Below.size hBu))).mono ?_
      rintro e wz ⟨rfl, hBz⟩
      have hB0z := Below.trans hBu (hBz.mono (Below.size hBu))
      go_wp2_with (first | (with_reducible refine hold_append ?_) | (with_reducible refine hold_make ?_) | (with_reducible refine hold_copy ?_))
      go_ret
      exact ⟨rfl, hB0z⟩
end Go.PH

/- Texts laid together: VlPlain, MdTabs, VlKeyed. -/
import Derived.Lib.OthersKept
import Derived.Deep.Cut
import Derived.Lib.LaidU8
import Derived.Maps.OwnSet
import Derived.StringKeys
import Derived.Test.YtidpbbleneekgaaGreatDoorMg00
import Derived.Test.YtidpbbleneekgaaGreatDoorMg01
import Derived.Test.YtidpbbleneekgaaGreatDoorMg05
import Derived.Test.YtidpbbleneekgaaGreatDoorMg06
import Derived.Test.YtidpbbleneekgaaGreatDoorMg07
import Derived.Test.YtidpbbleneekgaaGreatDoorMg08
set_option linter.all false
set_option linter.unusedSimpArgs false
set_option linter.unusedVariables false
section
/- Which texts are UTF-8: the walk of the program. -/
namespace Go.PH
open Go.RowKit Go.Proofs

/-- where a text's iterator stands -/
def posAt (k : Nat) (w : World) : Nat := match w.heap[k]? with | some (.stringIter _ p) => p | _ => 0
theorem posAt_eq {k p : Nat} {w : World} {s : ByteArray} (h : w.heap[k]? = some (.stringIter s p)) : posAt k w = p := by unfold posAt; rw [h]
abbrev UTabs (w : World) : Prop := Lib.Utf8Tabs 1 2 w
theorem decode_lt (s : List UInt8) (i : Nat) : (Utf8.decode (str s) i).1 < 2147483648 ∧ 1 ≤ (Utf8.decode (str s) i).2 ∧ (Utf8.decode (str s) i).2 ≤ 4 := by
 rw [decode_drop]
 have h0 := byteN_lt (s.drop i) 0
 have h1 := byteN_lt (s.drop i) 1
 have h2 := byteN_lt (s.drop i) 2
 have h3 := byteN_lt (s.drop i) 3
 unfold Lib.decodeN
 repeat' split
 all_goals (refine ⟨?_, ?_, ?_⟩ <;> (simp only; omega))
theorem decodeGo_drop (s : List UInt8) (i : Nat) (hi : i < s.length) : Lib.decodeGo (str (s.drop i)) = Utf8.decode (str s) i := by
 have h0 : (str (s.drop i)).size ≠ 0 := by rw [str_size, List.length_drop]; omega
 unfold Lib.decodeGo
 rw [if_neg h0, decode_drop, decode_drop, List.drop_zero]
theorem UTabs.on {w w' : World} (h : UTabs w) (hB : Below w.heap.size w w') : UTabs w' := by
 refine ⟨fun c hc => ?_, fun i hi => ⟨?_, ?_⟩⟩
 ·have := h.1 c hc
  exact (hB.cell (p := ⟨_, c, none⟩) (World.block_lt_of_cell? w _ this)).trans this
 ·have := (h.2 i hi).1
  exact (hB.cell (p := ⟨_, 2 * i, none⟩) (World.block_lt_of_cell? w _ this)).trans this
 ·have := (h.2 i hi).2
  exact (hB.cell (p := ⟨_, 2 * i + 1, none⟩) (World.block_lt_of_cell? w _ this)).trans this
set_option maxRecDepth 20000 in
theorem plain_any (s : List UInt8) (w : World) (hs : s.length ≤ 140737488351232) (hT : UTabs w) :
  Calls Tryz.prog 123 #[.string (str s)] w fun e w' => e = .returned (.bool (utf8B s)) ∧ Below w.heap.size w w' := by
 have hnx := fun (w : World) (k pos : Nat) ty => Lib.run_next_any_at (P := Tryz.prog) w k (str s) pos ty
 have hne := fun (w : World) (k pos : Nat) ty => Lib.run_next_end_at (P := Tryz.prog) w k (str s) pos ty
 have hsz : (str s).size = s.length := rfl
 obtain ⟨k, hk⟩ : ∃ k, k = w.heap.size := ⟨_, rfl⟩
 obtain ⟨w1, hw1⟩ : ∃ w1, w1 = w.iter (str s) 0 := ⟨_, rfl⟩
 have hk1 : w1.heap[k]? = some (.stringIter (str s) 0) := by rw [hw1, hk]; exact World.iter_heap _ _ _
 have hB1 : Below w.heap.size w w1 := by rw [hw1]; exact (Below.refl _ _).alloc (Nat.le_refl _) _
 have HK := Lib.hid hk
 go_enter Tryz.func123, Tryz.ntmps123
 go_upto_region 2 with fail
 rw [← hw1, ← hk]
 clear hw1 hk
 go_wp2_with (with_reducible refine h_A ?_)
 go_loopw [9] (fun _ wr => ∃ pos : Nat, pos ≤ s.length ∧ wr.heap[k]? = some (.stringIter (str s) pos) ∧ Hid (utf8B (s.drop pos) = utf8B s) ∧ Below w.heap.size w wr) (fun _ wr => s.length - posAt k wr)
 case atStart => exact ⟨0, by omega, hk1, Lib.hid rfl, hB1⟩
 case round =>
  clear hk1 hB1
  obtain ⟨pos, hp, hk1, HC, hB⟩ := hrel
  by_cases hlt : pos < s.length
  ·have hx := fun ty => hnx wr k pos ty hk1 hlt
   have hd := decode_step s pos
   obtain ⟨hc1, hc2, hc3⟩ := decode_lt s pos
   have hgo := decodeGo_drop s pos hlt
   obtain ⟨c, hc⟩ : ∃ c, (Utf8.decode (str s) pos).1 = c := ⟨_, rfl⟩
   obtain ⟨q, hq⟩ : ∃ q, (Utf8.decode (str s) pos).2 = q := ⟨_, rfl⟩
   have hpair : Utf8.decode (str s) pos = (c, q) := by rw [← hc, ← hq]
   rw [hc] at hc1
   rw [hq] at hc2 hc3
   rw [hpair] at hd hgo
   simp only [hc, hq] at hx
   have HD := Lib.hid hd
   have HG := Lib.hid hgo
   clear hd hc hq hpair hgo hnx hne
   have hB2 : Below w.heap.size w (wr.iterAt k (str s) (pos + q)) := Lib.below_iterAt hB (by rw [HK.out]; exact Nat.le_refl _) _ _
   have hk2 := Lib.iterAt_heap wr k (str s) pos (pos + q) hk1
   have HP := Lib.hid (posAt_eq hk1)
   generalize wr.iterAt k (str s) (pos + q) = w2 at *
   have HP2 := Lib.hid (posAt_eq hk2)
   have HN0 : Hid (s.drop pos ≠ []) := Lib.hid (by intro e; have := congrArg List.length e; rw [List.length_drop] at this; simp at this; omega)
   by_cases h65 : c = 65533
   ·have g1 : ((c : Int) == 65533) = true := by simp [h65]
    have hco := Tryz.utf8_DecodeRuneInString (str (s.drop pos)) w2 (hT.on hB2)
    rw [HG.out] at hco
    simp only at hco
    have hle := u8step_le HN0.out
    rw [List.length_drop] at hle
    by_cases hq1 : q = 1
    ·have g2 : ((q : Int) == 1) = true := by simp [hq1]
     have h0 : u8step (s.drop pos) = 0 := by
      refine Classical.byContradiction fun h0 => ?_
      have h := HD.out
      rw [if_neg h0] at h
      exact h.2 h65 (by rw [← h.1, hq1])
     have HF : Hid (utf8B s = false) := Lib.hid (by rw [← HC.out, utf8B_none HN0.out h0])
     clear h0 hq1 h65 hle
     go_wp2_with (first | (with_reducible refine hold_append ?_) | (with_reducible refine hold_make ?_) | (with_reducible refine hold_copy ?_) | (with_reducible refine hold_slice ?_) | (with_reducible refine hold_conv (s := 9) (t := 22) ?_))
     refine unhold (wp_cutS Tryz.underlying9 rfl rfl rfl (l := s) pos s.length (.inr ⟨_, _, rfl, rfl⟩) (.inl ⟨rfl, rfl⟩) (by omega) (by omega) ?_)
     rw [List.take_length]
     go_wp2_with (first | (with_reducible refine hold_append ?_) | (with_reducible refine hold_make ?_) | (with_reducible refine hold_copy ?_) | (with_reducible refine hold_slice ?_) | (with_reducible refine hold_conv (s := 9) (t := 22) ?_))
     refine hco.mono ?_
     rintro e w3 ⟨rfl, hB3⟩
     go_wp2_with (first | (with_reducible refine hold_append ?_) | (with_reducible refine hold_make ?_) | (with_reducible refine hold_copy ?_) | (with_reducible refine hold_slice ?_) | (with_reducible refine hold_conv (s := 9) (t := 22) ?_))
     go_ret
     rw [HF.out]
     exact ⟨rfl, hB2.trans (hB3.mono hB2.size)⟩
    ·have g2 : ((q : Int) == 1) = false := by simp; omega
     have hst : u8step (s.drop pos) ≠ 0 ∧ q = u8step (s.drop pos) := by
      have h := HD.out
      split at h
      ·injection h with e1 e2; exact absurd e2 hq1
      ·rename_i h0; exact ⟨h0, h.1⟩
     have HC2 : Hid (utf8B (s.drop (pos + q)) = utf8B s) := Lib.hid (by rw [← HC.out, utf8B_some HN0.out hst.1, List.drop_drop, ← hst.2])
     rw [← hst.2] at hle
     clear hst h65
     go_wp2_with (first | (with_reducible refine hold_append ?_) | (with_reducible refine hold_make ?_) | (with_reducible refine hold_copy ?_) | (with_reducible refine hold_slice ?_) | (with_reducible refine hold_conv (s := 9) (t := 22) ?_))
     refine unhold (wp_cutS Tryz.underlying9 rfl rfl rfl (l := s) pos s.length (.inr ⟨_, _, rfl, rfl⟩) (.inl ⟨rfl, rfl⟩) (by omega) (by omega) ?_)
     rw [List.take_length]
     go_wp2_with (first | (with_reducible refine hold_append ?_) | (with_reducible refine hold_make ?_) | (with_reducible refine hold_copy ?_) | (with_reducible refine hold_slice ?_) | (with_reducible refine hold_conv (s := 9) (t := 22) ?_))
     refine hco.mono ?_
     rintro e w3 ⟨rfl, hB3⟩
     have hk3 : w3.heap[k]? = some (.stringIter (str s) (pos + q)) := (hB3.block k (Array.getElem?_eq_some_iff.1 hk2).1).trans hk2
     have HP3 := Lib.hid (posAt_eq hk3)
     go_wp2_with (first | (with_reducible refine hold_append ?_) | (with_reducible refine hold_make ?_) | (with_reducible refine hold_copy ?_) | (with_reducible refine hold_slice ?_) | (with_reducible refine hold_conv (s := 9) (t := 22) ?_))
     exact ⟨⟨pos + q, by omega, hk3, HC2, hB2.trans (hB3.mono hB2.size)⟩, by rw [HP.out, HP3.out]; omega⟩
   ·have g1 : ((c : Int) == 65533) = false := by simp; omega
    have hst : u8step (s.drop pos) ≠ 0 ∧ q = u8step (s.drop pos) := by
     have h := HD.out
     split at h
     ·injection h with e1 e2; exact absurd e1 h65
     ·rename_i h0; exact ⟨h0, h.1⟩
    have HC2 : Hid (utf8B (s.drop (pos + q)) = utf8B s) := Lib.hid (by rw [← HC.out, utf8B_some HN0.out hst.1, List.drop_drop, ← hst.2])
    have hle := u8step_le HN0.out
    rw [← hst.2, List.length_drop] at hle
    clear hst h65
    go_wp2_with (with_reducible refine h_A ?_)
    exact ⟨⟨pos + q, by omega, hk2, HC2, hB2⟩, by rw [HP.out, HP2.out]; omega⟩
  ·have hx := fun ty => hne wr k pos ty hk1 hlt
   have HF : Hid (utf8B s = true) := Lib.hid (by rw [← HC.out, List.drop_eq_nil_of_le (by omega)]; rfl)
   clear hnx hne
   go_wp2_with (with_reducible refine h_A ?_)
   go_ret
   rw [HF.out]
   exact ⟨rfl, hB⟩
end Go.PH
end
section
/- The tables of UTF-8, out of the listed variables. -/
namespace Go.Proofs.YtidpbbleneekgaaGreatDoor
open Go.Lib Go.PH Go.RowKit Go.ChangeShapes Go.WideShapes Go.ChangeAt

theorem u8types : Lays.n260 Tryz.prog Tryz.lays197_ren := { Tryz.lays197 with }
theorem u8extra : U8Extra Tryz.prog Tryz.lays197_ren where
 n3 := by kernel_rfl
 n4 := by kernel_rfl
 y3 := by kernel_rfl
 y4 := by kernel_rfl
 c5 := by kernel_rfl
 c119 := by kernel_rfl
 c138 := by kernel_rfl
theorem first_same : Rows.laid_unicode_utf8_first = firstData := by kernel_rfl
theorem accept_same : (Rows.laid_unicode_utf8_acceptRanges : DataW Unit) = acceptData := by kernel_rfl
theorem utabs {W : World} (h : laidMetH Tryz.prog utfList W) : UTabs W := by
 have h' : laidMet Tryz.prog utfList W := h
 exact utf8Tabs_of_reads u8types u8extra (first_same ▸ Lib.laidMet.reads h' (by unfold utfList; simp)) (accept_same ▸ Lib.laidMet.reads h' (by unfold utfList; simp))
end Go.Proofs.YtidpbbleneekgaaGreatDoor
end
section
/- Which keys may be: the walk of the program. -/
namespace Go.PH
open Go.RowKit Go.Proofs

def keyOk (k : List UInt8) : Bool := decide (1 ≤ k.length) && decide (k.length ≤ 255) && utf8B k
theorem keysOk_eq (K : List (List UInt8)) : keysOk K utf8B = (K.all keyOk && decide K.Nodup) := rfl
theorem keys_bad {K : List (List UInt8)} {i : Nat} (hi : i < K.length) (h : keyOk K[i] = false) : keysOk K utf8B = false := by
 rw [keysOk_eq]
 have : K.all keyOk = false := by
  rw [List.all_eq_false]
  exact ⟨_, List.getElem_mem hi, by rw [h]; simp⟩
 rw [this]; rfl
theorem keys_twice {K : List (List UInt8)} {i : Nat} (hi : i < K.length) (h : K[i] ∈ K.take i) : keysOk K utf8B = false := by
 rw [keysOk_eq]
 have : ¬ K.Nodup := fun hn => by
  have h1 : (K.take (i + 1)).Nodup := hn.sublist (List.take_sublist _ _)
  rw [List.take_succ_eq_append_getElem hi, List.nodup_append] at h1
  exact h1.2.2 _ h _ (by simp) rfl
 rw [decide_eq_false this, Bool.and_false]
theorem keys_good {K : List (List UInt8)} (h1 : ∀ k ∈ K, keyOk k = true) (h2 : K.Nodup) : keysOk K utf8B = true := by
 rw [keysOk_eq, List.all_eq_true.2 h1, decide_eq_true h2]; rfl
theorem nodup_more {K : List (List UInt8)} {i : Nat} (hi : i < K.length) (h : (K.take i).Nodup) (hn : K[i] ∉ K.take i) : (K.take (i + 1)).Nodup := by
 rw [List.take_succ_eq_append_getElem hi, List.nodup_append]
 exact ⟨h, by simp, fun a ha b hb e => by rw [List.mem_singleton.1 hb] at e; rw [e] at ha; exact hn ha⟩
abbrev seenMap (w : World) (mb n : Nat) (D : DataW Unit) : Prop := w.ownsMap Tryz.prog 9 (plainElem (H := Unit) Tryz.prog 3) mb n D
theorem seenMap.below {w w' : World} {mb n : Nat} {D : DataW Unit} (h : seenMap w mb n D) (hB : Below w.heap.size w w') : seenMap w' mb n D := by
 obtain ⟨es, clock, hb, F, hs, hD⟩ := h
 exact ⟨es, clock, (hB.block mb (Array.getElem?_eq_some_iff.1 hb).1).trans hb, F, hs, hD⟩
theorem str_keyedM : Maps.Keyed Tryz.prog 9 := Maps.string_keyed Tryz.underlying9
theorem str_kl {a : List UInt8} (h : a.length ≤ 140737488351232) : keyOf Tryz.prog 9 (.string (str a)) = some (.string a) := WideMaps.keyOf_string_mk Tryz.underlying9 (by rw [str_size]; simp [maxLen]; omega)
theorem str_empty (a : List UInt8) : (str a).toList.isEmpty = decide (a.length = 0) := by
 rw [str_toList]
 cases a <;> simp
theorem hold_mapUp {P : Program} {ops : Array Oper} {Q : Exit → Act → World → Prop} {rest : List Oper} {a : Act} {w : World} {dst : Option Tmp} {ty : TypeId} {pos : String} {after : Array Edge} {guard : Option (Nat × Bool)} {t : TypeId} {m k v : Operand} (h : Hold (wpList P ops Q (⟨dst, .mapUpdate t m k v, ty, pos, after, guard⟩ :: rest) a w)) :
  wpList P ops Q (⟨dst, .mapUpdate t m k v, ty, pos, after, guard⟩ :: rest) a w := h
set_option maxRecDepth 20000 in
set_option maxHeartbeats 2000000 in
theorem keyed_any (A : Option Addr) (n c : Nat) (K : List (List UInt8)) (w : World) (hr : Rd w w.heap.size 1 A n c (K.map txV)) (hn : n ≤ 140737488351232) (hkl : ∀ k ∈ K, k.length ≤ 140737488351232) (hT : UTabs w) :
  Calls Tryz.prog 124 #[.slice A n c] w fun e w' => e = .returned (.bool (keysOk K utf8B)) ∧ Below w.heap.size w w' := by
 have hl : K.length = n := by have := hr.len; simpa using this
 have HL := Lib.hid hl
 have HKL := Lib.hid hkl
 clear hl hkl
 have hmk := fun W => run_makeMap (P := Tryz.prog) 172 W
 have hmap := World.ownsMap_made w Tryz.prog 9 (plainElem (H := Unit) Tryz.prog 3)
 have hB0 : Below w.heap.size w (w.alloc (.map #[] 0)) := (Below.refl _ _).alloc (Nat.le_refl _) _
 go_enter Tryz.func124, Tryz.ntmps124
 go_upto_region 2 with fail
 obtain ⟨mb, hmb⟩ : ∃ m, m = w.heap.size := ⟨_, rfl⟩
 rw [← hmb] at hmap ⊢
 have HMB := Lib.hid hmb
 clear hmb hmk
 generalize (w.alloc (.map #[] 0)) = w1 at *
 go_wp2_with (with_reducible refine h_A ?_)
 go_loopw [9] (fun s wr => ∃ (i : Nat) (D : DataW Unit), i ≤ n ∧ s = .int .i64 i ∧ Below w.heap.size w wr ∧ seenMap wr mb i D ∧ Hid ((∀ k ∈ K.take i, keyOk k = true) ∧ (K.take i).Nodup ∧ ∀ s : List UInt8, D.atKey (.string s) (.lit (.int .i64 0)) = .lit (.int .i64 (if s ∈ K.take i then 1 else 0)))) (fun s _ => n - (RowKit.intOf s).toNat)
 case atStart => exact ⟨0, _, by omega, rfl, hB0, hmap, Lib.hid ⟨by simp, by simp, fun s => by simp; rfl⟩⟩
 case round =>
  clear hB0 hmap
  obtain ⟨i, D, hi, rfl, hB, hmap, HI⟩ := hrel
  by_cases hlt : i < n
  ·have g1 : (i : Int) < (n : Int) := by omega
   have hil : i < K.length := by rw [HL.out]; exact hlt
   obtain ⟨b, off, rfl, hC⟩ := txs_cell hr hlt hil
   have y0 := hC wr hB
   have hal := HKL.out _ (List.getElem_mem hil)
   have HBAD : Hid (keyOk K[i] = false → keysOk K utf8B = false) := Lib.hid (keys_bad hil)
   have HTW : Hid (K[i] ∈ K.take i → keysOk K utf8B = false) := Lib.hid (keys_twice hil)
   have HND : Hid (K[i] ∉ K.take i → (K.take (i + 1)).Nodup) := Lib.hid (nodup_more hil HI.out.2.1)
   have HTK : Hid (K.take (i + 1) = K.take i ++ [K[i]]) := Lib.hid (List.take_succ_eq_append_getElem hil)
   clear hC
   generalize K[i] = a at *
   have has := str_size a
   have hem := str_empty a
   have hpl := plain_any a wr hal (hT.on hB)
   have HKO : Hid (keyOk a = (decide (1 ≤ a.length) && decide (a.length ≤ 255) && utf8B a)) := Lib.hid rfl
   by_cases ha0 : a.length = 0
   ·have HF : Hid (keysOk K utf8B = false) := Lib.hid (HBAD.out (by rw [HKO.out, decide_eq_false (by omega : ¬ 1 ≤ a.length)]; rfl))
    rw [decide_eq_true ha0] at hem
    clear ha0 hpl
    go_wp2_with (with_reducible refine h_A ?_)
    go_ret
    rw [HF.out]
    exact ⟨rfl, hB⟩
   ·rw [decide_eq_false ha0] at hem
    by_cases ha1 : 255 < a.length
    ·have HF : Hid (keysOk K utf8B = false) := Lib.hid (HBAD.out (by rw [HKO.out, decide_eq_false (by omega : ¬ a.length ≤ 255)]; simp))
     have g2 : (255 : Int) < (a.length : Int) := by omega
     clear ha0 hpl
     go_wp2_with (with_reducible refine h_A ?_)
     go_ret
     rw [HF.out]
     exact ⟨rfl, hB⟩
    ·have g2 : ¬ (255 : Int) < (a.length : Int) := by omega
     have HK2 : Hid (keyOk a = utf8B a) := Lib.hid (by rw [HKO.out, decide_eq_true (by omega : 1 ≤ a.length), decide_eq_true (by omega : a.length ≤ 255)]; rfl)
     clear ha0 ha1
     cases hu : utf8B a
     ·rw [hu] at hpl
      have HF : Hid (keysOk K utf8B = false) := Lib.hid (HBAD.out (by rw [HK2.out, hu]))
      clear hu
      go_wp2_with (with_reducible refine h_A ?_)
      refine hpl.mono ?_
      rintro e w2 ⟨rfl, hB2⟩
      clear hpl y0
      go_wp2_with (with_reducible refine h_A ?_)
      go_ret
      rw [HF.out]
      exact ⟨rfl, hB.trans (hB2.mono hB.size)⟩
     ·rw [hu] at hpl
      have HKT : Hid (keyOk a = true) := Lib.hid (by rw [HK2.out, hu])
      clear hu
      go_wp2_with (with_reducible refine h_A ?_)
      refine hpl.mono ?_
      rintro e w2 ⟨rfl, hB2⟩
      have hBB := hB.trans (hB2.mono hB.size)
      have hmap2 := hmap.below hB2
      clear hpl y0 hmap hB2 hB
      obtain ⟨cc, hrun, hat, _⟩ := hmap2.lookup_int (t := 172) str_keyedM Tryz.underlying172 Tryz.underlying3 (Tryz.zeroValue3 _) (key := .string (str a)) (kl := .string a) (str_kl hal)
      rw [HI.out.2.2 a] at hat
      injection hat with hat
      injection hat with _ hat
      have HAT := Lib.hid hat
      clear hat
      by_cases hm : a ∈ K.take i
      ·have hc1 : cc = 1 := by rw [← HAT.out, if_pos hm]
       have HF := Lib.hid (HTW.out hm)
       subst hc1
       clear hm
       go_wp2_with (with_reducible refine h_A ?_)
       go_ret
       rw [HF.out]
       exact ⟨rfl, hBB⟩
      ·have hc1 : cc = 0 := by rw [← HAT.out, if_neg hm]
       have HM := Lib.hid hm
       subst hc1
       clear hm
       go_wp2_with (first | (with_reducible refine hold_mapUp ?_))
       refine unhold (wpList_mapUpdate_own (H := Unit) _ rfl _ _ _ 172 rfl 9 3 str_keyedM Tryz.underlying172 (plainElem (H := Unit) Tryz.prog 3) _ _ _ rfl hmap2 (by simp [maxLen]; omega) _ _ (.string a) rfl rfl (str_kl hal) (.lit (.int .i64 1)) [] (plainElem_int Tryz.underlying3 (by decide)) ?_)
       intro w3 hmap3 hg3
       have hBy := hBB.grown hg3 hBB.size (fun g hg => by injection hg with hg; have := HMB.out; omega)
       have HI2 : Hid ((∀ k ∈ K.take (i + 1), keyOk k = true) ∧ (K.take (i + 1)).Nodup ∧ ∀ s : List UInt8, (D.put (.string a) (.lit (.int .i64 1))).atKey (.string s) (.lit (.int .i64 0)) = .lit (.int .i64 (if s ∈ K.take (i + 1) then 1 else 0))) := Lib.hid (by
        refine ⟨fun k hk => ?_, HND.out HM.out, fun s => ?_⟩
        ·rw [HTK.out] at hk
         rcases List.mem_append.1 hk with hk | hk
         ·exact HI.out.1 k hk
         ·rw [List.mem_singleton.1 hk]; exact HKT.out
        ·by_cases hs : s = a
         ·subst hs
          rw [Maps.atKey_put_same hmap2.isMap (str_keyedM.key (str_kl hal)), if_pos (by rw [HTK.out]; simp)]
         ·rw [Maps.atKey_put_other (fun e => hs (by injection e)), HI.out.2.2 s, HTK.out]
          by_cases hs2 : s ∈ K.take i
          ·rw [if_pos hs2, if_pos (by simp [hs2])]
          ·rw [if_neg hs2, if_neg (by simp [hs, hs2])])
       clear hmap2 hrun hg3
       go_wp2_with (with_reducible refine h_A ?_)
       exact ⟨⟨i + 1, _, by omega, by go_num, hBy, hmap3, HI2⟩, by simp [RowKit.intOf]; omega⟩
  ·have HF : Hid (keysOk K utf8B = true) := Lib.hid (by
    have h := HI.out
    rw [List.take_of_length_le (by rw [HL.out]; omega)] at h
    exact keys_good h.1 h.2.1)
   have g1 : ¬ (i : Int) < (n : Int) := by omega
   go_wp2_with (with_reducible refine h_A ?_)
   go_ret
   rw [HF.out]
   exact ⟨rfl, hB⟩
end Go.PH
end

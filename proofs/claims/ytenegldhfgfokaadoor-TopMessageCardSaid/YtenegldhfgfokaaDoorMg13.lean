/- Texts laid together: VlUtf, VlPlain, TmLaid, VlKeyed. -/
import Derived.Lib.DecodeN
import Derived.Lib.TrimU
import Derived.Lib.OthersKept
import Derived.Deep.Cut
import Derived.Test.YtenegldhfgfokaaDoorCards
import Derived.Test.YtenegldhfgfokaaDoorTie
import Derived.Lib.LaidTab
import Derived.Lib.LaidU8
import Derived.Stop.LaidErr
import Derived.Maps.OwnSet
import Derived.StringKeys
import Derived.Test.YtenegldhfgfokaaDoorMg00
import Derived.Test.YtenegldhfgfokaaDoorMg01
import Derived.Test.YtenegldhfgfokaaDoorMg03
import Derived.Test.YtenegldhfgfokaaDoorMg08
import Derived.Test.YtenegldhfgfokaaDoorMg12
set_option linter.all false
set_option linter.unusedSimpArgs false
set_option linter.unusedVariables false
section
/- UTF-8 as plain mathematics: the model's steps through a text and the document's test are one. -/
namespace Go.PH

/-- the document's step, by a text's length and first bytes: how many bytes the first sign has; 0: there is none -/
def u8N (n b0 b1 b2 b3 : Nat) : Nat :=
 if b0 < 128 then 1
 else if 194 ≤ b0 ∧ b0 ≤ 223 ∧ 1 < n ∧ 128 ≤ b1 ∧ b1 ≤ 191 then 2
 else if 224 ≤ b0 ∧ b0 ≤ 239 ∧ 2 < n ∧ 128 ≤ b1 ∧ b1 ≤ 191 ∧ (b0 = 224 → 160 ≤ b1) ∧ (b0 = 237 → b1 ≤ 159) ∧ 128 ≤ b2 ∧ b2 ≤ 191 then 3
 else if 240 ≤ b0 ∧ b0 ≤ 244 ∧ 3 < n ∧ 128 ≤ b1 ∧ b1 ≤ 191 ∧ (b0 = 240 → 144 ≤ b1) ∧ (b0 = 244 → b1 ≤ 143) ∧ 128 ≤ b2 ∧ b2 ≤ 191 ∧ 128 ≤ b3 ∧ b3 ≤ 191 then 4
 else 0
theorem u8N_le (n b0 b1 b2 b3 : Nat) (hn : 0 < n) : u8N n b0 b1 b2 b3 ≤ n := by
 unfold u8N
 repeat' split
 all_goals omega
def byteN (l : List UInt8) (k : Nat) : Nat := ((l[k]?).getD 0).toNat
theorem byteN_lt (l : List UInt8) (k : Nat) : byteN l k < 256 := UInt8.toNat_lt _
def u8step (l : List UInt8) : Nat := u8N l.length (byteN l 0) (byteN l 1) (byteN l 2) (byteN l 3)
set_option maxHeartbeats 2000000 in
theorem decodeN_step (n b0 b1 b2 b3 : Nat) (h0 : b0 < 256) (h1 : b1 < 256) (h2 : b2 < 256) (h3 : b3 < 256) :
  if u8N n b0 b1 b2 b3 = 0 then Lib.decodeN n b0 b1 b2 b3 = (65533, 1) else (Lib.decodeN n b0 b1 b2 b3).2 = u8N n b0 b1 b2 b3 ∧ ((Lib.decodeN n b0 b1 b2 b3).1 = 65533 → u8N n b0 b1 b2 b3 ≠ 1) := by
 unfold u8N
 by_cases c1 : b0 < 128
 ·simp only [c1, if_true]
  rw [if_neg (by omega)]
  unfold Lib.decodeN
  rw [if_pos c1]
  exact ⟨rfl, fun h => by simp only at h; omega⟩
 rw [if_neg c1]
 unfold Lib.decodeN
 rw [if_neg c1]
 by_cases c2 : 194 ≤ b0 ∧ b0 ≤ 223 ∧ 1 < n ∧ 128 ≤ b1 ∧ b1 ≤ 191
 ·rw [if_pos c2, if_neg (by omega), if_pos (by omega), if_pos (by omega)]
  exact ⟨rfl, fun _ => by omega⟩
 rw [if_neg c2]
 by_cases c3 : 224 ≤ b0 ∧ b0 ≤ 239 ∧ 2 < n ∧ 128 ≤ b1 ∧ b1 ≤ 191 ∧ (b0 = 224 → 160 ≤ b1) ∧ (b0 = 237 → b1 ≤ 159) ∧ 128 ≤ b2 ∧ b2 ≤ 191
 ·rw [if_pos c3, if_neg (by omega), if_neg (by omega), if_pos (by omega), if_pos (by omega)]
  exact ⟨rfl, fun _ => by omega⟩
 rw [if_neg c3]
 by_cases c4 : 240 ≤ b0 ∧ b0 ≤ 244 ∧ 3 < n ∧ 128 ≤ b1 ∧ b1 ≤ 191 ∧ (b0 = 240 → 144 ≤ b1) ∧ (b0 = 244 → b1 ≤ 143) ∧ 128 ≤ b2 ∧ b2 ≤ 191 ∧ 128 ≤ b3 ∧ b3 ≤ 191
 ·rw [if_pos c4, if_neg (by omega), if_neg (by omega), if_neg (by omega), if_pos (by omega), if_pos (by omega)]
  exact ⟨rfl, fun _ => by omega⟩
 rw [if_neg c4, if_pos rfl]
 by_cases d2 : b0 / 32 = 6 ∧ (1 < n ∧ b1 / 64 = 2)
 ·rw [if_pos d2, if_neg (by omega)]
 rw [if_neg d2]
 by_cases d3 : b0 / 16 = 14 ∧ (1 < n ∧ b1 / 64 = 2) ∧ (2 < n ∧ b2 / 64 = 2)
 ·rw [if_pos d3, if_neg (by omega)]
 rw [if_neg d3]
 by_cases d4 : b0 / 8 = 30 ∧ (1 < n ∧ b1 / 64 = 2) ∧ (2 < n ∧ b2 / 64 = 2) ∧ (3 < n ∧ b3 / 64 = 2)
 ·rw [if_pos d4, if_neg (by omega)]
 rw [if_neg d4]
/-- is a text UTF-8? -/
def utfF : Nat → List UInt8 → Bool
 | 0, l => l.isEmpty
 | f + 1, l => if l = [] then true else if u8step l = 0 then false else utfF f (l.drop (u8step l))
def utf8B (l : List UInt8) : Bool := utfF l.length l
theorem u8step_le {l : List UInt8} (h : l ≠ []) : u8step l ≤ l.length := u8N_le _ _ _ _ _ (List.length_pos_iff.2 h)
theorem utfF_more : ∀ (f : Nat) (l : List UInt8), l.length ≤ f → utfF f l = utf8B l := by
 intro f
 induction f using Nat.strongRecOn with
 | _ f ih =>
  intro l hl
  by_cases h0 : l = []
  ·subst h0
   cases f <;> rfl
  have hp := List.length_pos_iff.2 h0
  obtain ⟨k, hk⟩ : ∃ k, l.length = k + 1 := ⟨l.length - 1, by omega⟩
  obtain ⟨f, rfl⟩ : ∃ m, f = m + 1 := ⟨f - 1, by omega⟩
  unfold utf8B
  rw [hk, utfF, utfF, if_neg h0, if_neg h0]
  by_cases hs : u8step l = 0
  ·rw [if_pos hs, if_pos hs]
  ·rw [if_neg hs, if_neg hs]
   have hlen : (l.drop (u8step l)).length ≤ k := by rw [List.length_drop]; omega
   rw [ih f (by omega) _ (by omega)]
   by_cases hkf : k = f
   ·rw [hkf, ih f (by omega) _ (by omega)]
   ·rw [ih k (by omega) _ hlen]
theorem utf8B_none {l : List UInt8} (h0 : l ≠ []) (h : u8step l = 0) : utf8B l = false := by
 obtain ⟨k, hk⟩ : ∃ k, l.length = k + 1 := ⟨l.length - 1, by have := List.length_pos_iff.2 h0; omega⟩
 unfold utf8B
 rw [hk, utfF, if_neg h0, if_pos h]
theorem utf8B_some {l : List UInt8} (h0 : l ≠ []) (h : u8step l ≠ 0) : utf8B l = utf8B (l.drop (u8step l)) := by
 obtain ⟨k, hk⟩ : ∃ k, l.length = k + 1 := ⟨l.length - 1, by have := List.length_pos_iff.2 h0; omega⟩
 rw [← utfF_more k (l.drop (u8step l)) (by rw [List.length_drop]; omega)]
 conv => lhs; unfold utf8B
 rw [hk, utfF, if_neg h0, if_neg h]
/-! ### the model's step -/
theorem get!_str (s : List UInt8) (i : Nat) : ((str s).get! i).toNat = byteN s i := by
 unfold ByteArray.get! str byteN
 simp only [List.getElem!_toArray, List.getElem!_eq_getElem?_getD]
 rfl
theorem byteN_drop (s : List UInt8) (i k : Nat) : byteN (s.drop i) k = byteN s (i + k) := by
 unfold byteN
 rw [List.getElem?_drop]
theorem decode_drop (s : List UInt8) (i : Nat) : Utf8.decode (str s) i = Lib.decodeN (s.drop i).length (byteN (s.drop i) 0) (byteN (s.drop i) 1) (byteN (s.drop i) 2) (byteN (s.drop i) 3) := by
 rw [Lib.decode_at]
 simp only [get!_str, str_size, List.length_drop, byteN_drop, Nat.add_zero]
theorem decode_step (s : List UInt8) (i : Nat) : if u8step (s.drop i) = 0 then Utf8.decode (str s) i = (65533, 1) else (Utf8.decode (str s) i).2 = u8step (s.drop i) ∧ ((Utf8.decode (str s) i).1 = 65533 → u8step (s.drop i) ≠ 1) := by
 rw [decode_drop]
 exact decodeN_step _ _ _ _ _ (byteN_lt _ _) (byteN_lt _ _) (byteN_lt _ _) (byteN_lt _ _)
end Go.PH
end
section
/- Which texts are UTF-8: the walk of the program. -/
namespace Go.PH
open Go.RowKit Go.Proofs

/-- where a text's iterator stands -/
def posAt (k : Nat) (w : World) : Nat := match w.heap[k]? with | some (.stringIter _ p) => p | _ => 0
theorem posAt_eq {k p : Nat} {w : World} {s : ByteArray} (h : w.heap[k]? = some (.stringIter s p)) : posAt k w = p := by unfold posAt; rw [h]
abbrev UTabs (w : World) : Prop := Lib.Utf8Tabs 2 3 w
theorem decode_lt (s : List UInt8) (i : Nat) : (Utf8.decode (str s) i).1 < 2147483648 ∧ 1 ≤ (Utf8.decode (str s) i).2 ∧ (Utf8.decode (str s) i).2 ≤ 4 := by
 rw [decode_drop]
 have h0 := byteN_lt (s.drop i) 0
 have h1 := byteN_lt (s.drop i) 1
 have h2 := byteN_lt (s.drop i) 2
 have h3 := byteN_lt (s.drop i) 3
 unfold Lib.decodeN
 repeat' split
 all_goals (refine ⟨?_, ?_, ?_⟩ <;> (simp only; omega))
theorem decodeGo_drop (s : List UInt8) (i : Nat) (hi : i < s.length) : Lib.decodeGo (str (s.drop i)) = Utf8.decode (str s) i := by
 have h0 : (str (s.drop i)).size ≠ 0 := by rw [str_size, List.length_drop]; omega
 unfold Lib.decodeGo
 rw [if_neg h0, decode_drop, decode_drop, List.drop_zero]
theorem UTabs.on {w w' : World} (h : UTabs w) (hB : Below w.heap.size w w') : UTabs w' := by
 refine ⟨fun c hc => ?_, fun i hi => ⟨?_, ?_⟩⟩
 ·have := h.1 c hc
  exact (hB.cell (p := ⟨_, c, none⟩) (World.block_lt_of_cell? w _ this)).trans this
 ·have := (h.2 i hi).1
  exact (hB.cell (p := ⟨_, 2 * i, none⟩) (World.block_lt_of_cell? w _ this)).trans this
 ·have := (h.2 i hi).2
  exact (hB.cell (p := ⟨_, 2 * i + 1, none⟩) (World.block_lt_of_cell? w _ this)).trans this
set_option maxRecDepth 20000 in
theorem plain_any (s : List UInt8) (w : World) (hs : s.length ≤ 140737488351232) (hT : UTabs w) :
  Calls Tryd.prog 67 #[.string (str s)] w fun e w' => e = .returned (.bool (utf8B s)) ∧ Below w.heap.size w w' := by
 have hnx := fun (w : World) (k pos : Nat) ty => Lib.run_next_any_at (P := Tryd.prog) w k (str s) pos ty
 have hne := fun (w : World) (k pos : Nat) ty => Lib.run_next_end_at (P := Tryd.prog) w k (str s) pos ty
 have hsz : (str s).size = s.length := rfl
 obtain ⟨k, hk⟩ : ∃ k, k = w.heap.size := ⟨_, rfl⟩
 obtain ⟨w1, hw1⟩ : ∃ w1, w1 = w.iter (str s) 0 := ⟨_, rfl⟩
 have hk1 : w1.heap[k]? = some (.stringIter (str s) 0) := by rw [hw1, hk]; exact World.iter_heap _ _ _
 have hB1 : Below w.heap.size w w1 := by rw [hw1]; exact (Below.refl _ _).alloc (Nat.le_refl _) _
 have HK := Lib.hid hk
 go_enter Tryd.func67, Tryd.ntmps67
 go_upto_region 2 with fail
 rw [← hw1, ← hk]
 clear hw1 hk
 go_wp2_with (with_reducible refine h_A ?_)
 go_loopw [9] (fun _ wr => ∃ pos : Nat, pos ≤ s.length ∧ wr.heap[k]? = some (.stringIter (str s) pos) ∧ Hid (utf8B (s.drop pos) = utf8B s) ∧ Below w.heap.size w wr) (fun _ wr => s.length - posAt k wr)
 case atStart => exact ⟨0, by omega, hk1, Lib.hid rfl, hB1⟩
 case round =>
  clear hk1 hB1
  obtain ⟨pos, hp, hk1, HC, hB⟩ := hrel
  by_cases hlt : pos < s.length
  ·have hx := fun ty => hnx wr k pos ty hk1 hlt
   have hd := decode_step s pos
   obtain ⟨hc1, hc2, hc3⟩ := decode_lt s pos
   have hgo := decodeGo_drop s pos hlt
   obtain ⟨c, hc⟩ : ∃ c, (Utf8.decode (str s) pos).1 = c := ⟨_, rfl⟩
   obtain ⟨q, hq⟩ : ∃ q, (Utf8.decode (str s) pos).2 = q := ⟨_, rfl⟩
   have hpair : Utf8.decode (str s) pos = (c, q) := by rw [← hc, ← hq]
   rw [hc] at hc1
   rw [hq] at hc2 hc3
   rw [hpair] at hd hgo
   simp only [hc, hq] at hx
   have HD := Lib.hid hd
   have HG := Lib.hid hgo
   clear hd hc hq hpair hgo hnx hne
   have hB2 : Below w.heap.size w (wr.iterAt k (str s) (pos + q)) := Lib.below_iterAt hB (by rw [HK.out]; exact Nat.le_refl _) _ _
   have hk2 := Lib.iterAt_heap wr k (str s) pos (pos + q) hk1
   have HP := Lib.hid (posAt_eq hk1)
   generalize wr.iterAt k (str s) (pos + q) = w2 at *
   have HP2 := Lib.hid (posAt_eq hk2)
   have HN0 : Hid (s.drop pos ≠ []) := Lib.hid (by intro e; have := congrArg List.length e; rw [List.length_drop] at this; simp at this; omega)
   by_cases h65 : c = 65533
   ·have g1 : ((c : Int) == 65533) = true := by simp [h65]
    have hco := Tryd.utf8_DecodeRuneInString (str (s.drop pos)) w2 (hT.on hB2)
    rw [HG.out] at hco
    simp only at hco
    have hle := u8step_le HN0.out
    rw [List.length_drop] at hle
    by_cases hq1 : q = 1
    ·have g2 : ((q : Int) == 1) = true := by simp [hq1]
     have h0 : u8step (s.drop pos) = 0 := by
      refine Classical.byContradiction fun h0 => ?_
      have h := HD.out
      rw [if_neg h0] at h
      exact h.2 h65 (by rw [← h.1, hq1])
     have HF : Hid (utf8B s = false) := Lib.hid (by rw [← HC.out, utf8B_none HN0.out h0])
     clear h0 hq1 h65 hle
     go_wp2_with (first | (with_reducible refine hold_append ?_) | (with_reducible refine hold_make ?_) | (with_reducible refine hold_copy ?_) | (with_reducible refine hold_slice ?_) | (with_reducible refine hold_conv (s := 9) (t := 47) ?_))
     refine unhold (wp_cutS Tryd.underlying9 rfl rfl rfl (l := s) pos s.length (.inr ⟨_, _, rfl, rfl⟩) (.inl ⟨rfl, rfl⟩) (by omega) (by omega) ?_)
     rw [List.take_length]
     go_wp2_with (first | (with_reducible refine hold_append ?_) | (with_reducible refine hold_make ?_) | (with_reducible refine hold_copy ?_) | (with_reducible refine hold_slice ?_) | (with_reducible refine hold_conv (s := 9) (t := 47) ?_))
     refine hco.mono ?_
     rintro e w3 ⟨rfl, hB3⟩
     go_wp2_with (first | (with_reducible refine hold_append ?_) | (with_reducible refine hold_make ?_) | (with_reducible refine hold_copy ?_) | (with_reducible refine hold_slice ?_) | (with_reducible refine hold_conv (s := 9) (t := 47) ?_))
     go_ret
     rw [HF.out]
     exact ⟨rfl, hB2.trans (hB3.mono hB2.size)⟩
    ·have g2 : ((q : Int) == 1) = false := by simp; omega
     have hst : u8step (s.drop pos) ≠ 0 ∧ q = u8step (s.drop pos) := by
      have h := HD.out
      split at h
      ·injection h with e1 e2; exact absurd e2 hq1
      ·rename_i h0; exact ⟨h0, h.1⟩
     have HC2 : Hid (utf8B (s.drop (pos + q)) = utf8B s) := Lib.hid (by rw [← HC.out, utf8B_some HN0.out hst.1, List.drop_drop, ← hst.2])
     rw [← hst.2] at hle
     clear hst h65
     go_wp2_with (first | (with_reducible refine hold_append ?_) | (with_reducible refine hold_make ?_) | (with_reducible refine hold_copy ?_) | (with_reducible refine hold_slice ?_) | (with_reducible refine hold_conv (s := 9) (t := 47) ?_))
     refine unhold (wp_cutS Tryd.underlying9 rfl rfl rfl (l := s) pos s.length (.inr ⟨_, _, rfl, rfl⟩) (.inl ⟨rfl, rfl⟩) (by omega) (by omega) ?_)
     rw [List.take_length]
     go_wp2_with (first | (with_reducible refine hold_append ?_) | (with_reducible refine hold_make ?_) | (with_reducible refine hold_copy ?_) | (with_reducible refine hold_slice ?_) | (with_reducible refine hold_conv (s := 9) (t := 47) ?_))
     refine hco.mono ?_
     rintro e w3 ⟨rfl, hB3⟩
     have hk3 : w3.heap[k]? = some (.stringIter (str s) (pos + q)) := (hB3.block k (Array.getElem?_eq_some_iff.1 hk2).1).trans hk2
     have HP3 := Lib.hid (posAt_eq hk3)
     go_wp2_with (first | (with_reducible refine hold_append ?_) | (with_reducible refine hold_make ?_) | (with_reducible refine hold_copy ?_) | (with_reducible refine hold_slice ?_) | (with_reducible refine hold_conv (s := 9) (t := 47) ?_))
     exact ⟨⟨pos + q, by omega, hk3, HC2, hB2.trans (hB3.mono hB2.size)⟩, by rw [HP.out, HP3.out]; omega⟩
   ·have g1 : ((c : Int) == 65533) = false := by simp; omega
    have hst : u8step (s.drop pos) ≠ 0 ∧ q = u8step (s.drop pos) := by
     have h := HD.out
     split at h
     ·injection h with e1 e2; exact absurd e1 h65
     ·rename_i h0; exact ⟨h0, h.1⟩
    have HC2 : Hid (utf8B (s.drop (pos + q)) = utf8B s) := Lib.hid (by rw [← HC.out, utf8B_some HN0.out hst.1, List.drop_drop, ← hst.2])
    have hle := u8step_le HN0.out
    rw [← hst.2, List.length_drop] at hle
    clear hst h65
    go_wp2_with (with_reducible refine h_A ?_)
    exact ⟨⟨pos + q, by omega, hk2, HC2, hB2⟩, by rw [HP.out, HP2.out]; omega⟩
  ·have hx := fun ty => hne wr k pos ty hk1 hlt
   have HF : Hid (utf8B s = true) := Lib.hid (by rw [← HC.out, List.drop_eq_nil_of_le (by omega)]; rfl)
   clear hnx hne
   go_wp2_with (with_reducible refine h_A ?_)
   go_ret
   rw [HF.out]
   exact ⟨rfl, hB⟩
end Go.PH
end
section
/- The listed variables of TopMessage: what the row's list gives, and a world for the witness. -/
namespace Go.Proofs.YtenegldhfgfokaaDoor
open Go.Lib Go.PH Go.RowKit Go.ChangeShapes Go.WideShapes Go.ChangeAt

theorem own : ownKnob Tryd.prog.godebug = none := by kernel_rfl
theorem laidOut : laidOutB Tryd.prog = true := by kernel_rfl
def topList : List (String × DataW Unit) := [("math/bits.deBruijn32tab", Rows.laid_math_bits_deBruijn32tab), ("math/bits.deBruijn64tab", Rows.laid_math_bits_deBruijn64tab), ("internal/strconv.uint64pow10", Rows.laid_internal_strconv_uint64pow10), ("posthouse/crc.table", Rows.laid_posthouse_crc_table), ("unicode/utf8.acceptRanges", Rows.laid_unicode_utf8_acceptRanges), ("unicode/utf8.first", Rows.laid_unicode_utf8_first)]
theorem u8types : Lays.n260 Tryd.prog Tryd.lays197_ren := { Tryd.lays197 with }
theorem u8extra : U8Extra Tryd.prog Tryd.lays197_ren where
 n3 := by kernel_rfl
 n4 := by kernel_rfl
 y3 := by kernel_rfl
 y4 := by kernel_rfl
 c5 := by kernel_rfl
 c119 := by kernel_rfl
 c138 := by kernel_rfl
theorem first_same : Rows.laid_unicode_utf8_first = firstData := by kernel_rfl
theorem accept_same : (Rows.laid_unicode_utf8_acceptRanges : DataW Unit) = acceptData := by kernel_rfl
theorem utabs {W : World} (h : laidMetH Tryd.prog topList W) : UTabs W := by
 have h' : laidMet Tryd.prog topList W := h
 exact utf8Tabs_of_reads u8types u8extra (first_same ▸ Lib.laidMet.reads h' (by unfold topList; simp)) (accept_same ▸ Lib.laidMet.reads h' (by unfold topList; simp))
theorem gTab : Tryd.prog.globalNamed "posthouse/crc.table" = some 0 := by kernel_rfl
theorem gTabType : (Tryd.prog.globals[0]?).map (·.type) = some 138 := by kernel_rfl
theorem cellsTab : Tryd.prog.cellsOf 138 = 16 := by kernel_rfl
theorem cellsU32 : Tryd.prog.cellsOf 67 = 1 := by kernel_rfl
def tabInts : List Int := [0, 274646895, 549293790, 820201905, 1098587580, 1361435347, 1640403810, 1905808397, 2197175160, 2460548119, 2722870694, 2987750089, 3280807620, 3553878443, 3811616794, 4084100981]
theorem table {W : World} (h : laidMetH Tryd.prog topList W) : TabAt W := by
 have h : laidMet Tryd.prog topList W := h
 have h1 : Lib.TabIs Tryd.prog W "posthouse/crc.table" .u32 tabInts := Lib.tabIs_of_head gTab gTabType Tryd.underlying138 Tryd.underlying67 cellsU32 cellsTab h.tail.tail.tail
 intro j hj
 have := h1.cell gTab j hj
 rw [this]
 have e : ∀ j : Fin 16, tabInts.getD j.val 0 = (tab j.val : Int) := by decide
 rw [e ⟨j, hj⟩]
/-! A world for the witness: each listed variable as its initialiser lays it. -/
def u8s (l : List Nat) : Array Value := (l.map fun (n : Nat) => Value.int .u8 (n : Int)).toArray
def u32s (l : List Nat) : Array Value := (l.map fun (n : Nat) => Value.int .u32 (n : Int)).toArray
def u64s (l : List Nat) : Array Value := (l.map fun (n : Nat) => Value.int .u64 (n : Int)).toArray
def deb32N : List Nat := [0, 1, 28, 2, 29, 14, 24, 3, 30, 22, 20, 15, 25, 17, 4, 8, 31, 27, 13, 23, 21, 19, 16, 7, 26, 12, 18, 6, 11, 5, 10, 9]
def deb64N : List Nat := [0, 1, 56, 2, 57, 49, 28, 3, 61, 58, 42, 50, 38, 29, 17, 4, 62, 47, 59, 36, 45, 43, 51, 22, 53, 39, 33, 30, 24, 18, 12, 5, 63, 55, 48, 27, 60, 41, 37, 16, 46, 35, 44, 21, 52, 32, 23, 11, 54, 26, 40, 15, 34, 20, 31, 10, 25, 14, 19, 9, 13, 8, 7, 6]
def powN : List Nat := [1, 10, 100, 1000, 10000, 100000, 1000000, 10000000, 100000000, 1000000000, 10000000000, 100000000000, 1000000000000, 10000000000000, 100000000000000, 1000000000000000, 10000000000000000, 100000000000000000, 1000000000000000000, 10000000000000000000]
def accN : List Nat := [128, 191, 160, 191, 128, 159, 144, 191, 128, 143, 0, 0, 0, 0, 0, 0, 0, 0, 0, 0, 0, 0, 0, 0, 0, 0, 0, 0, 0, 0, 0, 0]
def crcN : List Nat := [0, 274646895, 549293790, 820201905, 1098587580, 1361435347, 1640403810, 1905808397, 2197175160, 2460548119, 2722870694, 2987750089, 3280807620, 3553878443, 3811616794, 4084100981]
def withCells (h : Array Obj) (g : Nat) (cs : Array Value) : Array Obj := h.modify g fun
 | .cells _ t frozen => .cells cs t frozen
 | o => o
noncomputable def wit (os : Os) : World :=
 let w0 := World.holding Tryd.prog os ⟨#[], #[], []⟩
 { w0 with heap := withCells (withCells (withCells (withCells (withCells (withCells w0.heap 4 (u8s deb32N)) 5 (u8s deb64N)) 1 (u64s powN)) 0 (u32s crcN)) 3 (u8s accN)) 2 (u8s Go.Pinned.utf8FirstZ) }
theorem top_met (os : Os) (args : Array Value) : laidMet Tryd.prog topList ((wit os).forCall (fun _ _ => 0) ⟨#[], args, []⟩).memory :=
 laidMet_of_run' 8 (by kernel_rfl) (by kernel_rfl)
end Go.Proofs.YtenegldhfgfokaaDoor
end
section
/- Which keys may be: the walk of the program. -/
namespace Go.PH
open Go.RowKit Go.Proofs

def keyOk (k : List UInt8) : Bool := decide (1 ≤ k.length) && decide (k.length ≤ 255) && utf8B k
theorem keysOk_eq (K : List (List UInt8)) : keysOk K utf8B = (K.all keyOk && decide K.Nodup) := rfl
theorem keys_bad {K : List (List UInt8)} {i : Nat} (hi : i < K.length) (h : keyOk K[i] = false) : keysOk K utf8B = false := by
 rw [keysOk_eq]
 have : K.all keyOk = false := by
  rw [List.all_eq_false]
  exact ⟨_, List.getElem_mem hi, by rw [h]; simp⟩
 rw [this]; rfl
theorem keys_twice {K : List (List UInt8)} {i : Nat} (hi : i < K.length) (h : K[i] ∈ K.take i) : keysOk K utf8B = false := by
 rw [keysOk_eq]
 have : ¬ K.Nodup := fun hn => by
  have h1 : (K.take (i + 1)).Nodup := hn.sublist (List.take_sublist _ _)
  rw [List.take_succ_eq_append_getElem hi, List.nodup_append] at h1
  exact h1.2.2 _ h _ (by simp) rfl
 rw [decide_eq_false this, Bool.and_false]
theorem keys_good {K : List (List UInt8)} (h1 : ∀ k ∈ K, keyOk k = true) (h2 : K.Nodup) : keysOk K utf8B = true := by
 rw [keysOk_eq, List.all_eq_true.2 h1, decide_eq_true h2]; rfl
theorem nodup_more {K : List (List UInt8)} {i : Nat} (hi : i < K.length) (h : (K.take i).Nodup) (hn : K[i] ∉ K.take i) : (K.take (i + 1)).Nodup := by
 rw [List.take_succ_eq_append_getElem hi, List.nodup_append]
 exact ⟨h, by simp, fun a ha b hb e => by rw [List.mem_singleton.1 hb] at e; rw [e] at ha; exact hn ha⟩
abbrev seenMap (w : World) (mb n : Nat) (D : DataW Unit) : Prop := w.ownsMap Tryd.prog 9 (plainElem (H := Unit) Tryd.prog 3) mb n D
theorem seenMap.below {w w' : World} {mb n : Nat} {D : DataW Unit} (h : seenMap w mb n D) (hB : Below w.heap.size w w') : seenMap w' mb n D := by
 obtain ⟨es, clock, hb, F, hs, hD⟩ := h
 exact ⟨es, clock, (hB.block mb (Array.getElem?_eq_some_iff.1 hb).1).trans hb, F, hs, hD⟩
theorem str_keyedM : Maps.Keyed Tryd.prog 9 := Maps.string_keyed Tryd.underlying9
theorem str_kl {a : List UInt8} (h : a.length ≤ 140737488351232) : keyOf Tryd.prog 9 (.string (str a)) = some (.string a) := WideMaps.keyOf_string_mk Tryd.underlying9 (by rw [str_size]; simp [maxLen]; omega)
theorem str_empty (a : List UInt8) : (str a).toList.isEmpty = decide (a.length = 0) := by
 rw [str_toList]
 cases a <;> simp
theorem hold_mapUp {P : Program} {ops : Array Oper} {Q : Exit → Act → World → Prop} {rest : List Oper} {a : Act} {w : World} {dst : Option Tmp} {ty : TypeId} {pos : String} {after : Array Edge} {guard : Option (Nat × Bool)} {t : TypeId} {m k v : Operand} (h : Hold (wpList P ops Q (⟨dst, .mapUpdate t m k v, ty, pos, after, guard⟩ :: rest) a w)) :
  wpList P ops Q (⟨dst, .mapUpdate t m k v, ty, pos, after, guard⟩ :: rest) a w := h
set_option maxRecDepth 20000 in
set_option maxHeartbeats 2000000 in
theorem keyed_any (A : Option Addr) (n c : Nat) (K : List (List UInt8)) (w : World) (hr : Rd w w.heap.size 1 A n c (K.map txV)) (hn : n ≤ 140737488351232) (hkl : ∀ k ∈ K, k.length ≤ 140737488351232) (hT : UTabs w) :
  Calls Tryd.prog 68 #[.slice A n c] w fun e w' => e = .returned (.bool (keysOk K utf8B)) ∧ Below w.heap.size w w' := by
 have hl : K.length = n := by have := hr.len; simpa using this
 have HL := Lib.hid hl
 have HKL := Lib.hid hkl
 clear hl hkl
 have hmk := fun W => run_makeMap (P := Tryd.prog) 154 W
 have hmap := World.ownsMap_made w Tryd.prog 9 (plainElem (H := Unit) Tryd.prog 3)
 have hB0 : Below w.heap.size w (w.alloc (.map #[] 0)) := (Below.refl _ _).alloc (Nat.le_refl _) _
 go_enter Tryd.func68, Tryd.ntmps68
 go_upto_region 2 with fail
 obtain ⟨mb, hmb⟩ : ∃ m, m = w.heap.size := ⟨_, rfl⟩
 rw [← hmb] at hmap ⊢
 have HMB := Lib.hid hmb
 clear hmb hmk
 generalize (w.alloc (.map #[] 0)) = w1 at *
 go_wp2_with (with_reducible refine h_A ?_)
 go_loopw [9] (fun s wr => ∃ (i : Nat) (D : DataW Unit), i ≤ n ∧ s = .int .i64 i ∧ Below w.heap.size w wr ∧ seenMap wr mb i D ∧ Hid ((∀ k ∈ K.take i, keyOk k = true) ∧ (K.take i).Nodup ∧ ∀ s : List UInt8, D.atKey (.string s) (.lit (.int .i64 0)) = .lit (.int .i64 (if s ∈ K.take i then 1 else 0)))) (fun s _ => n - (RowKit.intOf s).toNat)
 case atStart => exact ⟨0, _, by omega, rfl, hB0, hmap, Lib.hid ⟨by simp, by simp, fun s => by simp; rfl⟩⟩
 case round =>
  clear hB0 hmap
  obtain ⟨i, D, hi, rfl, hB, hmap, HI⟩ := hrel
  by_cases hlt : i < n
  ·have g1 : (i : Int) < (n : Int) := by omega
   have hil : i < K.length := by rw [HL.out]; exact hlt
   obtain ⟨b, off, rfl, hC⟩ := txs_cell hr hlt hil
   have y0 := hC wr hB
   have hal := HKL.out _ (List.getElem_mem hil)
   have HBAD : Hid (keyOk K[i] = false → keysOk K utf8B = false) := Lib.hid (keys_bad hil)
   have HTW : Hid (K[i] ∈ K.take i → keysOk K utf8B = false) := Lib.hid (keys_twice hil)
   have HND : Hid (K[i] ∉ K.take i → (K.take (i + 1)).Nodup) := Lib.hid (nodup_more hil HI.out.2.1)
   have HTK : Hid (K.take (i + 1) = K.take i ++ [K[i]]) := Lib.hid (List.take_succ_eq_append_getElem hil)
   clear hC
   generalize K[i] = a at *
   have has := str_size a
   have hem := str_empty a
   have hpl := plain_any a wr hal (hT.on hB)
   have HKO : Hid (keyOk a = (decide (1 ≤ a.length) && decide (a.length ≤ 255) && utf8B a)) := Lib.hid rfl
   by_cases ha0 : a.length = 0
   ·have HF : Hid (keysOk K utf8B = false) := Lib.hid (HBAD.out (by rw [HKO.out, decide_eq_false (by omega : ¬ 1 ≤ a.length)]; rfl))
    rw [decide_eq_true ha0] at hem
    clear ha0 hpl
    go_wp2_with (with_reducible refine h_A ?_)
    go_ret
    rw [HF.out]
    exact ⟨rfl, hB⟩
   ·rw [decide_eq_false ha0] at hem
    by_cases ha1 : 255 < a.length
    ·have HF : Hid (keysOk K utf8B = false) := Lib.hid (HBAD.out (by rw [HKO.out, decide_eq_false (by omega : ¬ a.length ≤ 255)]; simp))
     have g2 : (255 : Int) < (a.length : Int) := by omega
     clear ha0 hpl
     go_wp2_with (with_reducible refine h_A ?_)
     go_ret
     rw [HF.out]
     exact ⟨rfl, hB⟩
    ·have g2 : ¬ (255 : Int) < (a.length : Int) := by omega
     have HK2 : Hid (keyOk a = utf8B a) := Lib.hid (by rw [HKO.out, decide_eq_true (by omega : 1 ≤ a.length), decide_eq_true (by omega : a.length ≤ 255)]; rfl)
     clear ha0 ha1
     cases hu : utf8B a
     ·rw [hu] at hpl
      have HF : Hid (keysOk K utf8B = false) := Lib.hid (HBAD.out (by rw [HK2.out, hu]))
      clear hu
      go_wp2_with (with_reducible refine h_A ?_)
      refine hpl.mono ?_
      rintro e w2 ⟨rfl, hB2⟩
      clear hpl y0
      go_wp2_with (with_reducible refine h_A ?_)
      go_ret
      rw [HF.out]
      exact ⟨rfl, hB.trans (hB2.mono hB.size)⟩
     ·rw [hu] at hpl
      have HKT : Hid (keyOk a = true) := Lib.hid (by rw [HK2.out, hu])
      clear hu
      go_wp2_with (with_reducible refine h_A ?_)
      refine hpl.mono ?_
      rintro e w2 ⟨rfl, hB2⟩
      have hBB := hB.trans (hB2.mono hB.size)
      have hmap2 := hmap.below hB2
      clear hpl y0 hmap hB2 hB
      obtain ⟨cc, hrun, hat, _⟩ := hmap2.lookup_int (t := 154) str_keyedM Tryd.underlying154 Tryd.underlying3 (Tryd.zeroValue3 _) (key := .string (str a)) (kl := .string a) (str_kl hal)
      rw [HI.out.2.2 a] at hat
      injection hat with hat
      injection hat with _ hat
      have HAT := Lib.hid hat
      clear hat
      by_cases hm : a ∈ K.take i
      ·have hc1 : cc = 1 := by rw [← HAT.out, if_pos hm]
       have HF := Lib.hid (HTW.out hm)
       subst hc1
       clear hm
       go_wp2_with (with_reducible refine h_A ?_)
       go_ret
       rw [HF.out]
       exact ⟨rfl, hBB⟩
      ·have hc1 : cc = 0 := by rw [← HAT.out, if_neg hm]
       have HM := Lib.hid hm
       subst hc1
       clear hm
       go_wp2_with (first | (with_reducible refine hold_mapUp ?_))
       refine unhold (wpList_mapUpdate_own (H := Unit) _ rfl _ _ _ 154 rfl 9 3 str_keyedM Tryd.underlying154 (plainElem (H := Unit) Tryd.prog 3) _ _ _ rfl hmap2 (by simp [maxLen]; omega) _ _ (.string a) rfl rfl (str_kl hal) (.lit (.int .i64 1)) [] (plainElem_int Tryd.underlying3 (by decide)) ?_)
       intro w3 hmap3 hg3
       have hBy := hBB.grown hg3 hBB.size (fun g hg => by injection hg with hg; have := HMB.out; omega)
       have HI2 : Hid ((∀ k ∈ K.take (i + 1), keyOk k = true) ∧ (K.take (i + 1)).Nodup ∧ ∀ s : List UInt8, (D.put (.string a) (.lit (.int .i64 1))).atKey (.string s) (.lit (.int .i64 0)) = .lit (.int .i64 (if s ∈ K.take (i + 1) then 1 else 0))) := Lib.hid (by
        refine ⟨fun k hk => ?_, HND.out HM.out, fun s => ?_⟩
        ·rw [HTK.out] at hk
         rcases List.mem_append.1 hk with hk | hk
         ·exact HI.out.1 k hk
         ·rw [List.mem_singleton.1 hk]; exact HKT.out
        ·by_cases hs : s = a
         ·subst hs
          rw [Maps.atKey_put_same hmap2.isMap (str_keyedM.key (str_kl hal)), if_pos (by rw [HTK.out]; simp)]
         ·rw [Maps.atKey_put_other (fun e => hs (by injection e)), HI.out.2.2 s, HTK.out]
          by_cases hs2 : s ∈ K.take i
          ·rw [if_pos hs2, if_pos (by simp [hs2])]
          ·rw [if_neg hs2, if_neg (by simp [hs, hs2])])
       clear hmap2 hrun hg3
       go_wp2_with (with_reducible refine h_A ?_)
       exact ⟨⟨i + 1, _, by omega, by go_num, hBy, hmap3, HI2⟩, by simp [RowKit.intOf]; omega⟩
  ·have HF : Hid (keysOk K utf8B = true) := Lib.hid (by
    have h := HI.out
    rw [List.take_of_length_le (by rw [HL.out]; omega)] at h
    exact keys_good h.1 h.2.1)
   have g1 : ¬ (i : Int) < (n : Int) := by omega
   go_wp2_with (with_reducible refine h_A ?_)
   go_ret
   rw [HF.out]
   exact ⟨rfl, hB⟩
end Go.PH
end

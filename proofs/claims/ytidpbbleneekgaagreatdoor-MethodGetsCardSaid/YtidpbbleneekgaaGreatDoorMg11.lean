/- Texts laid together: VlUtfRef, VlKeysR. -/
import Derived.Test.YtidpbbleneekgaaGreatDoorProg
import Derived.Deep.CutBlock
import Derived.Test.YtidpbbleneekgaaGreatDoorMg01
import Derived.Test.YtidpbbleneekgaaGreatDoorMg08
import Derived.Test.YtidpbbleneekgaaGreatDoorMg09
set_option linter.all false
set_option linter.unusedSimpArgs false
set_option linter.unusedVariables false
section
/- Which texts are UTF-8: the walk of the document's program. -/
namespace Go.PH
open Go.RowKit Go.Proofs

/-- of a first byte: how many bytes, between which the second lies -/
def swN (b : Nat) : Nat × Nat × Nat :=
 if b < 128 then (1, 128, 191) else if 194 ≤ b ∧ b ≤ 223 then (2, 128, 191)
 else if 224 ≤ b ∧ b ≤ 239 then (3, if b = 224 then 160 else 128, if b = 237 then 159 else 191)
 else if 240 ≤ b ∧ b ≤ 244 then (4, if b = 240 then 144 else 128, if b = 244 then 143 else 191) else (0, 128, 191)
/-- the k-th byte may stand there -/
def okB (l : List UInt8) (lo hi k : Nat) : Prop := if k = 1 then lo ≤ byteN l k ∧ byteN l k ≤ hi else 128 ≤ byteN l k ∧ byteN l k ≤ 191
theorem u8step_sw (l : List UInt8) {n lo hi : Nat} (h : swN (byteN l 0) = (n, lo, hi)) : u8step l = n ∨ (u8step l = 0 ∧ ((l.length < n) ∨ ∃ k, 1 ≤ k ∧ k < n ∧ ¬ okB l lo hi k)) := by
 unfold u8step u8N swN at *
 generalize hb0 : byteN l 0 = b0 at *
 by_cases c1 : b0 < 128
 ·rw [if_pos c1] at h ⊢; injection h with h; exact .inl h
 rw [if_neg c1] at h ⊢
 by_cases c2 : 194 ≤ b0 ∧ b0 ≤ 223
 ·rw [if_pos c2] at h
  injection h with h1 h; injection h with h2 h3
  subst h1 h2 h3
  by_cases d : 194 ≤ b0 ∧ b0 ≤ 223 ∧ 1 < l.length ∧ 128 ≤ byteN l 1 ∧ byteN l 1 ≤ 191
  ·rw [if_pos d]; exact .inl rfl
  ·rw [if_neg d, if_neg (by omega), if_neg (by omega)]
   refine .inr ⟨rfl, ?_⟩
   by_cases e : l.length < 2
   ·exact .inl e
   ·exact .inr ⟨1, by omega, by omega, by unfold okB; rw [if_pos rfl]; omega⟩
 rw [if_neg c2] at h
 rw [if_neg (by omega)]
 by_cases c3 : 224 ≤ b0 ∧ b0 ≤ 239
 ·rw [if_pos c3] at h
  injection h with h1 h; injection h with h2 h3
  subst h1 h2 h3
  by_cases d : 224 ≤ b0 ∧ b0 ≤ 239 ∧ 2 < l.length ∧ 128 ≤ byteN l 1 ∧ byteN l 1 ≤ 191 ∧ (b0 = 224 → 160 ≤ byteN l 1) ∧ (b0 = 237 → byteN l 1 ≤ 159) ∧ 128 ≤ byteN l 2 ∧ byteN l 2 ≤ 191
  ·rw [if_pos d]; exact .inl rfl
  ·rw [if_neg d, if_neg (by omega)]
   refine .inr ⟨rfl, ?_⟩
   by_cases e : l.length < 3
   ·exact .inl e
   ·by_cases k2 : 128 ≤ byteN l 2 ∧ byteN l 2 ≤ 191
    ·refine .inr ⟨1, by omega, by omega, ?_⟩
     unfold okB
     rw [if_pos rfl]
     split <;> split <;> omega
    ·exact .inr ⟨2, by omega, by omega, by unfold okB; rw [if_neg (by omega)]; omega⟩
 rw [if_neg c3] at h
 rw [if_neg (by omega)]
 by_cases c4 : 240 ≤ b0 ∧ b0 ≤ 244
 ·rw [if_pos c4] at h
  injection h with h1 h; injection h with h2 h3
  subst h1 h2 h3
  by_cases d : 240 ≤ b0 ∧ b0 ≤ 244 ∧ 3 < l.length ∧ 128 ≤ byteN l 1 ∧ byteN l 1 ≤ 191 ∧ (b0 = 240 → 144 ≤ byteN l 1) ∧ (b0 = 244 → byteN l 1 ≤ 143) ∧ 128 ≤ byteN l 2 ∧ byteN l 2 ≤ 191 ∧ 128 ≤ byteN l 3 ∧ byteN l 3 ≤ 191
  ·rw [if_pos d]; exact .inl rfl
  ·rw [if_neg d]
   refine .inr ⟨rfl, ?_⟩
   by_cases e : l.length < 4
   ·exact .inl e
   ·by_cases k2 : 128 ≤ byteN l 2 ∧ byteN l 2 ≤ 191
    ·by_cases k3 : 128 ≤ byteN l 3 ∧ byteN l 3 ≤ 191
     ·refine .inr ⟨1, by omega, by omega, ?_⟩
      unfold okB
      rw [if_pos rfl]
      split <;> split <;> omega
     ·exact .inr ⟨3, by omega, by omega, by unfold okB; rw [if_neg (by omega)]; omega⟩
    ·exact .inr ⟨2, by omega, by omega, by unfold okB; rw [if_neg (by omega)]; omega⟩
 rw [if_neg c4] at h
 rw [if_neg (by omega)]
 injection h with h
 exact .inl h
/-- where the step goes on, all that was asked is so -/
theorem u8step_ok (l : List UInt8) {n lo hi : Nat} (h : swN (byteN l 0) = (n, lo, hi)) (hs : u8step l = n) (hn : n ≠ 0) : ∀ k, 1 ≤ k → k < n → okB l lo hi k := by
 unfold u8step u8N swN at *
 generalize hb0 : byteN l 0 = b0 at *
 intro k hk1 hk2
 by_cases c1 : b0 < 128
 ·rw [if_pos c1] at h; injection h with h; omega
 rw [if_neg c1] at h hs
 by_cases c2 : 194 ≤ b0 ∧ b0 ≤ 223
 ·rw [if_pos c2] at h
  injection h with h1 h; injection h with h2 h3
  subst h1 h2 h3
  by_cases d : 194 ≤ b0 ∧ b0 ≤ 223 ∧ 1 < l.length ∧ 128 ≤ byteN l 1 ∧ byteN l 1 ≤ 191
  ·obtain rfl : k = 1 := by omega
   unfold okB; rw [if_pos rfl]; omega
  ·rw [if_neg d, if_neg (by omega), if_neg (by omega)] at hs; omega
 rw [if_neg c2] at h
 rw [if_neg (by omega)] at hs
 by_cases c3 : 224 ≤ b0 ∧ b0 ≤ 239
 ·rw [if_pos c3] at h
  injection h with h1 h; injection h with h2 h3
  subst h1 h2 h3
  by_cases d : 224 ≤ b0 ∧ b0 ≤ 239 ∧ 2 < l.length ∧ 128 ≤ byteN l 1 ∧ byteN l 1 ≤ 191 ∧ (b0 = 224 → 160 ≤ byteN l 1) ∧ (b0 = 237 → byteN l 1 ≤ 159) ∧ 128 ≤ byteN l 2 ∧ byteN l 2 ≤ 191
  ·have : k = 1 ∨ k = 2 := by omega
   rcases this with rfl | rfl
   ·unfold okB; rw [if_pos rfl]; split <;> split <;> omega
   ·unfold okB; rw [if_neg (by omega)]; omega
  ·rw [if_neg d, if_neg (by omega)] at hs; omega
 rw [if_neg c3] at h
 rw [if_neg (by omega)] at hs
 by_cases c4 : 240 ≤ b0 ∧ b0 ≤ 244
 ·rw [if_pos c4] at h
  injection h with h1 h; injection h with h2 h3
  subst h1 h2 h3
  by_cases d : 240 ≤ b0 ∧ b0 ≤ 244 ∧ 3 < l.length ∧ 128 ≤ byteN l 1 ∧ byteN l 1 ≤ 191 ∧ (b0 = 240 → 144 ≤ byteN l 1) ∧ (b0 = 244 → byteN l 1 ≤ 143) ∧ 128 ≤ byteN l 2 ∧ byteN l 2 ≤ 191 ∧ 128 ≤ byteN l 3 ∧ byteN l 3 ≤ 191
  ·have : k = 1 ∨ k = 2 ∨ k = 3 := by omega
   rcases this with rfl | rfl | rfl
   ·unfold okB; rw [if_pos rfl]; split <;> split <;> omega
   ·unfold okB; rw [if_neg (by omega)]; omega
   ·unfold okB; rw [if_neg (by omega)]; omega
  ·rw [if_neg d] at hs; omega
 rw [if_neg c4] at h
 injection h with h
 omega
theorem sw_1 {b n lo hi : Nat} (h : swN b = (n, lo, hi)) (c : b < 128) : n = 1 ∧ lo = 128 ∧ hi = 191 := by
 unfold swN at h
 rw [if_pos c] at h
 injection h with h1 h; injection h with h2 h3
 exact ⟨h1.symm, h2.symm, h3.symm⟩
theorem sw_2 {b n lo hi : Nat} (h : swN b = (n, lo, hi)) (c : 194 ≤ b ∧ b ≤ 223) : n = 2 ∧ lo = 128 ∧ hi = 191 := by
 unfold swN at h
 rw [if_neg (by omega), if_pos c] at h
 injection h with h1 h; injection h with h2 h3
 exact ⟨h1.symm, h2.symm, h3.symm⟩
theorem sw_3 {b n lo hi : Nat} (h : swN b = (n, lo, hi)) (c : 224 ≤ b ∧ b ≤ 239) : n = 3 ∧ lo = (if b = 224 then 160 else 128) ∧ hi = (if b = 237 then 159 else 191) := by
 unfold swN at h
 rw [if_neg (by omega), if_neg (by omega), if_pos c] at h
 injection h with h1 h; injection h with h2 h3
 exact ⟨h1.symm, h2.symm, h3.symm⟩
theorem sw_4 {b n lo hi : Nat} (h : swN b = (n, lo, hi)) (c : 240 ≤ b ∧ b ≤ 244) : n = 4 ∧ lo = (if b = 240 then 144 else 128) ∧ hi = (if b = 244 then 143 else 191) := by
 unfold swN at h
 rw [if_neg (by omega), if_neg (by omega), if_neg (by omega), if_pos c] at h
 injection h with h1 h; injection h with h2 h3
 exact ⟨h1.symm, h2.symm, h3.symm⟩
theorem sw_0 {b n lo hi : Nat} (h : swN b = (n, lo, hi)) (c1 : ¬ b < 128) (c2 : ¬ (194 ≤ b ∧ b ≤ 223)) (c3 : ¬ (224 ≤ b ∧ b ≤ 239)) (c4 : ¬ (240 ≤ b ∧ b ≤ 244)) : n = 0 ∧ lo = 128 ∧ hi = 191 := by
 unfold swN at h
 rw [if_neg c1, if_neg c2, if_neg c3, if_neg c4] at h
 injection h with h1 h; injection h with h2 h3
 exact ⟨h1.symm, h2.symm, h3.symm⟩
theorem sw_le {b n lo hi : Nat} (h : swN b = (n, lo, hi)) : n ≤ 4 ∧ lo ≤ 160 ∧ hi ≤ 191 := by
 unfold swN at h
 repeat' split at h
 all_goals (injection h with h1 h; injection h with h2 h3; omega)
theorem byteN_at (s : List UInt8) {i : Nat} (_hi : i < s.length) : ∀ h : i < (str s).size, ((str s)[i]'h).toNat = byteN s i := fun h => by
 have h' : i < s.length := h
 unfold byteN
 rw [List.getElem?_eq_getElem h']; rfl
set_option maxRecDepth 20000 in
set_option maxHeartbeats 4000000 in
theorem utf_any (s : List UInt8) (w : World) (hs : s.length ≤ 140737488351232) :
  Calls Tryz.prog 119 #[.string (str s)] w fun e w' => e = .returned (.bool (utf8B s)) ∧ w = w' := by
 have hsz : (str s).size = s.length := rfl
 go_enter Tryz.func119, Tryz.ntmps119
 go_wp2_with (with_reducible refine h_A ?_)
 go_loopw [3] (fun s3 wr => ∃ at_ : Nat, at_ ≤ s.length ∧ s3 = .int .i64 at_ ∧ w = wr ∧ Hid (utf8B (s.drop at_) = utf8B s)) (fun s3 _ => s.length - (RowKit.intOf s3).toNat)
 case atStart => exact ⟨0, by omega, rfl, rfl, Lib.hid rfl⟩
 case round =>
  obtain ⟨at_, hp, rfl, rfl, HC⟩ := hrel
  by_cases hlt : at_ < s.length
  ·have g1 : (at_ : Int) < (s.length : Int) := by omega
   have hby := byteN_at s hlt
   have hb0 : byteN (s.drop at_) 0 = byteN s at_ := by rw [byteN_drop]; rfl
   have hlt8 := byteN_lt s at_
   obtain ⟨b, hb⟩ : ∃ b, byteN s at_ = b := ⟨_, rfl⟩
   rw [hb] at hby hb0 hlt8
   clear hb
   obtain ⟨⟨n, lo, hi⟩, hsw⟩ : ∃ x, swN b = x := ⟨_, rfl⟩
   have HSW := Lib.hid hsw
   have HSD := Lib.hid (show swN (byteN (s.drop at_) 0) = (n, lo, hi) by rw [hb0]; exact hsw)
   clear hb0 hsw
   go_upto_block 2 with fail
   go_cut [5, 6, 7] from 10 to 81 (fun s5 s6 s7 wx => s5 = .int .i64 n ∧ s6 = .int .i64 lo ∧ s7 = .int .i64 hi ∧ w = wx)
   case first =>
    as_aux_lemma =>
    by_cases c1 : b < 128
    ·have a1 : (b : Int) < 128 := by omega
     obtain ⟨rfl, rfl, rfl⟩ := sw_1 HSW.out c1
     go_wp2_with (with_reducible refine h_A ?_)
     go_meet
     exact ⟨rfl, rfl, rfl, rfl⟩
    have a1 : ¬ (b : Int) < 128 := by omega
    by_cases c2 : 194 ≤ b ∧ b ≤ 223
    ·have a2 : (194 : Int) ≤ (b : Int) := by omega
     have a3 : (b : Int) ≤ 223 := by omega
     obtain ⟨rfl, rfl, rfl⟩ := sw_2 HSW.out c2
     go_wp2_with (with_reducible refine h_A ?_)
     go_meet
     exact ⟨rfl, rfl, rfl, rfl⟩
    by_cases c3 : 224 ≤ b ∧ b ≤ 239
    ·have a2 : (194 : Int) ≤ (b : Int) := by omega
     have a3 : ¬ (b : Int) ≤ 223 := by omega
     have a4 : (224 : Int) ≤ (b : Int) := by omega
     have a5 : (b : Int) ≤ 239 := by omega
     obtain ⟨rfl, rfl, rfl⟩ := sw_3 HSW.out c3
     by_cases d1 : b = 224
     ·subst d1
      go_wp2_with (with_reducible refine h_A ?_)
      go_meet
      exact ⟨rfl, rfl, rfl, rfl⟩
     ·have d2 : ((b : Int) == 224) = false := by simp; omega
      have d3 : (if b = 224 then 160 else 128) = 128 := if_neg d1
      have HD3 := Lib.hid d3
      clear d3
      by_cases e1 : b = 237
      ·subst e1
       go_wp2_with (with_reducible refine h_A ?_)
       go_meet
       exact ⟨rfl, rfl, rfl, rfl⟩
      ·have e2 : ((b : Int) == 237) = false := by simp; omega
       have e3 : (if b = 237 then 159 else 191) = 191 := if_neg e1
       have HE3 := Lib.hid e3
       clear e3
       go_wp2_with (with_reducible refine h_A ?_)
       go_meet
       exact ⟨rfl, by rw [HD3.out]; rfl, by rw [HE3.out]; rfl, rfl⟩
    by_cases c4 : 240 ≤ b ∧ b ≤ 244
    ·have a2 : (194 : Int) ≤ (b : Int) := by omega
     have a3 : ¬ (b : Int) ≤ 223 := by omega
     have a4 : (224 : Int) ≤ (b : Int) := by omega
     have a5 : ¬ (b : Int) ≤ 239 := by omega
     have a6 : (240 : Int) ≤ (b : Int) := by omega
     have a7 : (b : Int) ≤ 244 := by omega
     obtain ⟨rfl, rfl, rfl⟩ := sw_4 HSW.out c4
     by_cases d1 : b = 240
     ·subst d1
      go_wp2_with (with_reducible refine h_A ?_)
      go_meet
      exact ⟨rfl, rfl, rfl, rfl⟩
     ·have d2 : ((b : Int) == 240) = false := by simp; omega
      have d3 : (if b = 240 then 144 else 128) = 128 := if_neg d1
      have HD3 := Lib.hid d3
      clear d3
      by_cases e1 : b = 244
      ·subst e1
       go_wp2_with (with_reducible refine h_A ?_)
       go_meet
       exact ⟨rfl, rfl, rfl, rfl⟩
      ·have e2 : ((b : Int) == 244) = false := by simp; omega
       have e3 : (if b = 244 then 143 else 191) = 191 := if_neg e1
       have HE3 := Lib.hid e3
       clear e3
       go_wp2_with (with_reducible refine h_A ?_)
       go_meet
       exact ⟨rfl, by rw [HD3.out]; rfl, by rw [HE3.out]; rfl, rfl⟩
    obtain ⟨rfl, rfl, rfl⟩ := sw_0 HSW.out c1 c2 c3 c4
    by_cases f1 : b < 194
    ·have a2 : ¬ (194 : Int) ≤ (b : Int) := by omega
     have a4 : ¬ (224 : Int) ≤ (b : Int) := by omega
     have a6 : ¬ (240 : Int) ≤ (b : Int) := by omega
     go_wp2_with (with_reducible refine h_A ?_)
     go_meet
     exact ⟨rfl, rfl, rfl, rfl⟩
    ·have a2 : (194 : Int) ≤ (b : Int) := by omega
     have a3 : ¬ (b : Int) ≤ 223 := by omega
     have a4 : (224 : Int) ≤ (b : Int) := by omega
     have a5 : ¬ (b : Int) ≤ 239 := by omega
     have a6 : (240 : Int) ≤ (b : Int) := by omega
     have a7 : ¬ (b : Int) ≤ 244 := by omega
     go_wp2_with (with_reducible refine h_A ?_)
     go_meet
     exact ⟨rfl, rfl, rfl, rfl⟩
   case rest =>
    as_aux_lemma =>
    obtain ⟨rfl, rfl, rfl, rfl⟩ := hcut
    have hne0 : s.drop at_ ≠ [] := by intro e; have := congrArg List.length e; rw [List.length_drop] at this; simp at this; omega
    have hnlo := sw_le HSW.out
    have HL : Hid ((s.drop at_).length = s.length - at_) := Lib.hid (List.length_drop ..)
    have hbad : u8step (s.drop at_) = 0 → utf8B s = false := fun h => by rw [← HC.out, utf8B_none hne0 h]
    by_cases hn0 : n = 0
    ·have HF : Hid (utf8B s = false) := Lib.hid (hbad (by
      rcases u8step_sw _ HSD.out with h | h
      ·omega
      ·exact h.1))
     subst hn0
     go_wp2_with (with_reducible refine h_A ?_)
     go_ret
     exact ⟨by rw [HF.out]; rfl, rfl⟩
    ·have a1 : ((n : Int) == 0) = false := by simp; omega
     by_cases hle : at_ + n ≤ s.length
     ·have a2 : ¬ (s.length : Int) < (at_ : Int) + (n : Int) := by omega
      have HN0 := Lib.hid hne0
      have HBAD := Lib.hid hbad
      clear hne0 hbad
      go_wp2_with (with_reducible refine h_A ?_)
      go_loopw [6, 7, 8] (fun s6 s7 s8 wr => ∃ k L H : Nat, 1 ≤ k ∧ k ≤ n ∧ s6 = .int .i64 L ∧ s7 = .int .i64 H ∧ s8 = .int .i64 k ∧ w = wr ∧ Hid (k < n → (okB (s.drop at_) lo hi k ↔ L ≤ byteN s (at_ + k) ∧ byteN s (at_ + k) ≤ H)) ∧ Hid (∀ j, 1 ≤ j → j < k → okB (s.drop at_) lo hi j)) (fun _ _ s8 _ => n - (RowKit.intOf s8).toNat)
      case atStart => exact ⟨1, lo, hi, by omega, by omega, rfl, rfl, rfl, rfl, Lib.hid (fun _ => by unfold okB; rw [if_pos rfl, byteN_drop]), Lib.hid (fun j h1 h2 => by omega)⟩
      case round =>
       as_aux_lemma =>
       obtain ⟨k, L, H, hk1, hk2, rfl, rfl, rfl, rfl, HO, HA⟩ := hrel
       by_cases hkn : k < n
       ·have g2 : (k : Int) < (n : Int) := by omega
        have hlk : at_ + k < s.length := by omega
        have hby2 := byteN_at s hlk
        have hd8 := byteN_lt s (at_ + k)
        have HO2 := Lib.hid (HO.out hkn)
        obtain ⟨d, hd⟩ : ∃ d, byteN s (at_ + k) = d := ⟨_, rfl⟩
        rw [hd] at hby2 hd8 HO2
        clear hd
        have e0 : ((at_ : Int) + (k : Int)).toNat = at_ + k := by omega
        have h0 : 0 ≤ (at_ : Int) + (k : Int) ∧ (at_ : Int) + (k : Int) < (s.length : Int) := by omega
        by_cases q1 : d < L
        ·have a3 : (d : Int) < (L : Int) := by omega
         have HF : Hid (utf8B s = false) := Lib.hid (HBAD.out (by
          rcases u8step_sw _ HSD.out with h | h
          ·have := (HO2.out.1 (u8step_ok _ HSD.out h hn0 k hk1 hkn)).1; omega
          ·exact h.1))
         go_wp2_with (with_reducible refine h_A ?_)
         go_ret
         exact ⟨by rw [HF.out]; rfl, rfl⟩
        ·have a3 : ¬ (d : Int) < (L : Int) := by omega
         by_cases q2 : H < d
         ·have a4 : (H : Int) < (d : Int) := by omega
          have HF : Hid (utf8B s = false) := Lib.hid (HBAD.out (by
           rcases u8step_sw _ HSD.out with h | h
           ·have := (HO2.out.1 (u8step_ok _ HSD.out h hn0 k hk1 hkn)).2; omega
           ·exact h.1))
          go_wp2_with (with_reducible refine h_A ?_)
          go_ret
          exact ⟨by rw [HF.out]; rfl, rfl⟩
         ·have a4 : ¬ (H : Int) < (d : Int) := by omega
          have hok := HO2.out.2 ⟨by omega, by omega⟩
          have HA2 : Hid (∀ j, 1 ≤ j → j < k + 1 → okB (s.drop at_) lo hi j) := Lib.hid (fun j h1 h2 => by
           by_cases e : j < k
           ·exact HA.out j h1 e
           ·obtain rfl : j = k := by omega
            exact hok)
          clear hok
          go_wp2_with (with_reducible refine h_A ?_)
          exact ⟨⟨k + 1, 128, 191, by omega, by omega, by first | rfl | trivial, by first | rfl | trivial, by go_num, by first | rfl | trivial, Lib.hid (fun _ => by unfold okB; rw [if_neg (by omega), byteN_drop]), HA2⟩, by simp [RowKit.intOf]; omega⟩
       ·have g2 : ¬ (k : Int) < (n : Int) := by omega
        have hst : u8step (s.drop at_) = n := by
         rcases u8step_sw _ HSD.out with h | ⟨_, h | ⟨j, h1, h2, h3⟩⟩
         ·exact h
         ·rw [HL.out] at h; omega
         ·exact absurd (HA.out j h1 (by omega)) h3
        have HC2 : Hid (utf8B (s.drop (at_ + n)) = utf8B s) := Lib.hid (by rw [← HC.out, utf8B_some HN0.out (by omega), List.drop_drop, hst])
        clear hst
        go_wp2_with (with_reducible refine h_A ?_)
        exact ⟨⟨at_ + n, by omega, by go_num, by first | rfl | trivial, HC2⟩, by simp [RowKit.intOf]; omega⟩
     ·have a2 : (s.length : Int) < (at_ : Int) + (n : Int) := by omega
      have HF : Hid (utf8B s = false) := Lib.hid (hbad (by
       rcases u8step_sw _ HSD.out with h | h
       ·have := u8step_le hne0
        rw [HL.out] at this
        omega
       ·exact h.1))
      clear hne0 hbad
      go_wp2_with (with_reducible refine h_A ?_)
      go_ret
      exact ⟨by rw [HF.out]; rfl, rfl⟩
  ·have g1 : ¬ (at_ : Int) < (s.length : Int) := by omega
   have HF : Hid (utf8B s = true) := Lib.hid (by rw [← HC.out, List.drop_eq_nil_of_le (by omega)]; rfl)
   go_wp2_with (with_reducible refine h_A ?_)
   go_ret
   exact ⟨by rw [HF.out]; rfl, rfl⟩
end Go.PH
end
section
/- Which keys may be: the walk of the document's program. -/
namespace Go.PH
open Go.RowKit Go.Proofs

set_option maxRecDepth 20000 in
set_option maxHeartbeats 2000000 in
theorem rkeys_any (A : Option Addr) (n c : Nat) (K : List (List UInt8)) (w : World) (hr : Rd w w.heap.size 1 A n c (K.map txV)) (hn : n ≤ 140737488351232) (hkl : ∀ k ∈ K, k.length ≤ 140737488351232) :
  Calls Tryz.prog 120 #[.slice A n c] w fun e w' => e = .returned (.bool (keysOk K utf8B)) ∧ Below w.heap.size w w' := by
 have hl : K.length = n := by have := hr.len; simpa using this
 have HL := Lib.hid hl
 have HKL := Lib.hid hkl
 clear hl hkl
 go_enter Tryz.func120, Tryz.ntmps120
 go_wp2_with (with_reducible refine h_A ?_)
 go_loopw [3] (fun s wr => ∃ (i : Nat), i ≤ n ∧ s = .int .i64 i ∧ Below w.heap.size w wr ∧ Hid ((∀ k ∈ K.take i, keyOk k = true) ∧ (K.take i).Nodup)) (fun s _ => n - (RowKit.intOf s).toNat)
 case atStart => exact ⟨0, by omega, rfl, Below.refl _ _, Lib.hid ⟨by simp, by simp⟩⟩
 case round =>
  obtain ⟨i, hi, rfl, hB, HI⟩ := hrel
  by_cases hlt : i < n
  ·have g1 : (i : Int) < (n : Int) := by omega
   have hil : i < K.length := by rw [HL.out]; exact hlt
   obtain ⟨b, off, rfl, hC⟩ := txs_cell hr hlt hil
   have y0 := hC wr hB
   have hal := HKL.out _ (List.getElem_mem hil)
   have HBAD : Hid (keyOk K[i] = false → keysOk K utf8B = false) := Lib.hid (keys_bad hil)
   have HTW : Hid (K[i] ∈ K.take i → keysOk K utf8B = false) := Lib.hid (keys_twice hil)
   have HND : Hid (K[i] ∉ K.take i → (K.take (i + 1)).Nodup) := Lib.hid (nodup_more hil HI.out.2)
   have HTK : Hid (K.take (i + 1) = K.take i ++ [K[i]]) := Lib.hid (List.take_succ_eq_append_getElem hil)
   generalize hKi : K[i] = a at *
   have HKI := Lib.hid hKi
   clear hKi
   have has := str_size a
   have hpl := utf_any a wr hal
   have HKO : Hid (keyOk a = (decide (1 ≤ a.length) && decide (a.length ≤ 255) && utf8B a)) := Lib.hid rfl
   by_cases ha0 : a.length = 0
   ·have HF : Hid (keysOk K utf8B = false) := Lib.hid (HBAD.out (by rw [HKO.out, decide_eq_false (by omega : ¬ 1 ≤ a.length)]; rfl))
    have g2 : (a.length : Int) < 1 := by omega
    clear hpl
    go_wp2_with (with_reducible refine h_A ?_)
    go_ret
    rw [HF.out]
    exact ⟨rfl, hB⟩
   ·have g3 : ¬ (a.length : Int) < 1 := by omega
    by_cases ha1 : 255 < a.length
    ·have HF : Hid (keysOk K utf8B = false) := Lib.hid (HBAD.out (by rw [HKO.out, decide_eq_false (by omega : ¬ a.length ≤ 255)]; simp))
     have g2 : (255 : Int) < (a.length : Int) := by omega
     clear hpl
     go_wp2_with (with_reducible refine h_A ?_)
     go_ret
     rw [HF.out]
     exact ⟨rfl, hB⟩
    ·have g2 : ¬ (255 : Int) < (a.length : Int) := by omega
     have HK2 : Hid (keyOk a = utf8B a) := Lib.hid (by rw [HKO.out, decide_eq_true (by omega : 1 ≤ a.length), decide_eq_true (by omega : a.length ≤ 255)]; rfl)
     clear ha0 ha1
     cases hu : utf8B a
     ·rw [hu] at hpl
      have HF : Hid (keysOk K utf8B = false) := Lib.hid (HBAD.out (by rw [HK2.out, hu]))
      clear hu
      go_wp2_with (with_reducible refine h_A ?_)
      refine hpl.mono ?_
      rintro e w2 ⟨rfl, rfl⟩
      clear hpl y0
      go_wp2_with (with_reducible refine h_A ?_)
      go_ret
      rw [HF.out]
      exact ⟨rfl, hB⟩
     ·rw [hu] at hpl
      have HKT : Hid (keyOk a = true) := Lib.hid (by rw [HK2.out, hu])
      clear hu
      go_wp2_with (with_reducible refine h_A ?_)
      refine hpl.mono ?_
      rintro e w2 ⟨rfl, rfl⟩
      clear hpl y0 g2 g3
      go_wp2_with (with_reducible refine h_A ?_)
      go_loopw [4] (fun s4 wx => ∃ (k : Nat), k ≤ i ∧ s4 = .int .i64 k ∧ Below w.heap.size w wx ∧ Hid (∀ j (h : j < k) (h' : j < K.length), K[j] ≠ a)) (fun s4 _ => i - (RowKit.intOf s4).toNat)
      case atStart => exact ⟨0, by omega, rfl, hB, Lib.hid (fun j h _ => absurd h (Nat.not_lt_zero j))⟩
      case round =>
       clear hB
       obtain ⟨k, hk, rfl, hB, HJ⟩ := hrel
       by_cases hki : k < i
       ·have g4 : (k : Int) < (i : Int) := by omega
        have g5 : (k : Int) < (n : Int) := by omega
        have hkl : k < K.length := by omega
        have y0 := hC wr hB
        obtain ⟨b', off', hbb, hC'⟩ := txs_cell hr (show k < n by omega) hkl
        injection hbb with hbb
        injection hbb with e1 e2 _
        subst e1 e2
        have y1 := hC' wr hB
        have HKK : Hid (K[k] ∈ K.take i) := Lib.hid (by rw [List.mem_take_iff_getElem]; exact ⟨k, by omega, rfl⟩)
        have HJ2 : Hid (K[k] ≠ a → ∀ j (h : j < k + 1) (h' : j < K.length), K[j] ≠ a) := Lib.hid (fun hne j h h' => by
         by_cases e : j = k
         ·subst e; exact hne
         ·exact HJ.out j (by omega) h')
        clear hC'
        generalize K[k] = d at *
        have hde := strs_eq d a
        by_cases hda : d = a
        ·have HF : Hid (keysOk K utf8B = false) := Lib.hid (HTW.out (hda ▸ HKK.out))
         rw [decide_eq_true hda] at hde
         clear hda
         go_wp2_with (with_reducible refine h_A ?_)
         go_quiet (fail)
         go_wp2_with (with_reducible refine h_A ?_)
         go_ret
         rw [HF.out]
         exact ⟨rfl, below_drewN hB _⟩
        ·have HJ3 := Lib.hid (HJ2.out hda)
         rw [decide_eq_false hda] at hde
         clear hda HJ2
         go_wp2_with (with_reducible refine h_A ?_)
         go_quiet (fail)
         go_wp2_with (with_reducible refine h_A ?_)
         exact ⟨⟨k + 1, by omega, by go_num, below_drewN hB _, HJ3⟩, by simp [RowKit.intOf]; omega⟩
       ·have g4 : ¬ (k : Int) < (i : Int) := by omega
        have HI2 : Hid ((∀ k ∈ K.take (i + 1), keyOk k = true) ∧ (K.take (i + 1)).Nodup) := Lib.hid (by
         refine ⟨fun k hk => ?_, HND.out fun hm => ?_⟩
         ·rw [HTK.out] at hk
          rcases List.mem_append.1 hk with hk | hk
          ·exact HI.out.1 k hk
          ·rw [List.mem_singleton.1 hk]; exact HKT.out
         ·rw [List.mem_take_iff_getElem] at hm
          obtain ⟨j, hj, e⟩ := hm
          exact HJ.out j (by omega) (by omega) e)
        go_wp2_with (with_reducible refine h_A ?_)
        exact ⟨⟨i + 1, by omega, by go_num, hB, HI2⟩, by simp [RowKit.intOf]; omega⟩
  ·have HF : Hid (keysOk K utf8B = true) := Lib.hid (by
    have h := HI.out
    rw [List.take_of_length_le (by rw [HL.out]; omega)] at h
    exact keys_good h.1 h.2)
   have g1 : ¬ (i : Int) < (n : Int) := by omega
   go_wp2_with (with_reducible refine h_A ?_)
   go_ret
   rw [HF.out]
   exact ⟨rfl, hB⟩
end Go.PH
end

/- Texts laid together: XdPutMath, XdPut, XdGetM, XdSee. -/
import Derived.Test.YtenegldhfgfokaaGreatDoorMg01
import Derived.Test.YtenegldhfgfokaaGreatDoorMg02
import Derived.Test.YtenegldhfgfokaaGreatDoorMg03
import Derived.Test.YtenegldhfgfokaaGreatDoorMg07
import Derived.Test.YtenegldhfgfokaaGreatDoorMg08
import Derived.Test.YtenegldhfgfokaaGreatDoorMg17
import Derived.Test.YtenegldhfgfokaaGreatDoorMg23
set_option linter.all false
set_option linter.unusedSimpArgs false
set_option linter.unusedVariables false
section
/- Names as bytes, and read again. No program in sight. -/
namespace Go.PH

def Xd.bytes (x : Xd) : List UInt8 := be 4 x.fmt ++ be 1 x.glob.length ++ x.glob ++ be 1 x.bran.length ++ x.bran
def Xd.put (x : Xd) : List UInt8 := if x.ok then x.bytes else []
theorem Xd.put_ok {x : Xd} (h : x.ok = true) : x.put = x.bytes := by unfold Xd.put; rw [if_pos h]
theorem Xd.put_no {x : Xd} (h : x.ok = false) : x.put = [] := by unfold Xd.put; rw [if_neg (by simp [h])]
theorem Xd.bytes_length (x : Xd) : x.bytes.length = 6 + x.glob.length + x.bran.length := by
 simp [Xd.bytes, be_length]; omega
theorem puts4 {v : Nat} : puts [] v 4 = be 4 v := by rw [puts_yes (by decide)]; simp
theorem textErr1 {n : Nat} (h : n ≤ 64) : textErr n 1 = 0 := by
 unfold textErr
 rw [if_pos (.inl rfl), if_pos (show n < 256 ^ (1 : Int).toNat by show n < 256; omega)]
theorem putsText1 {b s : List UInt8} (h : s.length ≤ 64) : putsText b s 1 = b ++ be 1 s.length ++ s := by
 unfold putsText
 rw [if_pos (textErr1 h)]
 rfl
/-- what is read -/
def xd00 : Xd := ⟨0, [], []⟩
def getT (l : List UInt8) (bad : Bool) : List UInt8 × List UInt8 × Bool := mtext l bad 1 255
def getX (l : List UInt8) : Xd × List UInt8 × Bool :=
 (⟨(mnum l false 4).1 % 4294967296, (getT (mnum l false 4).2.1 (mnum l false 4).2.2).1, (getT (getT (mnum l false 4).2.1 (mnum l false 4).2.2).2.1 (getT (mnum l false 4).2.1 (mnum l false 4).2.2).2.2).1⟩,
  (getT (getT (mnum l false 4).2.1 (mnum l false 4).2.2).2.1 (getT (mnum l false 4).2.1 (mnum l false 4).2.2).2.2).2)
def getR (l : List UInt8) : Xd × Nat × Nat :=
 if (getX l).2.2 = true then (xd00, 0, 4) else if (getX l).1.ok = true then ((getX l).1, l.length - (getX l).2.1.length, 0) else (xd00, 0, 40)
theorem mnum4_lt (l : List UInt8) : (mnum l false 4).1 < 4294967296 := by
 rw [mnum_yes (by decide)]
 unfold mtake
 split
 ·simp [unbe_nil]
 ·simp only
  refine Nat.lt_of_lt_of_le (unbe_lt _) ?_
  refine Nat.le_trans (Nat.pow_le_pow_right (by omega) (show (l.take (4 : Int).toNat).length ≤ 4 by rw [List.length_take]; show min 4 _ ≤ 4; omega)) (by decide)
theorem mtake_le (l : List UInt8) (bad : Bool) (x : Int) : (mtake l bad x).1.length ≤ l.length ∧ (mtake l bad x).2.1.length ≤ l.length := by
 unfold mtake
 split
 ·simp
 ·simp only [List.length_take, List.length_drop]; omega
theorem mnum_le (l : List UInt8) (bad : Bool) (x : Int) : (mnum l bad x).2.1.length ≤ l.length := by
 unfold mnum
 split
 ·exact (mtake_le l bad x).2
 ·simp
theorem mtext_le (l : List UInt8) (bad : Bool) (x most : Int) : (mtext l bad x most).1.length ≤ l.length ∧ (mtext l bad x most).2.1.length ≤ l.length := by
 unfold mtext
 split
 ·simp only
  split
  ·simp
  ·have h1 := mtake_le (mnum l bad x).2.1 (mnum l bad x).2.2 ((mnum l bad x).1 : Int)
   have h2 := mnum_le l bad x
   omega
 ·simp
theorem getX_le (l : List UInt8) : (getX l).1.glob.length ≤ l.length ∧ (getX l).1.bran.length ≤ l.length ∧ (getX l).2.1.length ≤ l.length := by
 unfold getX getT
 simp only
 have h1 := mnum_le l false 4
 have h2 := mtext_le (mnum l false 4).2.1 (mnum l false 4).2.2 1 255
 have h3 := mtext_le (mtext (mnum l false 4).2.1 (mnum l false 4).2.2 1 255).2.1 (mtext (mnum l false 4).2.1 (mnum l false 4).2.2 1 255).2.2 1 255
 omega
/-- a text of at most 255 bytes read back -/
theorem getT_app {s rest : List UInt8} (h : s.length ≤ 64) : getT (be 1 s.length ++ s ++ rest) false = (s, rest, false) := by
 unfold getT
 have hn := mnum_app 1 (by decide) s.length (s ++ rest)
 rw [Nat.mod_eq_of_lt (by show s.length < 256; omega)] at hn
 have hn : mnum (be 1 s.length ++ (s ++ rest)) false 1 = (s.length, s ++ rest, false) := hn
 rw [mtext_eq (by omega), List.append_assoc, hn]
 simp only
 rw [if_neg (by simp; omega), mtake_app]
theorem getX_bytes {x : Xd} (hf : x.fmt < 4294967296) (hk : x.ok = true) (rest : List UInt8) : getX (x.bytes ++ rest) = (x, rest, false) := by
 obtain ⟨h1, h2, h3⟩ := (Xd.ok_iff x).1 hk
 have e : x.bytes ++ rest = be 4 x.fmt ++ (be 1 x.glob.length ++ x.glob ++ (be 1 x.bran.length ++ x.bran ++ rest)) := by simp [Xd.bytes]
 have hn : mnum (x.bytes ++ rest) false 4 = (x.fmt, be 1 x.glob.length ++ x.glob ++ (be 1 x.bran.length ++ x.bran ++ rest), false) := by
  rw [e]
  have := mnum_app 4 (by decide) x.fmt (be 1 x.glob.length ++ x.glob ++ (be 1 x.bran.length ++ x.bran ++ rest))
  rw [Nat.mod_eq_of_lt (by show x.fmt < 256 ^ 4; omega)] at this
  exact this
 unfold getX
 rw [hn]
 simp only
 rw [getT_app h2]
 simp only
 rw [getT_app h3, Nat.mod_eq_of_lt hf]
theorem getR_bytes {x : Xd} (hf : x.fmt < 4294967296) (hk : x.ok = true) (rest : List UInt8) : getR (x.bytes ++ rest) = (x, x.bytes.length, 0) := by
 unfold getR
 rw [getX_bytes hf hk]
 simp [hk]
end Go.PH
end
section
/- The walks of names' Put and of the document's. -/
namespace Go.PH
open Go.RowKit Go.Proofs

set_option maxRecDepth 20000 in
set_option maxHeartbeats 4000000 in
theorem xdput_any (x : Xd) (w : World) (hw : x.wf) :
  Calls Tryz.prog 39 #[.agg (xdV x)] w fun e w' => ∃ A2 c2, e = .returned (.tuple #[.slice A2 x.put.length c2, .int .i64 x.err]) ∧ Own w' w.heap.size 5 1 A2 x.put.length c2 (x.put.map u8v) ∧ Below w.heap.size w w' := by
 have hck := fun W => check_any x W hw
 cases hok : x.ok
 ·have e2 : x.err = 40 := by simp [Xd.err, hok]
  rw [Xd.put_no hok, e2]
  rw [e2] at hck
  clear hok e2
  obtain ⟨f, g, h⟩ := x
  unfold xdV at hck ⊢
  simp only at hck
  have hB0 : Below w.heap.size w (w.alloc (.cells #[.int .u32 (f : Int), .string (str g), .string (str h)] 58)) := (Below.refl _ _).alloc (Nat.le_refl _) _
  go_enter Tryz.func39, Tryz.ntmps39
  go_wp2_with (with_reducible refine h_A ?_)
  refine (hck _).mono ?_
  rintro e w1 ⟨rfl, hB1⟩
  have hB2 := hB0.trans (hB1.mono hB0.size)
  go_wp2_with (with_reducible refine h_A ?_)
  go_ret2
  exact ⟨none, 0, rfl, Own.none_ _ _ _ _, hB2⟩
 ·have e2 : x.err = 0 := by simp [Xd.err, hok]
  obtain ⟨h1, h2, h3⟩ := (Xd.ok_iff x).1 hok
  have HBY : Hid (putsText (putsText (puts [] x.fmt 4) x.glob 1) x.bran 1 = x.bytes) := Lib.hid (by rw [puts4, putsText1 h2, putsText1 h3]; rfl)
  have hbl := Xd.bytes_length x
  rw [Xd.put_ok hok, e2]
  rw [e2] at hck
  clear hok e2
  generalize hby : x.bytes = by_ at *
  clear hby
  obtain ⟨f, g, h⟩ := x
  obtain ⟨hf, _, _⟩ := hw
  unfold xdV at hck ⊢
  simp only at hck h1 h2 h3 HBY hbl hf
  have hB0 : Below w.heap.size w (w.alloc (.cells #[.int .u32 (f : Int), .string (str g), .string (str h)] 58)) := (Below.refl _ _).alloc (Nat.le_refl _) _
  have hb0 : Box (w.alloc (.cells #[.int .u32 (f : Int), .string (str g), .string (str h)] 58)) w.heap.size 58 #[.int .u32 (f : Int), .string (str g), .string (str h)] := Box.new _ _ _
  have hwf : IntKind.u64.wrap (f : Int) = (f : Int) := IntWalk.u64_in _ ⟨by omega, by omega⟩
  have hPT := fun (A : Option Addr) (n c : Nat) (l s : List UInt8) (W : World) => puttext_any A n c l s 1 W
  go_enter Tryz.func39, Tryz.ntmps39
  go_wp2_with (with_reducible refine h_A ?_)
  refine (hck _).mono ?_
  rintro e w1 ⟨rfl, hB1⟩
  have hB2 := hB0.trans (hB1.mono hB0.size)
  have hb1 := hb0.below hB1
  clear hb0 hB0 hB1 hck
  have k0 := hb1.c0
  have k1 := hb1.c1
  have k2 := hb1.c2
  have hp := put_any none 0 0 [] f 4 w1 (Rd.nil _ _ _ _ (by simp [maxLen]) _) (by omega) (by omega)
  obtain ⟨b1, hb1e⟩ : ∃ b1, b1 = puts [] f 4 := ⟨_, rfl⟩
  have hl1 : b1.length = 4 := by rw [hb1e, puts4, be_length]
  rw [← hb1e] at hp HBY
  rw [hl1] at hp
  clear hb1e
  go_wp2_with (with_reducible refine h_A ?_)
  refine hp.mono ?_
  rintro e w2 ⟨A2, c2, rfl, ho2, hB3⟩
  have hB4 := hB2.trans (hB3.mono hB2.size)
  have hb2 := hb1.below hB3
  clear hb1 hB2 hp k0 k1 k2
  have k0 := hb2.c0
  have k1 := hb2.c1
  have k2 := hb2.c2
  have hp := hPT A2 4 c2 b1 g w2 ho2.rd (by omega) (by omega)
  rw [textErr1 h2] at hp
  obtain ⟨b2, hb2e⟩ : ∃ b2, b2 = putsText b1 g 1 := ⟨_, rfl⟩
  have hl2 : b2.length = 5 + g.length := by rw [hb2e, putsText1 h2]; simp [be_length, hl1]; omega
  rw [← hb2e] at hp HBY
  clear hb2e
  generalize b2.length = N2 at *
  have hN2 : N2 ≤ 140737488351240 := by omega
  clear hl2
  go_wp2_with (with_reducible refine h_A ?_)
  refine hp.mono ?_
  rintro e w3 ⟨A3, c3, rfl, ho3, hB5⟩
  have hB6 := hB4.trans (hB5.mono hB4.size)
  have hb3 := hb2.below hB5
  clear hb2 hB4 hp k0 k1 k2 hB3 ho2
  have k0 := hb3.c0
  have k1 := hb3.c1
  have k2 := hb3.c2
  have hp := hPT A3 N2 c3 b2 h w3 ho3.rd (by omega) (by omega)
  rw [textErr1 h3, HBY.out] at hp
  clear hbl
  go_wp2_with (with_reducible refine h_A ?_)
  refine hp.mono ?_
  rintro e w4 ⟨A4, c4, rfl, ho4, hB7⟩
  have hB8 := hB6.trans (hB7.mono hB6.size)
  have ho5 := ho4.base_le hB6.size
  clear hp k0 k1 k2 hb3 ho3 ho4 hPT
  go_wp2_with (with_reducible refine h_A ?_)
  go_ret2
  exact ⟨A4, c4, rfl, ho5, hB8⟩
end Go.PH
end
section
/- The walk of names' Get. -/
namespace Go.PH
open Go.RowKit Go.Proofs

def zx : Array Value := #[.int .u32 0, .string ⟨#[]⟩, .string ⟨#[]⟩]
theorem zx_eq : zx = #[.int .u32 0, .string ⟨#[]⟩, .string ⟨#[]⟩] := rfl
theorem Xd.err_no {x : Xd} (h : x.ok = false) : x.err = 40 := by simp [Xd.err, h]
theorem Xd.err_ok {x : Xd} (h : x.ok = true) : x.err = 0 := by simp [Xd.err, h]
theorem xd00_V : xdV xd00 = zx := by unfold xdV xd00 zx; rfl
set_option maxRecDepth 20000 in
set_option maxHeartbeats 4000000 in
theorem xdget_any (A : Option Addr) (n c : Nat) (l : List UInt8) (w : World) (hr : RdB w w.heap.size A n c l) (hn : n ≤ 140737488351232) :
  Calls Tryz.prog 81 #[.slice A n c] w fun e w' => e = .returned (.tuple #[.agg (xdV (getR l).1), .int .i64 ((getR l).2.1 : Nat), .int .i64 ((getR l).2.2 : Nat)]) ∧ Below w.heap.size w w' := by
 have hB0 : Below w.heap.size w (w.alloc (.cells zx 58)) := (Below.refl _ _).alloc (Nat.le_refl _) _
 have hb0 : Box (w.alloc (.cells zx 58)) w.heap.size 58 zx := Box.new _ _ _
 have hr0 : RdB (w.alloc (.cells zx 58)) (w.alloc (.cells zx 58)).heap.size A n c l := (hr.below hB0).more hB0.size
 have hz0 : w.heap.size < (w.alloc (.cells zx 58)).heap.size := hb0.lt
 have hop := rdopen_any A n c l _ hr0 (by omega)
 have hnl : l.length = n := hr.length
 have h4 := mnum4_lt l
 have HG : Hid (getR l = if (getX l).2.2 = true then (xd00, 0, 4) else if (getX l).1.ok = true then ((getX l).1, l.length - (getX l).2.1.length, 0) else (xd00, 0, 40)) := Lib.hid rfl
 have HX : Hid (getX l = (⟨(mnum l false 4).1 % 4294967296, (getT (mnum l false 4).2.1 (mnum l false 4).2.2).1, (getT (getT (mnum l false 4).2.1 (mnum l false 4).2.2).2.1 (getT (mnum l false 4).2.1 (mnum l false 4).2.2).2.2).1⟩,
  (getT (getT (mnum l false 4).2.1 (mnum l false 4).2.2).2.1 (getT (mnum l false 4).2.1 (mnum l false 4).2.2).2.2).2)) := Lib.hid rfl
 have hxl := getX_le l
 generalize getR l = GR at *
 have hn1 := fun F v vb W (h : Rdr F W v vb l false) => rdnum_any h 4 (by omega) (by omega)
 generalize mnum l false 4 = m1 at *
 obtain ⟨f, l1, b1⟩ := m1
 simp only at hn1 HX h4
 have hn2 := fun F v vb W (h : Rdr F W v vb l1 b1) => rdtext_any h 1 255 (by omega) (by omega) (by omega) (by omega)
 rw [show mtext l1 b1 1 255 = getT l1 b1 from rfl] at hn2
 generalize getT l1 b1 = m2 at *
 obtain ⟨s1, l2, b2⟩ := m2
 simp only at hn2 HX
 have hn3 := fun F v vb W (h : Rdr F W v vb l2 b2) => rdtext_any h 1 255 (by omega) (by omega) (by omega) (by omega)
 rw [show mtext l2 b2 1 255 = getT l2 b2 from rfl] at hn3
 generalize getT l2 b2 = m3 at *
 obtain ⟨s2, l3, b3⟩ := m3
 simp only at hn3 HX
 rw [Nat.mod_eq_of_lt h4] at HX
 rw [HX.out] at hxl HG
 simp only at hxl HG
 obtain ⟨hx1, hx2, hx3⟩ := hxl
 have hwf : IntKind.u32.wrap ((f : Nat) : Int) = (f : Int) := IntWalk.u32_in _ ⟨by omega, by omega⟩
 have hck := fun W => check_any ⟨f, s1, s2⟩ W ⟨h4, by show s1.length ≤ _; omega, by show s2.length ≤ _; omega⟩
 unfold xdV at hck
 simp only at hck
 clear HX
 rw [zx_eq] at hB0 hb0 hop hz0
 go_enter Tryz.func81, Tryz.ntmps81
 go_wp2_with (with_reducible refine h_A ?_)
 refine hop.mono ?_
 rintro e w1 ⟨rb, vb, rfl, hrbb, hvb, hR1, hB1⟩
 have hb1 := hb0.below hB1
 replace hB1 := hB0.trans (hB1.mono hB0.size)
 have hFv : ∀ W v l b, Rdr (fun g => (w.alloc (.cells #[.int .u32 0, .string ⟨#[]⟩, .string ⟨#[]⟩] 58)).heap.size ≤ g ∧ g < w1.heap.size) W v (some vb) l b → vb < w1.heap.size := fun W v l b h => (h.inF rfl).2
 generalize (w.alloc (.cells #[.int .u32 0, .string ⟨#[]⟩, .string ⟨#[]⟩] 58)).heap.size = N1 at *
 clear hop hB0 hb0 hr0
 go_wp2_with (with_reducible refine h_A ?_)
 refine (hn1 _ _ _ _ hR1).mono ?_
 rintro e w2 ⟨rfl, hR2, hg2⟩
 have hb2 := hb1.grown hg2 (sne (by omega))
 have hB2 := hB1.grown hg2 hB1.size (fun g hg => by injection hg with hg; omega)
 have hz2 : w1.heap.size ≤ w2.heap.size := hg2.size
 have hlv := hFv _ _ _ _ hR2
 clear hn1 hR1 hb1 hB1 hg2
 have hbx := Box.new w2 zx 58
 have hb2a := hb2.alloc (.cells zx 58)
 have hB2a := hB2.alloc hB2.size (.cells zx 58)
 have hR2a := hR2.below ((Below.refl w2.heap.size w2).alloc (Nat.le_refl _) (.cells zx 58))
 have hzx : w.heap.size < w2.heap.size := hb2.lt
 obtain ⟨g2, hg2⟩ : ∃ g2, g2 = w2.heap.size := ⟨_, rfl⟩
 rw [zx_eq] at hbx hb2a hB2a hR2a
 rw [← hg2] at hbx
 clear hb2 hB2 hR2
 have hge1 : w1.heap.size ≤ g2 := by omega
 have hge2 : w.heap.size < g2 := by omega
 go_wp2_with (first | (with_reducible refine hold_append ?_) | (with_reducible refine hold_make ?_) | (with_reducible refine hold_copy ?_) | (with_reducible refine hold_slice ?_) | (with_reducible refine hold_conv (s := 9) (t := 26) ?_) | (with_reducible refine hold_store ?_))
 rw [← hg2]
 clear hg2
 refine unhold (wp_box (v := .agg #[.int .u32 (f : Int), .string ⟨#[]⟩, .string ⟨#[]⟩]) (vs := [.int .u32 (f : Int), .string ⟨#[]⟩, .string ⟨#[]⟩]) rfl rfl rfl rfl hbx rfl (by kernel_rfl) (by simp) (by simp; exact ⟨rfl, rfl⟩) #[.int .u32 (f : Int), .string ⟨#[]⟩, .string ⟨#[]⟩] (by simp) ?_)
 intro w3 hbx3 hg3 _
 have hb3 := hb2a.grown hg3 (sne (by omega))
 have hB3 := hB2a.grown hg3 hB2a.size (fun g hg => by injection hg with hg; omega)
 have hR3 := hR2a.kept hg3 (by rintro g ⟨rfl⟩ ⟨_, h⟩; omega)
 clear hbx hb2a hB2a hR2a hg3
 go_wp2_with (with_reducible refine h_A ?_)
 refine (hn2 _ _ _ _ hR3).mono ?_
 rintro e w4 ⟨rfl, hR4, hg4⟩
 have hbx4 := hbx3.grown hg4 (sne (by omega))
 have hb4 := hb3.grown hg4 (sne (by omega))
 have hB4 := hB3.grown hg4 hB3.size (fun g hg => by injection hg with hg; omega)
 clear hn2 hR3 hbx3 hb3 hB3 hg4
 go_wp2_with (first | (with_reducible refine hold_append ?_) | (with_reducible refine hold_make ?_) | (with_reducible refine hold_copy ?_) | (with_reducible refine hold_slice ?_) | (with_reducible refine hold_conv (s := 9) (t := 26) ?_) | (with_reducible refine hold_store ?_))
 refine unhold (wp_box (v := .string (str s1)) (vs := [.string (str s1)]) rfl rfl rfl rfl hbx4 rfl (by kernel_rfl) (by simp) (by simp; rfl) #[.int .u32 (f : Int), .string (str s1), .string ⟨#[]⟩] (by simp) ?_)
 intro w5 hbx5 hg5 _
 have hb5 := hb4.grown hg5 (sne (by omega))
 have hB5 := hB4.grown hg5 hB4.size (fun g hg => by injection hg with hg; omega)
 have hR5 := hR4.kept hg5 (by rintro g ⟨rfl⟩ ⟨_, h⟩; omega)
 clear hbx4 hb4 hB4 hR4 hg5
 go_wp2_with (with_reducible refine h_A ?_)
 refine (hn3 _ _ _ _ hR5).mono ?_
 rintro e w6 ⟨rfl, hR6, hg6⟩
 have hbx6 := hbx5.grown hg6 (sne (by omega))
 have hb6 := hb5.grown hg6 (sne (by omega))
 have hB6 := hB5.grown hg6 hB5.size (fun g hg => by injection hg with hg; omega)
 clear hn3 hR5 hbx5 hb5 hB5 hg6
 go_wp2_with (first | (with_reducible refine hold_append ?_) | (with_reducible refine hold_make ?_) | (with_reducible refine hold_copy ?_) | (with_reducible refine hold_slice ?_) | (with_reducible refine hold_conv (s := 9) (t := 26) ?_) | (with_reducible refine hold_store ?_))
 refine unhold (wp_box (v := .string (str s2)) (vs := [.string (str s2)]) rfl rfl rfl rfl hbx6 rfl (by kernel_rfl) (by simp) (by simp; rfl) #[.int .u32 (f : Int), .string (str s1), .string (str s2)] (by simp) ?_)
 intro w7 hbx7 hg7 _
 have hb7 := hb6.grown hg7 (sne (by omega))
 have hB7 := hB6.grown hg7 hB6.size (fun g hg => by injection hg with hg; omega)
 have hR7 := hR6.kept hg7 (by rintro g ⟨rfl⟩ ⟨_, h⟩; omega)
 clear hbx6 hb6 hB6 hR6 hg7
 go_wp2_with (with_reducible refine h_A ?_)
 refine (rdbad_any hR7).mono ?_
 rintro e w8 ⟨rfl, rfl⟩
 cases b3
 ·have k0 := hbx7.c0
  have k1 := hbx7.c1
  have k2 := hbx7.c2
  go_wp2_with (with_reducible refine h_A ?_)
  cases hok : Xd.ok ⟨f, s1, s2⟩
  ·have HF := Lib.hid (show GR = (xd00, 0, 40) by rw [HG.out, if_neg (by simp), if_neg (by rw [hok]; simp)])
   rw [Xd.err_no hok] at hck
   clear HG hok
   refine (hck _).mono ?_
   rintro e w9 ⟨rfl, hB9⟩
   have hb9 := hb7.below hB9
   have hB09 := hB7.trans (hB9.mono hB7.size)
   go_wp2_with (first | (with_reducible refine hold_append ?_) | (with_reducible refine hold_make ?_) | (with_reducible refine hold_copy ?_) | (with_reducible refine hold_slice ?_) | (with_reducible refine hold_conv (s := 9) (t := 26) ?_) | (with_reducible refine hold_store ?_))
   refine unhold (wp_box (v := .agg zx) (vs := zx.toList) rfl rfl rfl rfl hb9 rfl (by kernel_rfl) (by decide) (by decide) zx rfl ?_)
   intro wz hbz hgz _
   have hBz := Below.grown hB09 hgz (Below.size hB09) (fun g hg => by injection hg with hg; omega)
   go_wp2_with (with_reducible refine h_A ?_)
   (try simp only [Exit.inBlock, Exit.then])
   refine ret_box_tmp2x rfl hbz rfl rfl rfl Tryz.underlying58 rfl (by kernel_rfl) rfl ?_
   rw [HF.out, xd00_V]
   exact ⟨rfl, hBz⟩
  ·have HF := Lib.hid (show GR = (⟨f, s1, s2⟩, l.length - l3.length, 0) by rw [HG.out, if_neg (by simp), if_pos hok])
   rw [Xd.err_ok hok] at hck
   clear HG hok
   refine (hck _).mono ?_
   rintro e w9 ⟨rfl, hB9⟩
   have hb9 := hb7.below hB9
   have hbx9 := hbx7.below hB9
   have hR9 := hR7.below hB9
   have hB09 := hB7.trans (hB9.mono hB7.size)
   clear hb7 hbx7 hR7 hB7 hB9 hck k0 k1 k2
   have hz9 := hb9.lt
   have hS : (Box w9.drew g2 58 #[.int .u32 (f : Int), .string (str s1), .string (str s2)] ∧ Rdr (fun g => N1 ≤ g ∧ g < w1.heap.size) w9.drew (.pointer (some ⟨rb, 0, none⟩)) (some vb) l3 false) ∧ Below w.heap.size w w9.drew := ⟨⟨hbx9, hR9.drew⟩, below_drewN hB09 1⟩
   have hb10 : Box w9.drew w.heap.size 58 #[.int .u32 0, .string ⟨#[]⟩, .string ⟨#[]⟩] := hb9
   have hsub : IntKind.i64.wrap ((n : Int) - (l3.length : Int)) = ((l.length - l3.length : Nat) : Int) := by rw [IntWalk.i64_in _ ⟨by omega, by omega⟩]; omega
   go_wp2_with (with_reducible refine h_A ?_)
   refine rg_start (fun wx : World => (Box wx g2 58 #[.int .u32 (f : Int), .string (str s1), .string (str s2)] ∧ Rdr (fun g => N1 ≤ g ∧ g < w1.heap.size) wx (.pointer (some ⟨rb, 0, none⟩)) (some vb) l3 false) ∧ Below w.heap.size w wx) (by kernel_rfl) ?_
   clear hb9 hbx9 hR9 hB09 hz9
   generalize w9.drew = wd at *
   refine rg_take 0 (v := ?_) rfl (by kernel_rfl) (by kernel_rfl) (by kernel_rfl) hS rfl ?_ ?_
   rotate_left
   ·intro wS hSw; have k0 := hSw.1.1.cell (j := 0) rfl; have k1 := hSw.1.1.cell (j := 1) rfl; have k2 := hSw.1.1.cell (j := 2) rfl; go_simp; (with_reducible rfl)
   simp only [List.getElem_toArray, List.getElem_cons_zero, Act.put, List.setIfInBounds_toArray, List.set_cons_zero, List.set_cons_succ]
   refine rg_t 1 hS ?_
   simp only [g_S, Act.put]
   refine rg_t 2 hS ?_
   simp only [g_S, Act.put]
   refine rg_t 3 hS ?_
   simp only [g_S, Act.put]
   refine rg_one 4 rfl (by kernel_rfl) rfl (fun K hK => ?_)
   go_simp
   refine (rdleft_any hS.1.2).mono ?_
   rintro e we ⟨rfl, rfl⟩
   refine hK _ _ hS ?_; clear hK K
   refine rg_t 5 hS ?_
   simp only [g_S, Act.put]
   refine rg_one 6 rfl (by kernel_rfl) rfl (fun K hK => ?_)
   refine op_box (v := .agg #[.int .u32 (f : Int), .string (str s1), .string (str s2)]) (vs := [.int .u32 (f : Int), .string (str s1), .string (str s2)]) rfl rfl rfl hb10 rfl (by kernel_rfl) (by simp) (by simp; exact ⟨rfl, rfl, rfl⟩) #[.int .u32 (f : Int), .string (str s1), .string (str s2)] (by simp) ?_
   intro wz hbz hgz _
   have hS2 : (Box wz g2 58 #[.int .u32 (f : Int), .string (str s1), .string (str s2)] ∧ Rdr (fun g => N1 ≤ g ∧ g < w1.heap.size) wz (.pointer (some ⟨rb, 0, none⟩)) (some vb) l3 false) ∧ Below w.heap.size w wz := ⟨⟨hS.1.1.grown hgz (sne (by omega)), hS.1.2.kept hgz (by rintro g ⟨rfl⟩ ⟨h, _⟩; omega)⟩, hS.2.grown hgz hS.2.size (fun g hg => by injection hg with hg; omega)⟩
   refine hK _ _ hS2 ?_
   clear hK K
   refine rg_t 7 hS2 ?_
   simp only [g_S, Act.put]
   refine rg_t 8 hS2 ?_
   simp only [g_S, Act.put]
   refine rg_end (by kernel_rfl) ?_
   go_wp2_with (with_reducible refine h_A ?_)
   (try simp only [Exit.inBlock, Exit.then])
   refine ret_box_tmp2x rfl hbz rfl rfl rfl Tryz.underlying58 rfl (by kernel_rfl) rfl ?_
   rw [HF.out]
   simp only [hnl]
   exact ⟨rfl, hS2.2⟩
 ·have HF := Lib.hid (show GR = (xd00, 0, 4) by rw [HG.out, if_pos rfl])
  clear HG
  go_wp2_with (first | (with_reducible refine hold_append ?_) | (with_reducible refine hold_make ?_) | (with_reducible refine hold_copy ?_) | (with_reducible refine hold_slice ?_) | (with_reducible refine hold_conv (s := 9) (t := 26) ?_) | (with_reducible refine hold_store ?_))
  refine unhold (wp_box (v := .agg zx) (vs := zx.toList) rfl rfl rfl rfl hb7 rfl (by kernel_rfl) (by decide) (by decide) zx rfl ?_)
  intro wz hbz hgz _
  have hBz := Below.grown hB7 hgz (Below.size hB7) (fun g hg => by injection hg with hg; omega)
  go_wp2_with (with_reducible refine h_A ?_)
  (try simp only [Exit.inBlock, Exit.then])
  refine ret_box_tmp2x rfl hbz rfl rfl rfl Tryz.underlying58 rfl (by kernel_rfl) rfl ?_
  rw [HF.out, xd00_V]
  exact ⟨rfl, hBz⟩
end Go.PH
end
section
/- Reading names as the laws' arguments. -/
namespace Go.PH
open Go.RowKit Go.Proofs Go.ChangeShapes Go.WideShapes Go.ChangeAt Go.Deep
variable {H : Type} {enc : TypeId × Value → H} {W : World}

def xdC (x : Xd) : List Value := [.int .u32 (x.fmt : Int), .string (str x.glob), .string (str x.bran)]
def RXid (x : Xd) (cs : List Value) : Prop := cs = xdC x ∧ x.wf
theorem cells3x {cs : List Value} {a b c : Value} (hl : cs.length = 3) (h0 : (cs.drop 0).take 1 = [a]) (h1 : (cs.drop 1).take 1 = [b]) (h2 : (cs.drop 2).take 1 = [c]) : cs = [a, b, c] := by
 match cs, hl with
 | [x, y, z], _ => simp_all
set_option maxRecDepth 20000 in
theorem reader_xid : Reader enc Tryz.prog W 58 RXid := fun fuel cs d p h hw => by
 obtain ⟨hl, hf⟩ := trod_field Tryz.underlying58 h hw
 obtain ⟨n0, h0, w0⟩ := hf 0 _ rfl (reader_int (k := .u32) Tryz.underlying56)
 obtain ⟨l1, h1, w1⟩ := hf 1 _ rfl (reader_str Tryz.underlying9)
 obtain ⟨l2, h2, w2⟩ := hf 2 _ rfl (reader_str Tryz.underlying9)
 have b0 := bounds_u32 w0
 rw [(by kernel_rfl : Tryz.prog.cellsOf 58 = 3)] at hl
 have e0 : n0 = ((n0.toNat : Nat) : Int) := by omega
 rw [e0] at h0
 exact ⟨⟨n0.toNat, l1, l2⟩, cells3x hl h0 h1 h2, by show n0.toNat < 4294967296; omega, w1, w2⟩
end Go.PH
end

/- Texts laid together: XdBase, XdPutMath, XdPut, XdGetM, XdSee. -/
import Derived.Deep.QuietTactic
import Derived.BigQuiet
import Derived.Test.YtfbkameikhgciaaGreatDoorMg01
import Derived.Test.YtfbkameikhgciaaGreatDoorMg02
import Derived.Test.YtfbkameikhgciaaGreatDoorMg06
import Derived.Test.YtfbkameikhgciaaGreatDoorMg07
import Derived.Test.YtfbkameikhgciaaGreatDoorMg08
import Derived.Test.YtfbkameikhgciaaGreatDoorMg20
set_option linter.all false
set_option linter.unusedSimpArgs false
set_option linter.unusedVariables false
set_option maxRecDepth 20000
set_option maxHeartbeats 8000000
section
namespace Go.PH
open Go.RowKit Go.Proofs
theorem ZX (x : Xd) (w : World) (hw : x.wf) :
  Calls Tryz.prog 121 #[.agg (xdV x)] w fun e w' => e = .returned (.int .i64 x.err) ∧ Below w.heap.size w w' := by
 obtain ⟨f, g, h⟩ := x
 obtain ⟨h1, h2, h3⟩ := hw
 simp only at h1 h2 h3
 have hB : Below w.heap.size w (w.alloc (.cells #[.int .u32 (f : Int), .string (str g), .string (str h)] 73)) := (Below.refl _ _).alloc (Nat.le_refl _) _
 have hsg := zj g
 have hsh := zj h
 by_cases c1 : g = []
 ·have hd1 : (str g).toList.isEmpty = true := by rw [c1, zt]; rfl
  have he : Xd.err ⟨f, g, h⟩ = 40 := by simp [Xd.err, Xd.ok, c1]
  rw [he]
  clear hsg hsh c1 he
  unfold xdV
  go_enter Tryz.func121, Tryz.ntmps121
  go_wp2_with (with_reducible refine h_A ?_)
  go_ret
  exact ⟨rfl, hB⟩
 ·have hd1 : (str g).toList.isEmpty = false := by rw [zt]; simpa using c1
  by_cases c2 : 64 < g.length
  ·have hd2 : (64 : Int) < ((str g).size : Int) := by omega
   have he : Xd.err ⟨f, g, h⟩ = 40 := by simp [Xd.err, Xd.ok]; omega
   rw [he]
   clear hsg hsh c1 he
   unfold xdV
   go_enter Tryz.func121, Tryz.ntmps121
   go_wp2_with (with_reducible refine h_A ?_)
   go_ret
   exact ⟨rfl, hB⟩
  ·have hd2 : decide ((64 : Int) < ((str g).size : Int)) = false := by simp; omega
   by_cases c3 : 64 < h.length
   ·have hd3 : (64 : Int) < ((str h).size : Int) := by omega
    have he : Xd.err ⟨f, g, h⟩ = 40 := by simp [Xd.err, Xd.ok]; omega
    rw [he]
    clear hsg hsh c1 he
    unfold xdV
    go_enter Tryz.func121, Tryz.ntmps121
    go_wp2_with (with_reducible refine h_A ?_)
    go_ret
    exact ⟨rfl, hB⟩
   ·have hd3 : ¬ (64 : Int) < ((str h).size : Int) := by omega
    have he : Xd.err ⟨f, g, h⟩ = 0 := by simp [Xd.err, Xd.ok]; exact ⟨c1, by omega, by omega⟩
    rw [he]
    clear hsg hsh c1 he
    unfold xdV
    go_enter Tryz.func121, Tryz.ntmps121
    go_wp2_with (with_reducible refine h_A ?_)
    go_ret
    exact ⟨rfl, hB⟩
end Go.PH
end
section
namespace Go.PH
def Xd.bytes (x : Xd) : List UInt8 := be 4 x.fmt ++ be 1 x.glob.length ++ x.glob ++ be 1 x.bran.length ++ x.bran
def Xd.put (x : Xd) : List UInt8 := if x.ok then x.bytes else []
theorem Xd.put_ok {x : Xd} (h : x.ok = true) : x.put = x.bytes := by unfold Xd.put; rw [if_pos h]
theorem Xd.put_no {x : Xd} (h : x.ok = false) : x.put = [] := by unfold Xd.put; rw [if_neg (by simp [h])]
theorem Xd.bytes_length (x : Xd) : x.bytes.length = 6 + x.glob.length + x.bran.length := by
 simp [Xd.bytes, zn]; omega
theorem zas {v : Nat} : puts [] v 4 = be 4 v := by rw [yy (by decide)]; simp
theorem Zk {n : Nat} (h : n ≤ 64) : zw n 1 = 0 := by
 unfold zw
 rw [if_pos (.inl rfl), if_pos (show n < 256 ^ (1 : Int).toNat by show n < 256; omega)]
theorem kU {b s : List UInt8} (h : s.length ≤ 64) : zF b s 1 = b ++ be 1 s.length ++ s := by
 unfold zF
 rw [if_pos (Zk h)]
 rfl
def xd00 : Xd := ⟨0, [], []⟩
def getT (l : List UInt8) (bad : Bool) : List UInt8 × List UInt8 × Bool := zR l bad 1 255
def getX (l : List UInt8) : Xd × List UInt8 × Bool :=
 (⟨(mnum l false 4).1 % 4294967296, (getT (mnum l false 4).2.1 (mnum l false 4).2.2).1, (getT (getT (mnum l false 4).2.1 (mnum l false 4).2.2).2.1 (getT (mnum l false 4).2.1 (mnum l false 4).2.2).2.2).1⟩,
  (getT (getT (mnum l false 4).2.1 (mnum l false 4).2.2).2.1 (getT (mnum l false 4).2.1 (mnum l false 4).2.2).2.2).2)
def getR (l : List UInt8) : Xd × Nat × Nat :=
 if (getX l).2.2 = true then (xd00, 0, 4) else if (getX l).1.ok = true then ((getX l).1, l.length - (getX l).2.1.length, 0) else (xd00, 0, 40)
theorem Ko (l : List UInt8) : (mnum l false 4).1 < 4294967296 := by
 rw [xV (by decide)]
 unfold yT
 split
 ·simp [j6]
 ·simp only
  refine Nat.lt_of_lt_of_le (kt _) ?_
  refine Nat.le_trans (Nat.pow_le_pow_right (by omega) (show (l.take (4 : Int).toNat).length ≤ 4 by rw [List.length_take]; show min 4 _ ≤ 4; omega)) (by decide)
theorem Xb (l : List UInt8) (bad : Bool) (x : Int) : (yT l bad x).1.length ≤ l.length ∧ (yT l bad x).2.1.length ≤ l.length := by
 unfold yT
 split
 ·simp
 ·simp only [List.length_take, List.length_drop]; omega
theorem Jk (l : List UInt8) (bad : Bool) (x : Int) : (mnum l bad x).2.1.length ≤ l.length := by
 unfold mnum
 split
 ·exact (Xb l bad x).2
 ·simp
theorem Xc (l : List UInt8) (bad : Bool) (x most : Int) : (zR l bad x most).1.length ≤ l.length ∧ (zR l bad x most).2.1.length ≤ l.length := by
 unfold zR
 split
 ·simp only
  split
  ·simp
  ·have h1 := Xb (mnum l bad x).2.1 (mnum l bad x).2.2 ((mnum l bad x).1 : Int)
   have h2 := Jk l bad x
   omega
 ·simp
theorem VG (l : List UInt8) : (getX l).1.glob.length ≤ l.length ∧ (getX l).1.bran.length ≤ l.length ∧ (getX l).2.1.length ≤ l.length := by
 unfold getX getT
 simp only
 have h1 := Jk l false 4
 have h2 := Xc (mnum l false 4).2.1 (mnum l false 4).2.2 1 255
 have h3 := Xc (zR (mnum l false 4).2.1 (mnum l false 4).2.2 1 255).2.1 (zR (mnum l false 4).2.1 (mnum l false 4).2.2 1 255).2.2 1 255
 omega
theorem Xe {s rest : List UInt8} (h : s.length ≤ 64) : getT (be 1 s.length ++ s ++ rest) false = (s, rest, false) := by
 unfold getT
 have hn := jB 1 (by decide) s.length (s ++ rest)
 rw [Nat.mod_eq_of_lt (by show s.length < 256; omega)] at hn
 have hn : mnum (be 1 s.length ++ (s ++ rest)) false 1 = (s.length, s ++ rest, false) := hn
 rw [vT (by omega), List.append_assoc, hn]
 simp only
 rw [if_neg (by simp; omega), kV]
theorem jP {x : Xd} (hf : x.fmt < 4294967296) (hk : x.ok = true) (rest : List UInt8) : getX (x.bytes ++ rest) = (x, rest, false) := by
 obtain ⟨h1, h2, h3⟩ := (Xd.ok_iff x).1 hk
 have e : x.bytes ++ rest = be 4 x.fmt ++ (be 1 x.glob.length ++ x.glob ++ (be 1 x.bran.length ++ x.bran ++ rest)) := by simp [Xd.bytes]
 have hn : mnum (x.bytes ++ rest) false 4 = (x.fmt, be 1 x.glob.length ++ x.glob ++ (be 1 x.bran.length ++ x.bran ++ rest), false) := by
  rw [e]
  have := jB 4 (by decide) x.fmt (be 1 x.glob.length ++ x.glob ++ (be 1 x.bran.length ++ x.bran ++ rest))
  rw [Nat.mod_eq_of_lt (by show x.fmt < 256 ^ 4; omega)] at this
  exact this
 unfold getX
 rw [hn]
 simp only
 rw [Xe h2]
 simp only
 rw [Xe h3, Nat.mod_eq_of_lt hf]
theorem XX {x : Xd} (hf : x.fmt < 4294967296) (hk : x.ok = true) (rest : List UInt8) : getR (x.bytes ++ rest) = (x, x.bytes.length, 0) := by
 unfold getR
 rw [jP hf hk]
 simp [hk]
end Go.PH
end
section
namespace Go.PH
open Go.RowKit Go.Proofs
theorem Jj (x : Xd) (w : World) (hw : x.wf) :
  Calls Tryz.prog 103 #[.agg (xdV x)] w fun e w' => ∃ A2 c2, e = .returned (.tuple #[.slice A2 x.put.length c2, .int .i64 x.err]) ∧ Own w' w.heap.size 5 1 A2 x.put.length c2 (x.put.map u8v) ∧ Below w.heap.size w w' := by
 have hck := fun W => ZX x W hw
 cases hok : x.ok
 ·have e2 : x.err = 40 := by simp [Xd.err, hok]
  rw [Xd.put_no hok, e2]
  rw [e2] at hck
  clear hok e2
  obtain ⟨f, g, h⟩ := x
  unfold xdV at hck ⊢
  simp only at hck
  have hB0 : Below w.heap.size w (w.alloc (.cells #[.int .u32 (f : Int), .string (str g), .string (str h)] 73)) := (Below.refl _ _).alloc (Nat.le_refl _) _
  go_enter Tryz.func103, Tryz.ntmps103
  go_wp2_with (with_reducible refine h_A ?_)
  refine (hck _).mono ?_
  rintro e w1 ⟨rfl, hB1⟩
  have hB2 := hB0.trans (hB1.mono hB0.size)
  go_wp2_with (with_reducible refine h_A ?_)
  go_ret2
  exact ⟨none, 0, rfl, Own.none_ _ _ _ _, hB2⟩
 ·have e2 : x.err = 0 := by simp [Xd.err, hok]
  obtain ⟨h1, h2, h3⟩ := (Xd.ok_iff x).1 hok
  have HBY : Hid (zF (zF (puts [] x.fmt 4) x.glob 1) x.bran 1 = x.bytes) := Lib.hid (by rw [zas, kU h2, kU h3]; rfl)
  have hbl := Xd.bytes_length x
  rw [Xd.put_ok hok, e2]
  rw [e2] at hck
  clear hok e2
  generalize hby : x.bytes = by_ at *
  clear hby
  obtain ⟨f, g, h⟩ := x
  obtain ⟨hf, _, _⟩ := hw
  unfold xdV at hck ⊢
  simp only at hck h1 h2 h3 HBY hbl hf
  have hB0 : Below w.heap.size w (w.alloc (.cells #[.int .u32 (f : Int), .string (str g), .string (str h)] 73)) := (Below.refl _ _).alloc (Nat.le_refl _) _
  have hb0 : Box (w.alloc (.cells #[.int .u32 (f : Int), .string (str g), .string (str h)] 73)) w.heap.size 73 #[.int .u32 (f : Int), .string (str g), .string (str h)] := Box.new _ _ _
  have hwf : IntKind.u64.wrap (f : Int) = (f : Int) := IntWalk.u64_in _ ⟨by omega, by omega⟩
  have hPT := fun (A : Option Addr) (n c : Nat) (l s : List UInt8) (W : World) => yF A n c l s 1 W
  go_enter Tryz.func103, Tryz.ntmps103
  go_wp2_with (with_reducible refine h_A ?_)
  refine (hck _).mono ?_
  rintro e w1 ⟨rfl, hB1⟩
  have hB2 := hB0.trans (hB1.mono hB0.size)
  have hb1 := hb0.below hB1
  clear hb0 hB0 hB1 hck
  have k0 := hb1.c0
  have k1 := hb1.c1
  have k2 := hb1.c2
  have hp := zX none 0 0 [] f 4 w1 (Rd.nil _ _ _ _ (by simp [maxLen]) _) (by omega) (by omega)
  obtain ⟨b1, hb1e⟩ : ∃ b1, b1 = puts [] f 4 := ⟨_, rfl⟩
  have hl1 : b1.length = 4 := by rw [hb1e, zas, zn]
  rw [← hb1e] at hp HBY
  rw [hl1] at hp
  clear hb1e
  go_wp2_with (with_reducible refine h_A ?_)
  refine hp.mono ?_
  rintro e w2 ⟨A2, c2, rfl, ho2, hB3⟩
  have hB4 := hB2.trans (hB3.mono hB2.size)
  have hb2 := hb1.below hB3
  clear hb1 hB2 hp k0 k1 k2
  have k0 := hb2.c0
  have k1 := hb2.c1
  have k2 := hb2.c2
  have hp := hPT A2 4 c2 b1 g w2 ho2.rd (by omega) (by omega)
  rw [Zk h2] at hp
  obtain ⟨b2, hb2e⟩ : ∃ b2, b2 = zF b1 g 1 := ⟨_, rfl⟩
  have hl2 : b2.length = 5 + g.length := by rw [hb2e, kU h2]; simp [zn, hl1]; omega
  rw [← hb2e] at hp HBY
  clear hb2e
  generalize b2.length = N2 at *
  have hN2 : N2 ≤ 140737488351240 := by omega
  clear hl2
  go_wp2_with (with_reducible refine h_A ?_)
  refine hp.mono ?_
  rintro e w3 ⟨A3, c3, rfl, ho3, hB5⟩
  have hB6 := hB4.trans (hB5.mono hB4.size)
  have hb3 := hb2.below hB5
  clear hb2 hB4 hp k0 k1 k2 hB3 ho2
  have k0 := hb3.c0
  have k1 := hb3.c1
  have k2 := hb3.c2
  have hp := hPT A3 N2 c3 b2 h w3 ho3.rd (by omega) (by omega)
  rw [Zk h3, HBY.out] at hp
  clear hbl
  go_wp2_with (with_reducible refine h_A ?_)
  refine hp.mono ?_
  rintro e w4 ⟨A4, c4, rfl, ho4, hB7⟩
  have hB8 := hB6.trans (hB7.mono hB6.size)
  have ho5 := ho4.base_le hB6.size
  clear hp k0 k1 k2 hb3 ho3 ho4 hPT
  go_wp2_with (with_reducible refine h_A ?_)
  go_ret2
  exact ⟨A4, c4, rfl, ho5, hB8⟩
end Go.PH
end
section
namespace Go.PH
open Go.RowKit Go.Proofs
def zx : Array Value := #[.int .u32 0, .string ⟨#[]⟩, .string ⟨#[]⟩]
theorem zau : zx = #[.int .u32 0, .string ⟨#[]⟩, .string ⟨#[]⟩] := rfl
theorem Xd.err_no {x : Xd} (h : x.ok = false) : x.err = 40 := by simp [Xd.err, h]
theorem Xd.err_ok {x : Xd} (h : x.ok = true) : x.err = 0 := by simp [Xd.err, h]
theorem K3 : xdV xd00 = zx := by unfold xdV xd00 zx; rfl
theorem JB (A : Option Addr) (n c : Nat) (l : List UInt8) (w : World) (hr : RdB w w.heap.size A n c l) (hn : n ≤ 140737488351232) :
  Calls Tryz.prog 159 #[.slice A n c] w fun e w' => e = .returned (.tuple #[.agg (xdV (getR l).1), .int .i64 ((getR l).2.1 : Nat), .int .i64 ((getR l).2.2 : Nat)]) ∧ Below w.heap.size w w' := by
 have hB0 : Below w.heap.size w (w.alloc (.cells zx 73)) := (Below.refl _ _).alloc (Nat.le_refl _) _
 have hb0 : Box (w.alloc (.cells zx 73)) w.heap.size 73 zx := Box.new _ _ _
 have hr0 : RdB (w.alloc (.cells zx 73)) (w.alloc (.cells zx 73)).heap.size A n c l := (hr.below hB0).more hB0.size
 have hz0 : w.heap.size < (w.alloc (.cells zx 73)).heap.size := hb0.lt
 have hop := xj A n c l _ hr0 (by omega)
 have hnl : l.length = n := hr.length
 have h4 := Ko l
 have HG : Hid (getR l = if (getX l).2.2 = true then (xd00, 0, 4) else if (getX l).1.ok = true then ((getX l).1, l.length - (getX l).2.1.length, 0) else (xd00, 0, 40)) := Lib.hid rfl
 have HX : Hid (getX l = (⟨(mnum l false 4).1 % 4294967296, (getT (mnum l false 4).2.1 (mnum l false 4).2.2).1, (getT (getT (mnum l false 4).2.1 (mnum l false 4).2.2).2.1 (getT (mnum l false 4).2.1 (mnum l false 4).2.2).2.2).1⟩,
  (getT (getT (mnum l false 4).2.1 (mnum l false 4).2.2).2.1 (getT (mnum l false 4).2.1 (mnum l false 4).2.2).2.2).2)) := Lib.hid rfl
 have hxl := VG l
 generalize getR l = GR at *
 have hn1 := fun F v vb W (h : Rdr F W v vb l false) => zP h 4 (by omega) (by omega)
 generalize mnum l false 4 = m1 at *
 obtain ⟨f, l1, b1⟩ := m1
 simp only at hn1 HX h4
 have hn2 := fun F v vb W (h : Rdr F W v vb l1 b1) => xl h 1 255 (by omega) (by omega) (by omega) (by omega)
 rw [show zR l1 b1 1 255 = getT l1 b1 from rfl] at hn2
 generalize getT l1 b1 = m2 at *
 obtain ⟨s1, l2, b2⟩ := m2
 simp only at hn2 HX
 have hn3 := fun F v vb W (h : Rdr F W v vb l2 b2) => xl h 1 255 (by omega) (by omega) (by omega) (by omega)
 rw [show zR l2 b2 1 255 = getT l2 b2 from rfl] at hn3
 generalize getT l2 b2 = m3 at *
 obtain ⟨s2, l3, b3⟩ := m3
 simp only at hn3 HX
 rw [Nat.mod_eq_of_lt h4] at HX
 rw [HX.out] at hxl HG
 simp only at hxl HG
 obtain ⟨hx1, hx2, hx3⟩ := hxl
 have hwf : IntKind.u32.wrap ((f : Nat) : Int) = (f : Int) := IntWalk.u32_in _ ⟨by omega, by omega⟩
 have hck := fun W => ZX ⟨f, s1, s2⟩ W ⟨h4, by show s1.length ≤ _; omega, by show s2.length ≤ _; omega⟩
 unfold xdV at hck
 simp only at hck
 clear HX
 rw [zau] at hB0 hb0 hop hz0
 go_enter Tryz.func159, Tryz.ntmps159
 go_wp2_with (with_reducible refine h_A ?_)
 refine hop.mono ?_
 rintro e w1 ⟨rb, vb, rfl, hrbb, hvb, hR1, hB1⟩
 have hb1 := hb0.below hB1
 replace hB1 := hB0.trans (hB1.mono hB0.size)
 have hFv : ∀ W v l b, Rdr (fun g => (w.alloc (.cells #[.int .u32 0, .string ⟨#[]⟩, .string ⟨#[]⟩] 73)).heap.size ≤ g ∧ g < w1.heap.size) W v (some vb) l b → vb < w1.heap.size := fun W v l b h => (h.inF rfl).2
 generalize (w.alloc (.cells #[.int .u32 0, .string ⟨#[]⟩, .string ⟨#[]⟩] 73)).heap.size = N1 at *
 clear hop hB0 hb0 hr0
 go_wp2_with (with_reducible refine h_A ?_)
 refine (hn1 _ _ _ _ hR1).mono ?_
 rintro e w2 ⟨rfl, hR2, hg2⟩
 have hb2 := hb1.grown hg2 (sne (by omega))
 have hB2 := hB1.grown hg2 hB1.size (fun g hg => by injection hg with hg; omega)
 have hz2 : w1.heap.size ≤ w2.heap.size := hg2.size
 have hlv := hFv _ _ _ _ hR2
 clear hn1 hR1 hb1 hB1 hg2
 have hbx := Box.new w2 zx 73
 have hb2a := hb2.alloc (.cells zx 73)
 have hB2a := hB2.alloc hB2.size (.cells zx 73)
 have hR2a := hR2.below ((Below.refl w2.heap.size w2).alloc (Nat.le_refl _) (.cells zx 73))
 have hzx : w.heap.size < w2.heap.size := hb2.lt
 obtain ⟨g2, hg2⟩ : ∃ g2, g2 = w2.heap.size := ⟨_, rfl⟩
 rw [zau] at hbx hb2a hB2a hR2a
 rw [← hg2] at hbx
 clear hb2 hB2 hR2
 have hge1 : w1.heap.size ≤ g2 := by omega
 have hge2 : w.heap.size < g2 := by omega
 go_wp2_with (first | (with_reducible refine zT ?_) | (with_reducible refine yt ?_) | (with_reducible refine yr ?_) | (with_reducible refine yc ?_) | (with_reducible refine yu (s := 9) (t := 55) ?_) | (with_reducible refine xd ?_))
 rw [← hg2]
 clear hg2
 refine zc (zm (v := .agg #[.int .u32 (f : Int), .string ⟨#[]⟩, .string ⟨#[]⟩]) (vs := [.int .u32 (f : Int), .string ⟨#[]⟩, .string ⟨#[]⟩]) rfl rfl rfl rfl hbx rfl (by kernel_rfl) (by simp) (by simp; exact ⟨rfl, rfl⟩) #[.int .u32 (f : Int), .string ⟨#[]⟩, .string ⟨#[]⟩] (by simp) ?_)
 intro w3 hbx3 hg3 _
 have hb3 := hb2a.grown hg3 (sne (by omega))
 have hB3 := hB2a.grown hg3 hB2a.size (fun g hg => by injection hg with hg; omega)
 have hR3 := hR2a.kept hg3 (by rintro g ⟨rfl⟩ ⟨_, h⟩; omega)
 clear hbx hb2a hB2a hR2a hg3
 go_wp2_with (with_reducible refine h_A ?_)
 refine (hn2 _ _ _ _ hR3).mono ?_
 rintro e w4 ⟨rfl, hR4, hg4⟩
 have hbx4 := hbx3.grown hg4 (sne (by omega))
 have hb4 := hb3.grown hg4 (sne (by omega))
 have hB4 := hB3.grown hg4 hB3.size (fun g hg => by injection hg with hg; omega)
 clear hn2 hR3 hbx3 hb3 hB3 hg4
 go_wp2_with (first | (with_reducible refine zT ?_) | (with_reducible refine yt ?_) | (with_reducible refine yr ?_) | (with_reducible refine yc ?_) | (with_reducible refine yu (s := 9) (t := 55) ?_) | (with_reducible refine xd ?_))
 refine zc (zm (v := .string (str s1)) (vs := [.string (str s1)]) rfl rfl rfl rfl hbx4 rfl (by kernel_rfl) (by simp) (by simp; rfl) #[.int .u32 (f : Int), .string (str s1), .string ⟨#[]⟩] (by simp) ?_)
 intro w5 hbx5 hg5 _
 have hb5 := hb4.grown hg5 (sne (by omega))
 have hB5 := hB4.grown hg5 hB4.size (fun g hg => by injection hg with hg; omega)
 have hR5 := hR4.kept hg5 (by rintro g ⟨rfl⟩ ⟨_, h⟩; omega)
 clear hbx4 hb4 hB4 hR4 hg5
 go_wp2_with (with_reducible refine h_A ?_)
 refine (hn3 _ _ _ _ hR5).mono ?_
 rintro e w6 ⟨rfl, hR6, hg6⟩
 have hbx6 := hbx5.grown hg6 (sne (by omega))
 have hb6 := hb5.grown hg6 (sne (by omega))
 have hB6 := hB5.grown hg6 hB5.size (fun g hg => by injection hg with hg; omega)
 clear hn3 hR5 hbx5 hb5 hB5 hg6
 go_wp2_with (first | (with_reducible refine zT ?_) | (with_reducible refine yt ?_) | (with_reducible refine yr ?_) | (with_reducible refine yc ?_) | (with_reducible refine yu (s := 9) (t := 55) ?_) | (with_reducible refine xd ?_))
 refine zc (zm (v := .string (str s2)) (vs := [.string (str s2)]) rfl rfl rfl rfl hbx6 rfl (by kernel_rfl) (by simp) (by simp; rfl) #[.int .u32 (f : Int), .string (str s1), .string (str s2)] (by simp) ?_)
 intro w7 hbx7 hg7 _
 have hb7 := hb6.grown hg7 (sne (by omega))
 have hB7 := hB6.grown hg7 hB6.size (fun g hg => by injection hg with hg; omega)
 have hR7 := hR6.kept hg7 (by rintro g ⟨rfl⟩ ⟨_, h⟩; omega)
 clear hbx6 hb6 hB6 hR6 hg7
 go_wp2_with (with_reducible refine h_A ?_)
 refine (zY hR7).mono ?_
 rintro e w8 ⟨rfl, rfl⟩
 cases b3
 ·have k0 := hbx7.c0
  have k1 := hbx7.c1
  have k2 := hbx7.c2
  go_wp2_with (with_reducible refine h_A ?_)
  cases hok : Xd.ok ⟨f, s1, s2⟩
  ·have HF := Lib.hid (show GR = (xd00, 0, 40) by rw [HG.out, if_neg (by simp), if_neg (by rw [hok]; simp)])
   rw [Xd.err_no hok] at hck
   clear HG hok
   refine (hck _).mono ?_
   rintro e w9 ⟨rfl, hB9⟩
   have hb9 := hb7.below hB9
   have hB09 := hB7.trans (hB9.mono hB7.size)
   go_wp2_with (first | (with_reducible refine zT ?_) | (with_reducible refine yt ?_) | (with_reducible refine yr ?_) | (with_reducible refine yc ?_) | (with_reducible refine yu (s := 9) (t := 55) ?_) | (with_reducible refine xd ?_))
   refine zc (zm (v := .agg zx) (vs := zx.toList) rfl rfl rfl rfl hb9 rfl (by kernel_rfl) (by decide) (by decide) zx rfl ?_)
   intro wz hbz hgz _
   have hBz := Below.grown hB09 hgz (Below.size hB09) (fun g hg => by injection hg with hg; omega)
   go_wp2_with (with_reducible refine h_A ?_)
   (try simp only [Exit.inBlock, Exit.then])
   refine zS rfl hbz rfl rfl rfl Tryz.underlying73 rfl (by kernel_rfl) rfl ?_
   rw [HF.out, K3]
   exact ⟨rfl, hBz⟩
  ·have HF := Lib.hid (show GR = (⟨f, s1, s2⟩, l.length - l3.length, 0) by rw [HG.out, if_neg (by simp), if_pos hok])
   rw [Xd.err_ok hok] at hck
   clear HG hok
   refine (hck _).mono ?_
   rintro e w9 ⟨rfl, hB9⟩
   have hb9 := hb7.below hB9
   have hbx9 := hbx7.below hB9
   have hR9 := hR7.below hB9
   have hB09 := hB7.trans (hB9.mono hB7.size)
   clear hb7 hbx7 hR7 hB7 hB9 hck k0 k1 k2
   have hz9 := hb9.lt
   have hS : (Box w9.drew g2 73 #[.int .u32 (f : Int), .string (str s1), .string (str s2)] ∧ Rdr (fun g => N1 ≤ g ∧ g < w1.heap.size) w9.drew (.pointer (some ⟨rb, 0, none⟩)) (some vb) l3 false) ∧ Below w.heap.size w w9.drew := ⟨⟨hbx9, hR9.drew⟩, za hB09 1⟩
   have hb10 : Box w9.drew w.heap.size 73 #[.int .u32 0, .string ⟨#[]⟩, .string ⟨#[]⟩] := hb9
   have hsub : IntKind.i64.wrap ((n : Int) - (l3.length : Int)) = ((l.length - l3.length : Nat) : Int) := by rw [IntWalk.i64_in _ ⟨by omega, by omega⟩]; omega
   go_wp2_with (with_reducible refine h_A ?_)
   refine zD (fun wx : World => (Box wx g2 73 #[.int .u32 (f : Int), .string (str s1), .string (str s2)] ∧ Rdr (fun g => N1 ≤ g ∧ g < w1.heap.size) wx (.pointer (some ⟨rb, 0, none⟩)) (some vb) l3 false) ∧ Below w.heap.size w wx) (by kernel_rfl) ?_
   clear hb9 hbx9 hR9 hB09 hz9
   generalize w9.drew = wd at *
   refine zv 0 (v := ?_) rfl (by kernel_rfl) (by kernel_rfl) (by kernel_rfl) hS rfl ?_ ?_
   rotate_left
   ·intro wS hSw; have k0 := hSw.1.1.cell (j := 0) rfl; have k1 := hSw.1.1.cell (j := 1) rfl; have k2 := hSw.1.1.cell (j := 2) rfl; go_simp; (with_reducible rfl)
   simp only [List.getElem_toArray, List.getElem_cons_zero, Act.put, List.setIfInBounds_toArray, List.set_cons_zero, List.set_cons_succ]
   refine rg_t 1 hS ?_
   simp only [g_S, Act.put]
   refine rg_t 2 hS ?_
   simp only [g_S, Act.put]
   refine rg_t 3 hS ?_
   simp only [g_S, Act.put]
   refine zi 4 rfl (by kernel_rfl) rfl (fun K hK => ?_)
   go_simp
   refine (yh hS.1.2).mono ?_
   rintro e we ⟨rfl, rfl⟩
   refine hK _ _ hS ?_; clear hK K
   refine rg_t 5 hS ?_
   simp only [g_S, Act.put]
   refine zi 6 rfl (by kernel_rfl) rfl (fun K hK => ?_)
   refine zM (v := .agg #[.int .u32 (f : Int), .string (str s1), .string (str s2)]) (vs := [.int .u32 (f : Int), .string (str s1), .string (str s2)]) rfl rfl rfl hb10 rfl (by kernel_rfl) (by simp) (by simp; exact ⟨rfl, rfl, rfl⟩) #[.int .u32 (f : Int), .string (str s1), .string (str s2)] (by simp) ?_
   intro wz hbz hgz _
   have hS2 : (Box wz g2 73 #[.int .u32 (f : Int), .string (str s1), .string (str s2)] ∧ Rdr (fun g => N1 ≤ g ∧ g < w1.heap.size) wz (.pointer (some ⟨rb, 0, none⟩)) (some vb) l3 false) ∧ Below w.heap.size w wz := ⟨⟨hS.1.1.grown hgz (sne (by omega)), hS.1.2.kept hgz (by rintro g ⟨rfl⟩ ⟨h, _⟩; omega)⟩, hS.2.grown hgz hS.2.size (fun g hg => by injection hg with hg; omega)⟩
   refine hK _ _ hS2 ?_
   clear hK K
   refine rg_t 7 hS2 ?_
   simp only [g_S, Act.put]
   refine rg_t 8 hS2 ?_
   simp only [g_S, Act.put]
   refine zK (by kernel_rfl) ?_
   go_wp2_with (with_reducible refine h_A ?_)
   (try simp only [Exit.inBlock, Exit.then])
   refine zS rfl hbz rfl rfl rfl Tryz.underlying73 rfl (by kernel_rfl) rfl ?_
   rw [HF.out]
   simp only [hnl]
   exact ⟨rfl, hS2.2⟩
 ·have HF := Lib.hid (show GR = (xd00, 0, 4) by rw [HG.out, if_pos rfl])
  clear HG
  go_wp2_with (first | (with_reducible refine zT ?_) | (with_reducible refine yt ?_) | (with_reducible refine yr ?_) | (with_reducible refine yc ?_) | (with_reducible refine yu (s := 9) (t := 55) ?_) | (with_reducible refine xd ?_))
  refine zc (zm (v := .agg zx) (vs := zx.toList) rfl rfl rfl rfl hb7 rfl (by kernel_rfl) (by decide) (by decide) zx rfl ?_)
  intro wz hbz hgz _
  have hBz := Below.grown hB7 hgz (Below.size hB7) (fun g hg => by injection hg with hg; omega)
  go_wp2_with (with_reducible refine h_A ?_)
  (try simp only [Exit.inBlock, Exit.then])
  refine zS rfl hbz rfl rfl rfl Tryz.underlying73 rfl (by kernel_rfl) rfl ?_
  rw [HF.out, K3]
  exact ⟨rfl, hBz⟩
end Go.PH
end
section
namespace Go.PH
open Go.RowKit Go.Proofs Go.ChangeShapes Go.WideShapes Go.ChangeAt Go.Deep
variable {H : Type} {enc : TypeId × Value → H} {W : World}
end Go.PH
end

/- Texts laid together: MdPutG. -/
import Derived.Test.YtfbkameikhgciaaGreatDoorMg08
import Derived.Test.YtfbkameikhgciaaGreatDoorMg15
import Derived.Test.YtfbkameikhgciaaGreatDoorMg21
import Derived.Test.YtfbkameikhgciaaGreatDoorMg27
import Derived.Test.YtfbkameikhgciaaGreatDoorMg28
set_option linter.all false
set_option linter.unusedSimpArgs false
set_option linter.unusedVariables false
set_option maxRecDepth 20000
set_option maxHeartbeats 8000000
section
namespace Go.PH
open Go.RowKit Go.Proofs
theorem RA.under {w w' : World} {B : Nat} {a : Ag} {h : AH} (ha : RA w (fun g => g < B) a h) (hB : Below B w w') : RA w' (fun g => g < B) a h := ha.keep (fun g hg => hB.block g hg) hB.size
def xd0 : Xd := ⟨0, [], []⟩
def ag0 (is : Bool) : Ag := ⟨is, 0, [], xd0, [], vl0⟩
def ah0 : AH := ⟨none, 0, ⟨none, 0, none, 0⟩⟩
theorem RA.zero (w : World) (F : Nat → Prop) (is : Bool) : RA w F (ag0 is) ah0 := ⟨(by show (0 : Nat) < _; decide), Nat.zero_le _, ⟨(by show (0 : Nat) < _; decide), Nat.zero_le _, Nat.zero_le _⟩, RdX.nil _ _ _ _ _ (Nat.zero_le _), (fun a ha => absurd ha (by show ¬ a ∈ ([] : List Sp); simp)), Nat.zero_le _, RV.zero _ _⟩
def agN (a : Ag) : Ag := ⟨true, a.n, [], xd0, [], vl0⟩
def agS (a : Ag) : Ag := ⟨true, 0, a.s, xd0, [], vl0⟩
def agX (a : Ag) : Ag := ⟨true, 0, [], a.x, [], vl0⟩
def agQ (a : Ag) : Ag := ⟨true, 0, [], xd0, a.q, vl0⟩
def agX2 (a : Ag) : Ag := ⟨true, 0, [], xd0, [], a.v⟩
def ahQ (h : AH) : AH := ⟨h.A, h.c, ⟨none, 0, none, 0⟩⟩
def ahV (h : AH) : AH := ⟨none, 0, h.h⟩
section
variable {w : World} {F : Nat → Prop} {a : Ag} {h : AH}
theorem RA.ofN (ha : RA w F a h) : RA w F (agN a) ah0 := ⟨ha.n, (RA.zero w F true).s, (RA.zero w F true).x, (RA.zero w F true).q, (RA.zero w F true).ok, (RA.zero w F true).c, (RA.zero w F true).v⟩
theorem RA.ofS (ha : RA w F a h) : RA w F (agS a) ah0 := ⟨(RA.zero w F true).n, ha.s, (RA.zero w F true).x, (RA.zero w F true).q, (RA.zero w F true).ok, (RA.zero w F true).c, (RA.zero w F true).v⟩
theorem RA.ofX (ha : RA w F a h) : RA w F (agX a) ah0 := ⟨(RA.zero w F true).n, (RA.zero w F true).s, ha.x, (RA.zero w F true).q, (RA.zero w F true).ok, (RA.zero w F true).c, (RA.zero w F true).v⟩
theorem RA.ofQ (ha : RA w F a h) : RA w F (agQ a) (ahQ h) := ⟨(RA.zero w F true).n, (RA.zero w F true).s, (RA.zero w F true).x, ha.q, ha.ok, ha.c, (RA.zero w F true).v⟩
theorem RA.ofV (ha : RA w F a h) : RA w F (agX2 a) (ahV h) := ⟨(RA.zero w F true).n, (RA.zero w F true).s, (RA.zero w F true).x, (RA.zero w F true).q, (RA.zero w F true).ok, (RA.zero w F true).c, ha.v⟩
end
theorem kN (s : List UInt8) : (zF [] s 1).length ≤ 2000000 := by
 by_cases h : zw s.length 1 = 0
 ·have hs : s.length < 256 := by
   unfold zw at h
   simp at h
   exact h
  rw [yp h]
  simp only [List.length_append, zn, List.length_nil]
  show 0 + 1 + s.length ≤ _
  omega
 ·rw [yE h]; simp
theorem kO (s : List UInt8) : (zF [] s 2).length ≤ 2000000 := by
 by_cases h : zw s.length 2 = 0
 ·have hs : s.length < 65536 := by
   unfold zw at h
   simp at h
   exact h
  rw [yp h]
  simp only [List.length_append, zn, List.length_nil]
  show 0 + 2 + s.length ≤ _
  omega
 ·rw [yE h]; simp
theorem kP (x : Xd) : x.put.length ≤ 2000000 := by
 cases h : x.ok
 ·rw [Xd.put_no h]; simp
 ·rw [Xd.put_ok h, Xd.bytes_length]
  have := (Xd.ok_iff x).1 h
  omega
theorem kQ (l : List Sp) : (yQ l).length ≤ 2000000 := by
 unfold yQ
 split
 ·simp only [List.length_append, zn, kW]; omega
 ·simp
theorem Z0 (v : Vl) : (vlP v).length ≤ 2000000 := by
 unfold vlP
 split
 ·rename_i h
  obtain ⟨hc, hm⟩ := kR h
  have := YD 200 hm hc
  omega
 ·simp
def PutG (w : World) (base : Nat) (row : Option Nat) (ok : Bool) (l : List UInt8) (e : Ending) (w' : World) : Prop := ∃ A2 n2 c2, e = .returned (.tuple #[.slice A2 n2 c2, .bool ok]) ∧ Below base w w' ∧ KB w w' row ∧ (ok = true → n2 = l.length ∧ OwnB w' base A2 n2 c2 l)
theorem zai (a : Ag) (h : AH) (base : Nat) (A : Option Addr) (n c : Nat) (l : List UInt8) (w : World) (hown : OwnB w base A n c l) (hbase : base ≤ w.heap.size) (hn : n ≤ 100000000) (ha : RA w (fun g => g < base) a h) :
  Calls Tryz.prog 71 #[.slice A n c, .int .u8 98, .agg (agV a h)] w (PutG w base (blk A) (zI a (ag0 a.is)) (l ++ [])) := by
 have hsm : ∀ W, Below base w W → Calls Tryz.prog 106 #[.agg #[.bool a.is, .int .u64 (a.n : Int), .string (str a.s), .int .u32 (a.x.fmt : Int), .string (str a.x.glob), .string (str a.x.bran), .slice h.A a.q.length h.c, .int .u8 (a.v.kind : Int), .int .u64 (a.v.n : Int), .string (str a.v.s), .slice h.h.A1 a.v.keys.length h.h.c1, .slice h.h.A2 a.v.list.length h.h.c2], .agg #[.bool a.is, .int .u64 0, .string ⟨#[]⟩, .int .u32 0, .string ⟨#[]⟩, .string ⟨#[]⟩, .slice none 0 0, .int .u8 0, .int .u64 0, .string ⟨#[]⟩, .slice none 0 0, .slice none 0 0]] W (fun e w' => e = .returned (.bool (zI a (ag0 a.is))) ∧ Below W.heap.size W w') := fun W hW => yI a (ag0 a.is) h ah0 W ((ha.under hW).mono (fun g hg => Nat.lt_of_lt_of_le hg (Nat.le_trans hbase hW.size))) (((RA.zero w _ a.is : RA w (fun g => g < base) (ag0 a.is) ah0).under hW).mono (fun g hg => Nat.lt_of_lt_of_le hg (Nat.le_trans hbase hW.size)))
 generalize hsr : zI a (ag0 a.is) = sr at hsm
 have HSM := Lib.hid hsm
 clear hsm
 obtain ⟨ab, rb, v0, hqa, hqr, hqv, hba, hbr, hB0⟩ := yV w #[.bool a.is, .int .u64 (a.n : Int), .string (str a.s), .int .u32 (a.x.fmt : Int), .string (str a.x.glob), .string (str a.x.bran), .slice h.A a.q.length h.c, .int .u8 (a.v.kind : Int), .int .u64 (a.v.n : Int), .string (str a.v.s), .slice h.h.A1 a.v.keys.length h.h.c1, .slice h.h.A2 a.v.list.length h.h.c2] #[.bool true, .int .u64 0, .string ⟨#[]⟩, .int .u32 0, .string ⟨#[]⟩, .string ⟨#[]⟩, .slice none 0 0, .int .u8 0, .int .u64 0, .string ⟨#[]⟩, .slice none 0 0, .slice none 0 0] 80
 have hab : w.heap.size ≤ ab := by omega
 have har : ab < rb := by omega
 have hblk : ∀ g, blk A = some g → g < ab := fun g hg => by have := (hown.blk_lt hg).2; omega
 have hbas : ∀ g, blk A = some g → base ≤ g := fun g hg => (hown.blk_lt hg).1
 have hown0 := zg hown hB0
 have hB0b : Below w.heap.size w v0 := hB0
 have hrv := hbr.lt
 have hrv1 := hrv
 have hnl : l.length = n := RdB.length hown.rd
 unfold agV
 have HA := Lib.hid ha
 clear ha
 go_enter Tryz.func71, Tryz.ntmps71
 go_upto_region 2 with fail
 rw [← hqr, ← hqa, ← hqv]
 clear hqa hqr hqv hown hB0
 have hba1 := hba
 have hbr1 := hbr
 have hown1 := hown0
 have hB1 := hB0b
 have ho1 : OwnB v0 v0.heap.size none 0 0 [] := Own.none_ _ _ _ _
 clear hba hbr hown0 hB0b
 have x0 := hba1.c0
 have x1 := hba1.c1
 have x2 := hba1.c2
 have x3 := hba1.c3
 have x4 := hba1.c4
 have x5 := hba1.c5
 have x6 := hba1.c6
 have x7 := hba1.c7
 have x8 := hba1.c8
 have x9 := hba1.c9
 have xA := hba1.c10
 have xB := hba1.c11
 go_wp2_with (with_reducible refine h_B ?_)
 refine zc (zm (v := .bool a.is) (vs := [.bool a.is]) rfl rfl rfl rfl hbr1 rfl (by kernel_rfl) (by simp) (by intro u hu; simp at hu; rcases hu with rfl <;> rfl) #[.bool a.is, .int .u64 0, .string ⟨#[]⟩, .int .u32 0, .string ⟨#[]⟩, .string ⟨#[]⟩, .slice none 0 0, .int .u8 0, .int .u64 0, .string ⟨#[]⟩, .slice none 0 0, .slice none 0 0] (by simp) ?_)
 intro w2 hbr2 hg2 _
 have hba2 := hba1.grown hg2 (sne (by omega))
 have hown2 := zf hown1 hg2 (fun g hg e => by injection e with e; have := hblk g hg; omega)
 have ho2 := zf ho1 hg2 (fun g hg e => by injection e with e; have := (ho1.blk_lt hg).1; omega)
 have hB2 := hB1.grown hg2 hB1.size (fun g hg => by injection hg with hg; omega)
 have hs2 := Nat.le_trans hbase hB2.size
 clear hba1 hbr1 hown1 ho1 hg2 hB1
 clear x0 x1 x2 x3 x4 x5 x6 x7 x8 x9 xA xB
 have x0 := hba2.c0
 have x1 := hba2.c1
 have x2 := hba2.c2
 have x3 := hba2.c3
 have x4 := hba2.c4
 have x5 := hba2.c5
 have x6 := hba2.c6
 have x7 := hba2.c7
 have x8 := hba2.c8
 have x9 := hba2.c9
 have xA := hba2.c10
 have xB := hba2.c11
 have y0 := hbr2.c0
 have y1 := hbr2.c1
 have y2 := hbr2.c2
 have y3 := hbr2.c3
 have y4 := hbr2.c4
 have y5 := hbr2.c5
 have y6 := hbr2.c6
 have y7 := hbr2.c7
 have y8 := hbr2.c8
 have y9 := hbr2.c9
 have yA := hbr2.c10
 have yB := hbr2.c11
 go_wp2_with (with_reducible refine h_B ?_)
 refine zc (yn slB rfl rfl rfl rfl hown2 ho2.rd (zU _) (by omega) (by unfold maxLen; omega) hs2 ?_)
 intro A3 c3 w3 ho3 hg3 hb3
 have hba3 := hba2.grown hg3 (by intro e; have := hblk _ e.symm; omega)
 have hbr3 := hbr2.grown hg3 (by intro e; have := hblk _ e.symm; omega)
 have hB3 := (hB2.mono hbase).grown hg3 hs2 (fun g hg => hbas g hg)
 have hK3 : KB w w3 (blk A) := ⟨Nat.le_trans hB2.size hg3.size, fun g hg hne => (hg3.block g (Nat.lt_of_lt_of_le hg hB2.size) (fun e => hne e.symm)).trans (hB2.block g hg)⟩
 clear x0 x1 x2 x3 x4 x5 x6 x7 x8 x9 xA xB
 clear y0 y1 y2 y3 y4 y5 y6 y7 y8 y9 yA yB
 clear hba2 hbr2 hown2 ho2 hg3 hB2 hb3
 have x0 := hba3.c0
 have x1 := hba3.c1
 have x2 := hba3.c2
 have x3 := hba3.c3
 have x4 := hba3.c4
 have x5 := hba3.c5
 have x6 := hba3.c6
 have x7 := hba3.c7
 have x8 := hba3.c8
 have x9 := hba3.c9
 have xA := hba3.c10
 have xB := hba3.c11
 have y0 := hbr3.c0
 have y1 := hbr3.c1
 have y2 := hbr3.c2
 have y3 := hbr3.c3
 have y4 := hbr3.c4
 have y5 := hbr3.c5
 have y6 := hbr3.c6
 have y7 := hbr3.c7
 have y8 := hbr3.c8
 have y9 := hbr3.c9
 have yA := hbr3.c10
 have yB := hbr3.c11
 have hsm := HSM.out w3 hB3
 go_wp2_with (with_reducible refine h_B ?_)
 refine hsm.mono ?_
 rintro e w4 ⟨rfl, hB4⟩
 have ho4 := zg ho3 hB4
 have hB5 := hB3.trans (hB4.mono (Nat.le_trans hbase hB3.size))
 have hK5 : KB w w4 (blk A) := ⟨Nat.le_trans hK3.1 hB4.size, fun g hg hne => (hB4.block g (Nat.lt_of_lt_of_le hg hK3.1)).trans (hK3.2 g hg hne)⟩
 clear hba3 hbr3 ho3 hB3 hB4 hK3 hsm
 clear x0 x1 x2 x3 x4 x5 x6 x7 x8 x9 xA xB
 clear y0 y1 y2 y3 y4 y5 y6 y7 y8 y9 yA yB
 go_wp2_with (with_reducible refine h_A ?_)
 go_ret2
 exact ⟨A3, _, c3, rfl, hB5, hK5, fun _ => ⟨by simp [hnl], (by have := ho4; rw [← List.map_append] at this; exact this)⟩⟩
--TREE
theorem zaj (a : Ag) (h : AH) (base : Nat) (A : Option Addr) (n c : Nat) (l : List UInt8) (w : World) (hown : OwnB w base A n c l) (hbase : base ≤ w.heap.size) (hn : n ≤ 100000000) (ha : RA w (fun g => g < base) a h) :
  Calls Tryz.prog 71 #[.slice A n c, .int .u8 115, .agg (agV a h)] w (PutG w base (blk A) (decide (zw a.s.length 1 = 0) && zI a (agS a)) (l ++ zF [] a.s 1)) := by
 have hml : (zF [] a.s 1).length ≤ 2000000 := kN _
 have hpt := fun W (hW : Below w.heap.size w W) => yF none 0 0 [] a.s 1 W (Rd.nil _ _ _ _ (by simp [maxLen]) _) ha.s (by omega)
 have hsm : ∀ W, Below base w W → Calls Tryz.prog 106 #[.agg #[.bool a.is, .int .u64 (a.n : Int), .string (str a.s), .int .u32 (a.x.fmt : Int), .string (str a.x.glob), .string (str a.x.bran), .slice h.A a.q.length h.c, .int .u8 (a.v.kind : Int), .int .u64 (a.v.n : Int), .string (str a.v.s), .slice h.h.A1 a.v.keys.length h.h.c1, .slice h.h.A2 a.v.list.length h.h.c2], .agg #[.bool true, .int .u64 0, .string (str a.s), .int .u32 0, .string ⟨#[]⟩, .string ⟨#[]⟩, .slice none 0 0, .int .u8 0, .int .u64 0, .string ⟨#[]⟩, .slice none 0 0, .slice none 0 0]] W (fun e w' => e = .returned (.bool (zI a (agS a))) ∧ Below W.heap.size W w') := fun W hW => yI a (agS a) h ah0 W ((ha.under hW).mono (fun g hg => Nat.lt_of_lt_of_le hg (Nat.le_trans hbase hW.size))) (((RA.ofS ha : RA w (fun g => g < base) (agS a) ah0).under hW).mono (fun g hg => Nat.lt_of_lt_of_le hg (Nat.le_trans hbase hW.size)))
 generalize hsr : zI a (agS a) = sr at hsm
 have HSM := Lib.hid hsm
 clear hsm
 generalize zF [] a.s 1 = M at *
 generalize zw a.s.length 1 = E at *
 skip
 have HPT := Lib.hid hpt
 clear hpt
 obtain ⟨ok, hok⟩ : ∃ ok, ok = (decide (E = 0) && sr) := ⟨_, rfl⟩
 rw [← hok]
 have HOK := Lib.hid hok
 clear hok
 obtain ⟨ab, rb, v0, hqa, hqr, hqv, hba, hbr, hB0⟩ := yV w #[.bool a.is, .int .u64 (a.n : Int), .string (str a.s), .int .u32 (a.x.fmt : Int), .string (str a.x.glob), .string (str a.x.bran), .slice h.A a.q.length h.c, .int .u8 (a.v.kind : Int), .int .u64 (a.v.n : Int), .string (str a.v.s), .slice h.h.A1 a.v.keys.length h.h.c1, .slice h.h.A2 a.v.list.length h.h.c2] #[.bool true, .int .u64 0, .string ⟨#[]⟩, .int .u32 0, .string ⟨#[]⟩, .string ⟨#[]⟩, .slice none 0 0, .int .u8 0, .int .u64 0, .string ⟨#[]⟩, .slice none 0 0, .slice none 0 0] 80
 have hab : w.heap.size ≤ ab := by omega
 have har : ab < rb := by omega
 have hblk : ∀ g, blk A = some g → g < ab := fun g hg => by have := (hown.blk_lt hg).2; omega
 have hbas : ∀ g, blk A = some g → base ≤ g := fun g hg => (hown.blk_lt hg).1
 have hown0 := zg hown hB0
 have hB0b : Below w.heap.size w v0 := hB0
 have hrv := hbr.lt
 have hrv1 := hrv
 have hnl : l.length = n := RdB.length hown.rd
 unfold agV
 have HA := Lib.hid ha
 clear ha
 go_enter Tryz.func71, Tryz.ntmps71
 go_upto_region 2 with fail
 rw [← hqr, ← hqa, ← hqv]
 clear hqa hqr hqv hown hB0
 have hpt := HPT.out v0 hB0b
 have x0 := hba.c0
 have x1 := hba.c1
 have x2 := hba.c2
 have x3 := hba.c3
 have x4 := hba.c4
 have x5 := hba.c5
 have x6 := hba.c6
 have x7 := hba.c7
 have x8 := hba.c8
 have x9 := hba.c9
 have xA := hba.c10
 have xB := hba.c11
 go_wp2_with (with_reducible refine h_B ?_)
 refine hpt.mono ?_
 rintro e w1 ⟨A1, c1, rfl, ho1, hB1'⟩
 have hba1 := hba.below hB1'
 have hbr1 := hbr.below hB1'
 have hown1 := zg hown0 hB1'
 have hB1 := hB0b.trans (hB1'.mono hB0b.size)
 have hrv1 : rb < v0.heap.size := hrv
 clear hba hbr hown0 hB0b hB1' hpt HPT
 clear x0 x1 x2 x3 x4 x5 x6 x7 x8 x9 xA xB
 have x0 := hba1.c0
 have x1 := hba1.c1
 have x2 := hba1.c2
 have x3 := hba1.c3
 have x4 := hba1.c4
 have x5 := hba1.c5
 have x6 := hba1.c6
 have x7 := hba1.c7
 have x8 := hba1.c8
 have x9 := hba1.c9
 have xA := hba1.c10
 have xB := hba1.c11
 go_wp2_with (with_reducible refine h_B ?_)
 refine zc (zm (v := .string (str a.s)) (vs := [.string (str a.s)]) rfl rfl rfl rfl hbr1 rfl (by kernel_rfl) (by simp) (by intro u hu; simp at hu; rcases hu with rfl <;> rfl) #[.bool true, .int .u64 0, .string (str a.s), .int .u32 0, .string ⟨#[]⟩, .string ⟨#[]⟩, .slice none 0 0, .int .u8 0, .int .u64 0, .string ⟨#[]⟩, .slice none 0 0, .slice none 0 0] (by simp) ?_)
 intro w2 hbr2 hg2 _
 have hba2 := hba1.grown hg2 (sne (by omega))
 have hown2 := zf hown1 hg2 (fun g hg e => by injection e with e; have := hblk g hg; omega)
 have ho2 := zf ho1 hg2 (fun g hg e => by injection e with e; have := (ho1.blk_lt hg).1; omega)
 have hB2 := hB1.grown hg2 hB1.size (fun g hg => by injection hg with hg; omega)
 have hs2 := Nat.le_trans hbase hB2.size
 clear hba1 hbr1 hown1 ho1 hg2 hB1
 clear x0 x1 x2 x3 x4 x5 x6 x7 x8 x9 xA xB
 have x0 := hba2.c0
 have x1 := hba2.c1
 have x2 := hba2.c2
 have x3 := hba2.c3
 have x4 := hba2.c4
 have x5 := hba2.c5
 have x6 := hba2.c6
 have x7 := hba2.c7
 have x8 := hba2.c8
 have x9 := hba2.c9
 have xA := hba2.c10
 have xB := hba2.c11
 have y0 := hbr2.c0
 have y1 := hbr2.c1
 have y2 := hbr2.c2
 have y3 := hbr2.c3
 have y4 := hbr2.c4
 have y5 := hbr2.c5
 have y6 := hbr2.c6
 have y7 := hbr2.c7
 have y8 := hbr2.c8
 have y9 := hbr2.c9
 have yA := hbr2.c10
 have yB := hbr2.c11
 go_wp2_with (with_reducible refine h_B ?_)
 refine zc (yn slB rfl rfl rfl rfl hown2 ho2.rd (zU _) (by omega) (by unfold maxLen; omega) hs2 ?_)
 intro A3 c3 w3 ho3 hg3 hb3
 have hba3 := hba2.grown hg3 (by intro e; have := hblk _ e.symm; omega)
 have hbr3 := hbr2.grown hg3 (by intro e; have := hblk _ e.symm; omega)
 have hB3 := (hB2.mono hbase).grown hg3 hs2 (fun g hg => hbas g hg)
 have hK3 : KB w w3 (blk A) := ⟨Nat.le_trans hB2.size hg3.size, fun g hg hne => (hg3.block g (Nat.lt_of_lt_of_le hg hB2.size) (fun e => hne e.symm)).trans (hB2.block g hg)⟩
 clear x0 x1 x2 x3 x4 x5 x6 x7 x8 x9 xA xB
 clear y0 y1 y2 y3 y4 y5 y6 y7 y8 y9 yA yB
 clear hba2 hbr2 hown2 ho2 hg3 hB2 hb3
 have x0 := hba3.c0
 have x1 := hba3.c1
 have x2 := hba3.c2
 have x3 := hba3.c3
 have x4 := hba3.c4
 have x5 := hba3.c5
 have x6 := hba3.c6
 have x7 := hba3.c7
 have x8 := hba3.c8
 have x9 := hba3.c9
 have xA := hba3.c10
 have xB := hba3.c11
 have y0 := hbr3.c0
 have y1 := hbr3.c1
 have y2 := hbr3.c2
 have y3 := hbr3.c3
 have y4 := hbr3.c4
 have y5 := hbr3.c5
 have y6 := hbr3.c6
 have y7 := hbr3.c7
 have y8 := hbr3.c8
 have y9 := hbr3.c9
 have yA := hbr3.c10
 have yB := hbr3.c11
 by_cases hE : E = 0
 ·obtain rfl : ok = sr := by rw [HOK.out]; simp [hE]
  have ge : (E == 0) = true := by simp [hE]
  clear hE
  have hsm := HSM.out w3 hB3
  go_wp2_with (with_reducible refine h_B ?_)
  refine hsm.mono ?_
  rintro e w4 ⟨rfl, hB4⟩
  have ho4 := zg ho3 hB4
  have hB5 := hB3.trans (hB4.mono (Nat.le_trans hbase hB3.size))
  have hK5 : KB w w4 (blk A) := ⟨Nat.le_trans hK3.1 hB4.size, fun g hg hne => (hB4.block g (Nat.lt_of_lt_of_le hg hK3.1)).trans (hK3.2 g hg hne)⟩
  clear hba3 hbr3 ho3 hB3 hB4 hK3 hsm
  clear x0 x1 x2 x3 x4 x5 x6 x7 x8 x9 xA xB
  clear y0 y1 y2 y3 y4 y5 y6 y7 y8 y9 yA yB
  go_wp2_with (with_reducible refine h_A ?_)
  go_ret2
  exact ⟨A3, _, c3, rfl, hB5, hK5, fun _ => ⟨by simp [hnl], (by have := ho4; rw [← List.map_append] at this; exact this)⟩⟩
 ·obtain rfl : ok = false := by rw [HOK.out]; simp [hE]
  have ge : (E == 0) = false := by simp [hE]
  clear hE
  go_wp2_with (with_reducible refine h_B ?_)
  go_ret2
  exact ⟨A3, _, c3, rfl, hB3, hK3, fun e => absurd e (by simp)⟩
theorem zak (a : Ag) (h : AH) (base : Nat) (A : Option Addr) (n c : Nat) (l : List UInt8) (w : World) (hown : OwnB w base A n c l) (hbase : base ≤ w.heap.size) (hn : n ≤ 100000000) (ha : RA w (fun g => g < base) a h) :
  Calls Tryz.prog 71 #[.slice A n c, .int .u8 116, .agg (agV a h)] w (PutG w base (blk A) (decide (zw a.s.length 2 = 0) && zI a (agS a)) (l ++ zF [] a.s 2)) := by
 have hml : (zF [] a.s 2).length ≤ 2000000 := kO _
 have hpt := fun W (hW : Below w.heap.size w W) => yF none 0 0 [] a.s 2 W (Rd.nil _ _ _ _ (by simp [maxLen]) _) ha.s (by omega)
 have hsm : ∀ W, Below base w W → Calls Tryz.prog 106 #[.agg #[.bool a.is, .int .u64 (a.n : Int), .string (str a.s), .int .u32 (a.x.fmt : Int), .string (str a.x.glob), .string (str a.x.bran), .slice h.A a.q.length h.c, .int .u8 (a.v.kind : Int), .int .u64 (a.v.n : Int), .string (str a.v.s), .slice h.h.A1 a.v.keys.length h.h.c1, .slice h.h.A2 a.v.list.length h.h.c2], .agg #[.bool true, .int .u64 0, .string (str a.s), .int .u32 0, .string ⟨#[]⟩, .string ⟨#[]⟩, .slice none 0 0, .int .u8 0, .int .u64 0, .string ⟨#[]⟩, .slice none 0 0, .slice none 0 0]] W (fun e w' => e = .returned (.bool (zI a (agS a))) ∧ Below W.heap.size W w') := fun W hW => yI a (agS a) h ah0 W ((ha.under hW).mono (fun g hg => Nat.lt_of_lt_of_le hg (Nat.le_trans hbase hW.size))) (((RA.ofS ha : RA w (fun g => g < base) (agS a) ah0).under hW).mono (fun g hg => Nat.lt_of_lt_of_le hg (Nat.le_trans hbase hW.size)))
 generalize hsr : zI a (agS a) = sr at hsm
 have HSM := Lib.hid hsm
 clear hsm
 generalize zF [] a.s 2 = M at *
 generalize zw a.s.length 2 = E at *
 skip
 have HPT := Lib.hid hpt
 clear hpt
 obtain ⟨ok, hok⟩ : ∃ ok, ok = (decide (E = 0) && sr) := ⟨_, rfl⟩
 rw [← hok]
 have HOK := Lib.hid hok
 clear hok
 obtain ⟨ab, rb, v0, hqa, hqr, hqv, hba, hbr, hB0⟩ := yV w #[.bool a.is, .int .u64 (a.n : Int), .string (str a.s), .int .u32 (a.x.fmt : Int), .string (str a.x.glob), .string (str a.x.bran), .slice h.A a.q.length h.c, .int .u8 (a.v.kind : Int), .int .u64 (a.v.n : Int), .string (str a.v.s), .slice h.h.A1 a.v.keys.length h.h.c1, .slice h.h.A2 a.v.list.length h.h.c2] #[.bool true, .int .u64 0, .string ⟨#[]⟩, .int .u32 0, .string ⟨#[]⟩, .string ⟨#[]⟩, .slice none 0 0, .int .u8 0, .int .u64 0, .string ⟨#[]⟩, .slice none 0 0, .slice none 0 0] 80
 have hab : w.heap.size ≤ ab := by omega
 have har : ab < rb := by omega
 have hblk : ∀ g, blk A = some g → g < ab := fun g hg => by have := (hown.blk_lt hg).2; omega
 have hbas : ∀ g, blk A = some g → base ≤ g := fun g hg => (hown.blk_lt hg).1
 have hown0 := zg hown hB0
 have hB0b : Below w.heap.size w v0 := hB0
 have hrv := hbr.lt
 have hrv1 := hrv
 have hnl : l.length = n := RdB.length hown.rd
 unfold agV
 have HA := Lib.hid ha
 clear ha
 go_enter Tryz.func71, Tryz.ntmps71
 go_upto_region 2 with fail
 rw [← hqr, ← hqa, ← hqv]
 clear hqa hqr hqv hown hB0
 have hpt := HPT.out v0 hB0b
 have x0 := hba.c0
 have x1 := hba.c1
 have x2 := hba.c2
 have x3 := hba.c3
 have x4 := hba.c4
 have x5 := hba.c5
 have x6 := hba.c6
 have x7 := hba.c7
 have x8 := hba.c8
 have x9 := hba.c9
 have xA := hba.c10
 have xB := hba.c11
 go_wp2_with (with_reducible refine h_B ?_)
 refine hpt.mono ?_
 rintro e w1 ⟨A1, c1, rfl, ho1, hB1'⟩
 have hba1 := hba.below hB1'
 have hbr1 := hbr.below hB1'
 have hown1 := zg hown0 hB1'
 have hB1 := hB0b.trans (hB1'.mono hB0b.size)
 have hrv1 : rb < v0.heap.size := hrv
 clear hba hbr hown0 hB0b hB1' hpt HPT
 clear x0 x1 x2 x3 x4 x5 x6 x7 x8 x9 xA xB
 have x0 := hba1.c0
 have x1 := hba1.c1
 have x2 := hba1.c2
 have x3 := hba1.c3
 have x4 := hba1.c4
 have x5 := hba1.c5
 have x6 := hba1.c6
 have x7 := hba1.c7
 have x8 := hba1.c8
 have x9 := hba1.c9
 have xA := hba1.c10
 have xB := hba1.c11
 go_wp2_with (with_reducible refine h_B ?_)
 refine zc (zm (v := .string (str a.s)) (vs := [.string (str a.s)]) rfl rfl rfl rfl hbr1 rfl (by kernel_rfl) (by simp) (by intro u hu; simp at hu; rcases hu with rfl <;> rfl) #[.bool true, .int .u64 0, .string (str a.s), .int .u32 0, .string ⟨#[]⟩, .string ⟨#[]⟩, .slice none 0 0, .int .u8 0, .int .u64 0, .string ⟨#[]⟩, .slice none 0 0, .slice none 0 0] (by simp) ?_)
 intro w2 hbr2 hg2 _
 have hba2 := hba1.grown hg2 (sne (by omega))
 have hown2 := zf hown1 hg2 (fun g hg e => by injection e with e; have := hblk g hg; omega)
 have ho2 := zf ho1 hg2 (fun g hg e => by injection e with e; have := (ho1.blk_lt hg).1; omega)
 have hB2 := hB1.grown hg2 hB1.size (fun g hg => by injection hg with hg; omega)
 have hs2 := Nat.le_trans hbase hB2.size
 clear hba1 hbr1 hown1 ho1 hg2 hB1
 clear x0 x1 x2 x3 x4 x5 x6 x7 x8 x9 xA xB
 have x0 := hba2.c0
 have x1 := hba2.c1
 have x2 := hba2.c2
 have x3 := hba2.c3
 have x4 := hba2.c4
 have x5 := hba2.c5
 have x6 := hba2.c6
 have x7 := hba2.c7
 have x8 := hba2.c8
 have x9 := hba2.c9
 have xA := hba2.c10
 have xB := hba2.c11
 have y0 := hbr2.c0
 have y1 := hbr2.c1
 have y2 := hbr2.c2
 have y3 := hbr2.c3
 have y4 := hbr2.c4
 have y5 := hbr2.c5
 have y6 := hbr2.c6
 have y7 := hbr2.c7
 have y8 := hbr2.c8
 have y9 := hbr2.c9
 have yA := hbr2.c10
 have yB := hbr2.c11
 go_wp2_with (with_reducible refine h_B ?_)
 refine zc (yn slB rfl rfl rfl rfl hown2 ho2.rd (zU _) (by omega) (by unfold maxLen; omega) hs2 ?_)
 intro A3 c3 w3 ho3 hg3 hb3
 have hba3 := hba2.grown hg3 (by intro e; have := hblk _ e.symm; omega)
 have hbr3 := hbr2.grown hg3 (by intro e; have := hblk _ e.symm; omega)
 have hB3 := (hB2.mono hbase).grown hg3 hs2 (fun g hg => hbas g hg)
 have hK3 : KB w w3 (blk A) := ⟨Nat.le_trans hB2.size hg3.size, fun g hg hne => (hg3.block g (Nat.lt_of_lt_of_le hg hB2.size) (fun e => hne e.symm)).trans (hB2.block g hg)⟩
 clear x0 x1 x2 x3 x4 x5 x6 x7 x8 x9 xA xB
 clear y0 y1 y2 y3 y4 y5 y6 y7 y8 y9 yA yB
 clear hba2 hbr2 hown2 ho2 hg3 hB2 hb3
 have x0 := hba3.c0
 have x1 := hba3.c1
 have x2 := hba3.c2
 have x3 := hba3.c3
 have x4 := hba3.c4
 have x5 := hba3.c5
 have x6 := hba3.c6
 have x7 := hba3.c7
 have x8 := hba3.c8
 have x9 := hba3.c9
 have xA := hba3.c10
 have xB := hba3.c11
 have y0 := hbr3.c0
 have y1 := hbr3.c1
 have y2 := hbr3.c2
 have y3 := hbr3.c3
 have y4 := hbr3.c4
 have y5 := hbr3.c5
 have y6 := hbr3.c6
 have y7 := hbr3.c7
 have y8 := hbr3.c8
 have y9 := hbr3.c9
 have yA := hbr3.c10
 have yB := hbr3.c11
 by_cases hE : E = 0
 ·obtain rfl : ok = sr := by rw [HOK.out]; simp [hE]
  have ge : (E == 0) = true := by simp [hE]
  clear hE
  have hsm := HSM.out w3 hB3
  go_wp2_with (with_reducible refine h_B ?_)
  refine hsm.mono ?_
  rintro e w4 ⟨rfl, hB4⟩
  have ho4 := zg ho3 hB4
  have hB5 := hB3.trans (hB4.mono (Nat.le_trans hbase hB3.size))
  have hK5 : KB w w4 (blk A) := ⟨Nat.le_trans hK3.1 hB4.size, fun g hg hne => (hB4.block g (Nat.lt_of_lt_of_le hg hK3.1)).trans (hK3.2 g hg hne)⟩
  clear hba3 hbr3 ho3 hB3 hB4 hK3 hsm
  clear x0 x1 x2 x3 x4 x5 x6 x7 x8 x9 xA xB
  clear y0 y1 y2 y3 y4 y5 y6 y7 y8 y9 yA yB
  go_wp2_with (with_reducible refine h_A ?_)
  go_ret2
  exact ⟨A3, _, c3, rfl, hB5, hK5, fun _ => ⟨by simp [hnl], (by have := ho4; rw [← List.map_append] at this; exact this)⟩⟩
 ·obtain rfl : ok = false := by rw [HOK.out]; simp [hE]
  have ge : (E == 0) = false := by simp [hE]
  clear hE
  go_wp2_with (with_reducible refine h_B ?_)
  go_ret2
  exact ⟨A3, _, c3, rfl, hB3, hK3, fun e => absurd e (by simp)⟩
theorem zal (a : Ag) (h : AH) (base : Nat) (A : Option Addr) (n c : Nat) (l : List UInt8) (w : World) (hown : OwnB w base A n c l) (hbase : base ≤ w.heap.size) (hn : n ≤ 100000000) (ha : RA w (fun g => g < base) a h) :
  Calls Tryz.prog 71 #[.slice A n c, .int .u8 120, .agg (agV a h)] w (PutG w base (blk A) (decide (((a.x.err : Nat) : Int) = 0) && zI a (agX a)) (l ++ a.x.put)) := by
 have hml : (a.x.put).length ≤ 2000000 := kP _
 have hpt := fun W (hW : Below w.heap.size w W) => Jj a.x W ha.x
 have hsm : ∀ W, Below base w W → Calls Tryz.prog 106 #[.agg #[.bool a.is, .int .u64 (a.n : Int), .string (str a.s), .int .u32 (a.x.fmt : Int), .string (str a.x.glob), .string (str a.x.bran), .slice h.A a.q.length h.c, .int .u8 (a.v.kind : Int), .int .u64 (a.v.n : Int), .string (str a.v.s), .slice h.h.A1 a.v.keys.length h.h.c1, .slice h.h.A2 a.v.list.length h.h.c2], .agg #[.bool true, .int .u64 0, .string ⟨#[]⟩, .int .u32 (a.x.fmt : Int), .string (str a.x.glob), .string (str a.x.bran), .slice none 0 0, .int .u8 0, .int .u64 0, .string ⟨#[]⟩, .slice none 0 0, .slice none 0 0]] W (fun e w' => e = .returned (.bool (zI a (agX a))) ∧ Below W.heap.size W w') := fun W hW => yI a (agX a) h ah0 W ((ha.under hW).mono (fun g hg => Nat.lt_of_lt_of_le hg (Nat.le_trans hbase hW.size))) (((RA.ofX ha : RA w (fun g => g < base) (agX a) ah0).under hW).mono (fun g hg => Nat.lt_of_lt_of_le hg (Nat.le_trans hbase hW.size)))
 generalize hsr : zI a (agX a) = sr at hsm
 have HSM := Lib.hid hsm
 clear hsm
 generalize a.x.put = M at *
 generalize ((a.x.err : Nat) : Int) = E at *
 unfold xdV at hpt
 have HPT := Lib.hid hpt
 clear hpt
 obtain ⟨ok, hok⟩ : ∃ ok, ok = (decide (E = 0) && sr) := ⟨_, rfl⟩
 rw [← hok]
 have HOK := Lib.hid hok
 clear hok
 obtain ⟨ab, rb, v0, hqa, hqr, hqv, hba, hbr, hB0⟩ := yV w #[.bool a.is, .int .u64 (a.n : Int), .string (str a.s), .int .u32 (a.x.fmt : Int), .string (str a.x.glob), .string (str a.x.bran), .slice h.A a.q.length h.c, .int .u8 (a.v.kind : Int), .int .u64 (a.v.n : Int), .string (str a.v.s), .slice h.h.A1 a.v.keys.length h.h.c1, .slice h.h.A2 a.v.list.length h.h.c2] #[.bool true, .int .u64 0, .string ⟨#[]⟩, .int .u32 0, .string ⟨#[]⟩, .string ⟨#[]⟩, .slice none 0 0, .int .u8 0, .int .u64 0, .string ⟨#[]⟩, .slice none 0 0, .slice none 0 0] 80
 have hab : w.heap.size ≤ ab := by omega
 have har : ab < rb := by omega
 have hblk : ∀ g, blk A = some g → g < ab := fun g hg => by have := (hown.blk_lt hg).2; omega
 have hbas : ∀ g, blk A = some g → base ≤ g := fun g hg => (hown.blk_lt hg).1
 have hown0 := zg hown hB0
 have hB0b : Below w.heap.size w v0 := hB0
 have hrv := hbr.lt
 have hrv1 := hrv
 have hnl : l.length = n := RdB.length hown.rd
 unfold agV
 have HA := Lib.hid ha
 clear ha
 go_enter Tryz.func71, Tryz.ntmps71
 go_upto_region 2 with fail
 rw [← hqr, ← hqa, ← hqv]
 clear hqa hqr hqv hown hB0
 have hpt := HPT.out v0 hB0b
 have x0 := hba.c0
 have x1 := hba.c1
 have x2 := hba.c2
 have x3 := hba.c3
 have x4 := hba.c4
 have x5 := hba.c5
 have x6 := hba.c6
 have x7 := hba.c7
 have x8 := hba.c8
 have x9 := hba.c9
 have xA := hba.c10
 have xB := hba.c11
 go_wp2_with (with_reducible refine h_B ?_)
 refine hpt.mono ?_
 rintro e w1 ⟨A1, c1, rfl, ho1, hB1'⟩
 have hba1 := hba.below hB1'
 have hbr1 := hbr.below hB1'
 have hown1 := zg hown0 hB1'
 have hB1 := hB0b.trans (hB1'.mono hB0b.size)
 have hrv1 : rb < v0.heap.size := hrv
 clear hba hbr hown0 hB0b hB1' hpt HPT
 clear x0 x1 x2 x3 x4 x5 x6 x7 x8 x9 xA xB
 have x0 := hba1.c0
 have x1 := hba1.c1
 have x2 := hba1.c2
 have x3 := hba1.c3
 have x4 := hba1.c4
 have x5 := hba1.c5
 have x6 := hba1.c6
 have x7 := hba1.c7
 have x8 := hba1.c8
 have x9 := hba1.c9
 have xA := hba1.c10
 have xB := hba1.c11
 go_wp2_with (with_reducible refine h_B ?_)
 refine zc (zm (v := .agg #[.int .u32 (a.x.fmt : Int), .string (str a.x.glob), .string (str a.x.bran)]) (vs := [.int .u32 (a.x.fmt : Int), .string (str a.x.glob), .string (str a.x.bran)]) rfl rfl rfl rfl hbr1 rfl (by kernel_rfl) (by simp) (by intro u hu; simp at hu; rcases hu with rfl | rfl | rfl <;> rfl) #[.bool true, .int .u64 0, .string ⟨#[]⟩, .int .u32 (a.x.fmt : Int), .string (str a.x.glob), .string (str a.x.bran), .slice none 0 0, .int .u8 0, .int .u64 0, .string ⟨#[]⟩, .slice none 0 0, .slice none 0 0] (by simp) ?_)
 intro w2 hbr2 hg2 _
 have hba2 := hba1.grown hg2 (sne (by omega))
 have hown2 := zf hown1 hg2 (fun g hg e => by injection e with e; have := hblk g hg; omega)
 have ho2 := zf ho1 hg2 (fun g hg e => by injection e with e; have := (ho1.blk_lt hg).1; omega)
 have hB2 := hB1.grown hg2 hB1.size (fun g hg => by injection hg with hg; omega)
 have hs2 := Nat.le_trans hbase hB2.size
 clear hba1 hbr1 hown1 ho1 hg2 hB1
 clear x0 x1 x2 x3 x4 x5 x6 x7 x8 x9 xA xB
 have x0 := hba2.c0
 have x1 := hba2.c1
 have x2 := hba2.c2
 have x3 := hba2.c3
 have x4 := hba2.c4
 have x5 := hba2.c5
 have x6 := hba2.c6
 have x7 := hba2.c7
 have x8 := hba2.c8
 have x9 := hba2.c9
 have xA := hba2.c10
 have xB := hba2.c11
 have y0 := hbr2.c0
 have y1 := hbr2.c1
 have y2 := hbr2.c2
 have y3 := hbr2.c3
 have y4 := hbr2.c4
 have y5 := hbr2.c5
 have y6 := hbr2.c6
 have y7 := hbr2.c7
 have y8 := hbr2.c8
 have y9 := hbr2.c9
 have yA := hbr2.c10
 have yB := hbr2.c11
 go_wp2_with (with_reducible refine h_B ?_)
 refine zc (yn slB rfl rfl rfl rfl hown2 ho2.rd (zU _) (by omega) (by unfold maxLen; omega) hs2 ?_)
 intro A3 c3 w3 ho3 hg3 hb3
 have hba3 := hba2.grown hg3 (by intro e; have := hblk _ e.symm; omega)
 have hbr3 := hbr2.grown hg3 (by intro e; have := hblk _ e.symm; omega)
 have hB3 := (hB2.mono hbase).grown hg3 hs2 (fun g hg => hbas g hg)
 have hK3 : KB w w3 (blk A) := ⟨Nat.le_trans hB2.size hg3.size, fun g hg hne => (hg3.block g (Nat.lt_of_lt_of_le hg hB2.size) (fun e => hne e.symm)).trans (hB2.block g hg)⟩
 clear x0 x1 x2 x3 x4 x5 x6 x7 x8 x9 xA xB
 clear y0 y1 y2 y3 y4 y5 y6 y7 y8 y9 yA yB
 clear hba2 hbr2 hown2 ho2 hg3 hB2 hb3
 have x0 := hba3.c0
 have x1 := hba3.c1
 have x2 := hba3.c2
 have x3 := hba3.c3
 have x4 := hba3.c4
 have x5 := hba3.c5
 have x6 := hba3.c6
 have x7 := hba3.c7
 have x8 := hba3.c8
 have x9 := hba3.c9
 have xA := hba3.c10
 have xB := hba3.c11
 have y0 := hbr3.c0
 have y1 := hbr3.c1
 have y2 := hbr3.c2
 have y3 := hbr3.c3
 have y4 := hbr3.c4
 have y5 := hbr3.c5
 have y6 := hbr3.c6
 have y7 := hbr3.c7
 have y8 := hbr3.c8
 have y9 := hbr3.c9
 have yA := hbr3.c10
 have yB := hbr3.c11
 by_cases hE : E = 0
 ·obtain rfl : ok = sr := by rw [HOK.out]; simp [hE]
  have ge : (E == 0) = true := by simp [hE]
  clear hE
  have hsm := HSM.out w3 hB3
  go_wp2_with (with_reducible refine h_B ?_)
  refine hsm.mono ?_
  rintro e w4 ⟨rfl, hB4⟩
  have ho4 := zg ho3 hB4
  have hB5 := hB3.trans (hB4.mono (Nat.le_trans hbase hB3.size))
  have hK5 : KB w w4 (blk A) := ⟨Nat.le_trans hK3.1 hB4.size, fun g hg hne => (hB4.block g (Nat.lt_of_lt_of_le hg hK3.1)).trans (hK3.2 g hg hne)⟩
  clear hba3 hbr3 ho3 hB3 hB4 hK3 hsm
  clear x0 x1 x2 x3 x4 x5 x6 x7 x8 x9 xA xB
  clear y0 y1 y2 y3 y4 y5 y6 y7 y8 y9 yA yB
  go_wp2_with (with_reducible refine h_A ?_)
  go_ret2
  exact ⟨A3, _, c3, rfl, hB5, hK5, fun _ => ⟨by simp [hnl], (by have := ho4; rw [← List.map_append] at this; exact this)⟩⟩
 ·obtain rfl : ok = false := by rw [HOK.out]; simp [hE]
  have ge : (E == 0) = false := by simp [hE]
  clear hE
  go_wp2_with (with_reducible refine h_B ?_)
  go_ret2
  exact ⟨A3, _, c3, rfl, hB3, hK3, fun e => absurd e (by simp)⟩
theorem zam (a : Ag) (h : AH) (base : Nat) (A : Option Addr) (n c : Nat) (l : List UInt8) (w : World) (hown : OwnB w base A n c l) (hbase : base ≤ w.heap.size) (hn : n ≤ 100000000) (ha : RA w (fun g => g < base) a h) :
  Calls Tryz.prog 71 #[.slice A n c, .int .u8 114, .agg (agV a h)] w (PutG w base (blk A) (decide (((yd a.q : Nat) : Int) = 0) && zI a (agQ a)) (l ++ yQ a.q)) := by
 have hml : (yQ a.q).length ≤ 2000000 := kQ _
 have hpt := fun W (hW : Below w.heap.size w W) => Jl h.A a.q.length h.c a.q w.heap.size W (ha.q.1.below hW) ha.ok hW.size ha.c
 have hsm : ∀ W, Below base w W → Calls Tryz.prog 106 #[.agg #[.bool a.is, .int .u64 (a.n : Int), .string (str a.s), .int .u32 (a.x.fmt : Int), .string (str a.x.glob), .string (str a.x.bran), .slice h.A a.q.length h.c, .int .u8 (a.v.kind : Int), .int .u64 (a.v.n : Int), .string (str a.v.s), .slice h.h.A1 a.v.keys.length h.h.c1, .slice h.h.A2 a.v.list.length h.h.c2], .agg #[.bool true, .int .u64 0, .string ⟨#[]⟩, .int .u32 0, .string ⟨#[]⟩, .string ⟨#[]⟩, .slice h.A a.q.length h.c, .int .u8 0, .int .u64 0, .string ⟨#[]⟩, .slice none 0 0, .slice none 0 0]] W (fun e w' => e = .returned (.bool (zI a (agQ a))) ∧ Below W.heap.size W w') := fun W hW => yI a (agQ a) h (ahQ h) W ((ha.under hW).mono (fun g hg => Nat.lt_of_lt_of_le hg (Nat.le_trans hbase hW.size))) (((RA.ofQ ha : RA w (fun g => g < base) (agQ a) (ahQ h)).under hW).mono (fun g hg => Nat.lt_of_lt_of_le hg (Nat.le_trans hbase hW.size)))
 generalize hsr : zI a (agQ a) = sr at hsm
 have HSM := Lib.hid hsm
 clear hsm
 generalize yQ a.q = M at *
 generalize ((yd a.q : Nat) : Int) = E at *
 skip
 have HPT := Lib.hid hpt
 clear hpt
 obtain ⟨ok, hok⟩ : ∃ ok, ok = (decide (E = 0) && sr) := ⟨_, rfl⟩
 rw [← hok]
 have HOK := Lib.hid hok
 clear hok
 obtain ⟨ab, rb, v0, hqa, hqr, hqv, hba, hbr, hB0⟩ := yV w #[.bool a.is, .int .u64 (a.n : Int), .string (str a.s), .int .u32 (a.x.fmt : Int), .string (str a.x.glob), .string (str a.x.bran), .slice h.A a.q.length h.c, .int .u8 (a.v.kind : Int), .int .u64 (a.v.n : Int), .string (str a.v.s), .slice h.h.A1 a.v.keys.length h.h.c1, .slice h.h.A2 a.v.list.length h.h.c2] #[.bool true, .int .u64 0, .string ⟨#[]⟩, .int .u32 0, .string ⟨#[]⟩, .string ⟨#[]⟩, .slice none 0 0, .int .u8 0, .int .u64 0, .string ⟨#[]⟩, .slice none 0 0, .slice none 0 0] 80
 have hab : w.heap.size ≤ ab := by omega
 have har : ab < rb := by omega
 have hblk : ∀ g, blk A = some g → g < ab := fun g hg => by have := (hown.blk_lt hg).2; omega
 have hbas : ∀ g, blk A = some g → base ≤ g := fun g hg => (hown.blk_lt hg).1
 have hown0 := zg hown hB0
 have hB0b : Below w.heap.size w v0 := hB0
 have hrv := hbr.lt
 have hrv1 := hrv
 have hnl : l.length = n := RdB.length hown.rd
 unfold agV
 have HA := Lib.hid ha
 clear ha
 go_enter Tryz.func71, Tryz.ntmps71
 go_upto_region 2 with fail
 rw [← hqr, ← hqa, ← hqv]
 clear hqa hqr hqv hown hB0
 have hpt := HPT.out v0 hB0b
 have x0 := hba.c0
 have x1 := hba.c1
 have x2 := hba.c2
 have x3 := hba.c3
 have x4 := hba.c4
 have x5 := hba.c5
 have x6 := hba.c6
 have x7 := hba.c7
 have x8 := hba.c8
 have x9 := hba.c9
 have xA := hba.c10
 have xB := hba.c11
 go_wp2_with (with_reducible refine h_B ?_)
 refine hpt.mono ?_
 rintro e w1 ⟨A1, c1, rfl, ho1, hB1'⟩
 have hba1 := hba.below hB1'
 have hbr1 := hbr.below hB1'
 have hown1 := zg hown0 hB1'
 have hB1 := hB0b.trans (hB1'.mono hB0b.size)
 have hrv1 : rb < v0.heap.size := hrv
 clear hba hbr hown0 hB0b hB1' hpt HPT
 clear x0 x1 x2 x3 x4 x5 x6 x7 x8 x9 xA xB
 have x0 := hba1.c0
 have x1 := hba1.c1
 have x2 := hba1.c2
 have x3 := hba1.c3
 have x4 := hba1.c4
 have x5 := hba1.c5
 have x6 := hba1.c6
 have x7 := hba1.c7
 have x8 := hba1.c8
 have x9 := hba1.c9
 have xA := hba1.c10
 have xB := hba1.c11
 go_wp2_with (with_reducible refine h_B ?_)
 refine zc (zm (v := .slice h.A a.q.length h.c) (vs := [.slice h.A a.q.length h.c]) rfl rfl rfl rfl hbr1 rfl (by kernel_rfl) (by simp) (by intro u hu; simp at hu; rcases hu with rfl <;> rfl) #[.bool true, .int .u64 0, .string ⟨#[]⟩, .int .u32 0, .string ⟨#[]⟩, .string ⟨#[]⟩, .slice h.A a.q.length h.c, .int .u8 0, .int .u64 0, .string ⟨#[]⟩, .slice none 0 0, .slice none 0 0] (by simp) ?_)
 intro w2 hbr2 hg2 _
 have hba2 := hba1.grown hg2 (sne (by omega))
 have hown2 := zf hown1 hg2 (fun g hg e => by injection e with e; have := hblk g hg; omega)
 have ho2 := zf ho1 hg2 (fun g hg e => by injection e with e; have := (ho1.blk_lt hg).1; omega)
 have hB2 := hB1.grown hg2 hB1.size (fun g hg => by injection hg with hg; omega)
 have hs2 := Nat.le_trans hbase hB2.size
 clear hba1 hbr1 hown1 ho1 hg2 hB1
 clear x0 x1 x2 x3 x4 x5 x6 x7 x8 x9 xA xB
 have x0 := hba2.c0
 have x1 := hba2.c1
 have x2 := hba2.c2
 have x3 := hba2.c3
 have x4 := hba2.c4
 have x5 := hba2.c5
 have x6 := hba2.c6
 have x7 := hba2.c7
 have x8 := hba2.c8
 have x9 := hba2.c9
 have xA := hba2.c10
 have xB := hba2.c11
 have y0 := hbr2.c0
 have y1 := hbr2.c1
 have y2 := hbr2.c2
 have y3 := hbr2.c3
 have y4 := hbr2.c4
 have y5 := hbr2.c5
 have y6 := hbr2.c6
 have y7 := hbr2.c7
 have y8 := hbr2.c8
 have y9 := hbr2.c9
 have yA := hbr2.c10
 have yB := hbr2.c11
 go_wp2_with (with_reducible refine h_B ?_)
 refine zc (yn slB rfl rfl rfl rfl hown2 ho2.rd (zU _) (by omega) (by unfold maxLen; omega) hs2 ?_)
 intro A3 c3 w3 ho3 hg3 hb3
 have hba3 := hba2.grown hg3 (by intro e; have := hblk _ e.symm; omega)
 have hbr3 := hbr2.grown hg3 (by intro e; have := hblk _ e.symm; omega)
 have hB3 := (hB2.mono hbase).grown hg3 hs2 (fun g hg => hbas g hg)
 have hK3 : KB w w3 (blk A) := ⟨Nat.le_trans hB2.size hg3.size, fun g hg hne => (hg3.block g (Nat.lt_of_lt_of_le hg hB2.size) (fun e => hne e.symm)).trans (hB2.block g hg)⟩
 clear x0 x1 x2 x3 x4 x5 x6 x7 x8 x9 xA xB
 clear y0 y1 y2 y3 y4 y5 y6 y7 y8 y9 yA yB
 clear hba2 hbr2 hown2 ho2 hg3 hB2 hb3
 have x0 := hba3.c0
 have x1 := hba3.c1
 have x2 := hba3.c2
 have x3 := hba3.c3
 have x4 := hba3.c4
 have x5 := hba3.c5
 have x6 := hba3.c6
 have x7 := hba3.c7
 have x8 := hba3.c8
 have x9 := hba3.c9
 have xA := hba3.c10
 have xB := hba3.c11
 have y0 := hbr3.c0
 have y1 := hbr3.c1
 have y2 := hbr3.c2
 have y3 := hbr3.c3
 have y4 := hbr3.c4
 have y5 := hbr3.c5
 have y6 := hbr3.c6
 have y7 := hbr3.c7
 have y8 := hbr3.c8
 have y9 := hbr3.c9
 have yA := hbr3.c10
 have yB := hbr3.c11
 by_cases hE : E = 0
 ·obtain rfl : ok = sr := by rw [HOK.out]; simp [hE]
  have ge : (E == 0) = true := by simp [hE]
  clear hE
  have hsm := HSM.out w3 hB3
  go_wp2_with (with_reducible refine h_B ?_)
  refine hsm.mono ?_
  rintro e w4 ⟨rfl, hB4⟩
  have ho4 := zg ho3 hB4
  have hB5 := hB3.trans (hB4.mono (Nat.le_trans hbase hB3.size))
  have hK5 : KB w w4 (blk A) := ⟨Nat.le_trans hK3.1 hB4.size, fun g hg hne => (hB4.block g (Nat.lt_of_lt_of_le hg hK3.1)).trans (hK3.2 g hg hne)⟩
  clear hba3 hbr3 ho3 hB3 hB4 hK3 hsm
  clear x0 x1 x2 x3 x4 x5 x6 x7 x8 x9 xA xB
  clear y0 y1 y2 y3 y4 y5 y6 y7 y8 y9 yA yB
  go_wp2_with (with_reducible refine h_A ?_)
  go_ret2
  exact ⟨A3, _, c3, rfl, hB5, hK5, fun _ => ⟨by simp [hnl], (by have := ho4; rw [← List.map_append] at this; exact this)⟩⟩
 ·obtain rfl : ok = false := by rw [HOK.out]; simp [hE]
  have ge : (E == 0) = false := by simp [hE]
  clear hE
  go_wp2_with (with_reducible refine h_B ?_)
  go_ret2
  exact ⟨A3, _, c3, rfl, hB3, hK3, fun e => absurd e (by simp)⟩
theorem zan (a : Ag) (h : AH) (base : Nat) (A : Option Addr) (n c : Nat) (l : List UInt8) (w : World) (hown : OwnB w base A n c l) (hbase : base ≤ w.heap.size) (hn : n ≤ 100000000) (ha : RA w (fun g => g < base) a h) (hT : UTabs w) :
  Calls Tryz.prog 71 #[.slice A n c, .int .u8 118, .agg (agV a h)] w (PutG w base (blk A) (decide (errV a.v = 0) && zI a (agX2 a)) (l ++ vlP a.v)) := by
 have hml : (vlP a.v).length ≤ 2000000 := Z0 _
 have hpt := fun W (hW : Below w.heap.size w W) => XP a.v h.h W ((ha.v.keep (fun g hg => hW.block g (Nat.lt_of_lt_of_le hg hbase)) hW.size).mono (fun g hg => Nat.lt_of_lt_of_le hg (Nat.le_trans hbase hW.size))) (hT.on hW)
 have hsm : ∀ W, Below base w W → Calls Tryz.prog 106 #[.agg #[.bool a.is, .int .u64 (a.n : Int), .string (str a.s), .int .u32 (a.x.fmt : Int), .string (str a.x.glob), .string (str a.x.bran), .slice h.A a.q.length h.c, .int .u8 (a.v.kind : Int), .int .u64 (a.v.n : Int), .string (str a.v.s), .slice h.h.A1 a.v.keys.length h.h.c1, .slice h.h.A2 a.v.list.length h.h.c2], .agg #[.bool true, .int .u64 0, .string ⟨#[]⟩, .int .u32 0, .string ⟨#[]⟩, .string ⟨#[]⟩, .slice none 0 0, .int .u8 (a.v.kind : Int), .int .u64 (a.v.n : Int), .string (str a.v.s), .slice h.h.A1 a.v.keys.length h.h.c1, .slice h.h.A2 a.v.list.length h.h.c2]] W (fun e w' => e = .returned (.bool (zI a (agX2 a))) ∧ Below W.heap.size W w') := fun W hW => yI a (agX2 a) h (ahV h) W ((ha.under hW).mono (fun g hg => Nat.lt_of_lt_of_le hg (Nat.le_trans hbase hW.size))) (((RA.ofV ha : RA w (fun g => g < base) (agX2 a) (ahV h)).under hW).mono (fun g hg => Nat.lt_of_lt_of_le hg (Nat.le_trans hbase hW.size)))
 generalize hsr : zI a (agX2 a) = sr at hsm
 have HSM := Lib.hid hsm
 clear hsm
 generalize vlP a.v = M at *
 generalize errV a.v = E at *
 unfold vlV at hpt
 have HPT := Lib.hid hpt
 clear hpt
 obtain ⟨ok, hok⟩ : ∃ ok, ok = (decide (E = 0) && sr) := ⟨_, rfl⟩
 rw [← hok]
 have HOK := Lib.hid hok
 clear hok
 obtain ⟨ab, rb, v0, hqa, hqr, hqv, hba, hbr, hB0⟩ := yV w #[.bool a.is, .int .u64 (a.n : Int), .string (str a.s), .int .u32 (a.x.fmt : Int), .string (str a.x.glob), .string (str a.x.bran), .slice h.A a.q.length h.c, .int .u8 (a.v.kind : Int), .int .u64 (a.v.n : Int), .string (str a.v.s), .slice h.h.A1 a.v.keys.length h.h.c1, .slice h.h.A2 a.v.list.length h.h.c2] #[.bool true, .int .u64 0, .string ⟨#[]⟩, .int .u32 0, .string ⟨#[]⟩, .string ⟨#[]⟩, .slice none 0 0, .int .u8 0, .int .u64 0, .string ⟨#[]⟩, .slice none 0 0, .slice none 0 0] 80
 have hab : w.heap.size ≤ ab := by omega
 have har : ab < rb := by omega
 have hblk : ∀ g, blk A = some g → g < ab := fun g hg => by have := (hown.blk_lt hg).2; omega
 have hbas : ∀ g, blk A = some g → base ≤ g := fun g hg => (hown.blk_lt hg).1
 have hown0 := zg hown hB0
 have hB0b : Below w.heap.size w v0 := hB0
 have hrv := hbr.lt
 have hrv1 := hrv
 have hnl : l.length = n := RdB.length hown.rd
 unfold agV
 have HA := Lib.hid ha
 clear ha
 go_enter Tryz.func71, Tryz.ntmps71
 go_upto_region 2 with fail
 rw [← hqr, ← hqa, ← hqv]
 clear hqa hqr hqv hown hB0
 have hpt := HPT.out v0 hB0b
 have x0 := hba.c0
 have x1 := hba.c1
 have x2 := hba.c2
 have x3 := hba.c3
 have x4 := hba.c4
 have x5 := hba.c5
 have x6 := hba.c6
 have x7 := hba.c7
 have x8 := hba.c8
 have x9 := hba.c9
 have xA := hba.c10
 have xB := hba.c11
 go_wp2_with (with_reducible refine h_B ?_)
 refine hpt.mono ?_
 rintro e w1 ⟨A1, c1, rfl, ho1, hB1'⟩
 have hba1 := hba.below hB1'
 have hbr1 := hbr.below hB1'
 have hown1 := zg hown0 hB1'
 have hB1 := hB0b.trans (hB1'.mono hB0b.size)
 have hrv1 : rb < v0.heap.size := hrv
 clear hba hbr hown0 hB0b hB1' hpt HPT
 clear x0 x1 x2 x3 x4 x5 x6 x7 x8 x9 xA xB
 have x0 := hba1.c0
 have x1 := hba1.c1
 have x2 := hba1.c2
 have x3 := hba1.c3
 have x4 := hba1.c4
 have x5 := hba1.c5
 have x6 := hba1.c6
 have x7 := hba1.c7
 have x8 := hba1.c8
 have x9 := hba1.c9
 have xA := hba1.c10
 have xB := hba1.c11
 go_wp2_with (with_reducible refine h_B ?_)
 refine zc (zm (v := .agg #[.int .u8 (a.v.kind : Int), .int .u64 (a.v.n : Int), .string (str a.v.s), .slice h.h.A1 a.v.keys.length h.h.c1, .slice h.h.A2 a.v.list.length h.h.c2]) (vs := [.int .u8 (a.v.kind : Int), .int .u64 (a.v.n : Int), .string (str a.v.s), .slice h.h.A1 a.v.keys.length h.h.c1, .slice h.h.A2 a.v.list.length h.h.c2]) rfl rfl rfl rfl hbr1 rfl (by kernel_rfl) (by simp) (by intro u hu; simp at hu; rcases hu with rfl | rfl | rfl | rfl | rfl <;> rfl) #[.bool true, .int .u64 0, .string ⟨#[]⟩, .int .u32 0, .string ⟨#[]⟩, .string ⟨#[]⟩, .slice none 0 0, .int .u8 (a.v.kind : Int), .int .u64 (a.v.n : Int), .string (str a.v.s), .slice h.h.A1 a.v.keys.length h.h.c1, .slice h.h.A2 a.v.list.length h.h.c2] (by simp) ?_)
 intro w2 hbr2 hg2 _
 have hba2 := hba1.grown hg2 (sne (by omega))
 have hown2 := zf hown1 hg2 (fun g hg e => by injection e with e; have := hblk g hg; omega)
 have ho2 := zf ho1 hg2 (fun g hg e => by injection e with e; have := (ho1.blk_lt hg).1; omega)
 have hB2 := hB1.grown hg2 hB1.size (fun g hg => by injection hg with hg; omega)
 have hs2 := Nat.le_trans hbase hB2.size
 clear hba1 hbr1 hown1 ho1 hg2 hB1
 clear x0 x1 x2 x3 x4 x5 x6 x7 x8 x9 xA xB
 have x0 := hba2.c0
 have x1 := hba2.c1
 have x2 := hba2.c2
 have x3 := hba2.c3
 have x4 := hba2.c4
 have x5 := hba2.c5
 have x6 := hba2.c6
 have x7 := hba2.c7
 have x8 := hba2.c8
 have x9 := hba2.c9
 have xA := hba2.c10
 have xB := hba2.c11
 have y0 := hbr2.c0
 have y1 := hbr2.c1
 have y2 := hbr2.c2
 have y3 := hbr2.c3
 have y4 := hbr2.c4
 have y5 := hbr2.c5
 have y6 := hbr2.c6
 have y7 := hbr2.c7
 have y8 := hbr2.c8
 have y9 := hbr2.c9
 have yA := hbr2.c10
 have yB := hbr2.c11
 go_wp2_with (with_reducible refine h_B ?_)
 refine zc (yn slB rfl rfl rfl rfl hown2 ho2.rd (zU _) (by omega) (by unfold maxLen; omega) hs2 ?_)
 intro A3 c3 w3 ho3 hg3 hb3
 have hba3 := hba2.grown hg3 (by intro e; have := hblk _ e.symm; omega)
 have hbr3 := hbr2.grown hg3 (by intro e; have := hblk _ e.symm; omega)
 have hB3 := (hB2.mono hbase).grown hg3 hs2 (fun g hg => hbas g hg)
 have hK3 : KB w w3 (blk A) := ⟨Nat.le_trans hB2.size hg3.size, fun g hg hne => (hg3.block g (Nat.lt_of_lt_of_le hg hB2.size) (fun e => hne e.symm)).trans (hB2.block g hg)⟩
 clear x0 x1 x2 x3 x4 x5 x6 x7 x8 x9 xA xB
 clear y0 y1 y2 y3 y4 y5 y6 y7 y8 y9 yA yB
 clear hba2 hbr2 hown2 ho2 hg3 hB2 hb3
 have x0 := hba3.c0
 have x1 := hba3.c1
 have x2 := hba3.c2
 have x3 := hba3.c3
 have x4 := hba3.c4
 have x5 := hba3.c5
 have x6 := hba3.c6
 have x7 := hba3.c7
 have x8 := hba3.c8
 have x9 := hba3.c9
 have xA := hba3.c10
 have xB := hba3.c11
 have y0 := hbr3.c0
 have y1 := hbr3.c1
 have y2 := hbr3.c2
 have y3 := hbr3.c3
 have y4 := hbr3.c4
 have y5 := hbr3.c5
 have y6 := hbr3.c6
 have y7 := hbr3.c7
 have y8 := hbr3.c8
 have y9 := hbr3.c9
 have yA := hbr3.c10
 have yB := hbr3.c11
 by_cases hE : E = 0
 ·obtain rfl : ok = sr := by rw [HOK.out]; simp [hE]
  have ge : (E == 0) = true := by simp [hE]
  clear hE
  have hsm := HSM.out w3 hB3
  go_wp2_with (with_reducible refine h_B ?_)
  refine hsm.mono ?_
  rintro e w4 ⟨rfl, hB4⟩
  have ho4 := zg ho3 hB4
  have hB5 := hB3.trans (hB4.mono (Nat.le_trans hbase hB3.size))
  have hK5 : KB w w4 (blk A) := ⟨Nat.le_trans hK3.1 hB4.size, fun g hg hne => (hB4.block g (Nat.lt_of_lt_of_le hg hK3.1)).trans (hK3.2 g hg hne)⟩
  clear hba3 hbr3 ho3 hB3 hB4 hK3 hsm
  clear x0 x1 x2 x3 x4 x5 x6 x7 x8 x9 xA xB
  clear y0 y1 y2 y3 y4 y5 y6 y7 y8 y9 yA yB
  go_wp2_with (with_reducible refine h_A ?_)
  go_ret2
  exact ⟨A3, _, c3, rfl, hB5, hK5, fun _ => ⟨by simp [hnl], (by have := ho4; rw [← List.map_append] at this; exact this)⟩⟩
 ·obtain rfl : ok = false := by rw [HOK.out]; simp [hE]
  have ge : (E == 0) = false := by simp [hE]
  clear hE
  go_wp2_with (with_reducible refine h_B ?_)
  go_ret2
  exact ⟨A3, _, c3, rfl, hB3, hK3, fun e => absurd e (by simp)⟩
theorem zao (a : Ag) (h : AH) (base : Nat) (A : Option Addr) (n c : Nat) (l : List UInt8) (w : World) (hown : OwnB w base A n c l) (hbase : base ≤ w.heap.size) (hn : n ≤ 100000000) (ha : RA w (fun g => g < base) a h) (hv : a.n < 256) :
  Calls Tryz.prog 71 #[.slice A n c, .int .u8 110, .agg (agV a h)] w (PutG w base (blk A) (zI a (agN a)) (l ++ be 1 a.n)) := by
 have hM : puts [] a.n 1 = be 1 a.n := by unfold puts; rw [if_pos (by decide)]; rfl
 have hml : (be 1 a.n).length ≤ 4 := by simp [be]
 have hpt := fun W => zX none 0 0 [] a.n 1 W (Rd.nil _ _ _ _ (by simp [maxLen]) _) (by omega) (by omega)
 rw [hM] at hpt
 have hmk := fun W => run_makeMap (P := Tryz.prog) 186 W
 have hsm : ∀ W, Below base w W → Calls Tryz.prog 106 #[.agg #[.bool a.is, .int .u64 (a.n : Int), .string (str a.s), .int .u32 (a.x.fmt : Int), .string (str a.x.glob), .string (str a.x.bran), .slice h.A a.q.length h.c, .int .u8 (a.v.kind : Int), .int .u64 (a.v.n : Int), .string (str a.v.s), .slice h.h.A1 a.v.keys.length h.h.c1, .slice h.h.A2 a.v.list.length h.h.c2], .agg #[.bool true, .int .u64 (a.n : Int), .string ⟨#[]⟩, .int .u32 0, .string ⟨#[]⟩, .string ⟨#[]⟩, .slice none 0 0, .int .u8 0, .int .u64 0, .string ⟨#[]⟩, .slice none 0 0, .slice none 0 0]] W (fun e w' => e = .returned (.bool (zI a (agN a))) ∧ Below W.heap.size W w') := fun W hW => yI a (agN a) h ah0 W ((ha.under hW).mono (fun g hg => Nat.lt_of_lt_of_le hg (Nat.le_trans hbase hW.size))) (((RA.ofN ha : RA w (fun g => g < base) (agN a) ah0).under hW).mono (fun g hg => Nat.lt_of_lt_of_le hg (Nat.le_trans hbase hW.size)))
 generalize hsr : zI a (agN a) = sr at hsm
 have HSM := Lib.hid hsm
 clear hsm
 generalize be 1 a.n = M at *
 clear hM
 obtain ⟨ab, rb, v0, hqa, hqr, hqv, hba, hbr, hB0⟩ := yV w #[.bool a.is, .int .u64 (a.n : Int), .string (str a.s), .int .u32 (a.x.fmt : Int), .string (str a.x.glob), .string (str a.x.bran), .slice h.A a.q.length h.c, .int .u8 (a.v.kind : Int), .int .u64 (a.v.n : Int), .string (str a.v.s), .slice h.h.A1 a.v.keys.length h.h.c1, .slice h.h.A2 a.v.list.length h.h.c2] #[.bool true, .int .u64 0, .string ⟨#[]⟩, .int .u32 0, .string ⟨#[]⟩, .string ⟨#[]⟩, .slice none 0 0, .int .u8 0, .int .u64 0, .string ⟨#[]⟩, .slice none 0 0, .slice none 0 0] 80
 have hab : w.heap.size ≤ ab := by omega
 have har : ab < rb := by omega
 have hblk : ∀ g, blk A = some g → g < ab := fun g hg => by have := (hown.blk_lt hg).2; omega
 have hbas : ∀ g, blk A = some g → base ≤ g := fun g hg => (hown.blk_lt hg).1
 have hown0 := zg hown hB0
 have hB0b : Below w.heap.size w v0 := hB0
 have hrv := hbr.lt
 have hrv1 := hrv
 have hnl : l.length = n := RdB.length hown.rd
 unfold agV
 have HA := Lib.hid ha
 clear ha
 go_enter Tryz.func71, Tryz.ntmps71
 go_upto_region 2 with fail
 rw [← hqr, ← hqa, ← hqv]
 clear hqa hqr hqv hown hB0
 have hmap := World.ownsMap_made v0 Tryz.prog 5 (plainElem (H := Unit) Tryz.prog 3)
 have hba := hba.alloc (.map #[] 0)
 have hbr := hbr.alloc (.map #[] 0)
 have hown0 := hown0.alloc (.map #[] 0)
 have hB0b := hB0b.alloc hB0b.size (.map #[] 0)
 go_wp2_with (with_reducible refine h_M ?_)
 obtain ⟨mb, hmb⟩ : ∃ m, m = v0.heap.size := ⟨_, rfl⟩
 rw [← hmb] at hmap hrv ⊢
 clear hmb hmk
 generalize (v0.alloc (.map #[] 0)) = v1 at *
 refine zc (ze (H := Unit) _ rfl _ _ _ 186 rfl 5 3 zl Tryz.underlying186 (plainElem (H := Unit) Tryz.prog 3) _ _ _ rfl hmap (by simp [maxLen]) _ _ (.int .u8 110) rfl rfl (Maps.keyOf_int_mk Tryz.underlying5 (by decide)) (.lit (.int .i64 1)) [] (plainElem_int Tryz.underlying3 (by decide)) ?_)
 intro v2 hmap2 hgm
 have hba := hba.grown hgm (sne (by omega))
 have hbr := hbr.grown hgm (sne (by omega))
 have hown0 := zf hown0 hgm (fun g hg e => by injection e with e; have := hblk g hg; omega)
 have hB0b := hB0b.grown hgm hB0b.size (fun g hg => by injection hg with hg; omega)
 clear hmap hgm
 have hmap := hmap2
 clear hmap2
 go_wp2_with (with_reducible refine h_M ?_)
 refine zc (ze (H := Unit) _ rfl _ _ _ 186 rfl 5 3 zl Tryz.underlying186 (plainElem (H := Unit) Tryz.prog 3) _ _ _ rfl hmap (by simp [maxLen]) _ _ (.int .u8 119) rfl rfl (Maps.keyOf_int_mk Tryz.underlying5 (by decide)) (.lit (.int .i64 2)) [] (plainElem_int Tryz.underlying3 (by decide)) ?_)
 intro v3 hmap2 hgm
 have hba := hba.grown hgm (sne (by omega))
 have hbr := hbr.grown hgm (sne (by omega))
 have hown0 := zf hown0 hgm (fun g hg e => by injection e with e; have := hblk g hg; omega)
 have hB0b := hB0b.grown hgm hB0b.size (fun g hg => by injection hg with hg; omega)
 clear hmap hgm
 have hmap := hmap2
 clear hmap2
 go_wp2_with (with_reducible refine h_M ?_)
 refine zc (ze (H := Unit) _ rfl _ _ _ 186 rfl 5 3 zl Tryz.underlying186 (plainElem (H := Unit) Tryz.prog 3) _ _ _ rfl hmap (by simp [maxLen]) _ _ (.int .u8 100) rfl rfl (Maps.keyOf_int_mk Tryz.underlying5 (by decide)) (.lit (.int .i64 4)) [] (plainElem_int Tryz.underlying3 (by decide)) ?_)
 intro v4 hmap2 hgm
 have hba := hba.grown hgm (sne (by omega))
 have hbr := hbr.grown hgm (sne (by omega))
 have hown0 := zf hown0 hgm (fun g hg e => by injection e with e; have := hblk g hg; omega)
 have hB0b := hB0b.grown hgm hB0b.size (fun g hg => by injection hg with hg; omega)
 clear hmap hgm
 obtain ⟨cc, hrun, hat, _⟩ := hmap2.lookup_int (t := 186) zl Tryz.underlying186 Tryz.underlying3 (Tryz.zeroValue3 _) (key := .int .u8 110) (kl := .int .u8 110) (Maps.keyOf_int_mk Tryz.underlying5 (by decide))
 have hcc : DataW.lit (H := Unit) (.int .i64 1) = .lit (.int .i64 cc) := Eq.trans (by kernel_rfl) hat
 injection hcc with hcc
 injection hcc with _ hcc
 subst hcc
 clear hat
 have x0 := hba.c0
 have x1 := hba.c1
 have x2 := hba.c2
 have x3 := hba.c3
 have x4 := hba.c4
 have x5 := hba.c5
 have x6 := hba.c6
 have x7 := hba.c7
 have x8 := hba.c8
 have x9 := hba.c9
 have xA := hba.c10
 have xB := hba.c11
 go_wp2_with (with_reducible refine h_M ?_)
 refine (hpt _).mono ?_
 rintro e w1 ⟨A1, c1, rfl, ho1, hB1'⟩
 have hba1 := hba.below hB1'
 have hbr1 := hbr.below hB1'
 have hown1 := zg hown0 hB1'
 have hB1 := hB0b.trans (hB1'.mono hB0b.size)
 have hrv1 : rb < v4.heap.size := hbr.lt
 clear hba hbr hown0 hB0b hB1' hpt hrun hmap2
 clear x0 x1 x2 x3 x4 x5 x6 x7 x8 x9 xA xB
 have x0 := hba1.c0
 have x1 := hba1.c1
 have x2 := hba1.c2
 have x3 := hba1.c3
 have x4 := hba1.c4
 have x5 := hba1.c5
 have x6 := hba1.c6
 have x7 := hba1.c7
 have x8 := hba1.c8
 have x9 := hba1.c9
 have xA := hba1.c10
 have xB := hba1.c11
 go_wp2_with (with_reducible refine h_B ?_)
 refine zc (zm (v := .int .u64 (a.n : Int)) (vs := [.int .u64 (a.n : Int)]) rfl rfl rfl rfl hbr1 rfl (by kernel_rfl) (by simp) (by intro u hu; simp at hu; rcases hu with rfl <;> rfl) #[.bool true, .int .u64 (a.n : Int), .string ⟨#[]⟩, .int .u32 0, .string ⟨#[]⟩, .string ⟨#[]⟩, .slice none 0 0, .int .u8 0, .int .u64 0, .string ⟨#[]⟩, .slice none 0 0, .slice none 0 0] (by simp) ?_)
 intro w2 hbr2 hg2 _
 have hba2 := hba1.grown hg2 (sne (by omega))
 have hown2 := zf hown1 hg2 (fun g hg e => by injection e with e; have := hblk g hg; omega)
 have ho2 := zf ho1 hg2 (fun g hg e => by injection e with e; have := (ho1.blk_lt hg).1; omega)
 have hB2 := hB1.grown hg2 hB1.size (fun g hg => by injection hg with hg; omega)
 have hs2 := Nat.le_trans hbase hB2.size
 clear hba1 hbr1 hown1 ho1 hg2 hB1
 clear x0 x1 x2 x3 x4 x5 x6 x7 x8 x9 xA xB
 have x0 := hba2.c0
 have x1 := hba2.c1
 have x2 := hba2.c2
 have x3 := hba2.c3
 have x4 := hba2.c4
 have x5 := hba2.c5
 have x6 := hba2.c6
 have x7 := hba2.c7
 have x8 := hba2.c8
 have x9 := hba2.c9
 have xA := hba2.c10
 have xB := hba2.c11
 have y0 := hbr2.c0
 have y1 := hbr2.c1
 have y2 := hbr2.c2
 have y3 := hbr2.c3
 have y4 := hbr2.c4
 have y5 := hbr2.c5
 have y6 := hbr2.c6
 have y7 := hbr2.c7
 have y8 := hbr2.c8
 have y9 := hbr2.c9
 have yA := hbr2.c10
 have yB := hbr2.c11
 go_wp2_with (with_reducible refine h_B ?_)
 refine zc (yn slB rfl rfl rfl rfl hown2 ho2.rd (zU _) (by omega) (by unfold maxLen; omega) hs2 ?_)
 intro A3 c3 w3 ho3 hg3 hb3
 have hba3 := hba2.grown hg3 (by intro e; have := hblk _ e.symm; omega)
 have hbr3 := hbr2.grown hg3 (by intro e; have := hblk _ e.symm; omega)
 have hB3 := (hB2.mono hbase).grown hg3 hs2 (fun g hg => hbas g hg)
 have hK3 : KB w w3 (blk A) := ⟨Nat.le_trans hB2.size hg3.size, fun g hg hne => (hg3.block g (Nat.lt_of_lt_of_le hg hB2.size) (fun e => hne e.symm)).trans (hB2.block g hg)⟩
 clear x0 x1 x2 x3 x4 x5 x6 x7 x8 x9 xA xB
 clear y0 y1 y2 y3 y4 y5 y6 y7 y8 y9 yA yB
 clear hba2 hbr2 hown2 ho2 hg3 hB2 hb3
 have x0 := hba3.c0
 have x1 := hba3.c1
 have x2 := hba3.c2
 have x3 := hba3.c3
 have x4 := hba3.c4
 have x5 := hba3.c5
 have x6 := hba3.c6
 have x7 := hba3.c7
 have x8 := hba3.c8
 have x9 := hba3.c9
 have xA := hba3.c10
 have xB := hba3.c11
 have y0 := hbr3.c0
 have y1 := hbr3.c1
 have y2 := hbr3.c2
 have y3 := hbr3.c3
 have y4 := hbr3.c4
 have y5 := hbr3.c5
 have y6 := hbr3.c6
 have y7 := hbr3.c7
 have y8 := hbr3.c8
 have y9 := hbr3.c9
 have yA := hbr3.c10
 have yB := hbr3.c11
 have hsm := HSM.out w3 hB3
 go_wp2_with (with_reducible refine h_B ?_)
 refine hsm.mono ?_
 rintro e w4 ⟨rfl, hB4⟩
 have ho4 := zg ho3 hB4
 have hB5 := hB3.trans (hB4.mono (Nat.le_trans hbase hB3.size))
 have hK5 : KB w w4 (blk A) := ⟨Nat.le_trans hK3.1 hB4.size, fun g hg hne => (hB4.block g (Nat.lt_of_lt_of_le hg hK3.1)).trans (hK3.2 g hg hne)⟩
 clear hba3 hbr3 ho3 hB3 hB4 hK3 hsm
 clear x0 x1 x2 x3 x4 x5 x6 x7 x8 x9 xA xB
 clear y0 y1 y2 y3 y4 y5 y6 y7 y8 y9 yA yB
 go_wp2_with (with_reducible refine h_A ?_)
 go_ret2
 exact ⟨A3, _, c3, rfl, hB5, hK5, fun _ => ⟨by simp [hnl], (by have := ho4; rw [← List.map_append] at this; exact this)⟩⟩
theorem Q4 (a : Ag) (h : AH) (base : Nat) (A : Option Addr) (n c : Nat) (l : List UInt8) (w : World) (hown : OwnB w base A n c l) (hbase : base ≤ w.heap.size) (hn : n ≤ 100000000) (ha : RA w (fun g => g < base) a h) (hv : 256 ≤ a.n) :
  Calls Tryz.prog 71 #[.slice A n c, .int .u8 110, .agg (agV a h)] w (PutG w base (blk A) false (l ++ be 1 a.n)) := by
 have hnn := ha.n
 have hmk := fun W => run_makeMap (P := Tryz.prog) 186 W
 obtain ⟨ab, rb, v0, hqa, hqr, hqv, hba, hbr, hB0⟩ := yV w #[.bool a.is, .int .u64 (a.n : Int), .string (str a.s), .int .u32 (a.x.fmt : Int), .string (str a.x.glob), .string (str a.x.bran), .slice h.A a.q.length h.c, .int .u8 (a.v.kind : Int), .int .u64 (a.v.n : Int), .string (str a.v.s), .slice h.h.A1 a.v.keys.length h.h.c1, .slice h.h.A2 a.v.list.length h.h.c2] #[.bool true, .int .u64 0, .string ⟨#[]⟩, .int .u32 0, .string ⟨#[]⟩, .string ⟨#[]⟩, .slice none 0 0, .int .u8 0, .int .u64 0, .string ⟨#[]⟩, .slice none 0 0, .slice none 0 0] 80
 have hab : w.heap.size ≤ ab := by omega
 have har : ab < rb := by omega
 have hblk : ∀ g, blk A = some g → g < ab := fun g hg => by have := (hown.blk_lt hg).2; omega
 have hbas : ∀ g, blk A = some g → base ≤ g := fun g hg => (hown.blk_lt hg).1
 have hown0 := zg hown hB0
 have hB0b : Below w.heap.size w v0 := hB0
 have hrv := hbr.lt
 have hrv1 := hrv
 have hnl : l.length = n := RdB.length hown.rd
 unfold agV
 have HA := Lib.hid ha
 clear ha
 go_enter Tryz.func71, Tryz.ntmps71
 go_upto_region 2 with fail
 rw [← hqr, ← hqa, ← hqv]
 clear hqa hqr hqv hown hB0
 have hmap := World.ownsMap_made v0 Tryz.prog 5 (plainElem (H := Unit) Tryz.prog 3)
 have hba := hba.alloc (.map #[] 0)
 have hbr := hbr.alloc (.map #[] 0)
 have hown0 := hown0.alloc (.map #[] 0)
 have hB0b := hB0b.alloc hB0b.size (.map #[] 0)
 go_wp2_with (with_reducible refine h_M ?_)
 obtain ⟨mb, hmb⟩ : ∃ m, m = v0.heap.size := ⟨_, rfl⟩
 rw [← hmb] at hmap hrv ⊢
 clear hmb hmk
 generalize (v0.alloc (.map #[] 0)) = v1 at *
 refine zc (ze (H := Unit) _ rfl _ _ _ 186 rfl 5 3 zl Tryz.underlying186 (plainElem (H := Unit) Tryz.prog 3) _ _ _ rfl hmap (by simp [maxLen]) _ _ (.int .u8 110) rfl rfl (Maps.keyOf_int_mk Tryz.underlying5 (by decide)) (.lit (.int .i64 1)) [] (plainElem_int Tryz.underlying3 (by decide)) ?_)
 intro v2 hmap2 hgm
 have hba := hba.grown hgm (sne (by omega))
 have hbr := hbr.grown hgm (sne (by omega))
 have hown0 := zf hown0 hgm (fun g hg e => by injection e with e; have := hblk g hg; omega)
 have hB0b := hB0b.grown hgm hB0b.size (fun g hg => by injection hg with hg; omega)
 clear hmap hgm
 have hmap := hmap2
 clear hmap2
 go_wp2_with (with_reducible refine h_M ?_)
 refine zc (ze (H := Unit) _ rfl _ _ _ 186 rfl 5 3 zl Tryz.underlying186 (plainElem (H := Unit) Tryz.prog 3) _ _ _ rfl hmap (by simp [maxLen]) _ _ (.int .u8 119) rfl rfl (Maps.keyOf_int_mk Tryz.underlying5 (by decide)) (.lit (.int .i64 2)) [] (plainElem_int Tryz.underlying3 (by decide)) ?_)
 intro v3 hmap2 hgm
 have hba := hba.grown hgm (sne (by omega))
 have hbr := hbr.grown hgm (sne (by omega))
 have hown0 := zf hown0 hgm (fun g hg e => by injection e with e; have := hblk g hg; omega)
 have hB0b := hB0b.grown hgm hB0b.size (fun g hg => by injection hg with hg; omega)
 clear hmap hgm
 have hmap := hmap2
 clear hmap2
 go_wp2_with (with_reducible refine h_M ?_)
 refine zc (ze (H := Unit) _ rfl _ _ _ 186 rfl 5 3 zl Tryz.underlying186 (plainElem (H := Unit) Tryz.prog 3) _ _ _ rfl hmap (by simp [maxLen]) _ _ (.int .u8 100) rfl rfl (Maps.keyOf_int_mk Tryz.underlying5 (by decide)) (.lit (.int .i64 4)) [] (plainElem_int Tryz.underlying3 (by decide)) ?_)
 intro v4 hmap2 hgm
 have hba := hba.grown hgm (sne (by omega))
 have hbr := hbr.grown hgm (sne (by omega))
 have hown0 := zf hown0 hgm (fun g hg e => by injection e with e; have := hblk g hg; omega)
 have hB0b := hB0b.grown hgm hB0b.size (fun g hg => by injection hg with hg; omega)
 clear hmap hgm
 obtain ⟨cc, hrun, hat, _⟩ := hmap2.lookup_int (t := 186) zl Tryz.underlying186 Tryz.underlying3 (Tryz.zeroValue3 _) (key := .int .u8 110) (kl := .int .u8 110) (Maps.keyOf_int_mk Tryz.underlying5 (by decide))
 have hcc : DataW.lit (H := Unit) (.int .i64 1) = .lit (.int .i64 cc) := Eq.trans (by kernel_rfl) hat
 injection hcc with hcc
 injection hcc with _ hcc
 subst hcc
 clear hat
 have x0 := hba.c0
 have x1 := hba.c1
 have x2 := hba.c2
 have x3 := hba.c3
 have x4 := hba.c4
 have x5 := hba.c5
 have x6 := hba.c6
 have x7 := hba.c7
 have x8 := hba.c8
 have x9 := hba.c9
 have xA := hba.c10
 have xB := hba.c11
 go_wp2_with (with_reducible refine h_M ?_)
 go_ret2
 exact ⟨none, _, 0, rfl, hB0b.mono hbase, ⟨hB0b.size, fun g hg _ => hB0b.block g hg⟩, fun e => by cases e⟩
theorem zap (a : Ag) (h : AH) (base : Nat) (A : Option Addr) (n c : Nat) (l : List UInt8) (w : World) (hown : OwnB w base A n c l) (hbase : base ≤ w.heap.size) (hn : n ≤ 100000000) (ha : RA w (fun g => g < base) a h) (hv : a.n < 65536) :
  Calls Tryz.prog 71 #[.slice A n c, .int .u8 119, .agg (agV a h)] w (PutG w base (blk A) (zI a (agN a)) (l ++ be 2 a.n)) := by
 have hM : puts [] a.n 2 = be 2 a.n := by unfold puts; rw [if_pos (by decide)]; rfl
 have hml : (be 2 a.n).length ≤ 4 := by simp [be]
 have hpt := fun W => zX none 0 0 [] a.n 2 W (Rd.nil _ _ _ _ (by simp [maxLen]) _) (by omega) (by omega)
 rw [hM] at hpt
 have hmk := fun W => run_makeMap (P := Tryz.prog) 186 W
 have hsm : ∀ W, Below base w W → Calls Tryz.prog 106 #[.agg #[.bool a.is, .int .u64 (a.n : Int), .string (str a.s), .int .u32 (a.x.fmt : Int), .string (str a.x.glob), .string (str a.x.bran), .slice h.A a.q.length h.c, .int .u8 (a.v.kind : Int), .int .u64 (a.v.n : Int), .string (str a.v.s), .slice h.h.A1 a.v.keys.length h.h.c1, .slice h.h.A2 a.v.list.length h.h.c2], .agg #[.bool true, .int .u64 (a.n : Int), .string ⟨#[]⟩, .int .u32 0, .string ⟨#[]⟩, .string ⟨#[]⟩, .slice none 0 0, .int .u8 0, .int .u64 0, .string ⟨#[]⟩, .slice none 0 0, .slice none 0 0]] W (fun e w' => e = .returned (.bool (zI a (agN a))) ∧ Below W.heap.size W w') := fun W hW => yI a (agN a) h ah0 W ((ha.under hW).mono (fun g hg => Nat.lt_of_lt_of_le hg (Nat.le_trans hbase hW.size))) (((RA.ofN ha : RA w (fun g => g < base) (agN a) ah0).under hW).mono (fun g hg => Nat.lt_of_lt_of_le hg (Nat.le_trans hbase hW.size)))
 generalize hsr : zI a (agN a) = sr at hsm
 have HSM := Lib.hid hsm
 clear hsm
 generalize be 2 a.n = M at *
 clear hM
 obtain ⟨ab, rb, v0, hqa, hqr, hqv, hba, hbr, hB0⟩ := yV w #[.bool a.is, .int .u64 (a.n : Int), .string (str a.s), .int .u32 (a.x.fmt : Int), .string (str a.x.glob), .string (str a.x.bran), .slice h.A a.q.length h.c, .int .u8 (a.v.kind : Int), .int .u64 (a.v.n : Int), .string (str a.v.s), .slice h.h.A1 a.v.keys.length h.h.c1, .slice h.h.A2 a.v.list.length h.h.c2] #[.bool true, .int .u64 0, .string ⟨#[]⟩, .int .u32 0, .string ⟨#[]⟩, .string ⟨#[]⟩, .slice none 0 0, .int .u8 0, .int .u64 0, .string ⟨#[]⟩, .slice none 0 0, .slice none 0 0] 80
 have hab : w.heap.size ≤ ab := by omega
 have har : ab < rb := by omega
 have hblk : ∀ g, blk A = some g → g < ab := fun g hg => by have := (hown.blk_lt hg).2; omega
 have hbas : ∀ g, blk A = some g → base ≤ g := fun g hg => (hown.blk_lt hg).1
 have hown0 := zg hown hB0
 have hB0b : Below w.heap.size w v0 := hB0
 have hrv := hbr.lt
 have hrv1 := hrv
 have hnl : l.length = n := RdB.length hown.rd
 unfold agV
 have HA := Lib.hid ha
 clear ha
 go_enter Tryz.func71, Tryz.ntmps71
 go_upto_region 2 with fail
 rw [← hqr, ← hqa, ← hqv]
 clear hqa hqr hqv hown hB0
 have hmap := World.ownsMap_made v0 Tryz.prog 5 (plainElem (H := Unit) Tryz.prog 3)
 have hba := hba.alloc (.map #[] 0)
 have hbr := hbr.alloc (.map #[] 0)
 have hown0 := hown0.alloc (.map #[] 0)
 have hB0b := hB0b.alloc hB0b.size (.map #[] 0)
 go_wp2_with (with_reducible refine h_M ?_)
 obtain ⟨mb, hmb⟩ : ∃ m, m = v0.heap.size := ⟨_, rfl⟩
 rw [← hmb] at hmap hrv ⊢
 clear hmb hmk
 generalize (v0.alloc (.map #[] 0)) = v1 at *
 refine zc (ze (H := Unit) _ rfl _ _ _ 186 rfl 5 3 zl Tryz.underlying186 (plainElem (H := Unit) Tryz.prog 3) _ _ _ rfl hmap (by simp [maxLen]) _ _ (.int .u8 110) rfl rfl (Maps.keyOf_int_mk Tryz.underlying5 (by decide)) (.lit (.int .i64 1)) [] (plainElem_int Tryz.underlying3 (by decide)) ?_)
 intro v2 hmap2 hgm
 have hba := hba.grown hgm (sne (by omega))
 have hbr := hbr.grown hgm (sne (by omega))
 have hown0 := zf hown0 hgm (fun g hg e => by injection e with e; have := hblk g hg; omega)
 have hB0b := hB0b.grown hgm hB0b.size (fun g hg => by injection hg with hg; omega)
 clear hmap hgm
 have hmap := hmap2
 clear hmap2
 go_wp2_with (with_reducible refine h_M ?_)
 refine zc (ze (H := Unit) _ rfl _ _ _ 186 rfl 5 3 zl Tryz.underlying186 (plainElem (H := Unit) Tryz.prog 3) _ _ _ rfl hmap (by simp [maxLen]) _ _ (.int .u8 119) rfl rfl (Maps.keyOf_int_mk Tryz.underlying5 (by decide)) (.lit (.int .i64 2)) [] (plainElem_int Tryz.underlying3 (by decide)) ?_)
 intro v3 hmap2 hgm
 have hba := hba.grown hgm (sne (by omega))
 have hbr := hbr.grown hgm (sne (by omega))
 have hown0 := zf hown0 hgm (fun g hg e => by injection e with e; have := hblk g hg; omega)
 have hB0b := hB0b.grown hgm hB0b.size (fun g hg => by injection hg with hg; omega)
 clear hmap hgm
 have hmap := hmap2
 clear hmap2
 go_wp2_with (with_reducible refine h_M ?_)
 refine zc (ze (H := Unit) _ rfl _ _ _ 186 rfl 5 3 zl Tryz.underlying186 (plainElem (H := Unit) Tryz.prog 3) _ _ _ rfl hmap (by simp [maxLen]) _ _ (.int .u8 100) rfl rfl (Maps.keyOf_int_mk Tryz.underlying5 (by decide)) (.lit (.int .i64 4)) [] (plainElem_int Tryz.underlying3 (by decide)) ?_)
 intro v4 hmap2 hgm
 have hba := hba.grown hgm (sne (by omega))
 have hbr := hbr.grown hgm (sne (by omega))
 have hown0 := zf hown0 hgm (fun g hg e => by injection e with e; have := hblk g hg; omega)
 have hB0b := hB0b.grown hgm hB0b.size (fun g hg => by injection hg with hg; omega)
 clear hmap hgm
 obtain ⟨cc, hrun, hat, _⟩ := hmap2.lookup_int (t := 186) zl Tryz.underlying186 Tryz.underlying3 (Tryz.zeroValue3 _) (key := .int .u8 119) (kl := .int .u8 119) (Maps.keyOf_int_mk Tryz.underlying5 (by decide))
 have hcc : DataW.lit (H := Unit) (.int .i64 2) = .lit (.int .i64 cc) := Eq.trans (by kernel_rfl) hat
 injection hcc with hcc
 injection hcc with _ hcc
 subst hcc
 clear hat
 have x0 := hba.c0
 have x1 := hba.c1
 have x2 := hba.c2
 have x3 := hba.c3
 have x4 := hba.c4
 have x5 := hba.c5
 have x6 := hba.c6
 have x7 := hba.c7
 have x8 := hba.c8
 have x9 := hba.c9
 have xA := hba.c10
 have xB := hba.c11
 go_wp2_with (with_reducible refine h_M ?_)
 refine (hpt _).mono ?_
 rintro e w1 ⟨A1, c1, rfl, ho1, hB1'⟩
 have hba1 := hba.below hB1'
 have hbr1 := hbr.below hB1'
 have hown1 := zg hown0 hB1'
 have hB1 := hB0b.trans (hB1'.mono hB0b.size)
 have hrv1 : rb < v4.heap.size := hbr.lt
 clear hba hbr hown0 hB0b hB1' hpt hrun hmap2
 clear x0 x1 x2 x3 x4 x5 x6 x7 x8 x9 xA xB
 have x0 := hba1.c0
 have x1 := hba1.c1
 have x2 := hba1.c2
 have x3 := hba1.c3
 have x4 := hba1.c4
 have x5 := hba1.c5
 have x6 := hba1.c6
 have x7 := hba1.c7
 have x8 := hba1.c8
 have x9 := hba1.c9
 have xA := hba1.c10
 have xB := hba1.c11
 go_wp2_with (with_reducible refine h_B ?_)
 refine zc (zm (v := .int .u64 (a.n : Int)) (vs := [.int .u64 (a.n : Int)]) rfl rfl rfl rfl hbr1 rfl (by kernel_rfl) (by simp) (by intro u hu; simp at hu; rcases hu with rfl <;> rfl) #[.bool true, .int .u64 (a.n : Int), .string ⟨#[]⟩, .int .u32 0, .string ⟨#[]⟩, .string ⟨#[]⟩, .slice none 0 0, .int .u8 0, .int .u64 0, .string ⟨#[]⟩, .slice none 0 0, .slice none 0 0] (by simp) ?_)
 intro w2 hbr2 hg2 _
 have hba2 := hba1.grown hg2 (sne (by omega))
 have hown2 := zf hown1 hg2 (fun g hg e => by injection e with e; have := hblk g hg; omega)
 have ho2 := zf ho1 hg2 (fun g hg e => by injection e with e; have := (ho1.blk_lt hg).1; omega)
 have hB2 := hB1.grown hg2 hB1.size (fun g hg => by injection hg with hg; omega)
 have hs2 := Nat.le_trans hbase hB2.size
 clear hba1 hbr1 hown1 ho1 hg2 hB1
 clear x0 x1 x2 x3 x4 x5 x6 x7 x8 x9 xA xB
 have x0 := hba2.c0
 have x1 := hba2.c1
 have x2 := hba2.c2
 have x3 := hba2.c3
 have x4 := hba2.c4
 have x5 := hba2.c5
 have x6 := hba2.c6
 have x7 := hba2.c7
 have x8 := hba2.c8
 have x9 := hba2.c9
 have xA := hba2.c10
 have xB := hba2.c11
 have y0 := hbr2.c0
 have y1 := hbr2.c1
 have y2 := hbr2.c2
 have y3 := hbr2.c3
 have y4 := hbr2.c4
 have y5 := hbr2.c5
 have y6 := hbr2.c6
 have y7 := hbr2.c7
 have y8 := hbr2.c8
 have y9 := hbr2.c9
 have yA := hbr2.c10
 have yB := hbr2.c11
 go_wp2_with (with_reducible refine h_B ?_)
 refine zc (yn slB rfl rfl rfl rfl hown2 ho2.rd (zU _) (by omega) (by unfold maxLen; omega) hs2 ?_)
 intro A3 c3 w3 ho3 hg3 hb3
 have hba3 := hba2.grown hg3 (by intro e; have := hblk _ e.symm; omega)
 have hbr3 := hbr2.grown hg3 (by intro e; have := hblk _ e.symm; omega)
 have hB3 := (hB2.mono hbase).grown hg3 hs2 (fun g hg => hbas g hg)
 have hK3 : KB w w3 (blk A) := ⟨Nat.le_trans hB2.size hg3.size, fun g hg hne => (hg3.block g (Nat.lt_of_lt_of_le hg hB2.size) (fun e => hne e.symm)).trans (hB2.block g hg)⟩
 clear x0 x1 x2 x3 x4 x5 x6 x7 x8 x9 xA xB
 clear y0 y1 y2 y3 y4 y5 y6 y7 y8 y9 yA yB
 clear hba2 hbr2 hown2 ho2 hg3 hB2 hb3
 have x0 := hba3.c0
 have x1 := hba3.c1
 have x2 := hba3.c2
 have x3 := hba3.c3
 have x4 := hba3.c4
 have x5 := hba3.c5
 have x6 := hba3.c6
 have x7 := hba3.c7
 have x8 := hba3.c8
 have x9 := hba3.c9
 have xA := hba3.c10
 have xB := hba3.c11
 have y0 := hbr3.c0
 have y1 := hbr3.c1
 have y2 := hbr3.c2
 have y3 := hbr3.c3
 have y4 := hbr3.c4
 have y5 := hbr3.c5
 have y6 := hbr3.c6
 have y7 := hbr3.c7
 have y8 := hbr3.c8
 have y9 := hbr3.c9
 have yA := hbr3.c10
 have yB := hbr3.c11
 have hsm := HSM.out w3 hB3
 go_wp2_with (with_reducible refine h_B ?_)
 refine hsm.mono ?_
 rintro e w4 ⟨rfl, hB4⟩
 have ho4 := zg ho3 hB4
 have hB5 := hB3.trans (hB4.mono (Nat.le_trans hbase hB3.size))
 have hK5 : KB w w4 (blk A) := ⟨Nat.le_trans hK3.1 hB4.size, fun g hg hne => (hB4.block g (Nat.lt_of_lt_of_le hg hK3.1)).trans (hK3.2 g hg hne)⟩
 clear hba3 hbr3 ho3 hB3 hB4 hK3 hsm
 clear x0 x1 x2 x3 x4 x5 x6 x7 x8 x9 xA xB
 clear y0 y1 y2 y3 y4 y5 y6 y7 y8 y9 yA yB
 go_wp2_with (with_reducible refine h_A ?_)
 go_ret2
 exact ⟨A3, _, c3, rfl, hB5, hK5, fun _ => ⟨by simp [hnl], (by have := ho4; rw [← List.map_append] at this; exact this)⟩⟩
theorem Q5 (a : Ag) (h : AH) (base : Nat) (A : Option Addr) (n c : Nat) (l : List UInt8) (w : World) (hown : OwnB w base A n c l) (hbase : base ≤ w.heap.size) (hn : n ≤ 100000000) (ha : RA w (fun g => g < base) a h) (hv : 65536 ≤ a.n) :
  Calls Tryz.prog 71 #[.slice A n c, .int .u8 119, .agg (agV a h)] w (PutG w base (blk A) false (l ++ be 2 a.n)) := by
 have hnn := ha.n
 have hmk := fun W => run_makeMap (P := Tryz.prog) 186 W
 obtain ⟨ab, rb, v0, hqa, hqr, hqv, hba, hbr, hB0⟩ := yV w #[.bool a.is, .int .u64 (a.n : Int), .string (str a.s), .int .u32 (a.x.fmt : Int), .string (str a.x.glob), .string (str a.x.bran), .slice h.A a.q.length h.c, .int .u8 (a.v.kind : Int), .int .u64 (a.v.n : Int), .string (str a.v.s), .slice h.h.A1 a.v.keys.length h.h.c1, .slice h.h.A2 a.v.list.length h.h.c2] #[.bool true, .int .u64 0, .string ⟨#[]⟩, .int .u32 0, .string ⟨#[]⟩, .string ⟨#[]⟩, .slice none 0 0, .int .u8 0, .int .u64 0, .string ⟨#[]⟩, .slice none 0 0, .slice none 0 0] 80
 have hab : w.heap.size ≤ ab := by omega
 have har : ab < rb := by omega
 have hblk : ∀ g, blk A = some g → g < ab := fun g hg => by have := (hown.blk_lt hg).2; omega
 have hbas : ∀ g, blk A = some g → base ≤ g := fun g hg => (hown.blk_lt hg).1
 have hown0 := zg hown hB0
 have hB0b : Below w.heap.size w v0 := hB0
 have hrv := hbr.lt
 have hrv1 := hrv
 have hnl : l.length = n := RdB.length hown.rd
 unfold agV
 have HA := Lib.hid ha
 clear ha
 go_enter Tryz.func71, Tryz.ntmps71
 go_upto_region 2 with fail
 rw [← hqr, ← hqa, ← hqv]
 clear hqa hqr hqv hown hB0
 have hmap := World.ownsMap_made v0 Tryz.prog 5 (plainElem (H := Unit) Tryz.prog 3)
 have hba := hba.alloc (.map #[] 0)
 have hbr := hbr.alloc (.map #[] 0)
 have hown0 := hown0.alloc (.map #[] 0)
 have hB0b := hB0b.alloc hB0b.size (.map #[] 0)
 go_wp2_with (with_reducible refine h_M ?_)
 obtain ⟨mb, hmb⟩ : ∃ m, m = v0.heap.size := ⟨_, rfl⟩
 rw [← hmb] at hmap hrv ⊢
 clear hmb hmk
 generalize (v0.alloc (.map #[] 0)) = v1 at *
 refine zc (ze (H := Unit) _ rfl _ _ _ 186 rfl 5 3 zl Tryz.underlying186 (plainElem (H := Unit) Tryz.prog 3) _ _ _ rfl hmap (by simp [maxLen]) _ _ (.int .u8 110) rfl rfl (Maps.keyOf_int_mk Tryz.underlying5 (by decide)) (.lit (.int .i64 1)) [] (plainElem_int Tryz.underlying3 (by decide)) ?_)
 intro v2 hmap2 hgm
 have hba := hba.grown hgm (sne (by omega))
 have hbr := hbr.grown hgm (sne (by omega))
 have hown0 := zf hown0 hgm (fun g hg e => by injection e with e; have := hblk g hg; omega)
 have hB0b := hB0b.grown hgm hB0b.size (fun g hg => by injection hg with hg; omega)
 clear hmap hgm
 have hmap := hmap2
 clear hmap2
 go_wp2_with (with_reducible refine h_M ?_)
 refine zc (ze (H := Unit) _ rfl _ _ _ 186 rfl 5 3 zl Tryz.underlying186 (plainElem (H := Unit) Tryz.prog 3) _ _ _ rfl hmap (by simp [maxLen]) _ _ (.int .u8 119) rfl rfl (Maps.keyOf_int_mk Tryz.underlying5 (by decide)) (.lit (.int .i64 2)) [] (plainElem_int Tryz.underlying3 (by decide)) ?_)
 intro v3 hmap2 hgm
 have hba := hba.grown hgm (sne (by omega))
 have hbr := hbr.grown hgm (sne (by omega))
 have hown0 := zf hown0 hgm (fun g hg e => by injection e with e; have := hblk g hg; omega)
 have hB0b := hB0b.grown hgm hB0b.size (fun g hg => by injection hg with hg; omega)
 clear hmap hgm
 have hmap := hmap2
 clear hmap2
 go_wp2_with (with_reducible refine h_M ?_)
 refine zc (ze (H := Unit) _ rfl _ _ _ 186 rfl 5 3 zl Tryz.underlying186 (plainElem (H := Unit) Tryz.prog 3) _ _ _ rfl hmap (by simp [maxLen]) _ _ (.int .u8 100) rfl rfl (Maps.keyOf_int_mk Tryz.underlying5 (by decide)) (.lit (.int .i64 4)) [] (plainElem_int Tryz.underlying3 (by decide)) ?_)
 intro v4 hmap2 hgm
 have hba := hba.grown hgm (sne (by omega))
 have hbr := hbr.grown hgm (sne (by omega))
 have hown0 := zf hown0 hgm (fun g hg e => by injection e with e; have := hblk g hg; omega)
 have hB0b := hB0b.grown hgm hB0b.size (fun g hg => by injection hg with hg; omega)
 clear hmap hgm
 obtain ⟨cc, hrun, hat, _⟩ := hmap2.lookup_int (t := 186) zl Tryz.underlying186 Tryz.underlying3 (Tryz.zeroValue3 _) (key := .int .u8 119) (kl := .int .u8 119) (Maps.keyOf_int_mk Tryz.underlying5 (by decide))
 have hcc : DataW.lit (H := Unit) (.int .i64 2) = .lit (.int .i64 cc) := Eq.trans (by kernel_rfl) hat
 injection hcc with hcc
 injection hcc with _ hcc
 subst hcc
 clear hat
 have x0 := hba.c0
 have x1 := hba.c1
 have x2 := hba.c2
 have x3 := hba.c3
 have x4 := hba.c4
 have x5 := hba.c5
 have x6 := hba.c6
 have x7 := hba.c7
 have x8 := hba.c8
 have x9 := hba.c9
 have xA := hba.c10
 have xB := hba.c11
 go_wp2_with (with_reducible refine h_M ?_)
 go_ret2
 exact ⟨none, _, 0, rfl, hB0b.mono hbase, ⟨hB0b.size, fun g hg _ => hB0b.block g hg⟩, fun e => by cases e⟩
theorem zaq (a : Ag) (h : AH) (base : Nat) (A : Option Addr) (n c : Nat) (l : List UInt8) (w : World) (hown : OwnB w base A n c l) (hbase : base ≤ w.heap.size) (hn : n ≤ 100000000) (ha : RA w (fun g => g < base) a h) (hv : a.n < 4294967296) :
  Calls Tryz.prog 71 #[.slice A n c, .int .u8 100, .agg (agV a h)] w (PutG w base (blk A) (zI a (agN a)) (l ++ be 4 a.n)) := by
 have hM : puts [] a.n 4 = be 4 a.n := by unfold puts; rw [if_pos (by decide)]; rfl
 have hml : (be 4 a.n).length ≤ 4 := by simp [be]
 have hpt := fun W => zX none 0 0 [] a.n 4 W (Rd.nil _ _ _ _ (by simp [maxLen]) _) (by omega) (by omega)
 rw [hM] at hpt
 have hmk := fun W => run_makeMap (P := Tryz.prog) 186 W
 have hsm : ∀ W, Below base w W → Calls Tryz.prog 106 #[.agg #[.bool a.is, .int .u64 (a.n : Int), .string (str a.s), .int .u32 (a.x.fmt : Int), .string (str a.x.glob), .string (str a.x.bran), .slice h.A a.q.length h.c, .int .u8 (a.v.kind : Int), .int .u64 (a.v.n : Int), .string (str a.v.s), .slice h.h.A1 a.v.keys.length h.h.c1, .slice h.h.A2 a.v.list.length h.h.c2], .agg #[.bool true, .int .u64 (a.n : Int), .string ⟨#[]⟩, .int .u32 0, .string ⟨#[]⟩, .string ⟨#[]⟩, .slice none 0 0, .int .u8 0, .int .u64 0, .string ⟨#[]⟩, .slice none 0 0, .slice none 0 0]] W (fun e w' => e = .returned (.bool (zI a (agN a))) ∧ Below W.heap.size W w') := fun W hW => yI a (agN a) h ah0 W ((ha.under hW).mono (fun g hg => Nat.lt_of_lt_of_le hg (Nat.le_trans hbase hW.size))) (((RA.ofN ha : RA w (fun g => g < base) (agN a) ah0).under hW).mono (fun g hg => Nat.lt_of_lt_of_le hg (Nat.le_trans hbase hW.size)))
 generalize hsr : zI a (agN a) = sr at hsm
 have HSM := Lib.hid hsm
 clear hsm
 generalize be 4 a.n = M at *
 clear hM
 obtain ⟨ab, rb, v0, hqa, hqr, hqv, hba, hbr, hB0⟩ := yV w #[.bool a.is, .int .u64 (a.n : Int), .string (str a.s), .int .u32 (a.x.fmt : Int), .string (str a.x.glob), .string (str a.x.bran), .slice h.A a.q.length h.c, .int .u8 (a.v.kind : Int), .int .u64 (a.v.n : Int), .string (str a.v.s), .slice h.h.A1 a.v.keys.length h.h.c1, .slice h.h.A2 a.v.list.length h.h.c2] #[.bool true, .int .u64 0, .string ⟨#[]⟩, .int .u32 0, .string ⟨#[]⟩, .string ⟨#[]⟩, .slice none 0 0, .int .u8 0, .int .u64 0, .string ⟨#[]⟩, .slice none 0 0, .slice none 0 0] 80
 have hab : w.heap.size ≤ ab := by omega
 have har : ab < rb := by omega
 have hblk : ∀ g, blk A = some g → g < ab := fun g hg => by have := (hown.blk_lt hg).2; omega
 have hbas : ∀ g, blk A = some g → base ≤ g := fun g hg => (hown.blk_lt hg).1
 have hown0 := zg hown hB0
 have hB0b : Below w.heap.size w v0 := hB0
 have hrv := hbr.lt
 have hrv1 := hrv
 have hnl : l.length = n := RdB.length hown.rd
 unfold agV
 have HA := Lib.hid ha
 clear ha
 go_enter Tryz.func71, Tryz.ntmps71
 go_upto_region 2 with fail
 rw [← hqr, ← hqa, ← hqv]
 clear hqa hqr hqv hown hB0
 have hmap := World.ownsMap_made v0 Tryz.prog 5 (plainElem (H := Unit) Tryz.prog 3)
 have hba := hba.alloc (.map #[] 0)
 have hbr := hbr.alloc (.map #[] 0)
 have hown0 := hown0.alloc (.map #[] 0)
 have hB0b := hB0b.alloc hB0b.size (.map #[] 0)
 go_wp2_with (with_reducible refine h_M ?_)
 obtain ⟨mb, hmb⟩ : ∃ m, m = v0.heap.size := ⟨_, rfl⟩
 rw [← hmb] at hmap hrv ⊢
 clear hmb hmk
 generalize (v0.alloc (.map #[] 0)) = v1 at *
 refine zc (ze (H := Unit) _ rfl _ _ _ 186 rfl 5 3 zl Tryz.underlying186 (plainElem (H := Unit) Tryz.prog 3) _ _ _ rfl hmap (by simp [maxLen]) _ _ (.int .u8 110) rfl rfl (Maps.keyOf_int_mk Tryz.underlying5 (by decide)) (.lit (.int .i64 1)) [] (plainElem_int Tryz.underlying3 (by decide)) ?_)
 intro v2 hmap2 hgm
 have hba := hba.grown hgm (sne (by omega))
 have hbr := hbr.grown hgm (sne (by omega))
 have hown0 := zf hown0 hgm (fun g hg e => by injection e with e; have := hblk g hg; omega)
 have hB0b := hB0b.grown hgm hB0b.size (fun g hg => by injection hg with hg; omega)
 clear hmap hgm
 have hmap := hmap2
 clear hmap2
 go_wp2_with (with_reducible refine h_M ?_)
 refine zc (ze (H := Unit) _ rfl _ _ _ 186 rfl 5 3 zl Tryz.underlying186 (plainElem (H := Unit) Tryz.prog 3) _ _ _ rfl hmap (by simp [maxLen]) _ _ (.int .u8 119) rfl rfl (Maps.keyOf_int_mk Tryz.underlying5 (by decide)) (.lit (.int .i64 2)) [] (plainElem_int Tryz.underlying3 (by decide)) ?_)
 intro v3 hmap2 hgm
 have hba := hba.grown hgm (sne (by omega))
 have hbr := hbr.grown hgm (sne (by omega))
 have hown0 := zf hown0 hgm (fun g hg e => by injection e with e; have := hblk g hg; omega)
 have hB0b := hB0b.grown hgm hB0b.size (fun g hg => by injection hg with hg; omega)
 clear hmap hgm
 have hmap := hmap2
 clear hmap2
 go_wp2_with (with_reducible refine h_M ?_)
 refine zc (ze (H := Unit) _ rfl _ _ _ 186 rfl 5 3 zl Tryz.underlying186 (plainElem (H := Unit) Tryz.prog 3) _ _ _ rfl hmap (by simp [maxLen]) _ _ (.int .u8 100) rfl rfl (Maps.keyOf_int_mk Tryz.underlying5 (by decide)) (.lit (.int .i64 4)) [] (plainElem_int Tryz.underlying3 (by decide)) ?_)
 intro v4 hmap2 hgm
 have hba := hba.grown hgm (sne (by omega))
 have hbr := hbr.grown hgm (sne (by omega))
 have hown0 := zf hown0 hgm (fun g hg e => by injection e with e; have := hblk g hg; omega)
 have hB0b := hB0b.grown hgm hB0b.size (fun g hg => by injection hg with hg; omega)
 clear hmap hgm
 obtain ⟨cc, hrun, hat, _⟩ := hmap2.lookup_int (t := 186) zl Tryz.underlying186 Tryz.underlying3 (Tryz.zeroValue3 _) (key := .int .u8 100) (kl := .int .u8 100) (Maps.keyOf_int_mk Tryz.underlying5 (by decide))
 have hcc : DataW.lit (H := Unit) (.int .i64 4) = .lit (.int .i64 cc) := Eq.trans (by kernel_rfl) hat
 injection hcc with hcc
 injection hcc with _ hcc
 subst hcc
 clear hat
 have x0 := hba.c0
 have x1 := hba.c1
 have x2 := hba.c2
 have x3 := hba.c3
 have x4 := hba.c4
 have x5 := hba.c5
 have x6 := hba.c6
 have x7 := hba.c7
 have x8 := hba.c8
 have x9 := hba.c9
 have xA := hba.c10
 have xB := hba.c11
 go_wp2_with (with_reducible refine h_M ?_)
 refine (hpt _).mono ?_
 rintro e w1 ⟨A1, c1, rfl, ho1, hB1'⟩
 have hba1 := hba.below hB1'
 have hbr1 := hbr.below hB1'
 have hown1 := zg hown0 hB1'
 have hB1 := hB0b.trans (hB1'.mono hB0b.size)
 have hrv1 : rb < v4.heap.size := hbr.lt
 clear hba hbr hown0 hB0b hB1' hpt hrun hmap2
 clear x0 x1 x2 x3 x4 x5 x6 x7 x8 x9 xA xB
 have x0 := hba1.c0
 have x1 := hba1.c1
 have x2 := hba1.c2
 have x3 := hba1.c3
 have x4 := hba1.c4
 have x5 := hba1.c5
 have x6 := hba1.c6
 have x7 := hba1.c7
 have x8 := hba1.c8
 have x9 := hba1.c9
 have xA := hba1.c10
 have xB := hba1.c11
 go_wp2_with (with_reducible refine h_B ?_)
 refine zc (zm (v := .int .u64 (a.n : Int)) (vs := [.int .u64 (a.n : Int)]) rfl rfl rfl rfl hbr1 rfl (by kernel_rfl) (by simp) (by intro u hu; simp at hu; rcases hu with rfl <;> rfl) #[.bool true, .int .u64 (a.n : Int), .string ⟨#[]⟩, .int .u32 0, .string ⟨#[]⟩, .string ⟨#[]⟩, .slice none 0 0, .int .u8 0, .int .u64 0, .string ⟨#[]⟩, .slice none 0 0, .slice none 0 0] (by simp) ?_)
 intro w2 hbr2 hg2 _
 have hba2 := hba1.grown hg2 (sne (by omega))
 have hown2 := zf hown1 hg2 (fun g hg e => by injection e with e; have := hblk g hg; omega)
 have ho2 := zf ho1 hg2 (fun g hg e => by injection e with e; have := (ho1.blk_lt hg).1; omega)
 have hB2 := hB1.grown hg2 hB1.size (fun g hg => by injection hg with hg; omega)
 have hs2 := Nat.le_trans hbase hB2.size
 clear hba1 hbr1 hown1 ho1 hg2 hB1
 clear x0 x1 x2 x3 x4 x5 x6 x7 x8 x9 xA xB
 have x0 := hba2.c0
 have x1 := hba2.c1
 have x2 := hba2.c2
 have x3 := hba2.c3
 have x4 := hba2.c4
 have x5 := hba2.c5
 have x6 := hba2.c6
 have x7 := hba2.c7
 have x8 := hba2.c8
 have x9 := hba2.c9
 have xA := hba2.c10
 have xB := hba2.c11
 have y0 := hbr2.c0
 have y1 := hbr2.c1
 have y2 := hbr2.c2
 have y3 := hbr2.c3
 have y4 := hbr2.c4
 have y5 := hbr2.c5
 have y6 := hbr2.c6
 have y7 := hbr2.c7
 have y8 := hbr2.c8
 have y9 := hbr2.c9
 have yA := hbr2.c10
 have yB := hbr2.c11
 go_wp2_with (with_reducible refine h_B ?_)
 refine zc (yn slB rfl rfl rfl rfl hown2 ho2.rd (zU _) (by omega) (by unfold maxLen; omega) hs2 ?_)
 intro A3 c3 w3 ho3 hg3 hb3
 have hba3 := hba2.grown hg3 (by intro e; have := hblk _ e.symm; omega)
 have hbr3 := hbr2.grown hg3 (by intro e; have := hblk _ e.symm; omega)
 have hB3 := (hB2.mono hbase).grown hg3 hs2 (fun g hg => hbas g hg)
 have hK3 : KB w w3 (blk A) := ⟨Nat.le_trans hB2.size hg3.size, fun g hg hne => (hg3.block g (Nat.lt_of_lt_of_le hg hB2.size) (fun e => hne e.symm)).trans (hB2.block g hg)⟩
 clear x0 x1 x2 x3 x4 x5 x6 x7 x8 x9 xA xB
 clear y0 y1 y2 y3 y4 y5 y6 y7 y8 y9 yA yB
 clear hba2 hbr2 hown2 ho2 hg3 hB2 hb3
 have x0 := hba3.c0
 have x1 := hba3.c1
 have x2 := hba3.c2
 have x3 := hba3.c3
 have x4 := hba3.c4
 have x5 := hba3.c5
 have x6 := hba3.c6
 have x7 := hba3.c7
 have x8 := hba3.c8
 have x9 := hba3.c9
 have xA := hba3.c10
 have xB := hba3.c11
 have y0 := hbr3.c0
 have y1 := hbr3.c1
 have y2 := hbr3.c2
 have y3 := hbr3.c3
 have y4 := hbr3.c4
 have y5 := hbr3.c5
 have y6 := hbr3.c6
 have y7 := hbr3.c7
 have y8 := hbr3.c8
 have y9 := hbr3.c9
 have yA := hbr3.c10
 have yB := hbr3.c11
 have hsm := HSM.out w3 hB3
 go_wp2_with (with_reducible refine h_B ?_)
 refine hsm.mono ?_
 rintro e w4 ⟨rfl, hB4⟩
 have ho4 := zg ho3 hB4
 have hB5 := hB3.trans (hB4.mono (Nat.le_trans hbase hB3.size))
 have hK5 : KB w w4 (blk A) := ⟨Nat.le_trans hK3.1 hB4.size, fun g hg hne => (hB4.block g (Nat.lt_of_lt_of_le hg hK3.1)).trans (hK3.2 g hg hne)⟩
 clear hba3 hbr3 ho3 hB3 hB4 hK3 hsm
 clear x0 x1 x2 x3 x4 x5 x6 x7 x8 x9 xA xB
 clear y0 y1 y2 y3 y4 y5 y6 y7 y8 y9 yA yB
 go_wp2_with (with_reducible refine h_A ?_)
 go_ret2
 exact ⟨A3, _, c3, rfl, hB5, hK5, fun _ => ⟨by simp [hnl], (by have := ho4; rw [← List.map_append] at this; exact this)⟩⟩
theorem Q6 (a : Ag) (h : AH) (base : Nat) (A : Option Addr) (n c : Nat) (l : List UInt8) (w : World) (hown : OwnB w base A n c l) (hbase : base ≤ w.heap.size) (hn : n ≤ 100000000) (ha : RA w (fun g => g < base) a h) (hv : 4294967296 ≤ a.n) :
  Calls Tryz.prog 71 #[.slice A n c, .int .u8 100, .agg (agV a h)] w (PutG w base (blk A) false (l ++ be 4 a.n)) := by
 have hnn := ha.n
 have hmk := fun W => run_makeMap (P := Tryz.prog) 186 W
 obtain ⟨ab, rb, v0, hqa, hqr, hqv, hba, hbr, hB0⟩ := yV w #[.bool a.is, .int .u64 (a.n : Int), .string (str a.s), .int .u32 (a.x.fmt : Int), .string (str a.x.glob), .string (str a.x.bran), .slice h.A a.q.length h.c, .int .u8 (a.v.kind : Int), .int .u64 (a.v.n : Int), .string (str a.v.s), .slice h.h.A1 a.v.keys.length h.h.c1, .slice h.h.A2 a.v.list.length h.h.c2] #[.bool true, .int .u64 0, .string ⟨#[]⟩, .int .u32 0, .string ⟨#[]⟩, .string ⟨#[]⟩, .slice none 0 0, .int .u8 0, .int .u64 0, .string ⟨#[]⟩, .slice none 0 0, .slice none 0 0] 80
 have hab : w.heap.size ≤ ab := by omega
 have har : ab < rb := by omega
 have hblk : ∀ g, blk A = some g → g < ab := fun g hg => by have := (hown.blk_lt hg).2; omega
 have hbas : ∀ g, blk A = some g → base ≤ g := fun g hg => (hown.blk_lt hg).1
 have hown0 := zg hown hB0
 have hB0b : Below w.heap.size w v0 := hB0
 have hrv := hbr.lt
 have hrv1 := hrv
 have hnl : l.length = n := RdB.length hown.rd
 unfold agV
 have HA := Lib.hid ha
 clear ha
 go_enter Tryz.func71, Tryz.ntmps71
 go_upto_region 2 with fail
 rw [← hqr, ← hqa, ← hqv]
 clear hqa hqr hqv hown hB0
 have hmap := World.ownsMap_made v0 Tryz.prog 5 (plainElem (H := Unit) Tryz.prog 3)
 have hba := hba.alloc (.map #[] 0)
 have hbr := hbr.alloc (.map #[] 0)
 have hown0 := hown0.alloc (.map #[] 0)
 have hB0b := hB0b.alloc hB0b.size (.map #[] 0)
 go_wp2_with (with_reducible refine h_M ?_)
 obtain ⟨mb, hmb⟩ : ∃ m, m = v0.heap.size := ⟨_, rfl⟩
 rw [← hmb] at hmap hrv ⊢
 clear hmb hmk
 generalize (v0.alloc (.map #[] 0)) = v1 at *
 refine zc (ze (H := Unit) _ rfl _ _ _ 186 rfl 5 3 zl Tryz.underlying186 (plainElem (H := Unit) Tryz.prog 3) _ _ _ rfl hmap (by simp [maxLen]) _ _ (.int .u8 110) rfl rfl (Maps.keyOf_int_mk Tryz.underlying5 (by decide)) (.lit (.int .i64 1)) [] (plainElem_int Tryz.underlying3 (by decide)) ?_)
 intro v2 hmap2 hgm
 have hba := hba.grown hgm (sne (by omega))
 have hbr := hbr.grown hgm (sne (by omega))
 have hown0 := zf hown0 hgm (fun g hg e => by injection e with e; have := hblk g hg; omega)
 have hB0b := hB0b.grown hgm hB0b.size (fun g hg => by injection hg with hg; omega)
 clear hmap hgm
 have hmap := hmap2
 clear hmap2
 go_wp2_with (with_reducible refine h_M ?_)
 refine zc (ze (H := Unit) _ rfl _ _ _ 186 rfl 5 3 zl Tryz.underlying186 (plainElem (H := Unit) Tryz.prog 3) _ _ _ rfl hmap (by simp [maxLen]) _ _ (.int .u8 119) rfl rfl (Maps.keyOf_int_mk Tryz.underlying5 (by decide)) (.lit (.int .i64 2)) [] (plainElem_int Tryz.underlying3 (by decide)) ?_)
 intro v3 hmap2 hgm
 have hba := hba.grown hgm (sne (by omega))
 have hbr := hbr.grown hgm (sne (by omega))
 have hown0 := zf hown0 hgm (fun g hg e => by injection e with e; have := hblk g hg; omega)
 have hB0b := hB0b.grown hgm hB0b.size (fun g hg => by injection hg with hg; omega)
 clear hmap hgm
 have hmap := hmap2
 clear hmap2
 go_wp2_with (with_reducible refine h_M ?_)
 refine zc (ze (H := Unit) _ rfl _ _ _ 186 rfl 5 3 zl Tryz.underlying186 (plainElem (H := Unit) Tryz.prog 3) _ _ _ rfl hmap (by simp [maxLen]) _ _ (.int .u8 100) rfl rfl (Maps.keyOf_int_mk Tryz.underlying5 (by decide)) (.lit (.int .i64 4)) [] (plainElem_int Tryz.underlying3 (by decide)) ?_)
 intro v4 hmap2 hgm
 have hba := hba.grown hgm (sne (by omega))
 have hbr := hbr.grown hgm (sne (by omega))
 have hown0 := zf hown0 hgm (fun g hg e => by injection e with e; have := hblk g hg; omega)
 have hB0b := hB0b.grown hgm hB0b.size (fun g hg => by injection hg with hg; omega)
 clear hmap hgm
 obtain ⟨cc, hrun, hat, _⟩ := hmap2.lookup_int (t := 186) zl Tryz.underlying186 Tryz.underlying3 (Tryz.zeroValue3 _) (key := .int .u8 100) (kl := .int .u8 100) (Maps.keyOf_int_mk Tryz.underlying5 (by decide))
 have hcc : DataW.lit (H := Unit) (.int .i64 4) = .lit (.int .i64 cc) := Eq.trans (by kernel_rfl) hat
 injection hcc with hcc
 injection hcc with _ hcc
 subst hcc
 clear hat
 have x0 := hba.c0
 have x1 := hba.c1
 have x2 := hba.c2
 have x3 := hba.c3
 have x4 := hba.c4
 have x5 := hba.c5
 have x6 := hba.c6
 have x7 := hba.c7
 have x8 := hba.c8
 have x9 := hba.c9
 have xA := hba.c10
 have xB := hba.c11
 go_wp2_with (with_reducible refine h_M ?_)
 go_ret2
 exact ⟨none, _, 0, rfl, hB0b.mono hbase, ⟨hB0b.size, fun g hg _ => hB0b.block g hg⟩, fun e => by cases e⟩
--EERT
def okA (kd : UInt8) (a : Ag) : Bool :=
 if kd = 98 then zI a (ag0 a.is) else if kd = 110 then decide (a.n < 256) && zI a (agN a) else if kd = 119 then decide (a.n < 65536) && zI a (agN a) else if kd = 100 then decide (a.n < 4294967296) && zI a (agN a)
 else if kd = 115 then decide (zw a.s.length 1 = 0) && zI a (agS a) else if kd = 116 then decide (zw a.s.length 2 = 0) && zI a (agS a)
 else if kd = 120 then decide (((a.x.err : Nat) : Int) = 0) && zI a (agX a) else if kd = 114 then decide (((yd a.q : Nat) : Int) = 0) && zI a (agQ a) else decide (errV a.v = 0) && zI a (agX2 a)
def byA (kd : UInt8) (a : Ag) : List UInt8 :=
 if kd = 98 then [] else if kd = 110 then be 1 a.n else if kd = 119 then be 2 a.n else if kd = 100 then be 4 a.n
 else if kd = 115 then zF [] a.s 1 else if kd = 116 then zF [] a.s 2
 else if kd = 120 then a.x.put else if kd = 114 then yQ a.q else vlP a.v
def jO : List UInt8 := [98, 110, 119, 100, 115, 116, 120, 114, 118]
theorem Z1 (kd : UInt8) (a : Ag) : (byA kd a).length ≤ 2000000 := by
 unfold byA
 repeat' split
 all_goals first | exact kN _ | exact kO _ | exact kP _ | exact kQ _ | exact Z0 _ | (rw [zn]; omega) | simp
theorem Kf (kd : UInt8) (hk : kd ∈ jO) (a : Ag) (h : AH) (base : Nat) (A : Option Addr) (n c : Nat) (l : List UInt8) (w : World) (hown : OwnB w base A n c l) (hbase : base ≤ w.heap.size) (hn : n ≤ 100000000) (ha : RA w (fun g => g < base) a h) (hT : UTabs w) :
  Calls Tryz.prog 71 #[.slice A n c, .int .u8 (kd.toNat : Int), .agg (agV a h)] w (PutG w base (blk A) (okA kd a) (l ++ byA kd a)) := by
 unfold jO at hk
 simp only [List.mem_cons, List.not_mem_nil, or_false] at hk
 rcases hk with rfl | rfl | rfl | rfl | rfl | rfl | rfl | rfl | rfl
 ·exact zai a h base A n c l w hown hbase hn ha
 ·by_cases hv : a.n < 256
  ·have e : okA 110 a = zI a (agN a) := by unfold okA; simp [hv]
   rw [e]
   exact zao a h base A n c l w hown hbase hn ha hv
  ·have e : okA 110 a = false := by unfold okA; simp [hv]
   rw [e]
   exact Q4 a h base A n c l w hown hbase hn ha (by omega)
 ·by_cases hv : a.n < 65536
  ·have e : okA 119 a = zI a (agN a) := by unfold okA; simp [hv]
   rw [e]
   exact zap a h base A n c l w hown hbase hn ha hv
  ·have e : okA 119 a = false := by unfold okA; simp [hv]
   rw [e]
   exact Q5 a h base A n c l w hown hbase hn ha (by omega)
 ·by_cases hv : a.n < 4294967296
  ·have e : okA 100 a = zI a (agN a) := by unfold okA; simp [hv]
   rw [e]
   exact zaq a h base A n c l w hown hbase hn ha hv
  ·have e : okA 100 a = false := by unfold okA; simp [hv]
   rw [e]
   exact Q6 a h base A n c l w hown hbase hn ha (by omega)
 ·exact zaj a h base A n c l w hown hbase hn ha
 ·exact zak a h base A n c l w hown hbase hn ha
 ·exact zal a h base A n c l w hown hbase hn ha
 ·exact zam a h base A n c l w hown hbase hn ha
 ·exact zan a h base A n c l w hown hbase hn ha hT
end Go.PH
end

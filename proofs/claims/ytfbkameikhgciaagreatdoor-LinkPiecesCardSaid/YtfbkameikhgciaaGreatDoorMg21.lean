/- Texts laid together: MdSame, MdPut1. -/
import Derived.Test.YtfbkameikhgciaaGreatDoorMg00
import Derived.Test.YtfbkameikhgciaaGreatDoorMg07
import Derived.Test.YtfbkameikhgciaaGreatDoorMg11
import Derived.Test.YtfbkameikhgciaaGreatDoorMg20
set_option linter.all false
set_option linter.unusedSimpArgs false
set_option linter.unusedVariables false
set_option maxRecDepth 20000
set_option maxHeartbeats 8000000
section
namespace Go.PH
open Go.RowKit Go.Proofs
theorem Y2 (a b : Xd) (w : World) : (binOp .eql 73 (.agg (xdV a)) (.agg (xdV b))).run Tryz.prog w = .ok (.bool (decide (a = b))) w := by
 rw [run_eql_struct, QQ]
 rfl
theorem Xz (w : World) : Calls Tryz.prog 125 #[.slice none 0 0, .slice none 0 0] w fun e w' => e = .returned (.bool true) ∧ w = w' := by
 go_enter Tryz.func125, Tryz.ntmps125
 go_wp2_with (with_reducible refine h_A ?_)
 go_loop [13] (fun s => s = .int .i64 0) (fun _ => 0)
 case atStart => exact rfl
 case round =>
  obtain rfl := hrel
  go_wp2_with (with_reducible refine h_A ?_)
  go_ret
  exact ⟨rfl, rfl⟩
theorem QH (w : World) : Calls Tryz.prog 150 #[.slice none 0 0, .slice none 0 0] w fun e w' => e = .returned (.bool true) ∧ w = w' := by
 go_enter Tryz.func150, Tryz.ntmps150
 go_wp2_with (with_reducible refine h_A ?_)
 go_loop [13] (fun s => s = .int .i64 0) (fun _ => 0)
 case atStart => exact rfl
 case round =>
  obtain rfl := hrel
  go_wp2_with (with_reducible refine h_A ?_)
  go_ret
  exact ⟨rfl, rfl⟩
theorem QI (f : Value) (w : World) : Calls Tryz.prog 151 #[.slice none 0 0, .slice none 0 0, f] w fun e w' => e = .returned (.bool true) ∧ w = w' := by
 go_enter Tryz.func151, Tryz.ntmps151
 go_wp2_with (with_reducible refine h_A ?_)
 go_loop [17] (fun s => s = .int .i64 0) (fun _ => 0)
 case atStart => exact rfl
 case round =>
  obtain rfl := hrel
  go_wp2_with (with_reducible refine h_A ?_)
  go_ret
  exact ⟨rfl, rfl⟩
theorem XA (w : World) : Calls Tryz.prog 126 #[.agg #[.int .u8 0, .int .u64 0, .string ⟨#[]⟩, .slice none 0 0, .slice none 0 0], .agg #[.int .u8 0, .int .u64 0, .string ⟨#[]⟩, .slice none 0 0, .slice none 0 0]] w fun e w' => e = .returned (.bool true) ∧ Below w.heap.size w w' := by
 have hB0 := ((Below.refl w.heap.size w).alloc (Nat.le_refl _) (.cells #[.int .u8 0, .int .u64 0, .string ⟨#[]⟩, .slice none 0 0, .slice none 0 0] 78)).alloc (by simp) (.cells #[.int .u8 0, .int .u64 0, .string ⟨#[]⟩, .slice none 0 0, .slice none 0 0] 78)
 go_enter Tryz.func126, Tryz.ntmps126
 go_wp2_with (with_reducible refine h_A ?_)
 refine (QH _).mono ?_
 rintro e w1 ⟨rfl, rfl⟩
 go_wp2_with (with_reducible refine h_A ?_)
 refine (QI _ _).mono ?_
 rintro e w1 ⟨rfl, rfl⟩
 go_wp2_with (with_reducible refine h_A ?_)
 go_ret
 exact ⟨rfl, hB0⟩
def saV (is : Bool) (n : Nat) (s : List UInt8) : Array Value := #[.bool is, .int .u64 (n : Int), .string (str s), .int .u32 0, .string ⟨#[]⟩, .string ⟨#[]⟩, .slice none 0 0, .int .u8 0, .int .u64 0, .string ⟨#[]⟩, .slice none 0 0, .slice none 0 0]
theorem kG (is : Bool) (n : Nat) (s : List UInt8) (w : World) : Calls Tryz.prog 106 #[.agg (saV is n s), .agg (saV is n s)] w fun e w' => e = .returned (.bool true) ∧ Below w.heap.size w w' := by
 unfold saV
 have hB0 := ((Below.refl w.heap.size w).alloc (Nat.le_refl _) (.cells #[.bool is, .int .u64 (n : Int), .string (str s), .int .u32 0, .string ⟨#[]⟩, .string ⟨#[]⟩, .slice none 0 0, .int .u8 0, .int .u64 0, .string ⟨#[]⟩, .slice none 0 0, .slice none 0 0] 80)).alloc (by simp) (.cells #[.bool is, .int .u64 (n : Int), .string (str s), .int .u32 0, .string ⟨#[]⟩, .string ⟨#[]⟩, .slice none 0 0, .int .u8 0, .int .u64 0, .string ⟨#[]⟩, .slice none 0 0, .slice none 0 0] 80)
 have heq := fun w => Y2 ⟨0, [], []⟩ ⟨0, [], []⟩ w
 simp only [decide_true, xdV] at heq
 have b1 : (is == is) = true := by simp
 have b2 : ((n : Int) == (n : Int)) = true := by simp
 go_enter Tryz.func106, Tryz.ntmps106
 go_wp2_with (with_reducible refine h_A ?_)
 refine (Xz _).mono ?_
 rintro e w1 ⟨rfl, rfl⟩
 go_wp2_with (with_reducible refine h_A ?_)
 refine (XA _).mono ?_
 rintro e w1 ⟨rfl, hB1⟩
 go_wp2_with (with_reducible refine h_A ?_)
 go_ret
 exact ⟨rfl, hB0.trans (hB1.mono hB0.size)⟩
end Go.PH
end
section
namespace Go.PH
open Go.RowKit Go.Proofs
theorem yV (w : World) (cs ds : Array Value) (t : TypeId) : ∃ (ab rb : Nat) (v : World), ab = w.heap.size ∧ rb = w.heap.size + 1 ∧ v = (w.alloc (.cells cs t)).alloc (.cells ds t) ∧ Box v ab t cs ∧ Box v rb t ds ∧ Below w.heap.size w v :=
 ⟨_, _, _, rfl, rfl, rfl, (Box.new w cs t).alloc _, by have := Box.new (w.alloc (.cells cs t)) ds t; rwa [show (w.alloc (.cells cs t)).heap.size = w.heap.size + 1 by simp] at this, ((Below.refl _ _).alloc (Nat.le_refl _) _).alloc (by simp) _⟩
theorem zaz (s : List UInt8) (base : Nat) (A : Option Addr) (n c : Nat) (l : List UInt8) (w : World) (hown : OwnB w base A n c l) (hbase : base ≤ w.heap.size) (hn : n ≤ 100000000) (hs : s.length < 256) :
  Calls Tryz.prog 71 #[.slice A n c, .int .u8 115, .agg #[.bool true, .int .u64 0, .string (str s), .int .u32 0, .string ⟨#[]⟩, .string ⟨#[]⟩, .slice none 0 0, .int .u8 0, .int .u64 0, .string ⟨#[]⟩, .slice none 0 0, .slice none 0 0]] w (PutA w base (blk A) (l ++ (be 1 s.length ++ s))) := by
 have hte : zw s.length 1 = 0 := by simp [zw]; omega
 have hM : zF [] s 1 = be 1 s.length ++ s := by unfold zF; rw [if_pos hte]; rfl
 have hml : (be 1 s.length ++ s).length ≤ 300 := by rw [List.length_append]; simp [be]; omega
 have hpt := fun W => yF none 0 0 [] s 1 W (Rd.nil _ _ _ _ (by simp [maxLen]) _) (by omega) (by omega)
 rw [hte, hM] at hpt
 clear hte hM hs
 generalize be 1 s.length ++ s = M at *
 obtain ⟨ab, rb, v0, hqa, hqr, hqv, hba, hbr, hB0⟩ := yV w #[.bool true, .int .u64 0, .string (str s), .int .u32 0, .string ⟨#[]⟩, .string ⟨#[]⟩, .slice none 0 0, .int .u8 0, .int .u64 0, .string ⟨#[]⟩, .slice none 0 0, .slice none 0 0] #[.bool true, .int .u64 0, .string ⟨#[]⟩, .int .u32 0, .string ⟨#[]⟩, .string ⟨#[]⟩, .slice none 0 0, .int .u8 0, .int .u64 0, .string ⟨#[]⟩, .slice none 0 0, .slice none 0 0] 80
 have hab : w.heap.size ≤ ab := by omega
 have har : ab < rb := by omega
 have hblk : ∀ g, blk A = some g → g < ab := fun g hg => by have := (hown.blk_lt hg).2; omega
 have hbas : ∀ g, blk A = some g → base ≤ g := fun g hg => (hown.blk_lt hg).1
 have hown0 := zg hown hB0
 have hB0b : Below w.heap.size w v0 := hB0
 have hrv := hbr.lt
 have hrv1 := hrv
 have hnl : l.length = n := RdB.length hown.rd
 go_enter Tryz.func71, Tryz.ntmps71
 go_upto_region 2 with fail
 rw [← hqr, ← hqa, ← hqv]
 clear hqa hqr hqv hown hB0
 have x0 := hba.c0
 have x1 := hba.c1
 have x2 := hba.c2
 have x3 := hba.c3
 have x4 := hba.c4
 have x5 := hba.c5
 have x6 := hba.c6
 have x7 := hba.c7
 have x8 := hba.c8
 have x9 := hba.c9
 have xA := hba.c10
 have xB := hba.c11
 go_wp2_with (with_reducible refine h_B ?_)
 refine (hpt _).mono ?_
 rintro e w1 ⟨A1, c1, rfl, ho1, hB1'⟩
 have hba1 := hba.below hB1'
 have hbr1 := hbr.below hB1'
 have hown1 := zg hown0 hB1'
 have hB1 := hB0b.trans (hB1'.mono hB0b.size)
 clear hba hbr hown0 hB0b hB1' hpt
 clear x0 x1 x2 x3 x4 x5 x6 x7 x8 x9 xA xB
 have x0 := hba1.c0
 have x1 := hba1.c1
 have x2 := hba1.c2
 have x3 := hba1.c3
 have x4 := hba1.c4
 have x5 := hba1.c5
 have x6 := hba1.c6
 have x7 := hba1.c7
 have x8 := hba1.c8
 have x9 := hba1.c9
 have xA := hba1.c10
 have xB := hba1.c11
 go_wp2_with (with_reducible refine h_B ?_)
 refine zc (zm (v := .string (str s)) (vs := [.string (str s)]) rfl rfl rfl rfl hbr1 rfl (by kernel_rfl) (by simp) (by intro u hu; simp at hu; subst hu; rfl) #[.bool true, .int .u64 0, .string (str s), .int .u32 0, .string ⟨#[]⟩, .string ⟨#[]⟩, .slice none 0 0, .int .u8 0, .int .u64 0, .string ⟨#[]⟩, .slice none 0 0, .slice none 0 0] (by simp) ?_)
 intro w2 hbr2 hg2 _
 have hba2 := hba1.grown hg2 (sne (by omega))
 have hown2 := zf hown1 hg2 (fun g hg e => by injection e with e; have := hblk g hg; omega)
 have ho2 := zf ho1 hg2 (fun g hg e => by injection e with e; have := (ho1.blk_lt hg).1; omega)
 have hB2 := hB1.grown hg2 hB1.size (fun g hg => by injection hg with hg; omega)
 have hs2 := Nat.le_trans hbase hB2.size
 clear hba1 hbr1 hown1 ho1 hg2 hB1
 clear x0 x1 x2 x3 x4 x5 x6 x7 x8 x9 xA xB
 have x0 := hba2.c0
 have x1 := hba2.c1
 have x2 := hba2.c2
 have x3 := hba2.c3
 have x4 := hba2.c4
 have x5 := hba2.c5
 have x6 := hba2.c6
 have x7 := hba2.c7
 have x8 := hba2.c8
 have x9 := hba2.c9
 have xA := hba2.c10
 have xB := hba2.c11
 have y0 := hbr2.c0
 have y1 := hbr2.c1
 have y2 := hbr2.c2
 have y3 := hbr2.c3
 have y4 := hbr2.c4
 have y5 := hbr2.c5
 have y6 := hbr2.c6
 have y7 := hbr2.c7
 have y8 := hbr2.c8
 have y9 := hbr2.c9
 have yA := hbr2.c10
 have yB := hbr2.c11
 go_wp2_with (with_reducible refine h_B ?_)
 refine zc (yn slB rfl rfl rfl rfl hown2 ho2.rd (zU _) (by omega) (by unfold maxLen; omega) hs2 ?_)
 intro A3 c3 w3 ho3 hg3 hb3
 have hba3 := hba2.grown hg3 (by intro e; have := hblk _ e.symm; omega)
 have hbr3 := hbr2.grown hg3 (by intro e; have := hblk _ e.symm; omega)
 have hB3 := (hB2.mono hbase).grown hg3 hs2 (fun g hg => hbas g hg)
 have hK3 : KB w w3 (blk A) := ⟨Nat.le_trans hB2.size hg3.size, fun g hg hne => (hg3.block g (Nat.lt_of_lt_of_le hg hB2.size) (fun e => hne e.symm)).trans (hB2.block g hg)⟩
 clear x0 x1 x2 x3 x4 x5 x6 x7 x8 x9 xA xB
 clear y0 y1 y2 y3 y4 y5 y6 y7 y8 y9 yA yB
 clear hba2 hbr2 hown2 ho2 hg3 hB2 hb3
 have x0 := hba3.c0
 have x1 := hba3.c1
 have x2 := hba3.c2
 have x3 := hba3.c3
 have x4 := hba3.c4
 have x5 := hba3.c5
 have x6 := hba3.c6
 have x7 := hba3.c7
 have x8 := hba3.c8
 have x9 := hba3.c9
 have xA := hba3.c10
 have xB := hba3.c11
 have y0 := hbr3.c0
 have y1 := hbr3.c1
 have y2 := hbr3.c2
 have y3 := hbr3.c3
 have y4 := hbr3.c4
 have y5 := hbr3.c5
 have y6 := hbr3.c6
 have y7 := hbr3.c7
 have y8 := hbr3.c8
 have y9 := hbr3.c9
 have yA := hbr3.c10
 have yB := hbr3.c11
 go_wp2_with (with_reducible refine h_B ?_)
 refine (kG true 0 s _).mono ?_
 rintro e w4 ⟨rfl, hB4⟩
 have ho4 := zg ho3 hB4
 have hB5 := hB3.trans (hB4.mono (Nat.le_trans hbase hB3.size))
 have hK5 : KB w w4 (blk A) := ⟨Nat.le_trans hK3.1 hB4.size, fun g hg hne => (hB4.block g (Nat.lt_of_lt_of_le hg hK3.1)).trans (hK3.2 g hg hne)⟩
 clear hba3 hbr3 ho3 hB3 hB4 hK3
 clear x0 x1 x2 x3 x4 x5 x6 x7 x8 x9 xA xB
 clear y0 y1 y2 y3 y4 y5 y6 y7 y8 y9 yA yB
 go_wp2_with (with_reducible refine h_A ?_)
 go_ret2
 have e : (l ++ M).length = n + M.length := by simp [hnl]
 rw [← List.map_append, ← e] at ho4
 exact ⟨A3, c3, by rw [e]; rfl, ho4, hK5, hB5⟩
theorem zaA (s : List UInt8) (base : Nat) (A : Option Addr) (n c : Nat) (l : List UInt8) (w : World) (hown : OwnB w base A n c l) (hbase : base ≤ w.heap.size) (hn : n ≤ 100000000) (hs : s.length < 65536) :
  Calls Tryz.prog 71 #[.slice A n c, .int .u8 116, .agg #[.bool true, .int .u64 0, .string (str s), .int .u32 0, .string ⟨#[]⟩, .string ⟨#[]⟩, .slice none 0 0, .int .u8 0, .int .u64 0, .string ⟨#[]⟩, .slice none 0 0, .slice none 0 0]] w (PutA w base (blk A) (l ++ (be 2 s.length ++ s))) := by
 have hte : zw s.length 2 = 0 := by simp [zw]; omega
 have hM : zF [] s 2 = be 2 s.length ++ s := by unfold zF; rw [if_pos hte]; rfl
 have hml : (be 2 s.length ++ s).length ≤ 70000 := by rw [List.length_append]; simp [be]; omega
 have hpt := fun W => yF none 0 0 [] s 2 W (Rd.nil _ _ _ _ (by simp [maxLen]) _) (by omega) (by omega)
 rw [hte, hM] at hpt
 clear hte hM hs
 generalize be 2 s.length ++ s = M at *
 obtain ⟨ab, rb, v0, hqa, hqr, hqv, hba, hbr, hB0⟩ := yV w #[.bool true, .int .u64 0, .string (str s), .int .u32 0, .string ⟨#[]⟩, .string ⟨#[]⟩, .slice none 0 0, .int .u8 0, .int .u64 0, .string ⟨#[]⟩, .slice none 0 0, .slice none 0 0] #[.bool true, .int .u64 0, .string ⟨#[]⟩, .int .u32 0, .string ⟨#[]⟩, .string ⟨#[]⟩, .slice none 0 0, .int .u8 0, .int .u64 0, .string ⟨#[]⟩, .slice none 0 0, .slice none 0 0] 80
 have hab : w.heap.size ≤ ab := by omega
 have har : ab < rb := by omega
 have hblk : ∀ g, blk A = some g → g < ab := fun g hg => by have := (hown.blk_lt hg).2; omega
 have hbas : ∀ g, blk A = some g → base ≤ g := fun g hg => (hown.blk_lt hg).1
 have hown0 := zg hown hB0
 have hB0b : Below w.heap.size w v0 := hB0
 have hrv := hbr.lt
 have hrv1 := hrv
 have hnl : l.length = n := RdB.length hown.rd
 go_enter Tryz.func71, Tryz.ntmps71
 go_upto_region 2 with fail
 rw [← hqr, ← hqa, ← hqv]
 clear hqa hqr hqv hown hB0
 have x0 := hba.c0
 have x1 := hba.c1
 have x2 := hba.c2
 have x3 := hba.c3
 have x4 := hba.c4
 have x5 := hba.c5
 have x6 := hba.c6
 have x7 := hba.c7
 have x8 := hba.c8
 have x9 := hba.c9
 have xA := hba.c10
 have xB := hba.c11
 go_wp2_with (with_reducible refine h_B ?_)
 refine (hpt _).mono ?_
 rintro e w1 ⟨A1, c1, rfl, ho1, hB1'⟩
 have hba1 := hba.below hB1'
 have hbr1 := hbr.below hB1'
 have hown1 := zg hown0 hB1'
 have hB1 := hB0b.trans (hB1'.mono hB0b.size)
 clear hba hbr hown0 hB0b hB1' hpt
 clear x0 x1 x2 x3 x4 x5 x6 x7 x8 x9 xA xB
 have x0 := hba1.c0
 have x1 := hba1.c1
 have x2 := hba1.c2
 have x3 := hba1.c3
 have x4 := hba1.c4
 have x5 := hba1.c5
 have x6 := hba1.c6
 have x7 := hba1.c7
 have x8 := hba1.c8
 have x9 := hba1.c9
 have xA := hba1.c10
 have xB := hba1.c11
 go_wp2_with (with_reducible refine h_B ?_)
 refine zc (zm (v := .string (str s)) (vs := [.string (str s)]) rfl rfl rfl rfl hbr1 rfl (by kernel_rfl) (by simp) (by intro u hu; simp at hu; subst hu; rfl) #[.bool true, .int .u64 0, .string (str s), .int .u32 0, .string ⟨#[]⟩, .string ⟨#[]⟩, .slice none 0 0, .int .u8 0, .int .u64 0, .string ⟨#[]⟩, .slice none 0 0, .slice none 0 0] (by simp) ?_)
 intro w2 hbr2 hg2 _
 have hba2 := hba1.grown hg2 (sne (by omega))
 have hown2 := zf hown1 hg2 (fun g hg e => by injection e with e; have := hblk g hg; omega)
 have ho2 := zf ho1 hg2 (fun g hg e => by injection e with e; have := (ho1.blk_lt hg).1; omega)
 have hB2 := hB1.grown hg2 hB1.size (fun g hg => by injection hg with hg; omega)
 have hs2 := Nat.le_trans hbase hB2.size
 clear hba1 hbr1 hown1 ho1 hg2 hB1
 clear x0 x1 x2 x3 x4 x5 x6 x7 x8 x9 xA xB
 have x0 := hba2.c0
 have x1 := hba2.c1
 have x2 := hba2.c2
 have x3 := hba2.c3
 have x4 := hba2.c4
 have x5 := hba2.c5
 have x6 := hba2.c6
 have x7 := hba2.c7
 have x8 := hba2.c8
 have x9 := hba2.c9
 have xA := hba2.c10
 have xB := hba2.c11
 have y0 := hbr2.c0
 have y1 := hbr2.c1
 have y2 := hbr2.c2
 have y3 := hbr2.c3
 have y4 := hbr2.c4
 have y5 := hbr2.c5
 have y6 := hbr2.c6
 have y7 := hbr2.c7
 have y8 := hbr2.c8
 have y9 := hbr2.c9
 have yA := hbr2.c10
 have yB := hbr2.c11
 go_wp2_with (with_reducible refine h_B ?_)
 refine zc (yn slB rfl rfl rfl rfl hown2 ho2.rd (zU _) (by omega) (by unfold maxLen; omega) hs2 ?_)
 intro A3 c3 w3 ho3 hg3 hb3
 have hba3 := hba2.grown hg3 (by intro e; have := hblk _ e.symm; omega)
 have hbr3 := hbr2.grown hg3 (by intro e; have := hblk _ e.symm; omega)
 have hB3 := (hB2.mono hbase).grown hg3 hs2 (fun g hg => hbas g hg)
 have hK3 : KB w w3 (blk A) := ⟨Nat.le_trans hB2.size hg3.size, fun g hg hne => (hg3.block g (Nat.lt_of_lt_of_le hg hB2.size) (fun e => hne e.symm)).trans (hB2.block g hg)⟩
 clear x0 x1 x2 x3 x4 x5 x6 x7 x8 x9 xA xB
 clear y0 y1 y2 y3 y4 y5 y6 y7 y8 y9 yA yB
 clear hba2 hbr2 hown2 ho2 hg3 hB2 hb3
 have x0 := hba3.c0
 have x1 := hba3.c1
 have x2 := hba3.c2
 have x3 := hba3.c3
 have x4 := hba3.c4
 have x5 := hba3.c5
 have x6 := hba3.c6
 have x7 := hba3.c7
 have x8 := hba3.c8
 have x9 := hba3.c9
 have xA := hba3.c10
 have xB := hba3.c11
 have y0 := hbr3.c0
 have y1 := hbr3.c1
 have y2 := hbr3.c2
 have y3 := hbr3.c3
 have y4 := hbr3.c4
 have y5 := hbr3.c5
 have y6 := hbr3.c6
 have y7 := hbr3.c7
 have y8 := hbr3.c8
 have y9 := hbr3.c9
 have yA := hbr3.c10
 have yB := hbr3.c11
 go_wp2_with (with_reducible refine h_B ?_)
 refine (kG true 0 s _).mono ?_
 rintro e w4 ⟨rfl, hB4⟩
 have ho4 := zg ho3 hB4
 have hB5 := hB3.trans (hB4.mono (Nat.le_trans hbase hB3.size))
 have hK5 : KB w w4 (blk A) := ⟨Nat.le_trans hK3.1 hB4.size, fun g hg hne => (hB4.block g (Nat.lt_of_lt_of_le hg hK3.1)).trans (hK3.2 g hg hne)⟩
 clear hba3 hbr3 ho3 hB3 hB4 hK3
 clear x0 x1 x2 x3 x4 x5 x6 x7 x8 x9 xA xB
 clear y0 y1 y2 y3 y4 y5 y6 y7 y8 y9 yA yB
 go_wp2_with (with_reducible refine h_A ?_)
 go_ret2
 have e : (l ++ M).length = n + M.length := by simp [hnl]
 rw [← List.map_append, ← e] at ho4
 exact ⟨A3, c3, by rw [e]; rfl, ho4, hK5, hB5⟩
theorem zl : Maps.Keyed Tryz.prog 5 := Maps.int_keyed Tryz.underlying5
theorem Vq (v : Nat) (base : Nat) (A : Option Addr) (n c : Nat) (l : List UInt8) (w : World) (hown : OwnB w base A n c l) (hbase : base ≤ w.heap.size) (hn : n ≤ 100000000) (hv : v < 65536) :
  Calls Tryz.prog 71 #[.slice A n c, .int .u8 119, .agg #[.bool true, .int .u64 (v : Int), .string ⟨#[]⟩, .int .u32 0, .string ⟨#[]⟩, .string ⟨#[]⟩, .slice none 0 0, .int .u8 0, .int .u64 0, .string ⟨#[]⟩, .slice none 0 0, .slice none 0 0]] w (PutA w base (blk A) (l ++ be 2 v)) := by
 have hM : puts [] v 2 = be 2 v := by unfold puts; rw [if_pos (by decide)]; rfl
 have hml : (be 2 v).length ≤ 4 := by simp [be]
 have hpt := fun W => zX none 0 0 [] v 2 W (Rd.nil _ _ _ _ (by simp [maxLen]) _) (by omega) (by omega)
 rw [hM] at hpt
 have hmk := fun W => run_makeMap (P := Tryz.prog) 186 W
 obtain ⟨ab, rb, v0, hqa, hqr, hqv, hba, hbr, hB0⟩ := yV w #[.bool true, .int .u64 (v : Int), .string ⟨#[]⟩, .int .u32 0, .string ⟨#[]⟩, .string ⟨#[]⟩, .slice none 0 0, .int .u8 0, .int .u64 0, .string ⟨#[]⟩, .slice none 0 0, .slice none 0 0] #[.bool true, .int .u64 0, .string ⟨#[]⟩, .int .u32 0, .string ⟨#[]⟩, .string ⟨#[]⟩, .slice none 0 0, .int .u8 0, .int .u64 0, .string ⟨#[]⟩, .slice none 0 0, .slice none 0 0] 80
 have hab : w.heap.size ≤ ab := by omega
 have har : ab < rb := by omega
 have hblk : ∀ g, blk A = some g → g < ab := fun g hg => by have := (hown.blk_lt hg).2; omega
 have hbas : ∀ g, blk A = some g → base ≤ g := fun g hg => (hown.blk_lt hg).1
 have hown0 := zg hown hB0
 have hB0b : Below w.heap.size w v0 := hB0
 have hrv := hbr.lt
 have hrv1 := hrv
 have hnl : l.length = n := RdB.length hown.rd
 go_enter Tryz.func71, Tryz.ntmps71
 go_upto_region 2 with fail
 rw [← hqr, ← hqa, ← hqv]
 clear hqa hqr hqv hown hB0
 have hmap := World.ownsMap_made v0 Tryz.prog 5 (plainElem (H := Unit) Tryz.prog 3)
 have hba := hba.alloc (.map #[] 0)
 have hbr := hbr.alloc (.map #[] 0)
 have hown0 := hown0.alloc (.map #[] 0)
 have hB0b := hB0b.alloc hB0b.size (.map #[] 0)
 go_wp2_with (with_reducible refine h_M ?_)
 obtain ⟨mb, hmb⟩ : ∃ m, m = v0.heap.size := ⟨_, rfl⟩
 rw [← hmb] at hmap hrv ⊢
 clear hmb hmk
 generalize (v0.alloc (.map #[] 0)) = v1 at *
 refine zc (ze (H := Unit) _ rfl _ _ _ 186 rfl 5 3 zl Tryz.underlying186 (plainElem (H := Unit) Tryz.prog 3) _ _ _ rfl hmap (by simp [maxLen]) _ _ (.int .u8 110) rfl rfl (Maps.keyOf_int_mk Tryz.underlying5 (by decide)) (.lit (.int .i64 1)) [] (plainElem_int Tryz.underlying3 (by decide)) ?_)
 intro v2 hmap2 hgm
 have hba := hba.grown hgm (sne (by omega))
 have hbr := hbr.grown hgm (sne (by omega))
 have hown0 := zf hown0 hgm (fun g hg e => by injection e with e; have := hblk g hg; omega)
 have hB0b := hB0b.grown hgm hB0b.size (fun g hg => by injection hg with hg; omega)
 clear hmap hgm
 have hmap := hmap2
 clear hmap2
 go_wp2_with (with_reducible refine h_M ?_)
 refine zc (ze (H := Unit) _ rfl _ _ _ 186 rfl 5 3 zl Tryz.underlying186 (plainElem (H := Unit) Tryz.prog 3) _ _ _ rfl hmap (by simp [maxLen]) _ _ (.int .u8 119) rfl rfl (Maps.keyOf_int_mk Tryz.underlying5 (by decide)) (.lit (.int .i64 2)) [] (plainElem_int Tryz.underlying3 (by decide)) ?_)
 intro v3 hmap2 hgm
 have hba := hba.grown hgm (sne (by omega))
 have hbr := hbr.grown hgm (sne (by omega))
 have hown0 := zf hown0 hgm (fun g hg e => by injection e with e; have := hblk g hg; omega)
 have hB0b := hB0b.grown hgm hB0b.size (fun g hg => by injection hg with hg; omega)
 clear hmap hgm
 have hmap := hmap2
 clear hmap2
 go_wp2_with (with_reducible refine h_M ?_)
 refine zc (ze (H := Unit) _ rfl _ _ _ 186 rfl 5 3 zl Tryz.underlying186 (plainElem (H := Unit) Tryz.prog 3) _ _ _ rfl hmap (by simp [maxLen]) _ _ (.int .u8 100) rfl rfl (Maps.keyOf_int_mk Tryz.underlying5 (by decide)) (.lit (.int .i64 4)) [] (plainElem_int Tryz.underlying3 (by decide)) ?_)
 intro v4 hmap2 hgm
 have hba := hba.grown hgm (sne (by omega))
 have hbr := hbr.grown hgm (sne (by omega))
 have hown0 := zf hown0 hgm (fun g hg e => by injection e with e; have := hblk g hg; omega)
 have hB0b := hB0b.grown hgm hB0b.size (fun g hg => by injection hg with hg; omega)
 clear hmap hgm
 obtain ⟨cc, hrun, hat, _⟩ := hmap2.lookup_int (t := 186) zl Tryz.underlying186 Tryz.underlying3 (Tryz.zeroValue3 _) (key := .int .u8 119) (kl := .int .u8 119) (Maps.keyOf_int_mk Tryz.underlying5 (by decide))
 have hcc : DataW.lit (H := Unit) (.int .i64 2) = .lit (.int .i64 cc) := Eq.trans (by kernel_rfl) hat
 injection hcc with hcc
 injection hcc with _ hcc
 subst hcc
 clear hat
 have x0 := hba.c0
 have x1 := hba.c1
 have x2 := hba.c2
 have x3 := hba.c3
 have x4 := hba.c4
 have x5 := hba.c5
 have x6 := hba.c6
 have x7 := hba.c7
 have x8 := hba.c8
 have x9 := hba.c9
 have xA := hba.c10
 have xB := hba.c11
 go_wp2_with (with_reducible refine h_M ?_)
 refine (hpt _).mono ?_
 rintro e w1 ⟨A1, c1, rfl, ho1, hB1'⟩
 have hba1 := hba.below hB1'
 have hbr1 := hbr.below hB1'
 have hown1 := zg hown0 hB1'
 have hB1 := hB0b.trans (hB1'.mono hB0b.size)
 have hrv1 : rb < v4.heap.size := hbr.lt
 clear hba hbr hown0 hB0b hB1' hpt hrun hmap2
 clear x0 x1 x2 x3 x4 x5 x6 x7 x8 x9 xA xB
 have x0 := hba1.c0
 have x1 := hba1.c1
 have x2 := hba1.c2
 have x3 := hba1.c3
 have x4 := hba1.c4
 have x5 := hba1.c5
 have x6 := hba1.c6
 have x7 := hba1.c7
 have x8 := hba1.c8
 have x9 := hba1.c9
 have xA := hba1.c10
 have xB := hba1.c11
 go_wp2_with (with_reducible refine h_B ?_)
 refine zc (zm (v := .int .u64 (v : Int)) (vs := [.int .u64 (v : Int)]) rfl rfl rfl rfl hbr1 rfl (by kernel_rfl) (by simp) (by intro u hu; simp at hu; subst hu; rfl) #[.bool true, .int .u64 (v : Int), .string ⟨#[]⟩, .int .u32 0, .string ⟨#[]⟩, .string ⟨#[]⟩, .slice none 0 0, .int .u8 0, .int .u64 0, .string ⟨#[]⟩, .slice none 0 0, .slice none 0 0] (by simp) ?_)
 intro w2 hbr2 hg2 _
 have hba2 := hba1.grown hg2 (sne (by omega))
 have hown2 := zf hown1 hg2 (fun g hg e => by injection e with e; have := hblk g hg; omega)
 have ho2 := zf ho1 hg2 (fun g hg e => by injection e with e; have := (ho1.blk_lt hg).1; omega)
 have hB2 := hB1.grown hg2 hB1.size (fun g hg => by injection hg with hg; omega)
 have hs2 := Nat.le_trans hbase hB2.size
 clear hba1 hbr1 hown1 ho1 hg2 hB1
 clear x0 x1 x2 x3 x4 x5 x6 x7 x8 x9 xA xB
 have x0 := hba2.c0
 have x1 := hba2.c1
 have x2 := hba2.c2
 have x3 := hba2.c3
 have x4 := hba2.c4
 have x5 := hba2.c5
 have x6 := hba2.c6
 have x7 := hba2.c7
 have x8 := hba2.c8
 have x9 := hba2.c9
 have xA := hba2.c10
 have xB := hba2.c11
 have y0 := hbr2.c0
 have y1 := hbr2.c1
 have y2 := hbr2.c2
 have y3 := hbr2.c3
 have y4 := hbr2.c4
 have y5 := hbr2.c5
 have y6 := hbr2.c6
 have y7 := hbr2.c7
 have y8 := hbr2.c8
 have y9 := hbr2.c9
 have yA := hbr2.c10
 have yB := hbr2.c11
 go_wp2_with (with_reducible refine h_B ?_)
 refine zc (yn slB rfl rfl rfl rfl hown2 ho2.rd (zU _) (by omega) (by unfold maxLen; omega) hs2 ?_)
 intro A3 c3 w3 ho3 hg3 hb3
 have hba3 := hba2.grown hg3 (by intro e; have := hblk _ e.symm; omega)
 have hbr3 := hbr2.grown hg3 (by intro e; have := hblk _ e.symm; omega)
 have hB3 := (hB2.mono hbase).grown hg3 hs2 (fun g hg => hbas g hg)
 have hK3 : KB w w3 (blk A) := ⟨Nat.le_trans hB2.size hg3.size, fun g hg hne => (hg3.block g (Nat.lt_of_lt_of_le hg hB2.size) (fun e => hne e.symm)).trans (hB2.block g hg)⟩
 clear x0 x1 x2 x3 x4 x5 x6 x7 x8 x9 xA xB
 clear y0 y1 y2 y3 y4 y5 y6 y7 y8 y9 yA yB
 clear hba2 hbr2 hown2 ho2 hg3 hB2 hb3
 have x0 := hba3.c0
 have x1 := hba3.c1
 have x2 := hba3.c2
 have x3 := hba3.c3
 have x4 := hba3.c4
 have x5 := hba3.c5
 have x6 := hba3.c6
 have x7 := hba3.c7
 have x8 := hba3.c8
 have x9 := hba3.c9
 have xA := hba3.c10
 have xB := hba3.c11
 have y0 := hbr3.c0
 have y1 := hbr3.c1
 have y2 := hbr3.c2
 have y3 := hbr3.c3
 have y4 := hbr3.c4
 have y5 := hbr3.c5
 have y6 := hbr3.c6
 have y7 := hbr3.c7
 have y8 := hbr3.c8
 have y9 := hbr3.c9
 have yA := hbr3.c10
 have yB := hbr3.c11
 go_wp2_with (with_reducible refine h_B ?_)
 refine (kG true v [] _).mono ?_
 rintro e w4 ⟨rfl, hB4⟩
 have ho4 := zg ho3 hB4
 have hB5 := hB3.trans (hB4.mono (Nat.le_trans hbase hB3.size))
 have hK5 : KB w w4 (blk A) := ⟨Nat.le_trans hK3.1 hB4.size, fun g hg hne => (hB4.block g (Nat.lt_of_lt_of_le hg hK3.1)).trans (hK3.2 g hg hne)⟩
 clear hba3 hbr3 ho3 hB3 hB4 hK3
 clear x0 x1 x2 x3 x4 x5 x6 x7 x8 x9 xA xB
 clear y0 y1 y2 y3 y4 y5 y6 y7 y8 y9 yA yB
 go_wp2_with (with_reducible refine h_A ?_)
 go_ret2
 have e : (l ++ be 2 v).length = n + (be 2 v).length := by simp [hnl]
 rw [← List.map_append, ← e] at ho4
 exact ⟨A3, c3, by rw [e]; rfl, ho4, hK5, hB5⟩
end Go.PH
end

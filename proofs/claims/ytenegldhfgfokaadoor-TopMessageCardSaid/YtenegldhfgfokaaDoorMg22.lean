/- Texts laid together: TbAwake. -/
import Derived.Lib.SlBytesConst
import Derived.Test.YtenegldhfgfokaaDoorMg03
import Derived.Test.YtenegldhfgfokaaDoorMg04
import Derived.Test.YtenegldhfgfokaaDoorMg21
set_option linter.all false
set_option linter.unusedSimpArgs false
set_option linter.unusedVariables false
section
/- awake: the calls whose answers are known. -/
namespace Go.PH
open Go.RowKit Go.Proofs

theorem bplOwn : BPl 133 2 0 := ⟨by kernel_rfl, by omega⟩
set_option maxRecDepth 20000 in
theorem wbyte_any {T size off g base n c : Nat} (hp : BPl T size off) (w : World) (cs : Array Value) (hb : Box w g T cs) (hs : cs.size = size) (p : Value) (h0 : cs[off]? = some p) (hpp : p = .pointer none ∨ p = bPtr g off) (A : Option Addr) (l : List UInt8) (x : UInt8) (h1 : cs[off + 1]? = some (.slice A n c))
  (hown : Own w base 5 1 A n c (l.map u8v)) (hne : blk A ≠ some g) (hbase : base ≤ w.heap.size) (hsz : n ≤ 100000000000) :
  Calls Tryd.prog 62 #[.pointer (some ⟨g, off, none⟩), .int .u8 (x.toNat : Int)] w fun e w' => e = .returned .nilIface ∧ Wrote w T g off base cs A (l ++ [x]) w' := by
 have hln := OwnB_len hown
 have hck := copyCheck_any hp w cs hb hs p h0 hpp
 have HN : Hid (n + 1 = (l ++ [x]).length) := Lib.hid (by simp [hln])
 clear hln
 go_enter Tryd.func62, Tryd.ntmps62
 go_wp2_with (with_reducible refine h_B ?_)
 refine hck.mono ?_
 rintro e w1 ⟨rfl, hb1, hg1, hz1⟩
 have k1 := hb1.cell (get_set1 h1)
 have ho1 := own_stays hown hg1 (fun k hk e => hne (by rw [hk, ← e]))
 have hbase1 : base ≤ w1.heap.size := by omega
 have HZ := Lib.hid hz1
 clear hz1
 have hBa := (Below.refl w1.heap.size w1).alloc (Nat.le_refl _) (.cells #[Value.int .u8 (x.toNat : Int)] 5)
 have hr1 : RdB (w1.alloc (.cells #[Value.int .u8 (x.toNat : Int)] 5)) (w1.alloc (.cells #[Value.int .u8 (x.toNat : Int)] 5)).heap.size (some ⟨w1.heap.size, 0, none⟩) 1 1 [x] := rd_new w1 _ _ _ 1 1 rfl (by omega) (by simp [maxLen])
 go_wp2_with (with_reducible refine h_B ?_)
 refine unhold (wp_app slB rfl rfl rfl rfl (ho1.alloc _) hr1 (map_one _) (by omega) (by simp [maxLen]; omega) (Nat.le_trans hbase1 hBa.size) ?_)
 intro A2 c2 w2 ho2 hg2 hA2
 have hg3 := (World.grownBy_alloc w1 (.cells #[Value.int .u8 (x.toNat : Int)] 5) (blk A)).trans hg2
 rw [← List.map_append] at ho2
 have hb2 := hb1.grown hg3 (fun e => hne e.symm)
 have hlt : off + 1 < (cs.setIfInBounds off (bPtr g off)).size := by rw [Array.size_setIfInBounds, hs]; exact hp.lt
 have hA3 : blk A2 = blk A ∨ ∀ k, blk A2 = some k → w1.heap.size ≤ k := hA2.imp id (fun e k hk => by rw [e] at hk; injection hk with hk; have := hBa.size; omega)
 clear hA2 hg2 hBa hr1
 go_wp2_with (with_reducible refine h_B ?_)
 refine unhold (wp_boxAt rfl rfl rfl rfl hb2 (j := off + 1) (v := .slice A2 (n + 1) c2) rfl (by kernel_rfl) hlt ?_)
 intro w3 hb3 hg4 hz3
 clear hz3
 go_wp2_with (with_reducible refine h_B ?_)
 go_ret
 exact ⟨rfl, wrote_of hb hown hne HN.out hb1 hg1 HZ.out ho2 hg3 hA3 hb3 hg4⟩
/-- a Builder of one's own, and what was written into it -/
def BldI (w : World) (l : List UInt8) (wr : World) : Prop := ∃ (m c : Nat) (A : Option Addr) (cs : Array Value) (p : Value), Box wr w.heap.size 133 cs ∧ cs.size = 2 ∧ cs[0]? = some p ∧ (p = .pointer none ∨ p = bPtr w.heap.size 0) ∧ cs[0 + 1]? = some (.slice A m c) ∧
 Own wr w.heap.size 5 1 A m c (l.map u8v) ∧ blk A ≠ some w.heap.size ∧ Below w.heap.size w wr
theorem BldI.new (w : World) : BldI w [] (w.alloc (.cells #[.pointer none, .slice none 0 0] 133)) :=
 ⟨0, 0, none, _, _, Box.new _ _ _, rfl, rfl, .inl rfl, rfl, Own.none_ _ _ _ _, (by intro e; cases e), (Below.refl _ _).alloc (Nat.le_refl _) _⟩
theorem BldI.below {w wr : World} {l : List UInt8} (h : BldI w l wr) : Below w.heap.size w wr := by
 obtain ⟨m, c, A, cs, p, _, _, _, _, _, _, _, h⟩ := h
 exact h
theorem BldI.drew {w wr : World} {l : List UInt8} (h : BldI w l wr) : BldI w l wr.drew := by
 obtain ⟨m, c, A, cs, p, hb, hs, h0, hp, h1, ho, hne, hB⟩ := h
 exact ⟨m, c, A, cs, p, hb, hs, h0, hp, h1, ho, hne, below_drewN hB 1⟩
theorem BldI.wbyte {w wr : World} {l : List UInt8} (h : BldI w l wr) (x : UInt8) (hl : l.length ≤ 100000000000) :
  Calls Tryd.prog 62 #[.pointer (some ⟨w.heap.size, 0, none⟩), .int .u8 (x.toNat : Int)] wr fun e w' => e = .returned .nilIface ∧ BldI w (l ++ [x]) w' := by
 obtain ⟨m, c, A, cs, p, hb, hs, h0, hp, h1, ho, hne, hB⟩ := h
 have hln := OwnB_len ho
 refine (wbyte_any bplOwn wr cs hb hs p h0 hp A l x h1 ho hne hB.size (by omega)).mono ?_
 rintro e w' ⟨rfl, ⟨A2, c2, hb2, ho2, hne2, hA2⟩, hk⟩
 refine ⟨rfl, _, c2, A2, _, _, hb2, by simp [hs], ?_, .inr rfl, ?_, ho2, hne2, hB.trans (hk.toBelow hB.size ?_)⟩
 ·rw [Array.getElem?_setIfInBounds_ne (by omega), Array.getElem?_setIfInBounds_self_of_lt (by omega)]
 ·rw [Array.getElem?_setIfInBounds_self_of_lt (by simp; omega)]
 ·intro k hk
  rcases hk with rfl | hk
  ·exact Nat.le_refl _
  ·exact (ho.blk_lt hk).1
theorem BldI.text {w wr : World} {l : List UInt8} (h : BldI w l wr) :
  Calls Tryd.prog 63 #[.pointer (some ⟨w.heap.size, 0, none⟩)] wr fun e w' => e = .returned (.string (str l)) ∧ Below w.heap.size w w' := by
 obtain ⟨m, c, A, cs, p, hb, hs, h0, hp, h1, ho, hne, hB⟩ := h
 refine (bstr_any wr cs hb A l h1 ho).mono ?_
 rintro e w' ⟨rfl, hk⟩
 exact ⟨rfl, hB.trans (hk.toBelow hB.size fun k hk => (ho.blk_lt hk).1)⟩
set_option maxRecDepth 20000 in
set_option maxHeartbeats 1000000 in
theorem hexs_any (l : List UInt8) (w : World) (hl : l.length ≤ 1000) :
  Calls Tryd.prog 42 #[.string (str l)] w fun e w' => e = .returned (.string (str (hexB l))) ∧ Below w.heap.size w w' := by
 obtain ⟨n, hn⟩ : ∃ n, n = l.length := ⟨_, rfl⟩
 have hss : (str l).size = n := by rw [str_size]; exact hn.symm
 rw [← hn] at hl
 have HN := Lib.hid hn
 clear hn
 have HI0 := BldI.new w
 go_enter Tryd.func42, Tryd.ntmps42
 go_wp2_with (with_reducible refine h_A ?_)
 go_loopw [7] (fun s wr => ∃ k : Nat, k ≤ n ∧ s = .int .i64 k ∧ BldI w (hexB (l.take k)) wr) (fun s _ => n - (RowKit.intOf s).toNat)
 case atStart => exact ⟨0, by omega, rfl, HI0⟩
 case round =>
  obtain ⟨k, hk, rfl, hI⟩ := hrel
  by_cases hlt : k < n
  ·have hkn : (k : Int) < (n : Int) := by omega
   have hkl : k < l.length := by rw [← HN.out]; exact hlt
   have hx : (((str l)[k]'(by rw [hss]; exact hlt)).toNat : Int) = (l[k].toNat : Int) := rfl
   have HS := Lib.hid (hexB_snoc hkl)
   have hlen := hexB_len (l.take k)
   rw [List.length_take_of_le (by omega)] at hlen
   have hxb := l[k].toNat_lt
   generalize l[k] = x at *
   have hs1 := signs_at ⟨x.toNat / 16, by omega⟩
   have hs2 := signs_at ⟨x.toNat % 16, by omega⟩
   simp only [signsB] at hs1 hs2
   generalize signU (x.toNat / 16) = y1 at *
   generalize signU (x.toNat % 16) = y2 at *
   have hand : bits .and .u8 (x.toNat : Int) 15 = ((x.toNat % 16 : Nat) : Int) := by
    have h1 := u8_and_nat x.toNat 15 x.toNat_lt (by omega)
    rw [show ((15 : Nat) : Int) = 15 from rfl] at h1
    rw [h1, show (15 : Nat) = 2 ^ 4 - 1 from rfl, Nat.and_two_pow_sub_one_eq_mod]
   have hlen2 : (hexB (l.take k)).length ≤ 10000 := by omega
   clear hlen
   go_wp2_with (with_reducible refine h_A ?_)
   refine (hI.wbyte _ (by omega)).mono ?_
   rintro e w1 ⟨rfl, hI1⟩
   go_wp2_with (with_reducible refine h_A ?_)
   refine (hI1.wbyte _ (by simp; omega)).mono ?_
   rintro e w2 ⟨rfl, hI2⟩
   have hI3 : BldI w (hexB (l.take (k + 1))) w2 := by
    rw [HS.out]
    simpa using hI2
   clear hI2 hI1 hI
   go_wp2_with (with_reducible refine h_A ?_)
   exact ⟨⟨k + 1, by omega, by go_num, hI3⟩, by simp [RowKit.intOf]; omega⟩
  ·obtain rfl : k = n := by omega
   rw [HN.out, List.take_length] at hI
   go_wp2_with (with_reducible refine h_A ?_)
   refine hI.text.mono ?_
   rintro e w1 ⟨rfl, hB1⟩
   go_wp2_with (with_reducible refine h_A ?_)
   go_ret
   exact ⟨rfl, hB1⟩
set_option maxRecDepth 20000 in
theorem small7_any (w : World) : Calls Tryd.prog 70 #[.int .i64 7] w fun e w' => e = .returned (.string (str [55])) ∧ w' = w := by
 go_enter Tryd.func70, Tryd.ntmps70
 go_wp2_with (with_reducible refine h_A ?_)
 go_ret
 exact ⟨rfl, rfl⟩
set_option maxRecDepth 20000 in
theorem ifmt7_any (w : World) : Calls Tryd.prog 61 #[.int .u64 7, .int .i64 10] w fun e w' => e = .returned (.string (str [55])) ∧ Below w.heap.size w w' := by
 go_enter Tryd.func61, Tryd.ntmps61
 go_wp2_with (with_reducible refine h_A ?_)
 refine (small7_any _).mono ?_
 rintro e w1 ⟨rfl, rfl⟩
 go_wp2_with (with_reducible refine h_A ?_)
 go_ret
 exact ⟨rfl, Below.refl _ _⟩
set_option maxRecDepth 20000 in
theorem fmt7_any (w : World) : Calls Tryd.prog 41 #[.int .u64 7, .int .i64 10] w fun e w' => e = .returned (.string (str [55])) ∧ Below w.heap.size w w' := by
 go_enter Tryd.func41, Tryd.ntmps41
 go_wp2_with (with_reducible refine h_A ?_)
 refine (ifmt7_any w).mono ?_
 rintro e w1 ⟨rfl, hB⟩
 go_wp2_with (with_reducible refine h_A ?_)
 go_ret
 exact ⟨rfl, hB⟩
theorem str_dot : (⟨#[46]⟩ : ByteArray) = str [46] := rfl
theorem dots (d a b : List UInt8) : str (d ++ [46] ++ a ++ [46] ++ b) = str d ++ ⟨#[46]⟩ ++ str a ++ ⟨#[46]⟩ ++ str b := by
 rw [str_dot]; simp only [str_app]
set_option maxRecDepth 20000 in
set_option maxHeartbeats 1000000 in
theorem textG_any (x : Xd) (d hg hh : List UInt8) (w : World) (hw : x.wf) (hok : x.ok = true) (hfm : ∀ w, Calls Tryd.prog 41 #[.int .u64 (x.fmt : Int), .int .i64 10] w fun e w' => e = .returned (.string (str d)) ∧ Below w.heap.size w w')
  (hhg : ∀ w, Calls Tryd.prog 42 #[.string (str x.glob)] w fun e w' => e = .returned (.string (str hg)) ∧ Below w.heap.size w w') (hhh : ∀ w, Calls Tryd.prog 42 #[.string (str x.bran)] w fun e w' => e = .returned (.string (str hh)) ∧ Below w.heap.size w w')
  (l1 : d.length ≤ 20) (l2 : hg.length ≤ 200) (l3 : hh.length ≤ 200) :
  Calls Tryd.prog 19 #[.agg (xdV x)] w fun e w' => e = .returned (.tuple #[.string (str (d ++ [46] ++ hg ++ [46] ++ hh)), .int .i64 0]) ∧ Below w.heap.size w w' := by
 have hc := fun w => check_any x w hw
 have hB0 : Below w.heap.size w (w.alloc (.cells (xdV x) 69)) := (Below.refl _ _).alloc (Nat.le_refl _) _
 have hb0 : Box (w.alloc (.cells (xdV x) 69)) w.heap.size 69 (xdV x) := Box.new _ _ _
 have he : x.err = 0 := by simp [Xd.err, hok]
 obtain ⟨tx, ht⟩ : ∃ tx, tx = d ++ [46] ++ hg ++ [46] ++ hh := ⟨_, rfl⟩
 rw [← ht]
 have HT := Lib.hid ht
 clear ht
 rw [he] at hc
 clear hok
 obtain ⟨f, g, h⟩ := x
 obtain ⟨hf, _, _⟩ := hw
 unfold xdV at *
 simp only at hc hB0 hb0 HT hf hfm hhg hhh ⊢
 have s1 : (str d).size = d.length := str_size _
 have s2 : (str hg).size = hg.length := str_size _
 have s3 : (str hh).size = hh.length := str_size _
 have hwf : IntKind.u64.wrap (f : Int) = (f : Int) := IntWalk.u64_in _ ⟨by omega, by omega⟩
 have q1 : ¬ 9223372036854775807 < (str d).size + 1 := by omega
 have q2 : ¬ 9223372036854775807 < (str d).size + 1 + (str hg).size := by omega
 have q3 : ¬ 9223372036854775807 < (str d).size + 1 + (str hg).size + 1 := by omega
 have q4 : ¬ 9223372036854775807 < (str d).size + 1 + (str hg).size + 1 + (str hh).size := by omega
 clear l1 l2 l3 s1 s2 s3 he
 go_enter Tryd.func19, Tryd.ntmps19
 go_wp2_with (with_reducible refine h_A ?_)
 refine (hc _).mono ?_
 rintro e w1 ⟨rfl, hB1⟩
 have hB2 := hB0.trans (hB1.mono hB0.size)
 have hb2 := hb0.below hB1
 clear hb0 hB0 hB1 hc
 go_wp2_with (with_reducible refine h_A ?_)
 refine rg_start (fun wx : World => Box wx w.heap.size 69 #[.int .u32 (f : Int), .string (str g), .string (str h)] ∧ Below w.heap.size w wx) (by kernel_rfl) ?_
 have hS : Box w1.drew w.heap.size 69 #[.int .u32 (f : Int), .string (str g), .string (str h)] ∧ Below w.heap.size w w1.drew := ⟨hb2, below_drewN hB2 1⟩
 refine rg_t 0 hS ?_
 simp only [List.getElem_toArray, List.getElem_cons_zero, Act.put, List.setIfInBounds_toArray, List.set_cons_zero, List.set_cons_succ]
 refine rg_take 1 (v := ?_) rfl (by kernel_rfl) (by kernel_rfl) (by kernel_rfl) hS rfl ?_ ?_
 rotate_left
 ·intro wS hSw; have k0 := hSw.1.cell (j := 0) rfl; go_simp; (with_reducible rfl)
 simp only [g_S, Act.put]
 refine rg_t 2 hS ?_
 simp only [g_S, Act.put]
 refine rg_t 5 hS ?_
 simp only [g_S, Act.put]
 refine rg_take 6 (v := ?_) rfl (by kernel_rfl) (by kernel_rfl) (by kernel_rfl) hS rfl ?_ ?_
 rotate_left
 ·intro wS hSw; have k0 := hSw.1.cell (j := 1) rfl; go_simp; (with_reducible rfl)
 simp only [g_S, Act.put]
 refine rg_t 10 hS ?_
 simp only [g_S, Act.put]
 refine rg_take 11 (v := ?_) rfl (by kernel_rfl) (by kernel_rfl) (by kernel_rfl) hS rfl ?_ ?_
 rotate_left
 ·intro wS hSw; have k0 := hSw.1.cell (j := 2) rfl; go_simp; (with_reducible rfl)
 simp only [g_S, Act.put]
 refine rg_one 3 rfl (by kernel_rfl) rfl (fun K hK => ?_)
 go_simp
 refine (hfm w1.drew).mono ?_
 rintro e w3 ⟨rfl, hB3⟩
 have hS3 : Box w3 w.heap.size 69 #[.int .u32 (f : Int), .string (str g), .string (str h)] ∧ Below w.heap.size w w3 := ⟨hS.1.below hB3, hS.2.trans (hB3.mono hS.2.size)⟩
 refine hK _ _ hS3 ?_; clear hK K
 refine rg_t 4 hS3 ?_
 simp only [g_S, Act.put]
 refine rg_one 7 rfl (by kernel_rfl) rfl (fun K hK => ?_)
 go_simp
 refine (hhg w3).mono ?_
 rintro e w4 ⟨rfl, hB4⟩
 have hS4 : Box w4 w.heap.size 69 #[.int .u32 (f : Int), .string (str g), .string (str h)] ∧ Below w.heap.size w w4 := ⟨hS3.1.below hB4, hS3.2.trans (hB4.mono hS3.2.size)⟩
 refine hK _ _ hS4 ?_; clear hK K
 refine rg_t 8 hS4 ?_
 simp only [g_S, Act.put]
 refine rg_t 9 hS4 ?_
 simp only [g_S, Act.put]
 refine rg_one 12 rfl (by kernel_rfl) rfl (fun K hK => ?_)
 go_simp
 refine (hhh w4).mono ?_
 rintro e w5 ⟨rfl, hB5⟩
 have hS5 : Box w5 w.heap.size 69 #[.int .u32 (f : Int), .string (str g), .string (str h)] ∧ Below w.heap.size w w5 := ⟨hS4.1.below hB5, hS4.2.trans (hB5.mono hS4.2.size)⟩
 refine hK _ _ hS5 ?_; clear hK K
 refine rg_t 13 hS5 ?_
 simp only [g_S, Act.put]
 refine rg_t 14 hS5 ?_
 simp only [g_S, Act.put]
 refine rg_t 15 hS5 ?_
 simp only [g_S, Act.put]
 refine rg_end (by kernel_rfl) ?_
 go_wp2_with (with_reducible refine h_A ?_)
 go_ret2
 rw [HT.out, dots]
 exact ⟨rfl, hS5.2⟩
theorem text7_any (w : World) : Calls Tryd.prog 19 #[.agg #[.int .u32 7, .string ⟨#[97]⟩, .string ⟨#[]⟩]] w fun e w' => e = .returned (.tuple #[.string ⟨#[55, 46, 54, 49, 46]⟩, .int .i64 0]) ∧ Below w.heap.size w w' :=
 textG_any ⟨7, [97], []⟩ [55] [54, 49] [] w ⟨by decide, by decide, by decide⟩ (by decide) fmt7_any (fun w => hexs_any [97] w (by decide)) (fun w => hexs_any [] w (by decide)) (by decide) (by decide) (by decide)
set_option maxRecDepth 20000 in
set_option maxHeartbeats 1000000 in
theorem awake_any (w : World) (ht : TabAt w) (hg0 : 0 < w.heap.size) :
  Calls Tryd.prog 5 #[] w fun e w' => e = .returned (.bool true) ∧ Below w.heap.size w w' := by
 have kc := fun (w : World) (C : Array Value) (n c : Nat) => Lib.run_convert_bytes_const (P := Tryd.prog) w 47 5 C n c Tryd.underlying47 Tryd.underlying5
 have h7 := text7_any w
 go_enter Tryd.func5, Tryd.ntmps5
 go_wp2_with (with_reducible refine h_A ?_)
 (with_reducible refine h7.mono ?_)
 rintro e w2 ⟨rfl, hBb⟩
 go_wp2_with (with_reducible refine h_A ?_)
 have hz2 := hBb.size
 have h9 : RdB (w2.alloc (.cells #[Value.int .u8 49, .int .u8 50, .int .u8 51, .int .u8 52, .int .u8 53, .int .u8 54, .int .u8 55, .int .u8 56, .int .u8 57] 5 (9, 10)))
   (w2.alloc (.cells #[Value.int .u8 49, .int .u8 50, .int .u8 51, .int .u8 52, .int .u8 53, .int .u8 54, .int .u8 55, .int .u8 56, .int .u8 57] 5 (9, 10))).heap.size (some ⟨w2.heap.size, 0, none⟩) 9 9 [49, 50, 51, 52, 53, 54, 55, 56, 57] :=
  rd_new w2 _ _ _ 9 9 rfl (by omega) (by simp [maxLen])
 have hBc : Below w.heap.size w (w2.alloc (.cells #[Value.int .u8 49, .int .u8 50, .int .u8 51, .int .u8 52, .int .u8 53, .int .u8 54, .int .u8 55, .int .u8 56, .int .u8 57] 5 (9, 10))) := hBb.alloc hz2 _
 refine (sum_any (some ⟨w2.heap.size, 0, none⟩) 9 9 [49, 50, 51, 52, 53, 54, 55, 56, 57] _ _ h9 (ht.below hBc hg0) (by omega)).mono ?_
 rintro e w3 ⟨rfl, rfl⟩
 rw [sum_check]
 go_wp2_with (with_reducible refine h_A ?_)
 go_ret
 exact ⟨rfl, hBc⟩
end Go.PH
end

/- Texts laid together: OctWalk, OctPut, FrPut, GaKey. -/
import Derived.BigQuiet
import Derived.Deep.QuietTactic
import Derived.Deep.RegionWith
import Derived.Test.YtfbkameikhgciaaGreatDoorProg
import Derived.DeepKeys4
import Derived.Test.YtfbkameikhgciaaGreatDoorMg00
import Derived.Test.YtfbkameikhgciaaGreatDoorMg01
import Derived.Test.YtfbkameikhgciaaGreatDoorMg02
set_option linter.all false
set_option linter.unusedSimpArgs false
set_option linter.unusedVariables false
set_option maxRecDepth 20000
set_option maxHeartbeats 8000000
section
namespace Go.PH
open Go.RowKit Go.Proofs
theorem yY (x : Int) (w : World) : Calls Tryz.prog 80 #[.int .i64 x] w fun e w' => e = .returned (.bool (qf x)) ∧ w' = w := by
 by_cases h1 : x = 1
 ·subst h1
  go_enter Tryz.func80, Tryz.ntmps80
  go_wp2_with (with_reducible refine h_A ?_)
  go_ret
  exact ⟨rfl, rfl⟩
 by_cases h2 : x = 2
 ·subst h2
  go_enter Tryz.func80, Tryz.ntmps80
  go_wp2_with (with_reducible refine h_A ?_)
  go_ret
  exact ⟨rfl, rfl⟩
 by_cases h4 : x = 4
 ·subst h4
  go_enter Tryz.func80, Tryz.ntmps80
  go_wp2_with (with_reducible refine h_A ?_)
  go_ret
  exact ⟨rfl, rfl⟩
 by_cases h8 : x = 8
 ·subst h8
  go_enter Tryz.func80, Tryz.ntmps80
  go_wp2_with (with_reducible refine h_A ?_)
  go_ret
  exact ⟨rfl, rfl⟩
 have e := YQ h1 h2 h4 h8
 rw [e]
 go_enter Tryz.func80, Tryz.ntmps80
 go_wp2_with (with_reducible refine h_A ?_)
 go_ret
 exact ⟨rfl, rfl⟩
theorem qi (A : Option Addr) (n c : Nat) (l : List UInt8) (A' : Option Addr) (n' c' : Nat) (l' : List UInt8) (w : World) (hb : RdB w w.heap.size A n c l) (hb' : RdB w w.heap.size A' n' c' l') (hn : n + n' ≤ 281474976710656) :
  Calls Tryz.prog 99 #[.slice A n c, .slice A' n' c'] w fun e w' => ∃ A2, e = .returned (.slice A2 (n + n') (n + n')) ∧ Own w' w.heap.size 5 1 A2 (n + n') (n + n') ((l ++ l').map u8v) ∧ Below w.heap.size w w' := by
 have hl := hb.length
 have hl' := hb'.length
 go_enter Tryz.func99, Tryz.ntmps99
 go_wp2_with (with_reducible refine h_A ?_)
 refine zc (Qv slB rfl rfl 0 (n + n') rfl rfl (by omega) (by omega) (by omega) (by omega) (by simp [maxLen]; omega) w.heap.size (Nat.le_refl _) ?_)
 intro w1 ho1 hg1
 have hB1 : Below w.heap.size w w1 := (Below.refl _ _).grown hg1 (Nat.le_refl _) (by simp)
 have hz1 := hB1.size
 simp only [Nat.zero_mul, List.take_zero] at ho1
 go_wp2_with (with_reducible refine h_A ?_)
 refine zc (vu slB rfl rfl rfl rfl ho1 (hb.below hB1) (zU l) (by omega) hz1 ?_)
 intro w2 ho2 hg2
 have hB2 : Below w.heap.size w w2 := hB1.grown hg2 hz1 (fun g hg => (ho1.blk_lt hg).1)
 have hz2 := hB2.size
 simp only [Nat.zero_add, List.nil_append] at ho2
 go_wp2_with (with_reducible refine h_A ?_)
 refine zc (vu slB rfl rfl rfl rfl ho2 (hb'.below hB2) (zU l') (by omega) hz2 ?_)
 intro w3 ho3 hg3
 have hB3 : Below w.heap.size w w3 := hB2.grown hg3 hz2 (fun g hg => (ho2.blk_lt hg).1)
 rw [← List.map_append] at ho3
 go_wp2_with (with_reducible refine h_A ?_)
 go_ret
 exact ⟨_, by first | rfl | simp, by simpa using ho3, hB3⟩
theorem shr8 (n k : Nat) : (n : Int) / 2 ^ (8 * k) % 256 = (((UInt8.ofNat (n / 256 ^ k)).toNat : Nat) : Int) := by
 rw [UInt8.toNat_ofNat', show (256 : Nat) ^ k = 2 ^ (8 * k) by rw [Nat.pow_mul]]
 rw [Int.natCast_emod, Int.natCast_ediv, Int.natCast_pow]; rfl
theorem qP (n i : Nat) (w : World) (_hn : n < 18446744073709551616) (hi : 1 ≤ i) (hi8 : i ≤ 8) :
  Calls Tryz.prog 100 #[.int .u64 n, .int .i64 i] w fun e w' => ∃ A2, e = .returned (.slice A2 i i) ∧ Own w' w.heap.size 5 1 A2 i i ((be i n).map u8v) ∧ Below w.heap.size w w' := by
 go_enter Tryz.func100, Tryz.ntmps100
 go_wp2_with (with_reducible refine h_A ?_)
 refine zc (Qv slB rfl rfl i i rfl rfl (by omega) (by omega) (Nat.le_refl _) (by omega) (by simp [maxLen]; omega) w.heap.size (Nat.le_refl _) ?_)
 intro w1 ho1 hg1
 have hB1 : Below w.heap.size w w1 := (Below.refl _ _).grown hg1 (Nat.le_refl _) (by simp)
 have hz1 := hB1.size
 have hx0 : (madeCells (Value.int .u8 0).cells (i * 1)).toList.take (i * 1) = (List.replicate (i - 0) 0 ++ be 0 n).map u8v := by
  simp [Value.cells, toList_madeCells_one, u8v, be]
 rw [hx0] at ho1
 go_wp2_with (with_reducible refine h_A ?_)
 go_loopw [11] (fun x wr => ∃ k : Nat, k ≤ i ∧ x = .int .i64 k ∧ Own wr w.heap.size 5 1 (some ⟨w.heap.size, 0, none⟩) i i ((List.replicate (i - k) 0 ++ be k n).map u8v) ∧ Below w.heap.size w wr) (fun x _ => i - (RowKit.intOf x).toNat)
 case atStart => exact ⟨0, by omega, rfl, ho1, hB1⟩
 case round =>
  obtain ⟨k, hk, rfl, ho, hB⟩ := hrel
  by_cases hlt : k < i
  ·obtain ⟨g, hge, hbg, hgl, hkl, hcell, hfz, hst⟩ := OwnB.at_k ho (k := i - 1 - k) (by omega)
   obtain rfl : w.heap.size = g := by injection hge with h; injection h
   have h1 := hst (UInt8.ofNat (n / 256 ^ k))
   rw [V8 i n k hlt] at h1
   have e8 := shr8 n k
   unfold u8v at h1
   rw [← e8] at h1
   clear hst e8
   go_wp2_with (with_reducible refine h_A ?_)
   exact ⟨⟨k + 1, by omega, by go_num, h1, hB.setCell (by omega) _⟩, by simp [RowKit.intOf]; omega⟩
  ·obtain rfl : k = i := by omega
   rw [Nat.sub_self, List.replicate_zero, List.nil_append] at ho
   go_wp2_with (with_reducible refine h_A ?_)
   go_ret
   exact ⟨_, rfl, ho, hB⟩
end Go.PH
end
section
namespace Go.PH
open Go.RowKit Go.Proofs
theorem zX (A : Option Addr) (n c : Nat) (l : List UInt8) (v : Nat) (x : Int) (w : World) (hb : RdB w w.heap.size A n c l) (hv : v < 18446744073709551616) (hn : n ≤ 281474976710600) :
  Calls Tryz.prog 63 #[.slice A n c, .int .u64 v, .int .i64 x] w fun e w' => ∃ A2 c2, e = .returned (.slice A2 (puts l v x).length c2) ∧ Own w' w.heap.size 5 1 A2 (puts l v x).length c2 ((puts l v x).map u8v) ∧ Below w.heap.size w w' := by
 have hl := hb.length
 by_cases hw : qf x = true
 ·have h8 := vS hw
  obtain ⟨i, rfl⟩ : ∃ i : Nat, x = i := ⟨x.toNat, by omega⟩
  rw [yy hw]
  simp only [List.length_append, zn, Int.toNat_natCast, hl]
  go_enter Tryz.func63, Tryz.ntmps63
  go_wp2_with (with_reducible refine h_A ?_)
  refine (yY i w).mono ?_
  rw [hw]
  rintro e w' ⟨rfl, rfl⟩
  go_wp2_with (with_reducible refine h_A ?_)
  refine (qP v i w' hv (by omega) (by omega)).mono ?_
  rintro e w1 ⟨A1, rfl, ho1, hB1⟩
  go_wp2_with (with_reducible refine h_A ?_)
  refine (qi A n c l A1 i i (be i v) w1 ((hb.below hB1).more hB1.size) ho1.rd (by omega)).mono ?_
  rintro e w2 ⟨A2, rfl, ho2, hB2⟩
  go_wp2_with (with_reducible refine h_A ?_)
  go_ret
  exact ⟨A2, n + i, rfl, ho2.base_le hB1.size, hB1.trans (hB2.mono hB1.size)⟩
 ·have hw' : qf x = false := by simpa using hw
  rw [Vc hw']
  rw [hl]
  go_enter Tryz.func63, Tryz.ntmps63
  go_wp2_with (with_reducible refine h_A ?_)
  refine (yY x w).mono ?_
  rw [hw']
  rintro e w' ⟨rfl, rfl⟩
  go_wp2_with (with_reducible refine h_A ?_)
  refine (qi A n c l none 0 0 [] w' hb (Rd.nil _ _ _ _ (by simp [maxLen]) _) (by omega)).mono ?_
  rintro e w2 ⟨A2, rfl, ho2, hB2⟩
  simp only [Nat.add_zero, List.append_nil] at ho2 ⊢
  go_wp2_with (with_reducible refine h_A ?_)
  go_ret
  exact ⟨A2, n, rfl, ho2, hB2⟩
end Go.PH
end
section
namespace Go.PH
open Go.RowKit Go.Proofs
def frV (f : Fr) : Array Value := #[.bool f.first, .bool f.last, .bool f.beg, .bool f.fin, .int .u8 (f.ty : Int), .int .u8 (f.track : Int), .int .u16 (f.chan : Int), .string (str f.load)]
theorem kz (f : Fr) (w : World) (hw : f.wf) (hl : f.load.length ≤ 140737488351232) :
  Calls Tryz.prog 62 #[.agg (frV f)] w fun e w' => e = .returned (.int .i64 f.err) ∧ Below w.heap.size w w' := by
 obtain ⟨b1, b2, b3, b4, ty, tr, ch, ld⟩ := f
 obtain ⟨h1, h2, h3⟩ := hw
 simp only at h1 h2 h3 hl
 have hB : Below w.heap.size w (w.alloc (.cells #[.bool b1, .bool b2, .bool b3, .bool b4, .int .u8 (ty : Int), .int .u8 (tr : Int), .int .u16 (ch : Int), .string (str ld)] 97)) := (Below.refl _ _).alloc (Nat.le_refl _) _
 have hss := zj ld
 by_cases c1 : 3 < ty
 ·have hd1 : (3 : Int) < (ty : Int) := by omega
  have he : Fr.err ⟨b1, b2, b3, b4, ty, tr, ch, ld⟩ = 60 := by simp [Fr.err, Fr.ok]; omega
  rw [he]
  unfold frV
  go_enter Tryz.func62, Tryz.ntmps62
  go_wp2_with (with_reducible refine h_A ?_)
  go_ret
  exact ⟨rfl, hB⟩
 ·have hd1 : decide ((3 : Int) < (ty : Int)) = false := by simp; omega
  by_cases c2 : 15 < tr
  ·have hd2 : (15 : Int) < (tr : Int) := by omega
   have he : Fr.err ⟨b1, b2, b3, b4, ty, tr, ch, ld⟩ = 60 := by simp [Fr.err, Fr.ok]; omega
   rw [he]
   unfold frV
   go_enter Tryz.func62, Tryz.ntmps62
   go_wp2_with (with_reducible refine h_A ?_)
   go_ret
   exact ⟨rfl, hB⟩
  ·have hd2 : decide ((15 : Int) < (tr : Int)) = false := by simp; omega
   by_cases c3 : 4084 < ld.length
   ·have hd3 : (4084 : Int) < ((str ld).size : Int) := by omega
    have he : Fr.err ⟨b1, b2, b3, b4, ty, tr, ch, ld⟩ = 60 := by simp [Fr.err, Fr.ok]; omega
    rw [he]
    clear hss
    unfold frV
    go_enter Tryz.func62, Tryz.ntmps62
    go_wp2_with (with_reducible refine h_A ?_)
    go_ret
    exact ⟨rfl, hB⟩
   ·have hd3 : ¬ (4084 : Int) < ((str ld).size : Int) := by omega
    have he : Fr.err ⟨b1, b2, b3, b4, ty, tr, ch, ld⟩ = 0 := by simp [Fr.err, Fr.ok]; omega
    rw [he]
    clear hss
    unfold frV
    go_enter Tryz.func62, Tryz.ntmps62
    go_wp2_with (with_reducible refine h_A ?_)
    go_ret
    exact ⟨rfl, hB⟩
def KY (l : List Value) : Option (DataW Unit × List MemPlace) := match l with | [.bool x] => some (.lit (.bool x), []) | _ => none
def kA (v : Value) : Option (DataW Unit × List MemPlace) := match v with | .agg cs => KY cs.toList | _ => none
theorem qO : Maps.Keyed Tryz.prog 5 := Maps.int_keyed Tryz.underlying5
def JS (b1 b2 b3 b4 : Bool) : DataW Unit := .map [(.int .u8 1, .lit (.bool b4)), (.int .u8 2, .lit (.bool b3)), (.int .u8 4, .lit (.bool b2)), (.int .u8 8, .lit (.bool b1))]
theorem JT (b1 b2 b3 b4 : Bool) : (((((DataW.map [] : DataW Unit).put (.int .u8 8) (.lit (.bool b1))).put (.int .u8 4) (.lit (.bool b2))).put (.int .u8 2) (.lit (.bool b3))).put (.int .u8 1) (.lit (.bool b4))) = JS b1 b2 b3 b4 := by rfl
theorem JU {b1 b2 b3 b4 c : Bool} {x : Int} (h : ∀ zd, (JS b1 b2 b3 b4).atKey (.int .u8 x) zd = .lit (.bool c)) : (x = 8 ∧ c = b1) ∨ (x = 4 ∧ c = b2) ∨ (x = 2 ∧ c = b3) ∨ (x = 1 ∧ c = b4) := by
 by_cases h8 : x = 8
 ·subst h8; have := h .nil; left; exact ⟨rfl, by cases b1 <;> cases c <;> first | rfl | cases this⟩
 ·by_cases h4 : x = 4
  ·subst h4; have := h .nil; right; left; exact ⟨rfl, by cases b2 <;> cases c <;> first | rfl | cases this⟩
  ·by_cases h2 : x = 2
   ·subst h2; have := h .nil; right; right; left; exact ⟨rfl, by cases b3 <;> cases c <;> first | rfl | cases this⟩
   ·by_cases h1 : x = 1
    ·subst h1; have := h .nil; right; right; right; exact ⟨rfl, by cases b4 <;> cases c <;> first | rfl | cases this⟩
    ·have e : ∀ zd, (JS b1 b2 b3 b4).atKey (.int .u8 x) zd = zd := fun zd => WideAt.atKey_none zd (fun p hp => by
      simp only [List.mem_cons, List.not_mem_nil, or_false] at hp
      rcases hp with rfl | rfl | rfl | rfl <;> simp <;> omega)
     have h1 := h .nil
     rw [e] at h1
     cases h1
def bsum (l8 l4 l2 l1 b1 b2 b3 b4 : Bool) : Nat := bitv (!l8 && b1) 8 + bitv (!l4 && b2) 4 + bitv (!l2 && b3) 2 + bitv (!l1 && b4) 1
theorem ZJ (v : Value) (y : DataW Unit × List MemPlace) (h : kA v = some y) : ∃ c : Bool, v = .agg #[.bool c] ∧ y = (.lit (.bool c), []) := by
 unfold kA at h
 split at h
 ·rename_i cs
  unfold KY at h
  split at h
  ·rename_i x hx
   injection h with h
   exact ⟨x, by rw [← Array.toArray_toList (xs := cs), hx], h.symm⟩
  ·cases h
 ·cases h
theorem zG {a b : Int} : (Lit.int .u8 a).sameKey (.int .u8 b) = decide (a = b) := by
 by_cases h : a = b
 ·subst h; simp [Lit.sameKey]
 ·simp [Lit.sameKey, h]
theorem YU : ∀ (l8 l4 l2 l1 b1 b2 b3 b4 : Bool),
  (l8 = true → b1 = true → bits .or .u8 (bsum l8 l4 l2 l1 b1 b2 b3 b4 : Int) 8 = (bsum false l4 l2 l1 b1 b2 b3 b4 : Int)) ∧
  (l4 = true → b2 = true → bits .or .u8 (bsum l8 l4 l2 l1 b1 b2 b3 b4 : Int) 4 = (bsum l8 false l2 l1 b1 b2 b3 b4 : Int)) ∧
  (l2 = true → b3 = true → bits .or .u8 (bsum l8 l4 l2 l1 b1 b2 b3 b4 : Int) 2 = (bsum l8 l4 false l1 b1 b2 b3 b4 : Int)) ∧
  (l1 = true → b4 = true → bits .or .u8 (bsum l8 l4 l2 l1 b1 b2 b3 b4 : Int) 1 = (bsum l8 l4 l2 false b1 b2 b3 b4 : Int)) := by
 decide +kernel
theorem Qx (f : Fr) (w : World) :
  Calls Tryz.prog 64 #[.agg (frV f)] w fun e w' => e = .returned (.int .u8 f.flags) ∧ Below w.heap.size w w' := by
 obtain ⟨b1, b2, b3, b4, ty, tr, ch, ld⟩ := f
 unfold frV
 have hB0 : Below w.heap.size w (w.alloc (.cells #[.bool b1, .bool b2, .bool b3, .bool b4, .int .u8 (ty : Int), .int .u8 (tr : Int), .int .u16 (ch : Int), .string (str ld)] 97)) := (Below.refl _ _).alloc (Nat.le_refl _) _
 have hc0 : ∀ i u, (#[.bool b1, .bool b2, .bool b3, .bool b4, .int .u8 (ty : Int), .int .u8 (tr : Int), .int .u16 (ch : Int), .string (str ld)] : Array Value)[i]? = some u → (w.alloc (.cells #[.bool b1, .bool b2, .bool b3, .bool b4, .int .u8 (ty : Int), .int .u8 (tr : Int), .int .u16 (ch : Int), .string (str ld)] 97)).cell? ⟨w.heap.size, i, none⟩ = some u := fun i u h => (World.cell?_alloc_new _ _ _ _).trans h
 have hmk := fun W => run_makeMap (P := Tryz.prog) 183 W
 have c0 := hc0 0 _ rfl
 have c1 := hc0 1 _ rfl
 have c2 := hc0 2 _ rfl
 have c3 := hc0 3 _ rfl
 clear hc0
 go_enter Tryz.func64, Tryz.ntmps64
 have hown0 : ((w.alloc (.cells #[.bool b1, .bool b2, .bool b3, .bool b4, .int .u8 (ty : Int), .int .u8 (tr : Int), .int .u16 (ch : Int), .string (str ld)] 97)).alloc (.map #[] 0)).ownsMap Tryz.prog 5 kA (w.heap.size + 1) 0 (.map []) := by
  have := World.ownsMap_made (w.alloc (.cells #[.bool b1, .bool b2, .bool b3, .bool b4, .int .u8 (ty : Int), .int .u8 (tr : Int), .int .u16 (ch : Int), .string (str ld)] 97)) Tryz.prog 5 kA
  rwa [show (w.alloc (.cells #[.bool b1, .bool b2, .bool b3, .bool b4, .int .u8 (ty : Int), .int .u8 (tr : Int), .int .u16 (ch : Int), .string (str ld)] 97)).heap.size = w.heap.size + 1 by simp] at this
 have hB1 : Below w.heap.size w ((w.alloc (.cells #[.bool b1, .bool b2, .bool b3, .bool b4, .int .u8 (ty : Int), .int .u8 (tr : Int), .int .u16 (ch : Int), .string (str ld)] 97)).alloc (.map #[] 0)) := hB0.alloc hB0.size _
 have hlt1 : w.heap.size < (w.alloc (.cells #[.bool b1, .bool b2, .bool b3, .bool b4, .int .u8 (ty : Int), .int .u8 (tr : Int), .int .u16 (ch : Int), .string (str ld)] 97)).heap.size := by simp
 have d1 := (World.cell?_alloc_past (w := w.alloc (.cells #[.bool b1, .bool b2, .bool b3, .bool b4, .int .u8 (ty : Int), .int .u8 (tr : Int), .int .u16 (ch : Int), .string (str ld)] 97)) (.map #[] 0) _ _ hlt1).trans c1
 have d2 := (World.cell?_alloc_past (w := w.alloc (.cells #[.bool b1, .bool b2, .bool b3, .bool b4, .int .u8 (ty : Int), .int .u8 (tr : Int), .int .u16 (ch : Int), .string (str ld)] 97)) (.map #[] 0) _ _ hlt1).trans c2
 have d3 := (World.cell?_alloc_past (w := w.alloc (.cells #[.bool b1, .bool b2, .bool b3, .bool b4, .int .u8 (ty : Int), .int .u8 (tr : Int), .int .u16 (ch : Int), .string (str ld)] 97)) (.map #[] 0) _ _ hlt1).trans c3
 go_wp2_with (with_reducible refine h_M ?_)
 refine zc (ze (H := Unit) _ rfl _ _ _ 183 rfl 5 182 qO Tryz.underlying183 kA _ _ _ rfl hown0 (by simp [maxLen]) _ _ (.int .u8 8) rfl rfl (Maps.keyOf_int_mk Tryz.underlying5 (by decide)) (.lit (.bool b1)) [] rfl ?_)
 intro w2 hown2 hg2
 have hne : some w.heap.size = some (w.heap.size + 1) → False := fun e => by injection e with e; omega
 have hB2 := hB1.grown hg2 hB1.size (fun g hg => by injection hg with hg; omega)
 have e1 := hg2.cell d1 hne
 have e2 := hg2.cell d2 hne
 have e3 := hg2.cell d3 hne
 clear d1 d2 d3 c0 c1 c2 c3
 go_wp2_with (with_reducible refine h_M ?_)
 refine zc (ze (H := Unit) _ rfl _ _ _ 183 rfl 5 182 qO Tryz.underlying183 kA _ _ _ rfl hown2 (by simp [maxLen]) _ _ (.int .u8 4) rfl rfl (Maps.keyOf_int_mk Tryz.underlying5 (by decide)) (.lit (.bool b2)) [] rfl ?_)
 intro w3 hown3 hg3
 have hB3 := hB2.grown hg3 hB2.size (fun g hg => by injection hg with hg; omega)
 have f2 := hg3.cell e2 hne
 have f3 := hg3.cell e3 hne
 clear e1 e2 e3 hown2 hg2
 go_wp2_with (with_reducible refine h_M ?_)
 refine zc (ze (H := Unit) _ rfl _ _ _ 183 rfl 5 182 qO Tryz.underlying183 kA _ _ _ rfl hown3 (by simp [maxLen]) _ _ (.int .u8 2) rfl rfl (Maps.keyOf_int_mk Tryz.underlying5 (by decide)) (.lit (.bool b3)) [] rfl ?_)
 intro w4 hown4 hg4
 have hB4 := hB3.grown hg4 hB3.size (fun g hg => by injection hg with hg; omega)
 have g3 := hg4.cell f3 hne
 clear f2 f3 hown3 hg3
 go_wp2_with (with_reducible refine h_M ?_)
 refine zc (ze (H := Unit) _ rfl _ _ _ 183 rfl 5 182 qO Tryz.underlying183 kA _ _ _ rfl hown4 (by simp [maxLen]) _ _ (.int .u8 1) rfl rfl (Maps.keyOf_int_mk Tryz.underlying5 (by decide)) (.lit (.bool b4)) [] rfl ?_)
 intro w5 hown5 hg5
 have hB5 := hB4.grown hg5 hB4.size (fun g hg => by injection hg with hg; omega)
 clear g3 hown4 hg4 hg5 hB4 hB3 hB2 hB1 hB0 hown0
 rw [JT] at hown5
 have hb5 : w.heap.size + 1 < w5.heap.size := hown5.lt
 go_wp2_with (with_reducible refine h_M ?_)
 refine zc (wpList_range_own (H := Unit) _ rfl _ 183 rfl 5 182 qO Tryz.underlying183 kA _ _ _ rfl hown5 ?_)
 intro w6 hrg6 hg6 hs6
 have hB6 := hB5.grown hg6 hB5.size (fun g hg => by cases hg)
 go_frame
 go_wp2_with (with_reducible refine h_A ?_)
 try go_frame
 go_loopw [3] (fun s wr => ∃ (left : Lit → Bool) (cnt : Nat) (l8 l4 l2 l1 : Bool) (m : Nat), left (.int .u8 8) = l8 ∧ left (.int .u8 4) = l4 ∧ left (.int .u8 2) = l2 ∧ left (.int .u8 1) = l1 ∧ s = .int .u8 m ∧ m = bsum l8 l4 l2 l1 b1 b2 b3 b4 ∧ wr.ranges Tryz.prog 5 kA (w.heap.size + 1) w5.heap.size 4 (JS b1 b2 b3 b4) left cnt ∧ Below w.heap.size w wr) (fun _ wr => wr.rangeLeft (w.heap.size + 1) w5.heap.size)
 case atStart => exact ⟨_, _, true, true, true, true, 0, rfl, rfl, rfl, rfl, rfl, rfl, hrg6, hB6⟩
 case round =>
  obtain ⟨left, cnt, l8, l4, l2, l1, m, hl8, hl4, hl2, hl1, rfl, hm, hrg, hBr⟩ := hrel
  have HM := Lib.hid hm
  clear hm
  go_wp2_with (with_reducible refine h_M ?_)
  refine zc (wpList_next_ranges (H := Unit) (α := Int) (β := Bool) _ rfl _ rfl 5 qO kA (Value.int .u8) (fun x => .agg #[.bool x]) (fun key kl hk => by obtain ⟨x, rfl, _⟩ := Maps.keyOf_int_inv Tryz.underlying5 hk; exact ⟨x, rfl⟩) (fun v y hv => by obtain ⟨c, rfl, _⟩ := ZJ v y hv; exact ⟨c, rfl⟩) _ _ _ _ _ _ rfl hrg ?_ ?_)
  ·intro _ hl0
   have hmf : m = Fr.flags ⟨b1, b2, b3, b4, ty, tr, ch, ld⟩ := by
    rw [HM.out, ← hl8, ← hl4, ← hl2, ← hl1, hl0, hl0, hl0, hl0]
    simp [bsum, Fr.flags]
   have HF := Lib.hid hmf
   clear hmf
   go_wp2_with (with_reducible refine h_A ?_)
   go_ret
   rw [← HF.out]
   exact ⟨rfl, hBr⟩
  ·intro x c kl y w7 cnt7 hkey hlx hy hat hrg7 hlt7 hg7 hs7 hen
   obtain ⟨x', ex, rfl, hwf⟩ := Maps.keyOf_int_inv Tryz.underlying5 hkey
   cases ex
   obtain ⟨c', ec, rfl⟩ := ZJ _ _ hy
   obtain rfl : c' = c := by simpa using ec.symm
   have hB7 := hBr.grown hg7 hBr.size (fun g hg => by injection hg with hg; omega)
   have hB8 : Below w.heap.size w (w7.alloc (.cells #[.bool c'] 182)) := hB7.alloc hB7.size _
   have hrg8 := hrg7.alloc (.cells #[.bool c'] 182)
   have hcase := JU hat
   clear hat hy ec hkey
   rcases hcase with ⟨rfl, hcb⟩ | ⟨rfl, hcb⟩ | ⟨rfl, hcb⟩ | ⟨rfl, hcb⟩
   ·skip
    have hlt : l8 = true := by rw [← hl8]; exact hlx
    clear hlx
    subst hlt
    cases c'
    ·have hsame : m = bsum false l4 l2 l1 b1 b2 b3 b4 := by rw [HM.out, ← hcb]; simp [bsum, bitv]
     have HS := Lib.hid hsame
     clear hsame hcb
     go_wp2_with (with_reducible refine h_A ?_)
     refine ⟨⟨_, cnt7, false, l4, l2, l1, m, by simp [zG, hl8], by simp [zG, hl4], by simp [zG, hl2], by simp [zG, hl1], rfl, HS.out, hrg8, hB8⟩, ?_⟩
     rw [hrg8.left_eq, hrg.left_eq]; exact hlt7
    ·have hor := (YU true l4 l2 l1 b1 b2 b3 b4 |>.1) rfl hcb.symm
     rw [← HM.out] at hor
     obtain ⟨m2, hm2⟩ : ∃ m2, m2 = bsum false l4 l2 l1 b1 b2 b3 b4 := ⟨_, rfl⟩
     rw [← hm2] at hor
     have HS := Lib.hid hm2
     clear hm2 hcb
     go_wp2_with (with_reducible refine h_A ?_)
     refine ⟨⟨_, cnt7, false, l4, l2, l1, m2, by simp [zG, hl8], by simp [zG, hl4], by simp [zG, hl2], by simp [zG, hl1], by first | rfl | (simp; done) | (simp [hor]; done), HS.out, hrg8, hB8⟩, ?_⟩
     rw [hrg8.left_eq, hrg.left_eq]; exact hlt7
   ·skip
    have hlt : l4 = true := by rw [← hl4]; exact hlx
    clear hlx
    subst hlt
    cases c'
    ·have hsame : m = bsum l8 false l2 l1 b1 b2 b3 b4 := by rw [HM.out, ← hcb]; simp [bsum, bitv]
     have HS := Lib.hid hsame
     clear hsame hcb
     go_wp2_with (with_reducible refine h_A ?_)
     refine ⟨⟨_, cnt7, l8, false, l2, l1, m, by simp [zG, hl8], by simp [zG, hl4], by simp [zG, hl2], by simp [zG, hl1], rfl, HS.out, hrg8, hB8⟩, ?_⟩
     rw [hrg8.left_eq, hrg.left_eq]; exact hlt7
    ·have hor := (YU l8 true l2 l1 b1 b2 b3 b4 |>.2.1) rfl hcb.symm
     rw [← HM.out] at hor
     obtain ⟨m2, hm2⟩ : ∃ m2, m2 = bsum l8 false l2 l1 b1 b2 b3 b4 := ⟨_, rfl⟩
     rw [← hm2] at hor
     have HS := Lib.hid hm2
     clear hm2 hcb
     go_wp2_with (with_reducible refine h_A ?_)
     refine ⟨⟨_, cnt7, l8, false, l2, l1, m2, by simp [zG, hl8], by simp [zG, hl4], by simp [zG, hl2], by simp [zG, hl1], by first | rfl | (simp; done) | (simp [hor]; done), HS.out, hrg8, hB8⟩, ?_⟩
     rw [hrg8.left_eq, hrg.left_eq]; exact hlt7
   ·skip
    have hlt : l2 = true := by rw [← hl2]; exact hlx
    clear hlx
    subst hlt
    cases c'
    ·have hsame : m = bsum l8 l4 false l1 b1 b2 b3 b4 := by rw [HM.out, ← hcb]; simp [bsum, bitv]
     have HS := Lib.hid hsame
     clear hsame hcb
     go_wp2_with (with_reducible refine h_A ?_)
     refine ⟨⟨_, cnt7, l8, l4, false, l1, m, by simp [zG, hl8], by simp [zG, hl4], by simp [zG, hl2], by simp [zG, hl1], rfl, HS.out, hrg8, hB8⟩, ?_⟩
     rw [hrg8.left_eq, hrg.left_eq]; exact hlt7
    ·have hor := (YU l8 l4 true l1 b1 b2 b3 b4 |>.2.2.1) rfl hcb.symm
     rw [← HM.out] at hor
     obtain ⟨m2, hm2⟩ : ∃ m2, m2 = bsum l8 l4 false l1 b1 b2 b3 b4 := ⟨_, rfl⟩
     rw [← hm2] at hor
     have HS := Lib.hid hm2
     clear hm2 hcb
     go_wp2_with (with_reducible refine h_A ?_)
     refine ⟨⟨_, cnt7, l8, l4, false, l1, m2, by simp [zG, hl8], by simp [zG, hl4], by simp [zG, hl2], by simp [zG, hl1], by first | rfl | (simp; done) | (simp [hor]; done), HS.out, hrg8, hB8⟩, ?_⟩
     rw [hrg8.left_eq, hrg.left_eq]; exact hlt7
   ·skip
    have hlt : l1 = true := by rw [← hl1]; exact hlx
    clear hlx
    subst hlt
    cases c'
    ·have hsame : m = bsum l8 l4 l2 false b1 b2 b3 b4 := by rw [HM.out, ← hcb]; simp [bsum, bitv]
     have HS := Lib.hid hsame
     clear hsame hcb
     go_wp2_with (with_reducible refine h_A ?_)
     refine ⟨⟨_, cnt7, l8, l4, l2, false, m, by simp [zG, hl8], by simp [zG, hl4], by simp [zG, hl2], by simp [zG, hl1], rfl, HS.out, hrg8, hB8⟩, ?_⟩
     rw [hrg8.left_eq, hrg.left_eq]; exact hlt7
    ·have hor := (YU l8 l4 l2 true b1 b2 b3 b4 |>.2.2.2) rfl hcb.symm
     rw [← HM.out] at hor
     obtain ⟨m2, hm2⟩ : ∃ m2, m2 = bsum l8 l4 l2 false b1 b2 b3 b4 := ⟨_, rfl⟩
     rw [← hm2] at hor
     have HS := Lib.hid hm2
     clear hm2 hcb
     go_wp2_with (with_reducible refine h_A ?_)
     refine ⟨⟨_, cnt7, l8, l4, l2, false, m2, by simp [zG, hl8], by simp [zG, hl4], by simp [zG, hl2], by simp [zG, hl1], by first | rfl | (simp; done) | (simp [hor]; done), HS.out, hrg8, hB8⟩, ?_⟩
     rw [hrg8.left_eq, hrg.left_eq]; exact hlt7
theorem vV {b1 b2 b3 b4 : Bool} {ty tr ch : Nat} {ld : List UInt8} {bx : Nat} {w w' : World} {row : Option Nat} (h : w.cell? ⟨bx, 0, none⟩ = some (.bool b1) ∧ w.cell? ⟨bx, 1, none⟩ = some (.bool b2) ∧ w.cell? ⟨bx, 2, none⟩ = some (.bool b3) ∧ w.cell? ⟨bx, 3, none⟩ = some (.bool b4) ∧ w.cell? ⟨bx, 4, none⟩ = some (.int .u8 (ty : Int)) ∧ w.cell? ⟨bx, 5, none⟩ = some (.int .u8 (tr : Int)) ∧ w.cell? ⟨bx, 6, none⟩ = some (.int .u16 (ch : Int)) ∧ w.cell? ⟨bx, 7, none⟩ = some (.string (str ld))) (hg : w.grownBy w' row) (hne : some bx = row → False) : w'.cell? ⟨bx, 0, none⟩ = some (.bool b1) ∧ w'.cell? ⟨bx, 1, none⟩ = some (.bool b2) ∧ w'.cell? ⟨bx, 2, none⟩ = some (.bool b3) ∧ w'.cell? ⟨bx, 3, none⟩ = some (.bool b4) ∧ w'.cell? ⟨bx, 4, none⟩ = some (.int .u8 (ty : Int)) ∧ w'.cell? ⟨bx, 5, none⟩ = some (.int .u8 (tr : Int)) ∧ w'.cell? ⟨bx, 6, none⟩ = some (.int .u16 (ch : Int)) ∧ w'.cell? ⟨bx, 7, none⟩ = some (.string (str ld)) := by
 obtain ⟨h0, h1, h2, h3, h4, h5, h6, h7⟩ := h
 exact ⟨hg.cell h0 hne, hg.cell h1 hne, hg.cell h2 hne, hg.cell h3 hne, hg.cell h4 hne, hg.cell h5 hne, hg.cell h6 hne, hg.cell h7 hne⟩
theorem JV {w w' : World} (h : Below w.heap.size w w') : w.grownBy w' none := ⟨h.os, h.tape, h.output, h.size, fun k hk _ => h.block k hk⟩
theorem xN {b1 b2 b3 b4 : Bool} {ty tr ch : Nat} {ld : List UInt8} {bx : Nat} {w w' : World} (h : w.cell? ⟨bx, 0, none⟩ = some (.bool b1) ∧ w.cell? ⟨bx, 1, none⟩ = some (.bool b2) ∧ w.cell? ⟨bx, 2, none⟩ = some (.bool b3) ∧ w.cell? ⟨bx, 3, none⟩ = some (.bool b4) ∧ w.cell? ⟨bx, 4, none⟩ = some (.int .u8 (ty : Int)) ∧ w.cell? ⟨bx, 5, none⟩ = some (.int .u8 (tr : Int)) ∧ w.cell? ⟨bx, 6, none⟩ = some (.int .u16 (ch : Int)) ∧ w.cell? ⟨bx, 7, none⟩ = some (.string (str ld))) (hB : Below w.heap.size w w') : w'.cell? ⟨bx, 0, none⟩ = some (.bool b1) ∧ w'.cell? ⟨bx, 1, none⟩ = some (.bool b2) ∧ w'.cell? ⟨bx, 2, none⟩ = some (.bool b3) ∧ w'.cell? ⟨bx, 3, none⟩ = some (.bool b4) ∧ w'.cell? ⟨bx, 4, none⟩ = some (.int .u8 (ty : Int)) ∧ w'.cell? ⟨bx, 5, none⟩ = some (.int .u8 (tr : Int)) ∧ w'.cell? ⟨bx, 6, none⟩ = some (.int .u16 (ch : Int)) ∧ w'.cell? ⟨bx, 7, none⟩ = some (.string (str ld)) := vV h (JV hB) (by simp)
theorem Vg {w : World} {b1 b2 b3 b4 : Bool} {ty tr ch : Nat} {ld : List UInt8} : (fun bx wx => wx.cell? ⟨bx, 0, none⟩ = some (.bool b1) ∧ wx.cell? ⟨bx, 1, none⟩ = some (.bool b2) ∧ wx.cell? ⟨bx, 2, none⟩ = some (.bool b3) ∧ wx.cell? ⟨bx, 3, none⟩ = some (.bool b4) ∧ wx.cell? ⟨bx, 4, none⟩ = some (.int .u8 (ty : Int)) ∧ wx.cell? ⟨bx, 5, none⟩ = some (.int .u8 (tr : Int)) ∧ wx.cell? ⟨bx, 6, none⟩ = some (.int .u16 (ch : Int)) ∧ wx.cell? ⟨bx, 7, none⟩ = some (.string (str ld))) w.heap.size (w.alloc (.cells #[.bool b1, .bool b2, .bool b3, .bool b4, .int .u8 (ty : Int), .int .u8 (tr : Int), .int .u16 (ch : Int), .string (str ld)] 97)) :=
 ⟨World.cell?_alloc_new _ _ _ _, World.cell?_alloc_new _ _ _ _, World.cell?_alloc_new _ _ _ _, World.cell?_alloc_new _ _ _ _, World.cell?_alloc_new _ _ _ _, World.cell?_alloc_new _ _ _ _, World.cell?_alloc_new _ _ _ _, World.cell?_alloc_new _ _ _ _⟩
theorem zab {b : List UInt8} {v : Nat} : puts b v 2 = b ++ be 2 v := yy (by decide)
theorem zaw {b : List UInt8} {v : Nat} : puts b v 4 = b ++ be 4 v := yy (by decide)
theorem Vh {v : Nat} (h : v < 256) : (.int .u8 (v : Int) : Value) = u8v (UInt8.ofNat v) := by simp [u8v]; omega
theorem JW (f : Fr) (w : World) (hw : f.wf) (hl : f.load.length ≤ 140737488351232) :
  Calls Tryz.prog 45 #[.agg (frV f)] w fun e w' => ∃ A2 c2, e = .returned (.tuple #[.slice A2 f.put.length c2, .int .i64 f.err]) ∧ Own w' w.heap.size 5 1 A2 f.put.length c2 (f.put.map u8v) ∧ Below w.heap.size w w' := by
 have hck := fun W => kz f W hw hl
 have hfl := fun W => Qx f W
 have hfb := f.flags_lt
 cases hok : f.ok
 ·have e1 : f.put = [] := by simp [Fr.put, hok]
  have e2 : f.err = 60 := by simp [Fr.err, hok]
  rw [e1, e2]
  rw [e2] at hck
  clear hok e1 e2 hfl
  obtain ⟨b1, b2, b3, b4, ty, tr, ch, ld⟩ := f
  unfold frV at hck ⊢
  simp only at hck
  have hB0 : Below w.heap.size w (w.alloc (.cells #[.bool b1, .bool b2, .bool b3, .bool b4, .int .u8 (ty : Int), .int .u8 (tr : Int), .int .u16 (ch : Int), .string (str ld)] 97)) := (Below.refl _ _).alloc (Nat.le_refl _) _
  go_enter Tryz.func45, Tryz.ntmps45
  go_wp2_with (with_reducible refine h_A ?_)
  refine (hck _).mono ?_
  rintro e w1 ⟨rfl, hB1⟩
  have hB2 := hB0.trans (hB1.mono hB0.size)
  go_wp2_with (with_reducible refine h_A ?_)
  go_ret2
  exact ⟨none, 0, rfl, Own.none_ _ _ _ _, hB2⟩
 ·have e1 : f.put = f.bytes := by simp [Fr.put, hok]
  have e2 : f.err = 0 := by simp [Fr.err, hok]
  have hln : f.load.length ≤ 4084 := by simp [Fr.ok] at hok; omega
  have HBY : Hid (f.bytes = ((([UInt8.ofNat f.flags, UInt8.ofNat f.ty] ++ be 2 (12 + f.load.length)) ++ [0, UInt8.ofNat f.track]) ++ be 2 f.chan) ++ be 4 0 ++ f.load) := Lib.hid (by rw [Fr.bytes]; simp only [List.append_assoc]; rfl)
  rw [e1, e2]
  rw [e2] at hck
  clear hok e1 e2 hl
  generalize f.flags = fl at *
  generalize hby : f.bytes = by_ at *
  clear hby
  obtain ⟨b1, b2, b3, b4, ty, tr, ch, ld⟩ := f
  unfold frV at hck hfl ⊢
  obtain ⟨hty, htr, hch⟩ := hw
  simp only at hck hln HBY hty htr hch hfl
  have hB0 : Below w.heap.size w (w.alloc (.cells #[.bool b1, .bool b2, .bool b3, .bool b4, .int .u8 (ty : Int), .int .u8 (tr : Int), .int .u16 (ch : Int), .string (str ld)] 97)) := (Below.refl _ _).alloc (Nat.le_refl _) _
  have hb0 := Vg (w := w) (b1 := b1) (b2 := b2) (b3 := b3) (b4 := b4) (ty := ty) (tr := tr) (ch := ch) (ld := ld)
  simp only at hb0
  have hss := zj ld
  go_enter Tryz.func45, Tryz.ntmps45
  go_wp2_with (with_reducible refine h_A ?_)
  refine (hck _).mono ?_
  rintro e w1 ⟨rfl, hB1⟩
  have hB2 := hB0.trans (hB1.mono hB0.size)
  have hb1 := xN hb0 hB1
  clear hb0 hB0 hB1 hck
  have hw12 : IntKind.i64.wrap (12 + (ld.length : Int)) = ((12 + ld.length : Nat) : Int) := by rw [IntWalk.i64_in _ ⟨by omega, by omega⟩]; omega
  have hw13 : IntKind.u64.wrap ((12 + ld.length : Nat) : Int) = ((12 + ld.length : Nat) : Int) := IntWalk.u64_in _ ⟨by omega, by omega⟩
  obtain ⟨L12, hL12⟩ : ∃ L12, L12 = 12 + ld.length := ⟨_, rfl⟩
  rw [← hL12] at hw12 hw13 HBY
  have hL := Lib.hid hL12
  have hLb : L12 < 65536 := by omega
  clear hL12
  have hS1 : w1.drew.cell? ⟨w.heap.size, 0, none⟩ = some (.bool b1) ∧ w1.drew.cell? ⟨w.heap.size, 1, none⟩ = some (.bool b2) ∧ w1.drew.cell? ⟨w.heap.size, 2, none⟩ = some (.bool b3) ∧ w1.drew.cell? ⟨w.heap.size, 3, none⟩ = some (.bool b4) ∧ w1.drew.cell? ⟨w.heap.size, 4, none⟩ = some (.int .u8 (ty : Int)) ∧ w1.drew.cell? ⟨w.heap.size, 5, none⟩ = some (.int .u8 (tr : Int)) ∧ w1.drew.cell? ⟨w.heap.size, 6, none⟩ = some (.int .u16 (ch : Int)) ∧ w1.drew.cell? ⟨w.heap.size, 7, none⟩ = some (.string (str ld)) := hb1
  go_wp2_with (with_reducible refine h_A ?_)
  refine zD (fun wx => wx.cell? ⟨w.heap.size, 0, none⟩ = some (.bool b1) ∧ wx.cell? ⟨w.heap.size, 1, none⟩ = some (.bool b2) ∧ wx.cell? ⟨w.heap.size, 2, none⟩ = some (.bool b3) ∧ wx.cell? ⟨w.heap.size, 3, none⟩ = some (.bool b4) ∧ wx.cell? ⟨w.heap.size, 4, none⟩ = some (.int .u8 (ty : Int)) ∧ wx.cell? ⟨w.heap.size, 5, none⟩ = some (.int .u8 (tr : Int)) ∧ wx.cell? ⟨w.heap.size, 6, none⟩ = some (.int .u16 (ch : Int)) ∧ wx.cell? ⟨w.heap.size, 7, none⟩ = some (.string (str ld))) (by kernel_rfl) ?_
  refine rg_t 0 hS1 ?_
  simp only [List.getElem_toArray, List.getElem_cons_zero, Act.put, List.setIfInBounds_toArray, List.set_cons_zero, List.set_cons_succ]
  refine rg_t 2 hS1 ?_
  simp only [g_S, Act.put]
  refine rg_t 3 hS1 ?_
  simp only [g_S, Act.put]
  refine rg_t 5 hS1 ?_
  simp only [g_S, Act.put]
  refine rg_t 6 hS1 ?_
  simp only [g_S, Act.put]
  refine rg_t 7 hS1 ?_
  simp only [g_S, Act.put]
  refine rg_t 8 hS1 ?_
  simp only [g_S, Act.put]
  refine rg_t 9 hS1 ?_
  simp only [g_S, Act.put]
  refine zi 1 rfl (by kernel_rfl) rfl (fun K hK => ?_)
  go_simp
  refine (hfl w1.drew).mono ?_
  rintro e w2 ⟨rfl, hBf⟩
  have hB3 := (za hB2 1).trans (hBf.mono hB2.size)
  have hS2 := xN hS1 hBf
  refine hK _ _ hS2 ?_; clear hK K
  have hz2 : w.heap.size + 1 ≤ w2.heap.size := World.block_lt_of_cell? _ _ hS2.1
  have hlit4 : Own (w2.alloc (.cells #[.int .u8 (fl : Int), .int .u8 (ty : Int)] 5)) (w.heap.size + 1) 5 1 (some ⟨w2.heap.size, 0, none⟩) 2 2 ([UInt8.ofNat fl, UInt8.ofNat ty].map u8v) := by
   have h := xe (w := w2) (w.heap.size + 1) #[.int .u8 (fl : Int), .int .u8 (ty : Int)] 5 2 hz2 (by simp [maxLen]) rfl (size := 1) (by omega)
   rw [Vh (show fl < 256 by omega), Vh hty] at h ⊢
   exact h
  have hB4 : Below w.heap.size w (w2.alloc (.cells #[.int .u8 (fl : Int), .int .u8 (ty : Int)] 5)) := hB3.alloc hB3.size _
  have hS4 := xN hS2 ((Below.refl w2.heap.size w2).alloc (Nat.le_refl _) (.cells #[.int .u8 (fl : Int), .int .u8 (ty : Int)] 5))
  have hp1 := zX (some ⟨w2.heap.size, 0, none⟩) 2 2 [UInt8.ofNat fl, UInt8.ofNat ty] L12 2 _ hlit4.rd (by omega) (by omega)
  rw [zab] at hp1
  have hl1 : ([UInt8.ofNat fl, UInt8.ofNat ty] ++ be 2 L12).length = 4 := by simp [zn]
  rw [hl1] at hp1
  generalize [UInt8.ofNat fl, UInt8.ofNat ty] ++ be 2 L12 = o1 at *
  refine zi 4 rfl (by kernel_rfl) rfl (fun K hK => ?_)
  go_simp
  refine hK _ _ hS4 ?_; clear hK K
  refine zi 10 rfl (by kernel_rfl) rfl (fun K hK => ?_)
  go_simp
  refine hp1.mono ?_
  rintro e w5 ⟨A5, c5, rfl, ho5, hBp⟩
  have hB5 := hB4.trans (hBp.mono hB4.size)
  have hS5 := xN hS4 hBp
  have hz5 : w.heap.size + 1 ≤ w5.heap.size := World.block_lt_of_cell? _ _ hS5.1
  have ho5' := ho5.base_le (show w.heap.size + 1 ≤ (w2.alloc (.cells #[.int .u8 (fl : Int), .int .u8 (ty : Int)] 5)).heap.size by simp; omega)
  refine hK _ _ hS5 ?_; clear hK K
  refine rg_t 11 hS5 ?_
  simp only [g_S, Act.put]
  refine zK (by kernel_rfl) ?_
  clear hp1 hlit4 hB4 hS4 hS2 hS1 hb1 hB3 hBp ho5 hB2
  have hS5d : w5.drew.cell? ⟨w.heap.size, 0, none⟩ = some (.bool b1) ∧ w5.drew.cell? ⟨w.heap.size, 1, none⟩ = some (.bool b2) ∧ w5.drew.cell? ⟨w.heap.size, 2, none⟩ = some (.bool b3) ∧ w5.drew.cell? ⟨w.heap.size, 3, none⟩ = some (.bool b4) ∧ w5.drew.cell? ⟨w.heap.size, 4, none⟩ = some (.int .u8 (ty : Int)) ∧ w5.drew.cell? ⟨w.heap.size, 5, none⟩ = some (.int .u8 (tr : Int)) ∧ w5.drew.cell? ⟨w.heap.size, 6, none⟩ = some (.int .u16 (ch : Int)) ∧ w5.drew.cell? ⟨w.heap.size, 7, none⟩ = some (.string (str ld)) := hS5
  have ho5d : Own w5.drew (w.heap.size + 1) 5 1 A5 4 c5 (o1.map u8v) := ho5'
  have hB5d := za hB5 1
  go_wp2_with (with_reducible refine h_A ?_)
  refine zD (fun wx => wx.cell? ⟨w.heap.size, 0, none⟩ = some (.bool b1) ∧ wx.cell? ⟨w.heap.size, 1, none⟩ = some (.bool b2) ∧ wx.cell? ⟨w.heap.size, 2, none⟩ = some (.bool b3) ∧ wx.cell? ⟨w.heap.size, 3, none⟩ = some (.bool b4) ∧ wx.cell? ⟨w.heap.size, 4, none⟩ = some (.int .u8 (ty : Int)) ∧ wx.cell? ⟨w.heap.size, 5, none⟩ = some (.int .u8 (tr : Int)) ∧ wx.cell? ⟨w.heap.size, 6, none⟩ = some (.int .u16 (ch : Int)) ∧ wx.cell? ⟨w.heap.size, 7, none⟩ = some (.string (str ld))) (by kernel_rfl) ?_
  refine rg_t 0 hS5d ?_
  simp only [List.getElem_toArray, List.getElem_cons_zero, Act.put, List.setIfInBounds_toArray, List.set_cons_zero, List.set_cons_succ]
  refine rg_t 1 hS5d ?_
  simp only [g_S, Act.put]
  refine rg_t 2 hS5d ?_
  simp only [g_S, Act.put]
  refine rg_t 5 hS5d ?_
  simp only [g_S, Act.put]
  refine rg_t 6 hS5d ?_
  simp only [g_S, Act.put]
  have hwch : IntKind.u64.wrap ((ch : Nat) : Int) = (ch : Int) := IntWalk.u64_in _ ⟨by omega, by omega⟩
  refine rg_t 7 hS5d ?_
  simp only [g_S, Act.put]
  have hlit6 : Own (w5.drew.alloc (.cells #[.int .u8 0, .int .u8 (tr : Int)] 5)) (w.heap.size + 1) 5 1 (some ⟨w5.heap.size, 0, none⟩) 2 2 ([0, UInt8.ofNat tr].map u8v) := by
   have h := xe (w := w5.drew) (w.heap.size + 1) #[.int .u8 0, .int .u8 (tr : Int)] 5 2 hz5 (by simp [maxLen]) rfl (size := 1) (by omega)
   rw [Vh htr] at h ⊢
   exact h
  have hB6 : Below w.heap.size w (w5.drew.alloc (.cells #[.int .u8 0, .int .u8 (tr : Int)] 5)) := hB5d.alloc hB5d.size _
  have hS6 := xN hS5d ((Below.refl w5.drew.heap.size w5.drew).alloc (Nat.le_refl _) (.cells #[.int .u8 0, .int .u8 (tr : Int)] 5))
  have ho56 : Own (w5.drew.alloc (.cells #[.int .u8 0, .int .u8 (tr : Int)] 5)) (w.heap.size + 1) 5 1 A5 4 c5 (o1.map u8v) := ho5d.alloc _
  refine zi 3 rfl (by kernel_rfl) rfl (fun K hK => ?_)
  go_simp
  refine hK _ _ hS6 ?_
  clear hK K
  refine zi 4 rfl (by kernel_rfl) rfl (fun K hK => ?_)
  have hz6 : w.heap.size + 1 ≤ (w5.drew.alloc (.cells #[.int .u8 0, .int .u8 (tr : Int)] 5)).heap.size := World.block_lt_of_cell? _ _ hS6.1
  refine qz (ops := #[]) (w := w5.drew.alloc (.cells #[.int .u8 0, .int .u8 (tr : Int)] 5)) slB Tryz.underlying55 rfl rfl rfl ho56 hlit6.rd (zU _) (by omega) (by simp [maxLen]) hz6 ?_
  intro A7 c7 w7 ho7 hg7 _
  have hB7 := hB6.grown hg7 hB6.size (fun g hg => by have := (ho56.blk_lt hg).1; omega)
  have hS7 := vV hS6 hg7 (fun e => by have := (ho56.blk_lt e.symm).1; omega)
  rw [← List.map_append] at ho7
  have hz7 : w.heap.size + 1 ≤ w7.heap.size := World.block_lt_of_cell? _ _ hS7.1
  have hp2 := zX A7 6 c7 (o1 ++ [0, UInt8.ofNat tr]) ch 2 w7 ho7.rd (by omega) (by omega)
  rw [zab] at hp2
  have hl2 : (o1 ++ [0, UInt8.ofNat tr] ++ be 2 ch).length = 8 := by simp [zn, hl1]
  rw [hl2] at hp2
  clear hl1
  generalize o1 ++ [0, UInt8.ofNat tr] ++ be 2 ch = o3 at *
  simp only [g_S, Act.put]
  refine hK _ _ hS7 ?_
  clear hK K
  refine zi 8 rfl (by kernel_rfl) rfl (fun K hK => ?_)
  go_simp
  refine hp2.mono ?_
  rintro e w8 ⟨A8, c8, rfl, ho8, hBp⟩
  have hB8 := hB7.trans (hBp.mono hB7.size)
  have hS8 := xN hS7 hBp
  have hz8 : w.heap.size + 1 ≤ w8.heap.size := World.block_lt_of_cell? _ _ hS8.1
  have ho8' := ho8.base_le hz7
  refine hK _ _ hS8 ?_; clear hK K
  refine rg_t 9 hS8 ?_
  simp only [g_S, Act.put]
  refine zK (by kernel_rfl) ?_
  clear hp2 hlit6 ho56 ho7 hg7 hS7 hB7 hS6 hB6 ho5d hS5d hB5d ho5' hB5 hS5 hBp ho8 hz6
  have hS8d : w8.drew.cell? ⟨w.heap.size, 0, none⟩ = some (.bool b1) ∧ w8.drew.cell? ⟨w.heap.size, 1, none⟩ = some (.bool b2) ∧ w8.drew.cell? ⟨w.heap.size, 2, none⟩ = some (.bool b3) ∧ w8.drew.cell? ⟨w.heap.size, 3, none⟩ = some (.bool b4) ∧ w8.drew.cell? ⟨w.heap.size, 4, none⟩ = some (.int .u8 (ty : Int)) ∧ w8.drew.cell? ⟨w.heap.size, 5, none⟩ = some (.int .u8 (tr : Int)) ∧ w8.drew.cell? ⟨w.heap.size, 6, none⟩ = some (.int .u16 (ch : Int)) ∧ w8.drew.cell? ⟨w.heap.size, 7, none⟩ = some (.string (str ld)) := hS8
  have ho8d : Own w8.drew (w.heap.size + 1) 5 1 A8 8 c8 (o3.map u8v) := ho8'
  have hB8d := za hB8 1
  have hp3 := zX A8 8 c8 o3 0 4 w8.drew ho8d.rd (by omega) (by omega)
  rw [zaw] at hp3
  have hl3 : (o3 ++ be 4 0).length = 12 := by simp [zn, hl2]
  rw [hl3] at hp3
  clear hl2
  go_wp2_with (with_reducible refine h_A ?_)
  refine zD (fun wx => wx.cell? ⟨w.heap.size, 0, none⟩ = some (.bool b1) ∧ wx.cell? ⟨w.heap.size, 1, none⟩ = some (.bool b2) ∧ wx.cell? ⟨w.heap.size, 2, none⟩ = some (.bool b3) ∧ wx.cell? ⟨w.heap.size, 3, none⟩ = some (.bool b4) ∧ wx.cell? ⟨w.heap.size, 4, none⟩ = some (.int .u8 (ty : Int)) ∧ wx.cell? ⟨w.heap.size, 5, none⟩ = some (.int .u8 (tr : Int)) ∧ wx.cell? ⟨w.heap.size, 6, none⟩ = some (.int .u16 (ch : Int)) ∧ wx.cell? ⟨w.heap.size, 7, none⟩ = some (.string (str ld))) (by kernel_rfl) ?_
  refine rg_t 0 hS8d ?_
  simp only [List.getElem_toArray, List.getElem_cons_zero, Act.put, List.setIfInBounds_toArray, List.set_cons_zero, List.set_cons_succ]
  refine rg_t 2 hS8d ?_
  simp only [g_S, Act.put]
  refine rg_t 3 hS8d ?_
  simp only [g_S, Act.put]
  refine zi 1 rfl (by kernel_rfl) rfl (fun K hK => ?_)
  go_simp
  refine hp3.mono ?_
  rintro e w9 ⟨A9, c9, rfl, ho9, hBp⟩
  have hB9 := hB8d.trans (hBp.mono hB8d.size)
  have hS9 := xN hS8d hBp
  have hz9 : w.heap.size + 1 ≤ w9.heap.size := World.block_lt_of_cell? _ _ hS9.1
  have ho9' := ho9.base_le hz8
  refine hK _ _ hS9 ?_; clear hK K
  refine zi 4 rfl (by kernel_rfl) rfl (fun K hK => ?_)
  refine Xt slB Tryz.underlying9 rfl rfl rfl ho9' (by omega) hz9 ?_
  intro A10 c10 w10 ho10 hg10
  have hB10 := hB9.grown hg10 hB9.size (fun g hg => by have := (ho9'.blk_lt hg).1; omega)
  have hS10 := vV hS9 hg10 (fun e => by have := (ho9'.blk_lt e.symm).1; omega)
  rw [← List.map_append] at ho10
  have ho10' := ho10.base_le (Nat.le_succ _)
  have hlf : by_.length = 12 + ld.length := by rw [HBY.out, List.length_append, hl3]
  have HLF := Lib.hid hlf
  clear hlf hl3
  simp only [g_S, Act.put]
  refine hK _ _ hS10 ?_
  clear hK K
  refine rg_t 5 hS10 ?_
  simp only [g_S, Act.put]
  refine rg_t 6 hS10 ?_
  simp only [g_S, Act.put]
  refine zK (by kernel_rfl) ?_
  go_wp2_with (with_reducible refine h_A ?_)
  go_ret2
  rw [HLF.out, HBY.out]
  exact ⟨A10, c10, rfl, ho10', hB10⟩
end Go.PH
end
section
namespace Go.PH
open Go.RowKit Go.Proofs
def gkV (c t : Nat) : Value := .agg #[.int .i64 (c : Int), .int .i64 (t : Int)]
def gkL (c t : Nat) : Lit := .string (keyBytes [.int .i64 (c : Int), .int .i64 (t : Int)])
theorem K9 : (match Tryz.prog.underlying 156 with | some (.array _ _) | some (.struct _) => true | _ => false) = true := by rw [Tryz.underlying156]
theorem JO : laidOutB Tryz.prog = true := by kernel_rfl
theorem KW : (156 : TypeId) < Tryz.prog.types.size := of_decide_eq_true (by kernel_rfl)
theorem V7 : WideMaps.KeyLaw Tryz.prog 156 := deep_law_laid JO (m := 3) (by omega) KW (by kernel_rfl) K9
theorem gk_keyed : Maps.Keyed Tryz.prog 156 := Maps.Keyed.of_law V7
theorem KX {a : Nat} (h : a < 65536) : (Lit.int .i64 (a : Int)).wf = true := by
 have e1 : IntKind.i64.min = -9223372036854775808 := by decide
 have e2 : IntKind.i64.max = 9223372036854775807 := by decide
 simp only [Lit.wf, e1, e2, Bool.and_eq_true, decide_eq_true_eq]
 omega
theorem jU {a b : Nat} (ha : a < 65536) (hb : b < 65536) : keyOf Tryz.prog 156 (gkV a b) = some (gkL a b) := by
 have h1 := KX ha
 have h2 := KX hb
 have hf : (gkV a b).formed Tryz.prog 156 = true := by simp [gkV, Value.formed, Tryz.underlying156]; kernel_rfl
 have hk : Tryz.prog.keyType 156 = true := by kernel_rfl
 have hc : Tryz.prog.cellsOf 156 = 2 := by kernel_rfl
 have hc1 : Tryz.prog.cellsOf 3 = 1 := by kernel_rfl
 obtain ⟨m, hm⟩ : ∃ m, Tryz.prog.types.size = m + 1 := ⟨Tryz.prog.types.size - 1, (Nat.succ_pred_eq_of_pos (Nat.lt_of_le_of_lt (Nat.zero_le _) KW)).symm⟩
 unfold keyOf
 rw [Tryz.underlying156]
 simp only [hk, hf, Bool.and_self, if_true, hm]
 simp [Program.keyLits, Tryz.underlying156, Tryz.underlying3, hc, hc1, gkV, Value.cells, h1, h2, List.range, List.range.loop, gkL]
theorem Va {a b c d : Nat} (ha : a < 65536) (hb : b < 65536) (hc : c < 65536) (hd : d < 65536) (h : gkL a b = gkL c d) : a = c ∧ b = d := by
 have h1 := jU ha hb
 have h2 := jU hc hd
 rw [h] at h1
 have e := gk_keyed.inj h1 h2
 simp [gkV] at e
 omega
def sgC (s : Sg) : List Value := [.int .u8 (s.ty : Int), .string (str s.load)]
theorem xK : RecShape sgC 2 where
 len := fun _ => rfl
 one := fun a u hu => by simp [sgC] at hu; rcases hu with rfl | rfl <;> rfl
 pos := by omega
theorem slG : SlT Tryz.prog 40 84 2 24 (.agg #[.int .u8 0, .string ⟨#[]⟩]) := SlT.mk' Tryz.underlying40 (by kernel_rfl) rfl (by omega)
abbrev OwnG (w : World) (base : Nat) (A : Option Addr) (n c : Nat) (l : List Sg) : Prop := Own w base 84 2 A n c (rowC sgC l)
abbrev RdG (w : World) (B : Nat) (A : Option Addr) (n c : Nat) (l : List Sg) : Prop := Rd w B 2 A n c (rowC sgC l)
def qC (h : Hd) (size : Nat) (f : Fr) (goes : Bool) : Array Value := #[h.v, .int .i64 (size : Int), .bool f.first, .bool f.last, .bool f.beg, .bool f.fin, .int .u8 (f.ty : Int), .int .u8 (f.track : Int), .int .u16 (f.chan : Int), .string (str f.load), .bool goes]
def fr00 : Fr := ⟨false, false, false, false, 0, 0, 0, []⟩
theorem Qr (w : World) : (zeroValue 158).run Tryz.prog w = .ok (.agg (qC ⟨none, 0, 0⟩ 0 fr00 false)) w := Tryz.zeroValue158 w
end Go.PH
end

/- Texts laid together: XdGrow, XdCompact, XdSorted. -/
import Derived.Test.YtcfhnnbgghbjfaaMg01
import Derived.Test.YtcfhnnbgghbjfaaMg03
import Derived.Test.YtcfhnnbgghbjfaaMg04
section
/- The library's sort of names: Compare lays blocks and draws alone; SortFunc and Compact at rows of names. -/
set_option linter.all false
set_option linter.unusedSimpArgs false
set_option linter.unusedVariables false
namespace Go.PH
open Go.RowKit Go.Proofs Go.Sort

theorem xdShape : RecShape xdC 3 where
  len a := rfl
  one a u hu := by simp [xdC] at hu; rcases hu with rfl | rfl | rfl <;> rfl
  pos := by omega
theorem slX : SlT Try.prog 31 24 3 40 (.agg #[.int .u32 0, .string ⟨#[]⟩, .string ⟨#[]⟩]) := SlT.mk' Try.underlying31 (by kernel_rfl) rfl (by omega)
abbrev OwnX (w : World) (base : Nat) (A : Option Addr) (n c : Nat) (l : List Xd) : Prop := Own w base 24 3 A n c (rowC xdC l)
abbrev RdX (w : World) (B : Nat) (A : Option Addr) (n c : Nat) (l : List Xd) : Prop := Rd w B 3 A n c (rowC xdC l)
def Try.sortXid_ren : Go.Shelf.Ren := ⟨fun | 6 => 77 | 14 => 80 | 15 => 81 | 20 => 85 | 21 => 86 | 22 => 87 | 23 => 88 | 24 => 89 | 25 => 90 | 26 => 91 | 27 => 92 | 28 => 93 | 29 => 94 | 46 => 97 | 47 => 98 | 48 => 99 | 49 => 100 | 50 => 101 | 57 => 103 | n => n, fun | 0 => 0 | 3 => 3 | 4 => 4 | 5 => 5 | 9 => 9 | 22 => 31 | 24 => 24 | 25 => 105 | 39 => 118 | 45 => 123 | 46 => 124 | 50 => 128 | 53 => 22 | 55 => 95 | 66 => 134 | 70 => 138 | 76 => 140 | 77 => 141 | n => n, fun | n => n⟩
theorem Try.sortXid : Go.Proofs.SlLaysF0.n6 Try.prog Try.sortXid_ren := {
  mixed := by kernel_rfl
  f6 := ⟨Try.f77.name, by decide, Try.func77.trans (congrArg some (by kernel_rfl))⟩
  f14 := ⟨Try.f80.name, by decide, Try.func80.trans (congrArg some (by kernel_rfl))⟩
  f15 := Try.func81.trans (congrArg some (by kernel_rfl))
  f20 := ⟨Try.f85.name, by decide, Try.func85.trans (congrArg some (by kernel_rfl))⟩
  f21 := ⟨Try.f86.name, by decide, Try.func86.trans (congrArg some (by kernel_rfl))⟩
  f22 := ⟨Try.f87.name, by decide, Try.func87.trans (congrArg some (by kernel_rfl))⟩
  f23 := ⟨Try.f88.name, by decide, Try.func88.trans (congrArg some (by kernel_rfl))⟩
  f24 := ⟨Try.f89.name, by decide, Try.func89.trans (congrArg some (by kernel_rfl))⟩
  f25 := ⟨Try.f90.name, by decide, Try.func90.trans (congrArg some (by kernel_rfl))⟩
  f26 := ⟨Try.f91.name, by decide, Try.func91.trans (congrArg some (by kernel_rfl))⟩
  f27 := ⟨Try.f92.name, by decide, Try.func92.trans (congrArg some (by kernel_rfl))⟩
  f28 := Try.func93.trans (congrArg some (by kernel_rfl))
  f29 := Try.func94.trans (congrArg some (by kernel_rfl))
  f46 := ⟨Try.f97.name, by decide, Try.func97.trans (congrArg some (by kernel_rfl))⟩
  f47 := Try.func98.trans (congrArg some (by kernel_rfl))
  f48 := Try.func99.trans (congrArg some (by kernel_rfl))
  f49 := ⟨Try.f100.name, by decide, Try.func100.trans (congrArg some (by kernel_rfl))⟩
  f50 := ⟨Try.f101.name, by decide, Try.func101.trans (congrArg some (by kernel_rfl))⟩
  f57 := ⟨Try.f103.name, by decide, Try.func103.trans (congrArg some (by kernel_rfl))⟩
  t0 := Try.underlying0
  a0 := Try.isAgg0
  z0 := Try.sizeOf0
  v0 := Try.zeroValue0
  t3 := Try.underlying3
  a3 := Try.isAgg3
  z3 := Try.sizeOf3
  v3 := Try.zeroValue3
  t4 := Try.underlying4
  a4 := Try.isAgg4
  z4 := Try.sizeOf4
  v4 := Try.zeroValue4
  t5 := Try.underlying5
  a5 := Try.isAgg5
  z5 := Try.sizeOf5
  v5 := Try.zeroValue5
  t9 := Try.underlying9
  a9 := Try.isAgg9
  z9 := Try.sizeOf9
  v9 := Try.zeroValue9
  t22 := Try.underlying31
  a22 := Try.isAgg31
  z22 := Try.sizeOf31
  v22 := Try.zeroValue31
  t25 := Try.underlying105
  a25 := Try.isAgg105
  z25 := Try.sizeOf105
  v25 := Try.zeroValue105
  t39 := Try.underlying118
  a39 := Try.isAgg118
  z39 := Try.sizeOf118
  v39 := Try.zeroValue118
  t45 := Try.underlying123
  a45 := Try.isAgg123
  z45 := Try.sizeOf123
  v45 := Try.zeroValue123
  t46 := Try.underlying124
  a46 := Try.isAgg124
  z46 := Try.sizeOf124
  v46 := Try.zeroValue124
  t50 := Try.underlying128
  a50 := Try.isAgg128
  z50 := Try.sizeOf128
  v50 := Try.zeroValue128
  t53 := Try.underlying22
  a53 := Try.isAgg22
  z53 := Try.sizeOf22
  v53 := Try.zeroValue22
  t55 := Try.underlying95
  a55 := Try.isAgg95
  z55 := Try.sizeOf95
  v55 := Try.zeroValue95
  t66 := Try.underlying134
  a66 := Try.isAgg134
  z66 := Try.sizeOf134
  v66 := Try.zeroValue134
  t70 := Try.underlying138
  a70 := Try.isAgg138
  z70 := Try.sizeOf138
  v70 := Try.zeroValue138
  t76 := Try.underlying140
  a76 := Try.isAgg140
  z76 := Try.sizeOf140
  v76 := Try.zeroValue140
  t77 := Try.underlying141
  a77 := Try.isAgg141
  z77 := Try.sizeOf141
  v77 := Try.zeroValue141 }
set_option maxRecDepth 20000 in
set_option maxHeartbeats 1000000 in
theorem compare_grow (a b : Xd) (w : World) (ha : a.wf) (hb : b.wf) :
    Calls Try.prog 78 #[.agg (xdV a), .agg (xdV b)] w fun e w' => e = .returned (.int .i64 (Xd.cmp a b)) ∧ Grows w w' := by
  have HC : Hid (Xd.cmp a b = orI (cmpN a.fmt b.fmt) (orI (Lib.compareBytes a.glob b.glob) (Lib.compareBytes a.bran b.bran))) := Lib.hid rfl
  obtain ⟨f, g, h⟩ := a
  obtain ⟨f', g', h'⟩ := b
  simp only at HC
  generalize Xd.cmp ⟨f, g, h⟩ ⟨f', g', h'⟩ = r at *
  unfold xdV
  simp only
  have hc1 := fun w => cmp_any f f' w
  have hc2 := fun w => Try.strings_Compare (str g) (str g') w
  have hc3 := fun w => Try.strings_Compare (str h) (str h') w
  have es : ∀ l, (str l).data.toList = l := fun l => rfl
  rw [es, es] at hc2 hc3
  generalize cmpN f f' = x at *
  generalize Lib.compareBytes g g' = y at *
  generalize Lib.compareBytes h h' = z at *
  obtain ⟨w0, hw0⟩ : ∃ w0, w0 = ((w.alloc (.cells #[.int .u32 (f : Int), .string (str g), .string (str h)] 24)).alloc (.cells #[.int .u32 (f' : Int), .string (str g'), .string (str h')] 24)) := ⟨_, rfl⟩
  have hB0 : Grows w w0 := by rw [hw0]; exact ((Grows.refl _).alloc _).alloc _
  have hb0 : Box w0 w.heap.size 24 #[.int .u32 (f : Int), .string (str g), .string (str h)] := by rw [hw0]; exact (Box.new _ _ _).alloc _
  have hb1 : Box w0 (w.heap.size + 1) 24 #[.int .u32 (f' : Int), .string (str g'), .string (str h')] := by
    rw [hw0]
    have := Box.new (w.alloc (.cells #[.int .u32 (f : Int), .string (str g), .string (str h)] 24)) #[.int .u32 (f' : Int), .string (str g'), .string (str h')] 24
    rwa [show (w.alloc (.cells #[.int .u32 (f : Int), .string (str g), .string (str h)] 24)).heap.size = w.heap.size + 1 by simp] at this
  go_enter Try.func78, Try.ntmps78
  go_wp2_with (first | (with_reducible refine hold_append ?_) | (with_reducible refine hold_make ?_) | (with_reducible refine hold_copy ?_))
  rw [← hw0]
  clear hw0
  refine rg_start (fun wx : World => Box wx w.heap.size 24 #[.int .u32 (f : Int), .string (str g), .string (str h)] ∧ Box wx (w.heap.size + 1) 24 #[.int .u32 (f' : Int), .string (str g'), .string (str h')]) (by kernel_rfl) ?_
  have hS : Box w0.drew w.heap.size 24 #[.int .u32 (f : Int), .string (str g), .string (str h)] ∧ Box w0.drew (w.heap.size + 1) 24 #[.int .u32 (f' : Int), .string (str g'), .string (str h')] := ⟨hb0, hb1⟩
  have hBd : Grows w w0.drew := hB0.drew
  generalize w0.drew = w1 at *
  refine rg_take 0 (v := ?_) rfl (by kernel_rfl) (by kernel_rfl) (by kernel_rfl) hS rfl ?_ ?_
  rotate_left
  · intro wS hSw; go_simp; (with_reducible rfl)
  simp only [List.getElem_toArray, List.getElem_cons_zero, Act.put, List.setIfInBounds_toArray, List.set_cons_zero, List.set_cons_succ]
  refine rg_take 1 (v := ?_) rfl (by kernel_rfl) (by kernel_rfl) (by kernel_rfl) hS rfl ?_ ?_
  rotate_left
  · intro wS hSw; have k0 := hSw.1.cell (j := 0) rfl; have k1 := hSw.1.cell (j := 1) rfl; have k2 := hSw.1.cell (j := 2) rfl; go_simp; (with_reducible rfl)
  simp only [List.getElem_toArray, List.getElem_cons_succ, List.getElem_cons_zero, Act.put, List.setIfInBounds_toArray, List.set_cons_zero, List.set_cons_succ]
  refine rg_take 2 (v := ?_) rfl (by kernel_rfl) (by kernel_rfl) (by kernel_rfl) hS rfl ?_ ?_
  rotate_left
  · intro wS hSw; go_simp; (with_reducible rfl)
  simp only [List.getElem_toArray, List.getElem_cons_succ, List.getElem_cons_zero, Act.put, List.setIfInBounds_toArray, List.set_cons_zero, List.set_cons_succ]
  refine rg_take 3 (v := ?_) rfl (by kernel_rfl) (by kernel_rfl) (by kernel_rfl) hS rfl ?_ ?_
  rotate_left
  · intro wS hSw; have k0 := hSw.2.cell (j := 0) rfl; go_simp; (with_reducible rfl)
  simp only [List.getElem_toArray, List.getElem_cons_succ, List.getElem_cons_zero, Act.put, List.setIfInBounds_toArray, List.set_cons_zero, List.set_cons_succ]
  refine rg_take 5 (v := ?_) rfl (by kernel_rfl) (by kernel_rfl) (by kernel_rfl) hS rfl ?_ ?_
  rotate_left
  · intro wS hSw; go_simp; (with_reducible rfl)
  simp only [List.getElem_toArray, List.getElem_cons_succ, List.getElem_cons_zero, Act.put, List.setIfInBounds_toArray, List.set_cons_zero, List.set_cons_succ]
  refine rg_take 6 (v := ?_) rfl (by kernel_rfl) (by kernel_rfl) (by kernel_rfl) hS rfl ?_ ?_
  rotate_left
  · intro wS hSw; have k0 := hSw.1.cell (j := 1) rfl; go_simp; (with_reducible rfl)
  simp only [List.getElem_toArray, List.getElem_cons_succ, List.getElem_cons_zero, Act.put, List.setIfInBounds_toArray, List.set_cons_zero, List.set_cons_succ]
  refine rg_take 7 (v := ?_) rfl (by kernel_rfl) (by kernel_rfl) (by kernel_rfl) hS rfl ?_ ?_
  rotate_left
  · intro wS hSw; go_simp; (with_reducible rfl)
  simp only [List.getElem_toArray, List.getElem_cons_succ, List.getElem_cons_zero, Act.put, List.setIfInBounds_toArray, List.set_cons_zero, List.set_cons_succ]
  refine rg_take 8 (v := ?_) rfl (by kernel_rfl) (by kernel_rfl) (by kernel_rfl) hS rfl ?_ ?_
  rotate_left
  · intro wS hSw; have k0 := hSw.2.cell (j := 1) rfl; go_simp; (with_reducible rfl)
  simp only [List.getElem_toArray, List.getElem_cons_succ, List.getElem_cons_zero, Act.put, List.setIfInBounds_toArray, List.set_cons_zero, List.set_cons_succ]
  refine rg_take 10 (v := ?_) rfl (by kernel_rfl) (by kernel_rfl) (by kernel_rfl) hS rfl ?_ ?_
  rotate_left
  · intro wS hSw; go_simp; (with_reducible rfl)
  simp only [List.getElem_toArray, List.getElem_cons_succ, List.getElem_cons_zero, Act.put, List.setIfInBounds_toArray, List.set_cons_zero, List.set_cons_succ]
  refine rg_take 11 (v := ?_) rfl (by kernel_rfl) (by kernel_rfl) (by kernel_rfl) hS rfl ?_ ?_
  rotate_left
  · intro wS hSw; have k0 := hSw.1.cell (j := 2) rfl; go_simp; (with_reducible rfl)
  simp only [List.getElem_toArray, List.getElem_cons_succ, List.getElem_cons_zero, Act.put, List.setIfInBounds_toArray, List.set_cons_zero, List.set_cons_succ]
  refine rg_take 12 (v := ?_) rfl (by kernel_rfl) (by kernel_rfl) (by kernel_rfl) hS rfl ?_ ?_
  rotate_left
  · intro wS hSw; go_simp; (with_reducible rfl)
  simp only [List.getElem_toArray, List.getElem_cons_succ, List.getElem_cons_zero, Act.put, List.setIfInBounds_toArray, List.set_cons_zero, List.set_cons_succ]
  refine rg_take 13 (v := ?_) rfl (by kernel_rfl) (by kernel_rfl) (by kernel_rfl) hS rfl ?_ ?_
  rotate_left
  · intro wS hSw; have k0 := hSw.2.cell (j := 2) rfl; go_simp; (with_reducible rfl)
  simp only [List.getElem_toArray, List.getElem_cons_succ, List.getElem_cons_zero, Act.put, List.setIfInBounds_toArray, List.set_cons_zero, List.set_cons_succ]
  refine rg_one 4 rfl (by kernel_rfl) rfl (fun K hK => ?_)
  go_simp
  refine (hc1 w1).mono ?_
  rintro e w2 ⟨rfl, hww⟩
  subst w2
  refine hK _ _ hS ?_; clear hK K
  refine rg_one 9 rfl (by kernel_rfl) rfl (fun K hK => ?_)
  go_simp
  refine (hc2 w1).mono ?_
  rintro e w2 ⟨rfl, hww⟩
  subst w2
  refine hK _ _ hS ?_; clear hK K
  refine rg_one 14 rfl (by kernel_rfl) rfl (fun K hK => ?_)
  go_simp
  refine (hc3 w1).mono ?_
  rintro e w2 ⟨rfl, hww⟩
  subst w2
  refine hK _ _ hS ?_; clear hK K
  have hlit : Own (w1.alloc (.cells #[.int .i64 x, .int .i64 y, .int .i64 z] 3)) w1.heap.size 3 1 (some ⟨w1.heap.size, 0, none⟩) 3 3 [.int .i64 x, .int .i64 y, .int .i64 z] :=
    own_lit (w := w1) w1.heap.size #[.int .i64 x, .int .i64 y, .int .i64 z] 3 3 (Nat.le_refl _) (by simp [maxLen]) rfl (size := 1) (by omega)
  have hBl : Grows w (w1.alloc (.cells #[.int .i64 x, .int .i64 y, .int .i64 z] 3)) := hBd.alloc _
  have hSl := And.intro (hS.1.alloc (.cells #[.int .i64 x, .int .i64 y, .int .i64 z] 3)) (hS.2.alloc (.cells #[.int .i64 x, .int .i64 y, .int .i64 z] 3))
  refine rg_one 15 rfl (by kernel_rfl) rfl (fun K hK => ?_)
  go_simp
  refine hK _ _ hSl ?_; clear hK K
  refine rg_one 16 rfl (by kernel_rfl) rfl (fun K hK => ?_)
  go_simp
  refine (or_any _ _ _ x y z _ hlit.rd).mono ?_
  rintro e w2 ⟨rfl, hww⟩
  subst w2
  refine hK _ _ hSl ?_; clear hK K
  refine rg_take 17 (v := ?_) rfl (by kernel_rfl) (by kernel_rfl) (by kernel_rfl) hSl rfl ?_ ?_
  rotate_left
  · intro wS hSw; go_simp; (with_reducible rfl)
  simp only [List.getElem_toArray, List.getElem_cons_succ, List.getElem_cons_zero, Act.put, List.setIfInBounds_toArray, List.set_cons_zero, List.set_cons_succ]
  refine rg_end (by kernel_rfl) ?_
  go_wp2_with (first | (with_reducible refine hold_append ?_) | (with_reducible refine hold_make ?_) | (with_reducible refine hold_copy ?_))
  go_ret
  rw [HC.out]
  exact ⟨rfl, hBl⟩

/-- names that may lie in memory -/
abbrev XdW := {x : Xd // x.wf}
instance : Inhabited XdW := ⟨⟨⟨0, [], []⟩, by simp [Xd.wf]⟩⟩
def xdW (x : XdW) : List Value := xdC x.1
theorem xdwShape : RecShape xdW 3 where
  len a := rfl
  one a := xdShape.one a.1
  pos := by omega
theorem xdW_row (l : List XdW) : rowC xdW l = rowC xdC (l.map (·.1)) := by
  induction l with
  | nil => rfl
  | cons x l ih => rw [rowC_cons, ih]; rfl
def cmpW (x y : XdW) : Int := Xd.cmp x.1 y.1
theorem ltW (x y : XdW) : ltOf cmpW x y = decide (Xd.cmp x.1 y.1 < 0) := rfl
theorem swoW : SWO (ltOf cmpW) where
  irrefl x := by rw [ltW, cmp_self]; rfl
  trans x y z h1 h2 := by
    rw [ltW] at *
    simp only [decide_eq_true_eq] at *
    exact cmp_trans h1 h2
  ntrans x y z h1 h2 := by
    rw [ltW] at *
    simp only [decide_eq_false_iff_not] at *
    have a1 := cmp_swap x.1 y.1
    have a2 := cmp_swap y.1 z.1
    have a3 := cmp_swap x.1 z.1
    have := (xd_ord.le z.1 y.1 x.1).1 (by omega) (by omega)
    omega
theorem totW (x y : XdW) (h1 : ltOf cmpW x y = false) (h2 : ltOf cmpW y x = false) : x = y := by
  rw [ltW] at h1 h2
  simp only [decide_eq_false_iff_not] at h1 h2
  have a1 := cmp_swap x.1 y.1
  exact Subtype.ext ((xd_ord.zero x.1 y.1).1 (by omega))
theorem cmpLays_xid (g size : Nat) (w : World) : CmpLays Try.prog 78 #[] xdW 3 cmpW g 0 size w := fun m os dk _ x y =>
  (compare_grow x.1 y.1 _ x.2 y.2).mono fun _ _ ⟨he, q, os', hw⟩ => ⟨he, q, os', hw⟩
/-- slices.SortFunc of an own row of names -/
theorem sortx_any (A : Option Addr) (n c : Nat) (l : List XdW) (base : Nat) (w : World) (ho : OwnX w base A n c (l.map (·.1))) (hb : base ≤ w.heap.size) (hn9 : n ≤ 1000000000) :
    Calls Try.prog 77 #[.slice A n c, .func (.func 78) #[] #[]] w fun e w' => e = .returned (.tuple #[]) ∧ OwnX w' base A n c ((l.mergeSort fun x y => !(ltOf cmpW) y x).map (·.1)) ∧ w.grownBy w' (blk A) := by
  have ho : Own w base 24 3 A n c (rowC xdW l) := by rw [xdW_row]; exact ho
  have hn := own_len xdwShape ho
  rcases ho.2 with ⟨hv, hn0⟩ | ⟨g, cap, cur, hv, hbg, hh, hnc, hcm, hcs, ht⟩
  · injection hv with e1 e2 e3
    subst e1 e3 hn0
    obtain rfl : l = [] := List.eq_nil_of_length_eq_zero hn
    refine (AnyF.slices_SortFunc_none Try.sortXid none 0 _ w).mono ?_
    rintro e w' ⟨he, rfl⟩
    exact ⟨he, by rw [List.mergeSort_nil]; exact Own.none_ _ _ _ _, World.grownBy.refl _ _⟩
  · injection hv with e1 e2 e3
    subst e1 e3
    have hg : g < w.heap.size := (Array.getElem?_eq_some_iff.1 hh).1
    have eg : ∀ args w, (callFunc 78 args).run Try.prog w = .ok (.enter 78 args) w := enters_of Try.func78 (by kernel_rfl) rfl
    have hcon := AnyQ.slices_SortFunc_total Try.sortXid 3 Try.isAgg24 Try.sizeOf24 xdW (fun _ => rfl) (fun x => xdwShape.one x) cmpW swoW 78 #[] g 0 c l.toArray w eg (cmpLays_xid g _ w) (own_holds xdwShape ho) hg (by simp; omega) totW
    change Calls Try.prog 77 _ _ _ at hcon
    rw [List.size_toArray, hn] at hcon
    refine hcon.mono ?_
    rintro e w' ⟨he, m, os, rfl⟩
    refine ⟨he, ?_, grownBy_sortedK _⟩
    have h2 := own_sortedK (m := m) (os := os) xdwShape ho (d' := l.mergeSort fun x y => !(ltOf cmpW) y x) (by simp)
    rw [xdW_row] at h2
    exact h2
end Go.PH
end
section
/- The walk of slices.Compact at a row of names of the call's own. -/
set_option linter.all false
set_option linter.unusedSimpArgs false
set_option linter.unusedVariables false
namespace Go.PH
open Go.RowKit Go.Proofs Go.Sort

theorem xid_neqC (a b : Xd) (w : World) : (binOp .neq 24 (.agg (xdV a)) (.agg (xdV b))).run Try.prog w = .ok (.bool (!decide (a = b))) w := by
  rw [run_neq_struct, xid_equal]
  rfl
set_option maxRecDepth 20000 in
set_option maxHeartbeats 4000000 in
theorem compactx_any (A : Option Addr) (n c : Nat) (l : List Xd) (base : Nat) (w : World) (ho : OwnX w base A n c l) (hb : base ≤ w.heap.size) (hn9 : n ≤ 1000000000) :
    Calls Try.prog 79 #[.slice A n c] w fun e w' => e = .returned (.slice A (compTo l n).length c) ∧ OwnX w' base A (compTo l n).length c (compTo l n) ∧ Below base w w' := by
  have hl := own_len xdShape ho
  by_cases h2 : n < 2
  · have hd : (n : Int) < 2 := by omega
    have hc : compTo l n = l := by
      rw [compTo_all n (by omega) (fun j hj => by omega), ← hl, List.take_length]
    rw [hc, hl]
    clear hc hl
    go_enter Try.func79, Try.ntmps79
    go_wp2_with (first | (with_reducible refine hold_append ?_) | (with_reducible refine hold_make ?_) | (with_reducible refine hold_copy ?_))
    go_ret
    exact ⟨rfl, ho, Below.refl _ _⟩
  · have hd : ¬ (n : Int) < 2 := by omega
    obtain ⟨g, rfl, hbg, hgs⟩ := own_some ho (by omega)
    have hnc : n ≤ c ∧ c ≤ maxLen := by obtain ⟨_, _, _, h3, h4, _⟩ := own_heap ho; exact ⟨h3, h4⟩
    have hgrow : ∀ {w1 w2 : World}, Below base w w1 → w1.grownBy w2 (some g) → Below base w w2 := fun h1 h2 => h1.grown h2 (Nat.le_trans hb h1.size) (fun g' e => by injection e with e; omega)
    obtain ⟨R, hR⟩ : ∃ R, R = compTo l n := ⟨_, rfl⟩
    rw [← hR]
    have HR := Lib.hid hR
    have HL := Lib.hid hl
    clear hR hl
    go_enter Try.func79, Try.ntmps79
    go_wp2_with (first | (with_reducible refine hold_append ?_) | (with_reducible refine hold_make ?_) | (with_reducible refine hold_copy ?_))
    go_loopw [3] (fun s wr => ∃ (k : Nat), 1 ≤ k ∧ k ≤ n ∧ s = .int .i64 k ∧ (∀ j, j + 1 < k → l[j + 1]? ≠ l[j]?) ∧ OwnX wr base (some ⟨g, 0, none⟩) n c l ∧ Below base w wr) (fun s _ => n - (RowKit.intOf s).toNat)
    case atStart => exact ⟨1, by omega, by omega, rfl, fun j hj => by omega, ho, Below.refl _ _⟩
    case round =>
      obtain ⟨k, hk1, hk, rfl, hall, hor, hBr⟩ := hrel
      have HA := Lib.hid hall
      clear hall ho
      by_cases hlt : k < n
      · have hkn : (k : Int) < (n : Int) := by omega
        obtain ⟨b, off, e1, _, hkl, hc⟩ := rec_at xdShape hor.rd hlt
        obtain ⟨b', off', e2, _, hkl', hc'⟩ := rec_at xdShape hor.rd (show k - 1 < n by omega)
        injection e1 with e1; injection e1 with e1 e3; subst e1 e3
        injection e2 with e1; injection e1 with e1 e3; subst e1 e3
        have k0 := hc 0 _ rfl
        have k1 := hc 1 _ rfl
        have k2 := hc 2 _ rfl
        have j0 := hc' 0 _ rfl
        have j1 := hc' 1 _ rfl
        have j2 := hc' 2 _ rfl
        simp only [Nat.add_zero, Nat.zero_add] at k0 k1 k2 j0 j1 j2
        clear hc hc'
        have hneq := fun w => xid_eql l[k] l[k - 1] w
        have hgd := fun x y => run_eqGuard_agg (P := Try.prog) wr .eql 24 x y (xdV l[k]) (xdV l[k - 1]) xid_guard
        by_cases hxx : l[k] = l[k - 1]
        · rw [decide_eq_true hxx] at hneq
          have hst : Hid (compTo l (k + 1) = l.take k) := Lib.hid (by
            rw [← compTo_all k (by omega) HA.out]
            have := compTo_skip (l := l) (k := k - 1) (by omega) (by simp only [show k - 1 + 1 = k by omega]; exact hxx)
            rwa [show k - 1 + 2 = k + 1 by omega, show k - 1 + 1 = k by omega] at this)
          clear hxx
          generalize l[k] = x at *
          generalize l[k - 1] = y at *
          obtain ⟨xf, xg, xh⟩ := x
          obtain ⟨yf, yg, yh⟩ := y
          simp only [xdV] at hneq hgd k0 k1 k2 j0 j1 j2
          go_wp2_with (first | (with_reducible refine hold_append ?_) | (with_reducible refine hold_make ?_) | (with_reducible refine hold_copy ?_))
          go_quiet (fail)
          go_wp2_with (first | (with_reducible refine hold_slice ?_) | (with_reducible refine hold_store ?_) | (with_reducible refine hold_clear ?_))
          refine unhold (wp_cutE slX rfl rfl rfl hnc.2 hnc.1 k n c (.inr ⟨_, _, rfl, rfl⟩) (.inl ⟨rfl, rfl⟩) (.inl ⟨rfl, rfl⟩) (by intro h; cases h) (by omega) (by omega) (Nat.le_refl _) (Nat.le_refl _) ?_)
          rw [cutA_some _ _ _ _ _ (by omega), Nat.zero_add]
          obtain ⟨k00, hk00⟩ : ∃ k00, k00 = k := ⟨k, rfl⟩
          go_wp2_with (first | (with_reducible refine hold_append ?_) | (with_reducible refine hold_make ?_) | (with_reducible refine hold_copy ?_))
          go_loopw [3, 5] (fun s v wx => ∃ (k1 k2 : Nat) (r : List Xd), 1 ≤ k2 ∧ k2 ≤ n - k ∧ k1 + 1 ≤ k + k2 ∧ 1 ≤ k1 ∧ s = .int .i64 k1 ∧ v = .int .i64 k2 ∧ r.take k1 = compTo l (k + k2) ∧ (compTo l (k + k2)).length = k1 ∧ r.drop (k + k2 - 1) = l.drop (k + k2 - 1) ∧ OwnX wx base (some ⟨g, 0, none⟩) n c r ∧ Below base w wx) (fun _ v _ => n - (RowKit.intOf v).toNat)
          case atStart => exact ⟨k, 1, l, by omega, by omega, by omega, by omega, rfl, rfl, hst.out.symm, by rw [hst.out, List.length_take]; omega, rfl, hor, below_drewN hBr _⟩
          case round =>
            clear k0 k1 k2 j0 j1 j2 hor hBr hlt hkn
            obtain ⟨q1, q2, r, hq1, hq2, hq3, hq4, rfl, rfl, htk, htl, hdr, hor, hBr⟩ := hrel
            have HT := Lib.hid htk
            have HLn := Lib.hid htl
            have HD := Lib.hid hdr
            clear htk htl hdr
            have hrl := own_len xdShape hor
            have HRL := Lib.hid hrl
            clear hrl
            by_cases hlt : q2 < n - k
            · have hkn : (q2 : Int) < ((n - k : Nat) : Int) := by omega
              obtain ⟨b, off, e1, _, hrk, hc⟩ := rec_at xdShape hor.rd (show k + q2 < n by omega)
              obtain ⟨b', off', e2, _, hrk', hc'⟩ := rec_at xdShape hor.rd (show k + (q2 - 1) < n by omega)
              injection e1 with e1; injection e1 with e1 e3; subst e1 e3
              injection e2 with e1; injection e1 with e1 e3; subst e1 e3
              have k0 := hc 0 _ rfl
              have k1 := hc 1 _ rfl
              have k2 := hc 2 _ rfl
              have j0 := hc' 0 _ rfl
              have j1 := hc' 1 _ rfl
              have j2 := hc' 2 _ rfl
              simp only [Nat.add_zero, Nat.zero_add, Nat.add_mul] at k0 k1 k2 j0 j1 j2
              clear hc hc'
              have hlk : k + q2 < l.length := by rw [HL.out]; omega
              have hlk' : k + (q2 - 1) < l.length := by rw [HL.out]; omega
              have ex : r[k + q2] = l[k + q2] := by
                have := drop_get HD.out (i := k + q2) (by omega)
                rwa [List.getElem?_eq_getElem hrk, List.getElem?_eq_getElem hlk, Option.some_inj] at this
              have ey : r[k + (q2 - 1)] = l[k + (q2 - 1)] := by
                have := drop_get HD.out (i := k + (q2 - 1)) (by omega)
                rwa [List.getElem?_eq_getElem hrk', List.getElem?_eq_getElem hlk', Option.some_inj] at this
              have HSK : Hid (l[k + q2] = l[k + (q2 - 1)] → compTo l (k + q2 + 1) = compTo l (k + q2)) := Lib.hid fun h => by
                have := compTo_skip (l := l) (k := k + (q2 - 1)) (by omega) (by simp only [show k + (q2 - 1) + 1 = k + q2 by omega]; exact h)
                rwa [show k + (q2 - 1) + 2 = k + q2 + 1 by omega, show k + (q2 - 1) + 1 = k + q2 by omega] at this
              have HSS : Hid (l[k + q2] ≠ l[k + (q2 - 1)] → compTo l (k + q2 + 1) = compTo l (k + q2) ++ [l[k + q2]]) := Lib.hid fun h => by
                have := compTo_step (l := l) (k := k + (q2 - 1)) (by omega) (by simp only [show k + (q2 - 1) + 1 = k + q2 by omega]; exact h)
                simp only [show k + (q2 - 1) + 2 = k + q2 + 1 by omega, show k + (q2 - 1) + 1 = k + q2 by omega] at this
                exact this
              rw [ex] at k0 k1 k2
              rw [ey] at j0 j1 j2
              clear ex ey hneq hgd
              have hneq := fun w => xid_neqC l[k + q2] l[k + (q2 - 1)] w
              have hgd := fun x y => run_eqGuard_agg (P := Try.prog) wr .neq 24 x y (xdV l[k + q2]) (xdV l[k + (q2 - 1)]) xid_guard
              generalize hX : l[k + q2] = X at *
              generalize hY : l[k + (q2 - 1)] = Y at *
              obtain ⟨af, ag, ah⟩ := X
              obtain ⟨bf, bg, bh⟩ := Y
              clear hX hY
              by_cases hxx : (⟨af, ag, ah⟩ : Xd) = ⟨bf, bg, bh⟩
              · rw [decide_eq_true hxx] at hneq
                have HS := Lib.hid (HSK.out hxx)
                clear hxx
                simp only [xdV, Bool.not_true] at hneq hgd k0 k1 k2 j0 j1 j2
                go_wp2_with (first | (with_reducible refine hold_append ?_) | (with_reducible refine hold_make ?_) | (with_reducible refine hold_copy ?_))
                go_quiet (fail)
                go_wp2_with (first | (with_reducible refine hold_append ?_) | (with_reducible refine hold_make ?_) | (with_reducible refine hold_copy ?_))
                exact ⟨⟨q1, q2 + 1, r, by omega, by omega, by omega, by omega, rfl, by go_num, by rw [show k + (q2 + 1) = k + q2 + 1 by omega, HS.out]; exact HT.out, by rw [show k + (q2 + 1) = k + q2 + 1 by omega, HS.out]; exact HLn.out, drop_more HD.out (by omega), hor, below_drewN hBr _⟩, by simp [RowKit.intOf]; omega⟩
              · rw [decide_eq_false hxx] at hneq
                have HS := Lib.hid (HSS.out hxx)
                clear hxx
                simp only [xdV, Bool.not_false] at hneq hgd k0 k1 k2 j0 j1 j2
                go_wp2_with (first | (with_reducible refine hold_append ?_) | (with_reducible refine hold_make ?_) | (with_reducible refine hold_copy ?_))
                go_quiet (fail)
                go_wp2_with (first | (with_reducible refine hold_slice ?_) | (with_reducible refine hold_store ?_) | (with_reducible refine hold_clear ?_))
                refine unhold (wp_recset xdShape rfl rfl rfl rfl (Own.drewN hor _) (k := q1) (i := 0) (vs := [.int .u32 (af : Int), .string (str ag), .string (str ah)]) (by omega) (by have := HRL.out; omega) ⟨af, ag, ah⟩ rfl (by kernel_rfl) (by simp [xdC]) (by simp) (by omega) ?_)
                intro w7 ho7 hg7 _
                have hB7 := hgrow (below_drewN hBr _) hg7
                go_wp2_with (first | (with_reducible refine hold_append ?_) | (with_reducible refine hold_make ?_) | (with_reducible refine hold_copy ?_))
                exact ⟨⟨q1 + 1, q2 + 1, r.set q1 ⟨af, ag, ah⟩, by omega, by omega, by omega, by omega, by go_num, by go_num, by rw [show k + (q2 + 1) = k + q2 + 1 by omega, HS.out, set_take _ _ _ (by have := HRL.out; omega), HT.out], by rw [show k + (q2 + 1) = k + q2 + 1 by omega, HS.out, List.length_append, HLn.out]; rfl, by rw [set_drop _ _ _ _ (by omega)]; exact drop_more HD.out (by omega), ho7, hB7⟩, by simp [RowKit.intOf]; omega⟩
            · have hkn : ¬ (q2 : Int) < ((n - k : Nat) : Int) := by omega
              have HE : Hid (R = r.take q1 ∧ R.length = q1) := Lib.hid (by
                have e : k + q2 = n := by omega
                have h1 := HT.out
                have h2 := HLn.out
                rw [e] at h1 h2
                rw [HR.out]
                exact ⟨h1.symm, h2⟩)
              clear hneq hgd
              go_wp2_with (first | (with_reducible refine hold_slice ?_) | (with_reducible refine hold_store ?_) | (with_reducible refine hold_clear ?_))
              refine unhold (wp_cutE slX rfl rfl rfl hnc.2 hnc.1 q1 n c (.inr ⟨_, _, rfl, rfl⟩) (.inl ⟨rfl, rfl⟩) (.inl ⟨rfl, rfl⟩) (by intro h; cases h) (by omega) (by omega) (Nat.le_refl _) (Nat.le_refl _) ?_)
              rw [cutA_some _ _ _ _ _ (by omega), Nat.zero_add]
              go_wp2_with (first | (with_reducible refine hold_slice ?_) | (with_reducible refine hold_store ?_) | (with_reducible refine hold_clear ?_))
              refine unhold (wp_rectail xdShape rfl rfl Try.underlying31 Try.zeroValue24 rfl rfl (by simp; decide) hor (by omega) rfl ?_)
              intro w7 ho7 hg7 _
              have hB7 := hgrow hBr hg7
              go_wp2_with (first | (with_reducible refine hold_slice ?_) | (with_reducible refine hold_store ?_) | (with_reducible refine hold_clear ?_))
              refine unhold (wp_cutE slX rfl rfl rfl hnc.2 hnc.1 0 q1 c (.inl ⟨rfl, rfl⟩) (.inr ⟨_, _, rfl, rfl⟩) (.inl ⟨rfl, rfl⟩) (by intro h; cases h) (by omega) (by omega) (Nat.le_refl _) (by omega) ?_)
              rw [cutA_zero _ _ rfl]
              simp only [Nat.sub_zero]
              go_wp2_with (first | (with_reducible refine hold_append ?_) | (with_reducible refine hold_make ?_) | (with_reducible refine hold_copy ?_))
              go_ret
              rw [HE.out.2, HE.out.1]
              exact ⟨rfl, ho7, hB7⟩
        · rw [decide_eq_false hxx] at hneq
          have hall2 : Hid (∀ j, j + 1 < k + 1 → l[j + 1]? ≠ l[j]?) := Lib.hid fun j hj => by
            by_cases hjk : j + 1 < k
            · exact HA.out j hjk
            · obtain rfl : j = k - 1 := by omega
              simp only [show k - 1 + 1 = k by omega]
              rw [List.getElem?_eq_getElem hkl, List.getElem?_eq_getElem hkl']
              simpa using hxx
          clear hxx
          generalize l[k] = x at *
          generalize l[k - 1] = y at *
          obtain ⟨xf, xg, xh⟩ := x
          obtain ⟨yf, yg, yh⟩ := y
          simp only [xdV] at hneq hgd k0 k1 k2 j0 j1 j2
          go_wp2_with (first | (with_reducible refine hold_append ?_) | (with_reducible refine hold_make ?_) | (with_reducible refine hold_copy ?_))
          go_quiet (fail)
          go_wp2_with (first | (with_reducible refine hold_append ?_) | (with_reducible refine hold_make ?_) | (with_reducible refine hold_copy ?_))
          exact ⟨⟨k + 1, by omega, by omega, by go_num, hall2.out, hor, below_drewN hBr _⟩, by simp [RowKit.intOf]; omega⟩
      · obtain rfl : k = n := by omega
        go_wp2_with (first | (with_reducible refine hold_append ?_) | (with_reducible refine hold_make ?_) | (with_reducible refine hold_copy ?_))
        go_ret
        rw [HR.out, compTo_all k (by rw [HL.out]; exact Nat.le_refl _) HA.out, ← HL.out, List.take_length, HL.out]
        exact ⟨rfl, hor, hBr⟩
end Go.PH
end
section
/- The walks of Sorted, and of the reference's Same. -/
set_option linter.all false
set_option linter.unusedSimpArgs false
set_option linter.unusedVariables false
namespace Go.PH
open Go.RowKit Go.Proofs Go.Sort

set_option maxRecDepth 20000 in
set_option maxHeartbeats 4000000 in
theorem sorted_any (A : Option Addr) (n c : Nat) (l : List Xd) (B : Nat) (w : World) (hr : RdX w B A n c l) (hB : B ≤ w.heap.size) (hwf : ∀ x ∈ l, x.wf) (hn9 : n ≤ 1000000) :
    Calls Try.prog 73 #[.slice A n c] w fun e w' => ∃ A2 c2, e = .returned (.slice A2 (xdSort l).length c2) ∧ OwnX w' w.heap.size A2 (xdSort l).length c2 (xdSort l) ∧ Below w.heap.size w w' := by
  have hl := rec_length xdShape hr
  have HL := Lib.hid hl
  clear hl
  obtain ⟨R, hR⟩ : ∃ R, R = xdSort l := ⟨_, rfl⟩
  rw [← hR]
  have HR := Lib.hid hR
  clear hR
  go_enter Try.func73, Try.ntmps73
  go_wp2_with (first | (with_reducible refine hold_append ?_) | (with_reducible refine hold_make ?_) | (with_reducible refine hold_copy ?_))
  go_loopw [3, 8] (fun v s wr => ∃ (k N c2 : Nat) (A2 : Option Addr), k ≤ n ∧ N ≤ k ∧ v = .slice A2 N c2 ∧ s = .int .i64 k ∧ OwnX wr w.heap.size A2 N c2 ((l.take k).filter Xd.ok) ∧ Below w.heap.size w wr) (fun _ s _ => n - (RowKit.intOf s).toNat)
  case atStart => exact ⟨0, 0, 0, none, by omega, by omega, rfl, rfl, by rw [List.take_zero]; exact Own.none_ _ _ _ _, Below.refl _ _⟩
  case round =>
    obtain ⟨k, N, c2, A2, hk, hNk, rfl, rfl, ho, hBr⟩ := hrel
    by_cases hlt : k < n
    · have hkn : (k : Int) < (n : Int) := by omega
      obtain ⟨b, off, rfl, hbB, hkl, hc⟩ := rec_at xdShape (Rd.below hr (hBr.mono hB)) hlt
      have hxw := hwf l[k] (List.getElem_mem hkl)
      have HT := Lib.hid (List.take_succ_eq_append_getElem hkl)
      have hck := fun W => check_any l[k] W hxw
      have k0 := hc 0 _ rfl
      have k1 := hc 1 _ rfl
      have k2 := hc 2 _ rfl
      simp only [Nat.add_zero] at k0 k1 k2
      clear hc hwf hxw
      have hz := hBr.size
      generalize l[k] = x at *
      have HOK : Hid (x.err = if x.ok then 0 else 40) := Lib.hid rfl
      have HF : Hid ((l.take (k + 1)).filter Xd.ok = (l.take k).filter Xd.ok ++ if x.ok then [x] else []) := Lib.hid (by
        rw [HT.out, List.filter_append]
        congr 1
        cases hx : x.ok <;> simp [hx])
      generalize x.err = er at *
      cases hx : x.ok
      · obtain rfl : er = 40 := by have := HOK.out; rw [hx] at this; simpa using this
        have HF2 := Lib.hid HF.out
        rw [hx] at HF2
        clear HF HOK HT hx
        obtain ⟨xf, xg, xh⟩ := x
        simp only [xdV] at hck k0 k1 k2
        have hB1 := hBr.alloc hz (.cells #[.int .u32 (xf : Int), .string (str xg), .string (str xh)] 24)
        have hb1 : Box (wr.alloc (.cells #[.int .u32 (xf : Int), .string (str xg), .string (str xh)] 24)) wr.heap.size 24 #[.int .u32 (xf : Int), .string (str xg), .string (str xh)] := Box.new _ _ _
        have ho1 := ho.alloc (.cells #[.int .u32 (xf : Int), .string (str xg), .string (str xh)] 24)
        have q0 := hb1.cell (j := 0) rfl
        have q1 := hb1.cell (j := 1) rfl
        have q2 := hb1.cell (j := 2) rfl
        go_wp2_with (first | (with_reducible refine hold_append ?_) | (with_reducible refine hold_make ?_) | (with_reducible refine hold_copy ?_))
        refine (hck _).mono ?_
        rintro e w2 ⟨rfl, hB2⟩
        have hB02 := hB1.trans (hB2.mono hB1.size)
        have ho2 := own_below ho1 hB2
        clear hck
        go_wp2_with (first | (with_reducible refine hold_append ?_) | (with_reducible refine hold_make ?_) | (with_reducible refine hold_copy ?_))
        exact ⟨⟨k + 1, N, c2, A2, by omega, by omega, rfl, by go_num, by rw [HF2.out]; simpa using ho2, hB02⟩, by simp [RowKit.intOf]; omega⟩
      · obtain rfl : er = 0 := by have := HOK.out; rw [hx] at this; simpa using this
        have HF2 := Lib.hid HF.out
        rw [hx] at HF2
        clear HF HOK HT hx
        obtain ⟨xf, xg, xh⟩ := x
        simp only [xdV] at hck k0 k1 k2
        have hB1 := hBr.alloc hz (.cells #[.int .u32 (xf : Int), .string (str xg), .string (str xh)] 24)
        have hb1 : Box (wr.alloc (.cells #[.int .u32 (xf : Int), .string (str xg), .string (str xh)] 24)) wr.heap.size 24 #[.int .u32 (xf : Int), .string (str xg), .string (str xh)] := Box.new _ _ _
        have ho1 := ho.alloc (.cells #[.int .u32 (xf : Int), .string (str xg), .string (str xh)] 24)
        have q0 := hb1.cell (j := 0) rfl
        have q1 := hb1.cell (j := 1) rfl
        have q2 := hb1.cell (j := 2) rfl
        go_wp2_with (first | (with_reducible refine hold_append ?_) | (with_reducible refine hold_make ?_) | (with_reducible refine hold_copy ?_))
        refine (hck _).mono ?_
        rintro e w2 ⟨rfl, hB2⟩
        have hB02 := hB1.trans (hB2.mono hB1.size)
        have ho2 := own_below ho1 hB2
        have hb2 := hb1.below hB2
        have p0 := hb2.cell (j := 0) rfl
        have p1 := hb2.cell (j := 1) rfl
        have p2 := hb2.cell (j := 2) rfl
        clear hck q0 q1 q2
        go_wp2_with (first | (with_reducible refine hold_append ?_) | (with_reducible refine hold_make ?_) | (with_reducible refine hold_copy ?_))
        refine unhold (wp_rec xdShape slX Try.underlying31 rfl rfl rfl rfl rfl (⟨xf, xg, xh⟩ : Xd) rfl ho2 (by omega) (by omega) hB02.size ?_)
        intro A4 c4 w4 ho4 _ _ hB4
        go_wp2_with (first | (with_reducible refine hold_append ?_) | (with_reducible refine hold_make ?_) | (with_reducible refine hold_copy ?_))
        exact ⟨⟨k + 1, N + 1, c4, A4, by omega, by omega, rfl, by go_num, by rw [HF2.out]; exact ho4, hB02.trans hB4⟩, by simp [RowKit.intOf]; omega⟩
    · obtain rfl : k = n := by omega
      have hall : l.take k = l := by rw [← HL.out, List.take_length]
      rw [hall] at ho
      have hz := hBr.size
      obtain ⟨F, hF⟩ : ∃ F : List XdW, F.map (·.1) = l.filter Xd.ok := ⟨(l.filter Xd.ok).pmap Subtype.mk (fun x hx => hwf x (List.mem_filter.1 hx).1), by rw [List.map_pmap]; simp⟩
      have hFl : F.length = N := by
        have := own_len xdShape ho
        rw [← hF] at this
        simpa using this
      rw [← hF] at ho
      have hs := sortx_any A2 N c2 F w.heap.size wr ho hz (by omega)
      have hSP : Hid ((((F.mergeSort fun x y => !(ltOf cmpW) y x).map (·.1))).Perm (l.filter Xd.ok)) := Lib.hid (by rw [← hF]; exact (List.mergeSort_perm _ _).map _)
      have hSS : Hid ((((F.mergeSort fun x y => !(ltOf cmpW) y x).map (·.1))).Pairwise (fun a b => Xd.cmp a b ≤ 0)) := Lib.hid (by
        have h1 := List.pairwise_mergeSort (le := fun x y => !(ltOf cmpW) y x) (fun a b d h1 h2 => by
          simp only [Bool.not_eq_eq_eq_not, Bool.not_true] at *
          exact swoW.ntrans _ _ _ h2 h1) (fun a b => by
          rw [Bool.or_eq_true]
          simp only [Bool.not_eq_eq_eq_not, Bool.not_true]
          by_cases h : ltOf cmpW b a = true
          · right
            rw [ltW] at *
            simp only [decide_eq_true_eq, decide_eq_false_iff_not] at *
            have := cmp_swap a.1 b.1
            omega
          · left; simpa using h) F
        refine List.Pairwise.map _ (fun a b h => ?_) h1
        simp only [Bool.not_eq_eq_eq_not, Bool.not_true] at h
        rw [ltW] at h
        simp only [decide_eq_false_iff_not] at h
        have := cmp_swap a.1 b.1
        omega)
      have hSL : Hid (((F.mergeSort fun x y => !(ltOf cmpW) y x).map (·.1)).length = N) := Lib.hid (by simp [hFl])
      generalize ((F.mergeSort fun x y => !(ltOf cmpW) y x).map (·.1)) = S at *
      have HC : Hid (compTo S N = R) := Lib.hid (by rw [HR.out, ← comp_sort hSP.out hSS.out, hSL.out])
      have hcmp := fun W h1 h2 => compactx_any A2 N c2 S w.heap.size W h1 h2 (by omega)
      rw [HC.out] at hcmp
      clear hwf hall hF hFl
      go_wp2_with (first | (with_reducible refine hold_append ?_) | (with_reducible refine hold_make ?_) | (with_reducible refine hold_copy ?_))
      refine hs.mono ?_
      rintro e w2 ⟨rfl, ho2, hg2⟩
      have hB2 : Below w.heap.size w w2 := hBr.grown hg2 hz (fun g hg => (ho.blk_lt hg).1)
      clear hs
      go_wp2_with (first | (with_reducible refine hold_append ?_) | (with_reducible refine hold_make ?_) | (with_reducible refine hold_copy ?_))
      refine (hcmp w2 ho2 hB2.size).mono ?_
      rintro e w3 ⟨rfl, ho3, hB3⟩
      go_wp2_with (first | (with_reducible refine hold_append ?_) | (with_reducible refine hold_make ?_) | (with_reducible refine hold_copy ?_))
      go_ret
      exact ⟨A2, c2, rfl, ho3, hB2.trans hB3⟩
set_option maxRecDepth 20000 in
set_option maxHeartbeats 1000000 in
theorem xsame_any (A : Option Addr) (n c : Nat) (l : List Xd) (A' : Option Addr) (n' c' : Nat) (l' : List Xd) (B : Nat) (w : World) (hr : RdX w B A n c l) (hr' : RdX w B A' n' c' l') (hB : B ≤ w.heap.size) (hn : n ≤ 140737488355328) (hn' : n' ≤ 140737488355328) :
    Calls Try.prog 71 #[.slice A n c, .slice A' n' c'] w fun e w' => e = .returned (.bool (decide (l = l'))) ∧ Below w.heap.size w w' := by
  have hl := rec_length xdShape hr
  have hl' := rec_length xdShape hr'
  by_cases hnn : n = n'
  · subst hnn
    have h0 : (((n : Nat) : Int) != ((n : Nat) : Int)) = false := by simp
    go_enter Try.func71, Try.ntmps71
    go_wp2_with (first | (with_reducible refine hold_append ?_) | (with_reducible refine hold_make ?_) | (with_reducible refine hold_copy ?_))
    go_loopw [5] (fun s wr => ∃ (k : Nat), k ≤ n ∧ s = .int .i64 k ∧ l.take k = l'.take k ∧ Below w.heap.size w wr) (fun s _ => n - (RowKit.intOf s).toNat)
    case atStart => exact ⟨0, by omega, rfl, by simp, Below.refl _ _⟩
    case round =>
      obtain ⟨k, hk, rfl, hrk, hBr⟩ := hrel
      by_cases hlt : k < n
      · obtain ⟨b, off, rfl, hbB, hkl, hc⟩ := rec_at xdShape (Rd.below hr (hBr.mono hB)) hlt
        obtain ⟨b', off', rfl, hbB', hkl', hc'⟩ := rec_at xdShape (Rd.below hr' (hBr.mono hB)) hlt
        have HT := Lib.hid (List.take_succ_eq_append_getElem hkl)
        have HT' := Lib.hid (List.take_succ_eq_append_getElem hkl')
        have HE : Hid (l = l' → l[k] = l'[k]) := Lib.hid (fun h => by subst h; rfl)
        have HK := Lib.hid hrk
        clear hrk
        generalize l[k] = x at *
        generalize l'[k] = x' at *
        have hneq := fun w => xid_neqC x x' w
        obtain ⟨xf, xg, xh⟩ := x
        obtain ⟨yf, yg, yh⟩ := x'
        simp only [xdV] at hneq
        have k0 := hc 0 _ rfl
        have k1 := hc 1 _ rfl
        have k2 := hc 2 _ rfl
        have j0 := hc' 0 _ rfl
        have j1 := hc' 1 _ rfl
        have j2 := hc' 2 _ rfl
        simp only [Nat.add_zero] at k0 j0
        have hkn : (k : Int) < (n : Int) := by omega
        clear hc hc'
        have hgd := fun x y => run_eqGuard_agg (P := Try.prog) wr .neq 24 x y #[.int .u32 (xf : Int), .string (str xg), .string (str xh)] #[.int .u32 (yf : Int), .string (str yg), .string (str yh)] xid_guard
        by_cases hxx : (⟨xf, xg, xh⟩ : Xd) = ⟨yf, yg, yh⟩
        · rw [decide_eq_true hxx] at hneq
          have hy : Hid (l.take (k + 1) = l'.take (k + 1)) := Lib.hid (by rw [HT.out, HT'.out, HK.out, hxx])
          clear hxx
          simp only [Bool.not_true] at hneq
          go_wp2_with (first | (with_reducible refine hold_append ?_) | (with_reducible refine hold_make ?_) | (with_reducible refine hold_copy ?_))
          go_quiet (fail)
          go_wp2_with (first | (with_reducible refine hold_append ?_) | (with_reducible refine hold_make ?_) | (with_reducible refine hold_copy ?_))
          exact ⟨⟨k + 1, by omega, by go_num, hy.out, below_drewN hBr _⟩, by simp [RowKit.intOf]; omega⟩
        · rw [decide_eq_false hxx] at hneq
          have hno : decide (l = l') = false := by
            have := HE.out
            simp only [decide_eq_false_iff_not]
            exact fun h => hxx (this h)
          clear hxx
          simp only [Bool.not_false] at hneq
          go_wp2_with (first | (with_reducible refine hold_append ?_) | (with_reducible refine hold_make ?_) | (with_reducible refine hold_copy ?_))
          go_quiet (fail)
          go_wp2_with (first | (with_reducible refine hold_append ?_) | (with_reducible refine hold_make ?_) | (with_reducible refine hold_copy ?_))
          go_ret
          rw [hno]
          exact ⟨rfl, below_drewN hBr _⟩
      · obtain rfl : k = n := by omega
        rw [← hl, List.take_length, hl, ← hl', List.take_length] at hrk
        subst hrk
        go_wp2_with (first | (with_reducible refine hold_append ?_) | (with_reducible refine hold_make ?_) | (with_reducible refine hold_copy ?_))
        go_ret
        exact ⟨by simp, hBr⟩
  · have h0 : (((n : Nat) : Int) != ((n' : Nat) : Int)) = true := by simp; omega
    have hne : decide (l = l') = false := by
      simp; rintro rfl; omega
    go_enter Try.func71, Try.ntmps71
    go_wp2_with (first | (with_reducible refine hold_append ?_) | (with_reducible refine hold_make ?_) | (with_reducible refine hold_copy ?_))
    go_ret
    rw [hne]
    exact ⟨rfl, Below.refl _ _⟩
end Go.PH
end

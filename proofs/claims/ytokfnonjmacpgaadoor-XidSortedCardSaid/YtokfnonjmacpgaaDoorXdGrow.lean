/- The library's sort of names: Compare lays blocks and draws alone; SortFunc and Compact at rows of names. -/
import Derived.Test.YtokfnonjmacpgaaDoorXdCompare
import Derived.Test.YtokfnonjmacpgaaDoorXdSee
import Derived.Test.YtokfnonjmacpgaaDoorXdSortMath
import Derived.Test.YtokfnonjmacpgaaDoorRecSort
set_option linter.all false
set_option linter.unusedSimpArgs false
set_option linter.unusedVariables false
namespace Go.PH
open Go.RowKit Go.Proofs Go.Sort

theorem xdShape : RecShape xdC 3 where
  len a := rfl
  one a u hu := by simp [xdC] at hu; rcases hu with rfl | rfl | rfl <;> rfl
  pos := by omega
theorem slX : SlT Tryd.prog 53 24 3 40 (.agg #[.int .u32 0, .string ⟨#[]⟩, .string ⟨#[]⟩]) := SlT.mk' Tryd.underlying53 (by kernel_rfl) rfl (by omega)
abbrev OwnX (w : World) (base : Nat) (A : Option Addr) (n c : Nat) (l : List Xd) : Prop := Own w base 24 3 A n c (rowC xdC l)
abbrev RdX (w : World) (B : Nat) (A : Option Addr) (n c : Nat) (l : List Xd) : Prop := Rd w B 3 A n c (rowC xdC l)
def Tryd.sortXid_ren : Go.Shelf.Ren := ⟨fun | 6 => 51 | 14 => 74 | 15 => 75 | 20 => 91 | 21 => 92 | 22 => 93 | 23 => 94 | 24 => 95 | 25 => 96 | 26 => 97 | 27 => 98 | 28 => 99 | 29 => 100 | 46 => 113 | 47 => 114 | 48 => 115 | 49 => 116 | 50 => 117 | 57 => 126 | n => n, fun | 0 => 0 | 1 => 1 | 2 => 2 | 3 => 3 | 4 => 4 | 5 => 5 | 9 => 9 | 12 => 12 | 13 => 13 | 20 => 20 | 21 => 21 | 22 => 53 | 23 => 85 | 24 => 24 | 25 => 32 | 27 => 90 | 37 => 106 | 38 => 107 | 39 => 88 | 40 => 46 | 42 => 92 | 44 => 120 | 45 => 121 | 46 => 122 | 47 => 123 | 48 => 124 | 49 => 125 | 50 => 126 | 51 => 127 | 52 => 128 | 53 => 22 | 54 => 115 | 55 => 59 | 66 => 142 | 67 => 143 | 68 => 144 | 69 => 145 | 70 => 146 | 71 => 147 | 76 => 151 | 77 => 152 | 78 => 153 | 81 => 98 | 87 => 80 | 90 => 170 | 91 => 119 | 96 => 140 | n => n, fun | n => n⟩
theorem Tryd.sortXid : Go.Proofs.SlLaysF0.n6 Tryd.prog Tryd.sortXid_ren := {
  mixed := by kernel_rfl
  f6 := ⟨Tryd.f51.name, by decide, Tryd.func51.trans (congrArg some (by kernel_rfl))⟩
  f14 := ⟨Tryd.f74.name, by decide, Tryd.func74.trans (congrArg some (by kernel_rfl))⟩
  f15 := Tryd.func75.trans (congrArg some (by kernel_rfl))
  f20 := ⟨Tryd.f91.name, by decide, Tryd.func91.trans (congrArg some (by kernel_rfl))⟩
  f21 := ⟨Tryd.f92.name, by decide, Tryd.func92.trans (congrArg some (by kernel_rfl))⟩
  f22 := ⟨Tryd.f93.name, by decide, Tryd.func93.trans (congrArg some (by kernel_rfl))⟩
  f23 := ⟨Tryd.f94.name, by decide, Tryd.func94.trans (congrArg some (by kernel_rfl))⟩
  f24 := ⟨Tryd.f95.name, by decide, Tryd.func95.trans (congrArg some (by kernel_rfl))⟩
  f25 := ⟨Tryd.f96.name, by decide, Tryd.func96.trans (congrArg some (by kernel_rfl))⟩
  f26 := ⟨Tryd.f97.name, by decide, Tryd.func97.trans (congrArg some (by kernel_rfl))⟩
  f27 := ⟨Tryd.f98.name, by decide, Tryd.func98.trans (congrArg some (by kernel_rfl))⟩
  f28 := Tryd.func99.trans (congrArg some (by kernel_rfl))
  f29 := Tryd.func100.trans (congrArg some (by kernel_rfl))
  f46 := ⟨Tryd.f113.name, by decide, Tryd.func113.trans (congrArg some (by kernel_rfl))⟩
  f47 := Tryd.func114.trans (congrArg some (by kernel_rfl))
  f48 := Tryd.func115.trans (congrArg some (by kernel_rfl))
  f49 := ⟨Tryd.f116.name, by decide, Tryd.func116.trans (congrArg some (by kernel_rfl))⟩
  f50 := ⟨Tryd.f117.name, by decide, Tryd.func117.trans (congrArg some (by kernel_rfl))⟩
  f57 := ⟨Tryd.f126.name, by decide, Tryd.func126.trans (congrArg some (by kernel_rfl))⟩
  t0 := Tryd.underlying0
  a0 := Tryd.isAgg0
  z0 := Tryd.sizeOf0
  v0 := Tryd.zeroValue0
  t3 := Tryd.underlying3
  a3 := Tryd.isAgg3
  z3 := Tryd.sizeOf3
  v3 := Tryd.zeroValue3
  t4 := Tryd.underlying4
  a4 := Tryd.isAgg4
  z4 := Tryd.sizeOf4
  v4 := Tryd.zeroValue4
  t5 := Tryd.underlying5
  a5 := Tryd.isAgg5
  z5 := Tryd.sizeOf5
  v5 := Tryd.zeroValue5
  t9 := Tryd.underlying9
  a9 := Tryd.isAgg9
  z9 := Tryd.sizeOf9
  v9 := Tryd.zeroValue9
  t22 := Tryd.underlying53
  a22 := Tryd.isAgg53
  z22 := Tryd.sizeOf53
  v22 := Tryd.zeroValue53
  t25 := Tryd.underlying32
  a25 := Tryd.isAgg32
  z25 := Tryd.sizeOf32
  v25 := Tryd.zeroValue32
  t39 := Tryd.underlying88
  a39 := Tryd.isAgg88
  z39 := Tryd.sizeOf88
  v39 := Tryd.zeroValue88
  t45 := Tryd.underlying121
  a45 := Tryd.isAgg121
  z45 := Tryd.sizeOf121
  v45 := Tryd.zeroValue121
  t46 := Tryd.underlying122
  a46 := Tryd.isAgg122
  z46 := Tryd.sizeOf122
  v46 := Tryd.zeroValue122
  t50 := Tryd.underlying126
  a50 := Tryd.isAgg126
  z50 := Tryd.sizeOf126
  v50 := Tryd.zeroValue126
  t53 := Tryd.underlying22
  a53 := Tryd.isAgg22
  z53 := Tryd.sizeOf22
  v53 := Tryd.zeroValue22
  t55 := Tryd.underlying59
  a55 := Tryd.isAgg59
  z55 := Tryd.sizeOf59
  v55 := Tryd.zeroValue59
  t66 := Tryd.underlying142
  a66 := Tryd.isAgg142
  z66 := Tryd.sizeOf142
  v66 := Tryd.zeroValue142
  t70 := Tryd.underlying146
  a70 := Tryd.isAgg146
  z70 := Tryd.sizeOf146
  v70 := Tryd.zeroValue146
  t76 := Tryd.underlying151
  a76 := Tryd.isAgg151
  z76 := Tryd.sizeOf151
  v76 := Tryd.zeroValue151
  t77 := Tryd.underlying152
  a77 := Tryd.isAgg152
  z77 := Tryd.sizeOf152
  v77 := Tryd.zeroValue152 }
set_option maxRecDepth 20000 in
set_option maxHeartbeats 1000000 in
theorem compare_grow (a b : Xd) (w : World) (ha : a.wf) (hb : b.wf) :
    Calls Tryd.prog 14 #[.agg (xdV a), .agg (xdV b)] w fun e w' => e = .returned (.int .i64 (Xd.cmp a b)) ∧ Grows w w' := by
  have HC : Hid (Xd.cmp a b = orI (cmpN a.fmt b.fmt) (orI (Lib.compareBytes a.glob b.glob) (Lib.compareBytes a.bran b.bran))) := Lib.hid rfl
  obtain ⟨f, g, h⟩ := a
  obtain ⟨f', g', h'⟩ := b
  simp only at HC
  generalize Xd.cmp ⟨f, g, h⟩ ⟨f', g', h'⟩ = r at *
  unfold xdV
  simp only
  have hc1 := fun w => cmp_any f f' w
  have hc2 := fun w => Tryd.strings_Compare (str g) (str g') w
  have hc3 := fun w => Tryd.strings_Compare (str h) (str h') w
  have es : ∀ l, (str l).data.toList = l := fun l => rfl
  rw [es, es] at hc2 hc3
  generalize cmpN f f' = x at *
  generalize Lib.compareBytes g g' = y at *
  generalize Lib.compareBytes h h' = z at *
  obtain ⟨w0, hw0⟩ : ∃ w0, w0 = ((w.alloc (.cells #[.int .u32 (f : Int), .string (str g), .string (str h)] 24)).alloc (.cells #[.int .u32 (f' : Int), .string (str g'), .string (str h')] 24)) := ⟨_, rfl⟩
  have hB0 : Grows w w0 := by rw [hw0]; exact ((Grows.refl _).alloc _).alloc _
  have hb0 : Box w0 w.heap.size 24 #[.int .u32 (f : Int), .string (str g), .string (str h)] := by rw [hw0]; exact (Box.new _ _ _).alloc _
  have hb1 : Box w0 (w.heap.size + 1) 24 #[.int .u32 (f' : Int), .string (str g'), .string (str h')] := by
    rw [hw0]
    have := Box.new (w.alloc (.cells #[.int .u32 (f : Int), .string (str g), .string (str h)] 24)) #[.int .u32 (f' : Int), .string (str g'), .string (str h')] 24
    rwa [show (w.alloc (.cells #[.int .u32 (f : Int), .string (str g), .string (str h)] 24)).heap.size = w.heap.size + 1 by simp] at this
  go_enter Tryd.func14, Tryd.ntmps14
  go_wp2_with (first | (with_reducible refine hold_append ?_) | (with_reducible refine hold_make ?_) | (with_reducible refine hold_copy ?_))
  rw [← hw0]
  clear hw0
  refine rg_start (fun wx : World => Box wx w.heap.size 24 #[.int .u32 (f : Int), .string (str g), .string (str h)] ∧ Box wx (w.heap.size + 1) 24 #[.int .u32 (f' : Int), .string (str g'), .string (str h')]) (by kernel_rfl) ?_
  have hS : Box w0.drew w.heap.size 24 #[.int .u32 (f : Int), .string (str g), .string (str h)] ∧ Box w0.drew (w.heap.size + 1) 24 #[.int .u32 (f' : Int), .string (str g'), .string (str h')] := ⟨hb0, hb1⟩
  have hBd : Grows w w0.drew := hB0.drew
  generalize w0.drew = w1 at *
  refine rg_take 0 (v := ?_) rfl (by kernel_rfl) (by kernel_rfl) (by kernel_rfl) hS rfl ?_ ?_
  rotate_left
  · intro wS hSw; go_simp; (with_reducible rfl)
  simp only [List.getElem_toArray, List.getElem_cons_zero, Act.put, List.setIfInBounds_toArray, List.set_cons_zero, List.set_cons_succ]
  refine rg_take 1 (v := ?_) rfl (by kernel_rfl) (by kernel_rfl) (by kernel_rfl) hS rfl ?_ ?_
  rotate_left
  · intro wS hSw; have k0 := hSw.1.cell (j := 0) rfl; have k1 := hSw.1.cell (j := 1) rfl; have k2 := hSw.1.cell (j := 2) rfl; go_simp; (with_reducible rfl)
  simp only [List.getElem_toArray, List.getElem_cons_succ, List.getElem_cons_zero, Act.put, List.setIfInBounds_toArray, List.set_cons_zero, List.set_cons_succ]
  refine rg_take 2 (v := ?_) rfl (by kernel_rfl) (by kernel_rfl) (by kernel_rfl) hS rfl ?_ ?_
  rotate_left
  · intro wS hSw; go_simp; (with_reducible rfl)
  simp only [List.getElem_toArray, List.getElem_cons_succ, List.getElem_cons_zero, Act.put, List.setIfInBounds_toArray, List.set_cons_zero, List.set_cons_succ]
  refine rg_take 3 (v := ?_) rfl (by kernel_rfl) (by kernel_rfl) (by kernel_rfl) hS rfl ?_ ?_
  rotate_left
  · intro wS hSw; have k0 := hSw.2.cell (j := 0) rfl; go_simp; (with_reducible rfl)
  simp only [List.getElem_toArray, List.getElem_cons_succ, List.getElem_cons_zero, Act.put, List.setIfInBounds_toArray, List.set_cons_zero, List.set_cons_succ]
  refine rg_take 5 (v := ?_) rfl (by kernel_rfl) (by kernel_rfl) (by kernel_rfl) hS rfl ?_ ?_
  rotate_left
  · intro wS hSw; go_simp; (with_reducible rfl)
  simp only [List.getElem_toArray, List.getElem_cons_succ, List.getElem_cons_zero, Act.put, List.setIfInBounds_toArray, List.set_cons_zero, List.set_cons_succ]
  refine rg_take 6 (v := ?_) rfl (by kernel_rfl) (by kernel_rfl) (by kernel_rfl) hS rfl ?_ ?_
  rotate_left
  · intro wS hSw; have k0 := hSw.1.cell (j := 1) rfl; go_simp; (with_reducible rfl)
  simp only [List.getElem_toArray, List.getElem_cons_succ, List.getElem_cons_zero, Act.put, List.setIfInBounds_toArray, List.set_cons_zero, List.set_cons_succ]
  refine rg_take 7 (v := ?_) rfl (by kernel_rfl) (by kernel_rfl) (by kernel_rfl) hS rfl ?_ ?_
  rotate_left
  · intro wS hSw; go_simp; (with_reducible rfl)
  simp only [List.getElem_toArray, List.getElem_cons_succ, List.getElem_cons_zero, Act.put, List.setIfInBounds_toArray, List.set_cons_zero, List.set_cons_succ]
  refine rg_take 8 (v := ?_) rfl (by kernel_rfl) (by kernel_rfl) (by kernel_rfl) hS rfl ?_ ?_
  rotate_left
  · intro wS hSw; have k0 := hSw.2.cell (j := 1) rfl; go_simp; (with_reducible rfl)
  simp only [List.getElem_toArray, List.getElem_cons_succ, List.getElem_cons_zero, Act.put, List.setIfInBounds_toArray, List.set_cons_zero, List.set_cons_succ]
  refine rg_take 10 (v := ?_) rfl (by kernel_rfl) (by kernel_rfl) (by kernel_rfl) hS rfl ?_ ?_
  rotate_left
  · intro wS hSw; go_simp; (with_reducible rfl)
  simp only [List.getElem_toArray, List.getElem_cons_succ, List.getElem_cons_zero, Act.put, List.setIfInBounds_toArray, List.set_cons_zero, List.set_cons_succ]
  refine rg_take 11 (v := ?_) rfl (by kernel_rfl) (by kernel_rfl) (by kernel_rfl) hS rfl ?_ ?_
  rotate_left
  · intro wS hSw; have k0 := hSw.1.cell (j := 2) rfl; go_simp; (with_reducible rfl)
  simp only [List.getElem_toArray, List.getElem_cons_succ, List.getElem_cons_zero, Act.put, List.setIfInBounds_toArray, List.set_cons_zero, List.set_cons_succ]
  refine rg_take 12 (v := ?_) rfl (by kernel_rfl) (by kernel_rfl) (by kernel_rfl) hS rfl ?_ ?_
  rotate_left
  · intro wS hSw; go_simp; (with_reducible rfl)
  simp only [List.getElem_toArray, List.getElem_cons_succ, List.getElem_cons_zero, Act.put, List.setIfInBounds_toArray, List.set_cons_zero, List.set_cons_succ]
  refine rg_take 13 (v := ?_) rfl (by kernel_rfl) (by kernel_rfl) (by kernel_rfl) hS rfl ?_ ?_
  rotate_left
  · intro wS hSw; have k0 := hSw.2.cell (j := 2) rfl; go_simp; (with_reducible rfl)
  simp only [List.getElem_toArray, List.getElem_cons_succ, List.getElem_cons_zero, Act.put, List.setIfInBounds_toArray, List.set_cons_zero, List.set_cons_succ]
  refine rg_one 4 rfl (by kernel_rfl) rfl (fun K hK => ?_)
  go_simp
  refine (hc1 w1).mono ?_
  rintro e w2 ⟨rfl, hww⟩
  subst w2
  refine hK _ _ hS ?_; clear hK K
  refine rg_one 9 rfl (by kernel_rfl) rfl (fun K hK => ?_)
  go_simp
  refine (hc2 w1).mono ?_
  rintro e w2 ⟨rfl, hww⟩
  subst w2
  refine hK _ _ hS ?_; clear hK K
  refine rg_one 14 rfl (by kernel_rfl) rfl (fun K hK => ?_)
  go_simp
  refine (hc3 w1).mono ?_
  rintro e w2 ⟨rfl, hww⟩
  subst w2
  refine hK _ _ hS ?_; clear hK K
  have hlit : Own (w1.alloc (.cells #[.int .i64 x, .int .i64 y, .int .i64 z] 3)) w1.heap.size 3 1 (some ⟨w1.heap.size, 0, none⟩) 3 3 [.int .i64 x, .int .i64 y, .int .i64 z] :=
    own_lit (w := w1) w1.heap.size #[.int .i64 x, .int .i64 y, .int .i64 z] 3 3 (Nat.le_refl _) (by simp [maxLen]) rfl (size := 1) (by omega)
  have hBl : Grows w (w1.alloc (.cells #[.int .i64 x, .int .i64 y, .int .i64 z] 3)) := hBd.alloc _
  have hSl := And.intro (hS.1.alloc (.cells #[.int .i64 x, .int .i64 y, .int .i64 z] 3)) (hS.2.alloc (.cells #[.int .i64 x, .int .i64 y, .int .i64 z] 3))
  refine rg_one 15 rfl (by kernel_rfl) rfl (fun K hK => ?_)
  go_simp
  refine hK _ _ hSl ?_; clear hK K
  refine rg_one 16 rfl (by kernel_rfl) rfl (fun K hK => ?_)
  go_simp
  refine (or_any _ _ _ x y z _ hlit.rd).mono ?_
  rintro e w2 ⟨rfl, hww⟩
  subst w2
  refine hK _ _ hSl ?_; clear hK K
  refine rg_take 17 (v := ?_) rfl (by kernel_rfl) (by kernel_rfl) (by kernel_rfl) hSl rfl ?_ ?_
  rotate_left
  · intro wS hSw; go_simp; (with_reducible rfl)
  simp only [List.getElem_toArray, List.getElem_cons_succ, List.getElem_cons_zero, Act.put, List.setIfInBounds_toArray, List.set_cons_zero, List.set_cons_succ]
  refine rg_end (by kernel_rfl) ?_
  go_wp2_with (first | (with_reducible refine hold_append ?_) | (with_reducible refine hold_make ?_) | (with_reducible refine hold_copy ?_))
  go_ret
  rw [HC.out]
  exact ⟨rfl, hBl⟩

/-- names that may lie in memory -/
abbrev XdW := {x : Xd // x.wf}
instance : Inhabited XdW := ⟨⟨⟨0, [], []⟩, by simp [Xd.wf]⟩⟩
def xdW (x : XdW) : List Value := xdC x.1
theorem xdwShape : RecShape xdW 3 where
  len a := rfl
  one a := xdShape.one a.1
  pos := by omega
theorem xdW_row (l : List XdW) : rowC xdW l = rowC xdC (l.map (·.1)) := by
  induction l with
  | nil => rfl
  | cons x l ih => rw [rowC_cons, ih]; rfl
def cmpW (x y : XdW) : Int := Xd.cmp x.1 y.1
theorem ltW (x y : XdW) : ltOf cmpW x y = decide (Xd.cmp x.1 y.1 < 0) := rfl
theorem swoW : SWO (ltOf cmpW) where
  irrefl x := by rw [ltW, cmp_self]; rfl
  trans x y z h1 h2 := by
    rw [ltW] at *
    simp only [decide_eq_true_eq] at *
    exact cmp_trans h1 h2
  ntrans x y z h1 h2 := by
    rw [ltW] at *
    simp only [decide_eq_false_iff_not] at *
    have a1 := cmp_swap x.1 y.1
    have a2 := cmp_swap y.1 z.1
    have a3 := cmp_swap x.1 z.1
    have := (xd_ord.le z.1 y.1 x.1).1 (by omega) (by omega)
    omega
theorem totW (x y : XdW) (h1 : ltOf cmpW x y = false) (h2 : ltOf cmpW y x = false) : x = y := by
  rw [ltW] at h1 h2
  simp only [decide_eq_false_iff_not] at h1 h2
  have a1 := cmp_swap x.1 y.1
  exact Subtype.ext ((xd_ord.zero x.1 y.1).1 (by omega))
theorem cmpLays_xid (g size : Nat) (w : World) : CmpLays Tryd.prog 14 #[] xdW 3 cmpW g 0 size w := fun m os dk _ x y =>
  (compare_grow x.1 y.1 _ x.2 y.2).mono fun _ _ ⟨he, q, os', hw⟩ => ⟨he, q, os', hw⟩
/-- slices.SortFunc of an own row of names -/
theorem sortx_any (A : Option Addr) (n c : Nat) (l : List XdW) (base : Nat) (w : World) (ho : OwnX w base A n c (l.map (·.1))) (hb : base ≤ w.heap.size) (hn9 : n ≤ 1000000000) :
    Calls Tryd.prog 51 #[.slice A n c, .func (.func 14) #[] #[]] w fun e w' => e = .returned (.tuple #[]) ∧ OwnX w' base A n c ((l.mergeSort fun x y => !(ltOf cmpW) y x).map (·.1)) ∧ w.grownBy w' (blk A) := by
  have ho : Own w base 24 3 A n c (rowC xdW l) := by rw [xdW_row]; exact ho
  have hn := own_len xdwShape ho
  rcases ho.2 with ⟨hv, hn0⟩ | ⟨g, cap, cur, hv, hbg, hh, hnc, hcm, hcs, ht⟩
  · injection hv with e1 e2 e3
    subst e1 e3 hn0
    obtain rfl : l = [] := List.eq_nil_of_length_eq_zero hn
    refine (AnyF.slices_SortFunc_none Tryd.sortXid none 0 _ w).mono ?_
    rintro e w' ⟨he, rfl⟩
    exact ⟨he, by rw [List.mergeSort_nil]; exact Own.none_ _ _ _ _, World.grownBy.refl _ _⟩
  · injection hv with e1 e2 e3
    subst e1 e3
    have hg : g < w.heap.size := (Array.getElem?_eq_some_iff.1 hh).1
    have eg : ∀ args w, (callFunc 14 args).run Tryd.prog w = .ok (.enter 14 args) w := enters_of Tryd.func14 (by kernel_rfl) rfl
    have hcon := AnyQ.slices_SortFunc_total Tryd.sortXid 3 Tryd.isAgg24 Tryd.sizeOf24 xdW (fun _ => rfl) (fun x => xdwShape.one x) cmpW swoW 14 #[] g 0 c l.toArray w eg (cmpLays_xid g _ w) (own_holds xdwShape ho) hg (by simp; omega) totW
    change Calls Tryd.prog 51 _ _ _ at hcon
    rw [List.size_toArray, hn] at hcon
    refine hcon.mono ?_
    rintro e w' ⟨he, m, os, rfl⟩
    refine ⟨he, ?_, grownBy_sortedK _⟩
    have h2 := own_sortedK (m := m) (os := os) xdwShape ho (d' := l.mergeSort fun x y => !(ltOf cmpW) y x) (by simp)
    rw [xdW_row] at h2
    exact h2
end Go.PH

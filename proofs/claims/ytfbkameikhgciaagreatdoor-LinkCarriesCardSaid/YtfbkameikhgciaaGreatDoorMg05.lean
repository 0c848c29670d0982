/- Texts laid together: LkBld, OctWalk, OctPut. -/
import Derived.Test.YtfbkameikhgciaaGreatDoorProg
import Derived.Lib.Builder
import Derived.Lib.UnsafeStr
import Derived.Laws.Externs
import Derived.RegionTactic
import Derived.BigRegion
import Derived.BigQuiet
import Derived.Deep.QuietTactic
import Derived.Deep.RegionWith
import Derived.Test.YtfbkameikhgciaaGreatDoorMg00
import Derived.Test.YtfbkameikhgciaaGreatDoorMg01
import Derived.Test.YtfbkameikhgciaaGreatDoorMg02
import Derived.Test.YtfbkameikhgciaaGreatDoorMg03
set_option linter.all false
set_option linter.unusedSimpArgs false
set_option linter.unusedVariables false
section
/- strings.Builder in a block of its own, or as a field. -/
namespace Go.PH
open Go.RowKit Go.Proofs

/-- at this place of a block of type T lies a Builder -/
structure BPl (T size off : Nat) : Prop where
 lies : liesAt Tryz.prog Tryz.prog.depth T (size / Tryz.prog.cellsOf T) off 59 1 = true
 lt : off + 1 < size
theorem box_setAt {w : World} {g T off : Nat} {cs : Array Value} (hb : Box w g T cs) (u : Value) : Box (w.setCell ⟨g, off, none⟩ u) g T (cs.setIfInBounds off u) := by
 unfold Box at hb ⊢
 simp [World.setCell, Array.getElem?_modify, hb]
theorem grown_set (w : World) (g off : Nat) (u : Value) : w.grownBy (w.setCell ⟨g, off, none⟩ u) (some g) :=
 ⟨rfl, rfl, rfl, by simp [World.setCell], fun k _ hk => Below.heap_setCell _ _ _ _ (fun e => hk (by simp [e]))⟩
theorem size_set (w : World) (g off : Nat) (u : Value) : (w.setCell ⟨g, off, none⟩ u).heap.size = w.heap.size := by simp [World.setCell]
def bPtr (g off : Nat) : Value := .pointer (some ⟨g, off, none⟩)
theorem wp_boxAt {P : Program} {w : World} {ops : Array Oper} {Q : Exit → Act → World → Prop} {rest : List Oper} {a : Act} {o : Oper} {x y : Operand} {g t ty j : Nat} {cs : Array Value} {v : Value} (hw : Region.wanted o (yielded ops a.tmps) = true) (ho : o.op = .store ty x y) (hx : a.eval x = .pointer (some ⟨g, j, none⟩)) (hy : a.eval y = v)
  (hb : Box w g t cs) (hv : v.cells.toList = [v]) (hi : (P.info? ty).map (·.size) = some 1) (hj : j < cs.size)
  (h : ∀ w', Box w' g t (cs.setIfInBounds j v) → w.grownBy w' (some g) → w'.heap.size = w.heap.size → wpList P ops Q rest (a.put o.dst undef) w') (h1 : v.oneCell' = true := by rfl) : wpList P ops Q (o :: rest) a w :=
 wp_box hw ho hx hy hb hv hi (by simp; omega) (by simpa using h1) (cs.setIfInBounds j v) (by
  apply Array.ext'
  simp only [Array.toList_setIfInBounds]
  rw [List.set_eq_take_append_cons_drop, if_pos (by simpa using hj)]
  simp) h
theorem OwnB_len {w : World} {base n c : Nat} {A : Option Addr} {l : List UInt8} (h : Own w base 5 1 A n c (l.map u8v)) : l.length = n := by have := h.1; simpa using this
set_option maxRecDepth 20000 in
theorem copyCheck_any {T size off g : Nat} (hp : BPl T size off) (w : World) (cs : Array Value) (hb : Box w g T cs) (hs : cs.size = size) (p : Value) (h0 : cs[off]? = some p) (hpp : p = .pointer none ∨ p = bPtr g off) :
  Calls Tryz.prog 49 #[.pointer (some ⟨g, off, none⟩)] w fun e w' => e = .returned (.tuple #[]) ∧ Box w' g T (cs.setIfInBounds off (bPtr g off)) ∧ w.grownBy w' (some g) ∧ w'.heap.size = w.heap.size := by
 obtain ⟨j, hj, hjs⟩ := Option.map_eq_some_iff.1 (show (Tryz.prog.info? 59).map (·.size) = some 2 by kernel_rfl)
 have hsh : w.shape? g = some (T, size) := by unfold Box at hb; simp [World.shape?, hb, hs]
 have hfz := hb.thaw off
 have c0 := hb.cell h0
 rcases hpp with rfl | rfl
 ·have hU1 := Lib.run_to_unsafe (P := Tryz.prog) w ⟨g, off, none⟩ Tryz.underlying57 Tryz.underlying139 hj (by rw [hjs]; decide) hsh (by have := hp.lt; exact Nat.lt_of_succ_lt this)
  have hU2 := Lib.run_from_unsafe (P := Tryz.prog) w ⟨g, off, none⟩ Tryz.underlying139 Tryz.underlying57 hj hsh hp.lies
  have hF := box_setAt hb (off := off) (bPtr g off)
  have hG := grown_set w g off (bPtr g off)
  have hZ := size_set w g off (bPtr g off)
  have HQ := Lib.hid (And.intro hF (And.intro hG hZ))
  clear hF hG hZ
  go_enter Tryz.func49, Tryz.ntmps49
  go_wp2
  rw [run_callFunc_extern Tryz.func68 (by kernel_rfl) (by kernel_rfl) (by kernel_rfl) (e := Extern.AbiNoEscape.same) (by kernel_rfl)]
  rw [Lib.run_noEscape]
  simp only [Result.andThen]
  rw [Oper.upon_value]
  go_wp2
  go_end0
  exact ⟨rfl, HQ.out⟩
 ·have hne := Lib.run_neq_ptr_same (P := Tryz.prog) w (⟨g, off, none⟩ : Addr) Tryz.underlying57 hj
  have hcs : cs.setIfInBounds off (bPtr g off) = cs := by
   apply Array.ext
   ·simp
   ·intro i h1 h2
    rw [Array.getElem_setIfInBounds]
    ·split
     ·rename_i e; subst e; rw [Array.getElem?_eq_getElem h2] at h0; injection h0 with h0; exact h0.symm
     ·rfl
  rw [hcs]
  unfold bPtr at c0
  go_enter Tryz.func49, Tryz.ntmps49
  go_wp2
  go_end0
  exact ⟨rfl, hb, ⟨rfl, rfl, rfl, Nat.le_refl _, fun _ _ _ => rfl⟩, rfl⟩
theorem get_set1 {cs : Array Value} {off : Nat} {u v : Value} (h : cs[off + 1]? = some v) : (cs.setIfInBounds off u)[off + 1]? = some v := by
 rw [Array.getElem?_setIfInBounds_ne (by omega)]; exact h
/-- what a write leaves -/
structure Wrote (w : World) (T g off base : Nat) (cs : Array Value) (A : Option Addr) (l : List UInt8) (w' : World) : Prop where
 ex : ∃ A2 c2, Box w' g T ((cs.setIfInBounds off (bPtr g off)).setIfInBounds (off + 1) (.slice A2 l.length c2)) ∧ Own w' base 5 1 A2 l.length c2 (l.map u8v) ∧ blk A2 ≠ some g ∧ (blk A2 = blk A ∨ ∀ k, blk A2 = some k → w.heap.size ≤ k)
 keep : KeepF (fun k => k = g ∨ blk A = some k) w w'
theorem wrote_of {w w1 w2 w3 : World} {T g off base n m c2 : Nat} {cs : Array Value} {A A2 : Option Addr} {l : List UInt8} (hb : Box w g T cs) (hown : Own w base 5 1 A n m (l.map u8v)) (hne : blk A ≠ some g) {L : List UInt8} {N : Nat} (hN : N = L.length)
  (hb1 : Box w1 g T (cs.setIfInBounds off (bPtr g off))) (hg1 : w.grownBy w1 (some g)) (hz1 : w1.heap.size = w.heap.size) (ho2 : Own w2 base 5 1 A2 N c2 (L.map u8v)) (hg2 : w1.grownBy w2 (blk A)) (hA : blk A2 = blk A ∨ ∀ k, blk A2 = some k → w1.heap.size ≤ k)
  (hb3 : Box w3 g T ((cs.setIfInBounds off (bPtr g off)).setIfInBounds (off + 1) (.slice A2 N c2))) (hg3 : w2.grownBy w3 (some g)) : Wrote w T g off base cs A L w3 := by
 subst hN
 have hgl := hb.lt
 have hne2 : blk A2 ≠ some g := fun e => by
  rcases hA with h | h
  ·exact hne (by rw [← h, e])
  ·have := h g e; omega
 refine ⟨⟨A2, c2, hb3, own_stays ho2 hg3 (fun k hk e => hne2 (by rw [hk, ← e])), hne2, hA.imp id (fun h k hk => by have := h k hk; omega)⟩, ?_⟩
 refine ((KeepF.grown hg1 (fun k hk => .inl (.inl (by injection hk with hk; exact hk.symm)))).trans (.grown (F := fun k => k = g ∨ blk A = some k) hg2 (fun k hk => .inl (.inr hk))) (fun k hk => .inl hk)).trans (.grown (F := fun k => k = g ∨ blk A = some k) hg3 (fun k hk => .inl (.inl (by injection hk with hk; exact hk.symm)))) (fun k hk => .inl hk)
set_option maxRecDepth 20000 in
theorem wstr_any {T size off g base n c : Nat} (hp : BPl T size off) (w : World) (cs : Array Value) (hb : Box w g T cs) (hs : cs.size = size) (p : Value) (h0 : cs[off]? = some p) (hpp : p = .pointer none ∨ p = bPtr g off) (A : Option Addr) (l s : List UInt8) (h1 : cs[off + 1]? = some (.slice A n c))
  (hown : Own w base 5 1 A n c (l.map u8v)) (hne : blk A ≠ some g) (hbase : base ≤ w.heap.size) (hsz : n + s.length ≤ 100000000000) :
  Calls Tryz.prog 35 #[.pointer (some ⟨g, off, none⟩), .string (str s)] w fun e w' => e = .returned (.tuple #[.int .i64 (s.length : Int), .nilIface]) ∧ Wrote w T g off base cs A (l ++ s) w' := by
 have hln := OwnB_len hown
 have hck := copyCheck_any hp w cs hb hs p h0 hpp
 have hss := str_size s
 have hsl : s.length ≤ 100000000000 := by omega
 have HN : Hid (n + s.length = (l ++ s).length) := Lib.hid (by simp [hln])
 clear hln
 go_enter Tryz.func35, Tryz.ntmps35
 go_wp2_with (with_reducible refine h_B ?_)
 refine hck.mono ?_
 rintro e w1 ⟨rfl, hb1, hg1, hz1⟩
 have k1 := hb1.cell (get_set1 h1)
 have ho1 := own_stays hown hg1 (fun k hk e => hne (by rw [hk, ← e]))
 have hbase1 : base ≤ w1.heap.size := by omega
 have HZ := Lib.hid hz1
 clear hz1
 go_wp2_with (with_reducible refine h_B ?_)
 refine unhold (wp_app_strF slB Tryz.underlying9 rfl rfl rfl rfl ho1 hsz hbase1 ?_)
 intro A2 c2 w2 ho2 hg2 hA2
 rw [← List.map_append] at ho2
 have hb2 := hb1.grown hg2 (fun e => hne e.symm)
 have hlt : off + 1 < (cs.setIfInBounds off (bPtr g off)).size := by rw [Array.size_setIfInBounds, hs]; exact hp.lt
 go_wp2_with (with_reducible refine h_B ?_)
 refine unhold (wp_boxAt rfl rfl rfl rfl hb2 (j := off + 1) (v := .slice A2 (n + s.length) c2) rfl (by kernel_rfl) hlt ?_)
 intro w3 hb3 hg3 hz3
 clear hz3
 go_wp2_with (with_reducible refine h_B ?_)
 go_ret2
 exact ⟨rfl, wrote_of hb hown hne HN.out hb1 hg1 HZ.out ho2 hg2 hA2 hb3 hg3⟩
set_option maxRecDepth 20000 in
theorem wbytes_any {T size off g base n c m c' B : Nat} (hp : BPl T size off) (w : World) (cs : Array Value) (hb : Box w g T cs) (hs : cs.size = size) (p : Value) (h0 : cs[off]? = some p) (hpp : p = .pointer none ∨ p = bPtr g off) (A A' : Option Addr) (l s : List UInt8) (h1 : cs[off + 1]? = some (.slice A n c))
  (hown : Own w base 5 1 A n c (l.map u8v)) (hne : blk A ≠ some g) (hbase : base ≤ w.heap.size) (hr : RdB w B A' m c' s) (hrg : blk A' ≠ some g) (hsz : n + m ≤ 100000000000) :
  Calls Tryz.prog 46 #[.pointer (some ⟨g, off, none⟩), .slice A' m c'] w fun e w' => e = .returned (.tuple #[.int .i64 (m : Int), .nilIface]) ∧ Wrote w T g off base cs A (l ++ s) w' := by
 have hln := OwnB_len hown
 have hck := copyCheck_any hp w cs hb hs p h0 hpp
 have hsl : m ≤ 100000000000 := by omega
 have HN : Hid (n + m = (l ++ s).length) := Lib.hid (by simp [hln, hr.length])
 clear hln
 go_enter Tryz.func46, Tryz.ntmps46
 go_wp2_with (with_reducible refine h_B ?_)
 refine hck.mono ?_
 rintro e w1 ⟨rfl, hb1, hg1, hz1⟩
 have k1 := hb1.cell (get_set1 h1)
 have ho1 := own_stays hown hg1 (fun k hk e => hne (by rw [hk, ← e]))
 have hr1 : RdB w1 B A' m c' s := ⟨hr.len, hr.cap, hr.max, fun hm => by
  obtain ⟨b, o, e, hbB, hc⟩ := hr.at_ hm
  refine ⟨b, o, e, hbB, fun j u hu => ?_⟩
  have h3 := hc j u hu
  have hbl : b < w.heap.size := World.block_lt_of_cell? _ _ h3
  have hbg : b ≠ g := fun e' => hrg (by rw [e, e']; rfl)
  have hh := hg1.block b hbl (fun e' => hbg (by injection e'))
  rw [← h3]
  simp only [World.cell?, hh]⟩
 have hbase1 : base ≤ w1.heap.size := by omega
 have HZ := Lib.hid hz1
 clear hz1
 go_wp2_with (with_reducible refine h_B ?_)
 refine unhold (wp_app slB rfl rfl rfl rfl ho1 hr1 (map_one _) (by omega) (by simp [maxLen]; omega) hbase1 ?_)
 intro A2 c2 w2 ho2 hg2 hA2
 rw [← List.map_append] at ho2
 have hb2 := hb1.grown hg2 (fun e => hne e.symm)
 have hlt : off + 1 < (cs.setIfInBounds off (bPtr g off)).size := by rw [Array.size_setIfInBounds, hs]; exact hp.lt
 have hA3 : blk A2 = blk A ∨ ∀ k, blk A2 = some k → w1.heap.size ≤ k := hA2.imp id (fun e k hk => by rw [e] at hk; injection hk with hk; omega)
 clear hA2
 go_wp2_with (with_reducible refine h_B ?_)
 refine unhold (wp_boxAt rfl rfl rfl rfl hb2 (j := off + 1) (v := .slice A2 (n + m) c2) rfl (by kernel_rfl) hlt ?_)
 intro w3 hb3 hg3 hz3
 clear hz3
 go_wp2_with (with_reducible refine h_B ?_)
 go_ret2
 exact ⟨rfl, wrote_of hb hown hne HN.out hb1 hg1 HZ.out ho2 hg2 hA3 hb3 hg3⟩
set_option maxRecDepth 20000 in
theorem reset_any {T off g : Nat} (w : World) (cs : Array Value) (hb : Box w g T cs) (h0 : off + 1 < cs.size) :
  Calls Tryz.prog 24 #[.pointer (some ⟨g, off, none⟩)] w fun e w' => e = .returned (.tuple #[]) ∧ Box w' g T ((cs.setIfInBounds off (.pointer none)).setIfInBounds (off + 1) (.slice none 0 0)) ∧ w.grownBy w' (some g) ∧ w'.heap.size = w.heap.size := by
 have hlt : off < cs.size := by omega
 go_enter Tryz.func24, Tryz.ntmps24
 go_wp2_with (with_reducible refine h_B ?_)
 refine unhold (wp_boxAt rfl rfl rfl rfl hb (j := off) (v := .pointer none) rfl (by kernel_rfl) hlt ?_)
 intro w1 hb1 hg1 hz1
 have HZ := Lib.hid hz1
 clear hz1
 have hlt2 : off + 1 < (cs.setIfInBounds off (.pointer none)).size := by rw [Array.size_setIfInBounds]; exact h0
 go_wp2_with (with_reducible refine h_B ?_)
 refine unhold (wp_boxAt rfl rfl rfl rfl hb1 (j := off + 1) (v := .slice none 0 0) rfl (by kernel_rfl) hlt2 ?_)
 intro w2 hb2 hg2 hz2
 have HZ2 := Lib.hid hz2
 clear hz2
 go_wp2_with (with_reducible refine h_B ?_)
 go_end0
 exact ⟨rfl, hb2, World.grownBy.trans hg1 hg2, HZ2.out.trans HZ.out⟩
theorem keep_freeze {w : World} {F : Nat → Prop} (g n : Nat) (hF : F g) : KeepF F w ((w.drew).freeze ⟨g, 0, none⟩ n) := by
 unfold World.freeze
 split
 ·exact .below (Below.drew (Below.refl _ w))
 ·refine ⟨by simp, fun k hk hn => ?_, ⟨rfl, rfl, rfl⟩⟩
  simp only [Array.getElem?_modify]
  rw [if_neg (fun e => hn (by rw [← e]; exact hF))]
  rfl
set_option maxRecDepth 20000 in
set_option maxHeartbeats 2000000 in
theorem bstr_any {T off g base n c : Nat} (w : World) (cs : Array Value) (hb : Box w g T cs) (A : Option Addr) (l : List UInt8) (h1 : cs[off + 1]? = some (.slice A n c)) (hown : Own w base 5 1 A n c (l.map u8v)) :
  Calls Tryz.prog 27 #[.pointer (some ⟨g, off, none⟩)] w fun e w' => e = .returned (.string (str l)) ∧ KeepF (fun k => blk A = some k) w w' := by
 have k1 := hb.cell h1
 have hgl := hb.lt
 have hln := OwnB_len hown
 have hUN := fun (W : World) (q : Option Addr) => Lib.run_unsafeString_none (P := Tryz.prog) W 99 3 9 q
 have HO := hown
 rcases hown.2 with ⟨hv, hx⟩ | ⟨gb, cap, cur, hv, hbg, hg, hnc, hcm, hcs, htake⟩
 ·injection hv with e1 e2 e3
  subst e1
  have hl0 : l = [] := List.eq_nil_of_length_eq_zero (by omega)
  subst hl0
  subst hx e3
  have k2 : w.drew.cell? ⟨g, off + 1, none⟩ = some (.slice none 0 0) := k1
  have hSD : (Builtin.unsafeSliceData_ #[55] 99 #[.slice none 0 0]).run Tryz.prog w.drew = .ok (.pointer none) w.drew := rfl
  clear hUN HO hown hln
  have hUS := Lib.run_unsafeString_none (P := Tryz.prog) w.drew 99 3 9 none
  clear hb h1 hgl
  go_enter Tryz.func27, Tryz.ntmps27
  go_wp2
  go_region
  all_goals (go_wp2; go_ret; exact ⟨rfl, .below (Below.drew (Below.refl _ w))⟩)
 ·injection hv with e1 e2 e3
  subst e1 e3
  have k2 : w.drew.cell? ⟨g, off + 1, none⟩ = some (.slice (some ⟨gb, 0, none⟩) n c) := k1
  by_cases hn0 : n = 0
  ·subst hn0
   have hl0 : l = [] := List.eq_nil_of_length_eq_zero hln
   subst hl0
   by_cases hc0 : c = 0
   ·subst hc0
    have hSD : (Builtin.unsafeSliceData_ #[55] 99 #[.slice (some ⟨gb, 0, none⟩) 0 0]).run Tryz.prog w.drew = .ok (.pointer (some ⟨w.drew.heap.size, 0, none⟩)) (w.drew.alloc (.view ⟨gb, 0, none⟩ 5)) :=
     Lib.run_unsafeSliceData_zero w.drew _ _ 5 Tryz.underlying99 ⟨gb, 0, none⟩ 0 (5, cur.size) (by have hg' : w.drew.heap[gb]? = some (.cells cur 5 (0, 0)) := hg; simp [World.shape?, hg'])
    have hb2 : Box (w.drew.alloc (.view ⟨gb, 0, none⟩ 5)) g T cs := (show Box w.drew g T cs from hb).alloc _
    have k3 : (w.drew.alloc (.view ⟨gb, 0, none⟩ 5)).cell? ⟨g, off + 1, none⟩ = some (.slice (some ⟨gb, 0, none⟩) 0 0) := hb2.cell h1
    have k4 : (w.alloc (.view ⟨gb, 0, none⟩ 5)).drew.cell? ⟨g, off + 1, none⟩ = some (.slice (some ⟨gb, 0, none⟩) 0 0) := k3
    clear HO hown hln hb h1 hgl hg hnc hcm hcs htake hbg hb2
    go_enter Tryz.func27, Tryz.ntmps27
    go_wp2
    go_region
    all_goals (go_wp2; go_ret; exact ⟨rfl, .below ((Below.drew (Below.refl _ w)).alloc (Nat.le_refl _) _)⟩)
   ·have hSD : (Builtin.unsafeSliceData_ #[55] 99 #[.slice (some ⟨gb, 0, none⟩) 0 c]).run Tryz.prog w.drew = .ok (.pointer (some ⟨gb, 0, none⟩)) w.drew :=
     Lib.run_unsafeSliceData_row _ _ _ _ _ _ hc0
    clear HO hown hln hb h1 hgl hg hnc hcm hcs htake hbg hc0
    go_enter Tryz.func27, Tryz.ntmps27
    go_wp2
    go_region
    all_goals (go_wp2; go_ret; exact ⟨rfl, .below (Below.drew (Below.refl _ w))⟩)
  ·have hl0 : l ≠ [] := fun e => hn0 (by rw [← hln, e]; rfl)
   have hSD : (Builtin.unsafeSliceData_ #[55] 99 #[.slice (some ⟨gb, 0, none⟩) n c]).run Tryz.prog w.drew = .ok (.pointer (some ⟨gb, 0, none⟩)) w.drew :=
    Lib.run_unsafeSliceData_row _ _ _ _ _ _ (by omega)
   have hUS : (Builtin.unsafeString_ #[99, 3] 9 #[.pointer (some ⟨gb, 0, none⟩), .int .i64 (n : Int)]).run Tryz.prog w.drew = .ok (.string (str l)) (w.drew.freeze ⟨gb, 0, none⟩ n) := by
    have := Lib.run_unsafeString_row (P := Tryz.prog) w.drew 99 3 9 5 Tryz.underlying99 (by kernel_rfl) gb cur.size (by have hg' : w.drew.heap[gb]? = some (.cells cur 5 (0, 0)) := hg; simp [World.shape?, hg']) l hl0 (by rw [hcs]; omega) (by unfold maxLen at hcm; omega) (by
     intro j x hx
     have := HO.cells (g := gb) rfl j (.int .u8 x.toNat) (by simp [u8v, hx])
     exact this)
    rw [hln] at this
    exact this
   have HK := Lib.hid (keep_freeze (w := w) (F := fun k => blk (some (⟨gb, 0, none⟩ : Addr)) = some k) gb n rfl)
   have hnb : (n : Int) ≤ 9223372036854775807 := by unfold maxLen at hcm; omega
   clear HO hown hln hb h1 hgl hg hnc hcm hcs htake hbg hn0 hl0
   go_enter Tryz.func27, Tryz.ntmps27
   go_wp2
   go_region
   all_goals (go_wp2; go_ret; exact ⟨rfl, HK.out⟩)
end Go.PH
end
section
/- The walks of octet and of its reference: widths, numbers, putting. -/
namespace Go.PH
open Go.RowKit Go.Proofs

theorem wide_any (x : Int) (w : World) : Calls Tryz.prog 80 #[.int .i64 x] w fun e w' => e = .returned (.bool (wideB x)) ∧ w' = w := by
 by_cases h1 : x = 1
 ·subst h1
  go_enter Tryz.func80, Tryz.ntmps80
  go_wp2_with (with_reducible refine h_A ?_)
  go_ret
  exact ⟨rfl, rfl⟩
 by_cases h2 : x = 2
 ·subst h2
  go_enter Tryz.func80, Tryz.ntmps80
  go_wp2_with (with_reducible refine h_A ?_)
  go_ret
  exact ⟨rfl, rfl⟩
 by_cases h4 : x = 4
 ·subst h4
  go_enter Tryz.func80, Tryz.ntmps80
  go_wp2_with (with_reducible refine h_A ?_)
  go_ret
  exact ⟨rfl, rfl⟩
 by_cases h8 : x = 8
 ·subst h8
  go_enter Tryz.func80, Tryz.ntmps80
  go_wp2_with (with_reducible refine h_A ?_)
  go_ret
  exact ⟨rfl, rfl⟩
 have e := wideB_no h1 h2 h4 h8
 rw [e]
 go_enter Tryz.func80, Tryz.ntmps80
 go_wp2_with (with_reducible refine h_A ?_)
 go_ret
 exact ⟨rfl, rfl⟩

/-- behind: new memory, filled to the brim -/
theorem behind_any (A : Option Addr) (n c : Nat) (l : List UInt8) (A' : Option Addr) (n' c' : Nat) (l' : List UInt8) (w : World) (hb : RdB w w.heap.size A n c l) (hb' : RdB w w.heap.size A' n' c' l') (hn : n + n' ≤ 281474976710656) :
  Calls Tryz.prog 99 #[.slice A n c, .slice A' n' c'] w fun e w' => ∃ A2, e = .returned (.slice A2 (n + n') (n + n')) ∧ Own w' w.heap.size 5 1 A2 (n + n') (n + n') ((l ++ l').map u8v) ∧ Below w.heap.size w w' := by
 have hl := hb.length
 have hl' := hb'.length
 go_enter Tryz.func99, Tryz.ntmps99
 go_wp2_with (with_reducible refine h_A ?_)
 refine unhold (wp_make slB rfl rfl 0 (n + n') rfl rfl (by omega) (by omega) (by omega) (by omega) (by simp [maxLen]; omega) w.heap.size (Nat.le_refl _) ?_)
 intro w1 ho1 hg1
 have hB1 : Below w.heap.size w w1 := (Below.refl _ _).grown hg1 (Nat.le_refl _) (by simp)
 have hz1 := hB1.size
 simp only [Nat.zero_mul, List.take_zero] at ho1
 go_wp2_with (with_reducible refine h_A ?_)
 refine unhold (wp_app_fit slB rfl rfl rfl rfl ho1 (hb.below hB1) (map_one l) (by omega) hz1 ?_)
 intro w2 ho2 hg2
 have hB2 : Below w.heap.size w w2 := hB1.grown hg2 hz1 (fun g hg => (ho1.blk_lt hg).1)
 have hz2 := hB2.size
 simp only [Nat.zero_add, List.nil_append] at ho2
 go_wp2_with (with_reducible refine h_A ?_)
 refine unhold (wp_app_fit slB rfl rfl rfl rfl ho2 (hb'.below hB2) (map_one l') (by omega) hz2 ?_)
 intro w3 ho3 hg3
 have hB3 : Below w.heap.size w w3 := hB2.grown hg3 hz2 (fun g hg => (ho2.blk_lt hg).1)
 rw [← List.map_append] at ho3
 go_wp2_with (with_reducible refine h_A ?_)
 go_ret
 exact ⟨_, by first | rfl | simp, by simpa using ho3, hB3⟩
theorem shr8 (n k : Nat) : (n : Int) / 2 ^ (8 * k) % 256 = (((UInt8.ofNat (n / 256 ^ k)).toNat : Nat) : Int) := by
 rw [UInt8.toNat_ofNat', show (256 : Nat) ^ k = 2 ^ (8 * k) by rw [Nat.pow_mul]]
 rw [Int.natCast_emod, Int.natCast_ediv, Int.natCast_pow]; rfl

set_option maxHeartbeats 1000000 in
theorem number_any (n i : Nat) (w : World) (_hn : n < 18446744073709551616) (hi : 1 ≤ i) (hi8 : i ≤ 8) :
  Calls Tryz.prog 100 #[.int .u64 n, .int .i64 i] w fun e w' => ∃ A2, e = .returned (.slice A2 i i) ∧ Own w' w.heap.size 5 1 A2 i i ((be i n).map u8v) ∧ Below w.heap.size w w' := by
 go_enter Tryz.func100, Tryz.ntmps100
 go_wp2_with (with_reducible refine h_A ?_)
 refine unhold (wp_make slB rfl rfl i i rfl rfl (by omega) (by omega) (Nat.le_refl _) (by omega) (by simp [maxLen]; omega) w.heap.size (Nat.le_refl _) ?_)
 intro w1 ho1 hg1
 have hB1 : Below w.heap.size w w1 := (Below.refl _ _).grown hg1 (Nat.le_refl _) (by simp)
 have hz1 := hB1.size
 have hx0 : (madeCells (Value.int .u8 0).cells (i * 1)).toList.take (i * 1) = (List.replicate (i - 0) 0 ++ be 0 n).map u8v := by
  simp [Value.cells, toList_madeCells_one, u8v, be]
 rw [hx0] at ho1
 go_wp2_with (with_reducible refine h_A ?_)
 go_loopw [11] (fun x wr => ∃ k : Nat, k ≤ i ∧ x = .int .i64 k ∧ Own wr w.heap.size 5 1 (some ⟨w.heap.size, 0, none⟩) i i ((List.replicate (i - k) 0 ++ be k n).map u8v) ∧ Below w.heap.size w wr) (fun x _ => i - (RowKit.intOf x).toNat)
 case atStart => exact ⟨0, by omega, rfl, ho1, hB1⟩
 case round =>
  obtain ⟨k, hk, rfl, ho, hB⟩ := hrel
  by_cases hlt : k < i
  ·obtain ⟨g, hge, hbg, hgl, hkl, hcell, hfz, hst⟩ := OwnB.at_k ho (k := i - 1 - k) (by omega)
   obtain rfl : w.heap.size = g := by injection hge with h; injection h
   have h1 := hst (UInt8.ofNat (n / 256 ^ k))
   rw [be_set i n k hlt] at h1
   have e8 := shr8 n k
   unfold u8v at h1
   rw [← e8] at h1
   clear hst e8
   go_wp2_with (with_reducible refine h_A ?_)
   exact ⟨⟨k + 1, by omega, by go_num, h1, hB.setCell (by omega) _⟩, by simp [RowKit.intOf]; omega⟩
  ·obtain rfl : k = i := by omega
   rw [Nat.sub_self, List.replicate_zero, List.nil_append] at ho
   go_wp2_with (with_reducible refine h_A ?_)
   go_ret
   exact ⟨_, rfl, ho, hB⟩
end Go.PH
end
section
/- The walk of octet's Put. -/
namespace Go.PH
open Go.RowKit Go.Proofs

set_option maxHeartbeats 1000000 in
theorem put_any (A : Option Addr) (n c : Nat) (l : List UInt8) (v : Nat) (x : Int) (w : World) (hb : RdB w w.heap.size A n c l) (hv : v < 18446744073709551616) (hn : n ≤ 281474976710600) :
  Calls Tryz.prog 63 #[.slice A n c, .int .u64 v, .int .i64 x] w fun e w' => ∃ A2 c2, e = .returned (.slice A2 (puts l v x).length c2) ∧ Own w' w.heap.size 5 1 A2 (puts l v x).length c2 ((puts l v x).map u8v) ∧ Below w.heap.size w w' := by
 have hl := hb.length
 by_cases hw : wideB x = true
 ·have h8 := wideB_le hw
  obtain ⟨i, rfl⟩ : ∃ i : Nat, x = i := ⟨x.toNat, by omega⟩
  rw [puts_yes hw]
  simp only [List.length_append, be_length, Int.toNat_natCast, hl]
  go_enter Tryz.func63, Tryz.ntmps63
  go_wp2_with (with_reducible refine h_A ?_)
  refine (wide_any i w).mono ?_
  rw [hw]
  rintro e w' ⟨rfl, rfl⟩
  go_wp2_with (with_reducible refine h_A ?_)
  refine (number_any v i w' hv (by omega) (by omega)).mono ?_
  rintro e w1 ⟨A1, rfl, ho1, hB1⟩
  go_wp2_with (with_reducible refine h_A ?_)
  refine (behind_any A n c l A1 i i (be i v) w1 ((hb.below hB1).more hB1.size) ho1.rd (by omega)).mono ?_
  rintro e w2 ⟨A2, rfl, ho2, hB2⟩
  go_wp2_with (with_reducible refine h_A ?_)
  go_ret
  exact ⟨A2, n + i, rfl, ho2.base_le hB1.size, hB1.trans (hB2.mono hB1.size)⟩
 ·have hw' : wideB x = false := by simpa using hw
  rw [puts_no hw']
  rw [hl]
  go_enter Tryz.func63, Tryz.ntmps63
  go_wp2_with (with_reducible refine h_A ?_)
  refine (wide_any x w).mono ?_
  rw [hw']
  rintro e w' ⟨rfl, rfl⟩
  go_wp2_with (with_reducible refine h_A ?_)
  refine (behind_any A n c l none 0 0 [] w' hb (Rd.nil _ _ _ _ (by simp [maxLen]) _) (by omega)).mono ?_
  rintro e w2 ⟨A2, rfl, ho2, hB2⟩
  simp only [Nat.add_zero, List.append_nil] at ho2 ⊢
  go_wp2_with (with_reducible refine h_A ?_)
  go_ret
  exact ⟨A2, n, rfl, ho2, hB2⟩

end Go.PH
end

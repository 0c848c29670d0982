/- Texts laid together: VlMem, VlCount, VlDeep, VlPutMath, VlRef, VlSame, VlSameRef. -/
import Derived.Test.YtenegldhfgfokaaGreatDoorProg
import Derived.Deep.Cut
import Derived.Deep.QuietTactic
import Derived.BigQuiet
import Derived.Test.YtenegldhfgfokaaGreatDoorMg01
import Derived.Test.YtenegldhfgfokaaGreatDoorMg02
import Derived.Test.YtenegldhfgfokaaGreatDoorMg03
import Derived.Test.YtenegldhfgfokaaGreatDoorMg12
set_option linter.all false
set_option linter.unusedSimpArgs false
set_option linter.unusedVariables false
section
/- Values in memory: what it is that a value lies there; what keeps it. -/
namespace Go.PH
open Go.RowKit

/-- where a value's two rows lie -/
structure VH where
 A1 : Option Addr
 c1 : Nat
 A2 : Option Addr
 c2 : Nat
def txV (s : List UInt8) : Value := .string (str s)
def vlC (p : Vl × VH) : List Value := [.int .u8 (p.1.kind : Int), .int .u64 (p.1.n : Int), .string (str p.1.s), .slice p.2.A1 p.1.keys.length p.2.c1, .slice p.2.A2 p.1.list.length p.2.c2]
def vlV (v : Vl) (h : VH) : Array Value := #[.int .u8 (v.kind : Int), .int .u64 (v.n : Int), .string (str v.s), .slice h.A1 v.keys.length h.c1, .slice h.A2 v.list.length h.c2]
theorem vlShape : RecShape vlC 5 where
 len _ := rfl
 one a u hu := by simp [vlC] at hu; rcases hu with rfl | rfl | rfl | rfl | rfl <;> rfl
 pos := by omega
/-- a row that reads so, in blocks of F -/
def RdX (w : World) (F : Nat → Prop) (size : Nat) (A : Option Addr) (n c : Nat) (xs : List Value) : Prop := Rd w w.heap.size size A n c xs ∧ (0 < n → ∀ g, blk A = some g → F g)
theorem cell_keep {w w' : World} {p : Addr} (h : w'.heap[p.block]? = w.heap[p.block]?) : w'.cell? p = w.cell? p := by
 unfold World.cell?
 rw [h]
theorem RdX.keep {w w' : World} {F : Nat → Prop} {size n c : Nat} {A : Option Addr} {xs : List Value} (h : RdX w F size A n c xs) (hk : ∀ g, F g → w'.heap[g]? = w.heap[g]?) (hs : w.heap.size ≤ w'.heap.size) : RdX w' F size A n c xs := by
 obtain ⟨h1, h2⟩ := h
 refine ⟨⟨h1.len, h1.cap, h1.max, fun hn => ?_⟩, h2⟩
 obtain ⟨b, off, e, hb, hc⟩ := h1.at_ hn
 subst e
 exact ⟨b, off, rfl, Nat.lt_of_lt_of_le hb hs, fun j u hu => (cell_keep (hk b (h2 hn b rfl))).trans (hc j u hu)⟩
theorem RdX.mono {w : World} {F G : Nat → Prop} {size n c : Nat} {A : Option Addr} {xs : List Value} (h : RdX w F size A n c xs) (hF : ∀ g, F g → G g) : RdX w G size A n c xs := ⟨h.1, fun hn g hg => hF g (h.2 hn g hg)⟩
theorem RdX.nil (w : World) (F : Nat → Prop) (size c : Nat) (A : Option Addr) (hc : c ≤ maxLen) : RdX w F size A 0 c [] := ⟨Rd.nil _ _ _ _ hc _, fun h => absurd h (Nat.lt_irrefl 0)⟩
theorem RdX.of_own {w : World} {F : Nat → Prop} {base e size n c : Nat} {A : Option Addr} {xs : List Value} (h : Own w base e size A n c xs) (hF : ∀ g, blk A = some g → F g) : RdX w F size A n c xs := ⟨Rd.of_own h, fun _ => hF⟩
/-- the value v lies in blocks of F, its rows at h -/
inductive RV (w : World) (F : Nat → Prop) : Vl → VH → Prop
 | mk {v : Vl} {h : VH} (xs : List (Vl × VH)) (hk : v.kind < 256) (hn : v.n < 18446744073709551616) (hs : v.s.length ≤ 140737488351232) (hK : RdX w F 1 h.A1 v.keys.length h.c1 (v.keys.map txV)) (hkl : ∀ k ∈ v.keys, k.length ≤ 140737488351232)
   (h1 : v.keys.length ≤ 140737488351232) (h2 : v.list.length ≤ 140737488351232) (hL : RdX w F 5 h.A2 v.list.length h.c2 (rowC vlC xs)) (hx : xs.map (·.1) = v.list) (hE : ∀ p ∈ xs, RV w F p.1 p.2) : RV w F v h
theorem RV.keep {w w' : World} {F : Nat → Prop} {v : Vl} {h : VH} (hv : RV w F v h) (hk : ∀ g, F g → w'.heap[g]? = w.heap[g]?) (hs : w.heap.size ≤ w'.heap.size) : RV w' F v h := by
 induction hv with
 | mk xs a1 a2 a3 a4 a5 a6 a7 a8 a9 _ ih => exact ⟨xs, a1, a2, a3, a4.keep hk hs, a5, a6, a7, a8.keep hk hs, a9, ih⟩
theorem RV.mono {w : World} {F G : Nat → Prop} {v : Vl} {h : VH} (hv : RV w F v h) (hF : ∀ g, F g → G g) : RV w G v h := by
 induction hv with
 | mk xs a1 a2 a3 a4 a5 a6 a7 a8 a9 _ ih => exact ⟨xs, a1, a2, a3, a4.mono hF, a5, a6, a7, a8.mono hF, a9, ih⟩
theorem RV.under {w w' : World} {B : Nat} {v : Vl} {h : VH} (hv : RV w (fun g => g < B) v h) (hB : Below B w w') (_hs : B ≤ w.heap.size) : RV w' (fun g => g < B) v h := hv.keep (fun g hg => hB.block g hg) hB.size
theorem RV.zero (w : World) (F : Nat → Prop) : RV w F vl0 ⟨none, 0, none, 0⟩ :=
 ⟨[], by decide, by decide, by simp [vl0, Vl.s], RdX.nil _ _ _ _ _ (by simp [maxLen]), fun k hk => (by cases hk), by simp [vl0, Vl.keys], by simp [vl0, Vl.list], RdX.nil _ _ _ _ _ (by simp [maxLen]), rfl, fun p hp => by cases hp⟩
/-- a value's parts -/
theorem RV.parts {w : World} {F : Nat → Prop} {v : Vl} {h : VH} (hv : RV w F v h) : ∃ xs : List (Vl × VH), xs.map (·.1) = v.list ∧ RdX w F 5 h.A2 v.list.length h.c2 (rowC vlC xs) ∧ (∀ p ∈ xs, RV w F p.1 p.2) ∧ RdX w F 1 h.A1 v.keys.length h.c1 (v.keys.map txV) := by
 cases hv with
 | mk xs a1 a2 a3 a4 a5 a6 a7 a8 a9 a10 => exact ⟨xs, a9, a8, a10, a4⟩
theorem RV.bounds {w : World} {F : Nat → Prop} {v : Vl} {h : VH} (hv : RV w F v h) : v.kind < 256 ∧ v.n < 18446744073709551616 ∧ v.s.length ≤ 140737488351232 ∧ (∀ k ∈ v.keys, k.length ≤ 140737488351232) ∧ v.keys.length ≤ 140737488351232 ∧ v.list.length ≤ 140737488351232 := by
 cases hv with
 | mk xs a1 a2 a3 a4 a5 a6 a7 a8 a9 a10 => exact ⟨a1, a2, a3, a5, a6, a7⟩
/-- a value whose blocks are all there -/
abbrev RVw (w : World) (v : Vl) (h : VH) : Prop := RV w (fun g => g < w.heap.size) v h
theorem RV.up {w w' : World} {v : Vl} {h : VH} (hv : RVw w v h) (hB : Below w.heap.size w w') : RVw w' v h := (hv.keep (fun g hg => hB.block g hg) hB.size).mono (fun g hg => Nat.lt_of_lt_of_le hg hB.size)
/-- a value's i-th part -/
theorem RV.elem {w : World} {v : Vl} {h : VH} (hv : RVw w v h) {i : Nat} (hi : i < v.list.length) : ∃ b off hx, h.A2 = some ⟨b, off, none⟩ ∧ RVw w v.list[i] hx ∧ ∀ W, Below w.heap.size w W →
  W.cell? ⟨b, off + i * 5, none⟩ = some (.int .u8 (v.list[i].kind : Int)) ∧ W.cell? ⟨b, off + i * 5 + 1, none⟩ = some (.int .u64 (v.list[i].n : Int)) ∧ W.cell? ⟨b, off + i * 5 + 2, none⟩ = some (.string (str v.list[i].s)) ∧
  W.cell? ⟨b, off + i * 5 + 3, none⟩ = some (.slice hx.A1 v.list[i].keys.length hx.c1) ∧ W.cell? ⟨b, off + i * 5 + 4, none⟩ = some (.slice hx.A2 v.list[i].list.length hx.c2) := by
 obtain ⟨xs, e, h1, h2, _⟩ := hv.parts
 obtain ⟨b, off, hA, hb, hl, hc⟩ := rec_at vlShape h1.1 hi
 have hm : xs[i] ∈ xs := List.getElem_mem hl
 have hx : xs[i].1 = v.list[i] := by
  have : (xs.map (·.1))[i]'(by simpa using hl) = v.list[i] := by simp only [e]
  simpa using this
 refine ⟨b, off, xs[i].2, hA, hx ▸ h2 _ hm, fun W hW => ?_⟩
 rw [← hx]
 exact ⟨(hW.cell hb).trans (hc 0 _ rfl), (hW.cell hb).trans (hc 1 _ rfl), (hW.cell hb).trans (hc 2 _ rfl), (hW.cell hb).trans (hc 3 _ rfl), (hW.cell hb).trans (hc 4 _ rfl)⟩
theorem RV.key {w : World} {v : Vl} {h : VH} (hv : RVw w v h) {i : Nat} (hi : i < v.keys.length) : ∃ b off, h.A1 = some ⟨b, off, none⟩ ∧ ∀ W, Below w.heap.size w W → W.cell? ⟨b, off + i, none⟩ = some (.string (str v.keys[i])) := by
 obtain ⟨xs, _, _, _, h1⟩ := hv.parts
 obtain ⟨b, off, u, e, hb, hu, hc⟩ := h1.1.at_k hi
 refine ⟨b, off, e, fun W hW => ?_⟩
 rw [List.getElem?_map, List.getElem?_eq_getElem hi] at hu
 injection hu with hu
 rw [hW.cell (p := ⟨b, off + i, none⟩) hb, hc, ← hu]; rfl
theorem alloc_stepV (w : World) (cs : Array Value) (t : TypeId) : ∃ (b : Nat) (v : World), b = w.heap.size ∧ v = w.alloc (.cells cs t) ∧ Box v b t cs ∧ Below w.heap.size w v :=
 ⟨_, _, rfl, rfl, Box.new w cs t, (Below.refl _ _).alloc (Nat.le_refl _) _⟩
end Go.PH
end
section
/- How many values there are, how deep they lie: the walks of both programs. -/
namespace Go.PH
open Go.RowKit Go.Proofs

def CntR (w : World) (v : Vl) (m : Int) (e : Ending) (w' : World) : Prop := e = .returned (.int .i64 (cntV v m)) ∧ Below w.heap.size w w'
set_option maxRecDepth 20000 in
theorem count_any (v : Vl) : ∀ (h : VH) (m : Int) (w : World), RVw w v h → 0 ≤ m → m ≤ 1000000 → Calls Tryz.prog 94 #[.agg (vlV v h), .int .i64 m] w (CntR w v m) := by
 refine Vl.ind (P := fun v => ∀ (h : VH) (m : Int) (w : World), RVw w v h → 0 ≤ m → m ≤ 1000000 → Calls Tryz.prog 94 #[.agg (vlV v h), .int .i64 m] w (CntR w v m)) ?_ v
 intro v ih h m w hv hm0 hm1
 obtain ⟨K1, j1, K2, j2⟩ := h
 unfold vlV
 have hel := fun {i : Nat} (hi : i < v.list.length) => hv.elem hi
 simp only at hel ⊢
 obtain ⟨N, hN⟩ : ∃ N, N = v.list.length := ⟨_, rfl⟩
 have hNm : N ≤ 140737488351232 := by rw [hN]; exact hv.bounds.2.2.2.2.2
 have HV := Lib.hid hv
 have HE : Hid (cntV v m = cntL v.list (m - 1)) := Lib.hid (cntV_eq v m)
 unfold CntR
 rw [HE.out]
 rw [← hN]
 have HN := Lib.hid hN
 clear hN hv
 have IH := Lib.hid ih
 clear ih
 obtain ⟨xb, w1, hqb, hqv, hX, hB1⟩ := alloc_stepV w #[.int .u8 (v.kind : Int), .int .u64 (v.n : Int), .string (str v.s), .slice K1 v.keys.length j1, .slice K2 N j2] 69
 have c4 := hX.c4
 go_enter Tryz.func94, Tryz.ntmps94
 go_upto_region 1 with fail
 rw [← hqb, ← hqv]
 clear hqb hqv
 go_wp2_with (with_reducible refine h_A ?_)
 go_loopw [1, 12] (fun s1 s12 wr => ∃ (i : Nat) (q : Int), i ≤ N ∧ s12 = .int .i64 i ∧ s1 = .int .i64 q ∧ -1 ≤ q ∧ q ≤ 1000000 ∧ Hid (cntL (v.list.drop i) q = cntL v.list (m - 1)) ∧ Below w.heap.size w wr) (fun _ s12 _ => N - (RowKit.intOf s12).toNat)
 case atStart => exact ⟨0, m - 1, by omega, rfl, by first | rfl | go_num, by omega, by omega, Lib.hid rfl, hB1⟩
 case round =>
  obtain ⟨i, q, hi, rfl, rfl, hq0, hq1, HC, hB⟩ := hrel
  clear c4 hX
  by_cases hlt : i < N
  ·have g1 : (i : Int) < (N : Int) := by omega
   have hil : i < v.list.length := by rw [← HN.out]; exact hlt
   obtain ⟨b, off, hx, rfl, hvx, HX⟩ := hel hil
   obtain ⟨k0, k1, k2, k3, k4⟩ := HX wr hB
   have HD : Hid (cntL (v.list.drop i) q = if q < 0 then q else cntL (v.list.drop (i + 1)) (cntV v.list[i] q)) := Lib.hid (by rw [List.drop_eq_getElem_cons hil, cntL])
   have hm : v.list[i] ∈ v.list := List.getElem_mem hil
   have hrec := fun (W : World) (hW : Below w.heap.size w W) (h0 : 0 ≤ q) => IH.out _ hm hx q W (hvx.up hW) h0 hq1
   clear HX hel hvx hm
   have hcl := fun h0 => cntV_ge v.list[i] q hq0 h0
   have hcu := cntV_le v.list[i] q
   generalize v.list[i] = x at *
   by_cases hqn : q < 0
   ·have HQ : Hid (q = cntL v.list (m - 1)) := Lib.hid (by rw [← HC.out, HD.out, if_pos hqn])
    obtain ⟨zb, w2, hzb, hzv, hZ, hB2⟩ := alloc_stepV wr #[.int .u8 (x.kind : Int), .int .u64 (x.n : Int), .string (str x.s), .slice hx.A1 x.keys.length hx.c1, .slice hx.A2 x.list.length hx.c2] 69
    have hBx := hB.trans (hB2.mono hB.size)
    clear hrec hcl hcu
    go_upto_region 5 with fail
    rw [← hzb, ← hzv]
    clear hzb hzv
    go_wp2_with (with_reducible refine h_A ?_)
    go_ret
    rw [← HQ.out]
    exact ⟨rfl, hBx⟩
   ·obtain ⟨zb, w2, hzb, hzv, hZ, hB2⟩ := alloc_stepV wr #[.int .u8 (x.kind : Int), .int .u64 (x.n : Int), .string (str x.s), .slice hx.A1 x.keys.length hx.c1, .slice hx.A2 x.list.length hx.c2] 69
    have hBx := hB.trans (hB2.mono hB.size)
    have h1 := hrec w2 hBx (by omega)
    have HC2 : Hid (cntL (v.list.drop (i + 1)) (cntV x q) = cntL v.list (m - 1)) := Lib.hid (by rw [← HC.out, HD.out, if_neg hqn])
    have hcl := hcl (by omega)
    clear hrec
    unfold vlV at h1
    have c0 := hZ.c0
    have c1 := hZ.c1
    have c2 := hZ.c2
    have c3 := hZ.c3
    have c4 := hZ.c4
    go_upto_region 5 with fail
    rw [← hzb, ← hzv]
    clear hzb hzv k0 k1 k2 k3 k4
    go_wp2_with (with_reducible refine h_A ?_)
    refine h1.mono ?_
    rintro e w3 ⟨rfl, hB3⟩
    have hBy := hBx.trans (hB3.mono hBx.size)
    clear h1
    go_wp2_with (with_reducible refine h_A ?_)
    exact ⟨⟨i + 1, cntV x q, by omega, by go_num, rfl, by omega, by omega, HC2, hBy⟩, by simp [RowKit.intOf]; omega⟩
  ·have HQ : Hid (q = cntL v.list (m - 1)) := Lib.hid (by rw [← HC.out, List.drop_eq_nil_of_le (by rw [← HN.out]; omega), cntL])
   have g1 : ¬ (i : Int) < (N : Int) := by omega
   clear hel
   go_wp2_with (with_reducible refine h_A ?_)
   go_ret
   rw [← HQ.out]
   exact ⟨rfl, hB⟩
end Go.PH
end
section
/- How deep values lie: the walk of the program. -/
namespace Go.PH
open Go.RowKit Go.Proofs

set_option maxRecDepth 20000 in
theorem idx_deep (p : Vl → Bool) (bx : Nat) (v : Vl) (h : VH) (w : World) (hv : RVw w v h) (hcl : ∀ x ∈ v.list, ∀ hx W, Below w.heap.size w W → RVw W x hx → Calls Tryz.prog 109 (#[.agg (vlV x hx)] ++ #[.pointer (some ⟨bx, 0, none⟩)]) W (fun e W' => e = .returned (.bool (p x)) ∧ Below W.heap.size W W')) :
  Calls Tryz.prog 120 #[.slice h.A2 v.list.length h.c2, .func (.func 109) #[] #[.pointer (some ⟨bx, 0, none⟩)]] w fun e w' => (∃ r : Int, e = .returned (.int .i64 r) ∧ decide (0 ≤ r) = v.list.any p) ∧ Below w.heap.size w w' := by
 obtain ⟨K1, j1, K2, j2⟩ := h
 have hel := fun {i : Nat} (hi : i < v.list.length) => hv.elem hi
 simp only at hel ⊢
 obtain ⟨N, hN⟩ : ∃ N, N = v.list.length := ⟨_, rfl⟩
 have hNm : N ≤ 140737488351232 := by rw [hN]; exact hv.bounds.2.2.2.2.2
 rw [← hN]
 have HN := Lib.hid hN
 clear hN hv
 have HCL := Lib.hid hcl
 clear hcl
 go_enter Tryz.func120, Tryz.ntmps120
 go_wp2_with (with_reducible refine h_A ?_)
 go_loopw [8] (fun s8 wr => ∃ (i : Nat), i ≤ N ∧ s8 = .int .i64 i ∧ Hid ((v.list.drop i).any p = v.list.any p) ∧ Below w.heap.size w wr) (fun s8 _ => N - (RowKit.intOf s8).toNat)
 case atStart => exact ⟨0, by omega, rfl, Lib.hid rfl, Below.refl _ _⟩
 case round =>
  obtain ⟨i, hi, rfl, HC, hB⟩ := hrel
  by_cases hlt : i < N
  ·have g1 : (i : Int) < (N : Int) := by omega
   have hil : i < v.list.length := by rw [← HN.out]; exact hlt
   obtain ⟨b, off, hx, rfl, hvx, HX⟩ := hel hil
   obtain ⟨k0, k1, k2, k3, k4⟩ := HX wr hB
   have HD : Hid ((v.list.drop i).any p = (p v.list[i] || (v.list.drop (i + 1)).any p)) := Lib.hid (by rw [List.drop_eq_getElem_cons hil, List.any_cons])
   have hrec := HCL.out _ (List.getElem_mem hil) hx wr hB (hvx.up hB)
   clear HX hel hvx
   generalize v.list[i] = x at *
   unfold vlV at hrec
   simp only [List.append_toArray, List.cons_append, List.nil_append] at hrec
   go_wp2_with (with_reducible refine h_A ?_)
   refine hrec.mono ?_
   rintro e w2 ⟨rfl, hB2⟩
   have hBx := hB.trans (hB2.mono hB.size)
   clear hrec k0 k1 k2 k3 k4
   cases hp : p x
   ·have HC2 : Hid ((v.list.drop (i + 1)).any p = v.list.any p) := Lib.hid (by rw [← HC.out, HD.out, hp]; simp)
    go_wp2_with (with_reducible refine h_A ?_)
    exact ⟨⟨i + 1, by omega, by go_num, HC2, hBx⟩, by simp [RowKit.intOf]; omega⟩
   ·have HC2 : Hid (v.list.any p = true) := Lib.hid (by rw [← HC.out, HD.out, hp]; simp)
    go_wp2_with (with_reducible refine h_A ?_)
    go_ret
    exact ⟨⟨i, rfl, by rw [HC2.out]; simp⟩, hBx⟩
  ·have HQ : Hid (v.list.any p = false) := Lib.hid (by rw [← HC.out, List.drop_eq_nil_of_le (by rw [← HN.out]; omega)]; rfl)
   have g1 : ¬ (i : Int) < (N : Int) := by omega
   clear hel
   go_wp2_with (with_reducible refine h_A ?_)
   go_ret
   exact ⟨⟨_, rfl, by rw [HQ.out]; rfl⟩, hB⟩
set_option maxRecDepth 20000 in
theorem has_deep (p : Vl → Bool) (bx : Nat) (v : Vl) (h : VH) (w : World) (hv : RVw w v h) (hcl : ∀ x ∈ v.list, ∀ hx W, Below w.heap.size w W → RVw W x hx → Calls Tryz.prog 109 (#[.agg (vlV x hx)] ++ #[.pointer (some ⟨bx, 0, none⟩)]) W (fun e W' => e = .returned (.bool (p x)) ∧ Below W.heap.size W W')) :
  Calls Tryz.prog 108 #[.slice h.A2 v.list.length h.c2, .func (.func 109) #[] #[.pointer (some ⟨bx, 0, none⟩)]] w fun e w' => e = .returned (.bool (v.list.any p)) ∧ Below w.heap.size w w' := by
 have hi := idx_deep p bx v h w hv hcl
 generalize v.list.any p = r at *
 clear hcl
 go_enter Tryz.func108, Tryz.ntmps108
 go_wp2_with (with_reducible refine h_A ?_)
 refine hi.mono ?_
 rintro e w' ⟨⟨q, rfl, hq⟩, hB⟩
 have HQ := Lib.hid hq
 clear hq
 go_wp2_with (with_reducible refine h_A ?_)
 go_ret
 rw [← HQ.out]
 exact ⟨rfl, hB⟩
def DeepR (w : World) (v : Vl) (m : Nat) (e : Ending) (w' : World) : Prop := e = .returned (.bool (deepV m v)) ∧ Below w.heap.size w w'
set_option maxRecDepth 20000 in
theorem deep1_any (x : Vl) (hx : VH) (m bx : Nat) (W : World) (hb : W.cell? ⟨bx, 0, none⟩ = some (.int .i64 ((m + 1 : Nat) : Int))) (hv : RVw W x hx) (hm : m ≤ 1000) (hrec : ∀ W', Below W.heap.size W W' → Calls Tryz.prog 93 #[.agg (vlV x hx), .int .i64 (m : Int)] W' (DeepR W' x m)) :
  Calls Tryz.prog 109 #[.agg (vlV x hx), .pointer (some ⟨bx, 0, none⟩)] W (DeepR W x m) := by
 have hbx := World.block_lt_of_cell? W _ hb
 unfold vlV at hrec ⊢
 obtain ⟨xb, w1, hqb, hqv, hX, hB1⟩ := alloc_stepV W #[.int .u8 (x.kind : Int), .int .u64 (x.n : Int), .string (str x.s), .slice hx.A1 x.keys.length hx.c1, .slice hx.A2 x.list.length hx.c2] 69
 have hb1 : w1.cell? ⟨bx, 0, none⟩ = some (.int .i64 ((m + 1 : Nat) : Int)) := (hB1.cell (p := ⟨bx, 0, none⟩) hbx).trans hb
 have hw : IntKind.i64.wrap (((m + 1 : Nat) : Int) - 1) = (m : Int) := by rw [IntWalk.i64_in _ ⟨by omega, by omega⟩]; omega
 have hr1 := hrec w1 hB1
 have c0 := hX.c0
 have c1 := hX.c1
 have c2 := hX.c2
 have c3 := hX.c3
 have c4 := hX.c4
 clear hrec hb
 obtain ⟨q, hq⟩ : ∃ q : Int, q = ((m + 1 : Nat) : Int) := ⟨_, rfl⟩
 rw [← hq] at hb1 hw
 have hq2 : q - 1 = (m : Int) := by omega
 have hq3 : 0 < q := by omega
 have hq4 : q ≤ 1001 := by omega
 clear hq
 unfold DeepR at hr1 ⊢
 generalize deepV m x = r at *
 go_enter Tryz.func109, Tryz.ntmps109
 go_upto_region 1 with fail
 rw [← hqb, ← hqv]
 clear hqb hqv
 go_wp2_with (with_reducible refine h_A ?_)
 refine hr1.mono ?_
 rintro e w2 ⟨rfl, hB2⟩
 go_wp2_with (with_reducible refine h_A ?_)
 go_ret
 exact ⟨rfl, hB1.trans (hB2.mono hB1.size)⟩
theorem deepV_succ (m : Nat) (v : Vl) : deepV (m + 1) v = v.list.any (deepV m) := rfl
set_option maxRecDepth 20000 in
theorem deep_any (v : Vl) : ∀ (h : VH) (m : Nat) (w : World), RVw w v h → m ≤ 1000 → Calls Tryz.prog 93 #[.agg (vlV v h), .int .i64 (m : Int)] w (DeepR w v m) := by
 refine Vl.ind (P := fun v => ∀ (h : VH) (m : Nat) (w : World), RVw w v h → m ≤ 1000 → Calls Tryz.prog 93 #[.agg (vlV v h), .int .i64 (m : Int)] w (DeepR w v m)) ?_ v
 intro v ih h m w hv hm
 unfold vlV
 obtain ⟨q, hq⟩ : ∃ q : Int, q = (m : Int) := ⟨_, rfl⟩
 rw [← hq]
 obtain ⟨xb, w1, hqb, hqv, hX, hB1⟩ := alloc_stepV w #[.int .u8 (v.kind : Int), .int .u64 (v.n : Int), .string (str v.s), .slice h.A1 v.keys.length h.c1, .slice h.A2 v.list.length h.c2] 69
 obtain ⟨yb, w2, hyb, hyv, hY, hB2⟩ := alloc_stepV w1 #[.int .i64 q] 3
 have hyb' : xb + 1 = yb := by rw [hyb, hqv, hqb]; simp
 clear hyb
 have hB := hB1.trans (hB2.mono hB1.size)
 have hX2 := hX.below hB2
 have c4 := hX2.c4
 have y0 := hY.c0
 have hv2 := hv.up hB
 unfold DeepR
 cases m with
 | zero =>
  have hd : deepV 0 v = true := rfl
  rw [hd]
  have hz : (q == 0) = true := by rw [hq]; rfl
  clear hq ih
  go_enter Tryz.func93, Tryz.ntmps93
  go_upto_region 1 with fail
  rw [← hqb, ← hqv, hyb', ← hyv]
  clear hqb hqv hyb' hyv
  go_wp2_with (with_reducible refine h_A ?_)
  go_ret
  exact ⟨rfl, hB⟩
 | succ m =>
  have hcon := has_deep (deepV m) yb v h w2 hv2 (fun x hx hx' W hW hvx => by
   refine deep1_any x hx' m yb W ?_ hvx (by omega) (fun W' hW' => ih x hx hx' m W' (hvx.up hW') (by omega))
   rw [hW.cell (p := ⟨yb, 0, none⟩) hY.lt, ← hq]
   exact y0)
  rw [deepV_succ]
  generalize v.list.any (deepV m) = r at *
  have hz : (q == 0) = false := by simp; omega
  clear ih hq
  go_enter Tryz.func93, Tryz.ntmps93
  go_upto_region 1 with fail
  rw [← hqb, ← hqv, hyb', ← hyv]
  clear hqb hqv hyb' hyv
  have hmf : ∀ (fn : Fn) (first cap : Array Value) (w : World), (Instr.makeFunc fn first cap).run Tryz.prog w = .ok (.func fn first cap) w := fun _ _ _ _ => rfl
  go_wp2_with (with_reducible refine h_A ?_)
  refine hcon.mono ?_
  rintro e w3 ⟨rfl, hB3⟩
  go_wp2_with (with_reducible refine h_A ?_)
  go_ret
  exact ⟨rfl, hB.trans (hB3.mono hB.size)⟩
end Go.PH
end
section
/- A value's bytes, as plain mathematics. No program in sight. -/
namespace Go.PH
mutual
/-- a value's bytes -/
def vlB : Vl → List UInt8
 | .mk k n s keys l => UInt8.ofNat k :: (if k = 8 ∨ k = 2 then be 1 n else if k = 50 ∨ k = 49 then be 8 n else if k = 149 then be 2 s.length ++ s else if k = 160 then be 4 s.length ++ s
   else if k = 168 ∨ k = 169 then be 4 (be 4 l.length ++ manyB (decide (k = 168)) keys l).length ++ (be 4 l.length ++ manyB (decide (k = 168)) keys l) else [])
/-- the bytes of what lies in a value -/
def manyB (m : Bool) : List (List UInt8) → List Vl → List UInt8
 | _, [] => []
 | ks, x :: l => (if m then be 1 (ks.headD []).length ++ ks.headD [] else []) ++ vlB x ++ manyB m ks.tail l
end
/-- what lies behind the kind -/
def restB (k n : Nat) (s inn : List UInt8) : List UInt8 := if k = 8 ∨ k = 2 then be 1 n else if k = 50 ∨ k = 49 then be 8 n else if k = 149 then be 2 s.length ++ s else if k = 160 then be 4 s.length ++ s
   else if k = 168 ∨ k = 169 then be 4 inn.length ++ inn else []
def innB (v : Vl) : List UInt8 := be 4 v.list.length ++ manyB (decide (v.kind = 168)) v.keys v.list
theorem vlB_eq (v : Vl) : vlB v = UInt8.ofNat v.kind :: restB v.kind v.n v.s (innB v) := by
 cases v
 rw [vlB]
 rfl
theorem manyB_nil (m : Bool) (ks : List (List UInt8)) : manyB m ks [] = [] := by rw [manyB]
theorem manyB_cons (m : Bool) (ks : List (List UInt8)) (x : Vl) (l : List Vl) : manyB m ks (x :: l) = (if m then be 1 (ks.headD []).length ++ ks.headD [] else []) ++ vlB x ++ manyB m ks.tail l := by rw [manyB]
theorem manyB_map {v : Vl} {i : Nat} (hi : i < v.list.length) (hk : i < v.keys.length) : manyB true (v.keys.drop i) (v.list.drop i) = ((be 1 v.keys[i].length ++ v.keys[i]) ++ vlB v.list[i]) ++ manyB true (v.keys.drop (i + 1)) (v.list.drop (i + 1)) := by
 rw [List.drop_eq_getElem_cons hi, manyB_cons, List.drop_eq_getElem_cons hk]
 simp only [List.headD_cons, List.tail_cons, if_true, List.append_assoc]
theorem manyB_list {v : Vl} {i : Nat} (hi : i < v.list.length) (ks ks' : List (List UInt8)) : manyB false ks (v.list.drop i) = vlB v.list[i] ++ manyB false ks' (v.list.drop (i + 1)) := by
 have key : ∀ (l : List Vl) (a b : List (List UInt8)), manyB false a l = manyB false b l := by
  intro l
  induction l with
  | nil => intro a b; rw [manyB_nil, manyB_nil]
  | cons x l ih => intro a b; rw [manyB_cons, manyB_cons, ih a.tail b.tail]; simp
 rw [List.drop_eq_getElem_cons hi, manyB_cons, key _ ks.tail ks']
 simp
end Go.PH
end
section
/- How many values there are, how deep they lie: the walks of the document's program. -/
namespace Go.PH
open Go.RowKit Go.Proofs

end Go.PH
end
section
/- '==' of values: the walk of the program. -/
namespace Go.PH
open Go.RowKit Go.Proofs

theorem sameV_eq (v u : Vl) : sameV v u = (decide (v.kind = u.kind) && decide (v.n = u.n) && decide (v.s = u.s) && decide (v.keys = u.keys) && sameL v.list u.list) := by
 cases v; rw [sameV]; rfl
theorem strs_eq (a b : List UInt8) : ((str a).toList == (str b).toList) = decide (a = b) := by
 rw [str_toList, str_toList]
 by_cases h : a = b
 ·subst h; simp
 ·simp [h]
theorem txs_cell {w : World} {B n c : Nat} {A : Option Addr} {L : List (List UInt8)} (hr : Rd w B 1 A n c (L.map txV)) {k : Nat} (hk : k < n) (hkl : k < L.length) : ∃ b off, A = some ⟨b, off, none⟩ ∧ ∀ W, Below B w W → W.cell? ⟨b, off + k, none⟩ = some (.string (str L[k])) := by
 obtain ⟨b, off, u, hA, hb, hu, hcell⟩ := hr.at_k (k := k) hk
 refine ⟨b, off, hA, fun W hW => ?_⟩
 rw [List.getElem?_map, List.getElem?_eq_getElem hkl] at hu
 injection hu with hu
 rw [hW.cell (p := ⟨b, off + k, none⟩) hb, hcell, ← hu]; rfl
set_option maxRecDepth 20000 in
theorem eqstr_any (A : Option Addr) (n c : Nat) (K : List (List UInt8)) (A' : Option Addr) (n' c' : Nat) (K' : List (List UInt8)) (w : World) (hr : Rd w w.heap.size 1 A n c (K.map txV)) (hr' : Rd w w.heap.size 1 A' n' c' (K'.map txV)) (hn : n ≤ 140737488351232) (hn' : n' ≤ 140737488351232) :
  Calls Tryz.prog 85 #[.slice A n c, .slice A' n' c'] w fun e w' => e = .returned (.bool (decide (K = K'))) ∧ Below w.heap.size w w' := by
 have hl : K.length = n := by have := hr.len; simpa using this
 have hl' : K'.length = n' := by have := hr'.len; simpa using this
 have HL := Lib.hid hl
 have HL' := Lib.hid hl'
 clear hl hl'
 by_cases hnn : n = n'
 ·subst hnn
  have g0 : ((n : Int) != (n : Int)) = false := by simp
  go_enter Tryz.func85, Tryz.ntmps85
  go_wp2_with (with_reducible refine h_A ?_)
  clear g0
  go_loopw [13] (fun s wr => ∃ i : Nat, i ≤ n ∧ s = .int .i64 i ∧ Below w.heap.size w wr ∧ Hid (K.take i = K'.take i)) (fun s _ => n - (RowKit.intOf s).toNat)
  case atStart => exact ⟨0, by omega, rfl, Below.refl _ _, Lib.hid (by simp)⟩
  case round =>
   obtain ⟨i, hi, rfl, hB, HC⟩ := hrel
   by_cases hlt : i < n
   ·have g1 : (i : Int) < (n : Int) := by omega
    have hil : i < K.length := by rw [HL.out]; exact hlt
    have hil' : i < K'.length := by rw [HL'.out]; exact hlt
    obtain ⟨b, off, rfl, hC⟩ := txs_cell hr hlt hil
    obtain ⟨b', off', rfl, hC'⟩ := txs_cell hr' hlt hil'
    have y0 := hC wr hB
    have z0 := hC' wr hB
    have HT : Hid (K.take (i + 1) = K.take i ++ [K[i]]) := Lib.hid (List.take_succ_eq_append_getElem hil)
    have HT' : Hid (K'.take (i + 1) = K'.take i ++ [K'[i]]) := Lib.hid (List.take_succ_eq_append_getElem hil')
    have HX : Hid (∀ e : K = K', K[i] = K'[i]) := Lib.hid (fun e => by subst e; rfl)
    clear hC hC'
    generalize K[i] = a at *
    generalize K'[i] = b2 at *
    have hab := strs_eq a b2
    have hnb : ((str a).toList != (str b2).toList) = !decide (a = b2) := by rw [bne, hab]
    by_cases hab2 : a = b2
    ·have g2 : decide (a = b2) = true := by simpa using hab2
     rw [g2] at hab hnb
     have HC2 : Hid (K.take (i + 1) = K'.take (i + 1)) := Lib.hid (by rw [HT.out, HT'.out, HC.out, hab2])
     subst hab2
     simp only [Bool.not_true] at hnb
     go_wp2_with (with_reducible refine h_A ?_)
     go_quiet (fail)
     go_wp2_with (with_reducible refine h_A ?_)
     exact ⟨⟨i + 1, by omega, by go_num, below_drewN hB _, HC2⟩, by simp [RowKit.intOf]; omega⟩
    ·have g2 : decide (a = b2) = false := by simpa using hab2
     rw [g2] at hab hnb
     have HF : Hid (decide (K = K') = false) := Lib.hid (decide_eq_false fun e => hab2 (HX.out e))
     clear g2 hab2
     simp only [Bool.not_false] at hnb
     go_wp2_with (with_reducible refine h_A ?_)
     go_quiet (fail)
     go_wp2_with (with_reducible refine h_A ?_)
     go_ret
     rw [HF.out]
     exact ⟨rfl, below_drewN hB _⟩
   ·have g1 : ¬ (i : Int) < (n : Int) := by omega
    have HF : Hid (decide (K = K') = true) := Lib.hid (decide_eq_true (by
     have := HC.out
     rwa [List.take_of_length_le (by rw [HL.out]; omega), List.take_of_length_le (by rw [HL'.out]; omega)] at this))
    go_wp2_with (with_reducible refine h_A ?_)
    go_ret
    rw [HF.out]
    exact ⟨rfl, hB⟩
 ·have g0 : ((n : Int) != (n' : Int)) = true := by simp; omega
  have HF : Hid (decide (K = K') = false) := Lib.hid (decide_eq_false fun e => hnn (by rw [← HL.out, ← HL'.out, e]))
  clear hnn
  go_enter Tryz.func85, Tryz.ntmps85
  go_wp2_with (with_reducible refine h_A ?_)
  go_ret
  rw [HF.out]
  exact ⟨rfl, Below.refl _ _⟩
def SameR (w : World) (v u : Vl) (e : Ending) (w' : World) : Prop := e = .returned (.bool (sameV v u)) ∧ Below w.heap.size w w'
theorem sameL_cons (x y : Vl) (l m : List Vl) : sameL (x :: l) (y :: m) = (sameV x y && sameL l m) := by rw [sameL]
theorem sameL_len : ∀ {l m : List Vl}, l.length ≠ m.length → sameL l m = false
 | [], [], h => absurd rfl h
 | [], _ :: _, _ => by simp [sameL]
 | _ :: _, [], _ => by simp [sameL]
 | x :: l, y :: m, h => by rw [sameL_cons, sameL_len (by simpa using h)]; simp
set_option maxRecDepth 20000 in
theorem eqval_any (v u : Vl) (h k : VH) (w : World) (hv : RVw w v h) (hu : RVw w u k) (ih : ∀ x ∈ v.list, ∀ (y : Vl) (hx hy : VH) (W : World), RVw W x hx → RVw W y hy → Calls Tryz.prog 63 #[.agg (vlV x hx), .agg (vlV y hy)] W (SameR W x y)) :
  Calls Tryz.prog 86 #[.slice h.A2 v.list.length h.c2, .slice k.A2 u.list.length k.c2, .func (.func 63) #[] #[]] w fun e w' => e = .returned (.bool (sameL v.list u.list)) ∧ Below w.heap.size w w' := by
 obtain ⟨K1, j1, K2, j2⟩ := h
 obtain ⟨M1, i1, M2, i2⟩ := k
 have hel := fun {i : Nat} (hi : i < v.list.length) => hv.elem hi
 have hfl := fun {i : Nat} (hi : i < u.list.length) => hu.elem hi
 simp only at hel hfl ⊢
 obtain ⟨N, hN⟩ : ∃ N, N = v.list.length := ⟨_, rfl⟩
 have hNm : N ≤ 140737488351232 := by rw [hN]; exact hv.bounds.2.2.2.2.2
 obtain ⟨M, hM⟩ : ∃ M, M = u.list.length := ⟨_, rfl⟩
 have hMm : M ≤ 140737488351232 := by rw [hM]; exact hu.bounds.2.2.2.2.2
 rw [← hN, ← hM]
 have HN := Lib.hid hN
 have HM := Lib.hid hM
 have IH := Lib.hid ih
 clear hN hM hv hu ih
 by_cases hnn : N = M
 ·subst hnn
  have g0 : ((N : Int) != (N : Int)) = false := by simp
  go_enter Tryz.func86, Tryz.ntmps86
  go_wp2_with (with_reducible refine h_A ?_)
  clear g0
  go_loopw [17] (fun s wr => ∃ i : Nat, i ≤ N ∧ s = .int .i64 i ∧ Below w.heap.size w wr ∧ Hid (sameL (v.list.drop i) (u.list.drop i) = sameL v.list u.list)) (fun s _ => N - (RowKit.intOf s).toNat)
  case atStart => exact ⟨0, by omega, rfl, Below.refl _ _, Lib.hid rfl⟩
  case round =>
   obtain ⟨i, hi, rfl, hB, HC⟩ := hrel
   by_cases hlt : i < N
   ·have g1 : (i : Int) < (N : Int) := by omega
    have hil : i < v.list.length := by rw [← HN.out]; exact hlt
    have hil' : i < u.list.length := by rw [← HM.out]; exact hlt
    obtain ⟨b, off, hx, rfl, hvx, HX⟩ := hel hil
    obtain ⟨b', off', hy, rfl, hvy, HY⟩ := hfl hil'
    obtain ⟨k0, k1, k2, k3, k4⟩ := HX wr hB
    have HD : Hid (sameL (v.list.drop i) (u.list.drop i) = (sameV v.list[i] u.list[i] && sameL (v.list.drop (i + 1)) (u.list.drop (i + 1)))) := Lib.hid (by rw [List.drop_eq_getElem_cons hil, List.drop_eq_getElem_cons hil', sameL_cons])
    have hrec := fun (W : World) (hW : Below w.heap.size w W) => IH.out _ (List.getElem_mem hil) u.list[i] hx hy W (hvx.up hW) (hvy.up hW)
    clear HX hel hvx hfl hvy
    generalize v.list[i] = x at *
    generalize u.list[i] = y at *
    obtain ⟨xb, w1, hxb, hxv, hX, hB1⟩ := alloc_stepV wr #[.int .u8 (x.kind : Int), .int .u64 (x.n : Int), .string (str x.s), .slice hx.A1 x.keys.length hx.c1, .slice hx.A2 x.list.length hx.c2] 69
    have hBx := hB.trans (hB1.mono hB.size)
    obtain ⟨q0, q1, q2, q3, q4⟩ := HY w1 hBx
    obtain ⟨yb, w2, hyb, hyv, hY, hB2⟩ := alloc_stepV w1 #[.int .u8 (y.kind : Int), .int .u64 (y.n : Int), .string (str y.s), .slice hy.A1 y.keys.length hy.c1, .slice hy.A2 y.list.length hy.c2] 69
    have hBy := hBx.trans (hB2.mono hBx.size)
    have h1 := hrec w2 hBy
    have hX2 := hX.below hB2
    clear hrec HY hX
    unfold vlV at h1
    have c0 := hX2.c0
    have c1 := hX2.c1
    have c2 := hX2.c2
    have c3 := hX2.c3
    have c4 := hX2.c4
    have d0 := hY.c0
    have d1 := hY.c1
    have d2 := hY.c2
    have d3 := hY.c3
    have d4 := hY.c4
    go_upto_region 6 with fail
    rw [← hxb, ← hxv]
    clear hxb hxv k0 k1 k2 k3 k4
    go_upto_region 7 with fail
    rw [← hyb, ← hyv]
    clear hyb hyv q0 q1 q2 q3 q4
    unfold SameR at h1
    cases hs : sameV x y
    ·have HF : Hid (sameL v.list u.list = false) := Lib.hid (by rw [← HC.out, HD.out, hs]; rfl)
     rw [hs] at h1
     clear hs
     go_wp2_with (with_reducible refine h_A ?_)
     refine h1.mono ?_
     rintro e w3 ⟨rfl, hB3⟩
     clear h1 c0 c1 c2 c3 c4 d0 d1 d2 d3 d4
     go_wp2_with (with_reducible refine h_A ?_)
     go_ret
     rw [HF.out]
     exact ⟨rfl, hBy.trans (hB3.mono hBy.size)⟩
    ·have HC2 : Hid (sameL (v.list.drop (i + 1)) (u.list.drop (i + 1)) = sameL v.list u.list) := Lib.hid (by rw [← HC.out, HD.out, hs]; rfl)
     rw [hs] at h1
     clear hs
     go_wp2_with (with_reducible refine h_A ?_)
     refine h1.mono ?_
     rintro e w3 ⟨rfl, hB3⟩
     clear h1 c0 c1 c2 c3 c4 d0 d1 d2 d3 d4
     go_wp2_with (with_reducible refine h_A ?_)
     exact ⟨⟨i + 1, by omega, by go_num, hBy.trans (hB3.mono hBy.size), HC2⟩, by simp [RowKit.intOf]; omega⟩
   ·have g1 : ¬ (i : Int) < (N : Int) := by omega
    have HF : Hid (sameL v.list u.list = true) := Lib.hid (by
     rw [← HC.out, List.drop_eq_nil_of_le (by rw [← HN.out]; omega), List.drop_eq_nil_of_le (by rw [← HM.out]; omega), sameL])
    clear hel hfl
    go_wp2_with (with_reducible refine h_A ?_)
    go_ret
    rw [HF.out]
    exact ⟨rfl, hB⟩
 ·have g0 : ((N : Int) != (M : Int)) = true := by simp; omega
  have HF : Hid (sameL v.list u.list = false) := Lib.hid (sameL_len (by rw [← HN.out, ← HM.out]; exact hnn))
  clear hnn hel hfl
  go_enter Tryz.func86, Tryz.ntmps86
  go_wp2_with (with_reducible refine h_A ?_)
  go_ret
  rw [HF.out]
  exact ⟨rfl, Below.refl _ _⟩
set_option maxRecDepth 20000 in
theorem vsame_any (v : Vl) : ∀ (u : Vl) (h k : VH) (w : World), RVw w v h → RVw w u k → Calls Tryz.prog 63 #[.agg (vlV v h), .agg (vlV u k)] w (SameR w v u) := by
 refine Vl.ind (P := fun v => ∀ (u : Vl) (h k : VH) (w : World), RVw w v h → RVw w u k → Calls Tryz.prog 63 #[.agg (vlV v h), .agg (vlV u k)] w (SameR w v u)) ?_ v
 intro v ih u h k w hv hu
 unfold vlV SameR
 obtain ⟨xb, w1, hxb, hxv, hX, hB1⟩ := alloc_stepV w #[.int .u8 (v.kind : Int), .int .u64 (v.n : Int), .string (str v.s), .slice h.A1 v.keys.length h.c1, .slice h.A2 v.list.length h.c2] 69
 obtain ⟨yb, w2, hyb, hyv, hY, hB2⟩ := alloc_stepV w1 #[.int .u8 (u.kind : Int), .int .u64 (u.n : Int), .string (str u.s), .slice k.A1 u.keys.length k.c1, .slice k.A2 u.list.length k.c2] 69
 have hyb' : xb + 1 = yb := by rw [hyb, hxv, hxb]; simp
 have hB := hB1.trans (hB2.mono hB1.size)
 have hX2 := hX.below hB2
 have hv2 := hv.up hB
 have hu2 := hu.up hB
 have c0 := hX2.c0
 have c1 := hX2.c1
 have c2 := hX2.c2
 have c3 := hX2.c3
 have c4 := hX2.c4
 have d0 := hY.c0
 have d1 := hY.c1
 have d2 := hY.c2
 have d3 := hY.c3
 have d4 := hY.c4
 have hst := strs_eq v.s u.s
 obtain ⟨xs, _, _, _, hvk⟩ := hv2.parts
 obtain ⟨ys, _, _, _, huk⟩ := hu2.parts
 have heq := eqstr_any h.A1 v.keys.length h.c1 v.keys k.A1 u.keys.length k.c1 u.keys w2 hvk.1 huk.1 hv.bounds.2.2.2.2.1 hu.bounds.2.2.2.2.1
 have hev := fun (W : World) (hW : Below w2.heap.size w2 W) => eqval_any v u h k W (hv2.up hW) (hu2.up hW) (fun x hx y => ih x hx y)
 clear hyb
 by_cases hk : v.kind = u.kind
 ·have g1 : ((v.kind : Int) == (u.kind : Int)) = true := by simp [hk]
  by_cases hn : v.n = u.n
  ·have g2 : ((v.n : Int) == (u.n : Int)) = true := by simp [hn]
   by_cases hs : v.s = u.s
   ·have g3 : decide (v.s = u.s) = true := by simpa using hs
    rw [g3] at hst
    clear g3
    by_cases hkk : v.keys = u.keys
    ·have g4 : decide (v.keys = u.keys) = true := by simpa using hkk
     rw [g4] at heq
     clear g4
     have HF : Hid (sameV v u = sameL v.list u.list) := Lib.hid (by rw [sameV_eq]; simp [hk, hn, hs, hkk])
     clear hk hn hs hkk ih
     rw [HF.out]
     generalize sameL v.list u.list = r at *
     go_enter Tryz.func63, Tryz.ntmps63
     go_upto_region 1 with fail
     rw [← hxb, ← hxv, hyb', ← hyv]
     clear hxb hxv hyb' hyv
     go_wp2_with (with_reducible refine h_A ?_)
     refine heq.mono ?_
     rintro e w3 ⟨rfl, hB3⟩
     have hev3 := hev w3 hB3
     have hX3 := hX2.below hB3
     have hY3 := hY.below hB3
     clear c0 c1 c2 c3 c4 d0 d1 d2 d3 d4 heq hev
     have c0 := hX3.c0
     have c1 := hX3.c1
     have c2 := hX3.c2
     have c3 := hX3.c3
     have c4 := hX3.c4
     have d0 := hY3.c0
     have d1 := hY3.c1
     have d2 := hY3.c2
     have d3 := hY3.c3
     have d4 := hY3.c4
     go_wp2_with (with_reducible refine h_A ?_)
     refine hev3.mono ?_
     rintro e w4 ⟨rfl, hB4⟩
     clear c0 c1 c2 c3 c4 d0 d1 d2 d3 d4
     go_wp2_with (with_reducible refine h_A ?_)
     go_ret
     exact ⟨rfl, hB.trans ((hB3.mono hB.size).trans (hB4.mono (Nat.le_trans hB.size hB3.size)))⟩
    ·have g4 : decide (v.keys = u.keys) = false := by simpa using hkk
     rw [g4] at heq
     clear g4 hev ih
     have HF : Hid (sameV v u = false) := Lib.hid (by rw [sameV_eq]; simp [hkk])
     clear hkk hk hn hs
     go_enter Tryz.func63, Tryz.ntmps63
     go_upto_region 1 with fail
     rw [← hxb, ← hxv, hyb', ← hyv]
     clear hxb hxv hyb' hyv
     go_wp2_with (with_reducible refine h_A ?_)
     refine heq.mono ?_
     rintro e w3 ⟨rfl, hB3⟩
     clear c0 c1 c2 c3 c4 d0 d1 d2 d3 d4 heq
     go_wp2_with (with_reducible refine h_A ?_)
     go_ret
     rw [HF.out]
     exact ⟨rfl, hB.trans (hB3.mono hB.size)⟩
   ·have g3 : decide (v.s = u.s) = false := by simpa using hs
    rw [g3] at hst
    clear g3 heq hev ih hk hn
    have HF : Hid (sameV v u = false) := Lib.hid (by rw [sameV_eq]; simp [hs])
    clear hs
    go_enter Tryz.func63, Tryz.ntmps63
    go_upto_region 1 with fail
    rw [← hxb, ← hxv, hyb', ← hyv]
    clear hxb hxv hyb' hyv
    go_wp2_with (with_reducible refine h_A ?_)
    go_ret
    rw [HF.out]
    exact ⟨rfl, hB⟩
  ·have g2 : ((v.n : Int) == (u.n : Int)) = false := by simp; omega
   clear hev hk
   clear heq hst ih
   have HF : Hid (sameV v u = false) := Lib.hid (by rw [sameV_eq]; simp [hn])
   clear hn
   go_enter Tryz.func63, Tryz.ntmps63
   go_upto_region 1 with fail
   rw [← hxb, ← hxv, hyb', ← hyv]
   clear hxb hxv hyb' hyv
   go_wp2_with (with_reducible refine h_A ?_)
   go_ret
   rw [HF.out]
   exact ⟨rfl, hB⟩
 ·have g1 : ((v.kind : Int) == (u.kind : Int)) = false := by simp; omega
  clear hev
  clear heq hst ih
  have HF : Hid (sameV v u = false) := Lib.hid (by rw [sameV_eq]; simp [hk])
  clear hk
  go_enter Tryz.func63, Tryz.ntmps63
  go_upto_region 1 with fail
  rw [← hxb, ← hxv, hyb', ← hyv]
  clear hxb hxv hyb' hyv
  go_wp2_with (with_reducible refine h_A ?_)
  go_ret
  rw [HF.out]
  exact ⟨rfl, hB⟩
end Go.PH
end
section
/- '==' of values: the walk of the document's program. -/
namespace Go.PH
open Go.RowKit Go.Proofs

end Go.PH
end

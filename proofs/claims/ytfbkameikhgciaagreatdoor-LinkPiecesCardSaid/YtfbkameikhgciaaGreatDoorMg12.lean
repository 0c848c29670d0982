/- Texts laid together: VlMath, VlMem, VlCount, VlDeep, VlPutMath, VlRef, VlSame, VlSameRef, VlSee, VlSmall, VlFine. -/
import Derived.Test.YtfbkameikhgciaaGreatDoorProg
import Derived.Deep.Cut
import Derived.Deep.QuietTactic
import Derived.BigQuiet
import Derived.Test.YtfbkameikhgciaaGreatDoorMg01
import Derived.Test.YtfbkameikhgciaaGreatDoorMg02
set_option linter.all false
set_option linter.unusedSimpArgs false
set_option linter.unusedVariables false
set_option maxRecDepth 20000
set_option maxHeartbeats 8000000
section
namespace Go.PH
inductive Vl where
 | mk (kind n : Nat) (s : List UInt8) (keys : List (List UInt8)) (list : List Vl)
namespace Vl
def kind : Vl → Nat | mk k _ _ _ _ => k
def n : Vl → Nat | mk _ n _ _ _ => n
def s : Vl → List UInt8 | mk _ _ s _ _ => s
def keys : Vl → List (List UInt8) | mk _ _ _ k _ => k
def list : Vl → List Vl | mk _ _ _ _ l => l
theorem eta (v : Vl) : v = mk v.kind v.n v.s v.keys v.list := by cases v; rfl
theorem lt (v : Vl) {x : Vl} (h : x ∈ v.list) : SizeOf.sizeOf x < SizeOf.sizeOf v := by
 cases v with
 | mk k n s keys l =>
  have := List.sizeOf_lt_of_mem (show x ∈ l from h)
  simp only [mk.sizeOf_spec]
  omega
theorem ind {P : Vl → Prop} (h : ∀ v, (∀ x ∈ v.list, P x) → P v) : ∀ v, P v := by
 have key : ∀ (m : Nat) (v : Vl), SizeOf.sizeOf v ≤ m → P v := by
  intro m
  induction m with
  | zero =>
   intro v hv
   refine h v fun x hx => ?_
   have := v.lt hx
   omega
  | succ m ih =>
   intro v hv
   refine h v fun x hx => ih x ?_
   have := v.lt hx
   omega
 exact fun v => key _ v (Nat.le_refl _)
end Vl
def vl0 : Vl := .mk 0 0 [] [] []
instance : Inhabited Vl := ⟨vl0⟩
def qA : Nat → Vl → Bool
 | 0, _ => true
 | m + 1, v => v.list.any (qA m)
mutual
def cntV : Vl → Int → Int
 | .mk _ _ _ _ l, m => cntL l (m - 1)
def cntL : List Vl → Int → Int
 | [], m => m
 | x :: l, m => if m < 0 then m else cntL l (cntV x m)
end
theorem Ze (v : Vl) (m : Int) : cntV v m = cntL v.list (m - 1) := by cases v; rw [cntV]; rfl
theorem Y9 (l : List Vl) {m : Int} (h : m < 0) : cntL l m = m := by
 cases l with
 | nil => rw [cntL]
 | cons x l => rw [cntL, if_pos h]
theorem Zf (x : Vl) (l : List Vl) {m : Int} (h : ¬ m < 0) : cntL (x :: l) m = cntL l (cntV x m) := by rw [cntL, if_neg h]
mutual
theorem jL : ∀ (v : Vl) (m : Int), cntV v m ≤ m - 1
 | .mk _ _ _ _ l, m => by rw [cntV]; exact jM l (m - 1)
theorem jM : ∀ (l : List Vl) (m : Int), cntL l m ≤ m
 | [], m => by rw [cntL]; omega
 | x :: l, m => by
  rw [cntL]
  split
  ·omega
  ·have h1 := jL x m
   have h2 := jM l (cntV x m)
   omega
end
mutual
theorem Q0 : ∀ (v : Vl) (m : Int), -1 ≤ m → (0 ≤ m → -1 ≤ cntV v m)
 | .mk _ _ _ _ l, m, h, h0 => by rw [cntV]; exact Q1 l (m - 1) (by omega)
theorem Q1 : ∀ (l : List Vl) (m : Int), -1 ≤ m → -1 ≤ cntL l m
 | [], m, h => by rw [cntL]; omega
 | x :: l, m, h => by
  rw [cntL]
  split
  ·omega
  ·exact Q1 l _ (Q0 x m h (by omega))
end
def xR (l : List (List UInt8)) (plain : List UInt8 → Bool) : Bool := l.all (fun k => decide (1 ≤ k.length) && decide (k.length ≤ 255) && plain k) && decide l.Nodup
mutual
def mayV (plain : List UInt8 → Bool) : Vl → Bool
 | .mk k n s keys l =>
  (decide (k = 168) || keys.isEmpty) && (decide (k = 168) || decide (k = 169) || l.isEmpty) && (decide (k = 149) || decide (k = 160) || s.isEmpty) && decide (s.length ≤ 4096) &&
  (if k = 8 then decide (n ≤ 1) else if k = 2 then decide (n ≤ 255) else if k = 49 ∨ k = 50 then true
   else if k = 240 ∨ k = 160 then decide (n = 0)
   else if k = 149 then plain s && decide (n = 0)
   else if k = 168 then decide (keys.length = l.length) && xR keys plain && decide (n = 0)
   else if k = 169 then decide (n = 0) else false) && mayL plain l
def mayL (plain : List UInt8 → Bool) : List Vl → Bool
 | [] => true
 | x :: l => mayV plain x && mayL plain l
end
theorem Kd (plain : List UInt8 → Bool) (l : List Vl) : mayL plain l = l.all (mayV plain) := by
 induction l with
 | nil => rw [mayL]; rfl
 | cons x l ih => rw [mayL, ih]; rfl
mutual
def qw : Vl → Vl → Bool
 | .mk k n s keys l, v => decide (k = v.kind) && decide (n = v.n) && decide (s = v.s) && decide (keys = v.keys) && xk l v.list
def xk : List Vl → List Vl → Bool
 | [], [] => true
 | x :: l, y :: m => qw x y && xk l m
 | _, _ => false
end
mutual
theorem jw : ∀ (v u : Vl), qw v u = true ↔ v = u
 | .mk k n s keys l, .mk k' n' s' keys' l' => by
  rw [qw]
  simp only [Vl.kind, Vl.n, Vl.s, Vl.keys, Vl.list, Bool.and_eq_true, ZV l l', Vl.mk.injEq]
  constructor
  ·rintro ⟨⟨⟨⟨a, b⟩, c⟩, d⟩, e⟩; exact ⟨of_decide_eq_true a, of_decide_eq_true b, of_decide_eq_true c, of_decide_eq_true d, e⟩
  ·rintro ⟨a, b, c, d, e⟩; exact ⟨⟨⟨⟨decide_eq_true a, decide_eq_true b⟩, decide_eq_true c⟩, decide_eq_true d⟩, e⟩
theorem ZV : ∀ (l m : List Vl), xk l m = true ↔ l = m
 | [], [] => by simp [xk]
 | [], y :: m => by simp [xk]
 | x :: l, [] => by simp [xk]
 | x :: l, y :: m => by
  rw [xk, Bool.and_eq_true, jw x y, ZV l m, List.cons.injEq]
end
instance : DecidableEq Vl := fun v u => if h : qw v u = true then isTrue ((jw v u).1 h) else isFalse fun e => h ((jw v u).2 e)
end Go.PH
end
section
namespace Go.PH
open Go.RowKit
structure VH where
 A1 : Option Addr
 c1 : Nat
 A2 : Option Addr
 c2 : Nat
def txV (s : List UInt8) : Value := .string (str s)
def vlC (p : Vl × VH) : List Value := [.int .u8 (p.1.kind : Int), .int .u64 (p.1.n : Int), .string (str p.1.s), .slice p.2.A1 p.1.keys.length p.2.c1, .slice p.2.A2 p.1.list.length p.2.c2]
def vlV (v : Vl) (h : VH) : Array Value := #[.int .u8 (v.kind : Int), .int .u64 (v.n : Int), .string (str v.s), .slice h.A1 v.keys.length h.c1, .slice h.A2 v.list.length h.c2]
theorem vlShape : RecShape vlC 5 where
 len _ := rfl
 one a u hu := by simp [vlC] at hu; rcases hu with rfl | rfl | rfl | rfl | rfl <;> rfl
 pos := by omega
def RdX (w : World) (F : Nat → Prop) (size : Nat) (A : Option Addr) (n c : Nat) (xs : List Value) : Prop := Rd w w.heap.size size A n c xs ∧ (0 < n → ∀ g, blk A = some g → F g)
theorem QZ {w w' : World} {p : Addr} (h : w'.heap[p.block]? = w.heap[p.block]?) : w'.cell? p = w.cell? p := by
 unfold World.cell?
 rw [h]
theorem RdX.keep {w w' : World} {F : Nat → Prop} {size n c : Nat} {A : Option Addr} {xs : List Value} (h : RdX w F size A n c xs) (hk : ∀ g, F g → w'.heap[g]? = w.heap[g]?) (hs : w.heap.size ≤ w'.heap.size) : RdX w' F size A n c xs := by
 obtain ⟨h1, h2⟩ := h
 refine ⟨⟨h1.len, h1.cap, h1.max, fun hn => ?_⟩, h2⟩
 obtain ⟨b, off, e, hb, hc⟩ := h1.at_ hn
 subst e
 exact ⟨b, off, rfl, Nat.lt_of_lt_of_le hb hs, fun j u hu => (QZ (hk b (h2 hn b rfl))).trans (hc j u hu)⟩
theorem RdX.mono {w : World} {F G : Nat → Prop} {size n c : Nat} {A : Option Addr} {xs : List Value} (h : RdX w F size A n c xs) (hF : ∀ g, F g → G g) : RdX w G size A n c xs := ⟨h.1, fun hn g hg => hF g (h.2 hn g hg)⟩
theorem RdX.nil (w : World) (F : Nat → Prop) (size c : Nat) (A : Option Addr) (hc : c ≤ maxLen) : RdX w F size A 0 c [] := ⟨Rd.nil _ _ _ _ hc _, fun h => absurd h (Nat.lt_irrefl 0)⟩
theorem RdX.of_own {w : World} {F : Nat → Prop} {base e size n c : Nat} {A : Option Addr} {xs : List Value} (h : Own w base e size A n c xs) (hF : ∀ g, blk A = some g → F g) : RdX w F size A n c xs := ⟨Rd.of_own h, fun _ => hF⟩
inductive RV (w : World) (F : Nat → Prop) : Vl → VH → Prop
 | mk {v : Vl} {h : VH} (xs : List (Vl × VH)) (hk : v.kind < 256) (hn : v.n < 18446744073709551616) (hs : v.s.length ≤ 140737488351232) (hK : RdX w F 1 h.A1 v.keys.length h.c1 (v.keys.map txV)) (hkl : ∀ k ∈ v.keys, k.length ≤ 140737488351232)
   (h1 : v.keys.length ≤ 140737488351232) (h2 : v.list.length ≤ 140737488351232) (hL : RdX w F 5 h.A2 v.list.length h.c2 (rowC vlC xs)) (hx : xs.map (·.1) = v.list) (hE : ∀ p ∈ xs, RV w F p.1 p.2) : RV w F v h
theorem RV.keep {w w' : World} {F : Nat → Prop} {v : Vl} {h : VH} (hv : RV w F v h) (hk : ∀ g, F g → w'.heap[g]? = w.heap[g]?) (hs : w.heap.size ≤ w'.heap.size) : RV w' F v h := by
 induction hv with
 | mk xs a1 a2 a3 a4 a5 a6 a7 a8 a9 _ ih => exact ⟨xs, a1, a2, a3, a4.keep hk hs, a5, a6, a7, a8.keep hk hs, a9, ih⟩
theorem RV.mono {w : World} {F G : Nat → Prop} {v : Vl} {h : VH} (hv : RV w F v h) (hF : ∀ g, F g → G g) : RV w G v h := by
 induction hv with
 | mk xs a1 a2 a3 a4 a5 a6 a7 a8 a9 _ ih => exact ⟨xs, a1, a2, a3, a4.mono hF, a5, a6, a7, a8.mono hF, a9, ih⟩
theorem RV.under {w w' : World} {B : Nat} {v : Vl} {h : VH} (hv : RV w (fun g => g < B) v h) (hB : Below B w w') (_hs : B ≤ w.heap.size) : RV w' (fun g => g < B) v h := hv.keep (fun g hg => hB.block g hg) hB.size
theorem RV.zero (w : World) (F : Nat → Prop) : RV w F vl0 ⟨none, 0, none, 0⟩ :=
 ⟨[], by decide, by decide, by simp [vl0, Vl.s], RdX.nil _ _ _ _ _ (by simp [maxLen]), fun k hk => (by cases hk), by simp [vl0, Vl.keys], by simp [vl0, Vl.list], RdX.nil _ _ _ _ _ (by simp [maxLen]), rfl, fun p hp => by cases hp⟩
theorem RV.parts {w : World} {F : Nat → Prop} {v : Vl} {h : VH} (hv : RV w F v h) : ∃ xs : List (Vl × VH), xs.map (·.1) = v.list ∧ RdX w F 5 h.A2 v.list.length h.c2 (rowC vlC xs) ∧ (∀ p ∈ xs, RV w F p.1 p.2) ∧ RdX w F 1 h.A1 v.keys.length h.c1 (v.keys.map txV) := by
 cases hv with
 | mk xs a1 a2 a3 a4 a5 a6 a7 a8 a9 a10 => exact ⟨xs, a9, a8, a10, a4⟩
theorem RV.bounds {w : World} {F : Nat → Prop} {v : Vl} {h : VH} (hv : RV w F v h) : v.kind < 256 ∧ v.n < 18446744073709551616 ∧ v.s.length ≤ 140737488351232 ∧ (∀ k ∈ v.keys, k.length ≤ 140737488351232) ∧ v.keys.length ≤ 140737488351232 ∧ v.list.length ≤ 140737488351232 := by
 cases hv with
 | mk xs a1 a2 a3 a4 a5 a6 a7 a8 a9 a10 => exact ⟨a1, a2, a3, a5, a6, a7⟩
abbrev RVw (w : World) (v : Vl) (h : VH) : Prop := RV w (fun g => g < w.heap.size) v h
theorem RV.up {w w' : World} {v : Vl} {h : VH} (hv : RVw w v h) (hB : Below w.heap.size w w') : RVw w' v h := (hv.keep (fun g hg => hB.block g hg) hB.size).mono (fun g hg => Nat.lt_of_lt_of_le hg hB.size)
theorem RV.elem {w : World} {v : Vl} {h : VH} (hv : RVw w v h) {i : Nat} (hi : i < v.list.length) : ∃ b off hx, h.A2 = some ⟨b, off, none⟩ ∧ RVw w v.list[i] hx ∧ ∀ W, Below w.heap.size w W →
  W.cell? ⟨b, off + i * 5, none⟩ = some (.int .u8 (v.list[i].kind : Int)) ∧ W.cell? ⟨b, off + i * 5 + 1, none⟩ = some (.int .u64 (v.list[i].n : Int)) ∧ W.cell? ⟨b, off + i * 5 + 2, none⟩ = some (.string (str v.list[i].s)) ∧
  W.cell? ⟨b, off + i * 5 + 3, none⟩ = some (.slice hx.A1 v.list[i].keys.length hx.c1) ∧ W.cell? ⟨b, off + i * 5 + 4, none⟩ = some (.slice hx.A2 v.list[i].list.length hx.c2) := by
 obtain ⟨xs, e, h1, h2, _⟩ := hv.parts
 obtain ⟨b, off, hA, hb, hl, hc⟩ := xW vlShape h1.1 hi
 have hm : xs[i] ∈ xs := List.getElem_mem hl
 have hx : xs[i].1 = v.list[i] := by
  have : (xs.map (·.1))[i]'(by simpa using hl) = v.list[i] := by simp only [e]
  simpa using this
 refine ⟨b, off, xs[i].2, hA, hx ▸ h2 _ hm, fun W hW => ?_⟩
 rw [← hx]
 exact ⟨(hW.cell hb).trans (hc 0 _ rfl), (hW.cell hb).trans (hc 1 _ rfl), (hW.cell hb).trans (hc 2 _ rfl), (hW.cell hb).trans (hc 3 _ rfl), (hW.cell hb).trans (hc 4 _ rfl)⟩
theorem RV.key {w : World} {v : Vl} {h : VH} (hv : RVw w v h) {i : Nat} (hi : i < v.keys.length) : ∃ b off, h.A1 = some ⟨b, off, none⟩ ∧ ∀ W, Below w.heap.size w W → W.cell? ⟨b, off + i, none⟩ = some (.string (str v.keys[i])) := by
 obtain ⟨xs, _, _, _, h1⟩ := hv.parts
 obtain ⟨b, off, u, e, hb, hu, hc⟩ := h1.1.at_k hi
 refine ⟨b, off, e, fun W hW => ?_⟩
 rw [List.getElem?_map, List.getElem?_eq_getElem hi] at hu
 injection hu with hu
 rw [hW.cell (p := ⟨b, off + i, none⟩) hb, hc, ← hu]; rfl
theorem zo (w : World) (cs : Array Value) (t : TypeId) : ∃ (b : Nat) (v : World), b = w.heap.size ∧ v = w.alloc (.cells cs t) ∧ Box v b t cs ∧ Below w.heap.size w v :=
 ⟨_, _, rfl, rfl, Box.new w cs t, (Below.refl _ _).alloc (Nat.le_refl _) _⟩
end Go.PH
end
section
namespace Go.PH
open Go.RowKit Go.Proofs
def CntR (w : World) (v : Vl) (m : Int) (e : Ending) (w' : World) : Prop := e = .returned (.int .i64 (cntV v m)) ∧ Below w.heap.size w w'
theorem Ja (v : Vl) : ∀ (h : VH) (m : Int) (w : World), RVw w v h → 0 ≤ m → m ≤ 1000000 → Calls Tryz.prog 148 #[.agg (vlV v h), .int .i64 m] w (CntR w v m) := by
 refine Vl.ind (P := fun v => ∀ (h : VH) (m : Int) (w : World), RVw w v h → 0 ≤ m → m ≤ 1000000 → Calls Tryz.prog 148 #[.agg (vlV v h), .int .i64 m] w (CntR w v m)) ?_ v
 intro v ih h m w hv hm0 hm1
 obtain ⟨K1, j1, K2, j2⟩ := h
 unfold vlV
 have hel := fun {i : Nat} (hi : i < v.list.length) => hv.elem hi
 simp only at hel ⊢
 obtain ⟨N, hN⟩ : ∃ N, N = v.list.length := ⟨_, rfl⟩
 have hNm : N ≤ 140737488351232 := by rw [hN]; exact hv.bounds.2.2.2.2.2
 have HV := Lib.hid hv
 have HE : Hid (cntV v m = cntL v.list (m - 1)) := Lib.hid (Ze v m)
 unfold CntR
 rw [HE.out]
 rw [← hN]
 have HN := Lib.hid hN
 clear hN hv
 have IH := Lib.hid ih
 clear ih
 obtain ⟨xb, w1, hqb, hqv, hX, hB1⟩ := zo w #[.int .u8 (v.kind : Int), .int .u64 (v.n : Int), .string (str v.s), .slice K1 v.keys.length j1, .slice K2 N j2] 78
 have c4 := hX.c4
 go_enter Tryz.func148, Tryz.ntmps148
 go_upto_region 1 with fail
 rw [← hqb, ← hqv]
 clear hqb hqv
 go_wp2_with (with_reducible refine h_A ?_)
 go_loopw [1, 12] (fun s1 s12 wr => ∃ (i : Nat) (q : Int), i ≤ N ∧ s12 = .int .i64 i ∧ s1 = .int .i64 q ∧ -1 ≤ q ∧ q ≤ 1000000 ∧ Hid (cntL (v.list.drop i) q = cntL v.list (m - 1)) ∧ Below w.heap.size w wr) (fun _ s12 _ => N - (RowKit.intOf s12).toNat)
 case atStart => exact ⟨0, m - 1, by omega, rfl, by first | rfl | go_num, by omega, by omega, Lib.hid rfl, hB1⟩
 case round =>
  obtain ⟨i, q, hi, rfl, rfl, hq0, hq1, HC, hB⟩ := hrel
  clear c4 hX
  by_cases hlt : i < N
  ·have g1 : (i : Int) < (N : Int) := by omega
   have hil : i < v.list.length := by rw [← HN.out]; exact hlt
   obtain ⟨b, off, hx, rfl, hvx, HX⟩ := hel hil
   obtain ⟨k0, k1, k2, k3, k4⟩ := HX wr hB
   have HD : Hid (cntL (v.list.drop i) q = if q < 0 then q else cntL (v.list.drop (i + 1)) (cntV v.list[i] q)) := Lib.hid (by rw [List.drop_eq_getElem_cons hil, cntL])
   have hm : v.list[i] ∈ v.list := List.getElem_mem hil
   have hrec := fun (W : World) (hW : Below w.heap.size w W) (h0 : 0 ≤ q) => IH.out _ hm hx q W (hvx.up hW) h0 hq1
   clear HX hel hvx hm
   have hcl := fun h0 => Q0 v.list[i] q hq0 h0
   have hcu := jL v.list[i] q
   generalize v.list[i] = x at *
   by_cases hqn : q < 0
   ·have HQ : Hid (q = cntL v.list (m - 1)) := Lib.hid (by rw [← HC.out, HD.out, if_pos hqn])
    obtain ⟨zb, w2, hzb, hzv, hZ, hB2⟩ := zo wr #[.int .u8 (x.kind : Int), .int .u64 (x.n : Int), .string (str x.s), .slice hx.A1 x.keys.length hx.c1, .slice hx.A2 x.list.length hx.c2] 78
    have hBx := hB.trans (hB2.mono hB.size)
    clear hrec hcl hcu
    go_upto_region 5 with fail
    rw [← hzb, ← hzv]
    clear hzb hzv
    go_wp2_with (with_reducible refine h_A ?_)
    go_ret
    rw [← HQ.out]
    exact ⟨rfl, hBx⟩
   ·obtain ⟨zb, w2, hzb, hzv, hZ, hB2⟩ := zo wr #[.int .u8 (x.kind : Int), .int .u64 (x.n : Int), .string (str x.s), .slice hx.A1 x.keys.length hx.c1, .slice hx.A2 x.list.length hx.c2] 78
    have hBx := hB.trans (hB2.mono hB.size)
    have h1 := hrec w2 hBx (by omega)
    have HC2 : Hid (cntL (v.list.drop (i + 1)) (cntV x q) = cntL v.list (m - 1)) := Lib.hid (by rw [← HC.out, HD.out, if_neg hqn])
    have hcl := hcl (by omega)
    clear hrec
    unfold vlV at h1
    have c0 := hZ.c0
    have c1 := hZ.c1
    have c2 := hZ.c2
    have c3 := hZ.c3
    have c4 := hZ.c4
    go_upto_region 5 with fail
    rw [← hzb, ← hzv]
    clear hzb hzv k0 k1 k2 k3 k4
    go_wp2_with (with_reducible refine h_A ?_)
    refine h1.mono ?_
    rintro e w3 ⟨rfl, hB3⟩
    have hBy := hBx.trans (hB3.mono hBx.size)
    clear h1
    go_wp2_with (with_reducible refine h_A ?_)
    exact ⟨⟨i + 1, cntV x q, by omega, by go_num, rfl, by omega, by omega, HC2, hBy⟩, by simp [RowKit.intOf]; omega⟩
  ·have HQ : Hid (q = cntL v.list (m - 1)) := Lib.hid (by rw [← HC.out, List.drop_eq_nil_of_le (by rw [← HN.out]; omega), cntL])
   have g1 : ¬ (i : Int) < (N : Int) := by omega
   clear hel
   go_wp2_with (with_reducible refine h_A ?_)
   go_ret
   rw [← HQ.out]
   exact ⟨rfl, hB⟩
end Go.PH
end
section
namespace Go.PH
open Go.RowKit Go.Proofs
theorem Kl (p : Vl → Bool) (bx : Nat) (v : Vl) (h : VH) (w : World) (hv : RVw w v h) (hcl : ∀ x ∈ v.list, ∀ hx W, Below w.heap.size w W → RVw W x hx → Calls Tryz.prog 172 (#[.agg (vlV x hx)] ++ #[.pointer (some ⟨bx, 0, none⟩)]) W (fun e W' => e = .returned (.bool (p x)) ∧ Below W.heap.size W W')) :
  Calls Tryz.prog 183 #[.slice h.A2 v.list.length h.c2, .func (.func 172) #[] #[.pointer (some ⟨bx, 0, none⟩)]] w fun e w' => (∃ r : Int, e = .returned (.int .i64 r) ∧ decide (0 ≤ r) = v.list.any p) ∧ Below w.heap.size w w' := by
 obtain ⟨K1, j1, K2, j2⟩ := h
 have hel := fun {i : Nat} (hi : i < v.list.length) => hv.elem hi
 simp only at hel ⊢
 obtain ⟨N, hN⟩ : ∃ N, N = v.list.length := ⟨_, rfl⟩
 have hNm : N ≤ 140737488351232 := by rw [hN]; exact hv.bounds.2.2.2.2.2
 rw [← hN]
 have HN := Lib.hid hN
 clear hN hv
 have HCL := Lib.hid hcl
 clear hcl
 go_enter Tryz.func183, Tryz.ntmps183
 go_wp2_with (with_reducible refine h_A ?_)
 go_loopw [8] (fun s8 wr => ∃ (i : Nat), i ≤ N ∧ s8 = .int .i64 i ∧ Hid ((v.list.drop i).any p = v.list.any p) ∧ Below w.heap.size w wr) (fun s8 _ => N - (RowKit.intOf s8).toNat)
 case atStart => exact ⟨0, by omega, rfl, Lib.hid rfl, Below.refl _ _⟩
 case round =>
  obtain ⟨i, hi, rfl, HC, hB⟩ := hrel
  by_cases hlt : i < N
  ·have g1 : (i : Int) < (N : Int) := by omega
   have hil : i < v.list.length := by rw [← HN.out]; exact hlt
   obtain ⟨b, off, hx, rfl, hvx, HX⟩ := hel hil
   obtain ⟨k0, k1, k2, k3, k4⟩ := HX wr hB
   have HD : Hid ((v.list.drop i).any p = (p v.list[i] || (v.list.drop (i + 1)).any p)) := Lib.hid (by rw [List.drop_eq_getElem_cons hil, List.any_cons])
   have hrec := HCL.out _ (List.getElem_mem hil) hx wr hB (hvx.up hB)
   clear HX hel hvx
   generalize v.list[i] = x at *
   unfold vlV at hrec
   simp only [List.append_toArray, List.cons_append, List.nil_append] at hrec
   go_wp2_with (with_reducible refine h_A ?_)
   refine hrec.mono ?_
   rintro e w2 ⟨rfl, hB2⟩
   have hBx := hB.trans (hB2.mono hB.size)
   clear hrec k0 k1 k2 k3 k4
   cases hp : p x
   ·have HC2 : Hid ((v.list.drop (i + 1)).any p = v.list.any p) := Lib.hid (by rw [← HC.out, HD.out, hp]; simp)
    go_wp2_with (with_reducible refine h_A ?_)
    exact ⟨⟨i + 1, by omega, by go_num, HC2, hBx⟩, by simp [RowKit.intOf]; omega⟩
   ·have HC2 : Hid (v.list.any p = true) := Lib.hid (by rw [← HC.out, HD.out, hp]; simp)
    go_wp2_with (with_reducible refine h_A ?_)
    go_ret
    exact ⟨⟨i, rfl, by rw [HC2.out]; simp⟩, hBx⟩
  ·have HQ : Hid (v.list.any p = false) := Lib.hid (by rw [← HC.out, List.drop_eq_nil_of_le (by rw [← HN.out]; omega)]; rfl)
   have g1 : ¬ (i : Int) < (N : Int) := by omega
   clear hel
   go_wp2_with (with_reducible refine h_A ?_)
   go_ret
   exact ⟨⟨_, rfl, by rw [HQ.out]; rfl⟩, hB⟩
theorem Km (p : Vl → Bool) (bx : Nat) (v : Vl) (h : VH) (w : World) (hv : RVw w v h) (hcl : ∀ x ∈ v.list, ∀ hx W, Below w.heap.size w W → RVw W x hx → Calls Tryz.prog 172 (#[.agg (vlV x hx)] ++ #[.pointer (some ⟨bx, 0, none⟩)]) W (fun e W' => e = .returned (.bool (p x)) ∧ Below W.heap.size W W')) :
  Calls Tryz.prog 171 #[.slice h.A2 v.list.length h.c2, .func (.func 172) #[] #[.pointer (some ⟨bx, 0, none⟩)]] w fun e w' => e = .returned (.bool (v.list.any p)) ∧ Below w.heap.size w w' := by
 have hi := Kl p bx v h w hv hcl
 generalize v.list.any p = r at *
 clear hcl
 go_enter Tryz.func171, Tryz.ntmps171
 go_wp2_with (with_reducible refine h_A ?_)
 refine hi.mono ?_
 rintro e w' ⟨⟨q, rfl, hq⟩, hB⟩
 have HQ := Lib.hid hq
 clear hq
 go_wp2_with (with_reducible refine h_A ?_)
 go_ret
 rw [← HQ.out]
 exact ⟨rfl, hB⟩
def YG (w : World) (v : Vl) (m : Nat) (e : Ending) (w' : World) : Prop := e = .returned (.bool (qA m v)) ∧ Below w.heap.size w w'
theorem Jh (x : Vl) (hx : VH) (m bx : Nat) (W : World) (hb : W.cell? ⟨bx, 0, none⟩ = some (.int .i64 ((m + 1 : Nat) : Int))) (hv : RVw W x hx) (hm : m ≤ 1000) (hrec : ∀ W', Below W.heap.size W W' → Calls Tryz.prog 147 #[.agg (vlV x hx), .int .i64 (m : Int)] W' (YG W' x m)) :
  Calls Tryz.prog 172 #[.agg (vlV x hx), .pointer (some ⟨bx, 0, none⟩)] W (YG W x m) := by
 have hbx := World.block_lt_of_cell? W _ hb
 unfold vlV at hrec ⊢
 obtain ⟨xb, w1, hqb, hqv, hX, hB1⟩ := zo W #[.int .u8 (x.kind : Int), .int .u64 (x.n : Int), .string (str x.s), .slice hx.A1 x.keys.length hx.c1, .slice hx.A2 x.list.length hx.c2] 78
 have hb1 : w1.cell? ⟨bx, 0, none⟩ = some (.int .i64 ((m + 1 : Nat) : Int)) := (hB1.cell (p := ⟨bx, 0, none⟩) hbx).trans hb
 have hw : IntKind.i64.wrap (((m + 1 : Nat) : Int) - 1) = (m : Int) := by rw [IntWalk.i64_in _ ⟨by omega, by omega⟩]; omega
 have hr1 := hrec w1 hB1
 have c0 := hX.c0
 have c1 := hX.c1
 have c2 := hX.c2
 have c3 := hX.c3
 have c4 := hX.c4
 clear hrec hb
 obtain ⟨q, hq⟩ : ∃ q : Int, q = ((m + 1 : Nat) : Int) := ⟨_, rfl⟩
 rw [← hq] at hb1 hw
 have hq2 : q - 1 = (m : Int) := by omega
 have hq3 : 0 < q := by omega
 have hq4 : q ≤ 1001 := by omega
 clear hq
 unfold YG at hr1 ⊢
 generalize qA m x = r at *
 go_enter Tryz.func172, Tryz.ntmps172
 go_upto_region 1 with fail
 rw [← hqb, ← hqv]
 clear hqb hqv
 go_wp2_with (with_reducible refine h_A ?_)
 refine hr1.mono ?_
 rintro e w2 ⟨rfl, hB2⟩
 go_wp2_with (with_reducible refine h_A ?_)
 go_ret
 exact ⟨rfl, hB1.trans (hB2.mono hB1.size)⟩
theorem XV (m : Nat) (v : Vl) : qA (m + 1) v = v.list.any (qA m) := rfl
theorem Kn (v : Vl) : ∀ (h : VH) (m : Nat) (w : World), RVw w v h → m ≤ 1000 → Calls Tryz.prog 147 #[.agg (vlV v h), .int .i64 (m : Int)] w (YG w v m) := by
 refine Vl.ind (P := fun v => ∀ (h : VH) (m : Nat) (w : World), RVw w v h → m ≤ 1000 → Calls Tryz.prog 147 #[.agg (vlV v h), .int .i64 (m : Int)] w (YG w v m)) ?_ v
 intro v ih h m w hv hm
 unfold vlV
 obtain ⟨q, hq⟩ : ∃ q : Int, q = (m : Int) := ⟨_, rfl⟩
 rw [← hq]
 obtain ⟨xb, w1, hqb, hqv, hX, hB1⟩ := zo w #[.int .u8 (v.kind : Int), .int .u64 (v.n : Int), .string (str v.s), .slice h.A1 v.keys.length h.c1, .slice h.A2 v.list.length h.c2] 78
 obtain ⟨yb, w2, hyb, hyv, hY, hB2⟩ := zo w1 #[.int .i64 q] 3
 have hyb' : xb + 1 = yb := by rw [hyb, hqv, hqb]; simp
 clear hyb
 have hB := hB1.trans (hB2.mono hB1.size)
 have hX2 := hX.below hB2
 have c4 := hX2.c4
 have y0 := hY.c0
 have hv2 := hv.up hB
 unfold YG
 cases m with
 | zero =>
  have hd : qA 0 v = true := rfl
  rw [hd]
  have hz : (q == 0) = true := by rw [hq]; rfl
  clear hq ih
  go_enter Tryz.func147, Tryz.ntmps147
  go_upto_region 1 with fail
  rw [← hqb, ← hqv, hyb', ← hyv]
  clear hqb hqv hyb' hyv
  go_wp2_with (with_reducible refine h_A ?_)
  go_ret
  exact ⟨rfl, hB⟩
 | succ m =>
  have hcon := Km (qA m) yb v h w2 hv2 (fun x hx hx' W hW hvx => by
   refine Jh x hx' m yb W ?_ hvx (by omega) (fun W' hW' => ih x hx hx' m W' (hvx.up hW') (by omega))
   rw [hW.cell (p := ⟨yb, 0, none⟩) hY.lt, ← hq]
   exact y0)
  rw [XV]
  generalize v.list.any (qA m) = r at *
  have hz : (q == 0) = false := by simp; omega
  clear ih hq
  go_enter Tryz.func147, Tryz.ntmps147
  go_upto_region 1 with fail
  rw [← hqb, ← hqv, hyb', ← hyv]
  clear hqb hqv hyb' hyv
  have hmf : ∀ (fn : Fn) (first cap : Array Value) (w : World), (Instr.makeFunc fn first cap).run Tryz.prog w = .ok (.func fn first cap) w := fun _ _ _ _ => rfl
  go_wp2_with (with_reducible refine h_A ?_)
  refine hcon.mono ?_
  rintro e w3 ⟨rfl, hB3⟩
  go_wp2_with (with_reducible refine h_A ?_)
  go_ret
  exact ⟨rfl, hB.trans (hB3.mono hB.size)⟩
end Go.PH
end
section
namespace Go.PH
mutual
def vlB : Vl → List UInt8
 | .mk k n s keys l => UInt8.ofNat k :: (if k = 8 ∨ k = 2 then be 1 n else if k = 50 ∨ k = 49 then be 8 n else if k = 149 then be 2 s.length ++ s else if k = 160 then be 4 s.length ++ s
   else if k = 168 ∨ k = 169 then be 4 (be 4 l.length ++ yl (decide (k = 168)) keys l).length ++ (be 4 l.length ++ yl (decide (k = 168)) keys l) else [])
def yl (m : Bool) : List (List UInt8) → List Vl → List UInt8
 | _, [] => []
 | ks, x :: l => (if m then be 1 (ks.headD []).length ++ ks.headD [] else []) ++ vlB x ++ yl m ks.tail l
end
def yj (k n : Nat) (s inn : List UInt8) : List UInt8 := if k = 8 ∨ k = 2 then be 1 n else if k = 50 ∨ k = 49 then be 8 n else if k = 149 then be 2 s.length ++ s else if k = 160 then be 4 s.length ++ s
   else if k = 168 ∨ k = 169 then be 4 inn.length ++ inn else []
def innB (v : Vl) : List UInt8 := be 4 v.list.length ++ yl (decide (v.kind = 168)) v.keys v.list
theorem Z7 (v : Vl) : vlB v = UInt8.ofNat v.kind :: yj v.kind v.n v.s (innB v) := by
 cases v
 rw [vlB]
 rfl
theorem xy (m : Bool) (ks : List (List UInt8)) : yl m ks [] = [] := by rw [yl]
theorem yX (m : Bool) (ks : List (List UInt8)) (x : Vl) (l : List Vl) : yl m ks (x :: l) = (if m then be 1 (ks.headD []).length ++ ks.headD [] else []) ++ vlB x ++ yl m ks.tail l := by rw [yl]
theorem Ji {v : Vl} {i : Nat} (hi : i < v.list.length) (hk : i < v.keys.length) : yl true (v.keys.drop i) (v.list.drop i) = ((be 1 v.keys[i].length ++ v.keys[i]) ++ vlB v.list[i]) ++ yl true (v.keys.drop (i + 1)) (v.list.drop (i + 1)) := by
 rw [List.drop_eq_getElem_cons hi, yX, List.drop_eq_getElem_cons hk]
 simp only [List.headD_cons, List.tail_cons, if_true, List.append_assoc]
theorem XW {v : Vl} {i : Nat} (hi : i < v.list.length) (ks ks' : List (List UInt8)) : yl false ks (v.list.drop i) = vlB v.list[i] ++ yl false ks' (v.list.drop (i + 1)) := by
 have key : ∀ (l : List Vl) (a b : List (List UInt8)), yl false a l = yl false b l := by
  intro l
  induction l with
  | nil => intro a b; rw [xy, xy]
  | cons x l ih => intro a b; rw [yX, yX, ih a.tail b.tail]; simp
 rw [List.drop_eq_getElem_cons hi, yX, key _ ks.tail ks']
 simp
end Go.PH
end
section
namespace Go.PH
open Go.RowKit Go.Proofs
end Go.PH
end
section
namespace Go.PH
open Go.RowKit Go.Proofs
theorem jz (v u : Vl) : qw v u = (decide (v.kind = u.kind) && decide (v.n = u.n) && decide (v.s = u.s) && decide (v.keys = u.keys) && xk v.list u.list) := by
 cases v; rw [qw]; rfl
theorem Zg (a b : List UInt8) : ((str a).toList == (str b).toList) = decide (a = b) := by
 rw [zt, zt]
 by_cases h : a = b
 ·subst h; simp
 ·simp [h]
theorem Zh {w : World} {B n c : Nat} {A : Option Addr} {L : List (List UInt8)} (hr : Rd w B 1 A n c (L.map txV)) {k : Nat} (hk : k < n) (hkl : k < L.length) : ∃ b off, A = some ⟨b, off, none⟩ ∧ ∀ W, Below B w W → W.cell? ⟨b, off + k, none⟩ = some (.string (str L[k])) := by
 obtain ⟨b, off, u, hA, hb, hu, hcell⟩ := hr.at_k (k := k) hk
 refine ⟨b, off, hA, fun W hW => ?_⟩
 rw [List.getElem?_map, List.getElem?_eq_getElem hkl] at hu
 injection hu with hu
 rw [hW.cell (p := ⟨b, off + k, none⟩) hb, hcell, ← hu]; rfl
theorem Q7 (A : Option Addr) (n c : Nat) (K : List (List UInt8)) (A' : Option Addr) (n' c' : Nat) (K' : List (List UInt8)) (w : World) (hr : Rd w w.heap.size 1 A n c (K.map txV)) (hr' : Rd w w.heap.size 1 A' n' c' (K'.map txV)) (hn : n ≤ 140737488351232) (hn' : n' ≤ 140737488351232) :
  Calls Tryz.prog 150 #[.slice A n c, .slice A' n' c'] w fun e w' => e = .returned (.bool (decide (K = K'))) ∧ Below w.heap.size w w' := by
 have hl : K.length = n := by have := hr.len; simpa using this
 have hl' : K'.length = n' := by have := hr'.len; simpa using this
 have HL := Lib.hid hl
 have HL' := Lib.hid hl'
 clear hl hl'
 by_cases hnn : n = n'
 ·subst hnn
  have g0 : ((n : Int) != (n : Int)) = false := by simp
  go_enter Tryz.func150, Tryz.ntmps150
  go_wp2_with (with_reducible refine h_A ?_)
  clear g0
  go_loopw [13] (fun s wr => ∃ i : Nat, i ≤ n ∧ s = .int .i64 i ∧ Below w.heap.size w wr ∧ Hid (K.take i = K'.take i)) (fun s _ => n - (RowKit.intOf s).toNat)
  case atStart => exact ⟨0, by omega, rfl, Below.refl _ _, Lib.hid (by simp)⟩
  case round =>
   obtain ⟨i, hi, rfl, hB, HC⟩ := hrel
   by_cases hlt : i < n
   ·have g1 : (i : Int) < (n : Int) := by omega
    have hil : i < K.length := by rw [HL.out]; exact hlt
    have hil' : i < K'.length := by rw [HL'.out]; exact hlt
    obtain ⟨b, off, rfl, hC⟩ := Zh hr hlt hil
    obtain ⟨b', off', rfl, hC'⟩ := Zh hr' hlt hil'
    have y0 := hC wr hB
    have z0 := hC' wr hB
    have HT : Hid (K.take (i + 1) = K.take i ++ [K[i]]) := Lib.hid (List.take_succ_eq_append_getElem hil)
    have HT' : Hid (K'.take (i + 1) = K'.take i ++ [K'[i]]) := Lib.hid (List.take_succ_eq_append_getElem hil')
    have HX : Hid (∀ e : K = K', K[i] = K'[i]) := Lib.hid (fun e => by subst e; rfl)
    clear hC hC'
    generalize K[i] = a at *
    generalize K'[i] = b2 at *
    have hab := Zg a b2
    have hnb : ((str a).toList != (str b2).toList) = !decide (a = b2) := by rw [bne, hab]
    by_cases hab2 : a = b2
    ·have g2 : decide (a = b2) = true := by simpa using hab2
     rw [g2] at hab hnb
     have HC2 : Hid (K.take (i + 1) = K'.take (i + 1)) := Lib.hid (by rw [HT.out, HT'.out, HC.out, hab2])
     subst hab2
     simp only [Bool.not_true] at hnb
     go_wp2_with (with_reducible refine h_A ?_)
     go_quiet (fail)
     go_wp2_with (with_reducible refine h_A ?_)
     exact ⟨⟨i + 1, by omega, by go_num, za hB _, HC2⟩, by simp [RowKit.intOf]; omega⟩
    ·have g2 : decide (a = b2) = false := by simpa using hab2
     rw [g2] at hab hnb
     have HF : Hid (decide (K = K') = false) := Lib.hid (decide_eq_false fun e => hab2 (HX.out e))
     clear g2 hab2
     simp only [Bool.not_false] at hnb
     go_wp2_with (with_reducible refine h_A ?_)
     go_quiet (fail)
     go_wp2_with (with_reducible refine h_A ?_)
     go_ret
     rw [HF.out]
     exact ⟨rfl, za hB _⟩
   ·have g1 : ¬ (i : Int) < (n : Int) := by omega
    have HF : Hid (decide (K = K') = true) := Lib.hid (decide_eq_true (by
     have := HC.out
     rwa [List.take_of_length_le (by rw [HL.out]; omega), List.take_of_length_le (by rw [HL'.out]; omega)] at this))
    go_wp2_with (with_reducible refine h_A ?_)
    go_ret
    rw [HF.out]
    exact ⟨rfl, hB⟩
 ·have g0 : ((n : Int) != (n' : Int)) = true := by simp; omega
  have HF : Hid (decide (K = K') = false) := Lib.hid (decide_eq_false fun e => hnn (by rw [← HL.out, ← HL'.out, e]))
  clear hnn
  go_enter Tryz.func150, Tryz.ntmps150
  go_wp2_with (with_reducible refine h_A ?_)
  go_ret
  rw [HF.out]
  exact ⟨rfl, Below.refl _ _⟩
def XM (w : World) (v u : Vl) (e : Ending) (w' : World) : Prop := e = .returned (.bool (qw v u)) ∧ Below w.heap.size w w'
theorem vF (x y : Vl) (l m : List Vl) : xk (x :: l) (y :: m) = (qw x y && xk l m) := by rw [xk]
theorem Z2 : ∀ {l m : List Vl}, l.length ≠ m.length → xk l m = false
 | [], [], h => absurd rfl h
 | [], _ :: _, _ => by simp [xk]
 | _ :: _, [], _ => by simp [xk]
 | x :: l, y :: m, h => by rw [vF, Z2 (by simpa using h)]; simp
theorem Q8 (v u : Vl) (h k : VH) (w : World) (hv : RVw w v h) (hu : RVw w u k) (ih : ∀ x ∈ v.list, ∀ (y : Vl) (hx hy : VH) (W : World), RVw W x hx → RVw W y hy → Calls Tryz.prog 126 #[.agg (vlV x hx), .agg (vlV y hy)] W (XM W x y)) :
  Calls Tryz.prog 151 #[.slice h.A2 v.list.length h.c2, .slice k.A2 u.list.length k.c2, .func (.func 126) #[] #[]] w fun e w' => e = .returned (.bool (xk v.list u.list)) ∧ Below w.heap.size w w' := by
 obtain ⟨K1, j1, K2, j2⟩ := h
 obtain ⟨M1, i1, M2, i2⟩ := k
 have hel := fun {i : Nat} (hi : i < v.list.length) => hv.elem hi
 have hfl := fun {i : Nat} (hi : i < u.list.length) => hu.elem hi
 simp only at hel hfl ⊢
 obtain ⟨N, hN⟩ : ∃ N, N = v.list.length := ⟨_, rfl⟩
 have hNm : N ≤ 140737488351232 := by rw [hN]; exact hv.bounds.2.2.2.2.2
 obtain ⟨M, hM⟩ : ∃ M, M = u.list.length := ⟨_, rfl⟩
 have hMm : M ≤ 140737488351232 := by rw [hM]; exact hu.bounds.2.2.2.2.2
 rw [← hN, ← hM]
 have HN := Lib.hid hN
 have HM := Lib.hid hM
 have IH := Lib.hid ih
 clear hN hM hv hu ih
 by_cases hnn : N = M
 ·subst hnn
  have g0 : ((N : Int) != (N : Int)) = false := by simp
  go_enter Tryz.func151, Tryz.ntmps151
  go_wp2_with (with_reducible refine h_A ?_)
  clear g0
  go_loopw [17] (fun s wr => ∃ i : Nat, i ≤ N ∧ s = .int .i64 i ∧ Below w.heap.size w wr ∧ Hid (xk (v.list.drop i) (u.list.drop i) = xk v.list u.list)) (fun s _ => N - (RowKit.intOf s).toNat)
  case atStart => exact ⟨0, by omega, rfl, Below.refl _ _, Lib.hid rfl⟩
  case round =>
   obtain ⟨i, hi, rfl, hB, HC⟩ := hrel
   by_cases hlt : i < N
   ·have g1 : (i : Int) < (N : Int) := by omega
    have hil : i < v.list.length := by rw [← HN.out]; exact hlt
    have hil' : i < u.list.length := by rw [← HM.out]; exact hlt
    obtain ⟨b, off, hx, rfl, hvx, HX⟩ := hel hil
    obtain ⟨b', off', hy, rfl, hvy, HY⟩ := hfl hil'
    obtain ⟨k0, k1, k2, k3, k4⟩ := HX wr hB
    have HD : Hid (xk (v.list.drop i) (u.list.drop i) = (qw v.list[i] u.list[i] && xk (v.list.drop (i + 1)) (u.list.drop (i + 1)))) := Lib.hid (by rw [List.drop_eq_getElem_cons hil, List.drop_eq_getElem_cons hil', vF])
    have hrec := fun (W : World) (hW : Below w.heap.size w W) => IH.out _ (List.getElem_mem hil) u.list[i] hx hy W (hvx.up hW) (hvy.up hW)
    clear HX hel hvx hfl hvy
    generalize v.list[i] = x at *
    generalize u.list[i] = y at *
    obtain ⟨xb, w1, hxb, hxv, hX, hB1⟩ := zo wr #[.int .u8 (x.kind : Int), .int .u64 (x.n : Int), .string (str x.s), .slice hx.A1 x.keys.length hx.c1, .slice hx.A2 x.list.length hx.c2] 78
    have hBx := hB.trans (hB1.mono hB.size)
    obtain ⟨q0, q1, q2, q3, q4⟩ := HY w1 hBx
    obtain ⟨yb, w2, hyb, hyv, hY, hB2⟩ := zo w1 #[.int .u8 (y.kind : Int), .int .u64 (y.n : Int), .string (str y.s), .slice hy.A1 y.keys.length hy.c1, .slice hy.A2 y.list.length hy.c2] 78
    have hBy := hBx.trans (hB2.mono hBx.size)
    have h1 := hrec w2 hBy
    have hX2 := hX.below hB2
    clear hrec HY hX
    unfold vlV at h1
    have c0 := hX2.c0
    have c1 := hX2.c1
    have c2 := hX2.c2
    have c3 := hX2.c3
    have c4 := hX2.c4
    have d0 := hY.c0
    have d1 := hY.c1
    have d2 := hY.c2
    have d3 := hY.c3
    have d4 := hY.c4
    go_upto_region 6 with fail
    rw [← hxb, ← hxv]
    clear hxb hxv k0 k1 k2 k3 k4
    go_upto_region 7 with fail
    rw [← hyb, ← hyv]
    clear hyb hyv q0 q1 q2 q3 q4
    unfold XM at h1
    cases hs : qw x y
    ·have HF : Hid (xk v.list u.list = false) := Lib.hid (by rw [← HC.out, HD.out, hs]; rfl)
     rw [hs] at h1
     clear hs
     go_wp2_with (with_reducible refine h_A ?_)
     refine h1.mono ?_
     rintro e w3 ⟨rfl, hB3⟩
     clear h1 c0 c1 c2 c3 c4 d0 d1 d2 d3 d4
     go_wp2_with (with_reducible refine h_A ?_)
     go_ret
     rw [HF.out]
     exact ⟨rfl, hBy.trans (hB3.mono hBy.size)⟩
    ·have HC2 : Hid (xk (v.list.drop (i + 1)) (u.list.drop (i + 1)) = xk v.list u.list) := Lib.hid (by rw [← HC.out, HD.out, hs]; rfl)
     rw [hs] at h1
     clear hs
     go_wp2_with (with_reducible refine h_A ?_)
     refine h1.mono ?_
     rintro e w3 ⟨rfl, hB3⟩
     clear h1 c0 c1 c2 c3 c4 d0 d1 d2 d3 d4
     go_wp2_with (with_reducible refine h_A ?_)
     exact ⟨⟨i + 1, by omega, by go_num, hBy.trans (hB3.mono hBy.size), HC2⟩, by simp [RowKit.intOf]; omega⟩
   ·have g1 : ¬ (i : Int) < (N : Int) := by omega
    have HF : Hid (xk v.list u.list = true) := Lib.hid (by
     rw [← HC.out, List.drop_eq_nil_of_le (by rw [← HN.out]; omega), List.drop_eq_nil_of_le (by rw [← HM.out]; omega), xk])
    clear hel hfl
    go_wp2_with (with_reducible refine h_A ?_)
    go_ret
    rw [HF.out]
    exact ⟨rfl, hB⟩
 ·have g0 : ((N : Int) != (M : Int)) = true := by simp; omega
  have HF : Hid (xk v.list u.list = false) := Lib.hid (Z2 (by rw [← HN.out, ← HM.out]; exact hnn))
  clear hnn hel hfl
  go_enter Tryz.func151, Tryz.ntmps151
  go_wp2_with (with_reducible refine h_A ?_)
  go_ret
  rw [HF.out]
  exact ⟨rfl, Below.refl _ _⟩
theorem Q9 (v : Vl) : ∀ (u : Vl) (h k : VH) (w : World), RVw w v h → RVw w u k → Calls Tryz.prog 126 #[.agg (vlV v h), .agg (vlV u k)] w (XM w v u) := by
 refine Vl.ind (P := fun v => ∀ (u : Vl) (h k : VH) (w : World), RVw w v h → RVw w u k → Calls Tryz.prog 126 #[.agg (vlV v h), .agg (vlV u k)] w (XM w v u)) ?_ v
 intro v ih u h k w hv hu
 unfold vlV XM
 obtain ⟨xb, w1, hxb, hxv, hX, hB1⟩ := zo w #[.int .u8 (v.kind : Int), .int .u64 (v.n : Int), .string (str v.s), .slice h.A1 v.keys.length h.c1, .slice h.A2 v.list.length h.c2] 78
 obtain ⟨yb, w2, hyb, hyv, hY, hB2⟩ := zo w1 #[.int .u8 (u.kind : Int), .int .u64 (u.n : Int), .string (str u.s), .slice k.A1 u.keys.length k.c1, .slice k.A2 u.list.length k.c2] 78
 have hyb' : xb + 1 = yb := by rw [hyb, hxv, hxb]; simp
 have hB := hB1.trans (hB2.mono hB1.size)
 have hX2 := hX.below hB2
 have hv2 := hv.up hB
 have hu2 := hu.up hB
 have c0 := hX2.c0
 have c1 := hX2.c1
 have c2 := hX2.c2
 have c3 := hX2.c3
 have c4 := hX2.c4
 have d0 := hY.c0
 have d1 := hY.c1
 have d2 := hY.c2
 have d3 := hY.c3
 have d4 := hY.c4
 have hst := Zg v.s u.s
 obtain ⟨xs, _, _, _, hvk⟩ := hv2.parts
 obtain ⟨ys, _, _, _, huk⟩ := hu2.parts
 have heq := Q7 h.A1 v.keys.length h.c1 v.keys k.A1 u.keys.length k.c1 u.keys w2 hvk.1 huk.1 hv.bounds.2.2.2.2.1 hu.bounds.2.2.2.2.1
 have hev := fun (W : World) (hW : Below w2.heap.size w2 W) => Q8 v u h k W (hv2.up hW) (hu2.up hW) (fun x hx y => ih x hx y)
 clear hyb
 by_cases hk : v.kind = u.kind
 ·have g1 : ((v.kind : Int) == (u.kind : Int)) = true := by simp [hk]
  by_cases hn : v.n = u.n
  ·have g2 : ((v.n : Int) == (u.n : Int)) = true := by simp [hn]
   by_cases hs : v.s = u.s
   ·have g3 : decide (v.s = u.s) = true := by simpa using hs
    rw [g3] at hst
    clear g3
    by_cases hkk : v.keys = u.keys
    ·have g4 : decide (v.keys = u.keys) = true := by simpa using hkk
     rw [g4] at heq
     clear g4
     have HF : Hid (qw v u = xk v.list u.list) := Lib.hid (by rw [jz]; simp [hk, hn, hs, hkk])
     clear hk hn hs hkk ih
     rw [HF.out]
     generalize xk v.list u.list = r at *
     go_enter Tryz.func126, Tryz.ntmps126
     go_upto_region 1 with fail
     rw [← hxb, ← hxv, hyb', ← hyv]
     clear hxb hxv hyb' hyv
     go_wp2_with (with_reducible refine h_A ?_)
     refine heq.mono ?_
     rintro e w3 ⟨rfl, hB3⟩
     have hev3 := hev w3 hB3
     have hX3 := hX2.below hB3
     have hY3 := hY.below hB3
     clear c0 c1 c2 c3 c4 d0 d1 d2 d3 d4 heq hev
     have c0 := hX3.c0
     have c1 := hX3.c1
     have c2 := hX3.c2
     have c3 := hX3.c3
     have c4 := hX3.c4
     have d0 := hY3.c0
     have d1 := hY3.c1
     have d2 := hY3.c2
     have d3 := hY3.c3
     have d4 := hY3.c4
     go_wp2_with (with_reducible refine h_A ?_)
     refine hev3.mono ?_
     rintro e w4 ⟨rfl, hB4⟩
     clear c0 c1 c2 c3 c4 d0 d1 d2 d3 d4
     go_wp2_with (with_reducible refine h_A ?_)
     go_ret
     exact ⟨rfl, hB.trans ((hB3.mono hB.size).trans (hB4.mono (Nat.le_trans hB.size hB3.size)))⟩
    ·have g4 : decide (v.keys = u.keys) = false := by simpa using hkk
     rw [g4] at heq
     clear g4 hev ih
     have HF : Hid (qw v u = false) := Lib.hid (by rw [jz]; simp [hkk])
     clear hkk hk hn hs
     go_enter Tryz.func126, Tryz.ntmps126
     go_upto_region 1 with fail
     rw [← hxb, ← hxv, hyb', ← hyv]
     clear hxb hxv hyb' hyv
     go_wp2_with (with_reducible refine h_A ?_)
     refine heq.mono ?_
     rintro e w3 ⟨rfl, hB3⟩
     clear c0 c1 c2 c3 c4 d0 d1 d2 d3 d4 heq
     go_wp2_with (with_reducible refine h_A ?_)
     go_ret
     rw [HF.out]
     exact ⟨rfl, hB.trans (hB3.mono hB.size)⟩
   ·have g3 : decide (v.s = u.s) = false := by simpa using hs
    rw [g3] at hst
    clear g3 heq hev ih hk hn
    have HF : Hid (qw v u = false) := Lib.hid (by rw [jz]; simp [hs])
    clear hs
    go_enter Tryz.func126, Tryz.ntmps126
    go_upto_region 1 with fail
    rw [← hxb, ← hxv, hyb', ← hyv]
    clear hxb hxv hyb' hyv
    go_wp2_with (with_reducible refine h_A ?_)
    go_ret
    rw [HF.out]
    exact ⟨rfl, hB⟩
  ·have g2 : ((v.n : Int) == (u.n : Int)) = false := by simp; omega
   clear hev hk
   clear heq hst ih
   have HF : Hid (qw v u = false) := Lib.hid (by rw [jz]; simp [hn])
   clear hn
   go_enter Tryz.func126, Tryz.ntmps126
   go_upto_region 1 with fail
   rw [← hxb, ← hxv, hyb', ← hyv]
   clear hxb hxv hyb' hyv
   go_wp2_with (with_reducible refine h_A ?_)
   go_ret
   rw [HF.out]
   exact ⟨rfl, hB⟩
 ·have g1 : ((v.kind : Int) == (u.kind : Int)) = false := by simp; omega
  clear hev
  clear heq hst ih
  have HF : Hid (qw v u = false) := Lib.hid (by rw [jz]; simp [hk])
  clear hk
  go_enter Tryz.func126, Tryz.ntmps126
  go_upto_region 1 with fail
  rw [← hxb, ← hxv, hyb', ← hyv]
  clear hxb hxv hyb' hyv
  go_wp2_with (with_reducible refine h_A ?_)
  go_ret
  rw [HF.out]
  exact ⟨rfl, hB⟩
end Go.PH
end
section
namespace Go.PH
open Go.RowKit Go.Proofs
end Go.PH
end
section
namespace Go.PH
open Go.RowKit Go.Proofs Go.ChangeShapes Go.WideShapes Go.ChangeAt Go.Deep
section
variable {H : Type} {enc : TypeId × Value → H} {P : Program} {W : World}
def ReaderN (N : Nat) (enc : TypeId × Value → H) (P : Program) (W : World) (t : TypeId) {α : Type} (R : α → List Value → Prop) : Prop :=
 ∀ (fuel : Nat), fuel < N → ∀ (cs : List Value) (d : DataW H) (p : List MemPlace), DataW.trod enc P W 0 (fun _ => true) true fuel t cs = some (d, p) → (∀ x ∈ d.weights P t, x ≤ reachBytes) → ∃ a, R a cs
theorem Reader.at {N : Nat} {t : TypeId} {α : Type} {R : α → List Value → Prop} (h : Reader enc P W t R) : ReaderN N enc P W t R := fun fuel _ => h fuel
theorem ReaderN.all {t : TypeId} {α : Type} {R : α → List Value → Prop} (h : ∀ N, ReaderN N enc P W t R) : Reader enc P W t R := fun fuel => h (fuel + 1) fuel (Nat.lt_succ_self _)
theorem Vw {xs : List Value} : ∀ {L : List (List UInt8)}, xs.length = L.length * 1 → (∀ i (h : i < L.length), RStr L[i] ((xs.drop (i * 1)).take 1)) → xs = L.map txV ∧ ∀ k ∈ L, k.length ≤ 140737488351232 := by
 intro L
 induction L generalizing xs with
 | nil => intro hx _; exact ⟨List.eq_nil_of_length_eq_zero (by simpa using hx), fun k hk => by cases hk⟩
 | cons a L ih =>
  intro hx h
  match xs, hx with
  | x :: xs, hx =>
   have h0 := h 0 (by simp)
   obtain ⟨h01, h02⟩ := h0
   simp at h01 h02
   obtain ⟨e1, e2⟩ := ih (xs := xs) (by simpa using hx) (fun i hi => by
    have := h (i + 1) (by simp; omega)
    rw [show (i + 1) * 1 = i * 1 + 1 by omega, List.drop_succ_cons] at this
    exact this)
   refine ⟨by rw [List.map_cons, ← e1, h01]; rfl, fun k hk => ?_⟩
   rcases List.mem_cons.1 hk with rfl | hk
   ·exact h02
   ·exact e2 k hk
end
variable {H : Type} {enc : TypeId × Value → H} {W : World}
end Go.PH
end
section
namespace Go.PH
open Go.RowKit Go.Proofs
end Go.PH
end
section
namespace Go.PH
end Go.PH
end

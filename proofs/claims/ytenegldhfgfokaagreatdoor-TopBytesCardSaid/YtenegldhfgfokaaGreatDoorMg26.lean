/- Texts laid together: MdArg, MdSameG. -/
import Derived.Test.YtenegldhfgfokaaGreatDoorMg09
import Derived.Test.YtenegldhfgfokaaGreatDoorMg13
import Derived.Test.YtenegldhfgfokaaGreatDoorMg14
import Derived.Test.YtenegldhfgfokaaGreatDoorMg18
import Derived.Test.YtenegldhfgfokaaGreatDoorMg25
set_option linter.all false
set_option linter.unusedSimpArgs false
set_option linter.unusedVariables false
section
/- Arguments of methods, and methods, in memory; how they are read. -/
namespace Go.PH
open Go.RowKit Go.Proofs Go.ChangeShapes Go.WideShapes Go.ChangeAt Go.Deep

/-- an argument -/
structure Ag where
 is : Bool
 n : Nat
 s : List UInt8
 x : Xd
 q : List Sp
 v : Vl
/-- where its rows lie -/
structure AH where
 A : Option Addr
 c : Nat
 h : VH
def agC (p : Ag × AH) : List Value := [.bool p.1.is, .int .u64 (p.1.n : Int), .string (str p.1.s), .int .u32 (p.1.x.fmt : Int), .string (str p.1.x.glob), .string (str p.1.x.bran), .slice p.2.A p.1.q.length p.2.c,
 .int .u8 (p.1.v.kind : Int), .int .u64 (p.1.v.n : Int), .string (str p.1.v.s), .slice p.2.h.A1 p.1.v.keys.length p.2.h.c1, .slice p.2.h.A2 p.1.v.list.length p.2.h.c2]
def agV (a : Ag) (h : AH) : Array Value := #[.bool a.is, .int .u64 (a.n : Int), .string (str a.s), .int .u32 (a.x.fmt : Int), .string (str a.x.glob), .string (str a.x.bran), .slice h.A a.q.length h.c,
 .int .u8 (a.v.kind : Int), .int .u64 (a.v.n : Int), .string (str a.v.s), .slice h.h.A1 a.v.keys.length h.h.c1, .slice h.h.A2 a.v.list.length h.h.c2]
theorem agShape : RecShape agC 12 where
 len _ := rfl
 one a u hu := by simp [agC] at hu; rcases hu with rfl | rfl | rfl | rfl | rfl | rfl | rfl | rfl | rfl | rfl | rfl | rfl <;> rfl
 pos := by omega
/-- an argument lies in blocks of F -/
structure RA (w : World) (F : Nat → Prop) (a : Ag) (h : AH) : Prop where
 n : a.n < 18446744073709551616
 s : a.s.length ≤ 140737488351232
 x : a.x.wf
 q : RdX w F 2 h.A a.q.length h.c (spCells a.q)
 ok : spOK 4294967296 a.q
 c : a.q.length ≤ 140737488351232
 v : RV w F a.v h.h
theorem RA.keep {w w' : World} {F : Nat → Prop} {a : Ag} {h : AH} (ha : RA w F a h) (hk : ∀ g, F g → w'.heap[g]? = w.heap[g]?) (hs : w.heap.size ≤ w'.heap.size) : RA w' F a h := ⟨ha.n, ha.s, ha.x, ha.q.keep hk hs, ha.ok, ha.c, ha.v.keep hk hs⟩
theorem RA.mono {w : World} {F G : Nat → Prop} {a : Ag} {h : AH} (ha : RA w F a h) (hF : ∀ g, F g → G g) : RA w G a h := ⟨ha.n, ha.s, ha.x, ha.q.mono hF, ha.ok, ha.c, ha.v.mono hF⟩
abbrev RAw (w : World) (a : Ag) (h : AH) : Prop := RA w (fun g => g < w.heap.size) a h
theorem RA.up {w w' : World} {a : Ag} {h : AH} (ha : RAw w a h) (hB : Below w.heap.size w w') : RAw w' a h := (ha.keep (fun g hg => hB.block g hg) hB.size).mono (fun g hg => Nat.lt_of_lt_of_le hg hB.size)
/-- a method -/
structure Mt where
 cls : Nat
 code : Nat
 sync : Bool
 args : List Ag
structure RM (w : World) (F : Nat → Prop) (m : Mt) (A : Option Addr) (c : Nat) : Prop where
 cls : m.cls < 256
 code : m.code < 256
 row : ∃ xs : List (Ag × AH), xs.map (·.1) = m.args ∧ RdX w F 12 A m.args.length c (rowC agC xs) ∧ ∀ p ∈ xs, RA w F p.1 p.2
 c : m.args.length ≤ 140737488351232
def mtV (m : Mt) (A : Option Addr) (c : Nat) : Array Value := #[.int .u8 (m.cls : Int), .int .u8 (m.code : Int), .bool m.sync, .slice A m.args.length c]
theorem RM.keep {w w' : World} {F : Nat → Prop} {m : Mt} {A : Option Addr} {c : Nat} (hm : RM w F m A c) (hk : ∀ g, F g → w'.heap[g]? = w.heap[g]?) (hs : w.heap.size ≤ w'.heap.size) : RM w' F m A c := by
 obtain ⟨h1, h2, ⟨xs, e, h3, h4⟩, h5⟩ := hm
 exact ⟨h1, h2, ⟨xs, e, h3.keep hk hs, fun p hp => (h4 p hp).keep hk hs⟩, h5⟩
theorem RM.mono {w : World} {F G : Nat → Prop} {m : Mt} {A : Option Addr} {c : Nat} (hm : RM w F m A c) (hF : ∀ g, F g → G g) : RM w G m A c := by
 obtain ⟨h1, h2, ⟨xs, e, h3, h4⟩, h5⟩ := hm
 exact ⟨h1, h2, ⟨xs, e, h3.mono hF, fun p hp => (h4 p hp).mono hF⟩, h5⟩
abbrev RMw (w : World) (m : Mt) (A : Option Addr) (c : Nat) : Prop := RM w (fun g => g < w.heap.size) m A c
theorem RM.up {w w' : World} {m : Mt} {A : Option Addr} {c : Nat} (hm : RMw w m A c) (hB : Below w.heap.size w w') : RMw w' m A c := (hm.keep (fun g hg => hB.block g hg) hB.size).mono (fun g hg => Nat.lt_of_lt_of_le hg hB.size)
/-- a method's i-th argument -/
theorem RM.elem {w : World} {m : Mt} {A : Option Addr} {c : Nat} (hm : RMw w m A c) {i : Nat} (hi : i < m.args.length) : ∃ b off hx, A = some ⟨b, off, none⟩ ∧ RAw w m.args[i] hx ∧ ∀ W, Below w.heap.size w W → ∀ j u, (agC (m.args[i], hx))[j]? = some u → W.cell? ⟨b, off + i * 12 + j, none⟩ = some u := by
 obtain ⟨_, _, ⟨xs, e, h1, h2⟩, _⟩ := hm
 obtain ⟨b, off, hA, hb, hl, hc⟩ := rec_at agShape h1.1 hi
 have hmm : xs[i] ∈ xs := List.getElem_mem hl
 have hx : xs[i].1 = m.args[i] := by
  have : (xs.map (·.1))[i]'(by simpa using hl) = m.args[i] := by simp only [e]
  simpa using this
 refine ⟨b, off, xs[i].2, hA, hx ▸ h2 _ hmm, fun W hW => ?_⟩
 rw [← hx]
 exact fun j u hu => (hW.cell hb).trans (hc j u hu)
section
variable {H : Type} {enc : TypeId × Value → H} {W : World}
def RArg (W : World) (a : Ag) (cs : List Value) : Prop := ∃ h, cs = agC (a, h) ∧ RAw W a h
set_option maxRecDepth 20000 in
theorem reader_arg : Reader enc Tryz.prog W 71 (RArg W) := fun fuel cs d p h hw => by
 obtain ⟨hl, hf⟩ := trod_field Tryz.underlying71 h hw
 obtain ⟨b0, h0⟩ := hf 0 _ rfl (reader_bool Tryz.underlying4)
 obtain ⟨n1, h1, w1⟩ := hf 1 _ rfl (reader_int (k := .u64) Tryz.underlying63)
 obtain ⟨l2, h2, w2⟩ := hf 2 _ rfl (reader_str Tryz.underlying9)
 obtain ⟨x3, h3, w3⟩ := hf 3 _ rfl reader_xid
 obtain ⟨L4, A4, n4, c4, xs4, h4, r4, e4, b4, f4⟩ := hf 4 _ rfl (reader_slice Tryz.underlying64 (by kernel_rfl : Tryz.prog.cellsOf 132 = 2) (by kernel_rfl : Tryz.prog.bytesOf 132 = 8) (by omega) reader_span)
 obtain ⟨v5, vh, h5, r5⟩ := hf 5 _ rfl reader_val
 have k1 := bounds_u64 w1
 rw [(by kernel_rfl : Tryz.prog.cellsOf 71 = 12)] at hl
 obtain ⟨m1, rfl⟩ : ∃ m : Nat, n1 = (m : Int) := ⟨n1.toNat, by omega⟩
 subst e4
 obtain ⟨t1, t2⟩ := spCells_of L4 xs4 (by rw [r4.len]) f4
 subst t1
 refine ⟨⟨b0, m1, l2, x3, L4, v5⟩, ⟨A4, c4, vh⟩, ?_, ⟨by show m1 < _; omega, w2, w3, rdx_of r4, t2, by show L4.length ≤ _; have := r4.cap; omega, r5⟩⟩
 have q0 : (cs.drop 0).take 1 = [.bool b0] := h0
 have q1 : (cs.drop 1).take 1 = [.int .u64 (m1 : Int)] := h1
 have q2 : (cs.drop 2).take 1 = [.string (str l2)] := h2
 have q3 : (cs.drop 3).take 3 = [.int .u32 (x3.fmt : Int), .string (str x3.glob), .string (str x3.bran)] := h3
 have q4 : (cs.drop 6).take 1 = [.slice A4 L4.length c4] := h4
 have q5 : (cs.drop 7).take 5 = vlC (v5, vh) := h5
 unfold vlC at q5
 clear h0 h1 h2 h3 h4 h5 hf hw h
 match cs, hl with
 | [c0, c1, c2, c3, c4', c5, c6, c7, c8, c9, c10, c11], _ =>
  simp at q0 q1 q2 q3 q4 q5
  obtain ⟨rfl, rfl, rfl⟩ := q3
  obtain ⟨rfl, rfl, rfl, rfl, rfl⟩ := q5
  subst q0 q1 q2 q4
  rfl
theorem rows_arg {xs : List Value} {L : List Ag} (hl : xs.length = L.length * 12) (h : ∀ i (h : i < L.length), RArg W L[i] ((xs.drop (i * 12)).take 12)) : ∃ ys : List (Ag × AH), ys.map (·.1) = L ∧ xs = rowC agC ys ∧ ∀ p ∈ ys, RAw W p.1 p.2 :=
 rows_pairs (f := agC) (sz := 12) (Q := fun a h => RAw W a h) L xs hl h
end
end Go.PH
end
section
/- '==' of arguments and of methods: the walks of the program. -/
namespace Go.PH
open Go.RowKit Go.Proofs

def sameA (a b : Ag) : Bool := decide (a.is = b.is) && decide (a.n = b.n) && decide (a.s = b.s) && decide (a.x = b.x) && decide (a.q = b.q) && sameV a.v b.v
def sameAs : List Ag → List Ag → Bool
 | [], [] => true
 | x :: l, y :: m => sameA x y && sameAs l m
 | _, _ => false
def sameM (a b : Mt) : Bool := decide (a.cls = b.cls) && decide (a.code = b.code) && decide (a.sync = b.sync) && sameAs a.args b.args
theorem sameAs_cons (x y : Ag) (l m : List Ag) : sameAs (x :: l) (y :: m) = (sameA x y && sameAs l m) := by rw [sameAs]
theorem sameAs_len : ∀ {l m : List Ag}, l.length ≠ m.length → sameAs l m = false
 | [], [], h => absurd rfl h
 | [], _ :: _, _ => by simp [sameAs]
 | _ :: _, [], _ => by simp [sameAs]
 | x :: l, y :: m, h => by rw [sameAs_cons, sameAs_len (by simpa using h)]; simp
theorem sameA_iff (a b : Ag) : sameA a b = true ↔ a = b := by
 obtain ⟨a1, a2, a3, a4, a5, a6⟩ := a
 obtain ⟨b1, b2, b3, b4, b5, b6⟩ := b
 unfold sameA
 simp only [Bool.and_eq_true, decide_eq_true_eq, sameV_iff, Ag.mk.injEq]
 constructor
 ·rintro ⟨⟨⟨⟨⟨a, b⟩, c⟩, d⟩, e⟩, f⟩; exact ⟨a, b, c, d, e, f⟩
 ·rintro ⟨a, b, c, d, e, f⟩; exact ⟨⟨⟨⟨⟨a, b⟩, c⟩, d⟩, e⟩, f⟩
theorem sameAs_iff : ∀ (l m : List Ag), sameAs l m = true ↔ l = m
 | [], [] => by simp [sameAs]
 | [], _ :: _ => by simp [sameAs]
 | _ :: _, [] => by simp [sameAs]
 | x :: l, y :: m => by rw [sameAs_cons, Bool.and_eq_true, sameA_iff, sameAs_iff l m, List.cons.injEq]
theorem sameM_iff (a b : Mt) : sameM a b = true ↔ a = b := by
 obtain ⟨a1, a2, a3, a4⟩ := a
 obtain ⟨b1, b2, b3, b4⟩ := b
 unfold sameM
 simp only [Bool.and_eq_true, decide_eq_true_eq, sameAs_iff, Mt.mk.injEq]
 constructor
 ·rintro ⟨⟨⟨a, b⟩, c⟩, d⟩; exact ⟨a, b, c, d⟩
 ·rintro ⟨a, b, c, d⟩; exact ⟨⟨⟨a, b⟩, c⟩, d⟩
set_option maxRecDepth 20000 in
theorem eqspan_any (A : Option Addr) (n c : Nat) (l : List Sp) (A' : Option Addr) (n' c' : Nat) (l' : List Sp) (B : Nat) (w : World) (hr : RdS w B A n c l) (hr' : RdS w B A' n' c' l') (hB : B ≤ w.heap.size) (hn : n ≤ 140737488355328) (hn' : n' ≤ 140737488355328) :
  Calls Tryz.prog 62 #[.slice A n c, .slice A' n' c'] w fun e w' => e = .returned (.bool (decide (l = l'))) ∧ Below w.heap.size w w' := by
 have hl := hr.length
 have hl' := hr'.length
 by_cases hnn : n = n'
 ·subst hnn
  have h0 : (((n : Nat) : Int) != ((n : Nat) : Int)) = false := by simp
  go_enter Tryz.func62, Tryz.ntmps62
  go_wp2_with (with_reducible refine h_A ?_)
  go_loopw [13] (fun s wr => ∃ (k : Nat), k ≤ n ∧ s = .int .i64 k ∧ l.take k = l'.take k ∧ Below w.heap.size w wr) (fun s _ => n - (RowKit.intOf s).toNat)
  case atStart => exact ⟨0, by omega, rfl, by simp, Below.refl _ _⟩
  case round =>
   obtain ⟨k, hk, rfl, hrk, hBr⟩ := hrel
   by_cases hlt : k < n
   ·obtain ⟨b, off, rfl, hbB, hkl, hc0, hc1⟩ := RdS.at_k (hr.below (hBr.mono hB)) hlt
    obtain ⟨b', off', rfl, hbB', hkl', hc0', hc1'⟩ := RdS.at_k (hr'.below (hBr.mono hB)) hlt
    have HT := Lib.hid (List.take_succ_eq_append_getElem hkl)
    have HT' := Lib.hid (List.take_succ_eq_append_getElem hkl')
    have HE : Hid (l = l' → l[k] = l'[k]) := Lib.hid (fun h => by subst h; rfl)
    have HK := Lib.hid hrk
    clear hrk
    generalize l[k] = x at *
    generalize l'[k] = x' at *
    obtain ⟨f, t⟩ := x
    obtain ⟨f', t'⟩ := x'
    have hgd := fun x y => run_eqGuard_agg (P := Tryz.prog) wr .neq 132 x y #[.int .u32 f, .int .u32 t] #[.int .u32 f', .int .u32 t'] span_guard
    by_cases hxx : (f, t) = (f', t')
    ·have hne : ∀ w, (binOp .neq 132 (.agg #[.int .u32 f, .int .u32 t]) (.agg #[.int .u32 f', .int .u32 t'])).run Tryz.prog w = .ok (.bool false) w := fun w => by rw [span_neq, decide_eq_true hxx]; rfl
     have hy : l.take (k + 1) = l'.take (k + 1) := by rw [HT.out, HT'.out, HK.out, hxx]
     clear hxx
     go_wp2_with (with_reducible refine h_A ?_)
     go_quiet (fail)
     go_wp2_with (with_reducible refine h_A ?_)
     exact ⟨⟨k + 1, by omega, by go_num, hy, below_drewN hBr _⟩, by simp [RowKit.intOf]; omega⟩
    ·have hne : ∀ w, (binOp .neq 132 (.agg #[.int .u32 f, .int .u32 t]) (.agg #[.int .u32 f', .int .u32 t'])).run Tryz.prog w = .ok (.bool true) w := fun w => by rw [span_neq, decide_eq_false hxx]; rfl
     have hno : decide (l = l') = false := by
      have := HE.out
      simp only [decide_eq_false_iff_not]
      exact fun h => hxx (this h)
     clear hxx
     go_wp2_with (with_reducible refine h_A ?_)
     go_quiet (fail)
     go_wp2_with (with_reducible refine h_A ?_)
     go_ret
     rw [hno]
     exact ⟨rfl, below_drewN hBr _⟩
   ·obtain rfl : k = n := by omega
    rw [← hl, List.take_length, hl, ← hl', List.take_length] at hrk
    subst hrk
    go_wp2_with (with_reducible refine h_A ?_)
    go_ret
    exact ⟨by simp, hBr⟩
 ·have h0 : (((n : Nat) : Int) != ((n' : Nat) : Int)) = true := by simp; omega
  have hne : decide (l = l') = false := by
   simp; rintro rfl; omega
  go_enter Tryz.func62, Tryz.ntmps62
  go_wp2_with (with_reducible refine h_A ?_)
  go_ret
  rw [hne]
  exact ⟨rfl, Below.refl _ _⟩
set_option maxRecDepth 20000 in
set_option maxHeartbeats 1000000 in
theorem msameA_any (a b : Ag) (h k : AH) (w : World) (ha : RAw w a h) (hb : RAw w b k) : Calls Tryz.prog 32 #[.agg (agV a h), .agg (agV b k)] w fun e w' => e = .returned (.bool (sameA a b)) ∧ Below w.heap.size w w' := by
 unfold agV
 obtain ⟨xb, w1, hxb, hxv, hX, hB1⟩ := alloc_stepV w #[.bool a.is, .int .u64 (a.n : Int), .string (str a.s), .int .u32 (a.x.fmt : Int), .string (str a.x.glob), .string (str a.x.bran), .slice h.A a.q.length h.c, .int .u8 (a.v.kind : Int), .int .u64 (a.v.n : Int), .string (str a.v.s), .slice h.h.A1 a.v.keys.length h.h.c1, .slice h.h.A2 a.v.list.length h.h.c2] 71
 obtain ⟨yb, w2, hyb, hyv, hY, hB2⟩ := alloc_stepV w1 #[.bool b.is, .int .u64 (b.n : Int), .string (str b.s), .int .u32 (b.x.fmt : Int), .string (str b.x.glob), .string (str b.x.bran), .slice k.A b.q.length k.c, .int .u8 (b.v.kind : Int), .int .u64 (b.v.n : Int), .string (str b.v.s), .slice k.h.A1 b.v.keys.length k.h.c1, .slice k.h.A2 b.v.list.length k.h.c2] 71
 have hyb' : xb + 1 = yb := by rw [hyb, hxv, hxb]; simp
 have hB := hB1.trans (hB2.mono hB1.size)
 have hX2 := hX.below hB2
 have ha2 := ha.up hB
 have hb2 := hb.up hB
 have c_0 := hX2.c0
 have c_1 := hX2.c1
 have c_2 := hX2.c2
 have c_3 := hX2.c3
 have c_4 := hX2.c4
 have c_5 := hX2.c5
 have c_6 := hX2.c6
 have c_7 := hX2.c7
 have c_8 := hX2.c8
 have c_9 := hX2.c9
 have c_10 := hX2.c10
 have c_11 := hX2.c11
 have d_0 := hY.c0
 have d_1 := hY.c1
 have d_2 := hY.c2
 have d_3 := hY.c3
 have d_4 := hY.c4
 have d_5 := hY.c5
 have d_6 := hY.c6
 have d_7 := hY.c7
 have d_8 := hY.c8
 have d_9 := hY.c9
 have d_10 := hY.c10
 have d_11 := hY.c11
 have hst := strs_eq a.s b.s
 have hst2 : ((str a.s).toList != (str b.s).toList) = !decide (a.s = b.s) := by rw [bne, strs_eq]
 have heqx := fun w => xid_eqlM a.x b.x w
 unfold xdV at heqx
 have hgd := fun x y => run_eqGuard_agg (P := Tryz.prog) w2 .eql 58 x y #[.int .u32 (a.x.fmt : Int), .string (str a.x.glob), .string (str a.x.bran)] #[.int .u32 (b.x.fmt : Int), .string (str b.x.glob), .string (str b.x.bran)] xid_guard
 have hsq := eqspan_any h.A a.q.length h.c a.q k.A b.q.length k.c b.q w2.heap.size w2 ha2.q.1 hb2.q.1 (Nat.le_refl _) (by have := ha2.c; omega) (by have := hb2.c; omega)
 have hsv := fun (W : World) (hW : Below w2.heap.size w2 W) => vsame_any a.v b.v h.h k.h W (ha2.v.up hW) (hb2.v.up hW)
 have HS : Hid (sameA a b = (decide (a.is = b.is) && decide (a.n = b.n) && decide (a.s = b.s) && decide (a.x = b.x) && decide (a.q = b.q) && sameV a.v b.v)) := Lib.hid rfl
 unfold vlV SameR at hsv
 clear hyb hX ha hb ha2 hb2 hB1 hB2
 by_cases h1 : a.is = b.is
 ·have g1 : (a.is == b.is) = true := by simp [h1]
  by_cases h2 : a.n = b.n
  ·have g2 : ((a.n : Int) == (b.n : Int)) = true := by simp [h2]
   by_cases h3 : a.s = b.s
   ·rw [decide_eq_true h3] at hst hst2
    simp only [Bool.not_true] at hst2
    by_cases h4 : a.x = b.x
    ·simp only [decide_eq_true h4] at heqx
     by_cases h5 : a.q = b.q
     ·simp only [decide_eq_true h5] at hsq
      have HF : Hid (sameA a b = sameV a.v b.v) := Lib.hid (by rw [HS.out]; simp [h1, h2, h3, h4, h5])
      clear h1 h2 h3 h4 h5 HS
      go_enter Tryz.func32, Tryz.ntmps32
      go_upto_region 1 with fail
      rw [← hxb, ← hxv, hyb', ← hyv]
      clear hxb hxv hyb' hyv
      go_wp2_with (with_reducible refine h_A ?_)
      refine hsq.mono ?_
      rintro e w3 ⟨rfl, hB3⟩
      have hsv3 := hsv w3 hB3
      have hX3 := hX2.below hB3
      have hY3 := hY.below hB3
      have hBB := hB.trans (hB3.mono hB.size)
      clear c_0 c_1 c_2 c_3 c_4 c_5 c_6 c_7 c_8 c_9 c_10 c_11
      clear d_0 d_1 d_2 d_3 d_4 d_5 d_6 d_7 d_8 d_9 d_10 d_11
      clear hsq hsv
      have c_0 := hX3.c0
      have c_1 := hX3.c1
      have c_2 := hX3.c2
      have c_3 := hX3.c3
      have c_4 := hX3.c4
      have c_5 := hX3.c5
      have c_6 := hX3.c6
      have c_7 := hX3.c7
      have c_8 := hX3.c8
      have c_9 := hX3.c9
      have c_10 := hX3.c10
      have c_11 := hX3.c11
      have d_0 := hY3.c0
      have d_1 := hY3.c1
      have d_2 := hY3.c2
      have d_3 := hY3.c3
      have d_4 := hY3.c4
      have d_5 := hY3.c5
      have d_6 := hY3.c6
      have d_7 := hY3.c7
      have d_8 := hY3.c8
      have d_9 := hY3.c9
      have d_10 := hY3.c10
      have d_11 := hY3.c11
      generalize sameV a.v b.v = r at *
      go_wp2_with (with_reducible refine h_A ?_)
      refine hsv3.mono ?_
      rintro e w4 ⟨rfl, hB4⟩
      clear c_0 c_1 c_2 c_3 c_4 c_5 c_6 c_7 c_8 c_9 c_10 c_11
      clear d_0 d_1 d_2 d_3 d_4 d_5 d_6 d_7 d_8 d_9 d_10 d_11
      clear hsv3
      go_wp2_with (with_reducible refine h_A ?_)
      go_ret
      rw [HF.out]
      exact ⟨rfl, hBB.trans (hB4.mono hBB.size)⟩
     ·simp only [decide_eq_false h5] at hsq
      have HF : Hid (sameA a b = false) := Lib.hid (by rw [HS.out]; simp [h5])
      clear h1 h2 h3 h4 h5 HS hsv
      go_enter Tryz.func32, Tryz.ntmps32
      go_upto_region 1 with fail
      rw [← hxb, ← hxv, hyb', ← hyv]
      clear hxb hxv hyb' hyv
      go_wp2_with (with_reducible refine h_A ?_)
      refine hsq.mono ?_
      rintro e w3 ⟨rfl, hB3⟩
      clear c_0 c_1 c_2 c_3 c_4 c_5 c_6 c_7 c_8 c_9 c_10 c_11
      clear d_0 d_1 d_2 d_3 d_4 d_5 d_6 d_7 d_8 d_9 d_10 d_11
      clear hsq
      go_wp2_with (with_reducible refine h_A ?_)
      go_ret
      rw [HF.out]
      exact ⟨rfl, hB.trans (hB3.mono hB.size)⟩
    ·simp only [decide_eq_false h4] at heqx
     have HF : Hid (sameA a b = false) := Lib.hid (by rw [HS.out]; simp [h4])
     clear h1 h2 h3 h4 HS hsv hsq
     go_enter Tryz.func32, Tryz.ntmps32
     go_upto_region 1 with fail
     rw [← hxb, ← hxv, hyb', ← hyv]
     clear hxb hxv hyb' hyv
     go_wp2_with (with_reducible refine h_A ?_)
     go_ret
     rw [HF.out]
     exact ⟨rfl, hB⟩
   ·rw [decide_eq_false h3] at hst hst2
    simp only [Bool.not_false] at hst2
    have HF : Hid (sameA a b = false) := Lib.hid (by rw [HS.out]; simp [h3])
    clear h1 h2 h3 HS hsv hsq heqx hgd
    go_enter Tryz.func32, Tryz.ntmps32
    go_upto_region 1 with fail
    rw [← hxb, ← hxv, hyb', ← hyv]
    clear hxb hxv hyb' hyv
    go_wp2_with (with_reducible refine h_A ?_)
    go_ret
    rw [HF.out]
    exact ⟨rfl, hB⟩
  ·have g2 : ((a.n : Int) == (b.n : Int)) = false := by simp; omega
   have HF : Hid (sameA a b = false) := Lib.hid (by rw [HS.out]; simp [h2])
   clear h1 h2 HS hsv hsq heqx hgd
   go_enter Tryz.func32, Tryz.ntmps32
   go_upto_region 1 with fail
   rw [← hxb, ← hxv, hyb', ← hyv]
   clear hxb hxv hyb' hyv
   go_wp2_with (with_reducible refine h_A ?_)
   go_ret
   rw [HF.out]
   exact ⟨rfl, hB⟩
 ·have g1 : (a.is == b.is) = false := by simpa using h1
  have HF : Hid (sameA a b = false) := Lib.hid (by rw [HS.out]; simp [h1])
  clear h1 HS hsv hsq heqx hgd
  go_enter Tryz.func32, Tryz.ntmps32
  go_upto_region 1 with fail
  rw [← hxb, ← hxv, hyb', ← hyv]
  clear hxb hxv hyb' hyv
  go_wp2_with (with_reducible refine h_A ?_)
  go_ret
  rw [HF.out]
  exact ⟨rfl, hB⟩
end Go.PH
end

/- Texts laid together: MdArg, LkCtl0, MdSameG. -/
import Derived.BigQuiet
import Derived.Test.YtfbkameikhgciaaGreatDoorMg08
import Derived.Test.YtfbkameikhgciaaGreatDoorMg12
import Derived.Test.YtfbkameikhgciaaGreatDoorMg21
import Derived.Test.YtfbkameikhgciaaGreatDoorMg25
import Derived.Test.YtfbkameikhgciaaGreatDoorMg27
set_option linter.all false
set_option linter.unusedSimpArgs false
set_option linter.unusedVariables false
set_option maxRecDepth 20000
set_option maxHeartbeats 8000000
section
namespace Go.PH
open Go.RowKit Go.Proofs Go.ChangeShapes Go.WideShapes Go.ChangeAt Go.Deep
structure Ag where
 is : Bool
 n : Nat
 s : List UInt8
 x : Xd
 q : List Sp
 v : Vl
structure AH where
 A : Option Addr
 c : Nat
 h : VH
def agC (p : Ag × AH) : List Value := [.bool p.1.is, .int .u64 (p.1.n : Int), .string (str p.1.s), .int .u32 (p.1.x.fmt : Int), .string (str p.1.x.glob), .string (str p.1.x.bran), .slice p.2.A p.1.q.length p.2.c,
 .int .u8 (p.1.v.kind : Int), .int .u64 (p.1.v.n : Int), .string (str p.1.v.s), .slice p.2.h.A1 p.1.v.keys.length p.2.h.c1, .slice p.2.h.A2 p.1.v.list.length p.2.h.c2]
def agV (a : Ag) (h : AH) : Array Value := #[.bool a.is, .int .u64 (a.n : Int), .string (str a.s), .int .u32 (a.x.fmt : Int), .string (str a.x.glob), .string (str a.x.bran), .slice h.A a.q.length h.c,
 .int .u8 (a.v.kind : Int), .int .u64 (a.v.n : Int), .string (str a.v.s), .slice h.h.A1 a.v.keys.length h.h.c1, .slice h.h.A2 a.v.list.length h.h.c2]
theorem QY : RecShape agC 12 where
 len _ := rfl
 one a u hu := by simp [agC] at hu; rcases hu with rfl | rfl | rfl | rfl | rfl | rfl | rfl | rfl | rfl | rfl | rfl | rfl <;> rfl
 pos := by omega
structure RA (w : World) (F : Nat → Prop) (a : Ag) (h : AH) : Prop where
 n : a.n < 18446744073709551616
 s : a.s.length ≤ 140737488351232
 x : a.x.wf
 q : RdX w F 2 h.A a.q.length h.c (ya a.q)
 ok : spOK 4294967296 a.q
 c : a.q.length ≤ 140737488351232
 v : RV w F a.v h.h
theorem RA.keep {w w' : World} {F : Nat → Prop} {a : Ag} {h : AH} (ha : RA w F a h) (hk : ∀ g, F g → w'.heap[g]? = w.heap[g]?) (hs : w.heap.size ≤ w'.heap.size) : RA w' F a h := ⟨ha.n, ha.s, ha.x, ha.q.keep hk hs, ha.ok, ha.c, ha.v.keep hk hs⟩
theorem RA.mono {w : World} {F G : Nat → Prop} {a : Ag} {h : AH} (ha : RA w F a h) (hF : ∀ g, F g → G g) : RA w G a h := ⟨ha.n, ha.s, ha.x, ha.q.mono hF, ha.ok, ha.c, ha.v.mono hF⟩
abbrev RAw (w : World) (a : Ag) (h : AH) : Prop := RA w (fun g => g < w.heap.size) a h
theorem RA.up {w w' : World} {a : Ag} {h : AH} (ha : RAw w a h) (hB : Below w.heap.size w w') : RAw w' a h := (ha.keep (fun g hg => hB.block g hg) hB.size).mono (fun g hg => Nat.lt_of_lt_of_le hg hB.size)
structure Mt where
 cls : Nat
 code : Nat
 sync : Bool
 args : List Ag
structure RM (w : World) (F : Nat → Prop) (m : Mt) (A : Option Addr) (c : Nat) : Prop where
 cls : m.cls < 256
 code : m.code < 256
 row : ∃ xs : List (Ag × AH), xs.map (·.1) = m.args ∧ RdX w F 12 A m.args.length c (rowC agC xs) ∧ ∀ p ∈ xs, RA w F p.1 p.2
 c : m.args.length ≤ 140737488351232
def mtV (m : Mt) (A : Option Addr) (c : Nat) : Array Value := #[.int .u8 (m.cls : Int), .int .u8 (m.code : Int), .bool m.sync, .slice A m.args.length c]
theorem RM.keep {w w' : World} {F : Nat → Prop} {m : Mt} {A : Option Addr} {c : Nat} (hm : RM w F m A c) (hk : ∀ g, F g → w'.heap[g]? = w.heap[g]?) (hs : w.heap.size ≤ w'.heap.size) : RM w' F m A c := by
 obtain ⟨h1, h2, ⟨xs, e, h3, h4⟩, h5⟩ := hm
 exact ⟨h1, h2, ⟨xs, e, h3.keep hk hs, fun p hp => (h4 p hp).keep hk hs⟩, h5⟩
theorem RM.mono {w : World} {F G : Nat → Prop} {m : Mt} {A : Option Addr} {c : Nat} (hm : RM w F m A c) (hF : ∀ g, F g → G g) : RM w G m A c := by
 obtain ⟨h1, h2, ⟨xs, e, h3, h4⟩, h5⟩ := hm
 exact ⟨h1, h2, ⟨xs, e, h3.mono hF, fun p hp => (h4 p hp).mono hF⟩, h5⟩
abbrev RMw (w : World) (m : Mt) (A : Option Addr) (c : Nat) : Prop := RM w (fun g => g < w.heap.size) m A c
theorem RM.up {w w' : World} {m : Mt} {A : Option Addr} {c : Nat} (hm : RMw w m A c) (hB : Below w.heap.size w w') : RMw w' m A c := (hm.keep (fun g hg => hB.block g hg) hB.size).mono (fun g hg => Nat.lt_of_lt_of_le hg hB.size)
theorem RM.elem {w : World} {m : Mt} {A : Option Addr} {c : Nat} (hm : RMw w m A c) {i : Nat} (hi : i < m.args.length) : ∃ b off hx, A = some ⟨b, off, none⟩ ∧ RAw w m.args[i] hx ∧ ∀ W, Below w.heap.size w W → ∀ j u, (agC (m.args[i], hx))[j]? = some u → W.cell? ⟨b, off + i * 12 + j, none⟩ = some u := by
 obtain ⟨_, _, ⟨xs, e, h1, h2⟩, _⟩ := hm
 obtain ⟨b, off, hA, hb, hl, hc⟩ := xW QY h1.1 hi
 have hmm : xs[i] ∈ xs := List.getElem_mem hl
 have hx : xs[i].1 = m.args[i] := by
  have : (xs.map (·.1))[i]'(by simpa using hl) = m.args[i] := by simp only [e]
  simpa using this
 refine ⟨b, off, xs[i].2, hA, hx ▸ h2 _ hmm, fun W hW => ?_⟩
 rw [← hx]
 exact fun j u hu => (hW.cell hb).trans (hc j u hu)
section
variable {H : Type} {enc : TypeId × Value → H} {W : World}
end
end Go.PH
end
section
namespace Go.PH
open Go.RowKit Go.Proofs
section
variable {w : World} {B : Nat} {U T : Nat → Prop} {lb n : Nat} {RA : Option Addr} {rn rc : Nat} {L : LS}
theorem LkM.setSt (h : LkM w B U T lb n RA rn rc L) (v : Nat) : LkM (w.setCell ⟨lb, 0, none⟩ (.int .u8 (v : Int))) B U T lb n RA rn rc { L with st := v } := by
 have hg := yv w lb 0 (.int .u8 v)
 have hk : KeepF (fun k => k = lb) w (w.setCell ⟨lb, 0, none⟩ (.int .u8 v)) := .grown hg (fun g e => .inl (by injection e with e; exact e.symm))
 obtain ⟨gp, p, SA, sc, TT, tc, th, F, h1, h2, h3, h4, h5, h6, h7, h8, h9, h10, h11⟩ := h.ex
 exact ⟨⟨gp, p, SA, sc, TT, tc, th, F, xt h1 _, h2, zq h3 hk (fun b e => (h9 b e).2.1), zq h4 hk (fun b e => (h10 b e).2.1), h5, fun x hx => ⟨zq (h6 x hx).1 hk (fun b e e2 => h.ut b ((h6 x hx).2 b e) (e2 ▸ h.lb)), (h6 x hx).2⟩,
  h7.keep (fun k hF => hk.2.1 k (h7.lt k hF) (fun e => h11 (e ▸ hF))) hk.1, h8, h9, h10, h11⟩, h.lb, Nat.le_trans h.size hk.1, fun b hb => ⟨(h.uB b hb).1, Nat.lt_of_lt_of_le (h.uB b hb).2 hk.1⟩, fun b hb => Nat.lt_of_lt_of_le (h.tB b hb) hk.1, h.ut⟩
theorem LkM.setCh (h : LkM w B U T lb n RA rn rc L) (v : Nat) : LkM (w.setCell ⟨lb, 3, none⟩ (.int .u64 (v : Int))) B U T lb n RA rn rc { L with ch := v } := by
 have hg := yv w lb 3 (.int .u64 v)
 have hk : KeepF (fun k => k = lb) w (w.setCell ⟨lb, 3, none⟩ (.int .u64 v)) := .grown hg (fun g e => .inl (by injection e with e; exact e.symm))
 obtain ⟨gp, p, SA, sc, TT, tc, th, F, h1, h2, h3, h4, h5, h6, h7, h8, h9, h10, h11⟩ := h.ex
 exact ⟨⟨gp, p, SA, sc, TT, tc, th, F, xt h1 _, h2, zq h3 hk (fun b e => (h9 b e).2.1), zq h4 hk (fun b e => (h10 b e).2.1), h5, fun x hx => ⟨zq (h6 x hx).1 hk (fun b e e2 => h.ut b ((h6 x hx).2 b e) (e2 ▸ h.lb)), (h6 x hx).2⟩,
  h7.keep (fun k hF => hk.2.1 k (h7.lt k hF) (fun e => h11 (e ▸ hF))) hk.1, h8, h9, h10, h11⟩, h.lb, Nat.le_trans h.size hk.1, fun b hb => ⟨(h.uB b hb).1, Nat.lt_of_lt_of_le (h.uB b hb).2 hk.1⟩, fun b hb => Nat.lt_of_lt_of_le (h.tB b hb) hk.1, h.ut⟩
theorem LkM.setSz (h : LkM w B U T lb n RA rn rc L) (v : Nat) : LkM (w.setCell ⟨lb, 4, none⟩ (.int .u64 (v : Int))) B U T lb n RA rn rc { L with sz := v } := by
 have hg := yv w lb 4 (.int .u64 v)
 have hk : KeepF (fun k => k = lb) w (w.setCell ⟨lb, 4, none⟩ (.int .u64 v)) := .grown hg (fun g e => .inl (by injection e with e; exact e.symm))
 obtain ⟨gp, p, SA, sc, TT, tc, th, F, h1, h2, h3, h4, h5, h6, h7, h8, h9, h10, h11⟩ := h.ex
 exact ⟨⟨gp, p, SA, sc, TT, tc, th, F, xt h1 _, h2, zq h3 hk (fun b e => (h9 b e).2.1), zq h4 hk (fun b e => (h10 b e).2.1), h5, fun x hx => ⟨zq (h6 x hx).1 hk (fun b e e2 => h.ut b ((h6 x hx).2 b e) (e2 ▸ h.lb)), (h6 x hx).2⟩,
  h7.keep (fun k hF => hk.2.1 k (h7.lt k hF) (fun e => h11 (e ▸ hF))) hk.1, h8, h9, h10, h11⟩, h.lb, Nat.le_trans h.size hk.1, fun b hb => ⟨(h.uB b hb).1, Nat.lt_of_lt_of_le (h.uB b hb).2 hk.1⟩, fun b hb => Nat.lt_of_lt_of_le (h.tB b hb) hk.1, h.ut⟩
theorem LStep.set {w0 : World} (h : LStep w0 B U T lb n RA rn rc L w) (hlb : U lb) (j : Nat) (v : Value) {L2 : LS} (hL : ∀ U' T', LkM w B U' T' lb n RA rn rc L → LkM (w.setCell ⟨lb, j, none⟩ v) B U' T' lb n RA rn rc L2) : LStep w0 B U T lb n RA rn rc L2 (w.setCell ⟨lb, j, none⟩ v) := by
 obtain ⟨U', T', h1, h2, h3, h4⟩ := h
 exact ⟨U', T', hL _ _ h1, h2.trans (KeepF.grown (F := fun k => k = lb) (yv w lb j v) (fun g e => .inl (by injection e with e; exact e.symm))) (fun k e => .inl (e ▸ hlb)), h3, h4⟩
end
theorem ZU (m : Mt) (A : Option Addr) (c : Nat) {w : World} {B : Nat} {U T : Nat → Prop} {lb n : Nat} {RA : Option Addr} {rn rc : Nat} {L : LS} (h : LkM w B U T lb n RA rn rc L) (he : MEnv w) (hsz : L.sz ≤ 1000000) (hs : L.sent.length ≤ 10000000000) :
  Calls Tryz.prog 83 #[.pointer (some ⟨lb, 0, none⟩), .agg (mtV m A c)] w fun e w' => e = .returned (.tuple #[]) ∧ LStep w B U T lb n RA rn rc { L.send QA with st := 2 } w' := by
 unfold mtV
 obtain ⟨xb, w0, hqb, hqv, hX, hB0⟩ := zr w #[.int .u8 (m.cls : Int), .int .u8 (m.code : Int), .bool m.sync, .slice A m.args.length c] 106
 have ha1 : ∀ W, Calls Tryz.prog 37 #[.int .u64 255, .string ⟨#[]⟩] W fun e w' => e = .returned (.agg #[.bool true, .int .u64 255, .string ⟨#[]⟩, .int .u32 0, .string ⟨#[]⟩, .string ⟨#[]⟩, .slice none 0 0, .int .u8 0, .int .u64 0, .string ⟨#[]⟩, .slice none 0 0, .slice none 0 0]) ∧ Below W.heap.size W w' := fun W => jo 255 [] W
 have ha2 : ∀ W, Calls Tryz.prog 37 #[.int .u64 4096, .string ⟨#[]⟩] W fun e w' => e = .returned (.agg #[.bool true, .int .u64 4096, .string ⟨#[]⟩, .int .u32 0, .string ⟨#[]⟩, .string ⟨#[]⟩, .slice none 0 0, .int .u8 0, .int .u64 0, .string ⟨#[]⟩, .slice none 0 0, .slice none 0 0]) ∧ Below W.heap.size W w' := fun W => jo 4096 [] W
 go_enter Tryz.func83, Tryz.ntmps83
 go_upto_region 1 with fail
 rw [← hqb, ← hqv]
 clear hqb hqv hX
 go_wp2_with (with_reducible refine h_A ?_)
 (with_reducible refine (ha1 _).mono ?_)
 rintro e w1 ⟨rfl, hB1⟩
 go_wp2_with (with_reducible refine h_A ?_)
 (with_reducible refine (ha2 _).mono ?_)
 rintro e w2 ⟨rfl, hB2⟩
 have hB3 := hB0.trans ((hB1.trans (hB2.mono hB1.size)).mono hB0.size)
 clear ha1 ha2
 obtain ⟨gb, w3, hqb, hqv, hG, hB23⟩ := zr w2 #[.bool true, .int .u64 255, .string ⟨#[]⟩, .int .u32 0, .string ⟨#[]⟩, .string ⟨#[]⟩, .slice none 0 0, .int .u8 0, .int .u64 0, .string ⟨#[]⟩, .slice none 0 0, .slice none 0 0, .bool true, .int .u64 4096, .string ⟨#[]⟩, .int .u32 0, .string ⟨#[]⟩, .string ⟨#[]⟩, .slice none 0 0, .int .u8 0, .int .u64 0, .string ⟨#[]⟩, .slice none 0 0, .slice none 0 0] 80
 have hlit := xe (w := w2) w2.heap.size #[.bool true, .int .u64 255, .string ⟨#[]⟩, .int .u32 0, .string ⟨#[]⟩, .string ⟨#[]⟩, .slice none 0 0, .int .u8 0, .int .u64 0, .string ⟨#[]⟩, .slice none 0 0, .slice none 0 0, .bool true, .int .u64 4096, .string ⟨#[]⟩, .int .u32 0, .string ⟨#[]⟩, .string ⟨#[]⟩, .slice none 0 0, .int .u8 0, .int .u64 0, .string ⟨#[]⟩, .slice none 0 0, .slice none 0 0] 80 2 (Nat.le_refl _) (by simp [maxLen]) (size := 12) rfl (by omega)
 rw [← hqv, ← hqb] at hlit
 have hra : Rd w3 w3.heap.size 12 (some ⟨gb, 0, none⟩) 2 2 (rowC saC [⟨true, 255, []⟩, ⟨true, 4096, []⟩]) := hlit.rd
 have hB4 := hB3.trans (hB23.mono hB3.size)
 have hsd := Yi 5 [⟨true, 255, []⟩, ⟨true, 4096, []⟩] QA ctl5 (by decide) (some ⟨gb, 0, none⟩) 2 2 (h.below hB4) (he.on hB4) hra hsz hs
 rw [show (((5 : Nat)) : Int) = 5 from rfl] at hsd
 clear hlit hra hG hB23 hB1 hB2
 go_wp2_with (with_reducible refine h_A ?_)
 rw [← hqb, ← hqv]
 clear hqb hqv
 (with_reducible refine hsd.mono ?_)
 rintro e w5 ⟨rfl, hst⟩
 clear hsd
 have hst0 := hst
 obtain ⟨U', T', hM, _, _, _⟩ := hst
 have c0 := hM.c0
 have c1 := hM.thaw 0
 clear hM
 go_wp2_with (with_reducible refine h_A ?_)
 go_end0
 exact ⟨rfl, (LStep.from hB4 hst0).set h.lb 0 _ (fun _ _ hM => hM.setSt 2)⟩
theorem Yw (m : Mt) (A : Option Addr) (c : Nat) {w : World} {B : Nat} {U T : Nat → Prop} {lb n : Nat} {RA : Option Addr} {rn rc : Nat} {L : LS} (h : LkM w B U T lb n RA rn rc L) (he : MEnv w) (hsz : L.sz ≤ 1000000) (hs : L.sent.length ≤ 10000000000) :
  Calls Tryz.prog 86 #[.pointer (some ⟨lb, 0, none⟩), .agg (mtV m A c)] w fun e w' => e = .returned (.tuple #[]) ∧ LStep w B U T lb n RA rn rc { L.send QC with st := 5 } w' := by
 unfold mtV
 obtain ⟨xb, w0, hqb, hqv, hX, hB0⟩ := zr w #[.int .u8 (m.cls : Int), .int .u8 (m.code : Int), .bool m.sync, .slice A m.args.length c] 106
 have hsd := Yi 12 [] QC zax (by decide) none 0 0 (h.below hB0) (he.on hB0) (Rd.nil _ _ _ _ (by simp [maxLen]) _) hsz hs
 rw [show (((12 : Nat)) : Int) = 12 from rfl] at hsd
 go_enter Tryz.func86, Tryz.ntmps86
 go_upto_region 1 with fail
 rw [← hqb, ← hqv]
 clear hqb hqv hX
 go_wp2_with (with_reducible refine h_A ?_)
 (with_reducible refine hsd.mono ?_)
 rintro e w5 ⟨rfl, hst⟩
 clear hsd
 have hst0 := hst
 obtain ⟨U', T', hM, _, _, _⟩ := hst
 have c0 := hM.c0
 have c1 := hM.thaw 0
 clear hM
 go_wp2_with (with_reducible refine h_A ?_)
 go_end0
 exact ⟨rfl, (LStep.from hB0 hst0).set h.lb 0 _ (fun _ _ hM => hM.setSt 5)⟩
def Zd : List UInt8 := [111, 112, 101, 110]
def jK : List UInt8 := [116, 117, 110, 101]
def LS.opened (L : LS) (s : List UInt8) : LS := if s ≠ [] ∧ s ≠ [47] then L.close 402 Zd else { L.send QB with st := 4 }
def LS.tuned (L : LS) (c f : Nat) : LS := if 255 < c ∨ f < 256 ∨ 4096 < f then L.close 501 jK else { L with ch := c, sz := f, st := 3 }
theorem Yx (m : Mt) (A : Option Addr) (c : Nat) {w : World} {B : Nat} {U T : Nat → Prop} {lb n : Nat} {RA : Option Addr} {rn rc : Nat} {L : LS} (h : LkM w B U T lb n RA rn rc L) (he : MEnv w) (hm : RMw w m A c) (hl : m.args.length = 1) (a : Ag) (ha : m.args[0]? = some a) (hsz : L.sz ≤ 1000000) (hs : L.sent.length ≤ 10000000000) :
  Calls Tryz.prog 85 #[.pointer (some ⟨lb, 0, none⟩), .agg (mtV m A c)] w fun e w' => e = .returned (.tuple #[]) ∧ LStep w B U T lb n RA rn rc (L.opened a.s) w' := by
 unfold mtV
 rw [hl]
 obtain ⟨ab, off, hx, rfl, ra, hc⟩ := hm.elem (i := 0) (by omega)
 have e0 : m.args[0] = a := by rw [List.getElem?_eq_getElem (by omega)] at ha; injection ha
 obtain ⟨xb, w0, hqb, hqv, hX, hB0⟩ := zr w #[.int .u8 (m.cls : Int), .int .u8 (m.code : Int), .bool m.sync, .slice (some ⟨ab, off, none⟩) 1 c] 106
 have z2 := hc w0 hB0 2 _ rfl
 rw [e0] at z2
 simp only [Nat.zero_mul, Nat.add_zero] at z2
 obtain ⟨s, hse⟩ : ∃ s, s = a.s := ⟨_, rfl⟩
 rw [← hse] at z2 ⊢
 clear hse hc ha e0 ra hm hl
 have hsd := Yi 8 [] QB ctl8 (by decide) none 0 0 (h.below hB0) (he.on hB0) (Rd.nil _ _ _ _ (by simp [maxLen]) _) hsz hs
 rw [show (((8 : Nat)) : Int) = 8 from rfl] at hsd
 have hen := qB 402 Zd (by decide) (by decide) (h.below hB0) (he.on hB0) hsz hs
 rw [show ((402 : Nat) : Int) = 402 from rfl, show str Zd = (⟨#[111, 112, 101, 110]⟩ : ByteArray) from rfl] at hen
 have x3 := hX.c3
 go_enter Tryz.func85, Tryz.ntmps85
 go_upto_region 1 with fail
 rw [← hqb, ← hqv]
 clear hqb hqv hX
 by_cases q1 : s = []
 ·have HR := Lib.hid (show L.opened s = { L.send QB with st := 4 } by unfold LS.opened; rw [if_neg (fun e => e.1 q1)])
  subst q1
  have d0 : (str ([] : List UInt8)).toList = [] := by rw [zt]
  clear hen
  go_wp2_with (with_reducible refine h_A ?_)
  (with_reducible refine hsd.mono ?_)
  rintro e w5 ⟨rfl, hst⟩
  clear hsd
  have hst0 := hst
  obtain ⟨U', T', hM, _, _, _⟩ := hst
  have c0 := hM.c0
  have c1 := hM.thaw 0
  clear hM
  go_wp2_with (with_reducible refine h_A ?_)
  go_end0
  exact ⟨rfl, by rw [HR.out]; exact (LStep.from hB0 hst0).set h.lb 0 _ (fun _ _ hM => hM.setSt 4)⟩
 ·have d1 : ¬ (str s).toList = [] := by rw [zt]; exact q1
  have d0 : (str s).toList.isEmpty = false := by rw [zt]; simpa using q1
  by_cases q2 : s = [47]
  ·have HR := Lib.hid (show L.opened s = { L.send QB with st := 4 } by unfold LS.opened; rw [if_neg (fun e => e.2 q2)])
   subst q2
   have d2 : (str [47]).toList = [47] := by rw [zt]
   clear hen q1
   go_wp2_with (with_reducible refine h_A ?_)
   (with_reducible refine hsd.mono ?_)
   rintro e w5 ⟨rfl, hst⟩
   clear hsd
   have hst0 := hst
   obtain ⟨U', T', hM, _, _, _⟩ := hst
   have c0 := hM.c0
   have c1 := hM.thaw 0
   clear hM
   go_wp2_with (with_reducible refine h_A ?_)
   go_end0
   exact ⟨rfl, by rw [HR.out]; exact (LStep.from hB0 hst0).set h.lb 0 _ (fun _ _ hM => hM.setSt 4)⟩
  ·have HR := Lib.hid (show L.opened s = L.close 402 Zd by unfold LS.opened; rw [if_pos ⟨q1, q2⟩])
   have d2 : ¬ (str s).toList = [47] := by rw [zt]; exact q2
   have d3 : ((str s).toList == [47]) = false := by rw [zt]; simpa using q2
   clear hsd q1 q2
   go_wp2_with (with_reducible refine h_A ?_)
   (with_reducible refine hen.mono ?_)
   rintro e w9 ⟨rfl, hst⟩
   clear hen
   go_wp2_with (with_reducible refine h_A ?_)
   refine bodyPost_ret (results_none rfl _ _ _) rfl ?_
   exact ⟨rfl, by rw [HR.out]; exact LStep.from hB0 hst⟩
theorem XI (m : Mt) (A : Option Addr) (c : Nat) {w : World} {B : Nat} {U T : Nat → Prop} {lb n : Nat} {RA : Option Addr} {rn rc : Nat} {L : LS} (h : LkM w B U T lb n RA rn rc L) (he : MEnv w) (hm : RMw w m A c) (hl : m.args.length = 2) (a b : Ag) (ha : m.args[0]? = some a) (hb : m.args[1]? = some b) (hsz : L.sz ≤ 1000000) (hs : L.sent.length ≤ 10000000000) :
  Calls Tryz.prog 84 #[.pointer (some ⟨lb, 0, none⟩), .agg (mtV m A c)] w fun e w' => e = .returned (.tuple #[]) ∧ LStep w B U T lb n RA rn rc (L.tuned a.n b.n) w' := by
 unfold mtV
 rw [hl]
 obtain ⟨ab, off, hx, rfl, ra, hc⟩ := hm.elem (i := 0) (by omega)
 obtain ⟨ab1, off1, hx1, hA1, rb, hc1⟩ := hm.elem (i := 1) (by omega)
 injection hA1 with hA1
 injection hA1 with q1 q2 _
 subst q1 q2
 have e0 : m.args[0] = a := by rw [List.getElem?_eq_getElem (by omega)] at ha; injection ha
 have e1 : m.args[1] = b := by rw [List.getElem?_eq_getElem (by omega)] at hb; injection hb
 obtain ⟨xb, w0, hqb, hqv, hX, hB0⟩ := zr w #[.int .u8 (m.cls : Int), .int .u8 (m.code : Int), .bool m.sync, .slice (some ⟨ab, off, none⟩) 2 c] 106
 have z1 := hc w0 hB0 1 _ rfl
 have z2 := hc1 w0 hB0 1 _ rfl
 rw [e0] at z1
 rw [e1] at z2
 simp only [Nat.zero_mul, Nat.add_zero, Nat.one_mul] at z1 z2
 obtain ⟨x, hxe⟩ : ∃ x, x = a.n := ⟨_, rfl⟩
 obtain ⟨y, hye⟩ : ∃ x, x = b.n := ⟨_, rfl⟩
 rw [← hxe] at z1 ⊢
 rw [← hye] at z2 ⊢
 clear hxe hye hc hc1 ha hb e0 e1 hm hl ra rb
 have x3 := hX.c3
 go_enter Tryz.func84, Tryz.ntmps84
 go_upto_region 1 with fail
 rw [← hqb, ← hqv]
 clear hqb hqv hX
 have h0 := h.below hB0
 try simp only [Act.put]
 go_quiet (fail)
 clear x3 z1 z2
 have h1 := h0.below (za (Below.refl _ _) nq)
 have hB1 := za hB0 nq
 have he1 := he.on hB1
 have hen := qB 501 jK (by decide) (by decide) h1 he1 hsz hs
 rw [show ((501 : Nat) : Int) = 501 from rfl, show str jK = (⟨#[116, 117, 110, 101]⟩ : ByteArray) from rfl] at hen
 have c0 := h1.c0
 have c3 := h1.c3
 have c4 := h1.c4
 have f0 := h1.thaw 0
 have f3 := h1.thaw 3
 have f4 := h1.thaw 4
 clear h0 hB0 he he1
 generalize w0.drewN nq = wq at *
 by_cases q1 : 255 < x
 ·have HR := Lib.hid (show L.tuned x y = L.close 501 jK by unfold LS.tuned; rw [if_pos (.inl q1)])
  have d1 : (255 : Int) < (x : Int) := by omega
  go_wp2_with (with_reducible refine h_A ?_)
  (with_reducible refine hen.mono ?_)
  rintro e w9 ⟨rfl, hst⟩
  clear hen
  go_wp2_with (with_reducible refine h_A ?_)
  refine bodyPost_ret (results_none rfl _ _ _) rfl ?_
  exact ⟨rfl, by rw [HR.out]; exact LStep.from hB1 hst⟩
 ·have d1 : ¬ (255 : Int) < (x : Int) := by omega
  by_cases q2 : y < 256
  ·have HR := Lib.hid (show L.tuned x y = L.close 501 jK by unfold LS.tuned; rw [if_pos (.inr (.inl q2))])
   have d2 : (y : Int) < 256 := by omega
   go_wp2_with (with_reducible refine h_A ?_)
   (with_reducible refine hen.mono ?_)
   rintro e w9 ⟨rfl, hst⟩
   clear hen
   go_wp2_with (with_reducible refine h_A ?_)
   refine bodyPost_ret (results_none rfl _ _ _) rfl ?_
   exact ⟨rfl, by rw [HR.out]; exact LStep.from hB1 hst⟩
  ·have d2 : ¬ (y : Int) < 256 := by omega
   by_cases q3 : 4096 < y
   ·have HR := Lib.hid (show L.tuned x y = L.close 501 jK by unfold LS.tuned; rw [if_pos (.inr (.inr q3))])
    have d3 : (4096 : Int) < (y : Int) := by omega
    go_wp2_with (with_reducible refine h_A ?_)
    (with_reducible refine hen.mono ?_)
    rintro e w9 ⟨rfl, hst⟩
    clear hen
    go_wp2_with (with_reducible refine h_A ?_)
    refine bodyPost_ret (results_none rfl _ _ _) rfl ?_
    exact ⟨rfl, by rw [HR.out]; exact LStep.from hB1 hst⟩
   ·have HR := Lib.hid (show L.tuned x y = { L with ch := x, sz := y, st := 3 } by unfold LS.tuned; rw [if_neg (by omega)])
    have d3 : ¬ (4096 : Int) < (y : Int) := by omega
    clear hen q1 q2 q3
    go_wp2_with (with_reducible refine h_A ?_)
    go_end0
    refine ⟨rfl, ?_⟩
    rw [HR.out]
    exact LStep.from hB1 ((((LStep.refl h1).set h.lb 3 _ (fun _ _ hM => hM.setCh x)).set h.lb 4 _ (fun _ _ hM => hM.setSz y)).set h.lb 0 _ (fun _ _ hM => hM.setSt 3))
end Go.PH
end
section
namespace Go.PH
open Go.RowKit Go.Proofs
def zI (a b : Ag) : Bool := decide (a.is = b.is) && decide (a.n = b.n) && decide (a.s = b.s) && decide (a.x = b.x) && decide (a.q = b.q) && qw a.v b.v
theorem zJ (a b : Ag) : zI a b = true ↔ a = b := by
 obtain ⟨a1, a2, a3, a4, a5, a6⟩ := a
 obtain ⟨b1, b2, b3, b4, b5, b6⟩ := b
 unfold zI
 simp only [Bool.and_eq_true, decide_eq_true_eq, jw, Ag.mk.injEq]
 constructor
 ·rintro ⟨⟨⟨⟨⟨a, b⟩, c⟩, d⟩, e⟩, f⟩; exact ⟨a, b, c, d, e, f⟩
 ·rintro ⟨a, b, c, d, e, f⟩; exact ⟨⟨⟨⟨⟨a, b⟩, c⟩, d⟩, e⟩, f⟩
theorem XL (A : Option Addr) (n c : Nat) (l : List Sp) (A' : Option Addr) (n' c' : Nat) (l' : List Sp) (B : Nat) (w : World) (hr : RdS w B A n c l) (hr' : RdS w B A' n' c' l') (hB : B ≤ w.heap.size) (hn : n ≤ 140737488355328) (hn' : n' ≤ 140737488355328) :
  Calls Tryz.prog 125 #[.slice A n c, .slice A' n' c'] w fun e w' => e = .returned (.bool (decide (l = l'))) ∧ Below w.heap.size w w' := by
 have hl := hr.length
 have hl' := hr'.length
 by_cases hnn : n = n'
 ·subst hnn
  have h0 : (((n : Nat) : Int) != ((n : Nat) : Int)) = false := by simp
  go_enter Tryz.func125, Tryz.ntmps125
  go_wp2_with (with_reducible refine h_A ?_)
  go_loopw [13] (fun s wr => ∃ (k : Nat), k ≤ n ∧ s = .int .i64 k ∧ l.take k = l'.take k ∧ Below w.heap.size w wr) (fun s _ => n - (RowKit.intOf s).toNat)
  case atStart => exact ⟨0, by omega, rfl, by simp, Below.refl _ _⟩
  case round =>
   obtain ⟨k, hk, rfl, hrk, hBr⟩ := hrel
   by_cases hlt : k < n
   ·obtain ⟨b, off, rfl, hbB, hkl, hc0, hc1⟩ := RdS.at_k (hr.below (hBr.mono hB)) hlt
    obtain ⟨b', off', rfl, hbB', hkl', hc0', hc1'⟩ := RdS.at_k (hr'.below (hBr.mono hB)) hlt
    have HT := Lib.hid (List.take_succ_eq_append_getElem hkl)
    have HT' := Lib.hid (List.take_succ_eq_append_getElem hkl')
    have HE : Hid (l = l' → l[k] = l'[k]) := Lib.hid (fun h => by subst h; rfl)
    have HK := Lib.hid hrk
    clear hrk
    generalize l[k] = x at *
    generalize l'[k] = x' at *
    obtain ⟨f, t⟩ := x
    obtain ⟨f', t'⟩ := x'
    have hgd := fun x y => run_eqGuard_agg (P := Tryz.prog) wr .neq 208 x y #[.int .u32 f, .int .u32 t] #[.int .u32 f', .int .u32 t'] XO
    by_cases hxx : (f, t) = (f', t')
    ·have hne : ∀ w, (binOp .neq 208 (.agg #[.int .u32 f, .int .u32 t]) (.agg #[.int .u32 f', .int .u32 t'])).run Tryz.prog w = .ok (.bool false) w := fun w => by rw [Xa, decide_eq_true hxx]; rfl
     have hy : l.take (k + 1) = l'.take (k + 1) := by rw [HT.out, HT'.out, HK.out, hxx]
     clear hxx
     go_wp2_with (with_reducible refine h_A ?_)
     go_quiet (fail)
     go_wp2_with (with_reducible refine h_A ?_)
     exact ⟨⟨k + 1, by omega, by go_num, hy, za hBr _⟩, by simp [RowKit.intOf]; omega⟩
    ·have hne : ∀ w, (binOp .neq 208 (.agg #[.int .u32 f, .int .u32 t]) (.agg #[.int .u32 f', .int .u32 t'])).run Tryz.prog w = .ok (.bool true) w := fun w => by rw [Xa, decide_eq_false hxx]; rfl
     have hno : decide (l = l') = false := by
      have := HE.out
      simp only [decide_eq_false_iff_not]
      exact fun h => hxx (this h)
     clear hxx
     go_wp2_with (with_reducible refine h_A ?_)
     go_quiet (fail)
     go_wp2_with (with_reducible refine h_A ?_)
     go_ret
     rw [hno]
     exact ⟨rfl, za hBr _⟩
   ·obtain rfl : k = n := by omega
    rw [← hl, List.take_length, hl, ← hl', List.take_length] at hrk
    subst hrk
    go_wp2_with (with_reducible refine h_A ?_)
    go_ret
    exact ⟨by simp, hBr⟩
 ·have h0 : (((n : Nat) : Int) != ((n' : Nat) : Int)) = true := by simp; omega
  have hne : decide (l = l') = false := by
   simp; rintro rfl; omega
  go_enter Tryz.func125, Tryz.ntmps125
  go_wp2_with (with_reducible refine h_A ?_)
  go_ret
  rw [hne]
  exact ⟨rfl, Below.refl _ _⟩
theorem yI (a b : Ag) (h k : AH) (w : World) (ha : RAw w a h) (hb : RAw w b k) : Calls Tryz.prog 106 #[.agg (agV a h), .agg (agV b k)] w fun e w' => e = .returned (.bool (zI a b)) ∧ Below w.heap.size w w' := by
 unfold agV
 obtain ⟨xb, w1, hxb, hxv, hX, hB1⟩ := zo w #[.bool a.is, .int .u64 (a.n : Int), .string (str a.s), .int .u32 (a.x.fmt : Int), .string (str a.x.glob), .string (str a.x.bran), .slice h.A a.q.length h.c, .int .u8 (a.v.kind : Int), .int .u64 (a.v.n : Int), .string (str a.v.s), .slice h.h.A1 a.v.keys.length h.h.c1, .slice h.h.A2 a.v.list.length h.h.c2] 80
 obtain ⟨yb, w2, hyb, hyv, hY, hB2⟩ := zo w1 #[.bool b.is, .int .u64 (b.n : Int), .string (str b.s), .int .u32 (b.x.fmt : Int), .string (str b.x.glob), .string (str b.x.bran), .slice k.A b.q.length k.c, .int .u8 (b.v.kind : Int), .int .u64 (b.v.n : Int), .string (str b.v.s), .slice k.h.A1 b.v.keys.length k.h.c1, .slice k.h.A2 b.v.list.length k.h.c2] 80
 have hyb' : xb + 1 = yb := by rw [hyb, hxv, hxb]; simp
 have hB := hB1.trans (hB2.mono hB1.size)
 have hX2 := hX.below hB2
 have ha2 := ha.up hB
 have hb2 := hb.up hB
 have c_0 := hX2.c0
 have c_1 := hX2.c1
 have c_2 := hX2.c2
 have c_3 := hX2.c3
 have c_4 := hX2.c4
 have c_5 := hX2.c5
 have c_6 := hX2.c6
 have c_7 := hX2.c7
 have c_8 := hX2.c8
 have c_9 := hX2.c9
 have c_10 := hX2.c10
 have c_11 := hX2.c11
 have d_0 := hY.c0
 have d_1 := hY.c1
 have d_2 := hY.c2
 have d_3 := hY.c3
 have d_4 := hY.c4
 have d_5 := hY.c5
 have d_6 := hY.c6
 have d_7 := hY.c7
 have d_8 := hY.c8
 have d_9 := hY.c9
 have d_10 := hY.c10
 have d_11 := hY.c11
 have hst := Zg a.s b.s
 have hst2 : ((str a.s).toList != (str b.s).toList) = !decide (a.s = b.s) := by rw [bne, Zg]
 have heqx := fun w => Y2 a.x b.x w
 unfold xdV at heqx
 have hgd := fun x y => run_eqGuard_agg (P := Tryz.prog) w2 .eql 73 x y #[.int .u32 (a.x.fmt : Int), .string (str a.x.glob), .string (str a.x.bran)] #[.int .u32 (b.x.fmt : Int), .string (str b.x.glob), .string (str b.x.bran)] QP
 have hsq := XL h.A a.q.length h.c a.q k.A b.q.length k.c b.q w2.heap.size w2 ha2.q.1 hb2.q.1 (Nat.le_refl _) (by have := ha2.c; omega) (by have := hb2.c; omega)
 have hsv := fun (W : World) (hW : Below w2.heap.size w2 W) => Q9 a.v b.v h.h k.h W (ha2.v.up hW) (hb2.v.up hW)
 have HS : Hid (zI a b = (decide (a.is = b.is) && decide (a.n = b.n) && decide (a.s = b.s) && decide (a.x = b.x) && decide (a.q = b.q) && qw a.v b.v)) := Lib.hid rfl
 unfold vlV XM at hsv
 clear hyb hX ha hb ha2 hb2 hB1 hB2
 by_cases h1 : a.is = b.is
 ·have g1 : (a.is == b.is) = true := by simp [h1]
  by_cases h2 : a.n = b.n
  ·have g2 : ((a.n : Int) == (b.n : Int)) = true := by simp [h2]
   by_cases h3 : a.s = b.s
   ·rw [decide_eq_true h3] at hst hst2
    simp only [Bool.not_true] at hst2
    by_cases h4 : a.x = b.x
    ·simp only [decide_eq_true h4] at heqx
     by_cases h5 : a.q = b.q
     ·simp only [decide_eq_true h5] at hsq
      have HF : Hid (zI a b = qw a.v b.v) := Lib.hid (by rw [HS.out]; simp [h1, h2, h3, h4, h5])
      clear h1 h2 h3 h4 h5 HS
      go_enter Tryz.func106, Tryz.ntmps106
      go_upto_region 1 with fail
      rw [← hxb, ← hxv, hyb', ← hyv]
      clear hxb hxv hyb' hyv
      go_wp2_with (with_reducible refine h_A ?_)
      refine hsq.mono ?_
      rintro e w3 ⟨rfl, hB3⟩
      have hsv3 := hsv w3 hB3
      have hX3 := hX2.below hB3
      have hY3 := hY.below hB3
      have hBB := hB.trans (hB3.mono hB.size)
      clear c_0 c_1 c_2 c_3 c_4 c_5 c_6 c_7 c_8 c_9 c_10 c_11
      clear d_0 d_1 d_2 d_3 d_4 d_5 d_6 d_7 d_8 d_9 d_10 d_11
      clear hsq hsv
      have c_0 := hX3.c0
      have c_1 := hX3.c1
      have c_2 := hX3.c2
      have c_3 := hX3.c3
      have c_4 := hX3.c4
      have c_5 := hX3.c5
      have c_6 := hX3.c6
      have c_7 := hX3.c7
      have c_8 := hX3.c8
      have c_9 := hX3.c9
      have c_10 := hX3.c10
      have c_11 := hX3.c11
      have d_0 := hY3.c0
      have d_1 := hY3.c1
      have d_2 := hY3.c2
      have d_3 := hY3.c3
      have d_4 := hY3.c4
      have d_5 := hY3.c5
      have d_6 := hY3.c6
      have d_7 := hY3.c7
      have d_8 := hY3.c8
      have d_9 := hY3.c9
      have d_10 := hY3.c10
      have d_11 := hY3.c11
      generalize qw a.v b.v = r at *
      go_wp2_with (with_reducible refine h_A ?_)
      refine hsv3.mono ?_
      rintro e w4 ⟨rfl, hB4⟩
      clear c_0 c_1 c_2 c_3 c_4 c_5 c_6 c_7 c_8 c_9 c_10 c_11
      clear d_0 d_1 d_2 d_3 d_4 d_5 d_6 d_7 d_8 d_9 d_10 d_11
      clear hsv3
      go_wp2_with (with_reducible refine h_A ?_)
      go_ret
      rw [HF.out]
      exact ⟨rfl, hBB.trans (hB4.mono hBB.size)⟩
     ·simp only [decide_eq_false h5] at hsq
      have HF : Hid (zI a b = false) := Lib.hid (by rw [HS.out]; simp [h5])
      clear h1 h2 h3 h4 h5 HS hsv
      go_enter Tryz.func106, Tryz.ntmps106
      go_upto_region 1 with fail
      rw [← hxb, ← hxv, hyb', ← hyv]
      clear hxb hxv hyb' hyv
      go_wp2_with (with_reducible refine h_A ?_)
      refine hsq.mono ?_
      rintro e w3 ⟨rfl, hB3⟩
      clear c_0 c_1 c_2 c_3 c_4 c_5 c_6 c_7 c_8 c_9 c_10 c_11
      clear d_0 d_1 d_2 d_3 d_4 d_5 d_6 d_7 d_8 d_9 d_10 d_11
      clear hsq
      go_wp2_with (with_reducible refine h_A ?_)
      go_ret
      rw [HF.out]
      exact ⟨rfl, hB.trans (hB3.mono hB.size)⟩
    ·simp only [decide_eq_false h4] at heqx
     have HF : Hid (zI a b = false) := Lib.hid (by rw [HS.out]; simp [h4])
     clear h1 h2 h3 h4 HS hsv hsq
     go_enter Tryz.func106, Tryz.ntmps106
     go_upto_region 1 with fail
     rw [← hxb, ← hxv, hyb', ← hyv]
     clear hxb hxv hyb' hyv
     go_wp2_with (with_reducible refine h_A ?_)
     go_ret
     rw [HF.out]
     exact ⟨rfl, hB⟩
   ·rw [decide_eq_false h3] at hst hst2
    simp only [Bool.not_false] at hst2
    have HF : Hid (zI a b = false) := Lib.hid (by rw [HS.out]; simp [h3])
    clear h1 h2 h3 HS hsv hsq heqx hgd
    go_enter Tryz.func106, Tryz.ntmps106
    go_upto_region 1 with fail
    rw [← hxb, ← hxv, hyb', ← hyv]
    clear hxb hxv hyb' hyv
    go_wp2_with (with_reducible refine h_A ?_)
    go_ret
    rw [HF.out]
    exact ⟨rfl, hB⟩
  ·have g2 : ((a.n : Int) == (b.n : Int)) = false := by simp; omega
   have HF : Hid (zI a b = false) := Lib.hid (by rw [HS.out]; simp [h2])
   clear h1 h2 HS hsv hsq heqx hgd
   go_enter Tryz.func106, Tryz.ntmps106
   go_upto_region 1 with fail
   rw [← hxb, ← hxv, hyb', ← hyv]
   clear hxb hxv hyb' hyv
   go_wp2_with (with_reducible refine h_A ?_)
   go_ret
   rw [HF.out]
   exact ⟨rfl, hB⟩
 ·have g1 : (a.is == b.is) = false := by simpa using h1
  have HF : Hid (zI a b = false) := Lib.hid (by rw [HS.out]; simp [h1])
  clear h1 HS hsv hsq heqx hgd
  go_enter Tryz.func106, Tryz.ntmps106
  go_upto_region 1 with fail
  rw [← hxb, ← hxv, hyb', ← hyv]
  clear hxb hxv hyb' hyv
  go_wp2_with (with_reducible refine h_A ?_)
  go_ret
  rw [HF.out]
  exact ⟨rfl, hB⟩
end Go.PH
end

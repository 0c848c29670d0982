/- Texts laid together: LkCtl, LkUpMath, LpMath. -/
import Derived.StringKeys
import Derived.Maps.OwnSet
import Derived.Maps.Views
import Derived.Test.YtfbkameikhgciaaGreatDoorMg07
import Derived.Test.YtfbkameikhgciaaGreatDoorMg08
import Derived.Test.YtfbkameikhgciaaGreatDoorMg11
import Derived.Test.YtfbkameikhgciaaGreatDoorMg13
import Derived.Test.YtfbkameikhgciaaGreatDoorMg26
import Derived.Test.YtfbkameikhgciaaGreatDoorMg28
import Derived.Test.YtfbkameikhgciaaGreatDoorMg29
set_option linter.all false
set_option linter.unusedSimpArgs false
set_option linter.unusedVariables false
set_option maxRecDepth 20000
set_option maxHeartbeats 8000000
section
namespace Go.PH
open Go.RowKit Go.Proofs
def qj : List UInt8 := [99, 111, 110, 110, 101, 99, 116, 105, 111, 110, 46, 115, 116, 97, 114, 116, 45, 111, 107]
def qS : List UInt8 := [99, 111, 110, 110, 101, 99, 116, 105, 111, 110, 46, 116, 117, 110, 101, 45, 111, 107]
def vC : List UInt8 := [99, 111, 110, 110, 101, 99, 116, 105, 111, 110, 46, 111, 112, 101, 110]
def jJ : List UInt8 := [99, 111, 110, 110, 101, 99, 116, 105, 111, 110, 46, 99, 108, 111, 115, 101]
def xa : List UInt8 := [99, 111, 110, 116, 114, 111, 108]
def ctlK (c k : Nat) : Nat := if c = 1 ∧ (k = 2 ∨ k = 6 ∨ k = 7 ∨ k = 11) then k else 0
theorem Vu : (List.range 9).all (fun c => (xQ c).all fun r => decide (ctlK c r.code = 0 → yo c ++ [46] ++ r.word ≠ qj ∧ yo c ++ [46] ++ r.word ≠ qS ∧ yo c ++ [46] ++ r.word ≠ vC ∧ yo c ++ [46] ++ r.word ≠ jJ)) = true := by decide +kernel
theorem Ka (c k : Nat) : (ctlK c k = 2 ∧ c = 1 ∧ k = 2 ∧ xv c k = qj) ∨ (ctlK c k = 6 ∧ c = 1 ∧ k = 6 ∧ xv c k = qS) ∨ (ctlK c k = 7 ∧ c = 1 ∧ k = 7 ∧ xv c k = vC) ∨ (ctlK c k = 11 ∧ c = 1 ∧ k = 11 ∧ xv c k = jJ) ∨
  (ctlK c k = 0 ∧ xv c k ≠ qj ∧ xv c k ≠ qS ∧ xv c k ≠ vC ∧ xv c k ≠ jJ) := by
 by_cases h : c = 1 ∧ (k = 2 ∨ k = 6 ∨ k = 7 ∨ k = 11)
 ·obtain ⟨rfl, h⟩ := h
  rcases h with rfl | rfl | rfl | rfl
  ·exact .inl ⟨rfl, rfl, rfl, by decide⟩
  ·exact .inr (.inl ⟨rfl, rfl, rfl, by decide⟩)
  ·exact .inr (.inr (.inl ⟨rfl, rfl, rfl, by decide⟩))
  ·exact .inr (.inr (.inr (.inl ⟨rfl, rfl, rfl, by decide⟩)))
 ·have h0 : ctlK c k = 0 := by unfold ctlK; rw [if_neg h]
  refine .inr (.inr (.inr (.inr ⟨h0, ?_⟩)))
  cases hr : zZ c k with
  | none =>
   have e : xv c k = [] := by unfold xv v7; rw [hr]; rfl
   rw [e]
   exact ⟨by decide, by decide, by decide, by decide⟩
  | some r =>
   have e : xv c k = yo c ++ [46] ++ r.word := by unfold xv v7; rw [hr]; rfl
   rw [e]
   unfold zZ at hr
   have hm := List.mem_of_find?_eq_some hr
   have hk := List.find?_some hr
   simp only [decide_eq_true_eq] at hk
   have hc : c < 9 := by
    have := Y4 (c := c) (fun e => by rw [e] at hm; cases hm)
    omega
   have h1 := List.all_eq_true.1 Vu c (List.mem_range.2 hc)
   have h2 := List.all_eq_true.1 h1 r hm
   simp only [decide_eq_true_eq] at h2
   exact h2 (by rw [hk]; exact h0)
def LS.ctlM (L : LS) (a : As) (m : Mt) (er : Int) : LS :=
 if a.track ≠ 0 ∨ er ≠ 0 then L.close 501 xa
 else if ctlK m.cls m.code = 2 ∧ L.st = 1 then { L.send QA with st := 2 }
 else if ctlK m.cls m.code = 6 ∧ L.st = 2 then L.tuned (m.args.getD 0 (ag0 false)).n (m.args.getD 1 (ag0 false)).n
 else if ctlK m.cls m.code = 7 ∧ L.st = 3 then L.opened (m.args.getD 0 (ag0 false)).s
 else if ctlK m.cls m.code = 11 then { L.send QC with st := 5 }
 else L.close 501 xa
def ctlF (f : FuncId) (lb : Nat) : Value := .func (.func f) #[.pointer (some ⟨lb, 0, none⟩)] #[]
def Y8 (s : Nat) (f : FuncId) (lb : Nat) : DataW Value := .held (.agg #[.int .u8 (s : Int), ctlF f lb])
def CtlAt (lb st c k : Nat) (s : Nat) (fv : Value) (is : Bool) : Prop :=
 (ctlK c k = 2 ∧ c = 1 ∧ k = 2 ∧ s = 1 ∧ fv = ctlF 83 lb ∧ is = true) ∨ (ctlK c k = 6 ∧ c = 1 ∧ k = 6 ∧ s = 2 ∧ fv = ctlF 84 lb ∧ is = true) ∨
 (ctlK c k = 7 ∧ c = 1 ∧ k = 7 ∧ s = 3 ∧ fv = ctlF 85 lb ∧ is = true) ∨ (ctlK c k = 11 ∧ c = 1 ∧ k = 11 ∧ s = st ∧ fv = ctlF 86 lb ∧ is = true) ∨ (ctlK c k = 0 ∧ s = 0 ∧ fv = .nilFunc ∧ is = false)
def ctlD (lb st : Nat) : DataW Value := ((((DataW.map [] : DataW Value).put (.string qj) (Y8 1 83 lb)).put (.string qS) (Y8 2 84 lb)).put (.string vC) (Y8 3 85 lb)).put (.string jJ) (Y8 st 86 lb)
theorem CtlAt.one {lb st c k s : Nat} {fv : Value} {is : Bool} (h : CtlAt lb st c k s fv is) : fv.oneCell' = true := by
 rcases h with ⟨_, _, _, _, rfl, _⟩ | ⟨_, _, _, _, rfl, _⟩ | ⟨_, _, _, _, rfl, _⟩ | ⟨_, _, _, _, rfl, _⟩ | ⟨_, _, rfl, _⟩ <;> rfl
theorem Vv (l : List UInt8) (h : l.length ≤ 1000) : keyOf Tryz.prog 9 (.string (str l)) = some (.string l) := by
 have := WideMaps.keyOf_string_mk (P := Tryz.prog) Tryz.underlying9 (s := str l) (by rw [zj]; unfold maxLen; omega)
 rw [this]
 congr 2
theorem Kb {lb st : Nat} {l : List UInt8} (h1 : l ≠ qj) (h2 : l ≠ qS) (h3 : l ≠ vC) (h4 : l ≠ jJ) : Maps.has (ctlD lb st) (.string l) = false := by
 have ne : ∀ {x : List UInt8}, l ≠ x → (Lit.string l) ≠ .string x := fun h e => h (by injection e)
 unfold ctlD
 rw [Maps.has_put_other (ne h4), Maps.has_put_other (ne h3), Maps.has_put_other (ne h2), Maps.has_put_other (ne h1)]
 rfl
theorem QX (c k : Nat) : (xv c k).length ≤ 1000 := by
 unfold xv v7
 cases hr : zZ c k with
 | none => simp
 | some r =>
  have h := (vB hr).2.1
  show (yo c ++ [46] ++ r.word).length ≤ 1000
  omega
theorem Kc (lb st c k : Nat) : ∃ s fv is, CtlAt lb st c k s fv is ∧ ∀ (W : World) (mb n : Nat), W.ownsMap Tryz.prog 9 rawV mb n (ctlD lb st) → (Instr.lookup 164 (.map (some mb)) (.string (str (xv c k))) true).run Tryz.prog W = .ok (.tuple #[.agg #[.int .u8 ((s : Nat) : Int), fv], .bool is]) W := by
 have hlk : ∀ (W : World) (mb n : Nat), W.ownsMap Tryz.prog 9 rawV mb n (ctlD lb st) → ∃ v ps, (Instr.lookup 164 (.map (some mb)) (.string (str (xv c k))) true).run Tryz.prog W = .ok (.tuple #[v, .bool (Maps.has (ctlD lb st) (.string (xv c k)))]) W ∧ rawV v = some ((ctlD lb st).atKey (.string (xv c k)) (.held (.agg #[.int .u8 0, .nilFunc])), ps) :=
  fun W mb n h => h.look_ok (t := 164) (Maps.string_keyed Tryz.underlying9) Tryz.underlying164 (Tryz.zeroValue163 W) (zd := .held (.agg #[.int .u8 0, .nilFunc])) (zp := []) rfl (Vv _ (QX c k))
 have hin : ∀ (u : Value) (is : Bool), Maps.has (ctlD lb st) (.string (xv c k)) = is → (ctlD lb st).atKey (.string (xv c k)) (.held (.agg #[.int .u8 0, .nilFunc])) = .held u → ∀ (W : World) (mb n : Nat), W.ownsMap Tryz.prog 9 rawV mb n (ctlD lb st) →
   (Instr.lookup 164 (.map (some mb)) (.string (str (xv c k))) true).run Tryz.prog W = .ok (.tuple #[u, .bool is]) W := fun u is e1 e2 W mb n h => by
  obtain ⟨v, ps, hrun, hv⟩ := hlk W mb n h
  rw [e2] at hv
  have h2 := congrArg Prod.fst (Option.some.inj hv)
  have h3 : DataW.held v = DataW.held u := h2
  have h4 : v = u := by injection h3
  rw [e1, h4] at hrun
  exact hrun
 rcases Ka c k with ⟨h0, hc, hk, e⟩ | ⟨h0, hc, hk, e⟩ | ⟨h0, hc, hk, e⟩ | ⟨h0, hc, hk, e⟩ | ⟨h0, h1, h2, h3, h4⟩
 ·exact ⟨1, _, true, .inl ⟨h0, hc, hk, rfl, rfl, rfl⟩, hin (.agg #[.int .u8 ((1 : Nat) : Int), ctlF 83 lb]) true (by rw [e]; kernel_rfl) (by rw [e]; rfl)⟩
 ·exact ⟨2, _, true, .inr (.inl ⟨h0, hc, hk, rfl, rfl, rfl⟩), hin (.agg #[.int .u8 ((2 : Nat) : Int), ctlF 84 lb]) true (by rw [e]; kernel_rfl) (by rw [e]; rfl)⟩
 ·exact ⟨3, _, true, .inr (.inr (.inl ⟨h0, hc, hk, rfl, rfl, rfl⟩)), hin (.agg #[.int .u8 ((3 : Nat) : Int), ctlF 85 lb]) true (by rw [e]; kernel_rfl) (by rw [e]; rfl)⟩
 ·exact ⟨st, _, true, .inr (.inr (.inr (.inl ⟨h0, hc, hk, rfl, rfl, rfl⟩))), hin (.agg #[.int .u8 ((st : Nat) : Int), ctlF 86 lb]) true (by rw [e]; kernel_rfl) (by rw [e]; rfl)⟩
 ·have hno := Kb (lb := lb) (st := st) h1 h2 h3 h4
  exact ⟨0, _, false, .inr (.inr (.inr (.inr ⟨h0, rfl, rfl, rfl⟩))), hin _ false hno (Maps.atKey_of_not_has hno _)⟩
theorem CtlAt.small {lb st c k s : Nat} {fv : Value} {is : Bool} (h : CtlAt lb st c k s fv is) (hst : st < 256) : s < 256 := by
 rcases h with ⟨_, _, _, rfl, _⟩ | ⟨_, _, _, rfl, _⟩ | ⟨_, _, _, rfl, _⟩ | ⟨_, _, _, rfl, _⟩ | ⟨_, rfl, _⟩ <;> omega
theorem CtlAt.bad {L : LS} {lb s : Nat} {fv : Value} {is : Bool} {a : As} {m : Mt} {er : Int} (h : CtlAt lb L.st m.cls m.code s fv is) (hn : ¬ (a.track = 0 ∧ er = 0 ∧ is = true ∧ s = L.st)) : L.ctlM a m er = L.close 501 xa := by
 unfold LS.ctlM
 split
 ·rfl
 ·rename_i h1
  have h2 : a.track = 0 := by omega
  have h3 : er = 0 := by omega
  rcases h with ⟨e, _, _, rfl, _, rfl⟩ | ⟨e, _, _, rfl, _, rfl⟩ | ⟨e, _, _, rfl, _, rfl⟩ | ⟨e, _, _, rfl, _, rfl⟩ | ⟨e, rfl, _, rfl⟩
  ·have : ¬ L.st = 1 := fun e2 => hn ⟨h2, h3, rfl, e2.symm⟩
   simp [e, this]
  ·have : ¬ L.st = 2 := fun e2 => hn ⟨h2, h3, rfl, e2.symm⟩
   simp [e, this]
  ·have : ¬ L.st = 3 := fun e2 => hn ⟨h2, h3, rfl, e2.symm⟩
   simp [e, this]
  ·exact absurd ⟨h2, h3, rfl, rfl⟩ hn
  ·simp [e]
def GetC (w0 : World) (b : List UInt8) (m : Mt) (er : Int) : Prop := ∀ (A : Option Addr) (n c : Nat) (W : World), Below w0.heap.size w0 W → RdB W W.heap.size A n c b → MEnv W →
 Calls Tryz.prog 87 #[.slice A n c] W fun e w' => ∃ A2 c2, e = .returned (.tuple #[.agg (mtV m A2 c2), .int .i64 er]) ∧ RM w' (FN W.heap.size w') m A2 c2 ∧ Below W.heap.size W w'
theorem ZT (a : As) (sg : Sg) (rest : List Sg) (hsg : a.segs = sg :: rest) (m : Mt) (er : Int) {w : World} (hget : GetC w sg.load m er) (hlen : er = 0 → m.args.length = (yg (zZ m.cls m.code)).length) (A : Option Addr) (c : Nat) {B : Nat} {U T : Nat → Prop} {lb n : Nat} {RA : Option Addr} {rn rc : Nat} {L : LS}
  (h : LkM w B U T lb n RA rn rc L) (hO : OwnG w 0 A a.segs.length c a.segs) (hld : sg.load.length ≤ 1000000) (he : MEnv w) (hst : L.st < 256) (hsz : L.sz ≤ 1000000) (hs : L.sent.length ≤ 10000000000) :
  Calls Tryz.prog 56 #[.pointer (some ⟨lb, 0, none⟩), .agg (asV a.chan a.track A a.segs.length c)] w fun e w' => e = .returned (.tuple #[]) ∧ LStep w B U T lb n RA rn rc (L.ctlM a m er) w' := by
 unfold asV
 obtain ⟨N, hN⟩ : ∃ N, N = a.segs.length := ⟨_, rfl⟩
 rw [← hN] at hO ⊢
 have hN1 : 0 < N := by rw [hN, hsg]; simp
 rw [hsg] at hO
 obtain ⟨ab, off, rfl, hab, hkl, hcl⟩ := xW xK hO.rd hN1
 have z1 := hcl 1 _ rfl
 simp only [Nat.zero_mul, Nat.add_zero, List.getElem_cons_zero] at z1
 clear hN hsg hkl hcl hO
 have g0 : (0 : Int) < (N : Int) := by omega
 obtain ⟨xb, w0, hqb, hqv, hX, hB0⟩ := zr w #[.int .u16 (a.chan : Int), .int .u8 (a.track : Int), .slice (some ⟨ab, off, none⟩) N c] 42
 have h0 := h.below hB0
 have hmk := fun W => run_makeMap (P := Tryz.prog) 164 W
 have hmap := World.ownsMap_made w0 Tryz.prog 9 rawV
 have hB := (Below.refl w0.heap.size w0).alloc (Nat.le_refl _) (.map #[] 0)
 have hh : LkM (w0.alloc (.map #[] 0)) B U T lb n RA rn rc L := h0.below ((Below.refl w0.heap.size w0).alloc (Nat.le_refl _) (.map #[] 0))
 go_enter Tryz.func56, Tryz.ntmps56
 go_upto_region 1 with fail
 rw [← hqb, ← hqv]
 clear hqb hqv
 go_wp2_with (with_reducible refine h_M ?_)
 obtain ⟨mb, hmb⟩ : ∃ m, m = w0.heap.size := ⟨_, rfl⟩
 rw [← hmb] at hmap ⊢
 have hmw : w0.heap.size ≤ mb := by omega
 clear hmb hmk
 generalize (w0.alloc (.map #[] 0)) = v1 at *
 refine zc (ze (H := Value) _ rfl _ _ _ 164 rfl 9 163 (Maps.string_keyed Tryz.underlying9) Tryz.underlying164 rawV _ _ _ rfl hmap (by simp [maxLen]) _ _ (.string qj) rfl rfl (WideMaps.keyOf_string_mk Tryz.underlying9 (by decide)) _ [] rfl ?_)
 intro v2 hmap2 hgm
 have hB2 := hB.grown hgm hB.size (fun g hg => by injection hg with hg; omega)
 clear hmap hgm hB
 have hmap := hmap2
 have hB := hB2
 clear hmap2 hB2
 generalize v2 = v1 at *
 go_wp2_with (with_reducible refine h_M ?_)
 refine zc (ze (H := Value) _ rfl _ _ _ 164 rfl 9 163 (Maps.string_keyed Tryz.underlying9) Tryz.underlying164 rawV _ _ _ rfl hmap (by simp [maxLen]) _ _ (.string qS) rfl rfl (WideMaps.keyOf_string_mk Tryz.underlying9 (by decide)) _ [] rfl ?_)
 intro v2 hmap2 hgm
 have hB2 := hB.grown hgm hB.size (fun g hg => by injection hg with hg; omega)
 clear hmap hgm hB
 have hmap := hmap2
 have hB := hB2
 clear hmap2 hB2
 generalize v2 = v1 at *
 go_wp2_with (with_reducible refine h_M ?_)
 refine zc (ze (H := Value) _ rfl _ _ _ 164 rfl 9 163 (Maps.string_keyed Tryz.underlying9) Tryz.underlying164 rawV _ _ _ rfl hmap (by simp [maxLen]) _ _ (.string vC) rfl rfl (WideMaps.keyOf_string_mk Tryz.underlying9 (by decide)) _ [] rfl ?_)
 intro v2 hmap2 hgm
 have hB2 := hB.grown hgm hB.size (fun g hg => by injection hg with hg; omega)
 clear hmap hgm hB
 have hmap := hmap2
 have hB := hB2
 clear hmap2 hB2
 generalize v2 = v1 at *
 have c0 := (h0.below hB).c0
 go_wp2_with (with_reducible refine h_M ?_)
 refine zc (ze (H := Value) _ rfl _ _ _ 164 rfl 9 163 (Maps.string_keyed Tryz.underlying9) Tryz.underlying164 rawV _ _ _ rfl hmap (by simp [maxLen]) _ _ (.string jJ) rfl rfl (WideMaps.keyOf_string_mk Tryz.underlying9 (by decide)) _ [] rfl ?_)
 intro v2 hmap2 hgm
 have hB2 := hB.grown hgm hB.size (fun g hg => by injection hg with hg; omega)
 clear hmap hgm hB
 have hmap := hmap2
 have hB := hB2
 clear hmap2 hB2
 generalize v2 = v1 at *
 clear c0
 have hD : v1.ownsMap Tryz.prog 9 rawV mb _ (ctlD lb L.st) := hmap
 have hB1 := hB0.trans (hB.mono hB0.size)
 have hX1 := hX.below hB
 have hmb1 : mb < v1.heap.size := by
  obtain ⟨es, clock, hb, _⟩ := hD
  exact (Array.getElem?_eq_some_iff.1 hb).1
 have x2 := hX1.c2
 have z2 := (hB1.cell (p := ⟨ab, off + 1, none⟩) (by first | exact hab | omega)).trans z1
 clear hmap hB hX h0 z1
 go_wp2_with (first | (with_reducible refine zT ?_) | (with_reducible refine yt ?_) | (with_reducible refine yr ?_) | (with_reducible refine yc ?_) | (with_reducible refine yu (s := 9) (t := 55) ?_))
 refine zc (zad Tryz.underlying9 Tryz.underlying55 Tryz.underlying5 rfl rfl rfl (l := sg.load) (by omega) ?_)
 intro c3 w3 hr3 hB3
 have hB13 := hB1.trans (hB3.mono hB1.size)
 have hgt := hget _ _ c3 w3 hB13 hr3 (he.on hB13)
 clear hget x2 z2 hr3
 go_wp2_with (with_reducible refine h_A ?_)
 refine hgt.mono ?_
 rintro e w4 ⟨A2, c2, rfl, hRM, hB4⟩
 clear hgt
 unfold mtV
 obtain ⟨rb, w5, hqb, hqv, hR, hB5⟩ := xS w4 #[.int .u8 0, .int .u8 0, .bool false, .slice none 0 0] 106
 have hm1 := hRM.mono (fun g hg => hg.2)
 have hBv := hB3.trans (hB4.mono hB3.size)
 have hB14 := hB1.trans (hBv.mono hB1.size)
 have hrb4 : w4.heap.size ≤ rb := by rw [hqb]; exact Nat.le_refl _
 clear hRM hB3 hB4 hB13
 go_wp2_with (with_reducible refine h_B ?_)
 rw [← hqb, ← hqv]
 clear hqb hqv
 refine zc (zm (v := .agg #[.int .u8 (m.cls : Int), .int .u8 (m.code : Int), .bool m.sync, .slice A2 m.args.length c2]) (vs := [.int .u8 (m.cls : Int), .int .u8 (m.code : Int), .bool m.sync, .slice A2 m.args.length c2]) rfl rfl rfl rfl hR rfl (by kernel_rfl) (by simp) jy #[.int .u8 (m.cls : Int), .int .u8 (m.code : Int), .bool m.sync, .slice A2 m.args.length c2] (by simp) ?_)
 intro w6 hR6 hg6 hz6
 clear hz6
 have hB46 : Below w4.heap.size w4 w6 := hB5.grown hg6 hB5.size (fun g hg => by injection hg with hg; omega)
 have hB16 := hB14.trans (hB46.mono hB14.size)
 have hBv6 := hBv.trans (hB46.mono hBv.size)
 have y0 := hR6.c0
 have y1 := hR6.c1
 have hnm := Q3 m.cls m.code w6 (he.on hB16)
 clear hR hB5 hg6
 go_wp2_with (with_reducible refine h_A ?_)
 refine hnm.mono ?_
 rintro e w7 ⟨rfl, hB7⟩
 obtain ⟨s, fv, is, hat, hlk⟩ := Kc lb L.st m.cls m.code
 have hB47 := hB46.trans (hB7.mono hB46.size)
 have hB17 := hB14.trans (hB47.mono hB14.size)
 have hBv7 := hBv.trans (hB47.mono hBv.size)
 have hR7 := hR6.below hB7
 have hlk7 := hlk w7 mb _ (zO hD (hBv7.block mb hmb1))
 have hone := hat.one
 clear hlk hnm y0 y1 hR6 hB46 hB16 hBv6 hB7
 obtain ⟨qb, w8, hqb, hqv, hQ, hB8⟩ := xS w7 #[.int .u8 0, .nilFunc] 163
 have hqb7 : w7.heap.size ≤ qb := by rw [hqb]; exact Nat.le_refl _
 go_wp2_with (with_reducible refine h_B ?_)
 rw [← hqb, ← hqv]
 clear hqb hqv
 refine zc (zm (v := .agg #[.int .u8 (s : Int), fv]) (vs := [.int .u8 (s : Int), fv]) rfl rfl rfl rfl hQ rfl (by kernel_rfl) (by simp) (by intro u hu; simp at hu; rcases hu with rfl | rfl; rfl; exact hone) #[.int .u8 (s : Int), fv] (by simp) ?_)
 intro w9 hQ9 hg9 hz9
 clear hz9
 have hB79 : Below w7.heap.size w7 w9 := hB8.grown hg9 hB8.size (fun g hg => by injection hg with hg; omega)
 have hB49 := hB47.trans (hB79.mono hB47.size)
 have hB19 := hB17.trans (hB79.mono hB17.size)
 have hBv9 := hBv7.trans (hB79.mono hBv7.size)
 have hR9 := hR7.below hB79
 have hX9 := hX1.below hBv9
 have h9 := h.below hB19
 clear hQ hB8 hg9 hlk7 hR7 hB47 hB17 hBv7 hB79 hX1 hD hBv hB14
 have x1 := hX9.c1
 have c0 := h9.c0
 have q0 := hQ9.c0
 have hssm := hat.small hst
 go_upto_region 5 with fail
 by_cases qq : a.track = 0 ∧ er = 0 ∧ is = true ∧ s = L.st
 ·obtain ⟨q1, q2, q3, q4⟩ := qq
  have HT := Lib.hid q1
  have HE := Lib.hid q2
  have d1 : ((a.track : Int) != 0) = false := by rw [q1]; rfl
  have d2 : (er != 0) = false := by rw [q2]; rfl
  have d3 : ((s : Int) != (L.st : Int)) = false := by rw [q4]; simp
  subst q3
  try simp only [Act.put]
  go_quiet (fail)
  clear d1 d2 d3 c0 q0 x1 q1 q2
  have hBn := za (Below.refl w9.heap.size w9) nq
  have hn := h9.below hBn
  have hBw := za hB19 nq
  have hen := he.on hBw
  have hQn := hQ9.below hBn
  have hRn := hR9.below hBn
  have hmn := hm1.up (hB49.trans (hBn.mono hB49.size))
  have k0 := hRn.c0
  have k1 := hRn.c1
  have k2 := hRn.c2
  have k3 := hRn.c3
  have f1 := hQn.c1
  clear h9 hBn hQ9 hR9 hX9 hm1 hB49 hB19 hBv9 he
  generalize w9.drewN nq = wq at *
  rcases hat with ⟨hk, hc, hd, hs1, rfl, _⟩ | ⟨hk, hc, hd, hs1, rfl, _⟩ | ⟨hk, hc, hd, hs1, rfl, _⟩ | ⟨hk, hc, hd, hs1, rfl, _⟩ | ⟨_, _, _, h⟩
  ·have HR := Lib.hid (show L.ctlM a m er = { L.send QA with st := 2 } by unfold LS.ctlM; rw [if_neg (by rw [HT.out, HE.out]; simp), if_pos ⟨hk, by omega⟩])
   have hdo := ZU m A2 c2 hn hen hsz hs
   clear hk hc hd hs1 hlen hmn hen
   unfold ctlF at f1
   unfold mtV at hdo
   go_wp2_with (with_reducible refine h_A ?_)
   (with_reducible refine hdo.mono ?_)
   rintro e w10 ⟨rfl, hst2⟩
   clear hdo
   go_wp2_with (with_reducible refine h_A ?_)
   go_end0
   exact ⟨rfl, by rw [HR.out]; exact LStep.from hBw hst2⟩
  ·have HR := Lib.hid (show L.ctlM a m er = L.tuned (m.args.getD 0 (ag0 false)).n (m.args.getD 1 (ag0 false)).n by unfold LS.ctlM; rw [if_neg (by rw [HT.out, HE.out]; simp), if_neg (by omega), if_pos ⟨hk, by omega⟩])
   have hl2 : m.args.length = 2 := by rw [hlen HE.out, hc, hd]; rfl
   have hdo := XI m A2 c2 hn hen hmn hl2 (m.args.getD 0 (ag0 false)) (m.args.getD 1 (ag0 false)) (by rw [List.getD_eq_getElem?_getD, List.getElem?_eq_getElem (by omega)]; rfl) (by rw [List.getD_eq_getElem?_getD, List.getElem?_eq_getElem (by omega)]; rfl) hsz hs
   clear hl2
   clear hk hc hd hs1 hlen hmn hen
   unfold ctlF at f1
   unfold mtV at hdo
   go_wp2_with (with_reducible refine h_A ?_)
   (with_reducible refine hdo.mono ?_)
   rintro e w10 ⟨rfl, hst2⟩
   clear hdo
   go_wp2_with (with_reducible refine h_A ?_)
   go_end0
   exact ⟨rfl, by rw [HR.out]; exact LStep.from hBw hst2⟩
  ·have HR := Lib.hid (show L.ctlM a m er = L.opened (m.args.getD 0 (ag0 false)).s by unfold LS.ctlM; rw [if_neg (by rw [HT.out, HE.out]; simp), if_neg (by omega), if_neg (by omega), if_pos ⟨hk, by omega⟩])
   have hl2 : m.args.length = 1 := by rw [hlen HE.out, hc, hd]; rfl
   have hdo := Yx m A2 c2 hn hen hmn hl2 (m.args.getD 0 (ag0 false)) (by rw [List.getD_eq_getElem?_getD, List.getElem?_eq_getElem (by omega)]; rfl) hsz hs
   clear hl2
   clear hk hc hd hs1 hlen hmn hen
   unfold ctlF at f1
   unfold mtV at hdo
   go_wp2_with (with_reducible refine h_A ?_)
   (with_reducible refine hdo.mono ?_)
   rintro e w10 ⟨rfl, hst2⟩
   clear hdo
   go_wp2_with (with_reducible refine h_A ?_)
   go_end0
   exact ⟨rfl, by rw [HR.out]; exact LStep.from hBw hst2⟩
  ·have HR := Lib.hid (show L.ctlM a m er = { L.send QC with st := 5 } by unfold LS.ctlM; rw [if_neg (by rw [HT.out, HE.out]; simp), if_neg (by omega), if_neg (by omega), if_neg (by omega), if_pos hk])
   have hdo := Yw m A2 c2 hn hen hsz hs
   clear hk hc hd hs1 hlen hmn hen
   unfold ctlF at f1
   unfold mtV at hdo
   go_wp2_with (with_reducible refine h_A ?_)
   (with_reducible refine hdo.mono ?_)
   rintro e w10 ⟨rfl, hst2⟩
   clear hdo
   go_wp2_with (with_reducible refine h_A ?_)
   go_end0
   exact ⟨rfl, by rw [HR.out]; exact LStep.from hBw hst2⟩
  ·cases h
 ·have HR := Lib.hid (hat.bad qq)
  clear hat
  by_cases q1 : a.track = 0
  ·have d1 : ((a.track : Int) != 0) = false := by rw [q1]; rfl
   by_cases q2 : er = 0
   ·have d2 : (er != 0) = false := by rw [q2]; rfl
    cases is
    ·clear qq q1 q2
     try simp only [Act.put]
     go_quiet (fail)
     clear d1 d2 c0 q0 x1
     have hBn := za (Below.refl w9.heap.size w9) nq
     have hn := h9.below hBn
     have hBw := za hB19 nq
     have hen := qB 501 xa (by decide) (by decide) hn (he.on hBw) hsz hs
     rw [show ((501 : Nat) : Int) = 501 from rfl, show str xa = (⟨#[99, 111, 110, 116, 114, 111, 108]⟩ : ByteArray) from rfl] at hen
     go_wp2_with (with_reducible refine h_A ?_)
     (with_reducible refine hen.mono ?_)
     rintro e w10 ⟨rfl, hst2⟩
     clear hen
     go_wp2_with (with_reducible refine h_A ?_)
     refine bodyPost_ret (results_none rfl _ _ _) rfl ?_
     exact ⟨rfl, by rw [HR.out]; exact LStep.from hBw hst2⟩
    ·have d3 : ((s : Int) != (L.st : Int)) = true := by
      have : ¬ s = L.st := fun e => qq ⟨q1, q2, rfl, e⟩
      simp; omega
     clear qq q1 q2
     try simp only [Act.put]
     go_quiet (fail)
     clear d1 d2 d3 c0 q0 x1
     have hBn := za (Below.refl w9.heap.size w9) nq
     have hn := h9.below hBn
     have hBw := za hB19 nq
     have hen := qB 501 xa (by decide) (by decide) hn (he.on hBw) hsz hs
     rw [show ((501 : Nat) : Int) = 501 from rfl, show str xa = (⟨#[99, 111, 110, 116, 114, 111, 108]⟩ : ByteArray) from rfl] at hen
     go_wp2_with (with_reducible refine h_A ?_)
     (with_reducible refine hen.mono ?_)
     rintro e w10 ⟨rfl, hst2⟩
     clear hen
     go_wp2_with (with_reducible refine h_A ?_)
     refine bodyPost_ret (results_none rfl _ _ _) rfl ?_
     exact ⟨rfl, by rw [HR.out]; exact LStep.from hBw hst2⟩
   ·have d2 : (er != 0) = true := by simpa using q2
    clear qq q1 q2
    try simp only [Act.put]
    go_quiet (fail)
    clear d1 d2 c0 q0 x1
    have hBn := za (Below.refl w9.heap.size w9) nq
    have hn := h9.below hBn
    have hBw := za hB19 nq
    have hen := qB 501 xa (by decide) (by decide) hn (he.on hBw) hsz hs
    rw [show ((501 : Nat) : Int) = 501 from rfl, show str xa = (⟨#[99, 111, 110, 116, 114, 111, 108]⟩ : ByteArray) from rfl] at hen
    go_wp2_with (with_reducible refine h_A ?_)
    (with_reducible refine hen.mono ?_)
    rintro e w10 ⟨rfl, hst2⟩
    clear hen
    go_wp2_with (with_reducible refine h_A ?_)
    refine bodyPost_ret (results_none rfl _ _ _) rfl ?_
    exact ⟨rfl, by rw [HR.out]; exact LStep.from hBw hst2⟩
  ·have d1 : ((a.track : Int) != 0) = true := by simp; omega
   clear qq q1
   try simp only [Act.put]
   go_quiet (fail)
   clear d1 c0 q0 x1
   have hBn := za (Below.refl w9.heap.size w9) nq
   have hn := h9.below hBn
   have hBw := za hB19 nq
   have hen := qB 501 xa (by decide) (by decide) hn (he.on hBw) hsz hs
   rw [show ((501 : Nat) : Int) = 501 from rfl, show str xa = (⟨#[99, 111, 110, 116, 114, 111, 108]⟩ : ByteArray) from rfl] at hen
   go_wp2_with (with_reducible refine h_A ?_)
   (with_reducible refine hen.mono ?_)
   rintro e w10 ⟨rfl, hst2⟩
   clear hen
   go_wp2_with (with_reducible refine h_A ?_)
   refine bodyPost_ret (results_none rfl _ _ _) rfl ?_
   exact ⟨rfl, by rw [HR.out]; exact LStep.from hBw hst2⟩
end Go.PH
end
section
namespace Go.PH
theorem Xp (l : List Fr) : (yN l).length ≤ 12 * l.length + zE l := by
 induction l with
 | nil => simp [yN, zE]
 | cons f r ih =>
  have e : yN (f :: r) = f.put ++ yN r := rfl
  have hp : f.put.length ≤ 12 + f.load.length := by
   unfold Fr.put
   split
   ·rw [f.bytes_length]; omega
   ·simp
  rw [e, List.length_append, List.length_cons, zE]
  omega
theorem Zu (most chan track n : Nat) : ∀ (l : List Sg) (i : Nat), zE (cutL most chan track n i l) = yH l
 | [], _ => by simp [cutL, zE, yH]
 | s :: r, i => by rw [cutL, jd, ZD, Zu most chan track n r, yH]
theorem vO (sz : Nat) (bs : List UInt8) : (ctlB sz bs).length ≤ 13 * bs.length + 12 := by
 unfold ctlB jh
 have h := Xp (cutF ((sz : Int) - 12) ⟨0, 0, [⟨0, bs⟩]⟩)
 unfold cutF at h ⊢
 split at h
 ·rename_i hc
  rw [if_pos hc]
  unfold xL at hc
  split at hc
  ·omega
  ·have hm : 1 ≤ ((sz : Int) - 12).toNat := by omega
   have h1 : (vn ((sz : Int) - 12).toNat ⟨0, 0, [⟨0, bs⟩]⟩).length ≤ bs.length + 1 := by
    have := vQ ((sz : Int) - 12).toNat 0 0 1 hm [⟨0, bs⟩] 0
    simpa [vn, yH] using this
   have h2 : zE (vn ((sz : Int) - 12).toNat ⟨0, 0, [⟨0, bs⟩]⟩) = bs.length := by
    have := Zu ((sz : Int) - 12).toNat 0 0 1 [⟨0, bs⟩] 0
    simpa [vn, yH] using this
   omega
 ·rename_i hc
  rw [if_neg hc]
  simp [yN]
structure LB (S N k : Nat) (M : LS) : Prop where
 kn : k ≤ N
 inv : M.g.Inv
 sz : M.sz ≤ 4096
 ch : M.ch ≤ 255
 st : M.st ≠ 0
 st' : M.st < 256
 sent : M.sent.length ≤ S + 20000 * k
 told : M.told.length ≤ k
theorem LB.close {S N k : Nat} {M : LS} (h : LB S N k M) (hk : k < N) (code : Nat) (text : List UInt8) (ht : text.length ≤ 100) : LB S N (k + 1) (M.close code text) where
 kn := hk
 inv := h.inv
 sz := h.sz
 ch := h.ch
 st := by show (5 : Nat) ≠ 0; decide
 st' := by show (5 : Nat) < 256; decide
 sent := by
  have h1 := vO M.sz (qG code text)
  have h2 := h.sent
  have h3 : (qG code text).length ≤ 107 := by simp [qG, zn]; omega
  show (M.sent ++ ctlB M.sz (qG code text)).length ≤ _
  rw [List.length_append]
  omega
 told := by have := h.told; show M.told.length ≤ _; omega
theorem LB.sends {S N k : Nat} {M : LS} (h : LB S N k M) (hk : k < N) (bs : List UInt8) (hb : bs.length ≤ 100) (st : Nat) (h0 : st ≠ 0) (h1 : st < 256) : LB S N (k + 1) { M.send bs with st := st } where
 kn := hk
 inv := h.inv
 sz := h.sz
 ch := h.ch
 st := h0
 st' := h1
 sent := by
  have h1 := vO M.sz bs
  have h2 := h.sent
  show (M.sent ++ ctlB M.sz bs).length ≤ _
  rw [List.length_append]
  omega
 told := by have := h.told; show M.told.length ≤ _; omega
theorem LB.more {S N k : Nat} {M : LS} (h : LB S N k M) (hk : k < N) : LB S N (k + 1) M where
 kn := hk
 inv := h.inv
 sz := h.sz
 ch := h.ch
 st := h.st
 st' := h.st'
 sent := by have := h.sent; omega
 told := by have := h.told; omega
theorem LB.ctlM {S N k : Nat} {M : LS} (h : LB S N k M) (hk : k < N) (a : As) (m : Mt) (er : Int) : LB S N (k + 1) (M.ctlM a m er) := by
 unfold LS.ctlM
 split
 ·exact h.close hk _ _ (by decide)
 split
 ·exact h.sends hk _ (by decide) 2 (by decide) (by decide)
 split
 ·unfold LS.tuned
  split
  ·exact h.close hk _ _ (by decide)
  ·rename_i hn
   have h1 := h.more hk
   exact ⟨h1.kn, h1.inv, by show (m.args.getD 1 (ag0 false)).n ≤ 4096; omega, by show (m.args.getD 0 (ag0 false)).n ≤ 255; omega, by show (3 : Nat) ≠ 0; decide, by show (3 : Nat) < 256; decide, h1.sent, h1.told⟩
 split
 ·unfold LS.opened
  split
  ·exact h.close hk _ _ (by decide)
  ·exact h.sends hk _ (by decide) 4 (by decide) (by decide)
 split
 ·exact h.sends hk _ (by decide) 5 (by decide) (by decide)
 ·exact h.close hk _ _ (by decide)
theorem LB.take {S N k : Nat} {M : LS} (h : LB S N k M) (hk : k < N) {f : Fr} (hf : f.wf) (ctl : LS → As → LS) (hctl : ∀ (L : LS) (a : As), LB S N k L → LB S N (k + 1) (ctl L a)) : LB S N (k + 1) (M.take ctl f) := by
 have hn : LB S N k { M with g := M.g.next f } := ⟨h.kn, h.inv.next hf, h.sz, h.ch, h.st, h.st', h.sent, h.told⟩
 unfold LS.take
 split
 ·exact h.close hk _ _ (by decide)
 split
 ·split
  ·exact hn.more hk
  ·exact hn.close hk _ _ (by decide)
 ·split
  ·exact hctl _ _ hn
  split
  ·have h1 := hn.more hk
   exact ⟨h1.kn, h1.inv, h1.sz, h1.ch, h1.st, h1.st', h1.sent, by have := h.told; show (M.told ++ [_]).length ≤ _; rw [List.length_append]; simp; omega⟩
  ·exact hn.close hk _ _ (by decide)
theorem LB.bounds {S N k : Nat} {M : LS} (hS : S ≤ 1000000000) (hN : N ≤ 400000) (h : LB S N k M) : M.g.Inv ∧ M.sz ≤ 1000000 ∧ M.ch < 65536 ∧ M.sent.length ≤ 10000000000 ∧ M.told.length ≤ 1000000000 := by
 have h1 := h.kn
 have h2 := h.sz
 have h3 := h.ch
 have h4 := h.sent
 have h5 := h.told
 exact ⟨h.inv, by omega, by omega, by omega, by omega⟩
end Go.PH
end
section
namespace Go.PH
open Go.RowKit Go.Proofs
def LS.lead (L : LS) (s : List UInt8) (t : List As) : LS := { L with sent := s ++ L.sent, told := t ++ L.told }
def LS.core (L : LS) : LS := { L with sent := [], told := [] }
theorem LS.core_lead (L : LS) : L.core.lead L.sent L.told = L := by
 cases L; simp [LS.core, LS.lead]
theorem LS.lead_close (L : LS) (c : Nat) (x s : List UInt8) (t : List As) : (L.lead s t).close c x = (L.close c x).lead s t := by
 simp [LS.lead, LS.close]
theorem LS.lead_send (L : LS) (b s : List UInt8) (t : List As) : (L.lead s t).send b = (L.send b).lead s t := by
 simp [LS.lead, LS.send]
theorem LS.lead_ctlM (L : LS) (a : As) (m : Mt) (er : Int) (s : List UInt8) (t : List As) : (L.lead s t).ctlM a m er = (L.ctlM a m er).lead s t := by
 have h : (L.lead s t).st = L.st := rfl
 unfold LS.ctlM
 rw [h, LS.lead_close]
 split
 ·rfl
 split
 ·rw [LS.lead_send]; rfl
 split
 ·unfold LS.tuned
  rw [LS.lead_close]
  split <;> rfl
 split
 ·unfold LS.opened
  rw [LS.lead_close, LS.lead_send]
  split <;> rfl
 split
 ·rw [LS.lead_send]; rfl
 ·rfl
structure CtlOk (ctl : LS → As → LS) : Prop where
 lead : ∀ L a s t, ctl (LS.lead L s t) a = (ctl L a).lead s t
 st : ∀ L a, L.st ≠ 0 → (ctl L a).st ≠ 0
theorem LS.ctlM_st (L : LS) (a : As) (m : Mt) (er : Int) (h : L.st ≠ 0) : (L.ctlM a m er).st ≠ 0 := by
 unfold LS.ctlM
 split
 ·show (5 : Nat) ≠ 0; decide
 split
 ·show (2 : Nat) ≠ 0; decide
 split
 ·unfold LS.tuned
  split
  ·show (5 : Nat) ≠ 0; decide
  ·show (3 : Nat) ≠ 0; decide
 split
 ·unfold LS.opened
  split
  ·show (5 : Nat) ≠ 0; decide
  ·show (4 : Nat) ≠ 0; decide
 split
 ·show (5 : Nat) ≠ 0; decide
 ·show (5 : Nat) ≠ 0; decide
section
variable {ctl : LS → As → LS} (hc : CtlOk ctl)
include hc
theorem Qh (L : LS) (f : Fr) (s : List UInt8) (t : List As) : (L.lead s t).take ctl f = (L.take ctl f).lead s t := by
 unfold LS.take
 have h1 : (L.lead s t).sz = L.sz := rfl
 have h2 : (L.lead s t).ch = L.ch := rfl
 have h3 : (L.lead s t).g = L.g := rfl
 have h4 : (L.lead s t).st = L.st := rfl
 rw [h1, h2, h3, h4, LS.lead_close]
 split
 ·rfl
 split
 ·split
  ·rfl
  ·exact LS.lead_close { L with g := L.g.next f } _ _ _ _
 ·split
  ·exact hc.lead { L with g := L.g.next f } _ _ _
  split
  ·simp [LS.lead]
  ·exact LS.lead_close { L with g := L.g.next f } _ _ _ _
theorem K7 (L : LS) (f : Fr) (h : L.st ≠ 0) : (L.take ctl f).st ≠ 0 := by
 unfold LS.take
 split
 ·show (5 : Nat) ≠ 0; decide
 split
 ·split
  ·exact h
  ·show (5 : Nat) ≠ 0; decide
 ·split
  ·exact hc.st _ _ h
  split
  ·exact h
  ·show (5 : Nat) ≠ 0; decide
theorem Zs (s : List UInt8) (t : List As) : ∀ (l : List Fr) (L : LS), (L.lead s t).goes ctl l = (L.goes ctl l).lead s t
 | [], _ => rfl
 | f :: l, L => by
  by_cases h : L.st = 5
  ·rw [LS.goes_closed h, LS.goes_closed (L := L.lead s t) h]
  ·rw [LS.goes_cons ctl L f l h, LS.goes_cons ctl (L.lead s t) f l h, Qh hc, Zs s t l]
theorem Qi : ∀ (l : List Fr) (L : LS), L.st ≠ 0 → (L.goes ctl l).st ≠ 0
 | [], _, h => h
 | f :: l, L, h => by
  by_cases h5 : L.st = 5
  ·rw [LS.goes_closed h5]; exact h
  ·rw [LS.goes_cons ctl L f l h5]
   exact Qi l _ (K7 hc L f h)
theorem Yg (L : LS) (l : List Fr) (e : Nat) (s : List UInt8) (t : List As) : (L.lead s t).frames ctl l e = (L.frames ctl l e).lead s t := by
 unfold LS.frames
 rw [Zs hc]
 have h : ((L.goes ctl l).lead s t).st = (L.goes ctl l).st := rfl
 rw [h, LS.lead_close]
 split <;> rfl
theorem Xo (L : LS) (l : List Fr) (e : Nat) (h : L.st ≠ 0) : (L.frames ctl l e).st ≠ 0 := by
 unfold LS.frames
 split
 ·show (5 : Nat) ≠ 0; decide
 ·exact Qi hc l L h
theorem Qj (p : LS × List UInt8) (s : List UInt8) (t : List As) : LS.post ctl (p.1.lead s t, p.2) = ((LS.post ctl p).1.lead s t, (LS.post ctl p).2) := by
 unfold LS.post
 have h : (p.1.lead s t).st = p.1.st := rfl
 simp only [h]
 split
 ·rfl
 ·rw [Yg hc]
theorem JK (L : LS) (r s : List UInt8) (h0 : L.st ≠ 0) (h5 : L.st ≠ 5) :
  ((LS.post ctl (L, r)).1.st = 5 ∧ (LS.post ctl (L, r ++ s)).1 = (LS.post ctl (L, r)).1) ∨
  ((LS.post ctl (L, r)).1.st ≠ 5 ∧ (LS.post ctl (L, r)).1.st ≠ 0 ∧ LS.post ctl (L, r ++ s) = LS.post ctl ((LS.post ctl (L, r)).1, (LS.post ctl (L, r)).2 ++ s)) := by
 have e1 : ∀ x, LS.post ctl (L, x) = (L.frames ctl (zk x).1 (zk x).2.2, x.drop (zk x).2.1) := fun x => by
  unfold LS.post
  simp only
  rw [if_neg (by omega)]
 rw [e1 r, e1 (r ++ s)]
 obtain ⟨ha, hb⟩ := X2 r s
 have hst := Xo hc L (zk r).1 (zk r).2.2 h0
 by_cases he : (zk r).2.2 = 0
 ·have h1 := ha he
  have e2 : L.frames ctl (zk r).1 (zk r).2.2 = L.goes ctl (zk r).1 := by unfold LS.frames; rw [if_neg (fun h => h.1 he)]
  by_cases hq : (L.goes ctl (zk r).1).st = 5
  ·left
   simp only
   rw [e2]
   refine ⟨hq, ?_⟩
   rw [h1]
   unfold LS.frames
   simp only
   rw [LS.goes_append, LS.goes_closed hq, if_neg (fun h => h.2 hq)]
  ·right
   simp only
   rw [e2] at hst ⊢
   refine ⟨hq, hst, ?_⟩
   unfold LS.post
   simp only
   rw [if_neg (by omega), h1]
   simp only
   have e3 : ∀ l e, L.frames ctl ((zk r).1 ++ l) e = (L.goes ctl (zk r).1).frames ctl l e := fun l e => by
    unfold LS.frames
    rw [LS.goes_append]
   rw [e3, ← List.drop_drop, List.drop_append_of_le_length (jv r).2]
 ·left
  rw [hb he]
  refine ⟨?_, rfl⟩
  simp only
  unfold LS.frames
  split
  ·rfl
  ·rename_i h
   exact Classical.byContradiction fun h' => h ⟨he, h'⟩
theorem Zt (L : LS) (b s : List UInt8) : LS.feed ctl L b s = LS.feed ctl L.core b s := rfl
theorem JL (L : LS) (b s1 s2 : List UInt8) :
  (LS.feed ctl L b (s1 ++ s2)).1 = (LS.feed ctl (LS.feed ctl L b s1).1 (LS.feed ctl L b s1).2 s2).1.lead (LS.feed ctl L b s1).1.sent (LS.feed ctl L b s1).1.told ∧
  ((LS.feed ctl L b (s1 ++ s2)).1.st ≠ 5 → (LS.feed ctl L b (s1 ++ s2)).2 = (LS.feed ctl (LS.feed ctl L b s1).1 (LS.feed ctl L b s1).2 s2).2) := by
 by_cases h5 : L.st = 5
 ·have e : ∀ s, LS.feed ctl L b s = (L.core, b) := fun s => by unfold LS.feed; rw [if_pos h5]; rfl
  have e' : ∀ s, LS.feed ctl L.core b s = (L.core, b) := fun s => by unfold LS.feed; rw [if_pos (by exact h5)]; rfl
  rw [e, e]
  simp only
  rw [e']
  exact ⟨rfl, fun _ => rfl⟩
 have e : ∀ s, LS.feed ctl L b s = LS.post ctl (L.pre b s) := fun s => by unfold LS.feed; rw [if_neg h5]
 rw [e, e]
 -- behind the header
 have hgo : ∀ (M : LS) (r : List UInt8), M.st ≠ 0 → M.st ≠ 5 →
   (LS.post ctl (M, r ++ s2)).1 = (LS.feed ctl (LS.post ctl (M, r)).1 (LS.post ctl (M, r)).2 s2).1.lead (LS.post ctl (M, r)).1.sent (LS.post ctl (M, r)).1.told ∧
   ((LS.post ctl (M, r ++ s2)).1.st ≠ 5 → (LS.post ctl (M, r ++ s2)).2 = (LS.feed ctl (LS.post ctl (M, r)).1 (LS.post ctl (M, r)).2 s2).2) := by
  intro M r m0 m5
  rcases JK hc M r s2 m0 m5 with ⟨q1, q2⟩ | ⟨q1, q2, q3⟩
  ·generalize LS.post ctl (M, r) = p at *
   have e2 : LS.feed ctl p.1 p.2 s2 = (p.1.core, p.2) := by unfold LS.feed; rw [if_pos q1]; rfl
   rw [e2, q2]
   exact ⟨(LS.core_lead _).symm, fun h => absurd q1 h⟩
  ·rw [q3]
   generalize LS.post ctl (M, r) = p at *
   have e2 : LS.feed ctl p.1 p.2 s2 = LS.post ctl (p.1.core, p.2 ++ s2) := by unfold LS.feed LS.pre; rw [if_neg q1, if_neg q2]; rfl
   have e3 := Qj hc (p.1.core, p.2 ++ s2) p.1.sent p.1.told
   simp only at e3
   rw [LS.core_lead] at e3
   rw [e2, e3]
   exact ⟨rfl, fun _ => rfl⟩
 by_cases h0 : L.st = 0
 ·have hp : ∀ s, L.pre b s = LS.beginL L.core (b ++ s) := fun s => by unfold LS.pre; rw [if_pos h0]; rfl
  rw [hp, hp, ← List.append_assoc]
  generalize b ++ s1 = r
  unfold LS.beginL
  by_cases q1 : r.take 8 = hdrB
  ·have hl8 : 8 ≤ r.length := by
    have := congrArg List.length q1
    rw [List.length_take] at this
    have : hdrB.length = 8 := rfl
    omega
   rw [if_pos q1, if_pos (by rw [List.take_append_of_le_length hl8]; exact q1), List.drop_append_of_le_length hl8]
   exact hgo _ _ (fun e => by cases e) (fun e => by cases e)
  ·rw [if_neg q1]
   by_cases q2 : r.length < 8 ∧ r = hdrB.take r.length
   ·rw [if_pos q2]
    have e2 : LS.post ctl (L.core, r) = (L.core, r) := by unfold LS.post; rw [if_pos (.inl h0)]
    rw [e2]
    have e3 : LS.feed ctl L.core r s2 = LS.post ctl (LS.beginL L.core (r ++ s2)) := by
     unfold LS.feed LS.pre
     rw [if_neg (by exact h5), if_pos (by exact h0)]
     rfl
    simp only
    rw [e3]
    unfold LS.beginL
    exact ⟨by simp [LS.lead, LS.core], fun _ => rfl⟩
   ·rw [if_neg q2]
    have k1 : ¬ (r ++ s2).take 8 = hdrB := fun e => by
     by_cases hl : 8 ≤ r.length
     ·rw [List.take_append_of_le_length hl] at e; exact q1 e
     ·refine q2 ⟨by omega, ?_⟩
      have := congrArg (List.take r.length) e
      rw [List.take_take, Nat.min_eq_left (by omega), List.take_left' rfl] at this
      exact this
    have k2 : ¬ ((r ++ s2).length < 8 ∧ r ++ s2 = hdrB.take (r ++ s2).length) := fun e => by
     rw [List.length_append] at e
     refine q2 ⟨by omega, ?_⟩
     have := congrArg (List.take r.length) e.2
     rw [List.take_take, Nat.min_eq_left (by omega), List.take_left' rfl] at this
     exact this
    rw [if_neg k1, if_neg k2]
    have e2 : ∀ x : List UInt8, LS.post ctl ({ L.core with st := 5, sent := L.core.sent ++ hdrB }, x) = ({ L.core with st := 5, sent := L.core.sent ++ hdrB }, x) := fun x => by unfold LS.post; rw [if_pos (.inr rfl)]
    rw [e2, e2]
    simp only
    have e3 : ∀ M : LS, M.st = 5 → LS.feed ctl M r s2 = (M.core, r) := fun M hm => by unfold LS.feed; rw [if_pos hm]; rfl
    rw [e3 _ rfl]
    exact ⟨(LS.core_lead _).symm, fun h => absurd rfl h⟩
 ·have hp : ∀ s, L.pre b s = (L.core, b ++ s) := fun s => by unfold LS.pre; rw [if_neg h0]; rfl
  rw [hp, hp, ← List.append_assoc]
  exact hgo _ _ h0 h5
structure LpI (L0 : LS) (C : List UInt8) (S : List UInt8) (T : List As) (M : LS) (b : List UInt8) : Prop where
 all : (LS.feed ctl L0 [] C).1 = M.core.lead S T
 rest : M.st ≠ 5 → (LS.feed ctl L0 [] C).2 = b
omit hc in
theorem LpI.start (L0 : LS) (h0 : L0.st = 0) : LpI (ctl := ctl) L0 [] [] [] L0 [] := by
 have e : LS.feed ctl L0 [] [] = (L0.core, []) := by
  unfold LS.feed LS.pre
  rw [if_neg (by omega), if_pos h0]
  have e1 : ∀ M : LS, M.beginL ([] ++ []) = (M, []) := fun M => by unfold LS.beginL; rw [if_neg (by decide), if_pos (by decide)]; rfl
  rw [e1]
  unfold LS.post
  rw [if_pos (.inl (by exact h0))]
  rfl
 refine ⟨?_, fun _ => ?_⟩
 ·rw [e]; simp [LS.lead, LS.core]
 ·rw [e]
theorem LpI.more {L0 : LS} {C S : List UInt8} {T : List As} {M : LS} {b : List UInt8} (h : LpI (ctl := ctl) L0 C S T M b) (s : List UInt8) :
  LpI (ctl := ctl) L0 (C ++ s) (S ++ (LS.feed ctl M b s).1.sent) (T ++ (LS.feed ctl M b s).1.told) (LS.feed ctl M b s).1 (LS.feed ctl M b s).2 := by
 obtain ⟨h1, h2⟩ := JL hc L0 [] C s
 have hS : (LS.feed ctl L0 [] C).1.sent = S := by rw [h.all]; simp [LS.lead, LS.core]
 have hT : (LS.feed ctl L0 [] C).1.told = T := by rw [h.all]; simp [LS.lead, LS.core]
 have hco : (LS.feed ctl L0 [] C).1.core = M.core := by rw [h.all]; rfl
 have hst : (LS.feed ctl L0 [] C).1.st = M.st := by rw [h.all]; rfl
 have hfe : (LS.feed ctl (LS.feed ctl L0 [] C).1 (LS.feed ctl L0 [] C).2 s).1 = (LS.feed ctl M b s).1 ∧ ((LS.feed ctl M b s).1.st ≠ 5 → (LS.feed ctl (LS.feed ctl L0 [] C).1 (LS.feed ctl L0 [] C).2 s).2 = (LS.feed ctl M b s).2) := by
  by_cases h5 : M.st = 5
  ·have e1 : ∀ x y, LS.feed ctl M x y = (M.core, x) := fun x y => by unfold LS.feed; rw [if_pos h5]; rfl
   have e2 : ∀ (N : LS), N.st = 5 → ∀ x y, LS.feed ctl N x y = (N.core, x) := fun N hN x y => by unfold LS.feed; rw [if_pos hN]; rfl
   rw [e1, e2 _ (hst.trans h5)]
   exact ⟨hco, fun hh => absurd h5 hh⟩
  ·rw [Zt hc (LS.feed ctl L0 [] C).1, hco, ← Zt hc M, h.rest h5]
   exact ⟨rfl, fun _ => rfl⟩
 rw [hfe.1, hS, hT] at h1
 refine ⟨?_, fun h5 => ?_⟩
 ·rw [h1]
  simp [LS.lead, LS.core]
 ·rw [h2 (by rw [h1]; exact h5), hfe.2 h5]
end
end Go.PH
end

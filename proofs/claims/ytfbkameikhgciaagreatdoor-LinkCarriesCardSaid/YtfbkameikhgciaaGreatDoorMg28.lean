/- Texts laid together: LkCtl. -/
import Derived.StringKeys
import Derived.Maps.OwnSet
import Derived.Maps.Views
import Derived.Test.YtfbkameikhgciaaGreatDoorMg11
import Derived.Test.YtfbkameikhgciaaGreatDoorMg14
import Derived.Test.YtfbkameikhgciaaGreatDoorMg16
import Derived.Test.YtfbkameikhgciaaGreatDoorMg24
import Derived.Test.YtfbkameikhgciaaGreatDoorMg26
import Derived.Test.YtfbkameikhgciaaGreatDoorMg27
set_option linter.all false
set_option linter.unusedSimpArgs false
set_option linter.unusedVariables false
section
/- The walk of link's control, given what method.Get tells. -/
namespace Go.PH
open Go.RowKit Go.Proofs

def nmStartOk : List UInt8 := [99, 111, 110, 110, 101, 99, 116, 105, 111, 110, 46, 115, 116, 97, 114, 116, 45, 111, 107]
def nmTuneOk : List UInt8 := [99, 111, 110, 110, 101, 99, 116, 105, 111, 110, 46, 116, 117, 110, 101, 45, 111, 107]
def nmOpen : List UInt8 := [99, 111, 110, 110, 101, 99, 116, 105, 111, 110, 46, 111, 112, 101, 110]
def nmClose : List UInt8 := [99, 111, 110, 110, 101, 99, 116, 105, 111, 110, 46, 99, 108, 111, 115, 101]
def controlB : List UInt8 := [99, 111, 110, 116, 114, 111, 108]
/-- the code of a control that a link hears -/
def ctlK (c k : Nat) : Nat := if c = 1 ∧ (k = 2 ∨ k = 6 ∨ k = 7 ∨ k = 11) then k else 0
theorem ctl_tab : (List.range 9).all (fun c => (clsRows c).all fun r => decide (ctlK c r.code = 0 → clsWord c ++ [46] ++ r.word ≠ nmStartOk ∧ clsWord c ++ [46] ++ r.word ≠ nmTuneOk ∧ clsWord c ++ [46] ++ r.word ≠ nmOpen ∧ clsWord c ++ [46] ++ r.word ≠ nmClose)) = true := by decide +kernel
theorem ctl_name (c k : Nat) : (ctlK c k = 2 ∧ c = 1 ∧ k = 2 ∧ nameO c k = nmStartOk) ∨ (ctlK c k = 6 ∧ c = 1 ∧ k = 6 ∧ nameO c k = nmTuneOk) ∨ (ctlK c k = 7 ∧ c = 1 ∧ k = 7 ∧ nameO c k = nmOpen) ∨ (ctlK c k = 11 ∧ c = 1 ∧ k = 11 ∧ nameO c k = nmClose) ∨
  (ctlK c k = 0 ∧ nameO c k ≠ nmStartOk ∧ nameO c k ≠ nmTuneOk ∧ nameO c k ≠ nmOpen ∧ nameO c k ≠ nmClose) := by
 by_cases h : c = 1 ∧ (k = 2 ∨ k = 6 ∨ k = 7 ∨ k = 11)
 ·obtain ⟨rfl, h⟩ := h
  rcases h with rfl | rfl | rfl | rfl
  ·exact .inl ⟨rfl, rfl, rfl, by decide⟩
  ·exact .inr (.inl ⟨rfl, rfl, rfl, by decide⟩)
  ·exact .inr (.inr (.inl ⟨rfl, rfl, rfl, by decide⟩))
  ·exact .inr (.inr (.inr (.inl ⟨rfl, rfl, rfl, by decide⟩)))
 ·have h0 : ctlK c k = 0 := by unfold ctlK; rw [if_neg h]
  refine .inr (.inr (.inr (.inr ⟨h0, ?_⟩)))
  cases hr : findM c k with
  | none =>
   have e : nameO c k = [] := by unfold nameO nameM; rw [hr]; rfl
   rw [e]
   exact ⟨by decide, by decide, by decide, by decide⟩
  | some r =>
   have e : nameO c k = clsWord c ++ [46] ++ r.word := by unfold nameO nameM; rw [hr]; rfl
   rw [e]
   unfold findM at hr
   have hm := List.mem_of_find?_eq_some hr
   have hk := List.find?_some hr
   simp only [decide_eq_true_eq] at hk
   have hc : c < 9 := by
    have := cls_of (c := c) (fun e => by rw [e] at hm; cases hm)
    omega
   have h1 := List.all_eq_true.1 ctl_tab c (List.mem_range.2 hc)
   have h2 := List.all_eq_true.1 h1 r hm
   simp only [decide_eq_true_eq] at h2
   exact h2 (by rw [hk]; exact h0)
/-- what a control makes of a link, given what Get tells of it -/
def LS.ctlM (L : LS) (a : As) (m : Mt) (er : Int) : LS :=
 if a.track ≠ 0 ∨ er ≠ 0 then L.close 501 controlB
 else if ctlK m.cls m.code = 2 ∧ L.st = 1 then { L.send tuneB with st := 2 }
 else if ctlK m.cls m.code = 6 ∧ L.st = 2 then L.tuned (m.args.getD 0 (ag0 false)).n (m.args.getD 1 (ag0 false)).n
 else if ctlK m.cls m.code = 7 ∧ L.st = 3 then L.opened (m.args.getD 0 (ag0 false)).s
 else if ctlK m.cls m.code = 11 then { L.send clokB with st := 5 }
 else L.close 501 controlB
/-- one of the controls' functions -/
def ctlF (f : FuncId) (lb : Nat) : Value := .func (.func f) #[.pointer (some ⟨lb, 0, none⟩)] #[]
def ctlRow (s : Nat) (f : FuncId) (lb : Nat) : DataW Value := .held (.agg #[.int .u8 (s : Int), ctlF f lb])
def CtlAt (lb st c k : Nat) (s : Nat) (fv : Value) (is : Bool) : Prop :=
 (ctlK c k = 2 ∧ c = 1 ∧ k = 2 ∧ s = 1 ∧ fv = ctlF 83 lb ∧ is = true) ∨ (ctlK c k = 6 ∧ c = 1 ∧ k = 6 ∧ s = 2 ∧ fv = ctlF 84 lb ∧ is = true) ∨
 (ctlK c k = 7 ∧ c = 1 ∧ k = 7 ∧ s = 3 ∧ fv = ctlF 85 lb ∧ is = true) ∨ (ctlK c k = 11 ∧ c = 1 ∧ k = 11 ∧ s = st ∧ fv = ctlF 86 lb ∧ is = true) ∨ (ctlK c k = 0 ∧ s = 0 ∧ fv = .nilFunc ∧ is = false)
def ctlD (lb st : Nat) : DataW Value := ((((DataW.map [] : DataW Value).put (.string nmStartOk) (ctlRow 1 83 lb)).put (.string nmTuneOk) (ctlRow 2 84 lb)).put (.string nmOpen) (ctlRow 3 85 lb)).put (.string nmClose) (ctlRow st 86 lb)
theorem CtlAt.one {lb st c k s : Nat} {fv : Value} {is : Bool} (h : CtlAt lb st c k s fv is) : fv.oneCell' = true := by
 rcases h with ⟨_, _, _, _, rfl, _⟩ | ⟨_, _, _, _, rfl, _⟩ | ⟨_, _, _, _, rfl, _⟩ | ⟨_, _, _, _, rfl, _⟩ | ⟨_, _, rfl, _⟩ <;> rfl
theorem str_key (l : List UInt8) (h : l.length ≤ 1000) : keyOf Tryz.prog 9 (.string (str l)) = some (.string l) := by
 have := WideMaps.keyOf_string_mk (P := Tryz.prog) Tryz.underlying9 (s := str l) (by rw [str_size]; unfold maxLen; omega)
 rw [this]
 congr 2
theorem ctlD_has {lb st : Nat} {l : List UInt8} (h1 : l ≠ nmStartOk) (h2 : l ≠ nmTuneOk) (h3 : l ≠ nmOpen) (h4 : l ≠ nmClose) : Maps.has (ctlD lb st) (.string l) = false := by
 have ne : ∀ {x : List UInt8}, l ≠ x → (Lit.string l) ≠ .string x := fun h e => h (by injection e)
 unfold ctlD
 rw [Maps.has_put_other (ne h4), Maps.has_put_other (ne h3), Maps.has_put_other (ne h2), Maps.has_put_other (ne h1)]
 rfl
theorem nameO_len (c k : Nat) : (nameO c k).length ≤ 1000 := by
 unfold nameO nameM
 cases hr : findM c k with
 | none => simp
 | some r =>
  have h := (find_small hr).2.1
  show (clsWord c ++ [46] ++ r.word).length ≤ 1000
  omega
/-- what a lookup of a control's name answers -/
theorem ctl_look (lb st c k : Nat) : ∃ s fv is, CtlAt lb st c k s fv is ∧ ∀ (W : World) (mb n : Nat), W.ownsMap Tryz.prog 9 rawV mb n (ctlD lb st) → (Instr.lookup 164 (.map (some mb)) (.string (str (nameO c k))) true).run Tryz.prog W = .ok (.tuple #[.agg #[.int .u8 ((s : Nat) : Int), fv], .bool is]) W := by
 have hlk : ∀ (W : World) (mb n : Nat), W.ownsMap Tryz.prog 9 rawV mb n (ctlD lb st) → ∃ v ps, (Instr.lookup 164 (.map (some mb)) (.string (str (nameO c k))) true).run Tryz.prog W = .ok (.tuple #[v, .bool (Maps.has (ctlD lb st) (.string (nameO c k)))]) W ∧ rawV v = some ((ctlD lb st).atKey (.string (nameO c k)) (.held (.agg #[.int .u8 0, .nilFunc])), ps) :=
  fun W mb n h => h.look_ok (t := 164) (Maps.string_keyed Tryz.underlying9) Tryz.underlying164 (Tryz.zeroValue163 W) (zd := .held (.agg #[.int .u8 0, .nilFunc])) (zp := []) rfl (str_key _ (nameO_len c k))
 have hin : ∀ (u : Value) (is : Bool), Maps.has (ctlD lb st) (.string (nameO c k)) = is → (ctlD lb st).atKey (.string (nameO c k)) (.held (.agg #[.int .u8 0, .nilFunc])) = .held u → ∀ (W : World) (mb n : Nat), W.ownsMap Tryz.prog 9 rawV mb n (ctlD lb st) →
   (Instr.lookup 164 (.map (some mb)) (.string (str (nameO c k))) true).run Tryz.prog W = .ok (.tuple #[u, .bool is]) W := fun u is e1 e2 W mb n h => by
  obtain ⟨v, ps, hrun, hv⟩ := hlk W mb n h
  rw [e2] at hv
  have h2 := congrArg Prod.fst (Option.some.inj hv)
  have h3 : DataW.held v = DataW.held u := h2
  have h4 : v = u := by injection h3
  rw [e1, h4] at hrun
  exact hrun
 rcases ctl_name c k with ⟨h0, hc, hk, e⟩ | ⟨h0, hc, hk, e⟩ | ⟨h0, hc, hk, e⟩ | ⟨h0, hc, hk, e⟩ | ⟨h0, h1, h2, h3, h4⟩
 ·exact ⟨1, _, true, .inl ⟨h0, hc, hk, rfl, rfl, rfl⟩, hin (.agg #[.int .u8 ((1 : Nat) : Int), ctlF 83 lb]) true (by rw [e]; kernel_rfl) (by rw [e]; rfl)⟩
 ·exact ⟨2, _, true, .inr (.inl ⟨h0, hc, hk, rfl, rfl, rfl⟩), hin (.agg #[.int .u8 ((2 : Nat) : Int), ctlF 84 lb]) true (by rw [e]; kernel_rfl) (by rw [e]; rfl)⟩
 ·exact ⟨3, _, true, .inr (.inr (.inl ⟨h0, hc, hk, rfl, rfl, rfl⟩)), hin (.agg #[.int .u8 ((3 : Nat) : Int), ctlF 85 lb]) true (by rw [e]; kernel_rfl) (by rw [e]; rfl)⟩
 ·exact ⟨st, _, true, .inr (.inr (.inr (.inl ⟨h0, hc, hk, rfl, rfl, rfl⟩))), hin (.agg #[.int .u8 ((st : Nat) : Int), ctlF 86 lb]) true (by rw [e]; kernel_rfl) (by rw [e]; rfl)⟩
 ·have hno := ctlD_has (lb := lb) (st := st) h1 h2 h3 h4
  exact ⟨0, _, false, .inr (.inr (.inr (.inr ⟨h0, rfl, rfl, rfl⟩))), hin _ false hno (Maps.atKey_of_not_has hno _)⟩
theorem CtlAt.small {lb st c k s : Nat} {fv : Value} {is : Bool} (h : CtlAt lb st c k s fv is) (hst : st < 256) : s < 256 := by
 rcases h with ⟨_, _, _, rfl, _⟩ | ⟨_, _, _, rfl, _⟩ | ⟨_, _, _, rfl, _⟩ | ⟨_, _, _, rfl, _⟩ | ⟨_, rfl, _⟩ <;> omega
theorem CtlAt.bad {L : LS} {lb s : Nat} {fv : Value} {is : Bool} {a : As} {m : Mt} {er : Int} (h : CtlAt lb L.st m.cls m.code s fv is) (hn : ¬ (a.track = 0 ∧ er = 0 ∧ is = true ∧ s = L.st)) : L.ctlM a m er = L.close 501 controlB := by
 unfold LS.ctlM
 split
 ·rfl
 ·rename_i h1
  have h2 : a.track = 0 := by omega
  have h3 : er = 0 := by omega
  rcases h with ⟨e, _, _, rfl, _, rfl⟩ | ⟨e, _, _, rfl, _, rfl⟩ | ⟨e, _, _, rfl, _, rfl⟩ | ⟨e, _, _, rfl, _, rfl⟩ | ⟨e, rfl, _, rfl⟩
  ·have : ¬ L.st = 1 := fun e2 => hn ⟨h2, h3, rfl, e2.symm⟩
   simp [e, this]
  ·have : ¬ L.st = 2 := fun e2 => hn ⟨h2, h3, rfl, e2.symm⟩
   simp [e, this]
  ·have : ¬ L.st = 3 := fun e2 => hn ⟨h2, h3, rfl, e2.symm⟩
   simp [e, this]
  ·exact absurd ⟨h2, h3, rfl, rfl⟩ hn
  ·simp [e]
/-- what method.Get tells of some bytes -/
def GetC (b : List UInt8) (m : Mt) (er : Int) : Prop := ∀ (A : Option Addr) (n c : Nat) (W : World), RdB W W.heap.size A n c b → MEnv W →
 Calls Tryz.prog 87 #[.slice A n c] W fun e w' => ∃ A2 c2, e = .returned (.tuple #[.agg (mtV m A2 c2), .int .i64 er]) ∧ RM w' (FN W.heap.size w') m A2 c2 ∧ Below W.heap.size W w'
set_option maxRecDepth 20000 in
set_option maxHeartbeats 4000000 in
theorem lcontrol_any (a : As) (sg : Sg) (rest : List Sg) (hsg : a.segs = sg :: rest) (m : Mt) (er : Int) (hget : GetC sg.load m er) (hlen : er = 0 → m.args.length = (kindsO (findM m.cls m.code)).length) (A : Option Addr) (c : Nat) {w : World} {B : Nat} {U T : Nat → Prop} {lb n : Nat} {RA : Option Addr} {rn rc : Nat} {L : LS}
  (h : LkM w B U T lb n RA rn rc L) (hO : OwnG w 0 A a.segs.length c a.segs) (hld : sg.load.length ≤ 1000000) (he : MEnv w) (hst : L.st < 256) (hsz : L.sz ≤ 1000000) (hs : L.sent.length ≤ 10000000000) :
  Calls Tryz.prog 56 #[.pointer (some ⟨lb, 0, none⟩), .agg (asV a.chan a.track A a.segs.length c)] w fun e w' => e = .returned (.tuple #[]) ∧ LStep w B U T lb n RA rn rc (L.ctlM a m er) w' := by
 unfold asV
 obtain ⟨N, hN⟩ : ∃ N, N = a.segs.length := ⟨_, rfl⟩
 rw [← hN] at hO ⊢
 have hN1 : 0 < N := by rw [hN, hsg]; simp
 rw [hsg] at hO
 obtain ⟨ab, off, rfl, hab, hkl, hcl⟩ := rec_at sgShape hO.rd hN1
 have z1 := hcl 1 _ rfl
 simp only [Nat.zero_mul, Nat.add_zero, List.getElem_cons_zero] at z1
 clear hN hsg hkl hcl hO
 have g0 : (0 : Int) < (N : Int) := by omega
 obtain ⟨xb, w0, hqb, hqv, hX, hB0⟩ := alloc_stepG w #[.int .u16 (a.chan : Int), .int .u8 (a.track : Int), .slice (some ⟨ab, off, none⟩) N c] 42
 have h0 := h.below hB0
 have hmk := fun W => run_makeMap (P := Tryz.prog) 164 W
 have hmap := World.ownsMap_made w0 Tryz.prog 9 rawV
 have hB := (Below.refl w0.heap.size w0).alloc (Nat.le_refl _) (.map #[] 0)
 have hh : LkM (w0.alloc (.map #[] 0)) B U T lb n RA rn rc L := h0.below ((Below.refl w0.heap.size w0).alloc (Nat.le_refl _) (.map #[] 0))
 go_enter Tryz.func56, Tryz.ntmps56
 go_upto_region 1 with fail
 rw [← hqb, ← hqv]
 clear hqb hqv
 go_wp2_with (with_reducible refine h_M ?_)
 obtain ⟨mb, hmb⟩ : ∃ m, m = w0.heap.size := ⟨_, rfl⟩
 rw [← hmb] at hmap ⊢
 have hmw : w0.heap.size ≤ mb := by omega
 clear hmb hmk
 generalize (w0.alloc (.map #[] 0)) = v1 at *
 refine unhold (wpList_insert_own (H := Value) _ rfl _ _ _ 164 rfl 9 163 (Maps.string_keyed Tryz.underlying9) Tryz.underlying164 rawV _ _ _ rfl hmap (by simp [maxLen]) _ _ (.string nmStartOk) rfl rfl (WideMaps.keyOf_string_mk Tryz.underlying9 (by decide)) _ [] rfl ?_)
 intro v2 hmap2 hgm
 have hB2 := hB.grown hgm hB.size (fun g hg => by injection hg with hg; omega)
 clear hmap hgm hB
 have hmap := hmap2
 have hB := hB2
 clear hmap2 hB2
 generalize v2 = v1 at *
 go_wp2_with (with_reducible refine h_M ?_)
 refine unhold (wpList_insert_own (H := Value) _ rfl _ _ _ 164 rfl 9 163 (Maps.string_keyed Tryz.underlying9) Tryz.underlying164 rawV _ _ _ rfl hmap (by simp [maxLen]) _ _ (.string nmTuneOk) rfl rfl (WideMaps.keyOf_string_mk Tryz.underlying9 (by decide)) _ [] rfl ?_)
 intro v2 hmap2 hgm
 have hB2 := hB.grown hgm hB.size (fun g hg => by injection hg with hg; omega)
 clear hmap hgm hB
 have hmap := hmap2
 have hB := hB2
 clear hmap2 hB2
 generalize v2 = v1 at *
 go_wp2_with (with_reducible refine h_M ?_)
 refine unhold (wpList_insert_own (H := Value) _ rfl _ _ _ 164 rfl 9 163 (Maps.string_keyed Tryz.underlying9) Tryz.underlying164 rawV _ _ _ rfl hmap (by simp [maxLen]) _ _ (.string nmOpen) rfl rfl (WideMaps.keyOf_string_mk Tryz.underlying9 (by decide)) _ [] rfl ?_)
 intro v2 hmap2 hgm
 have hB2 := hB.grown hgm hB.size (fun g hg => by injection hg with hg; omega)
 clear hmap hgm hB
 have hmap := hmap2
 have hB := hB2
 clear hmap2 hB2
 generalize v2 = v1 at *
 have c0 := (h0.below hB).c0
 go_wp2_with (with_reducible refine h_M ?_)
 refine unhold (wpList_insert_own (H := Value) _ rfl _ _ _ 164 rfl 9 163 (Maps.string_keyed Tryz.underlying9) Tryz.underlying164 rawV _ _ _ rfl hmap (by simp [maxLen]) _ _ (.string nmClose) rfl rfl (WideMaps.keyOf_string_mk Tryz.underlying9 (by decide)) _ [] rfl ?_)
 intro v2 hmap2 hgm
 have hB2 := hB.grown hgm hB.size (fun g hg => by injection hg with hg; omega)
 clear hmap hgm hB
 have hmap := hmap2
 have hB := hB2
 clear hmap2 hB2
 generalize v2 = v1 at *
 clear c0
 have hD : v1.ownsMap Tryz.prog 9 rawV mb _ (ctlD lb L.st) := hmap
 have hB1 := hB0.trans (hB.mono hB0.size)
 have hX1 := hX.below hB
 have hmb1 : mb < v1.heap.size := by
  obtain ⟨es, clock, hb, _⟩ := hD
  exact (Array.getElem?_eq_some_iff.1 hb).1
 have x2 := hX1.c2
 have z2 := (hB1.cell (p := ⟨ab, off + 1, none⟩) (by first | exact hab | omega)).trans z1
 clear hmap hB hX h0 z1
 go_wp2_with (first | (with_reducible refine hold_append ?_) | (with_reducible refine hold_make ?_) | (with_reducible refine hold_copy ?_) | (with_reducible refine hold_slice ?_) | (with_reducible refine hold_conv (s := 9) (t := 55) ?_))
 refine unhold (wp_s2b Tryz.underlying9 Tryz.underlying55 Tryz.underlying5 rfl rfl rfl (l := sg.load) (by omega) ?_)
 intro c3 w3 hr3 hB3
 have hB13 := hB1.trans (hB3.mono hB1.size)
 have hgt := hget _ _ c3 w3 hr3 (he.on hB13)
 clear hget x2 z2 hr3
 go_wp2_with (with_reducible refine h_A ?_)
 refine hgt.mono ?_
 rintro e w4 ⟨A2, c2, rfl, hRM, hB4⟩
 clear hgt
 unfold mtV
 obtain ⟨rb, w5, hqb, hqv, hR, hB5⟩ := alloc_stepM w4 #[.int .u8 0, .int .u8 0, .bool false, .slice none 0 0] 106
 have hm1 := hRM.mono (fun g hg => hg.2)
 have hBv := hB3.trans (hB4.mono hB3.size)
 have hB14 := hB1.trans (hBv.mono hB1.size)
 have hrb4 : w4.heap.size ≤ rb := by rw [hqb]; exact Nat.le_refl _
 clear hRM hB3 hB4 hB13
 go_wp2_with (with_reducible refine h_B ?_)
 rw [← hqb, ← hqv]
 clear hqb hqv
 refine unhold (wp_box (v := .agg #[.int .u8 (m.cls : Int), .int .u8 (m.code : Int), .bool m.sync, .slice A2 m.args.length c2]) (vs := [.int .u8 (m.cls : Int), .int .u8 (m.code : Int), .bool m.sync, .slice A2 m.args.length c2]) rfl rfl rfl rfl hR rfl (by kernel_rfl) (by simp) me_one #[.int .u8 (m.cls : Int), .int .u8 (m.code : Int), .bool m.sync, .slice A2 m.args.length c2] (by simp) ?_)
 intro w6 hR6 hg6 hz6
 clear hz6
 have hB46 : Below w4.heap.size w4 w6 := hB5.grown hg6 hB5.size (fun g hg => by injection hg with hg; omega)
 have hB16 := hB14.trans (hB46.mono hB14.size)
 have hBv6 := hBv.trans (hB46.mono hBv.size)
 have y0 := hR6.c0
 have y1 := hR6.c1
 have hnm := mname_any m.cls m.code w6 (he.on hB16)
 clear hR hB5 hg6
 go_wp2_with (with_reducible refine h_A ?_)
 refine hnm.mono ?_
 rintro e w7 ⟨rfl, hB7⟩
 obtain ⟨s, fv, is, hat, hlk⟩ := ctl_look lb L.st m.cls m.code
 have hB47 := hB46.trans (hB7.mono hB46.size)
 have hB17 := hB14.trans (hB47.mono hB14.size)
 have hBv7 := hBv.trans (hB47.mono hBv.size)
 have hR7 := hR6.below hB7
 have hlk7 := hlk w7 mb _ (ownsMap_keep hD (hBv7.block mb hmb1))
 have hone := hat.one
 clear hlk hnm y0 y1 hR6 hB46 hB16 hBv6 hB7
 obtain ⟨qb, w8, hqb, hqv, hQ, hB8⟩ := alloc_stepM w7 #[.int .u8 0, .nilFunc] 163
 have hqb7 : w7.heap.size ≤ qb := by rw [hqb]; exact Nat.le_refl _
 go_wp2_with (with_reducible refine h_B ?_)
 rw [← hqb, ← hqv]
 clear hqb hqv
 refine unhold (wp_box (v := .agg #[.int .u8 (s : Int), fv]) (vs := [.int .u8 (s : Int), fv]) rfl rfl rfl rfl hQ rfl (by kernel_rfl) (by simp) (by intro u hu; simp at hu; rcases hu with rfl | rfl; rfl; exact hone) #[.int .u8 (s : Int), fv] (by simp) ?_)
 intro w9 hQ9 hg9 hz9
 clear hz9
 have hB79 : Below w7.heap.size w7 w9 := hB8.grown hg9 hB8.size (fun g hg => by injection hg with hg; omega)
 have hB49 := hB47.trans (hB79.mono hB47.size)
 have hB19 := hB17.trans (hB79.mono hB17.size)
 have hBv9 := hBv7.trans (hB79.mono hBv7.size)
 have hR9 := hR7.below hB79
 have hX9 := hX1.below hBv9
 have h9 := h.below hB19
 clear hQ hB8 hg9 hlk7 hR7 hB47 hB17 hBv7 hB79 hX1 hD hBv hB14
 have x1 := hX9.c1
 have c0 := h9.c0
 have q0 := hQ9.c0
 have hssm := hat.small hst
 go_upto_region 5 with fail
 by_cases qq : a.track = 0 ∧ er = 0 ∧ is = true ∧ s = L.st
 ·obtain ⟨q1, q2, q3, q4⟩ := qq
  have HT := Lib.hid q1
  have HE := Lib.hid q2
  have d1 : ((a.track : Int) != 0) = false := by rw [q1]; rfl
  have d2 : (er != 0) = false := by rw [q2]; rfl
  have d3 : ((s : Int) != (L.st : Int)) = false := by rw [q4]; simp
  subst q3
  try simp only [Act.put]
  go_quiet (fail)
  clear d1 d2 d3 c0 q0 x1 q1 q2
  have hBn := below_drewN (Below.refl w9.heap.size w9) nq
  have hn := h9.below hBn
  have hBw := below_drewN hB19 nq
  have hen := he.on hBw
  have hQn := hQ9.below hBn
  have hRn := hR9.below hBn
  have hmn := hm1.up (hB49.trans (hBn.mono hB49.size))
  have k0 := hRn.c0
  have k1 := hRn.c1
  have k2 := hRn.c2
  have k3 := hRn.c3
  have f1 := hQn.c1
  clear h9 hBn hQ9 hR9 hX9 hm1 hB49 hB19 hBv9 he
  generalize w9.drewN nq = wq at *
  rcases hat with ⟨hk, hc, hd, hs1, rfl, _⟩ | ⟨hk, hc, hd, hs1, rfl, _⟩ | ⟨hk, hc, hd, hs1, rfl, _⟩ | ⟨hk, hc, hd, hs1, rfl, _⟩ | ⟨_, _, _, h⟩
  ·have HR := Lib.hid (show L.ctlM a m er = { L.send tuneB with st := 2 } by unfold LS.ctlM; rw [if_neg (by rw [HT.out, HE.out]; simp), if_pos ⟨hk, by omega⟩])
   have hdo := lstarted_any m A2 c2 hn hen hsz hs
   clear hk hc hd hs1 hlen hmn hen
   unfold ctlF at f1
   unfold mtV at hdo
   go_wp2_with (with_reducible refine h_A ?_)
   (with_reducible refine hdo.mono ?_)
   rintro e w10 ⟨rfl, hst2⟩
   clear hdo
   go_wp2_with (with_reducible refine h_A ?_)
   go_end0
   exact ⟨rfl, by rw [HR.out]; exact LStep.from hBw hst2⟩
  ·have HR := Lib.hid (show L.ctlM a m er = L.tuned (m.args.getD 0 (ag0 false)).n (m.args.getD 1 (ag0 false)).n by unfold LS.ctlM; rw [if_neg (by rw [HT.out, HE.out]; simp), if_neg (by omega), if_pos ⟨hk, by omega⟩])
   have hl2 : m.args.length = 2 := by rw [hlen HE.out, hc, hd]; rfl
   have hdo := ltuned_any m A2 c2 hn hen hmn hl2 (m.args.getD 0 (ag0 false)) (m.args.getD 1 (ag0 false)) (by rw [List.getD_eq_getElem?_getD, List.getElem?_eq_getElem (by omega)]; rfl) (by rw [List.getD_eq_getElem?_getD, List.getElem?_eq_getElem (by omega)]; rfl) hsz hs
   clear hl2
   clear hk hc hd hs1 hlen hmn hen
   unfold ctlF at f1
   unfold mtV at hdo
   go_wp2_with (with_reducible refine h_A ?_)
   (with_reducible refine hdo.mono ?_)
   rintro e w10 ⟨rfl, hst2⟩
   clear hdo
   go_wp2_with (with_reducible refine h_A ?_)
   go_end0
   exact ⟨rfl, by rw [HR.out]; exact LStep.from hBw hst2⟩
  ·have HR := Lib.hid (show L.ctlM a m er = L.opened (m.args.getD 0 (ag0 false)).s by unfold LS.ctlM; rw [if_neg (by rw [HT.out, HE.out]; simp), if_neg (by omega), if_neg (by omega), if_pos ⟨hk, by omega⟩])
   have hl2 : m.args.length = 1 := by rw [hlen HE.out, hc, hd]; rfl
   have hdo := lopened_any m A2 c2 hn hen hmn hl2 (m.args.getD 0 (ag0 false)) (by rw [List.getD_eq_getElem?_getD, List.getElem?_eq_getElem (by omega)]; rfl) hsz hs
   clear hl2
   clear hk hc hd hs1 hlen hmn hen
   unfold ctlF at f1
   unfold mtV at hdo
   go_wp2_with (with_reducible refine h_A ?_)
   (with_reducible refine hdo.mono ?_)
   rintro e w10 ⟨rfl, hst2⟩
   clear hdo
   go_wp2_with (with_reducible refine h_A ?_)
   go_end0
   exact ⟨rfl, by rw [HR.out]; exact LStep.from hBw hst2⟩
  ·have HR := Lib.hid (show L.ctlM a m er = { L.send clokB with st := 5 } by unfold LS.ctlM; rw [if_neg (by rw [HT.out, HE.out]; simp), if_neg (by omega), if_neg (by omega), if_neg (by omega), if_pos hk])
   have hdo := lclosed_any m A2 c2 hn hen hsz hs
   clear hk hc hd hs1 hlen hmn hen
   unfold ctlF at f1
   unfold mtV at hdo
   go_wp2_with (with_reducible refine h_A ?_)
   (with_reducible refine hdo.mono ?_)
   rintro e w10 ⟨rfl, hst2⟩
   clear hdo
   go_wp2_with (with_reducible refine h_A ?_)
   go_end0
   exact ⟨rfl, by rw [HR.out]; exact LStep.from hBw hst2⟩
  ·cases h
 ·have HR := Lib.hid (hat.bad qq)
  clear hat
  by_cases q1 : a.track = 0
  ·have d1 : ((a.track : Int) != 0) = false := by rw [q1]; rfl
   by_cases q2 : er = 0
   ·have d2 : (er != 0) = false := by rw [q2]; rfl
    cases is
    ·clear qq q1 q2
     try simp only [Act.put]
     go_quiet (fail)
     clear d1 d2 c0 q0 x1
     have hBn := below_drewN (Below.refl w9.heap.size w9) nq
     have hn := h9.below hBn
     have hBw := below_drewN hB19 nq
     have hen := lk_end 501 controlB (by decide) (by decide) hn (he.on hBw) hsz hs
     rw [show ((501 : Nat) : Int) = 501 from rfl, show str controlB = (⟨#[99, 111, 110, 116, 114, 111, 108]⟩ : ByteArray) from rfl] at hen
     go_wp2_with (with_reducible refine h_A ?_)
     (with_reducible refine hen.mono ?_)
     rintro e w10 ⟨rfl, hst2⟩
     clear hen
     go_wp2_with (with_reducible refine h_A ?_)
     refine bodyPost_ret (results_none rfl _ _ _) rfl ?_
     exact ⟨rfl, by rw [HR.out]; exact LStep.from hBw hst2⟩
    ·have d3 : ((s : Int) != (L.st : Int)) = true := by
      have : ¬ s = L.st := fun e => qq ⟨q1, q2, rfl, e⟩
      simp; omega
     clear qq q1 q2
     try simp only [Act.put]
     go_quiet (fail)
     clear d1 d2 d3 c0 q0 x1
     have hBn := below_drewN (Below.refl w9.heap.size w9) nq
     have hn := h9.below hBn
     have hBw := below_drewN hB19 nq
     have hen := lk_end 501 controlB (by decide) (by decide) hn (he.on hBw) hsz hs
     rw [show ((501 : Nat) : Int) = 501 from rfl, show str controlB = (⟨#[99, 111, 110, 116, 114, 111, 108]⟩ : ByteArray) from rfl] at hen
     go_wp2_with (with_reducible refine h_A ?_)
     (with_reducible refine hen.mono ?_)
     rintro e w10 ⟨rfl, hst2⟩
     clear hen
     go_wp2_with (with_reducible refine h_A ?_)
     refine bodyPost_ret (results_none rfl _ _ _) rfl ?_
     exact ⟨rfl, by rw [HR.out]; exact LStep.from hBw hst2⟩
   ·have d2 : (er != 0) = true := by simpa using q2
    clear qq q1 q2
    try simp only [Act.put]
    go_quiet (fail)
    clear d1 d2 c0 q0 x1
    have hBn := below_drewN (Below.refl w9.heap.size w9) nq
    have hn := h9.below hBn
    have hBw := below_drewN hB19 nq
    have hen := lk_end 501 controlB (by decide) (by decide) hn (he.on hBw) hsz hs
    rw [show ((501 : Nat) : Int) = 501 from rfl, show str controlB = (⟨#[99, 111, 110, 116, 114, 111, 108]⟩ : ByteArray) from rfl] at hen
    go_wp2_with (with_reducible refine h_A ?_)
    (with_reducible refine hen.mono ?_)
    rintro e w10 ⟨rfl, hst2⟩
    clear hen
    go_wp2_with (with_reducible refine h_A ?_)
    refine bodyPost_ret (results_none rfl _ _ _) rfl ?_
    exact ⟨rfl, by rw [HR.out]; exact LStep.from hBw hst2⟩
  ·have d1 : ((a.track : Int) != 0) = true := by simp; omega
   clear qq q1
   try simp only [Act.put]
   go_quiet (fail)
   clear d1 c0 q0 x1
   have hBn := below_drewN (Below.refl w9.heap.size w9) nq
   have hn := h9.below hBn
   have hBw := below_drewN hB19 nq
   have hen := lk_end 501 controlB (by decide) (by decide) hn (he.on hBw) hsz hs
   rw [show ((501 : Nat) : Int) = 501 from rfl, show str controlB = (⟨#[99, 111, 110, 116, 114, 111, 108]⟩ : ByteArray) from rfl] at hen
   go_wp2_with (with_reducible refine h_A ?_)
   (with_reducible refine hen.mono ?_)
   rintro e w10 ⟨rfl, hst2⟩
   clear hen
   go_wp2_with (with_reducible refine h_A ?_)
   refine bodyPost_ret (results_none rfl _ _ _) rfl ?_
   exact ⟨rfl, by rw [HR.out]; exact LStep.from hBw hst2⟩
end Go.PH
end

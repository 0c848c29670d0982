/- Texts laid together: MdFind, MdKinds, MdLaid. -/
import Derived.Deep.DeepCutAuto
import Derived.BigQuiet
import Derived.Deep.QuietTactic
import Derived.Test.YtfbkameikhgciaaGreatDoorCards
import Derived.Test.YtfbkameikhgciaaGreatDoorTie
import Derived.Lib.LaidTab
import Derived.Test.YtfbkameikhgciaaGreatDoorMg00
import Derived.Test.YtfbkameikhgciaaGreatDoorMg01
import Derived.Test.YtfbkameikhgciaaGreatDoorMg02
import Derived.Test.YtfbkameikhgciaaGreatDoorMg07
set_option linter.all false
set_option linter.unusedSimpArgs false
set_option linter.unusedVariables false
section
/- The walks of method's table: classes, code, find, Kinds, Name. -/
namespace Go.PH
open Go.RowKit Go.Proofs

/-- what the walks want of the listed variables -/
structure MEnv (w : World) : Prop where
 mx : ∃ m : Int, w.cell? ⟨0, 0, none⟩ = some (.int .i64 m)
theorem MEnv.lt {w : World} (h : MEnv w) : 0 < w.heap.size := by
 obtain ⟨m, hm⟩ := h.mx
 exact World.block_lt_of_cell? w _ hm
theorem MEnv.on {w w' : World} (h : MEnv w) (hB : Below w.heap.size w w') : MEnv w' where
 mx := by
  have hl := h.lt
  obtain ⟨m, hm⟩ := h.mx
  exact ⟨m, (hB.cell (p := ⟨0, 0, none⟩) hl).trans hm⟩
theorem classes_any (c : Nat) (w : World) : Calls Tryz.prog 111 #[.int .u8 (c : Int)] w fun e w' => e = .returned (.tuple #[.string (str (clsWord c)), .string (str (clsText c))]) ∧ w = w' := by
 by_cases h : c = 1 ∨ c = 2 ∨ c = 3 ∨ c = 4 ∨ c = 5 ∨ c = 6 ∨ c = 8
 ·rcases h with rfl | rfl | rfl | rfl | rfl | rfl | rfl
  all_goals
   go_enter Tryz.func111, Tryz.ntmps111
   go_wp2_with (with_reducible refine h_A ?_)
   go_ret2
   exact ⟨rfl, rfl⟩
 ·have h1 : clsText c = [] ∧ clsWord c = [] := by
   constructor
   ·unfold clsText
    split
    all_goals first | rfl | (exfalso; apply h; simp)
   ·unfold clsWord
    split
    all_goals first | rfl | (exfalso; apply h; simp)
  have e1 : ((c : Int) == 1) = false := by simp; omega
  have e2 : ((c : Int) == 2) = false := by simp; omega
  have e3 : ((c : Int) == 3) = false := by simp; omega
  have e4 : ((c : Int) == 4) = false := by simp; omega
  have e5 : ((c : Int) == 5) = false := by simp; omega
  have e6 : ((c : Int) == 6) = false := by simp; omega
  have e8 : ((c : Int) == 8) = false := by simp; omega
  rw [h1.1, h1.2]
  clear h h1
  go_enter Tryz.func111, Tryz.ntmps111
  go_wp2_with (with_reducible refine h_A ?_)
  go_ret2
  exact ⟨rfl, rfl⟩
theorem code_step (n c : Nat) : IntKind.u8.wrap (IntKind.u8.wrap (IntKind.u8.wrap (10 * (n : Int)) + (c : Int)) - 48) = (((10 * n + c + 208) % 256 : Nat) : Int) := by
 simp only [IntKind.wrap_u8]; omega
theorem code_any (l : List UInt8) (w : World) (hl : l.length ≤ 1000) : Calls Tryz.prog 120 #[.string (str l)] w fun e w' => e = .returned (.int .u8 (codeM l : Int)) ∧ w = w' := by
 have hss := str_size l
 go_enter Tryz.func120, Tryz.ntmps120
 go_wp2_with (with_reducible refine h_A ?_)
 go_loop [3, 7] (fun s3 s7 => ∃ k : Nat, k ≤ l.length ∧ s7 = .int .i64 k ∧ s3 = .int .u8 ((codeM (l.take k) : Nat) : Int)) (fun _ s7 => l.length - (RowKit.intOf s7).toNat)
 case atStart => exact ⟨0, by omega, rfl, rfl⟩
 case round =>
  obtain ⟨k, hk, rfl, rfl⟩ := hrel
  by_cases hlt : k < l.length
  ·have hkn : (k : Int) < (l.length : Int) := by omega
   have hst := Lib.hid (code_step (codeM (l.take k)) l[k].toNat)
   have hsn : Hid (codeM (l.take (k + 1)) = (10 * codeM (l.take k) + l[k].toNat + 208) % 256) := Lib.hid (by rw [List.take_succ_eq_append_getElem hlt, codeM_snoc])
   have hlt9 := codeM_lt (l.take k)
   go_wp2_with (with_reducible refine h_A ?_)
   refine ⟨⟨k + 1, by omega, by go_num, ?_⟩, by simp [RowKit.intOf]; omega⟩
   rw [hsn.out]
   show Value.int IntKind.u8 (((10 * ((codeM (l.take k) : Nat) : Int) + ((l[k].toNat : Nat) : Int)) % 256 - 48) % 256) = _
   congr 1
   omega
  ·obtain rfl : k = l.length := by omega
   rw [List.take_length]
   go_wp2_with (with_reducible refine h_A ?_)
   go_ret
   exact ⟨rfl, rfl⟩
def wordO (r : Option MRow) : List UInt8 := (r.map (·.word)).getD []
def kindsO (r : Option MRow) : List UInt8 := (r.map (·.kinds)).getD []
def FindR (w : World) (r : Option MRow) (e : Ending) (w' : World) : Prop := e = .returned (.tuple #[.string (str (wordO r)), .string (str (kindsO r)), .bool r.isSome]) ∧ Below w.heap.size w w'
theorem findP_none_snoc {k : Nat} {P : List (List UInt8)} {j : Nat} (hj : j < P.length) (h : findP k (P.take j) = none) : findP k (P.take (j + 1)) = findP k [P[j]] := by
 rw [List.take_succ_eq_append_getElem hj, findP_app, h]
theorem findP_hit {k : Nat} {P : List (List UInt8)} {j : Nat} (hj : j < P.length) (h : findP k (P.take j) = none) {r : MRow} (hr : findP k [P[j]] = some r) : findP k P = some r := by
 have e : P = P.take (j + 1) ++ P.drop (j + 1) := (List.take_append_drop _ _).symm
 rw [e, findP_app, findP_none_snoc hj h, hr]
theorem findP_one3 {k : Nat} {p a b c : List UInt8} (h : cutsB 32 p = [a, b, c]) : findP k [p] = if codeM a = k then some ⟨codeM a, b, c⟩ else none := by
 unfold findP pieceM
 rw [h]
 simp only
 split <;> rfl
theorem findP_one0 {k : Nat} {p : List UInt8} (h : (cutsB 32 p).length ≠ 3) : findP k [p] = none := by
 unfold findP pieceM
 split
 ·rename_i h1
  split at h1
  ·rename_i h2; rw [h2] at h; exact absurd rfl h
  ·cases h1
 ·rfl
theorem len3 {α : Type} {l : List α} (h : l.length = 3) : ∃ a b c, l = [a, b, c] := by
 match l, h with
 | [a, b, c], _ => exact ⟨a, b, c, rfl⟩
/-- a text cut by strings.Split, at one sign -/
theorem split_any (d : UInt8) (l : List UInt8) (w : World) (he : MEnv w) (hl : l.length ≤ 100000) :
  Calls Tryz.prog 119 #[.string (str l), .string (sepS d)] w fun e w' => e = .returned (.slice (some ⟨w.heap.size, 0, none⟩) (cutsB d l).length (cutsB d l).length) ∧ w' = w.alloc (.cells ((cutsB d l).map (fun p => Value.string (str p))).toArray 9) := by
 obtain ⟨m, hm⟩ := he.mx
 have hsp := Tryz.strings_Split (str l) (sepS d) m w (by rw [str_size]; omega) hm (by show 1 ≤ 1; omega)
 rw [split_cellsd] at hsp
 have hcd : Lib.countB (str l) (sepS d) + 1 = (cutsB d l).length := by rw [count_cuts, cuts_len]
 rw [hcd] at hsp
 exact hsp
theorem strs_cell {w : World} {g : Nat} {t : TypeId} {P : List (List UInt8)} (hb : Box w g t (P.map (fun p => Value.string (str p))).toArray) {j : Nat} (hj : j < P.length) : w.cell? ⟨g, j, none⟩ = some (.string (str P[j])) := by
 refine hb.cell ?_
 simp [hj]
set_option maxRecDepth 20000 in
set_option maxHeartbeats 2000000 in
theorem find_any (c k : Nat) (w : World) (he : MEnv w) :
  Calls Tryz.prog 101 #[.int .u8 (c : Int), .int .u8 (k : Int)] w (FindR w (findM c k)) := by
 obtain ⟨RS, hRS⟩ : ∃ RS, RS = findM c k := ⟨_, rfl⟩
 rw [← hRS]
 have HRS : Hid (RS = findP k (cutsB 59 (clsText c))) := Lib.hid (by rw [hRS, findP_cls])
 obtain ⟨P, hP⟩ : ∃ P, P = cutsB 59 (clsText c) := ⟨_, rfl⟩
 have hPl : ∀ p ∈ P, p.length ≤ 200 := by
  intro p hp
  rw [hP] at hp
  have h1 := cutsB_le 59 (clsText c) p hp
  have h2 := (clsText_len c).1
  omega
 have hPn : P.length ≤ 201 := by
  have h1 : P.length = (clsText c).count 59 + 1 := by rw [hP, cuts_len]
  have h2 := (clsText_len c).1
  have h3 : (clsText c).count 59 ≤ (clsText c).length := List.count_le_length
  omega
 have hcl := classes_any c w
 have hsp := split_any 59 (clsText c) w he (by have := (clsText_len c).1; omega)
 have he0 := he
 rw [← hP] at hsp HRS
 clear hRS hP he
 have hB0 := (Below.refl w.heap.size w).alloc (Nat.le_refl _) (.cells (P.map (fun p => Value.string (str p))).toArray 9)
 have hb0 := Box.new w (P.map (fun p => Value.string (str p))).toArray 9
 go_enter Tryz.func101, Tryz.ntmps101
 go_wp2_with (with_reducible refine h_A ?_)
 refine hcl.mono ?_
 rintro e w1 ⟨rfl, rfl⟩
 go_wp2_with (with_reducible refine h_A ?_)
 refine hsp.mono ?_
 rintro e w1 ⟨rfl, rfl⟩
 clear hcl hsp
 obtain ⟨g0, hg0⟩ : ∃ g, g = w.heap.size := ⟨_, rfl⟩
 rw [← hg0] at hb0
 have hgw : g0 ≤ w.heap.size := by omega
 rw [← hg0]
 clear hg0
 generalize (w.alloc (.cells (P.map (fun p => Value.string (str p))).toArray 9)) = w1 at *
 go_wp2_with (with_reducible refine h_A ?_)
 go_loopw [20] (fun s wr => ∃ (j : Nat), j ≤ P.length ∧ s = .int .i64 j ∧ Hid (findP k (P.take j) = none) ∧ Box wr g0 9 (P.map (fun p => Value.string (str p))).toArray ∧ Below w.heap.size w wr) (fun s _ => P.length - (RowKit.intOf s).toNat)
 case atStart => exact ⟨0, by omega, rfl, Lib.hid rfl, hb0, hB0⟩
 case round =>
  obtain ⟨j, hj, rfl, HN, hb, hB⟩ := hrel
  clear hb0 hB0
  by_cases hlt : j < P.length
  ·have hjn : (j : Int) < (P.length : Int) := by omega
   have hp := hPl P[j] (List.getElem_mem hlt)
   have hc0 := strs_cell hb hlt
   have HS := Lib.hid (findP_none_snoc hlt HN.out)
   have HH : Hid (∀ r, findP k [P[j]] = some r → RS = some r) := Lib.hid (fun r hr => by rw [HRS.out]; exact findP_hit hlt HN.out hr)
   generalize P[j] = p at *
   have hsp := split_any 32 p wr (he0.on hB) (by omega)
   have hB2 := hB.alloc hB.size (.cells ((cutsB 32 p).map (fun p => Value.string (str p))).toArray 9)
   have hb2 := hb.alloc (.cells ((cutsB 32 p).map (fun p => Value.string (str p))).toArray 9)
   have hbp := Box.new wr ((cutsB 32 p).map (fun p => Value.string (str p))).toArray 9
   go_wp2_with (with_reducible refine h_A ?_)
   refine hsp.mono ?_
   rintro e w2 ⟨rfl, rfl⟩
   clear hsp hc0 hb hB
   obtain ⟨g1, hg1⟩ : ∃ g, g = wr.heap.size := ⟨_, rfl⟩
   rw [← hg1] at hbp ⊢
   clear hg1
   have HC1 : Hid ((cutsB 32 p).length ≠ 3 → findP k [p] = none) := Lib.hid (fun h => findP_one0 h)
   have HC3 : Hid (∀ a b c, cutsB 32 p = [a, b, c] → findP k [p] = if codeM a = k then some ⟨codeM a, b, c⟩ else none) := Lib.hid (fun a b c h => findP_one3 h)
   have hcl : ∀ q ∈ cutsB 32 p, q.length ≤ 1000 := fun q hq => by have := cutsB_le 32 p q hq; omega
   have hcn : (cutsB 32 p).length ≤ 1000 := by
    have h1 : (cutsB 32 p).length = p.count 32 + 1 := cuts_len p
    have h3 : p.count 32 ≤ p.length := List.count_le_length
    omega
   generalize cutsB 32 p = Q at *
   generalize (wr.alloc (.cells (Q.map (fun p => Value.string (str p))).toArray 9)) = w2 at *
   by_cases h3 : Q.length = 3
   ·obtain ⟨qa, qb, qc, rfl⟩ := len3 h3
    have k0 := hbp.c0
    have k1 := hbp.c1
    have k2 := hbp.c2
    have hla := hcl qa (by simp)
    have HQ := Lib.hid (HC3.out _ _ _ rfl)
    clear HC1 HC3 hcl h3 hbp
    have hcd := code_any qa w2 hla
    by_cases hk : codeM qa = k
    ·have HR : Hid (RS = some ⟨codeM qa, qb, qc⟩) := Lib.hid (HH.out _ (by rw [HQ.out, if_pos hk]))
     subst hk
     clear HH HQ HS HN
     go_wp2_with (with_reducible refine h_A ?_)
     refine hcd.mono ?_
     rintro e w3 ⟨rfl, rfl⟩
     clear hcd
     go_wp2_with (with_reducible refine h_A ?_)
     go_quiet (fail)
     go_wp2_with (with_reducible refine h_A ?_)
     go_ret3
     rw [HR.out]
     exact ⟨rfl, below_drewN hB2 _⟩
    ·have HN2 : Hid (findP k (P.take (j + 1)) = none) := Lib.hid (by rw [HS.out, HQ.out, if_neg hk])
     have hk' : ((codeM qa : Int) == (k : Int)) = false := by simp; omega
     clear HH HQ HS HN hk
     go_wp2_with (with_reducible refine h_A ?_)
     refine hcd.mono ?_
     rintro e w3 ⟨rfl, rfl⟩
     clear hcd
     go_wp2_with (with_reducible refine h_A ?_)
     exact ⟨⟨j + 1, by omega, by go_num, HN2, hb2, hB2⟩, by simp [RowKit.intOf]; omega⟩
   ·have HN2 : Hid (findP k (P.take (j + 1)) = none) := Lib.hid (by rw [HS.out, HC1.out h3])
    have h3' : ((Q.length : Int) == 3) = false := by simp; omega
    clear HH HS HN HC1 HC3 hcl hbp h3
    go_wp2_with (with_reducible refine h_A ?_)
    exact ⟨⟨j + 1, by omega, by go_num, HN2, hb2, hB2⟩, by simp [RowKit.intOf]; omega⟩
  ·obtain rfl : j = P.length := by omega
   have HR : Hid (RS = none) := Lib.hid (by rw [HRS.out]; have := HN.out; rwa [List.take_length] at this)
   clear HN
   go_wp2_with (with_reducible refine h_A ?_)
   go_ret3
   rw [HR.out]
   exact ⟨rfl, hB⟩
end Go.PH
end
section
/- The walk of method's Kinds. -/
namespace Go.PH
open Go.RowKit Go.Proofs

theorem kinds_any (c k : Nat) (w : World) (he : MEnv w) :
  Calls Tryz.prog 69 #[.int .u8 (c : Int), .int .u8 (k : Int)] w fun e w' => e = .returned (.tuple #[.string (str (kindsO (findM c k))), .bool (findM c k).isSome]) ∧ Below w.heap.size w w' := by
 have hf := find_any c k w he
 generalize findM c k = r at *
 unfold FindR at hf
 generalize kindsO r = kd at *
 generalize wordO r = wd at *
 generalize r.isSome = is at *
 go_enter Tryz.func69, Tryz.ntmps69
 go_wp2_with (with_reducible refine h_A ?_)
 refine hf.mono ?_
 rintro e w1 ⟨rfl, hB⟩
 go_wp2_with (with_reducible refine h_A ?_)
 go_ret2
 exact ⟨rfl, hB⟩
end Go.PH
end
section
/- The listed variables of methods: what the row's list gives, and a world for the witness. -/
namespace Go.Proofs.YtfbkameikhgciaaGreatDoor
open Go.PH Go.RowKit Go.ChangeShapes Go.WideShapes Go.ChangeAt

theorem own : ownKnob Tryz.prog.godebug = none := by kernel_rfl
theorem laidOut : laidOutB Tryz.prog = true := by kernel_rfl
def utfList : List (String × DataW Unit) := [("unicode/utf8.acceptRanges", Rows.laid_unicode_utf8_acceptRanges), ("unicode/utf8.first", Rows.laid_unicode_utf8_first)]
theorem env {W : World} (h : laidMetH Tryz.prog utfList W) (hsh : W.ShapedOpen Tryz.prog) : MEnv W := ⟨Tryz.laysM146.s1_3 W hsh⟩
/-! A world for the witness: each listed variable as its initialiser lays it. -/
def u8s (l : List Nat) : Array Value := (l.map fun (n : Nat) => Value.int .u8 (n : Int)).toArray
def accN : List Nat := [128, 191, 160, 191, 128, 159, 144, 191, 128, 143, 0, 0, 0, 0, 0, 0, 0, 0, 0, 0, 0, 0, 0, 0, 0, 0, 0, 0, 0, 0, 0, 0]
def withCells (h : Array Obj) (g : Nat) (cs : Array Value) : Array Obj := h.modify g fun
 | .cells _ t frozen => .cells cs t frozen
 | o => o
noncomputable def wit (os : Os) : World :=
 let w0 := World.holding Tryz.prog os ⟨#[], #[], []⟩
 { w0 with heap := withCells (withCells w0.heap 2 (u8s accN)) 1 (u8s Go.Pinned.utf8FirstZ) }
theorem utf_met (os : Os) (args : Array Value) : laidMet Tryz.prog utfList ((wit os).forCall (fun _ _ => 0) ⟨#[], args, []⟩).memory :=
 laidMet_of_run' 8 (by kernel_rfl) (by kernel_rfl)
end Go.Proofs.YtfbkameikhgciaaGreatDoor
end

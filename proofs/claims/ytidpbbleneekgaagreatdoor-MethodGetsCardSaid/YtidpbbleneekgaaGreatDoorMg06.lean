/- Texts laid together: MdSplit, MdFind, MdKinds, MdLaid, MdTab, MdRef, VlMath, VlMem. -/
import Derived.Lib.SplitLaws
import Derived.Deep.DeepCutAuto
import Derived.BigQuiet
import Derived.Deep.QuietTactic
import Derived.Test.YtidpbbleneekgaaGreatDoorCards
import Derived.Test.YtidpbbleneekgaaGreatDoorTie
import Derived.Lib.LaidTab
import Derived.Test.YtidpbbleneekgaaGreatDoorMg00
import Derived.Test.YtidpbbleneekgaaGreatDoorMg01
import Derived.Test.YtidpbbleneekgaaGreatDoorMg02
import Derived.Test.YtidpbbleneekgaaGreatDoorMg05
set_option linter.all false
set_option linter.unusedSimpArgs false
set_option linter.unusedVariables false
section
/- Rows of methods as one text: how it is cut, how a code is read. -/
namespace Go.PH

/-- a text cut at a sign -/
def cutsB (d : UInt8) : List UInt8 → List (List UInt8)
 | [] => [[]]
 | c :: r => if c = d then [] :: cutsB d r else
  match cutsB d r with
  | h :: t => (c :: h) :: t
  | [] => [[c]]
theorem cutsB_one {d : UInt8} : ∀ {a : List UInt8}, d ∉ a → cutsB d a = [a]
 | [], _ => rfl
 | c :: a, h => by
  have hc : c ≠ d := fun e => h (by simp [e])
  have ih := cutsB_one (a := a) (fun e => h (List.mem_cons_of_mem _ e))
  rw [cutsB, if_neg hc, ih]
theorem cutsB_more {d : UInt8} : ∀ {a : List UInt8} (r : List UInt8), d ∉ a → cutsB d (a ++ d :: r) = a :: cutsB d r
 | [], r, _ => by simp [cutsB]
 | c :: a, r, h => by
  have hc : c ≠ d := fun e => h (by simp [e])
  have ih := cutsB_more (a := a) r (fun e => h (List.mem_cons_of_mem _ e))
  rw [List.cons_append, cutsB, if_neg hc, ih]
theorem indexByte_atd : ∀ {a : List UInt8} {c : UInt8} (r : List UInt8), c ∉ a → Lib.indexByte (a ++ c :: r) c = (a.length : Int)
 | [], c, r, _ => by simp [Lib.indexByte]
 | b :: a, c, r, h => by
  have hb : (b == c) = false := by simp; exact fun e => h (by simp [e])
  have ih := indexByte_atd (a := a) (c := c) r (fun e => h (by simp [e]))
  rw [List.cons_append, Lib.indexByte, hb, ih]
  have : ((a.length : Int) == -1) = false := by rw [beq_eq_false_iff_ne]; omega
  simp [this]
def sepS (d : UInt8) : ByteArray := ⟨#[d]⟩
theorem split_cuts {d : UInt8} : ∀ (k : Nat) (l : List UInt8), l.count d = k → (Lib.splitB (sepS d) 0 k (str l)).map (fun b => b.data.toList) = cutsB d l
 | 0, l, h => by
  rw [Lib.splitB_zero, cutsB_one (List.count_eq_zero.1 h)]; rfl
 | k + 1, l, h => by
  have hm : d ∈ l := List.count_pos_iff.1 (by omega)
  obtain ⟨a, r, rfl, ha⟩ := List.eq_append_cons_of_mem hm
  have hc : r.count d = k := by
   rw [List.count_append, List.count_cons_self, List.count_eq_zero.2 ha] at h; omega
  have hi : Lib.indexB (str (a ++ d :: r)) (sepS d) = (a.length : Int) := by
   show Lib.index (a ++ d :: r) [d] = _
   rw [Lib.index_one, indexByte_atd r ha]
  rw [Lib.splitB_hit (sepS d) 0 k _ a.length hi, List.map_cons, cutsB_more r ha]
  have e1 : (str (a ++ d :: r)).extract (a.length + (sepS d).size) (str (a ++ d :: r)).size = str r := by
   rw [str_size, str_extract]
   congr 1
   rw [List.take_of_length_le (Nat.le_refl _)]
   show (a ++ d :: r).drop (a.length + 1) = r
   rw [← List.drop_drop, List.drop_left]
   rfl
  have e2 : ((str (a ++ d :: r)).extract 0 (a.length + 0)).data.toList = a := by
   rw [str_extract, Nat.add_zero, List.take_left, List.drop_zero]; rfl
  rw [e1, e2, split_cuts k r hc]
theorem count_cuts {d : UInt8} (l : List UInt8) : Lib.countB (str l) (sepS d) = l.count d := by
 show Lib.count l [d] = _
 exact Lib.count_one d l
theorem cuts_len {d : UInt8} (l : List UInt8) : (cutsB d l).length = l.count d + 1 := by
 rw [← split_cuts _ l rfl, List.length_map]
 exact Lib.splitB_all (sepS d) (by show 1 ≤ 1; omega) 0 _ _ (count_cuts l)
theorem split_cellsd {d : UInt8} (l : List UInt8) : (Lib.splitB (sepS d) 0 (Lib.countB (str l) (sepS d)) (str l)).map Value.string = (cutsB d l).map (fun p => Value.string (str p)) := by
 rw [count_cuts, ← split_cuts _ l rfl, List.map_map]
 rfl

/-- a code's digits, read as the program does, in eight bits -/
def codeM (l : List UInt8) : Nat := l.foldl (fun n c => (10 * n + c.toNat + 208) % 256) 0
def pieceM (p : List UInt8) : Option MRow := match cutsB 32 p with
 | [a, b, c] => some ⟨codeM a, b, c⟩
 | _ => none
/-- the first piece that is of a code -/
def findP (k : Nat) : List (List UInt8) → Option MRow
 | [] => none
 | p :: l => match pieceM p with
  | some r => if r.code = k then some r else findP k l
  | none => findP k l
theorem findP_app (k : Nat) (a b : List (List UInt8)) : findP k (a ++ b) = match findP k a with
 | some r => some r
 | none => findP k b := by
 induction a with
 | nil => rfl
 | cons p a ih =>
  simp only [List.cons_append, findP]
  cases pieceM p with
  | none => exact ih
  | some r =>
   simp only
   by_cases h : r.code = k
   ·rw [if_pos h, if_pos h]
   ·rw [if_neg h, if_neg h]; exact ih
theorem pieces_of (k : Nat) : ∀ l : List (List UInt8), findP k l = (l.filterMap pieceM).find? fun r => decide (r.code = k)
 | [] => rfl
 | p :: l => by
  have ih := pieces_of k l
  rw [findP, List.filterMap_cons]
  cases pieceM p with
  | none => exact ih
  | some r =>
   by_cases h : r.code = k
   ·simp [h]
   ·simp only [h, if_false, List.find?_cons, decide_false]
    exact ih
theorem cls_pieces (c : Nat) : (cutsB 59 (clsText c)).filterMap pieceM = clsRows c := by
 by_cases h : c = 1 ∨ c = 2 ∨ c = 3 ∨ c = 4 ∨ c = 5 ∨ c = 6 ∨ c = 8
 ·rcases h with rfl | rfl | rfl | rfl | rfl | rfl | rfl <;> decide +kernel
 ·have h1 : clsRows c = [] := by
   cases hc : clsRows c with
   | nil => rfl
   | cons _ _ => exact absurd (cls_of (by rw [hc]; simp)) h
  have h2 : clsText c = [] := by
   unfold clsText
   split
   all_goals first | rfl | (exfalso; apply h; simp)
  rw [h1, h2]
  decide +kernel
theorem findP_cls (c k : Nat) : findP k (cutsB 59 (clsText c)) = findM c k := by rw [pieces_of, cls_pieces]; rfl
theorem codeM_lt (l : List UInt8) : codeM l < 256 := by
 unfold codeM
 rcases List.eq_nil_or_concat l with rfl | ⟨m, x, rfl⟩
 ·decide
 ·rw [List.concat_eq_append, List.foldl_append]
  exact Nat.mod_lt _ (by decide)
theorem codeM_snoc (l : List UInt8) (c : UInt8) : codeM (l ++ [c]) = (10 * codeM l + c.toNat + 208) % 256 := by simp [codeM]
theorem clsText_len (c : Nat) : (clsText c).length ≤ 200 ∧ (clsWord c).length ≤ 20 := by
 unfold clsText clsWord
 constructor <;> split <;> decide +kernel
theorem cutsB_le (d : UInt8) : ∀ (l : List UInt8), ∀ p ∈ cutsB d l, p.length ≤ l.length
 | [], p, hp => by simp [cutsB] at hp; subst hp; simp
 | c :: r, p, hp => by
  have ih := cutsB_le d r
  rw [cutsB] at hp
  split at hp
  ·rcases List.mem_cons.1 hp with rfl | hp
   ·simp
   ·have := ih p hp; simp; omega
  ·cases hd : cutsB d r with
   | nil => rw [hd] at hp; simp at hp; subst hp; simp
   | cons h t =>
    rw [hd] at hp ih
    rcases List.mem_cons.1 hp with rfl | hp
    ·have := ih h (List.mem_cons_self ..); simp; omega
    ·have := ih p (List.mem_cons_of_mem _ hp); simp; omega
end Go.PH
end
section
/- The walks of method's table: classes, code, find, Kinds, Name. -/
namespace Go.PH
open Go.RowKit Go.Proofs

/-- what the walks want of the listed variables -/
structure MEnv (w : World) : Prop where
 mx : ∃ m : Int, w.cell? ⟨0, 0, none⟩ = some (.int .i64 m)
theorem MEnv.lt {w : World} (h : MEnv w) : 0 < w.heap.size := by
 obtain ⟨m, hm⟩ := h.mx
 exact World.block_lt_of_cell? w _ hm
theorem MEnv.on {w w' : World} (h : MEnv w) (hB : Below w.heap.size w w') : MEnv w' where
 mx := by
  have hl := h.lt
  obtain ⟨m, hm⟩ := h.mx
  exact ⟨m, (hB.cell (p := ⟨0, 0, none⟩) hl).trans hm⟩
theorem classes_any (c : Nat) (w : World) : Calls Tryz.prog 75 #[.int .u8 (c : Int)] w fun e w' => e = .returned (.tuple #[.string (str (clsWord c)), .string (str (clsText c))]) ∧ w = w' := by
 by_cases h : c = 1 ∨ c = 2 ∨ c = 3 ∨ c = 4 ∨ c = 5 ∨ c = 6 ∨ c = 8
 ·rcases h with rfl | rfl | rfl | rfl | rfl | rfl | rfl
  all_goals
   go_enter Tryz.func75, Tryz.ntmps75
   go_wp2_with (with_reducible refine h_A ?_)
   go_ret2
   exact ⟨rfl, rfl⟩
 ·have h1 : clsText c = [] ∧ clsWord c = [] := by
   constructor
   ·unfold clsText
    split
    all_goals first | rfl | (exfalso; apply h; simp)
   ·unfold clsWord
    split
    all_goals first | rfl | (exfalso; apply h; simp)
  have e1 : ((c : Int) == 1) = false := by simp; omega
  have e2 : ((c : Int) == 2) = false := by simp; omega
  have e3 : ((c : Int) == 3) = false := by simp; omega
  have e4 : ((c : Int) == 4) = false := by simp; omega
  have e5 : ((c : Int) == 5) = false := by simp; omega
  have e6 : ((c : Int) == 6) = false := by simp; omega
  have e8 : ((c : Int) == 8) = false := by simp; omega
  rw [h1.1, h1.2]
  clear h h1
  go_enter Tryz.func75, Tryz.ntmps75
  go_wp2_with (with_reducible refine h_A ?_)
  go_ret2
  exact ⟨rfl, rfl⟩
theorem code_step (n c : Nat) : IntKind.u8.wrap (IntKind.u8.wrap (IntKind.u8.wrap (10 * (n : Int)) + (c : Int)) - 48) = (((10 * n + c + 208) % 256 : Nat) : Int) := by
 simp only [IntKind.wrap_u8]; omega
theorem code_any (l : List UInt8) (w : World) (hl : l.length ≤ 1000) : Calls Tryz.prog 77 #[.string (str l)] w fun e w' => e = .returned (.int .u8 (codeM l : Int)) ∧ w = w' := by
 have hss := str_size l
 go_enter Tryz.func77, Tryz.ntmps77
 go_wp2_with (with_reducible refine h_A ?_)
 go_loop [3, 7] (fun s3 s7 => ∃ k : Nat, k ≤ l.length ∧ s7 = .int .i64 k ∧ s3 = .int .u8 ((codeM (l.take k) : Nat) : Int)) (fun _ s7 => l.length - (RowKit.intOf s7).toNat)
 case atStart => exact ⟨0, by omega, rfl, rfl⟩
 case round =>
  obtain ⟨k, hk, rfl, rfl⟩ := hrel
  by_cases hlt : k < l.length
  ·have hkn : (k : Int) < (l.length : Int) := by omega
   have hst := Lib.hid (code_step (codeM (l.take k)) l[k].toNat)
   have hsn : Hid (codeM (l.take (k + 1)) = (10 * codeM (l.take k) + l[k].toNat + 208) % 256) := Lib.hid (by rw [List.take_succ_eq_append_getElem hlt, codeM_snoc])
   have hlt9 := codeM_lt (l.take k)
   go_wp2_with (with_reducible refine h_A ?_)
   refine ⟨⟨k + 1, by omega, by go_num, ?_⟩, by simp [RowKit.intOf]; omega⟩
   rw [hsn.out]
   show Value.int IntKind.u8 (((10 * ((codeM (l.take k) : Nat) : Int) + ((l[k].toNat : Nat) : Int)) % 256 - 48) % 256) = _
   congr 1
   omega
  ·obtain rfl : k = l.length := by omega
   rw [List.take_length]
   go_wp2_with (with_reducible refine h_A ?_)
   go_ret
   exact ⟨rfl, rfl⟩
def wordO (r : Option MRow) : List UInt8 := (r.map (·.word)).getD []
def kindsO (r : Option MRow) : List UInt8 := (r.map (·.kinds)).getD []
def FindR (w : World) (r : Option MRow) (e : Ending) (w' : World) : Prop := e = .returned (.tuple #[.string (str (wordO r)), .string (str (kindsO r)), .bool r.isSome]) ∧ Below w.heap.size w w'
theorem findP_none_snoc {k : Nat} {P : List (List UInt8)} {j : Nat} (hj : j < P.length) (h : findP k (P.take j) = none) : findP k (P.take (j + 1)) = findP k [P[j]] := by
 rw [List.take_succ_eq_append_getElem hj, findP_app, h]
theorem findP_hit {k : Nat} {P : List (List UInt8)} {j : Nat} (hj : j < P.length) (h : findP k (P.take j) = none) {r : MRow} (hr : findP k [P[j]] = some r) : findP k P = some r := by
 have e : P = P.take (j + 1) ++ P.drop (j + 1) := (List.take_append_drop _ _).symm
 rw [e, findP_app, findP_none_snoc hj h, hr]
theorem findP_one3 {k : Nat} {p a b c : List UInt8} (h : cutsB 32 p = [a, b, c]) : findP k [p] = if codeM a = k then some ⟨codeM a, b, c⟩ else none := by
 unfold findP pieceM
 rw [h]
 simp only
 split <;> rfl
theorem findP_one0 {k : Nat} {p : List UInt8} (h : (cutsB 32 p).length ≠ 3) : findP k [p] = none := by
 unfold findP pieceM
 split
 ·rename_i h1
  split at h1
  ·rename_i h2; rw [h2] at h; exact absurd rfl h
  ·cases h1
 ·rfl
theorem len3 {α : Type} {l : List α} (h : l.length = 3) : ∃ a b c, l = [a, b, c] := by
 match l, h with
 | [a, b, c], _ => exact ⟨a, b, c, rfl⟩
/-- a text cut by strings.Split, at one sign -/
theorem split_any (d : UInt8) (l : List UInt8) (w : World) (he : MEnv w) (hl : l.length ≤ 100000) :
  Calls Tryz.prog 76 #[.string (str l), .string (sepS d)] w fun e w' => e = .returned (.slice (some ⟨w.heap.size, 0, none⟩) (cutsB d l).length (cutsB d l).length) ∧ w' = w.alloc (.cells ((cutsB d l).map (fun p => Value.string (str p))).toArray 9) := by
 obtain ⟨m, hm⟩ := he.mx
 have hsp := Tryz.strings_Split (str l) (sepS d) m w (by rw [str_size]; omega) hm (by show 1 ≤ 1; omega)
 rw [split_cellsd] at hsp
 have hcd : Lib.countB (str l) (sepS d) + 1 = (cutsB d l).length := by rw [count_cuts, cuts_len]
 rw [hcd] at hsp
 exact hsp
theorem strs_cell {w : World} {g : Nat} {t : TypeId} {P : List (List UInt8)} (hb : Box w g t (P.map (fun p => Value.string (str p))).toArray) {j : Nat} (hj : j < P.length) : w.cell? ⟨g, j, none⟩ = some (.string (str P[j])) := by
 refine hb.cell ?_
 simp [hj]
set_option maxRecDepth 20000 in
set_option maxHeartbeats 2000000 in
theorem find_any (c k : Nat) (w : World) (he : MEnv w) :
  Calls Tryz.prog 34 #[.int .u8 (c : Int), .int .u8 (k : Int)] w (FindR w (findM c k)) := by
 obtain ⟨RS, hRS⟩ : ∃ RS, RS = findM c k := ⟨_, rfl⟩
 rw [← hRS]
 have HRS : Hid (RS = findP k (cutsB 59 (clsText c))) := Lib.hid (by rw [hRS, findP_cls])
 obtain ⟨P, hP⟩ : ∃ P, P = cutsB 59 (clsText c) := ⟨_, rfl⟩
 have hPl : ∀ p ∈ P, p.length ≤ 200 := by
  intro p hp
  rw [hP] at hp
  have h1 := cutsB_le 59 (clsText c) p hp
  have h2 := (clsText_len c).1
  omega
 have hPn : P.length ≤ 201 := by
  have h1 : P.length = (clsText c).count 59 + 1 := by rw [hP, cuts_len]
  have h2 := (clsText_len c).1
  have h3 : (clsText c).count 59 ≤ (clsText c).length := List.count_le_length
  omega
 have hcl := classes_any c w
 have hsp := split_any 59 (clsText c) w he (by have := (clsText_len c).1; omega)
 have he0 := he
 rw [← hP] at hsp HRS
 clear hRS hP he
 have hB0 := (Below.refl w.heap.size w).alloc (Nat.le_refl _) (.cells (P.map (fun p => Value.string (str p))).toArray 9)
 have hb0 := Box.new w (P.map (fun p => Value.string (str p))).toArray 9
 go_enter Tryz.func34, Tryz.ntmps34
 go_wp2_with (with_reducible refine h_A ?_)
 refine hcl.mono ?_
 rintro e w1 ⟨rfl, rfl⟩
 go_wp2_with (with_reducible refine h_A ?_)
 refine hsp.mono ?_
 rintro e w1 ⟨rfl, rfl⟩
 clear hcl hsp
 obtain ⟨g0, hg0⟩ : ∃ g, g = w.heap.size := ⟨_, rfl⟩
 rw [← hg0] at hb0
 have hgw : g0 ≤ w.heap.size := by omega
 rw [← hg0]
 clear hg0
 generalize (w.alloc (.cells (P.map (fun p => Value.string (str p))).toArray 9)) = w1 at *
 go_wp2_with (with_reducible refine h_A ?_)
 go_loopw [20] (fun s wr => ∃ (j : Nat), j ≤ P.length ∧ s = .int .i64 j ∧ Hid (findP k (P.take j) = none) ∧ Box wr g0 9 (P.map (fun p => Value.string (str p))).toArray ∧ Below w.heap.size w wr) (fun s _ => P.length - (RowKit.intOf s).toNat)
 case atStart => exact ⟨0, by omega, rfl, Lib.hid rfl, hb0, hB0⟩
 case round =>
  obtain ⟨j, hj, rfl, HN, hb, hB⟩ := hrel
  clear hb0 hB0
  by_cases hlt : j < P.length
  ·have hjn : (j : Int) < (P.length : Int) := by omega
   have hp := hPl P[j] (List.getElem_mem hlt)
   have hc0 := strs_cell hb hlt
   have HS := Lib.hid (findP_none_snoc hlt HN.out)
   have HH : Hid (∀ r, findP k [P[j]] = some r → RS = some r) := Lib.hid (fun r hr => by rw [HRS.out]; exact findP_hit hlt HN.out hr)
   generalize P[j] = p at *
   have hsp := split_any 32 p wr (he0.on hB) (by omega)
   have hB2 := hB.alloc hB.size (.cells ((cutsB 32 p).map (fun p => Value.string (str p))).toArray 9)
   have hb2 := hb.alloc (.cells ((cutsB 32 p).map (fun p => Value.string (str p))).toArray 9)
   have hbp := Box.new wr ((cutsB 32 p).map (fun p => Value.string (str p))).toArray 9
   go_wp2_with (with_reducible refine h_A ?_)
   refine hsp.mono ?_
   rintro e w2 ⟨rfl, rfl⟩
   clear hsp hc0 hb hB
   obtain ⟨g1, hg1⟩ : ∃ g, g = wr.heap.size := ⟨_, rfl⟩
   rw [← hg1] at hbp ⊢
   clear hg1
   have HC1 : Hid ((cutsB 32 p).length ≠ 3 → findP k [p] = none) := Lib.hid (fun h => findP_one0 h)
   have HC3 : Hid (∀ a b c, cutsB 32 p = [a, b, c] → findP k [p] = if codeM a = k then some ⟨codeM a, b, c⟩ else none) := Lib.hid (fun a b c h => findP_one3 h)
   have hcl : ∀ q ∈ cutsB 32 p, q.length ≤ 1000 := fun q hq => by have := cutsB_le 32 p q hq; omega
   have hcn : (cutsB 32 p).length ≤ 1000 := by
    have h1 : (cutsB 32 p).length = p.count 32 + 1 := cuts_len p
    have h3 : p.count 32 ≤ p.length := List.count_le_length
    omega
   generalize cutsB 32 p = Q at *
   generalize (wr.alloc (.cells (Q.map (fun p => Value.string (str p))).toArray 9)) = w2 at *
   by_cases h3 : Q.length = 3
   ·obtain ⟨qa, qb, qc, rfl⟩ := len3 h3
    have k0 := hbp.c0
    have k1 := hbp.c1
    have k2 := hbp.c2
    have hla := hcl qa (by simp)
    have HQ := Lib.hid (HC3.out _ _ _ rfl)
    clear HC1 HC3 hcl h3 hbp
    have hcd := code_any qa w2 hla
    by_cases hk : codeM qa = k
    ·have HR : Hid (RS = some ⟨codeM qa, qb, qc⟩) := Lib.hid (HH.out _ (by rw [HQ.out, if_pos hk]))
     subst hk
     clear HH HQ HS HN
     go_wp2_with (with_reducible refine h_A ?_)
     refine hcd.mono ?_
     rintro e w3 ⟨rfl, rfl⟩
     clear hcd
     go_wp2_with (with_reducible refine h_A ?_)
     go_quiet (fail)
     go_wp2_with (with_reducible refine h_A ?_)
     go_ret3
     rw [HR.out]
     exact ⟨rfl, below_drewN hB2 _⟩
    ·have HN2 : Hid (findP k (P.take (j + 1)) = none) := Lib.hid (by rw [HS.out, HQ.out, if_neg hk])
     have hk' : ((codeM qa : Int) == (k : Int)) = false := by simp; omega
     clear HH HQ HS HN hk
     go_wp2_with (with_reducible refine h_A ?_)
     refine hcd.mono ?_
     rintro e w3 ⟨rfl, rfl⟩
     clear hcd
     go_wp2_with (with_reducible refine h_A ?_)
     exact ⟨⟨j + 1, by omega, by go_num, HN2, hb2, hB2⟩, by simp [RowKit.intOf]; omega⟩
   ·have HN2 : Hid (findP k (P.take (j + 1)) = none) := Lib.hid (by rw [HS.out, HC1.out h3])
    have h3' : ((Q.length : Int) == 3) = false := by simp; omega
    clear HH HS HN HC1 HC3 hcl hbp h3
    go_wp2_with (with_reducible refine h_A ?_)
    exact ⟨⟨j + 1, by omega, by go_num, HN2, hb2, hB2⟩, by simp [RowKit.intOf]; omega⟩
  ·obtain rfl : j = P.length := by omega
   have HR : Hid (RS = none) := Lib.hid (by rw [HRS.out]; have := HN.out; rwa [List.take_length] at this)
   clear HN
   go_wp2_with (with_reducible refine h_A ?_)
   go_ret3
   rw [HR.out]
   exact ⟨rfl, hB⟩
end Go.PH
end
section
/- The walk of method's Kinds. -/
namespace Go.PH
open Go.RowKit Go.Proofs

theorem kinds_any (c k : Nat) (w : World) (he : MEnv w) :
  Calls Tryz.prog 16 #[.int .u8 (c : Int), .int .u8 (k : Int)] w fun e w' => e = .returned (.tuple #[.string (str (kindsO (findM c k))), .bool (findM c k).isSome]) ∧ Below w.heap.size w w' := by
 have hf := find_any c k w he
 generalize findM c k = r at *
 unfold FindR at hf
 generalize kindsO r = kd at *
 generalize wordO r = wd at *
 generalize r.isSome = is at *
 go_enter Tryz.func16, Tryz.ntmps16
 go_wp2_with (with_reducible refine h_A ?_)
 refine hf.mono ?_
 rintro e w1 ⟨rfl, hB⟩
 go_wp2_with (with_reducible refine h_A ?_)
 go_ret2
 exact ⟨rfl, hB⟩
end Go.PH
end
section
/- The listed variables of methods: what the row's list gives, and a world for the witness. -/
namespace Go.Proofs.YtidpbbleneekgaaGreatDoor
open Go.PH Go.RowKit Go.ChangeShapes Go.WideShapes Go.ChangeAt

theorem own : ownKnob Tryz.prog.godebug = none := by kernel_rfl
theorem laidOut : laidOutB Tryz.prog = true := by kernel_rfl
def utfList : List (String × DataW Unit) := [("unicode/utf8.acceptRanges", Rows.laid_unicode_utf8_acceptRanges), ("unicode/utf8.first", Rows.laid_unicode_utf8_first)]
theorem env {W : World} (h : laidMetH Tryz.prog utfList W) (hsh : W.ShapedOpen Tryz.prog) : MEnv W := ⟨Tryz.laysM146.s1_3 W hsh⟩
/-! A world for the witness: each listed variable as its initialiser lays it. -/
def u8s (l : List Nat) : Array Value := (l.map fun (n : Nat) => Value.int .u8 (n : Int)).toArray
def accN : List Nat := [128, 191, 160, 191, 128, 159, 144, 191, 128, 143, 0, 0, 0, 0, 0, 0, 0, 0, 0, 0, 0, 0, 0, 0, 0, 0, 0, 0, 0, 0, 0, 0]
def withCells (h : Array Obj) (g : Nat) (cs : Array Value) : Array Obj := h.modify g fun
 | .cells _ t frozen => .cells cs t frozen
 | o => o
noncomputable def wit (os : Os) : World :=
 let w0 := World.holding Tryz.prog os ⟨#[], #[], []⟩
 { w0 with heap := withCells (withCells w0.heap 2 (u8s accN)) 1 (u8s Go.Pinned.utf8FirstZ) }
theorem utf_met (os : Os) (args : Array Value) : laidMet Tryz.prog utfList ((wit os).forCall (fun _ _ => 0) ⟨#[], args, []⟩).memory :=
 laidMet_of_run' 8 (by kernel_rfl) (by kernel_rfl)
end Go.Proofs.YtidpbbleneekgaaGreatDoor
end
section
/- The document's table as a row of memory; the walk of Table. -/
namespace Go.PH
open Go.RowKit Go.Proofs

def rrC (r : RRow) : List Value := [.int .u8 (r.cls : Int), .int .u8 (r.code : Int), .string (str r.name), .string (str r.kinds)]
def rrV (r : RRow) : Array Value := #[.int .u8 (r.cls : Int), .int .u8 (r.code : Int), .string (str r.name), .string (str r.kinds)]
def rr0 : RRow := ⟨0, 0, [], []⟩
theorem rrShape : RecShape rrC 4 where
 len _ := rfl
 one a u hu := by simp [rrC] at hu; rcases hu with rfl | rfl | rfl | rfl <;> rfl
 pos := by omega
def tabCells : Array Value := (rowC rrC refTab).toArray
theorem tab_cell {w : World} {g : Nat} {t : TypeId} (hb : Box w g t tabCells) {j : Nat} (hj : j < refTab.length) : ∀ i u, (rrC refTab[j])[i]? = some u → w.cell? ⟨g, j * 4 + i, none⟩ = some u := fun i u hu => by
 refine hb.cell ?_
 have hi : i < 4 := by have := (List.getElem?_eq_some_iff.1 hu).1; rwa [rrShape.len] at this
 have := rowC_get rrShape refTab j hj i hi
 rw [hu] at this
 simpa [tabCells] using this
theorem oper_of_run {P : Program} {o : Oper} {a : Act} {w w' : World} {K : Act → World → Prop} {Q : Exit → Act → World → Prop} {v : Value} (h : (execOp a.eval o).run P w = .ok (.value v) w') (hk : K (a.put o.dst v) w') : o.wp P a w K Q := by
 unfold Oper.wp
 simp only [h]
 exact hk
set_option maxRecDepth 100000 in
set_option maxHeartbeats 4000000 in
theorem table_any (w : World) : Calls Tryz.prog 49 #[] w fun e w' => e = .returned (.slice (some ⟨w.heap.size, 0, none⟩) 44 44) ∧ w' = w.alloc (.cells tabCells 68) := by
 have ht : Hid (tabCells = (rowC rrC refTab).toArray) := Lib.hid rfl
 go_enter Tryz.func49, Tryz.ntmps49
 go_wp2_with (with_reducible refine h_A ?_)
 rename_i Q1 K1 h1 K0 h0
 refine oper_of_run (v := .slice (some ⟨w.heap.size, 0, none⟩) 44 44) (w' := w.alloc (.cells tabCells 68)) (by kernel_rfl) ?_
 refine h0 _ _ ?_
 clear h0 K0
 go_wp2_with (with_reducible refine h_A ?_)
 go_ret
 exact ⟨rfl, rfl⟩
end Go.PH
end
section
/- The walks of the document's Find, Named. -/
namespace Go.PH
open Go.RowKit Go.Proofs

theorem rr_one {a b : Int} {g h : ByteArray} : ∀ u ∈ [Value.int .u8 a, .int .u8 b, .string g, .string h], u.oneCell' = true := by
 intro u hu
 simp at hu; rcases hu with rfl | rfl | rfl | rfl <;> rfl
def RFindR (w : World) (r : Option RRow) (e : Ending) (w' : World) : Prop := e = .returned (.tuple #[.agg (rrV (r.getD rr0)), .bool r.isSome]) ∧ Below w.heap.size w w'
theorem find_take {α : Type} {p : α → Bool} {l : List α} {j : Nat} (hj : j < l.length) (h : (l.take j).find? p = none) : (p l[j] = true → l.find? p = some l[j]) ∧ (p l[j] = false → (l.take (j + 1)).find? p = none) := by
 constructor
 ·intro hp
  have e : l.find? p = (l.take j ++ l.drop j).find? p := by rw [List.take_append_drop]
  rw [e, List.find?_append, h, Option.none_or, List.drop_eq_getElem_cons hj, List.find?_cons, hp]
 ·intro hp
  rw [List.take_succ_eq_append_getElem hj, List.find?_append, h]
  simp [hp]
set_option maxRecDepth 20000 in
set_option maxHeartbeats 2000000 in
theorem rfind_any (c k : Nat) (w : World) : Calls Tryz.prog 23 #[.int .u8 (c : Int), .int .u8 (k : Int)] w (RFindR w (refFind c k)) := by
 obtain ⟨RS, hRS⟩ : ∃ RS, RS = refFind c k := ⟨_, rfl⟩
 rw [← hRS]
 have HRS : Hid (RS = refTab.find? fun r => decide (r.cls = c ∧ r.code = k)) := Lib.hid hRS
 clear hRS
 have hB0 := ((Below.refl w.heap.size w).alloc (Nat.le_refl _) (.cells (rrV rr0) 68)).alloc (by simp) (.cells tabCells 68)
 have hz0 := (Box.new w (rrV rr0) 68).alloc (.cells tabCells 68)
 have hb0 := Box.new (w.alloc (.cells (rrV rr0) 68)) tabCells 68
 have htb := table_any (w.alloc (.cells (rrV rr0) 68))
 have hs1 : (w.alloc (.cells (rrV rr0) 68)).heap.size = w.heap.size + 1 := by simp
 have hl44 : refTab.length = 44 := by decide
 have HL := Lib.hid hl44
 clear hl44
 rw [hs1] at hb0 htb
 unfold rrV rr0 at hz0 htb hb0 hB0
 simp only at hz0 htb hb0 hB0
 clear hs1
 go_enter Tryz.func23, Tryz.ntmps23
 go_wp2_with (with_reducible refine h_A ?_)
 refine htb.mono ?_
 rintro e w1 ⟨rfl, rfl⟩
 clear htb
 generalize ((w.alloc (.cells #[.int .u8 ((0 : Nat) : Int), .int .u8 ((0 : Nat) : Int), .string (str []), .string (str [])] 68)).alloc (.cells tabCells 68)) = w1 at *
 go_wp2_with (with_reducible refine h_A ?_)
 go_loopw [7] (fun s wr => ∃ (j : Nat), j ≤ 44 ∧ s = .int .i64 j ∧ Hid ((refTab.take j).find? (fun r => decide (r.cls = c ∧ r.code = k)) = none) ∧ Box wr w.heap.size 68 #[.int .u8 ((0 : Nat) : Int), .int .u8 ((0 : Nat) : Int), .string (str []), .string (str [])] ∧ Box wr (w.heap.size + 1) 68 tabCells ∧ Below w.heap.size w wr) (fun s _ => 44 - (RowKit.intOf s).toNat)
 case atStart => exact ⟨0, by omega, rfl, Lib.hid rfl, hz0, hb0, hB0⟩
 case round =>
  obtain ⟨j, hj, rfl, HN, hz, hb, hB⟩ := hrel
  clear hz0 hb0 hB0
  by_cases hlt : j < 44
  ·have hjl : j < refTab.length := by rw [HL.out]; exact hlt
   have hjn : (j : Int) < 44 := by omega
   have hc := tab_cell hb hjl
   have HT := Lib.hid (find_take hjl HN.out)
   have hsm := row_len _ (List.getElem_mem hjl)
   generalize refTab[j] = r at *
   obtain ⟨rc, rk, rn, rd⟩ := r
   have k0 : wr.cell? ⟨w.heap.size + 1, j * 4, none⟩ = _ := hc 0 _ rfl
   have k1 := hc 1 _ rfl
   have k2 := hc 2 _ rfl
   have k3 := hc 3 _ rfl
   clear hc hsm
   by_cases h1 : rc = c
   ·subst h1
    by_cases h2 : rk = k
    ·subst h2
     have HR : Hid (RS = some ⟨rc, rk, rn, rd⟩) := Lib.hid (by rw [HRS.out]; exact HT.out.1 (by simp))
     clear HT HN HRS
     go_wp2_with (with_reducible refine h_B ?_)
     refine unhold (wp_box (v := .agg #[.int .u8 (rc : Int), .int .u8 (rk : Int), .string (str rn), .string (str rd)]) (vs := [.int .u8 (rc : Int), .int .u8 (rk : Int), .string (str rn), .string (str rd)]) rfl rfl rfl rfl hz rfl (by kernel_rfl) (by simp) rr_one #[.int .u8 (rc : Int), .int .u8 (rk : Int), .string (str rn), .string (str rd)] (by simp) ?_)
     intro w5 hz5 hg5 _
     have hB5 := hB.grown hg5 hB.size (fun g hg => by injection hg with hg; omega)
     clear k0 k1 k2 k3 hz hb hB
     go_wp2_with (with_reducible refine h_A ?_)
     refine ret_box_tmp rfl hz5 rfl rfl Tryz.underlying68 rfl (by kernel_rfl) rfl ?_
     rw [HR.out]
     exact ⟨rfl, hB5⟩
    ·have HN2 : Hid ((refTab.take (j + 1)).find? (fun r => decide (r.cls = rc ∧ r.code = k)) = none) := Lib.hid (HT.out.2 (by simp [h2]))
     have e2 : ((rk : Int) == (k : Int)) = false := by simp; omega
     clear HT HN h2
     go_wp2_with (with_reducible refine h_A ?_)
     exact ⟨⟨j + 1, by omega, by go_num, HN2, hz, hb, hB⟩, by simp [RowKit.intOf]; omega⟩
   ·have HN2 : Hid ((refTab.take (j + 1)).find? (fun r => decide (r.cls = c ∧ r.code = k)) = none) := Lib.hid (HT.out.2 (by simp [h1]))
    have e1 : ((rc : Int) == (c : Int)) = false := by simp; omega
    clear HT HN h1
    go_wp2_with (with_reducible refine h_A ?_)
    exact ⟨⟨j + 1, by omega, by go_num, HN2, hz, hb, hB⟩, by simp [RowKit.intOf]; omega⟩
  ·obtain rfl : j = 44 := by omega
   have HR : Hid (RS = none) := Lib.hid (by
    rw [HRS.out]
    have := HN.out
    rwa [List.take_of_length_le (by rw [HL.out]; omega)] at this)
   clear HN HRS
   go_wp2_with (with_reducible refine h_B ?_)
   refine unhold (wp_box (v := .agg #[.int .u8 0, .int .u8 0, .string ⟨#[]⟩, .string ⟨#[]⟩]) (vs := [.int .u8 0, .int .u8 0, .string ⟨#[]⟩, .string ⟨#[]⟩]) rfl rfl rfl rfl hz rfl (by kernel_rfl) (by simp) rr_one #[.int .u8 0, .int .u8 0, .string ⟨#[]⟩, .string ⟨#[]⟩] (by simp) ?_)
   intro w5 hz5 hg5 _
   have hB5 := hB.grown hg5 hB.size (fun g hg => by injection hg with hg; omega)
   clear hz hb hB
   go_wp2_with (with_reducible refine h_A ?_)
   refine ret_box_tmp rfl hz5 rfl rfl Tryz.underlying68 rfl (by kernel_rfl) rfl ?_
   rw [HR.out]
   exact ⟨rfl, hB5⟩
end Go.PH
end
section
/- Values of headers and replies as plain mathematics: trees; how deep, how many, which may be, their bytes. No program in sight. -/
namespace Go.PH

inductive Vl where
 | mk (kind n : Nat) (s : List UInt8) (keys : List (List UInt8)) (list : List Vl)
namespace Vl
def kind : Vl → Nat | mk k _ _ _ _ => k
def n : Vl → Nat | mk _ n _ _ _ => n
def s : Vl → List UInt8 | mk _ _ s _ _ => s
def keys : Vl → List (List UInt8) | mk _ _ _ k _ => k
def list : Vl → List Vl | mk _ _ _ _ l => l
theorem eta (v : Vl) : v = mk v.kind v.n v.s v.keys v.list := by cases v; rfl
theorem lt (v : Vl) {x : Vl} (h : x ∈ v.list) : SizeOf.sizeOf x < SizeOf.sizeOf v := by
 cases v with
 | mk k n s keys l =>
  have := List.sizeOf_lt_of_mem (show x ∈ l from h)
  simp only [mk.sizeOf_spec]
  omega
/-- what is so of a value if it is so of all that lie in it, is so of every value -/
theorem ind {P : Vl → Prop} (h : ∀ v, (∀ x ∈ v.list, P x) → P v) : ∀ v, P v := by
 have key : ∀ (m : Nat) (v : Vl), SizeOf.sizeOf v ≤ m → P v := by
  intro m
  induction m with
  | zero =>
   intro v hv
   refine h v fun x hx => ?_
   have := v.lt hx
   omega
  | succ m ih =>
   intro v hv
   refine h v fun x hx => ih x ?_
   have := v.lt hx
   omega
 exact fun v => key _ v (Nat.le_refl _)
end Vl
def vl0 : Vl := .mk 0 0 [] [] []
instance : Inhabited Vl := ⟨vl0⟩
/-- is it as deep as so, or deeper? -/
def deepV : Nat → Vl → Bool
 | 0, _ => true
 | m + 1, v => v.list.any (deepV m)
mutual
/-- how many values are left of so many -/
def cntV : Vl → Int → Int
 | .mk _ _ _ _ l, m => cntL l (m - 1)
def cntL : List Vl → Int → Int
 | [], m => m
 | x :: l, m => if m < 0 then m else cntL l (cntV x m)
end
theorem cntV_eq (v : Vl) (m : Int) : cntV v m = cntL v.list (m - 1) := by cases v; rw [cntV]; rfl
theorem cntL_neg (l : List Vl) {m : Int} (h : m < 0) : cntL l m = m := by
 cases l with
 | nil => rw [cntL]
 | cons x l => rw [cntL, if_pos h]
theorem cntL_pos (x : Vl) (l : List Vl) {m : Int} (h : ¬ m < 0) : cntL (x :: l) m = cntL l (cntV x m) := by rw [cntL, if_neg h]
mutual
theorem cntV_le : ∀ (v : Vl) (m : Int), cntV v m ≤ m - 1
 | .mk _ _ _ _ l, m => by rw [cntV]; exact cntL_le l (m - 1)
theorem cntL_le : ∀ (l : List Vl) (m : Int), cntL l m ≤ m
 | [], m => by rw [cntL]; omega
 | x :: l, m => by
  rw [cntL]
  split
  ·omega
  ·have h1 := cntV_le x m
   have h2 := cntL_le l (cntV x m)
   omega
end
mutual
theorem cntV_ge : ∀ (v : Vl) (m : Int), -1 ≤ m → (0 ≤ m → -1 ≤ cntV v m)
 | .mk _ _ _ _ l, m, h, h0 => by rw [cntV]; exact cntL_ge l (m - 1) (by omega)
theorem cntL_ge : ∀ (l : List Vl) (m : Int), -1 ≤ m → -1 ≤ cntL l m
 | [], m, h => by rw [cntL]; omega
 | x :: l, m, h => by
  rw [cntL]
  split
  ·omega
  ·exact cntL_ge l _ (cntV_ge x m h (by omega))
end
/-- keys that may be -/
def keysOk (l : List (List UInt8)) (plain : List UInt8 → Bool) : Bool := l.all (fun k => decide (1 ≤ k.length) && decide (k.length ≤ 255) && plain k) && decide l.Nodup
mutual
/-- may a value be, but for how deep and great it is? plain: which texts are -/
def mayV (plain : List UInt8 → Bool) : Vl → Bool
 | .mk k n s keys l =>
  (decide (k = 168) || keys.isEmpty) && (decide (k = 168) || decide (k = 169) || l.isEmpty) && (decide (k = 149) || decide (k = 160) || s.isEmpty) && decide (s.length ≤ 4096) &&
  (if k = 8 then decide (n ≤ 1) else if k = 2 then decide (n ≤ 255) else if k = 49 ∨ k = 50 then true
   else if k = 240 ∨ k = 160 then decide (n = 0)
   else if k = 149 then plain s && decide (n = 0)
   else if k = 168 then decide (keys.length = l.length) && keysOk keys plain && decide (n = 0)
   else if k = 169 then decide (n = 0) else false) && mayL plain l
def mayL (plain : List UInt8 → Bool) : List Vl → Bool
 | [] => true
 | x :: l => mayV plain x && mayL plain l
end
theorem mayL_all (plain : List UInt8 → Bool) (l : List Vl) : mayL plain l = l.all (mayV plain) := by
 induction l with
 | nil => rw [mayL]; rfl
 | cons x l ih => rw [mayL, ih]; rfl
mutual
/-- are two values the same? -/
def sameV : Vl → Vl → Bool
 | .mk k n s keys l, v => decide (k = v.kind) && decide (n = v.n) && decide (s = v.s) && decide (keys = v.keys) && sameL l v.list
def sameL : List Vl → List Vl → Bool
 | [], [] => true
 | x :: l, y :: m => sameV x y && sameL l m
 | _, _ => false
end
mutual
theorem sameV_iff : ∀ (v u : Vl), sameV v u = true ↔ v = u
 | .mk k n s keys l, .mk k' n' s' keys' l' => by
  rw [sameV]
  simp only [Vl.kind, Vl.n, Vl.s, Vl.keys, Vl.list, Bool.and_eq_true, sameL_iff l l', Vl.mk.injEq]
  constructor
  ·rintro ⟨⟨⟨⟨a, b⟩, c⟩, d⟩, e⟩; exact ⟨of_decide_eq_true a, of_decide_eq_true b, of_decide_eq_true c, of_decide_eq_true d, e⟩
  ·rintro ⟨a, b, c, d, e⟩; exact ⟨⟨⟨⟨decide_eq_true a, decide_eq_true b⟩, decide_eq_true c⟩, decide_eq_true d⟩, e⟩
theorem sameL_iff : ∀ (l m : List Vl), sameL l m = true ↔ l = m
 | [], [] => by simp [sameL]
 | [], y :: m => by simp [sameL]
 | x :: l, [] => by simp [sameL]
 | x :: l, y :: m => by
  rw [sameL, Bool.and_eq_true, sameV_iff x y, sameL_iff l m, List.cons.injEq]
end
instance : DecidableEq Vl := fun v u => if h : sameV v u = true then isTrue ((sameV_iff v u).1 h) else isFalse fun e => h ((sameV_iff v u).2 e)
end Go.PH
end
section
/- Values in memory: what it is that a value lies there; what keeps it. -/
namespace Go.PH
open Go.RowKit

/-- where a value's two rows lie -/
structure VH where
 A1 : Option Addr
 c1 : Nat
 A2 : Option Addr
 c2 : Nat
def txV (s : List UInt8) : Value := .string (str s)
def vlC (p : Vl × VH) : List Value := [.int .u8 (p.1.kind : Int), .int .u64 (p.1.n : Int), .string (str p.1.s), .slice p.2.A1 p.1.keys.length p.2.c1, .slice p.2.A2 p.1.list.length p.2.c2]
def vlV (v : Vl) (h : VH) : Array Value := #[.int .u8 (v.kind : Int), .int .u64 (v.n : Int), .string (str v.s), .slice h.A1 v.keys.length h.c1, .slice h.A2 v.list.length h.c2]
theorem vlShape : RecShape vlC 5 where
 len _ := rfl
 one a u hu := by simp [vlC] at hu; rcases hu with rfl | rfl | rfl | rfl | rfl <;> rfl
 pos := by omega
/-- a row that reads so, in blocks of F -/
def RdX (w : World) (F : Nat → Prop) (size : Nat) (A : Option Addr) (n c : Nat) (xs : List Value) : Prop := Rd w w.heap.size size A n c xs ∧ (0 < n → ∀ g, blk A = some g → F g)
theorem cell_keep {w w' : World} {p : Addr} (h : w'.heap[p.block]? = w.heap[p.block]?) : w'.cell? p = w.cell? p := by
 unfold World.cell?
 rw [h]
theorem RdX.keep {w w' : World} {F : Nat → Prop} {size n c : Nat} {A : Option Addr} {xs : List Value} (h : RdX w F size A n c xs) (hk : ∀ g, F g → w'.heap[g]? = w.heap[g]?) (hs : w.heap.size ≤ w'.heap.size) : RdX w' F size A n c xs := by
 obtain ⟨h1, h2⟩ := h
 refine ⟨⟨h1.len, h1.cap, h1.max, fun hn => ?_⟩, h2⟩
 obtain ⟨b, off, e, hb, hc⟩ := h1.at_ hn
 subst e
 exact ⟨b, off, rfl, Nat.lt_of_lt_of_le hb hs, fun j u hu => (cell_keep (hk b (h2 hn b rfl))).trans (hc j u hu)⟩
theorem RdX.mono {w : World} {F G : Nat → Prop} {size n c : Nat} {A : Option Addr} {xs : List Value} (h : RdX w F size A n c xs) (hF : ∀ g, F g → G g) : RdX w G size A n c xs := ⟨h.1, fun hn g hg => hF g (h.2 hn g hg)⟩
theorem RdX.nil (w : World) (F : Nat → Prop) (size c : Nat) (A : Option Addr) (hc : c ≤ maxLen) : RdX w F size A 0 c [] := ⟨Rd.nil _ _ _ _ hc _, fun h => absurd h (Nat.lt_irrefl 0)⟩
theorem RdX.of_own {w : World} {F : Nat → Prop} {base e size n c : Nat} {A : Option Addr} {xs : List Value} (h : Own w base e size A n c xs) (hF : ∀ g, blk A = some g → F g) : RdX w F size A n c xs := ⟨Rd.of_own h, fun _ => hF⟩
/-- the value v lies in blocks of F, its rows at h -/
inductive RV (w : World) (F : Nat → Prop) : Vl → VH → Prop
 | mk {v : Vl} {h : VH} (xs : List (Vl × VH)) (hk : v.kind < 256) (hn : v.n < 18446744073709551616) (hs : v.s.length ≤ 140737488351232) (hK : RdX w F 1 h.A1 v.keys.length h.c1 (v.keys.map txV)) (hkl : ∀ k ∈ v.keys, k.length ≤ 140737488351232)
   (h1 : v.keys.length ≤ 140737488351232) (h2 : v.list.length ≤ 140737488351232) (hL : RdX w F 5 h.A2 v.list.length h.c2 (rowC vlC xs)) (hx : xs.map (·.1) = v.list) (hE : ∀ p ∈ xs, RV w F p.1 p.2) : RV w F v h
theorem RV.keep {w w' : World} {F : Nat → Prop} {v : Vl} {h : VH} (hv : RV w F v h) (hk : ∀ g, F g → w'.heap[g]? = w.heap[g]?) (hs : w.heap.size ≤ w'.heap.size) : RV w' F v h := by
 induction hv with
 | mk xs a1 a2 a3 a4 a5 a6 a7 a8 a9 _ ih => exact ⟨xs, a1, a2, a3, a4.keep hk hs, a5, a6, a7, a8.keep hk hs, a9, ih⟩
theorem RV.mono {w : World} {F G : Nat → Prop} {v : Vl} {h : VH} (hv : RV w F v h) (hF : ∀ g, F g → G g) : RV w G v h := by
 induction hv with
 | mk xs a1 a2 a3 a4 a5 a6 a7 a8 a9 _ ih => exact ⟨xs, a1, a2, a3, a4.mono hF, a5, a6, a7, a8.mono hF, a9, ih⟩
theorem RV.under {w w' : World} {B : Nat} {v : Vl} {h : VH} (hv : RV w (fun g => g < B) v h) (hB : Below B w w') (_hs : B ≤ w.heap.size) : RV w' (fun g => g < B) v h := hv.keep (fun g hg => hB.block g hg) hB.size
theorem RV.zero (w : World) (F : Nat → Prop) : RV w F vl0 ⟨none, 0, none, 0⟩ :=
 ⟨[], by decide, by decide, by simp [vl0, Vl.s], RdX.nil _ _ _ _ _ (by simp [maxLen]), fun k hk => (by cases hk), by simp [vl0, Vl.keys], by simp [vl0, Vl.list], RdX.nil _ _ _ _ _ (by simp [maxLen]), rfl, fun p hp => by cases hp⟩
/-- a value's parts -/
theorem RV.parts {w : World} {F : Nat → Prop} {v : Vl} {h : VH} (hv : RV w F v h) : ∃ xs : List (Vl × VH), xs.map (·.1) = v.list ∧ RdX w F 5 h.A2 v.list.length h.c2 (rowC vlC xs) ∧ (∀ p ∈ xs, RV w F p.1 p.2) ∧ RdX w F 1 h.A1 v.keys.length h.c1 (v.keys.map txV) := by
 cases hv with
 | mk xs a1 a2 a3 a4 a5 a6 a7 a8 a9 a10 => exact ⟨xs, a9, a8, a10, a4⟩
theorem RV.bounds {w : World} {F : Nat → Prop} {v : Vl} {h : VH} (hv : RV w F v h) : v.kind < 256 ∧ v.n < 18446744073709551616 ∧ v.s.length ≤ 140737488351232 ∧ (∀ k ∈ v.keys, k.length ≤ 140737488351232) ∧ v.keys.length ≤ 140737488351232 ∧ v.list.length ≤ 140737488351232 := by
 cases hv with
 | mk xs a1 a2 a3 a4 a5 a6 a7 a8 a9 a10 => exact ⟨a1, a2, a3, a5, a6, a7⟩
/-- a value whose blocks are all there -/
abbrev RVw (w : World) (v : Vl) (h : VH) : Prop := RV w (fun g => g < w.heap.size) v h
theorem RV.up {w w' : World} {v : Vl} {h : VH} (hv : RVw w v h) (hB : Below w.heap.size w w') : RVw w' v h := (hv.keep (fun g hg => hB.block g hg) hB.size).mono (fun g hg => Nat.lt_of_lt_of_le hg hB.size)
/-- a value's i-th part -/
theorem RV.elem {w : World} {v : Vl} {h : VH} (hv : RVw w v h) {i : Nat} (hi : i < v.list.length) : ∃ b off hx, h.A2 = some ⟨b, off, none⟩ ∧ RVw w v.list[i] hx ∧ ∀ W, Below w.heap.size w W →
  W.cell? ⟨b, off + i * 5, none⟩ = some (.int .u8 (v.list[i].kind : Int)) ∧ W.cell? ⟨b, off + i * 5 + 1, none⟩ = some (.int .u64 (v.list[i].n : Int)) ∧ W.cell? ⟨b, off + i * 5 + 2, none⟩ = some (.string (str v.list[i].s)) ∧
  W.cell? ⟨b, off + i * 5 + 3, none⟩ = some (.slice hx.A1 v.list[i].keys.length hx.c1) ∧ W.cell? ⟨b, off + i * 5 + 4, none⟩ = some (.slice hx.A2 v.list[i].list.length hx.c2) := by
 obtain ⟨xs, e, h1, h2, _⟩ := hv.parts
 obtain ⟨b, off, hA, hb, hl, hc⟩ := rec_at vlShape h1.1 hi
 have hm : xs[i] ∈ xs := List.getElem_mem hl
 have hx : xs[i].1 = v.list[i] := by
  have : (xs.map (·.1))[i]'(by simpa using hl) = v.list[i] := by simp only [e]
  simpa using this
 refine ⟨b, off, xs[i].2, hA, hx ▸ h2 _ hm, fun W hW => ?_⟩
 rw [← hx]
 exact ⟨(hW.cell hb).trans (hc 0 _ rfl), (hW.cell hb).trans (hc 1 _ rfl), (hW.cell hb).trans (hc 2 _ rfl), (hW.cell hb).trans (hc 3 _ rfl), (hW.cell hb).trans (hc 4 _ rfl)⟩
theorem RV.key {w : World} {v : Vl} {h : VH} (hv : RVw w v h) {i : Nat} (hi : i < v.keys.length) : ∃ b off, h.A1 = some ⟨b, off, none⟩ ∧ ∀ W, Below w.heap.size w W → W.cell? ⟨b, off + i, none⟩ = some (.string (str v.keys[i])) := by
 obtain ⟨xs, _, _, _, h1⟩ := hv.parts
 obtain ⟨b, off, u, e, hb, hu, hc⟩ := h1.1.at_k hi
 refine ⟨b, off, e, fun W hW => ?_⟩
 rw [List.getElem?_map, List.getElem?_eq_getElem hi] at hu
 injection hu with hu
 rw [hW.cell (p := ⟨b, off + i, none⟩) hb, hc, ← hu]; rfl
theorem alloc_stepV (w : World) (cs : Array Value) (t : TypeId) : ∃ (b : Nat) (v : World), b = w.heap.size ∧ v = w.alloc (.cells cs t) ∧ Box v b t cs ∧ Below w.heap.size w v :=
 ⟨_, _, rfl, rfl, Box.new w cs t, (Below.refl _ _).alloc (Nat.le_refl _) _⟩
end Go.PH
end

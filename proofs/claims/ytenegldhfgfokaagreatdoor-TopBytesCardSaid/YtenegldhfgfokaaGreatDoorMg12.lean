/- Texts laid together: MdMath, MdSplit, MdFind, MdKinds, TbMath, VlMath. -/
import Derived.Lib.SplitLaws
import Derived.Deep.DeepCutAuto
import Derived.BigQuiet
import Derived.Deep.QuietTactic
import Derived.Test.YtenegldhfgfokaaGreatDoorMg00
import Derived.Test.YtenegldhfgfokaaGreatDoorMg01
import Derived.Test.YtenegldhfgfokaaGreatDoorMg08
import Derived.Test.YtenegldhfgfokaaGreatDoorMg09
import Derived.Test.YtenegldhfgfokaaGreatDoorMg10
set_option linter.all false
set_option linter.unusedSimpArgs false
set_option linter.unusedVariables false
section
/- The tables of methods, as plain lists: the program's and the document's. (Printed by wip/genmdtab.py.) -/
namespace Go.PH

/-- a row: its code, its word, its arguments' kinds -/
structure MRow where
 code : Nat
 word : List UInt8
 kinds : List UInt8
deriving DecidableEq
/-- a class's word, its rows as one text, its rows -/
def clsWord : Nat → List UInt8
 | 1 => [99, 111, 110, 110, 101, 99, 116, 105, 111, 110]
 | 2 => [115, 101, 115, 115, 105, 111, 110]
 | 3 => [101, 120, 101, 99, 117, 116, 105, 111, 110]
 | 4 => [109, 101, 115, 115, 97, 103, 101]
 | 5 => [116, 120]
 | 6 => [100, 116, 120]
 | 8 => [113, 117, 101, 117, 101]
 | _ => []
def clsText : Nat → List UInt8
 | 1 => [49, 32, 115, 116, 97, 114, 116, 32, 116, 59, 50, 32, 115, 116, 97, 114, 116, 45, 111, 107, 32, 116, 59, 53, 32, 116, 117, 110, 101, 32, 119, 119, 59, 54, 32, 116, 117, 110, 101, 45, 111, 107, 32, 119, 119, 59, 55, 32, 111, 112, 101, 110, 32, 115, 59, 56, 32, 111, 112, 101, 110, 45, 111, 107, 32, 59, 49, 49, 32, 99, 108, 111, 115, 101, 32, 119, 115, 59, 49, 50, 32, 99, 108, 111, 115, 101, 45, 111, 107, 32]
 | 2 => [49, 32, 97, 116, 116, 97, 99, 104, 32, 116, 98, 59, 50, 32, 97, 116, 116, 97, 99, 104, 101, 100, 32, 116, 59, 51, 32, 100, 101, 116, 97, 99, 104, 32, 116, 59, 52, 32, 100, 101, 116, 97, 99, 104, 101, 100, 32, 116, 110, 59, 55, 32, 112, 111, 105, 110, 116, 32, 100, 59, 49, 48, 32, 99, 111, 109, 112, 108, 101, 116, 101, 100, 32, 114, 59, 49, 49, 32, 107, 110, 111, 119, 110, 32, 114, 59, 49, 50, 32, 102, 108, 117, 115, 104, 32]
 | 3 => [49, 32, 115, 121, 110, 99, 32, 59, 50, 32, 114, 101, 115, 117, 108, 116, 32, 100, 118, 59, 51, 32, 101, 120, 99, 101, 112, 116, 105, 111, 110, 32, 119, 100, 116]
 | 4 => [49, 32, 116, 114, 97, 110, 115, 102, 101, 114, 32, 115, 110, 59, 50, 32, 97, 99, 99, 101, 112, 116, 32, 114, 59, 51, 32, 114, 101, 106, 101, 99, 116, 32, 114, 119, 115, 59, 52, 32, 114, 101, 108, 101, 97, 115, 101, 32, 114, 98, 59, 55, 32, 115, 117, 98, 115, 99, 114, 105, 98, 101, 32, 115, 115, 59, 56, 32, 99, 97, 110, 99, 101, 108, 32, 115, 59, 49, 48, 32, 102, 108, 111, 119, 32, 115, 100, 59, 49, 50, 32, 115, 116, 111, 112, 32, 115]
 | 5 => [49, 32, 115, 101, 108, 101, 99, 116, 32, 59, 50, 32, 99, 111, 109, 109, 105, 116, 32, 59, 51, 32, 114, 111, 108, 108, 98, 97, 99, 107, 32]
 | 6 => [49, 32, 115, 101, 108, 101, 99, 116, 32, 59, 50, 32, 115, 116, 97, 114, 116, 32, 120, 98, 98, 59, 51, 32, 101, 110, 100, 32, 120, 98, 98, 59, 52, 32, 99, 111, 109, 109, 105, 116, 32, 120, 98, 59, 53, 32, 102, 111, 114, 103, 101, 116, 32, 120, 59, 54, 32, 103, 101, 116, 45, 116, 105, 109, 101, 111, 117, 116, 32, 120, 59, 55, 32, 112, 114, 101, 112, 97, 114, 101, 32, 120, 59, 56, 32, 114, 101, 99, 111, 118, 101, 114, 32, 59, 57, 32, 114, 111, 108, 108, 98, 97, 99, 107, 32, 120, 59, 49, 48, 32, 115, 101, 116, 45, 116, 105, 109, 101, 111, 117, 116, 32, 120, 100]
 | 8 => [49, 32, 100, 101, 99, 108, 97, 114, 101, 32, 115, 98, 100, 59, 50, 32, 100, 101, 108, 101, 116, 101, 32, 115, 98, 59, 51, 32, 112, 117, 114, 103, 101, 32, 115, 59, 52, 32, 113, 117, 101, 114, 121, 32, 115]
 | _ => []
def clsRows : Nat → List MRow
 | 1 => [⟨1, [115, 116, 97, 114, 116], [116]⟩, ⟨2, [115, 116, 97, 114, 116, 45, 111, 107], [116]⟩, ⟨5, [116, 117, 110, 101], [119, 119]⟩, ⟨6, [116, 117, 110, 101, 45, 111, 107], [119, 119]⟩, ⟨7, [111, 112, 101, 110], [115]⟩, ⟨8, [111, 112, 101, 110, 45, 111, 107], []⟩, ⟨11, [99, 108, 111, 115, 101], [119, 115]⟩, ⟨12, [99, 108, 111, 115, 101, 45, 111, 107], []⟩]
 | 2 => [⟨1, [97, 116, 116, 97, 99, 104], [116, 98]⟩, ⟨2, [97, 116, 116, 97, 99, 104, 101, 100], [116]⟩, ⟨3, [100, 101, 116, 97, 99, 104], [116]⟩, ⟨4, [100, 101, 116, 97, 99, 104, 101, 100], [116, 110]⟩, ⟨7, [112, 111, 105, 110, 116], [100]⟩, ⟨10, [99, 111, 109, 112, 108, 101, 116, 101, 100], [114]⟩, ⟨11, [107, 110, 111, 119, 110], [114]⟩, ⟨12, [102, 108, 117, 115, 104], []⟩]
 | 3 => [⟨1, [115, 121, 110, 99], []⟩, ⟨2, [114, 101, 115, 117, 108, 116], [100, 118]⟩, ⟨3, [101, 120, 99, 101, 112, 116, 105, 111, 110], [119, 100, 116]⟩]
 | 4 => [⟨1, [116, 114, 97, 110, 115, 102, 101, 114], [115, 110]⟩, ⟨2, [97, 99, 99, 101, 112, 116], [114]⟩, ⟨3, [114, 101, 106, 101, 99, 116], [114, 119, 115]⟩, ⟨4, [114, 101, 108, 101, 97, 115, 101], [114, 98]⟩, ⟨7, [115, 117, 98, 115, 99, 114, 105, 98, 101], [115, 115]⟩, ⟨8, [99, 97, 110, 99, 101, 108], [115]⟩, ⟨10, [102, 108, 111, 119], [115, 100]⟩, ⟨12, [115, 116, 111, 112], [115]⟩]
 | 5 => [⟨1, [115, 101, 108, 101, 99, 116], []⟩, ⟨2, [99, 111, 109, 109, 105, 116], []⟩, ⟨3, [114, 111, 108, 108, 98, 97, 99, 107], []⟩]
 | 6 => [⟨1, [115, 101, 108, 101, 99, 116], []⟩, ⟨2, [115, 116, 97, 114, 116], [120, 98, 98]⟩, ⟨3, [101, 110, 100], [120, 98, 98]⟩, ⟨4, [99, 111, 109, 109, 105, 116], [120, 98]⟩, ⟨5, [102, 111, 114, 103, 101, 116], [120]⟩, ⟨6, [103, 101, 116, 45, 116, 105, 109, 101, 111, 117, 116], [120]⟩, ⟨7, [112, 114, 101, 112, 97, 114, 101], [120]⟩, ⟨8, [114, 101, 99, 111, 118, 101, 114], []⟩, ⟨9, [114, 111, 108, 108, 98, 97, 99, 107], [120]⟩, ⟨10, [115, 101, 116, 45, 116, 105, 109, 101, 111, 117, 116], [120, 100]⟩]
 | 8 => [⟨1, [100, 101, 99, 108, 97, 114, 101], [115, 98, 100]⟩, ⟨2, [100, 101, 108, 101, 116, 101], [115, 98]⟩, ⟨3, [112, 117, 114, 103, 101], [115]⟩, ⟨4, [113, 117, 101, 114, 121], [115]⟩]
 | _ => []
def findM (c k : Nat) : Option MRow := (clsRows c).find? fun r => decide (r.code = k)
theorem cls_of {c : Nat} (h : clsRows c ≠ []) : c = 1 ∨ c = 2 ∨ c = 3 ∨ c = 4 ∨ c = 5 ∨ c = 6 ∨ c = 8 := by
 unfold clsRows at h
 split at h <;> simp_all
end Go.PH
end
section
/- Rows of methods as one text: how it is cut, how a code is read. -/
namespace Go.PH

/-- a text cut at a sign -/
def cutsB (d : UInt8) : List UInt8 → List (List UInt8)
 | [] => [[]]
 | c :: r => if c = d then [] :: cutsB d r else
  match cutsB d r with
  | h :: t => (c :: h) :: t
  | [] => [[c]]
theorem cutsB_one {d : UInt8} : ∀ {a : List UInt8}, d ∉ a → cutsB d a = [a]
 | [], _ => rfl
 | c :: a, h => by
  have hc : c ≠ d := fun e => h (by simp [e])
  have ih := cutsB_one (a := a) (fun e => h (List.mem_cons_of_mem _ e))
  rw [cutsB, if_neg hc, ih]
theorem cutsB_more {d : UInt8} : ∀ {a : List UInt8} (r : List UInt8), d ∉ a → cutsB d (a ++ d :: r) = a :: cutsB d r
 | [], r, _ => by simp [cutsB]
 | c :: a, r, h => by
  have hc : c ≠ d := fun e => h (by simp [e])
  have ih := cutsB_more (a := a) r (fun e => h (List.mem_cons_of_mem _ e))
  rw [List.cons_append, cutsB, if_neg hc, ih]
theorem indexByte_atd : ∀ {a : List UInt8} {c : UInt8} (r : List UInt8), c ∉ a → Lib.indexByte (a ++ c :: r) c = (a.length : Int)
 | [], c, r, _ => by simp [Lib.indexByte]
 | b :: a, c, r, h => by
  have hb : (b == c) = false := by simp; exact fun e => h (by simp [e])
  have ih := indexByte_atd (a := a) (c := c) r (fun e => h (by simp [e]))
  rw [List.cons_append, Lib.indexByte, hb, ih]
  have : ((a.length : Int) == -1) = false := by rw [beq_eq_false_iff_ne]; omega
  simp [this]
def sepS (d : UInt8) : ByteArray := ⟨#[d]⟩
theorem split_cuts {d : UInt8} : ∀ (k : Nat) (l : List UInt8), l.count d = k → (Lib.splitB (sepS d) 0 k (str l)).map (fun b => b.data.toList) = cutsB d l
 | 0, l, h => by
  rw [Lib.splitB_zero, cutsB_one (List.count_eq_zero.1 h)]; rfl
 | k + 1, l, h => by
  have hm : d ∈ l := List.count_pos_iff.1 (by omega)
  obtain ⟨a, r, rfl, ha⟩ := List.eq_append_cons_of_mem hm
  have hc : r.count d = k := by
   rw [List.count_append, List.count_cons_self, List.count_eq_zero.2 ha] at h; omega
  have hi : Lib.indexB (str (a ++ d :: r)) (sepS d) = (a.length : Int) := by
   show Lib.index (a ++ d :: r) [d] = _
   rw [Lib.index_one, indexByte_atd r ha]
  rw [Lib.splitB_hit (sepS d) 0 k _ a.length hi, List.map_cons, cutsB_more r ha]
  have e1 : (str (a ++ d :: r)).extract (a.length + (sepS d).size) (str (a ++ d :: r)).size = str r := by
   rw [str_size, str_extract]
   congr 1
   rw [List.take_of_length_le (Nat.le_refl _)]
   show (a ++ d :: r).drop (a.length + 1) = r
   rw [← List.drop_drop, List.drop_left]
   rfl
  have e2 : ((str (a ++ d :: r)).extract 0 (a.length + 0)).data.toList = a := by
   rw [str_extract, Nat.add_zero, List.take_left, List.drop_zero]; rfl
  rw [e1, e2, split_cuts k r hc]
theorem count_cuts {d : UInt8} (l : List UInt8) : Lib.countB (str l) (sepS d) = l.count d := by
 show Lib.count l [d] = _
 exact Lib.count_one d l
theorem cuts_len {d : UInt8} (l : List UInt8) : (cutsB d l).length = l.count d + 1 := by
 rw [← split_cuts _ l rfl, List.length_map]
 exact Lib.splitB_all (sepS d) (by show 1 ≤ 1; omega) 0 _ _ (count_cuts l)
theorem split_cellsd {d : UInt8} (l : List UInt8) : (Lib.splitB (sepS d) 0 (Lib.countB (str l) (sepS d)) (str l)).map Value.string = (cutsB d l).map (fun p => Value.string (str p)) := by
 rw [count_cuts, ← split_cuts _ l rfl, List.map_map]
 rfl

/-- a code's digits, read as the program does, in eight bits -/
def codeM (l : List UInt8) : Nat := l.foldl (fun n c => (10 * n + c.toNat + 208) % 256) 0
def pieceM (p : List UInt8) : Option MRow := match cutsB 32 p with
 | [a, b, c] => some ⟨codeM a, b, c⟩
 | _ => none
/-- the first piece that is of a code -/
def findP (k : Nat) : List (List UInt8) → Option MRow
 | [] => none
 | p :: l => match pieceM p with
  | some r => if r.code = k then some r else findP k l
  | none => findP k l
theorem findP_app (k : Nat) (a b : List (List UInt8)) : findP k (a ++ b) = match findP k a with
 | some r => some r
 | none => findP k b := by
 induction a with
 | nil => rfl
 | cons p a ih =>
  simp only [List.cons_append, findP]
  cases pieceM p with
  | none => exact ih
  | some r =>
   simp only
   by_cases h : r.code = k
   ·rw [if_pos h, if_pos h]
   ·rw [if_neg h, if_neg h]; exact ih
theorem pieces_of (k : Nat) : ∀ l : List (List UInt8), findP k l = (l.filterMap pieceM).find? fun r => decide (r.code = k)
 | [] => rfl
 | p :: l => by
  have ih := pieces_of k l
  rw [findP, List.filterMap_cons]
  cases pieceM p with
  | none => exact ih
  | some r =>
   by_cases h : r.code = k
   ·simp [h]
   ·simp only [h, if_false, List.find?_cons, decide_false]
    exact ih
theorem cls_pieces (c : Nat) : (cutsB 59 (clsText c)).filterMap pieceM = clsRows c := by
 by_cases h : c = 1 ∨ c = 2 ∨ c = 3 ∨ c = 4 ∨ c = 5 ∨ c = 6 ∨ c = 8
 ·rcases h with rfl | rfl | rfl | rfl | rfl | rfl | rfl <;> decide +kernel
 ·have h1 : clsRows c = [] := by
   cases hc : clsRows c with
   | nil => rfl
   | cons _ _ => exact absurd (cls_of (by rw [hc]; simp)) h
  have h2 : clsText c = [] := by
   unfold clsText
   split
   all_goals first | rfl | (exfalso; apply h; simp)
  rw [h1, h2]
  decide +kernel
theorem findP_cls (c k : Nat) : findP k (cutsB 59 (clsText c)) = findM c k := by rw [pieces_of, cls_pieces]; rfl
theorem codeM_lt (l : List UInt8) : codeM l < 256 := by
 unfold codeM
 rcases List.eq_nil_or_concat l with rfl | ⟨m, x, rfl⟩
 ·decide
 ·rw [List.concat_eq_append, List.foldl_append]
  exact Nat.mod_lt _ (by decide)
theorem codeM_snoc (l : List UInt8) (c : UInt8) : codeM (l ++ [c]) = (10 * codeM l + c.toNat + 208) % 256 := by simp [codeM]
theorem clsText_len (c : Nat) : (clsText c).length ≤ 200 ∧ (clsWord c).length ≤ 20 := by
 unfold clsText clsWord
 constructor <;> split <;> decide +kernel
theorem cutsB_le (d : UInt8) : ∀ (l : List UInt8), ∀ p ∈ cutsB d l, p.length ≤ l.length
 | [], p, hp => by simp [cutsB] at hp; subst hp; simp
 | c :: r, p, hp => by
  have ih := cutsB_le d r
  rw [cutsB] at hp
  split at hp
  ·rcases List.mem_cons.1 hp with rfl | hp
   ·simp
   ·have := ih p hp; simp; omega
  ·cases hd : cutsB d r with
   | nil => rw [hd] at hp; simp at hp; subst hp; simp
   | cons h t =>
    rw [hd] at hp ih
    rcases List.mem_cons.1 hp with rfl | hp
    ·have := ih h (List.mem_cons_self ..); simp; omega
    ·have := ih p (List.mem_cons_of_mem _ hp); simp; omega
end Go.PH
end
section
/- The walks of method's table: classes, code, find, Kinds, Name. -/
namespace Go.PH
open Go.RowKit Go.Proofs

/-- what the walks want of the listed variables -/
structure MEnv (w : World) : Prop where
 mx : ∃ m : Int, w.cell? ⟨4, 0, none⟩ = some (.int .i64 m)
theorem MEnv.lt {w : World} (h : MEnv w) : 4 < w.heap.size := by
 obtain ⟨m, hm⟩ := h.mx
 exact World.block_lt_of_cell? w _ hm
theorem MEnv.on {w w' : World} (h : MEnv w) (hB : Below w.heap.size w w') : MEnv w' where
 mx := by
  have hl := h.lt
  obtain ⟨m, hm⟩ := h.mx
  exact ⟨m, (hB.cell (p := ⟨4, 0, none⟩) hl).trans hm⟩
theorem classes_any (c : Nat) (w : World) : Calls Tryz.prog 67 #[.int .u8 (c : Int)] w fun e w' => e = .returned (.tuple #[.string (str (clsWord c)), .string (str (clsText c))]) ∧ w = w' := by
 by_cases h : c = 1 ∨ c = 2 ∨ c = 3 ∨ c = 4 ∨ c = 5 ∨ c = 6 ∨ c = 8
 ·rcases h with rfl | rfl | rfl | rfl | rfl | rfl | rfl
  all_goals
   go_enter Tryz.func67, Tryz.ntmps67
   go_wp2_with (with_reducible refine h_A ?_)
   go_ret2
   exact ⟨rfl, rfl⟩
 ·have h1 : clsText c = [] ∧ clsWord c = [] := by
   constructor
   ·unfold clsText
    split
    all_goals first | rfl | (exfalso; apply h; simp)
   ·unfold clsWord
    split
    all_goals first | rfl | (exfalso; apply h; simp)
  have e1 : ((c : Int) == 1) = false := by simp; omega
  have e2 : ((c : Int) == 2) = false := by simp; omega
  have e3 : ((c : Int) == 3) = false := by simp; omega
  have e4 : ((c : Int) == 4) = false := by simp; omega
  have e5 : ((c : Int) == 5) = false := by simp; omega
  have e6 : ((c : Int) == 6) = false := by simp; omega
  have e8 : ((c : Int) == 8) = false := by simp; omega
  rw [h1.1, h1.2]
  clear h h1
  go_enter Tryz.func67, Tryz.ntmps67
  go_wp2_with (with_reducible refine h_A ?_)
  go_ret2
  exact ⟨rfl, rfl⟩
theorem code_step (n c : Nat) : IntKind.u8.wrap (IntKind.u8.wrap (IntKind.u8.wrap (10 * (n : Int)) + (c : Int)) - 48) = (((10 * n + c + 208) % 256 : Nat) : Int) := by
 simp only [IntKind.wrap_u8]; omega
theorem code_any (l : List UInt8) (w : World) (hl : l.length ≤ 1000) : Calls Tryz.prog 69 #[.string (str l)] w fun e w' => e = .returned (.int .u8 (codeM l : Int)) ∧ w = w' := by
 have hss := str_size l
 go_enter Tryz.func69, Tryz.ntmps69
 go_wp2_with (with_reducible refine h_A ?_)
 go_loop [3, 7] (fun s3 s7 => ∃ k : Nat, k ≤ l.length ∧ s7 = .int .i64 k ∧ s3 = .int .u8 ((codeM (l.take k) : Nat) : Int)) (fun _ s7 => l.length - (RowKit.intOf s7).toNat)
 case atStart => exact ⟨0, by omega, rfl, rfl⟩
 case round =>
  obtain ⟨k, hk, rfl, rfl⟩ := hrel
  by_cases hlt : k < l.length
  ·have hkn : (k : Int) < (l.length : Int) := by omega
   have hst := Lib.hid (code_step (codeM (l.take k)) l[k].toNat)
   have hsn : Hid (codeM (l.take (k + 1)) = (10 * codeM (l.take k) + l[k].toNat + 208) % 256) := Lib.hid (by rw [List.take_succ_eq_append_getElem hlt, codeM_snoc])
   have hlt9 := codeM_lt (l.take k)
   go_wp2_with (with_reducible refine h_A ?_)
   refine ⟨⟨k + 1, by omega, by go_num, ?_⟩, by simp [RowKit.intOf]; omega⟩
   rw [hsn.out]
   show Value.int IntKind.u8 (((10 * ((codeM (l.take k) : Nat) : Int) + ((l[k].toNat : Nat) : Int)) % 256 - 48) % 256) = _
   congr 1
   omega
  ·obtain rfl : k = l.length := by omega
   rw [List.take_length]
   go_wp2_with (with_reducible refine h_A ?_)
   go_ret
   exact ⟨rfl, rfl⟩
def wordO (r : Option MRow) : List UInt8 := (r.map (·.word)).getD []
def kindsO (r : Option MRow) : List UInt8 := (r.map (·.kinds)).getD []
def FindR (w : World) (r : Option MRow) (e : Ending) (w' : World) : Prop := e = .returned (.tuple #[.string (str (wordO r)), .string (str (kindsO r)), .bool r.isSome]) ∧ Below w.heap.size w w'
theorem findP_none_snoc {k : Nat} {P : List (List UInt8)} {j : Nat} (hj : j < P.length) (h : findP k (P.take j) = none) : findP k (P.take (j + 1)) = findP k [P[j]] := by
 rw [List.take_succ_eq_append_getElem hj, findP_app, h]
theorem findP_hit {k : Nat} {P : List (List UInt8)} {j : Nat} (hj : j < P.length) (h : findP k (P.take j) = none) {r : MRow} (hr : findP k [P[j]] = some r) : findP k P = some r := by
 have e : P = P.take (j + 1) ++ P.drop (j + 1) := (List.take_append_drop _ _).symm
 rw [e, findP_app, findP_none_snoc hj h, hr]
theorem findP_one3 {k : Nat} {p a b c : List UInt8} (h : cutsB 32 p = [a, b, c]) : findP k [p] = if codeM a = k then some ⟨codeM a, b, c⟩ else none := by
 unfold findP pieceM
 rw [h]
 simp only
 split <;> rfl
theorem findP_one0 {k : Nat} {p : List UInt8} (h : (cutsB 32 p).length ≠ 3) : findP k [p] = none := by
 unfold findP pieceM
 split
 ·rename_i h1
  split at h1
  ·rename_i h2; rw [h2] at h; exact absurd rfl h
  ·cases h1
 ·rfl
theorem len3 {α : Type} {l : List α} (h : l.length = 3) : ∃ a b c, l = [a, b, c] := by
 match l, h with
 | [a, b, c], _ => exact ⟨a, b, c, rfl⟩
/-- a text cut by strings.Split, at one sign -/
theorem split_any (d : UInt8) (l : List UInt8) (w : World) (he : MEnv w) (hl : l.length ≤ 100000) :
  Calls Tryz.prog 68 #[.string (str l), .string (sepS d)] w fun e w' => e = .returned (.slice (some ⟨w.heap.size, 0, none⟩) (cutsB d l).length (cutsB d l).length) ∧ w' = w.alloc (.cells ((cutsB d l).map (fun p => Value.string (str p))).toArray 9) := by
 obtain ⟨m, hm⟩ := he.mx
 have hsp := Tryz.strings_Split (str l) (sepS d) m w (by rw [str_size]; omega) hm (by show 1 ≤ 1; omega)
 rw [split_cellsd] at hsp
 have hcd : Lib.countB (str l) (sepS d) + 1 = (cutsB d l).length := by rw [count_cuts, cuts_len]
 rw [hcd] at hsp
 exact hsp
theorem strs_cell {w : World} {g : Nat} {t : TypeId} {P : List (List UInt8)} (hb : Box w g t (P.map (fun p => Value.string (str p))).toArray) {j : Nat} (hj : j < P.length) : w.cell? ⟨g, j, none⟩ = some (.string (str P[j])) := by
 refine hb.cell ?_
 simp [hj]
set_option maxRecDepth 20000 in
set_option maxHeartbeats 2000000 in
theorem find_any (c k : Nat) (w : World) (he : MEnv w) :
  Calls Tryz.prog 37 #[.int .u8 (c : Int), .int .u8 (k : Int)] w (FindR w (findM c k)) := by
 obtain ⟨RS, hRS⟩ : ∃ RS, RS = findM c k := ⟨_, rfl⟩
 rw [← hRS]
 have HRS : Hid (RS = findP k (cutsB 59 (clsText c))) := Lib.hid (by rw [hRS, findP_cls])
 obtain ⟨P, hP⟩ : ∃ P, P = cutsB 59 (clsText c) := ⟨_, rfl⟩
 have hPl : ∀ p ∈ P, p.length ≤ 200 := by
  intro p hp
  rw [hP] at hp
  have h1 := cutsB_le 59 (clsText c) p hp
  have h2 := (clsText_len c).1
  omega
 have hPn : P.length ≤ 201 := by
  have h1 : P.length = (clsText c).count 59 + 1 := by rw [hP, cuts_len]
  have h2 := (clsText_len c).1
  have h3 : (clsText c).count 59 ≤ (clsText c).length := List.count_le_length
  omega
 have hcl := classes_any c w
 have hsp := split_any 59 (clsText c) w he (by have := (clsText_len c).1; omega)
 have he0 := he
 rw [← hP] at hsp HRS
 clear hRS hP he
 have hB0 := (Below.refl w.heap.size w).alloc (Nat.le_refl _) (.cells (P.map (fun p => Value.string (str p))).toArray 9)
 have hb0 := Box.new w (P.map (fun p => Value.string (str p))).toArray 9
 go_enter Tryz.func37, Tryz.ntmps37
 go_wp2_with (with_reducible refine h_A ?_)
 refine hcl.mono ?_
 rintro e w1 ⟨rfl, rfl⟩
 go_wp2_with (with_reducible refine h_A ?_)
 refine hsp.mono ?_
 rintro e w1 ⟨rfl, rfl⟩
 clear hcl hsp
 obtain ⟨g0, hg0⟩ : ∃ g, g = w.heap.size := ⟨_, rfl⟩
 rw [← hg0] at hb0
 have hgw : g0 ≤ w.heap.size := by omega
 rw [← hg0]
 clear hg0
 generalize (w.alloc (.cells (P.map (fun p => Value.string (str p))).toArray 9)) = w1 at *
 go_wp2_with (with_reducible refine h_A ?_)
 go_loopw [20] (fun s wr => ∃ (j : Nat), j ≤ P.length ∧ s = .int .i64 j ∧ Hid (findP k (P.take j) = none) ∧ Box wr g0 9 (P.map (fun p => Value.string (str p))).toArray ∧ Below w.heap.size w wr) (fun s _ => P.length - (RowKit.intOf s).toNat)
 case atStart => exact ⟨0, by omega, rfl, Lib.hid rfl, hb0, hB0⟩
 case round =>
  obtain ⟨j, hj, rfl, HN, hb, hB⟩ := hrel
  clear hb0 hB0
  by_cases hlt : j < P.length
  ·have hjn : (j : Int) < (P.length : Int) := by omega
   have hp := hPl P[j] (List.getElem_mem hlt)
   have hc0 := strs_cell hb hlt
   have HS := Lib.hid (findP_none_snoc hlt HN.out)
   have HH : Hid (∀ r, findP k [P[j]] = some r → RS = some r) := Lib.hid (fun r hr => by rw [HRS.out]; exact findP_hit hlt HN.out hr)
   generalize P[j] = p at *
   have hsp := split_any 32 p wr (he0.on hB) (by omega)
   have hB2 := hB.alloc hB.size (.cells ((cutsB 32 p).map (fun p => Value.string (str p))).toArray 9)
   have hb2 := hb.alloc (.cells ((cutsB 32 p).map (fun p => Value.string (str p))).toArray 9)
   have hbp := Box.new wr ((cutsB 32 p).map (fun p => Value.string (str p))).toArray 9
   go_wp2_with (with_reducible refine h_A ?_)
   refine hsp.mono ?_
   rintro e w2 ⟨rfl, rfl⟩
   clear hsp hc0 hb hB
   obtain ⟨g1, hg1⟩ : ∃ g, g = wr.heap.size := ⟨_, rfl⟩
   rw [← hg1] at hbp ⊢
   clear hg1
   have HC1 : Hid ((cutsB 32 p).length ≠ 3 → findP k [p] = none) := Lib.hid (fun h => findP_one0 h)
   have HC3 : Hid (∀ a b c, cutsB 32 p = [a, b, c] → findP k [p] = if codeM a = k then some ⟨codeM a, b, c⟩ else none) := Lib.hid (fun a b c h => findP_one3 h)
   have hcl : ∀ q ∈ cutsB 32 p, q.length ≤ 1000 := fun q hq => by have := cutsB_le 32 p q hq; omega
   have hcn : (cutsB 32 p).length ≤ 1000 := by
    have h1 : (cutsB 32 p).length = p.count 32 + 1 := cuts_len p
    have h3 : p.count 32 ≤ p.length := List.count_le_length
    omega
   generalize cutsB 32 p = Q at *
   generalize (wr.alloc (.cells (Q.map (fun p => Value.string (str p))).toArray 9)) = w2 at *
   by_cases h3 : Q.length = 3
   ·obtain ⟨qa, qb, qc, rfl⟩ := len3 h3
    have k0 := hbp.c0
    have k1 := hbp.c1
    have k2 := hbp.c2
    have hla := hcl qa (by simp)
    have HQ := Lib.hid (HC3.out _ _ _ rfl)
    clear HC1 HC3 hcl h3 hbp
    have hcd := code_any qa w2 hla
    by_cases hk : codeM qa = k
    ·have HR : Hid (RS = some ⟨codeM qa, qb, qc⟩) := Lib.hid (HH.out _ (by rw [HQ.out, if_pos hk]))
     subst hk
     clear HH HQ HS HN
     go_wp2_with (with_reducible refine h_A ?_)
     refine hcd.mono ?_
     rintro e w3 ⟨rfl, rfl⟩
     clear hcd
     go_wp2_with (with_reducible refine h_A ?_)
     go_quiet (fail)
     go_wp2_with (with_reducible refine h_A ?_)
     go_ret3
     rw [HR.out]
     exact ⟨rfl, below_drewN hB2 _⟩
    ·have HN2 : Hid (findP k (P.take (j + 1)) = none) := Lib.hid (by rw [HS.out, HQ.out, if_neg hk])
     have hk' : ((codeM qa : Int) == (k : Int)) = false := by simp; omega
     clear HH HQ HS HN hk
     go_wp2_with (with_reducible refine h_A ?_)
     refine hcd.mono ?_
     rintro e w3 ⟨rfl, rfl⟩
     clear hcd
     go_wp2_with (with_reducible refine h_A ?_)
     exact ⟨⟨j + 1, by omega, by go_num, HN2, hb2, hB2⟩, by simp [RowKit.intOf]; omega⟩
   ·have HN2 : Hid (findP k (P.take (j + 1)) = none) := Lib.hid (by rw [HS.out, HC1.out h3])
    have h3' : ((Q.length : Int) == 3) = false := by simp; omega
    clear HH HS HN HC1 HC3 hcl hbp h3
    go_wp2_with (with_reducible refine h_A ?_)
    exact ⟨⟨j + 1, by omega, by go_num, HN2, hb2, hB2⟩, by simp [RowKit.intOf]; omega⟩
  ·obtain rfl : j = P.length := by omega
   have HR : Hid (RS = none) := Lib.hid (by rw [HRS.out]; have := HN.out; rwa [List.take_length] at this)
   clear HN
   go_wp2_with (with_reducible refine h_A ?_)
   go_ret3
   rw [HR.out]
   exact ⟨rfl, hB⟩
end Go.PH
end
section
/- The walk of method's Kinds. -/
namespace Go.PH
open Go.RowKit Go.Proofs

theorem kinds_any (c k : Nat) (w : World) (he : MEnv w) :
  Calls Tryz.prog 15 #[.int .u8 (c : Int), .int .u8 (k : Int)] w fun e w' => e = .returned (.tuple #[.string (str (kindsO (findM c k))), .bool (findM c k).isSome]) ∧ Below w.heap.size w w' := by
 have hf := find_any c k w he
 generalize findM c k = r at *
 unfold FindR at hf
 generalize kindsO r = kd at *
 generalize wordO r = wd at *
 generalize r.isSome = is at *
 go_enter Tryz.func15, Tryz.ntmps15
 go_wp2_with (with_reducible refine h_A ?_)
 refine hf.mono ?_
 rintro e w1 ⟨rfl, hB⟩
 go_wp2_with (with_reducible refine h_A ?_)
 go_ret2
 exact ⟨rfl, hB⟩
end Go.PH
end
section
/- Assemblies cut into frames one behind the other, whose bytes come in pieces, are gathered in order: plain mathematics. No program in sight. -/
namespace Go.PH

def allFr (most : Nat) (AS : List As) : List Fr := AS.flatMap (cutAs most)
/-- the frames that are still to come -/
def remF (most : Nat) (AS : List As) (got k : Nat) : List Fr := match AS.drop got with
 | [] => []
 | a :: r => (cutAs most a).drop k ++ allFr most r
/-- a gatherer to which the first frames were fed -/
structure FedI (most : Nat) (AS : List As) (got k : Nat) (g : GS) : Prop where
 dead : g.dead = false
 inv : g.Inv
 lt : got ≤ AS.length
 k0 : got = AS.length → k = 0
 kl : ∀ a, AS[got]? = some a → k < (cutAs most a).length
 op : ∀ a, AS[got]? = some a → g.op a.chan a.track = (cutAs most a).take k
 ops : ∀ c t, (∀ a, AS[got]? = some a → ¬ (c = a.chan ∧ t = a.track)) → g.op c t = []
theorem cutAs_pos {most : Nat} (h1 : 1 ≤ most) (h2 : most ≤ 4084) {a : As} (h : asOk a = true) : 0 < (cutAs most a).length := List.length_pos_iff.2 (cutAs_feeds h1 h2 h).2.1
theorem FedI.start {most : Nat} (h1 : 1 ≤ most) (h2 : most ≤ 4084) {AS : List As} (hok : ∀ a ∈ AS, asOk a = true) : FedI most AS 0 0 GS.new where
 dead := rfl
 inv := GS.inv_new
 lt := Nat.zero_le _
 k0 := fun _ => rfl
 kl := fun a ha => cutAs_pos h1 h2 (hok a (List.mem_of_getElem? ha))
 op := fun _ _ => rfl
 ops := fun _ _ _ => rfl
theorem remF_start (most : Nat) (AS : List As) : remF most AS 0 0 = allFr most AS := by
 unfold remF
 cases AS with
 | nil => rfl
 | cons a r => simp [allFr]
theorem FedI.done {most : Nat} {AS : List As} {got k : Nat} {g : GS} (h : FedI most AS got k g) (hr : remF most AS got k = []) : got = AS.length := by
 have hlt := h.lt
 by_cases hg : got < AS.length
 ·have ha := List.getElem?_eq_getElem hg
  have hk := h.kl _ ha
  unfold remF at hr
  rw [List.drop_eq_getElem_cons hg] at hr
  simp only at hr
  have h3 := (List.append_eq_nil_iff.1 hr).1
  have := congrArg List.length h3
  rw [List.length_drop, List.length_nil] at this
  omega
 ·omega
/-- one more frame is fed -/
theorem FedI.step {most : Nat} (h1 : 1 ≤ most) (h2 : most ≤ 4084) {AS : List As} (hok : ∀ a ∈ AS, asOk a = true) (hw : ∀ a ∈ AS, a.wf) {got k : Nat} {g : GS} (h : FedI most AS got k g) {f : Fr} {r : List Fr} (hr : remF most AS got k = f :: r) :
  ∃ a, AS[got]? = some a ∧ g.err f = 0 ∧ ((k + 1 < (cutAs most a).length ∧ g.out f = none ∧ r = remF most AS got (k + 1) ∧ FedI most AS got (k + 1) (g.next f)) ∨
   (k + 1 = (cutAs most a).length ∧ g.out f = some a ∧ r = remF most AS (got + 1) 0 ∧ FedI most AS (got + 1) 0 (g.next f))) := by
 have hlt := h.lt
 have hg : got < AS.length := by
  by_cases hg : got < AS.length
  ·exact hg
  ·unfold remF at hr
   rw [List.drop_eq_nil_of_le (by omega)] at hr
   cases hr
 have ha := List.getElem?_eq_getElem hg
 refine ⟨AS[got], ha, ?_⟩
 have hk := h.kl _ ha
 have hop := h.op _ ha
 have hm := List.getElem_mem hg
 have hoka := hok _ hm
 have hwa := hw _ hm
 obtain ⟨e1, e2, e3, e4, e5⟩ := feed_at h1 h2 hoka h.dead hk hop
 unfold remF at hr
 rw [List.drop_eq_getElem_cons hg] at hr
 simp only at hr
 rw [List.drop_eq_getElem_cons hk, List.cons_append] at hr
 injection hr with hf hr
 have hwf : f.wf := by
  rw [← hf]
  have hmem := List.getElem_mem hk
  have hall : ∀ (l : List Sg) (i : Nat), (∀ s ∈ l, s.ty < 256) → ∀ x ∈ cutL most AS[got].chan AS[got].track AS[got].segs.length i l, x.wf := by
   intro l
   induction l with
   | nil => intro i _ x hx; simp [cutL] at hx
   | cons s r ih =>
    intro i hs x hx
    rw [cutL] at hx
    rcases List.mem_append.1 hx with hx | hx
    ·have hS : ∀ (k : Nat) (f : Fr) (s : List UInt8), f.wf → ∀ x ∈ cutS most k f s, x.wf := by
      intro k
      induction k with
      | zero => intro f s hf x hx; simp [cutS] at hx; subst hx; exact hf
      | succ k ih2 =>
       intro f s hf x hx
       rw [cutS] at hx
       split at hx
       ·simp at hx; subst hx; exact hf
       ·rcases List.mem_cons.1 hx with rfl | hx
        ·exact hf
        ·exact ih2 _ _ (by exact hf) x hx
     exact hS _ _ _ ⟨hs s (List.mem_cons_self ..), hwa.2.1, hwa.1⟩ x hx
    ·exact ih _ (fun t ht => hs t (List.mem_cons_of_mem _ ht)) x hx
  exact hall _ 0 hwa.2.2 _ hmem
 rw [hf] at e1 e2 e3 e4 e5
 refine ⟨e1, ?_⟩
 by_cases hl : k + 1 = (cutAs most AS[got]).length
 ·right
  rw [if_pos hl] at e2 e4
  refine ⟨hl, e2, ?_, ⟨e3, h.inv.next hwf, by omega, fun _ => rfl, fun a ha2 => cutAs_pos h1 h2 (hok a (List.mem_of_getElem? ha2)), fun a ha2 => ?_, fun c t hct => ?_⟩⟩
  ·rw [← hr, hl, List.drop_length, List.nil_append]
   unfold remF
   cases AS.drop (got + 1) with
   | nil => rfl
   | cons a r => simp [allFr]
  ·rw [List.take_zero]
   by_cases hc : a.chan = AS[got].chan ∧ a.track = AS[got].track
   ·rw [hc.1, hc.2]; exact e4
   ·rw [e5 _ _ hc]
    exact h.ops _ _ (fun b hb => by rw [ha] at hb; injection hb with hb; rw [← hb]; exact hc)
  ·by_cases hc : c = AS[got].chan ∧ t = AS[got].track
   ·rw [hc.1, hc.2]; exact e4
   ·rw [e5 _ _ hc]
    exact h.ops _ _ (fun b hb => by rw [ha] at hb; injection hb with hb; rw [← hb]; exact hc)
 ·left
  rw [if_neg hl] at e2 e4
  refine ⟨by omega, e2, ?_, ⟨e3, h.inv.next hwf, by omega, fun e => by omega, fun a ha2 => ?_, fun a ha2 => ?_, fun c t hct => ?_⟩⟩
  ·rw [← hr]
   unfold remF
   rw [List.drop_eq_getElem_cons hg]
  ·rw [ha] at ha2; injection ha2 with ha2; rw [← ha2]; omega
  ·rw [ha] at ha2; injection ha2 with ha2; rw [← ha2]; exact e4
  ·have hc := hct _ ha
   rw [e5 _ _ hc]
   exact h.ops _ _ (fun b hb => by rw [ha] at hb; injection hb with hb; rw [← hb]; exact hc)
/-- bytes that have come: what was scanned of them, what is left -/
structure PieceI (FS : List Fr) (b : List UInt8) (frm : Nat) (D R : List Fr) (rest : List UInt8) : Prop where
 le : frm ≤ b.length
 all : FS = D ++ R
 scan : ∃ u, frScan (b.take frm) = (D, u, 0) ∧ rest = (b.take frm).drop u
theorem PieceI.start (FS : List Fr) (b : List UInt8) : PieceI FS b 0 [] FS [] := ⟨Nat.zero_le _, rfl, 0, by rw [List.take_zero]; exact frScan_short (by decide) (by decide), by simp⟩
theorem PieceI.len {FS : List Fr} {b : List UInt8} {frm : Nat} {D R : List Fr} {rest : List UInt8} (h : PieceI FS b frm D R rest) : rest.length ≤ frm := by
 obtain ⟨u, _, hr⟩ := h.scan
 rw [hr, List.length_drop, List.length_take]
 omega
/-- more bytes come -/
theorem PieceI.more {FS : List Fr} {b : List UInt8} (hb : frScan b = (FS, b.length, 0)) {frm : Nat} {D R : List Fr} {rest : List UInt8} (h : PieceI FS b frm D R rest) {to_ : Nat} (h1 : frm ≤ to_) (h2 : to_ ≤ b.length) :
  (frScan (rest ++ (b.take to_).drop frm)).2.2 = 0 ∧ ∃ R', R = (frScan (rest ++ (b.take to_).drop frm)).1 ++ R' ∧ PieceI FS b to_ (D ++ (frScan (rest ++ (b.take to_).drop frm)).1) R' ((rest ++ (b.take to_).drop frm).drop (frScan (rest ++ (b.take to_).drop frm)).2.1) := by
 obtain ⟨u, hs, hr⟩ := h.scan
 have e1 : b.take to_ = b.take frm ++ (b.take to_).drop frm := by
  have := List.take_append_drop frm (b.take to_)
  rw [List.take_take, Nat.min_eq_left h1] at this
  exact this.symm
 have ha := frScan_app (b.take frm) ((b.take to_).drop frm)
 rw [← e1, hs] at ha
 have h3 := ha.1 rfl
 simp only at h3
 rw [← hr] at h3
 have hb2 := frScan_app (b.take to_) (b.drop to_)
 rw [List.take_append_drop, hb, h3] at hb2
 simp only at hb2
 have he : (frScan (rest ++ (b.take to_).drop frm)).2.2 = 0 := by
  by_cases e : (frScan (rest ++ (b.take to_).drop frm)).2.2 = 0
  ·exact e
  ·have := hb2.2 e
   injection this with _ this
   injection this with _ this
   exact absurd this.symm e
 refine ⟨he, ?_⟩
 have h4 := hb2.1 he
 injection h4 with h5 _
 have hall := h.all
 rw [h5, List.append_assoc] at hall
 have h6 := List.append_cancel_left hall
 refine ⟨_, h6.symm, ⟨h2, by rw [h5], u + (frScan (rest ++ (b.take to_).drop frm)).2.1, ?_, ?_⟩⟩
 ·rw [h3, he]
 ·rw [← List.drop_drop]
  congr 1
  have hle := (frScan_le (b.take frm)).2
  rw [hs] at hle
  conv => rhs; rw [e1]
  rw [List.drop_append_of_le_length hle, ← hr]
/-- all has come -/
theorem PieceI.done {FS : List Fr} {b : List UInt8} (hb : frScan b = (FS, b.length, 0)) {D R : List Fr} {rest : List UInt8} (h : PieceI FS b b.length D R rest) : R = [] ∧ rest = [] := by
 obtain ⟨u, hs, hr⟩ := h.scan
 rw [List.take_length, hb] at hs
 injection hs with h1 h2
 injection h2 with h2 _
 have hall := h.all
 rw [← h1] at hall
 refine ⟨by simpa using hall.symm, ?_⟩
 rw [hr, List.take_length, ← h2, List.drop_length]
theorem putAll_bytes {l : List Fr} (hok : ∀ f ∈ l, f.ok = true) : putAll l = frBytes l ∧ frOks l = l := by
 have h2 : frOks l = l := by
  unfold frOks
  exact List.filter_eq_self.2 hok
 refine ⟨?_, h2⟩
 unfold frBytes
 rw [h2]
 unfold putAll
 induction l with
 | nil => rfl
 | cons f r ih =>
  have hr : ∀ f ∈ r, f.ok = true := fun g hg => hok g (List.mem_cons_of_mem _ hg)
  rw [List.flatMap_cons, List.flatMap_cons, ih hr (List.filter_eq_self.2 hr)]
  congr 1
  unfold Fr.put
  rw [if_pos (hok f (List.mem_cons_self ..))]
theorem frScan_nilT : frScan [] = ([], 0, 0) := frScan_short (by decide) (by decide)
theorem scan_putAll {l : List Fr} (hok : ∀ f ∈ l, f.ok = true) (hw : ∀ f ∈ l, f.wf) : frScan (putAll l) = (l, (putAll l).length, 0) := by
 obtain ⟨h1, h2⟩ := putAll_bytes hok
 have h := frScan_row hw []
 rw [List.append_nil, frScan_nilT] at h
 rw [h1, h, h2]
 simp
/-- an assembly of one segment -/
theorem one_ok {ch tr : Nat} {x : List UInt8} (h1 : tr ≤ 1) (h2 : x.length ≤ 16384) : asOk ⟨ch, tr, [⟨tr, x⟩]⟩ = true := by
 simp [asOk, segsOk, headOk, h1, h2]
 omega
end Go.PH
end
section
/- Values of headers and replies as plain mathematics: trees; how deep, how many, which may be, their bytes. No program in sight. -/
namespace Go.PH

inductive Vl where
 | mk (kind n : Nat) (s : List UInt8) (keys : List (List UInt8)) (list : List Vl)
namespace Vl
def kind : Vl → Nat | mk k _ _ _ _ => k
def n : Vl → Nat | mk _ n _ _ _ => n
def s : Vl → List UInt8 | mk _ _ s _ _ => s
def keys : Vl → List (List UInt8) | mk _ _ _ k _ => k
def list : Vl → List Vl | mk _ _ _ _ l => l
theorem eta (v : Vl) : v = mk v.kind v.n v.s v.keys v.list := by cases v; rfl
theorem lt (v : Vl) {x : Vl} (h : x ∈ v.list) : SizeOf.sizeOf x < SizeOf.sizeOf v := by
 cases v with
 | mk k n s keys l =>
  have := List.sizeOf_lt_of_mem (show x ∈ l from h)
  simp only [mk.sizeOf_spec]
  omega
/-- what is so of a value if it is so of all that lie in it, is so of every value -/
theorem ind {P : Vl → Prop} (h : ∀ v, (∀ x ∈ v.list, P x) → P v) : ∀ v, P v := by
 have key : ∀ (m : Nat) (v : Vl), SizeOf.sizeOf v ≤ m → P v := by
  intro m
  induction m with
  | zero =>
   intro v hv
   refine h v fun x hx => ?_
   have := v.lt hx
   omega
  | succ m ih =>
   intro v hv
   refine h v fun x hx => ih x ?_
   have := v.lt hx
   omega
 exact fun v => key _ v (Nat.le_refl _)
end Vl
def vl0 : Vl := .mk 0 0 [] [] []
instance : Inhabited Vl := ⟨vl0⟩
/-- is it as deep as so, or deeper? -/
def deepV : Nat → Vl → Bool
 | 0, _ => true
 | m + 1, v => v.list.any (deepV m)
mutual
/-- how many values are left of so many -/
def cntV : Vl → Int → Int
 | .mk _ _ _ _ l, m => cntL l (m - 1)
def cntL : List Vl → Int → Int
 | [], m => m
 | x :: l, m => if m < 0 then m else cntL l (cntV x m)
end
theorem cntV_eq (v : Vl) (m : Int) : cntV v m = cntL v.list (m - 1) := by cases v; rw [cntV]; rfl
theorem cntL_neg (l : List Vl) {m : Int} (h : m < 0) : cntL l m = m := by
 cases l with
 | nil => rw [cntL]
 | cons x l => rw [cntL, if_pos h]
theorem cntL_pos (x : Vl) (l : List Vl) {m : Int} (h : ¬ m < 0) : cntL (x :: l) m = cntL l (cntV x m) := by rw [cntL, if_neg h]
mutual
theorem cntV_le : ∀ (v : Vl) (m : Int), cntV v m ≤ m - 1
 | .mk _ _ _ _ l, m => by rw [cntV]; exact cntL_le l (m - 1)
theorem cntL_le : ∀ (l : List Vl) (m : Int), cntL l m ≤ m
 | [], m => by rw [cntL]; omega
 | x :: l, m => by
  rw [cntL]
  split
  ·omega
  ·have h1 := cntV_le x m
   have h2 := cntL_le l (cntV x m)
   omega
end
mutual
theorem cntV_ge : ∀ (v : Vl) (m : Int), -1 ≤ m → (0 ≤ m → -1 ≤ cntV v m)
 | .mk _ _ _ _ l, m, h, h0 => by rw [cntV]; exact cntL_ge l (m - 1) (by omega)
theorem cntL_ge : ∀ (l : List Vl) (m : Int), -1 ≤ m → -1 ≤ cntL l m
 | [], m, h => by rw [cntL]; omega
 | x :: l, m, h => by
  rw [cntL]
  split
  ·omega
  ·exact cntL_ge l _ (cntV_ge x m h (by omega))
end
/-- keys that may be -/
def keysOk (l : List (List UInt8)) (plain : List UInt8 → Bool) : Bool := l.all (fun k => decide (1 ≤ k.length) && decide (k.length ≤ 255) && plain k) && decide l.Nodup
mutual
/-- may a value be, but for how deep and great it is? plain: which texts are -/
def mayV (plain : List UInt8 → Bool) : Vl → Bool
 | .mk k n s keys l =>
  (decide (k = 168) || keys.isEmpty) && (decide (k = 168) || decide (k = 169) || l.isEmpty) && (decide (k = 149) || decide (k = 160) || s.isEmpty) && decide (s.length ≤ 4096) &&
  (if k = 8 then decide (n ≤ 1) else if k = 2 then decide (n ≤ 255) else if k = 49 ∨ k = 50 then true
   else if k = 240 ∨ k = 160 then decide (n = 0)
   else if k = 149 then plain s && decide (n = 0)
   else if k = 168 then decide (keys.length = l.length) && keysOk keys plain && decide (n = 0)
   else if k = 169 then decide (n = 0) else false) && mayL plain l
def mayL (plain : List UInt8 → Bool) : List Vl → Bool
 | [] => true
 | x :: l => mayV plain x && mayL plain l
end
theorem mayL_all (plain : List UInt8 → Bool) (l : List Vl) : mayL plain l = l.all (mayV plain) := by
 induction l with
 | nil => rw [mayL]; rfl
 | cons x l ih => rw [mayL, ih]; rfl
mutual
/-- are two values the same? -/
def sameV : Vl → Vl → Bool
 | .mk k n s keys l, v => decide (k = v.kind) && decide (n = v.n) && decide (s = v.s) && decide (keys = v.keys) && sameL l v.list
def sameL : List Vl → List Vl → Bool
 | [], [] => true
 | x :: l, y :: m => sameV x y && sameL l m
 | _, _ => false
end
mutual
theorem sameV_iff : ∀ (v u : Vl), sameV v u = true ↔ v = u
 | .mk k n s keys l, .mk k' n' s' keys' l' => by
  rw [sameV]
  simp only [Vl.kind, Vl.n, Vl.s, Vl.keys, Vl.list, Bool.and_eq_true, sameL_iff l l', Vl.mk.injEq]
  constructor
  ·rintro ⟨⟨⟨⟨a, b⟩, c⟩, d⟩, e⟩; exact ⟨of_decide_eq_true a, of_decide_eq_true b, of_decide_eq_true c, of_decide_eq_true d, e⟩
  ·rintro ⟨a, b, c, d, e⟩; exact ⟨⟨⟨⟨decide_eq_true a, decide_eq_true b⟩, decide_eq_true c⟩, decide_eq_true d⟩, e⟩
theorem sameL_iff : ∀ (l m : List Vl), sameL l m = true ↔ l = m
 | [], [] => by simp [sameL]
 | [], y :: m => by simp [sameL]
 | x :: l, [] => by simp [sameL]
 | x :: l, y :: m => by
  rw [sameL, Bool.and_eq_true, sameV_iff x y, sameL_iff l m, List.cons.injEq]
end
instance : DecidableEq Vl := fun v u => if h : sameV v u = true then isTrue ((sameV_iff v u).1 h) else isFalse fun e => h ((sameV_iff v u).2 e)
end Go.PH
end

/- Texts laid together: MdMath, MdSplit, MdFind, MdKinds, MdLaid, MdNamed, MdTab, MdRef. -/
import Derived.Lib.SplitLaws
import Derived.Deep.DeepCutAuto
import Derived.BigQuiet
import Derived.Deep.QuietTactic
import Derived.Test.YtfbkameikhgciaaGreatDoorCards
import Derived.Test.YtfbkameikhgciaaGreatDoorTie
import Derived.Lib.LaidTab
import Derived.Test.YtfbkameikhgciaaGreatDoorMg00
import Derived.Test.YtfbkameikhgciaaGreatDoorMg01
import Derived.Test.YtfbkameikhgciaaGreatDoorMg02
import Derived.Test.YtfbkameikhgciaaGreatDoorMg03
import Derived.Test.YtfbkameikhgciaaGreatDoorMg11
set_option linter.all false
set_option linter.unusedSimpArgs false
set_option linter.unusedVariables false
section
/- The tables of methods, as plain lists: the program's and the document's. (Printed by wip/genmdtab.py.) -/
namespace Go.PH

/-- a row: its code, its word, its arguments' kinds -/
structure MRow where
 code : Nat
 word : List UInt8
 kinds : List UInt8
deriving DecidableEq
/-- the document's row -/
structure RRow where
 cls : Nat
 code : Nat
 name : List UInt8
 kinds : List UInt8
deriving DecidableEq
/-- a class's word, its rows as one text, its rows -/
def clsWord : Nat → List UInt8
 | 1 => [99, 111, 110, 110, 101, 99, 116, 105, 111, 110]
 | 2 => [115, 101, 115, 115, 105, 111, 110]
 | 3 => [101, 120, 101, 99, 117, 116, 105, 111, 110]
 | 4 => [109, 101, 115, 115, 97, 103, 101]
 | 5 => [116, 120]
 | 6 => [100, 116, 120]
 | 8 => [113, 117, 101, 117, 101]
 | _ => []
def clsText : Nat → List UInt8
 | 1 => [49, 32, 115, 116, 97, 114, 116, 32, 116, 59, 50, 32, 115, 116, 97, 114, 116, 45, 111, 107, 32, 116, 59, 53, 32, 116, 117, 110, 101, 32, 119, 119, 59, 54, 32, 116, 117, 110, 101, 45, 111, 107, 32, 119, 119, 59, 55, 32, 111, 112, 101, 110, 32, 115, 59, 56, 32, 111, 112, 101, 110, 45, 111, 107, 32, 59, 49, 49, 32, 99, 108, 111, 115, 101, 32, 119, 115, 59, 49, 50, 32, 99, 108, 111, 115, 101, 45, 111, 107, 32]
 | 2 => [49, 32, 97, 116, 116, 97, 99, 104, 32, 116, 98, 59, 50, 32, 97, 116, 116, 97, 99, 104, 101, 100, 32, 116, 59, 51, 32, 100, 101, 116, 97, 99, 104, 32, 116, 59, 52, 32, 100, 101, 116, 97, 99, 104, 101, 100, 32, 116, 110, 59, 55, 32, 112, 111, 105, 110, 116, 32, 100, 59, 49, 48, 32, 99, 111, 109, 112, 108, 101, 116, 101, 100, 32, 114, 59, 49, 49, 32, 107, 110, 111, 119, 110, 32, 114, 59, 49, 50, 32, 102, 108, 117, 115, 104, 32]
 | 3 => [49, 32, 115, 121, 110, 99, 32, 59, 50, 32, 114, 101, 115, 117, 108, 116, 32, 100, 118, 59, 51, 32, 101, 120, 99, 101, 112, 116, 105, 111, 110, 32, 119, 100, 116]
 | 4 => [49, 32, 116, 114, 97, 110, 115, 102, 101, 114, 32, 115, 110, 59, 50, 32, 97, 99, 99, 101, 112, 116, 32, 114, 59, 51, 32, 114, 101, 106, 101, 99, 116, 32, 114, 119, 115, 59, 52, 32, 114, 101, 108, 101, 97, 115, 101, 32, 114, 98, 59, 55, 32, 115, 117, 98, 115, 99, 114, 105, 98, 101, 32, 115, 115, 59, 56, 32, 99, 97, 110, 99, 101, 108, 32, 115, 59, 49, 48, 32, 102, 108, 111, 119, 32, 115, 100, 59, 49, 50, 32, 115, 116, 111, 112, 32, 115]
 | 5 => [49, 32, 115, 101, 108, 101, 99, 116, 32, 59, 50, 32, 99, 111, 109, 109, 105, 116, 32, 59, 51, 32, 114, 111, 108, 108, 98, 97, 99, 107, 32]
 | 6 => [49, 32, 115, 101, 108, 101, 99, 116, 32, 59, 50, 32, 115, 116, 97, 114, 116, 32, 120, 98, 98, 59, 51, 32, 101, 110, 100, 32, 120, 98, 98, 59, 52, 32, 99, 111, 109, 109, 105, 116, 32, 120, 98, 59, 53, 32, 102, 111, 114, 103, 101, 116, 32, 120, 59, 54, 32, 103, 101, 116, 45, 116, 105, 109, 101, 111, 117, 116, 32, 120, 59, 55, 32, 112, 114, 101, 112, 97, 114, 101, 32, 120, 59, 56, 32, 114, 101, 99, 111, 118, 101, 114, 32, 59, 57, 32, 114, 111, 108, 108, 98, 97, 99, 107, 32, 120, 59, 49, 48, 32, 115, 101, 116, 45, 116, 105, 109, 101, 111, 117, 116, 32, 120, 100]
 | 8 => [49, 32, 100, 101, 99, 108, 97, 114, 101, 32, 115, 98, 100, 59, 50, 32, 100, 101, 108, 101, 116, 101, 32, 115, 98, 59, 51, 32, 112, 117, 114, 103, 101, 32, 115, 59, 52, 32, 113, 117, 101, 114, 121, 32, 115]
 | _ => []
def clsRows : Nat → List MRow
 | 1 => [⟨1, [115, 116, 97, 114, 116], [116]⟩, ⟨2, [115, 116, 97, 114, 116, 45, 111, 107], [116]⟩, ⟨5, [116, 117, 110, 101], [119, 119]⟩, ⟨6, [116, 117, 110, 101, 45, 111, 107], [119, 119]⟩, ⟨7, [111, 112, 101, 110], [115]⟩, ⟨8, [111, 112, 101, 110, 45, 111, 107], []⟩, ⟨11, [99, 108, 111, 115, 101], [119, 115]⟩, ⟨12, [99, 108, 111, 115, 101, 45, 111, 107], []⟩]
 | 2 => [⟨1, [97, 116, 116, 97, 99, 104], [116, 98]⟩, ⟨2, [97, 116, 116, 97, 99, 104, 101, 100], [116]⟩, ⟨3, [100, 101, 116, 97, 99, 104], [116]⟩, ⟨4, [100, 101, 116, 97, 99, 104, 101, 100], [116, 110]⟩, ⟨7, [112, 111, 105, 110, 116], [100]⟩, ⟨10, [99, 111, 109, 112, 108, 101, 116, 101, 100], [114]⟩, ⟨11, [107, 110, 111, 119, 110], [114]⟩, ⟨12, [102, 108, 117, 115, 104], []⟩]
 | 3 => [⟨1, [115, 121, 110, 99], []⟩, ⟨2, [114, 101, 115, 117, 108, 116], [100, 118]⟩, ⟨3, [101, 120, 99, 101, 112, 116, 105, 111, 110], [119, 100, 116]⟩]
 | 4 => [⟨1, [116, 114, 97, 110, 115, 102, 101, 114], [115, 110]⟩, ⟨2, [97, 99, 99, 101, 112, 116], [114]⟩, ⟨3, [114, 101, 106, 101, 99, 116], [114, 119, 115]⟩, ⟨4, [114, 101, 108, 101, 97, 115, 101], [114, 98]⟩, ⟨7, [115, 117, 98, 115, 99, 114, 105, 98, 101], [115, 115]⟩, ⟨8, [99, 97, 110, 99, 101, 108], [115]⟩, ⟨10, [102, 108, 111, 119], [115, 100]⟩, ⟨12, [115, 116, 111, 112], [115]⟩]
 | 5 => [⟨1, [115, 101, 108, 101, 99, 116], []⟩, ⟨2, [99, 111, 109, 109, 105, 116], []⟩, ⟨3, [114, 111, 108, 108, 98, 97, 99, 107], []⟩]
 | 6 => [⟨1, [115, 101, 108, 101, 99, 116], []⟩, ⟨2, [115, 116, 97, 114, 116], [120, 98, 98]⟩, ⟨3, [101, 110, 100], [120, 98, 98]⟩, ⟨4, [99, 111, 109, 109, 105, 116], [120, 98]⟩, ⟨5, [102, 111, 114, 103, 101, 116], [120]⟩, ⟨6, [103, 101, 116, 45, 116, 105, 109, 101, 111, 117, 116], [120]⟩, ⟨7, [112, 114, 101, 112, 97, 114, 101], [120]⟩, ⟨8, [114, 101, 99, 111, 118, 101, 114], []⟩, ⟨9, [114, 111, 108, 108, 98, 97, 99, 107], [120]⟩, ⟨10, [115, 101, 116, 45, 116, 105, 109, 101, 111, 117, 116], [120, 100]⟩]
 | 8 => [⟨1, [100, 101, 99, 108, 97, 114, 101], [115, 98, 100]⟩, ⟨2, [100, 101, 108, 101, 116, 101], [115, 98]⟩, ⟨3, [112, 117, 114, 103, 101], [115]⟩, ⟨4, [113, 117, 101, 114, 121], [115]⟩]
 | _ => []
def refTab : List RRow := [⟨1, 1, [99, 111, 110, 110, 101, 99, 116, 105, 111, 110, 46, 115, 116, 97, 114, 116], [116]⟩, ⟨1, 2, [99, 111, 110, 110, 101, 99, 116, 105, 111, 110, 46, 115, 116, 97, 114, 116, 45, 111, 107], [116]⟩, ⟨1, 5, [99, 111, 110, 110, 101, 99, 116, 105, 111, 110, 46, 116, 117, 110, 101], [119, 119]⟩, ⟨1, 6, [99, 111, 110, 110, 101, 99, 116, 105, 111, 110, 46, 116, 117, 110, 101, 45, 111, 107], [119, 119]⟩, ⟨1, 7, [99, 111, 110, 110, 101, 99, 116, 105, 111, 110, 46, 111, 112, 101, 110], [115]⟩, ⟨1, 8, [99, 111, 110, 110, 101, 99, 116, 105, 111, 110, 46, 111, 112, 101, 110, 45, 111, 107], []⟩, ⟨1, 11, [99, 111, 110, 110, 101, 99, 116, 105, 111, 110, 46, 99, 108, 111, 115, 101], [119, 115]⟩, ⟨1, 12, [99, 111, 110, 110, 101, 99, 116, 105, 111, 110, 46, 99, 108, 111, 115, 101, 45, 111, 107], []⟩, ⟨2, 1, [115, 101, 115, 115, 105, 111, 110, 46, 97, 116, 116, 97, 99, 104], [116, 98]⟩, ⟨2, 2, [115, 101, 115, 115, 105, 111, 110, 46, 97, 116, 116, 97, 99, 104, 101, 100], [116]⟩, ⟨2, 3, [115, 101, 115, 115, 105, 111, 110, 46, 100, 101, 116, 97, 99, 104], [116]⟩, ⟨2, 4, [115, 101, 115, 115, 105, 111, 110, 46, 100, 101, 116, 97, 99, 104, 101, 100], [116, 110]⟩, ⟨2, 7, [115, 101, 115, 115, 105, 111, 110, 46, 112, 111, 105, 110, 116], [100]⟩, ⟨2, 10, [115, 101, 115, 115, 105, 111, 110, 46, 99, 111, 109, 112, 108, 101, 116, 101, 100], [114]⟩, ⟨2, 11, [115, 101, 115, 115, 105, 111, 110, 46, 107, 110, 111, 119, 110], [114]⟩, ⟨2, 12, [115, 101, 115, 115, 105, 111, 110, 46, 102, 108, 117, 115, 104], []⟩, ⟨3, 1, [101, 120, 101, 99, 117, 116, 105, 111, 110, 46, 115, 121, 110, 99], []⟩, ⟨3, 2, [101, 120, 101, 99, 117, 116, 105, 111, 110, 46, 114, 101, 115, 117, 108, 116], [100, 118]⟩, ⟨3, 3, [101, 120, 101, 99, 117, 116, 105, 111, 110, 46, 101, 120, 99, 101, 112, 116, 105, 111, 110], [119, 100, 116]⟩, ⟨4, 1, [109, 101, 115, 115, 97, 103, 101, 46, 116, 114, 97, 110, 115, 102, 101, 114], [115, 110]⟩, ⟨4, 2, [109, 101, 115, 115, 97, 103, 101, 46, 97, 99, 99, 101, 112, 116], [114]⟩, ⟨4, 3, [109, 101, 115, 115, 97, 103, 101, 46, 114, 101, 106, 101, 99, 116], [114, 119, 115]⟩, ⟨4, 4, [109, 101, 115, 115, 97, 103, 101, 46, 114, 101, 108, 101, 97, 115, 101], [114, 98]⟩, ⟨4, 7, [109, 101, 115, 115, 97, 103, 101, 46, 115, 117, 98, 115, 99, 114, 105, 98, 101], [115, 115]⟩, ⟨4, 8, [109, 101, 115, 115, 97, 103, 101, 46, 99, 97, 110, 99, 101, 108], [115]⟩, ⟨4, 10, [109, 101, 115, 115, 97, 103, 101, 46, 102, 108, 111, 119], [115, 100]⟩, ⟨4, 12, [109, 101, 115, 115, 97, 103, 101, 46, 115, 116, 111, 112], [115]⟩, ⟨5, 1, [116, 120, 46, 115, 101, 108, 101, 99, 116], []⟩, ⟨5, 2, [116, 120, 46, 99, 111, 109, 109, 105, 116], []⟩, ⟨5, 3, [116, 120, 46, 114, 111, 108, 108, 98, 97, 99, 107], []⟩, ⟨6, 1, [100, 116, 120, 46, 115, 101, 108, 101, 99, 116], []⟩, ⟨6, 2, [100, 116, 120, 46, 115, 116, 97, 114, 116], [120, 98, 98]⟩, ⟨6, 3, [100, 116, 120, 46, 101, 110, 100], [120, 98, 98]⟩, ⟨6, 4, [100, 116, 120, 46, 99, 111, 109, 109, 105, 116], [120, 98]⟩, ⟨6, 5, [100, 116, 120, 46, 102, 111, 114, 103, 101, 116], [120]⟩, ⟨6, 6, [100, 116, 120, 46, 103, 101, 116, 45, 116, 105, 109, 101, 111, 117, 116], [120]⟩, ⟨6, 7, [100, 116, 120, 46, 112, 114, 101, 112, 97, 114, 101], [120]⟩, ⟨6, 8, [100, 116, 120, 46, 114, 101, 99, 111, 118, 101, 114], []⟩, ⟨6, 9, [100, 116, 120, 46, 114, 111, 108, 108, 98, 97, 99, 107], [120]⟩, ⟨6, 10, [100, 116, 120, 46, 115, 101, 116, 45, 116, 105, 109, 101, 111, 117, 116], [120, 100]⟩, ⟨8, 1, [113, 117, 101, 117, 101, 46, 100, 101, 99, 108, 97, 114, 101], [115, 98, 100]⟩, ⟨8, 2, [113, 117, 101, 117, 101, 46, 100, 101, 108, 101, 116, 101], [115, 98]⟩, ⟨8, 3, [113, 117, 101, 117, 101, 46, 112, 117, 114, 103, 101], [115]⟩, ⟨8, 4, [113, 117, 101, 117, 101, 46, 113, 117, 101, 114, 121], [115]⟩]
def findM (c k : Nat) : Option MRow := (clsRows c).find? fun r => decide (r.code = k)
def nameM (c k : Nat) : Option (List UInt8) := (findM c k).map fun r => clsWord c ++ [46] ++ r.word
def refFind (c k : Nat) : Option RRow := refTab.find? fun r => decide (r.cls = c ∧ r.code = k)
theorem cls_of {c : Nat} (h : clsRows c ≠ []) : c = 1 ∨ c = 2 ∨ c = 3 ∨ c = 4 ∨ c = 5 ∨ c = 6 ∨ c = 8 := by
 unfold clsRows at h
 split at h <;> simp_all
theorem tab_class (c : Nat) : refTab.filter (fun r => decide (r.cls = c)) = (clsRows c).map fun r => ⟨c, r.code, clsWord c ++ [46] ++ r.word, r.kinds⟩ := by
 by_cases h : c = 1 ∨ c = 2 ∨ c = 3 ∨ c = 4 ∨ c = 5 ∨ c = 6 ∨ c = 8
 ·rcases h with rfl | rfl | rfl | rfl | rfl | rfl | rfl <;> decide
 ·have h1 : clsRows c = [] := by
   cases hc : clsRows c with
   | nil => rfl
   | cons _ _ => exact absurd (cls_of (by rw [hc]; simp)) h
  rw [h1]
  simp only [List.map_nil, List.filter_eq_nil_iff, decide_eq_true_eq]
  have hall : ∀ r ∈ refTab, r.cls = 1 ∨ r.cls = 2 ∨ r.cls = 3 ∨ r.cls = 4 ∨ r.cls = 5 ∨ r.cls = 6 ∨ r.cls = 8 := by decide
  intro r hr e
  have := hall r hr
  rw [e] at this
  exact h this
theorem ref_find (c k : Nat) : refFind c k = (findM c k).map fun r => ⟨c, r.code, clsWord c ++ [46] ++ r.word, r.kinds⟩ := by
 have e : refFind c k = (refTab.filter fun r => decide (r.cls = c)).find? fun r => decide (r.code = k) := by
  unfold refFind
  rw [List.find?_filter]
  congr 1
  funext r
  simp
 rw [e, tab_class, List.find?_map]
 rfl
theorem row_len : ∀ r ∈ refTab, r.kinds.length ≤ 3 ∧ r.name.length ≤ 30 ∧ r.cls < 256 ∧ r.code < 256 := by decide
theorem find_small {c k : Nat} {r : MRow} (h : findM c k = some r) : r.kinds.length ≤ 3 ∧ (clsWord c ++ [46] ++ r.word).length ≤ 30 ∧ c < 256 ∧ r.code < 256 := by
 have hr := ref_find c k
 rw [h] at hr
 exact row_len _ (List.mem_of_find?_eq_some hr)
end Go.PH
end
section
/- Rows of methods as one text: how it is cut, how a code is read. -/
namespace Go.PH

/-- a text cut at a sign -/
def cutsB (d : UInt8) : List UInt8 → List (List UInt8)
 | [] => [[]]
 | c :: r => if c = d then [] :: cutsB d r else
  match cutsB d r with
  | h :: t => (c :: h) :: t
  | [] => [[c]]
theorem cutsB_one {d : UInt8} : ∀ {a : List UInt8}, d ∉ a → cutsB d a = [a]
 | [], _ => rfl
 | c :: a, h => by
  have hc : c ≠ d := fun e => h (by simp [e])
  have ih := cutsB_one (a := a) (fun e => h (List.mem_cons_of_mem _ e))
  rw [cutsB, if_neg hc, ih]
theorem cutsB_more {d : UInt8} : ∀ {a : List UInt8} (r : List UInt8), d ∉ a → cutsB d (a ++ d :: r) = a :: cutsB d r
 | [], r, _ => by simp [cutsB]
 | c :: a, r, h => by
  have hc : c ≠ d := fun e => h (by simp [e])
  have ih := cutsB_more (a := a) r (fun e => h (List.mem_cons_of_mem _ e))
  rw [List.cons_append, cutsB, if_neg hc, ih]
theorem indexByte_atd : ∀ {a : List UInt8} {c : UInt8} (r : List UInt8), c ∉ a → Lib.indexByte (a ++ c :: r) c = (a.length : Int)
 | [], c, r, _ => by simp [Lib.indexByte]
 | b :: a, c, r, h => by
  have hb : (b == c) = false := by simp; exact fun e => h (by simp [e])
  have ih := indexByte_atd (a := a) (c := c) r (fun e => h (by simp [e]))
  rw [List.cons_append, Lib.indexByte, hb, ih]
  have : ((a.length : Int) == -1) = false := by rw [beq_eq_false_iff_ne]; omega
  simp [this]
def sepS (d : UInt8) : ByteArray := ⟨#[d]⟩
theorem split_cuts {d : UInt8} : ∀ (k : Nat) (l : List UInt8), l.count d = k → (Lib.splitB (sepS d) 0 k (str l)).map (fun b => b.data.toList) = cutsB d l
 | 0, l, h => by
  rw [Lib.splitB_zero, cutsB_one (List.count_eq_zero.1 h)]; rfl
 | k + 1, l, h => by
  have hm : d ∈ l := List.count_pos_iff.1 (by omega)
  obtain ⟨a, r, rfl, ha⟩ := List.eq_append_cons_of_mem hm
  have hc : r.count d = k := by
   rw [List.count_append, List.count_cons_self, List.count_eq_zero.2 ha] at h; omega
  have hi : Lib.indexB (str (a ++ d :: r)) (sepS d) = (a.length : Int) := by
   show Lib.index (a ++ d :: r) [d] = _
   rw [Lib.index_one, indexByte_atd r ha]
  rw [Lib.splitB_hit (sepS d) 0 k _ a.length hi, List.map_cons, cutsB_more r ha]
  have e1 : (str (a ++ d :: r)).extract (a.length + (sepS d).size) (str (a ++ d :: r)).size = str r := by
   rw [str_size, str_extract]
   congr 1
   rw [List.take_of_length_le (Nat.le_refl _)]
   show (a ++ d :: r).drop (a.length + 1) = r
   rw [← List.drop_drop, List.drop_left]
   rfl
  have e2 : ((str (a ++ d :: r)).extract 0 (a.length + 0)).data.toList = a := by
   rw [str_extract, Nat.add_zero, List.take_left, List.drop_zero]; rfl
  rw [e1, e2, split_cuts k r hc]
theorem count_cuts {d : UInt8} (l : List UInt8) : Lib.countB (str l) (sepS d) = l.count d := by
 show Lib.count l [d] = _
 exact Lib.count_one d l
theorem cuts_len {d : UInt8} (l : List UInt8) : (cutsB d l).length = l.count d + 1 := by
 rw [← split_cuts _ l rfl, List.length_map]
 exact Lib.splitB_all (sepS d) (by show 1 ≤ 1; omega) 0 _ _ (count_cuts l)
theorem split_cellsd {d : UInt8} (l : List UInt8) : (Lib.splitB (sepS d) 0 (Lib.countB (str l) (sepS d)) (str l)).map Value.string = (cutsB d l).map (fun p => Value.string (str p)) := by
 rw [count_cuts, ← split_cuts _ l rfl, List.map_map]
 rfl

/-- a code's digits, read as the program does, in eight bits -/
def codeM (l : List UInt8) : Nat := l.foldl (fun n c => (10 * n + c.toNat + 208) % 256) 0
def pieceM (p : List UInt8) : Option MRow := match cutsB 32 p with
 | [a, b, c] => some ⟨codeM a, b, c⟩
 | _ => none
/-- the first piece that is of a code -/
def findP (k : Nat) : List (List UInt8) → Option MRow
 | [] => none
 | p :: l => match pieceM p with
  | some r => if r.code = k then some r else findP k l
  | none => findP k l
theorem findP_app (k : Nat) (a b : List (List UInt8)) : findP k (a ++ b) = match findP k a with
 | some r => some r
 | none => findP k b := by
 induction a with
 | nil => rfl
 | cons p a ih =>
  simp only [List.cons_append, findP]
  cases pieceM p with
  | none => exact ih
  | some r =>
   simp only
   by_cases h : r.code = k
   ·rw [if_pos h, if_pos h]
   ·rw [if_neg h, if_neg h]; exact ih
theorem pieces_of (k : Nat) : ∀ l : List (List UInt8), findP k l = (l.filterMap pieceM).find? fun r => decide (r.code = k)
 | [] => rfl
 | p :: l => by
  have ih := pieces_of k l
  rw [findP, List.filterMap_cons]
  cases pieceM p with
  | none => exact ih
  | some r =>
   by_cases h : r.code = k
   ·simp [h]
   ·simp only [h, if_false, List.find?_cons, decide_false]
    exact ih
theorem cls_pieces (c : Nat) : (cutsB 59 (clsText c)).filterMap pieceM = clsRows c := by
 by_cases h : c = 1 ∨ c = 2 ∨ c = 3 ∨ c = 4 ∨ c = 5 ∨ c = 6 ∨ c = 8
 ·rcases h with rfl | rfl | rfl | rfl | rfl | rfl | rfl <;> decide +kernel
 ·have h1 : clsRows c = [] := by
   cases hc : clsRows c with
   | nil => rfl
   | cons _ _ => exact absurd (cls_of (by rw [hc]; simp)) h
  have h2 : clsText c = [] := by
   unfold clsText
   split
   all_goals first | rfl | (exfalso; apply h; simp)
  rw [h1, h2]
  decide +kernel
theorem findP_cls (c k : Nat) : findP k (cutsB 59 (clsText c)) = findM c k := by rw [pieces_of, cls_pieces]; rfl
theorem codeM_lt (l : List UInt8) : codeM l < 256 := by
 unfold codeM
 rcases List.eq_nil_or_concat l with rfl | ⟨m, x, rfl⟩
 ·decide
 ·rw [List.concat_eq_append, List.foldl_append]
  exact Nat.mod_lt _ (by decide)
theorem codeM_snoc (l : List UInt8) (c : UInt8) : codeM (l ++ [c]) = (10 * codeM l + c.toNat + 208) % 256 := by simp [codeM]
theorem clsText_len (c : Nat) : (clsText c).length ≤ 200 ∧ (clsWord c).length ≤ 20 := by
 unfold clsText clsWord
 constructor <;> split <;> decide +kernel
theorem cutsB_le (d : UInt8) : ∀ (l : List UInt8), ∀ p ∈ cutsB d l, p.length ≤ l.length
 | [], p, hp => by simp [cutsB] at hp; subst hp; simp
 | c :: r, p, hp => by
  have ih := cutsB_le d r
  rw [cutsB] at hp
  split at hp
  ·rcases List.mem_cons.1 hp with rfl | hp
   ·simp
   ·have := ih p hp; simp; omega
  ·cases hd : cutsB d r with
   | nil => rw [hd] at hp; simp at hp; subst hp; simp
   | cons h t =>
    rw [hd] at hp ih
    rcases List.mem_cons.1 hp with rfl | hp
    ·have := ih h (List.mem_cons_self ..); simp; omega
    ·have := ih p (List.mem_cons_of_mem _ hp); simp; omega
end Go.PH
end
section
/- The walks of method's table: classes, code, find, Kinds, Name. -/
namespace Go.PH
open Go.RowKit Go.Proofs

/-- what the walks want of the listed variables -/
structure MEnv (w : World) : Prop where
 mx : ∃ m : Int, w.cell? ⟨0, 0, none⟩ = some (.int .i64 m)
theorem MEnv.lt {w : World} (h : MEnv w) : 0 < w.heap.size := by
 obtain ⟨m, hm⟩ := h.mx
 exact World.block_lt_of_cell? w _ hm
theorem MEnv.on {w w' : World} (h : MEnv w) (hB : Below w.heap.size w w') : MEnv w' where
 mx := by
  have hl := h.lt
  obtain ⟨m, hm⟩ := h.mx
  exact ⟨m, (hB.cell (p := ⟨0, 0, none⟩) hl).trans hm⟩
theorem classes_any (c : Nat) (w : World) : Calls Tryz.prog 111 #[.int .u8 (c : Int)] w fun e w' => e = .returned (.tuple #[.string (str (clsWord c)), .string (str (clsText c))]) ∧ w = w' := by
 by_cases h : c = 1 ∨ c = 2 ∨ c = 3 ∨ c = 4 ∨ c = 5 ∨ c = 6 ∨ c = 8
 ·rcases h with rfl | rfl | rfl | rfl | rfl | rfl | rfl
  all_goals
   go_enter Tryz.func111, Tryz.ntmps111
   go_wp2_with (with_reducible refine h_A ?_)
   go_ret2
   exact ⟨rfl, rfl⟩
 ·have h1 : clsText c = [] ∧ clsWord c = [] := by
   constructor
   ·unfold clsText
    split
    all_goals first | rfl | (exfalso; apply h; simp)
   ·unfold clsWord
    split
    all_goals first | rfl | (exfalso; apply h; simp)
  have e1 : ((c : Int) == 1) = false := by simp; omega
  have e2 : ((c : Int) == 2) = false := by simp; omega
  have e3 : ((c : Int) == 3) = false := by simp; omega
  have e4 : ((c : Int) == 4) = false := by simp; omega
  have e5 : ((c : Int) == 5) = false := by simp; omega
  have e6 : ((c : Int) == 6) = false := by simp; omega
  have e8 : ((c : Int) == 8) = false := by simp; omega
  rw [h1.1, h1.2]
  clear h h1
  go_enter Tryz.func111, Tryz.ntmps111
  go_wp2_with (with_reducible refine h_A ?_)
  go_ret2
  exact ⟨rfl, rfl⟩
theorem code_step (n c : Nat) : IntKind.u8.wrap (IntKind.u8.wrap (IntKind.u8.wrap (10 * (n : Int)) + (c : Int)) - 48) = (((10 * n + c + 208) % 256 : Nat) : Int) := by
 simp only [IntKind.wrap_u8]; omega
theorem code_any (l : List UInt8) (w : World) (hl : l.length ≤ 1000) : Calls Tryz.prog 120 #[.string (str l)] w fun e w' => e = .returned (.int .u8 (codeM l : Int)) ∧ w = w' := by
 have hss := str_size l
 go_enter Tryz.func120, Tryz.ntmps120
 go_wp2_with (with_reducible refine h_A ?_)
 go_loop [3, 7] (fun s3 s7 => ∃ k : Nat, k ≤ l.length ∧ s7 = .int .i64 k ∧ s3 = .int .u8 ((codeM (l.take k) : Nat) : Int)) (fun _ s7 => l.length - (RowKit.intOf s7).toNat)
 case atStart => exact ⟨0, by omega, rfl, rfl⟩
 case round =>
  obtain ⟨k, hk, rfl, rfl⟩ := hrel
  by_cases hlt : k < l.length
  ·have hkn : (k : Int) < (l.length : Int) := by omega
   have hst := Lib.hid (code_step (codeM (l.take k)) l[k].toNat)
   have hsn : Hid (codeM (l.take (k + 1)) = (10 * codeM (l.take k) + l[k].toNat + 208) % 256) := Lib.hid (by rw [List.take_succ_eq_append_getElem hlt, codeM_snoc])
   have hlt9 := codeM_lt (l.take k)
   go_wp2_with (with_reducible refine h_A ?_)
   refine ⟨⟨k + 1, by omega, by go_num, ?_⟩, by simp [RowKit.intOf]; omega⟩
   rw [hsn.out]
   show Value.int IntKind.u8 (((10 * ((codeM (l.take k) : Nat) : Int) + ((l[k].toNat : Nat) : Int)) % 256 - 48) % 256) = _
   congr 1
   omega
  ·obtain rfl : k = l.length := by omega
   rw [List.take_length]
   go_wp2_with (with_reducible refine h_A ?_)
   go_ret
   exact ⟨rfl, rfl⟩
def wordO (r : Option MRow) : List UInt8 := (r.map (·.word)).getD []
def kindsO (r : Option MRow) : List UInt8 := (r.map (·.kinds)).getD []
def FindR (w : World) (r : Option MRow) (e : Ending) (w' : World) : Prop := e = .returned (.tuple #[.string (str (wordO r)), .string (str (kindsO r)), .bool r.isSome]) ∧ Below w.heap.size w w'
theorem findP_none_snoc {k : Nat} {P : List (List UInt8)} {j : Nat} (hj : j < P.length) (h : findP k (P.take j) = none) : findP k (P.take (j + 1)) = findP k [P[j]] := by
 rw [List.take_succ_eq_append_getElem hj, findP_app, h]
theorem findP_hit {k : Nat} {P : List (List UInt8)} {j : Nat} (hj : j < P.length) (h : findP k (P.take j) = none) {r : MRow} (hr : findP k [P[j]] = some r) : findP k P = some r := by
 have e : P = P.take (j + 1) ++ P.drop (j + 1) := (List.take_append_drop _ _).symm
 rw [e, findP_app, findP_none_snoc hj h, hr]
theorem findP_one3 {k : Nat} {p a b c : List UInt8} (h : cutsB 32 p = [a, b, c]) : findP k [p] = if codeM a = k then some ⟨codeM a, b, c⟩ else none := by
 unfold findP pieceM
 rw [h]
 simp only
 split <;> rfl
theorem findP_one0 {k : Nat} {p : List UInt8} (h : (cutsB 32 p).length ≠ 3) : findP k [p] = none := by
 unfold findP pieceM
 split
 ·rename_i h1
  split at h1
  ·rename_i h2; rw [h2] at h; exact absurd rfl h
  ·cases h1
 ·rfl
theorem len3 {α : Type} {l : List α} (h : l.length = 3) : ∃ a b c, l = [a, b, c] := by
 match l, h with
 | [a, b, c], _ => exact ⟨a, b, c, rfl⟩
/-- a text cut by strings.Split, at one sign -/
theorem split_any (d : UInt8) (l : List UInt8) (w : World) (he : MEnv w) (hl : l.length ≤ 100000) :
  Calls Tryz.prog 119 #[.string (str l), .string (sepS d)] w fun e w' => e = .returned (.slice (some ⟨w.heap.size, 0, none⟩) (cutsB d l).length (cutsB d l).length) ∧ w' = w.alloc (.cells ((cutsB d l).map (fun p => Value.string (str p))).toArray 9) := by
 obtain ⟨m, hm⟩ := he.mx
 have hsp := Tryz.strings_Split (str l) (sepS d) m w (by rw [str_size]; omega) hm (by show 1 ≤ 1; omega)
 rw [split_cellsd] at hsp
 have hcd : Lib.countB (str l) (sepS d) + 1 = (cutsB d l).length := by rw [count_cuts, cuts_len]
 rw [hcd] at hsp
 exact hsp
theorem strs_cell {w : World} {g : Nat} {t : TypeId} {P : List (List UInt8)} (hb : Box w g t (P.map (fun p => Value.string (str p))).toArray) {j : Nat} (hj : j < P.length) : w.cell? ⟨g, j, none⟩ = some (.string (str P[j])) := by
 refine hb.cell ?_
 simp [hj]
set_option maxRecDepth 20000 in
set_option maxHeartbeats 2000000 in
theorem find_any (c k : Nat) (w : World) (he : MEnv w) :
  Calls Tryz.prog 101 #[.int .u8 (c : Int), .int .u8 (k : Int)] w (FindR w (findM c k)) := by
 obtain ⟨RS, hRS⟩ : ∃ RS, RS = findM c k := ⟨_, rfl⟩
 rw [← hRS]
 have HRS : Hid (RS = findP k (cutsB 59 (clsText c))) := Lib.hid (by rw [hRS, findP_cls])
 obtain ⟨P, hP⟩ : ∃ P, P = cutsB 59 (clsText c) := ⟨_, rfl⟩
 have hPl : ∀ p ∈ P, p.length ≤ 200 := by
  intro p hp
  rw [hP] at hp
  have h1 := cutsB_le 59 (clsText c) p hp
  have h2 := (clsText_len c).1
  omega
 have hPn : P.length ≤ 201 := by
  have h1 : P.length = (clsText c).count 59 + 1 := by rw [hP, cuts_len]
  have h2 := (clsText_len c).1
  have h3 : (clsText c).count 59 ≤ (clsText c).length := List.count_le_length
  omega
 have hcl := classes_any c w
 have hsp := split_any 59 (clsText c) w he (by have := (clsText_len c).1; omega)
 have he0 := he
 rw [← hP] at hsp HRS
 clear hRS hP he
 have hB0 := (Below.refl w.heap.size w).alloc (Nat.le_refl _) (.cells (P.map (fun p => Value.string (str p))).toArray 9)
 have hb0 := Box.new w (P.map (fun p => Value.string (str p))).toArray 9
 go_enter Tryz.func101, Tryz.ntmps101
 go_wp2_with (with_reducible refine h_A ?_)
 refine hcl.mono ?_
 rintro e w1 ⟨rfl, rfl⟩
 go_wp2_with (with_reducible refine h_A ?_)
 refine hsp.mono ?_
 rintro e w1 ⟨rfl, rfl⟩
 clear hcl hsp
 obtain ⟨g0, hg0⟩ : ∃ g, g = w.heap.size := ⟨_, rfl⟩
 rw [← hg0] at hb0
 have hgw : g0 ≤ w.heap.size := by omega
 rw [← hg0]
 clear hg0
 generalize (w.alloc (.cells (P.map (fun p => Value.string (str p))).toArray 9)) = w1 at *
 go_wp2_with (with_reducible refine h_A ?_)
 go_loopw [20] (fun s wr => ∃ (j : Nat), j ≤ P.length ∧ s = .int .i64 j ∧ Hid (findP k (P.take j) = none) ∧ Box wr g0 9 (P.map (fun p => Value.string (str p))).toArray ∧ Below w.heap.size w wr) (fun s _ => P.length - (RowKit.intOf s).toNat)
 case atStart => exact ⟨0, by omega, rfl, Lib.hid rfl, hb0, hB0⟩
 case round =>
  obtain ⟨j, hj, rfl, HN, hb, hB⟩ := hrel
  clear hb0 hB0
  by_cases hlt : j < P.length
  ·have hjn : (j : Int) < (P.length : Int) := by omega
   have hp := hPl P[j] (List.getElem_mem hlt)
   have hc0 := strs_cell hb hlt
   have HS := Lib.hid (findP_none_snoc hlt HN.out)
   have HH : Hid (∀ r, findP k [P[j]] = some r → RS = some r) := Lib.hid (fun r hr => by rw [HRS.out]; exact findP_hit hlt HN.out hr)
   generalize P[j] = p at *
   have hsp := split_any 32 p wr (he0.on hB) (by omega)
   have hB2 := hB.alloc hB.size (.cells ((cutsB 32 p).map (fun p => Value.string (str p))).toArray 9)
   have hb2 := hb.alloc (.cells ((cutsB 32 p).map (fun p => Value.string (str p))).toArray 9)
   have hbp := Box.new wr ((cutsB 32 p).map (fun p => Value.string (str p))).toArray 9
   go_wp2_with (with_reducible refine h_A ?_)
   refine hsp.mono ?_
   rintro e w2 ⟨rfl, rfl⟩
   clear hsp hc0 hb hB
   obtain ⟨g1, hg1⟩ : ∃ g, g = wr.heap.size := ⟨_, rfl⟩
   rw [← hg1] at hbp ⊢
   clear hg1
   have HC1 : Hid ((cutsB 32 p).length ≠ 3 → findP k [p] = none) := Lib.hid (fun h => findP_one0 h)
   have HC3 : Hid (∀ a b c, cutsB 32 p = [a, b, c] → findP k [p] = if codeM a = k then some ⟨codeM a, b, c⟩ else none) := Lib.hid (fun a b c h => findP_one3 h)
   have hcl : ∀ q ∈ cutsB 32 p, q.length ≤ 1000 := fun q hq => by have := cutsB_le 32 p q hq; omega
   have hcn : (cutsB 32 p).length ≤ 1000 := by
    have h1 : (cutsB 32 p).length = p.count 32 + 1 := cuts_len p
    have h3 : p.count 32 ≤ p.length := List.count_le_length
    omega
   generalize cutsB 32 p = Q at *
   generalize (wr.alloc (.cells (Q.map (fun p => Value.string (str p))).toArray 9)) = w2 at *
   by_cases h3 : Q.length = 3
   ·obtain ⟨qa, qb, qc, rfl⟩ := len3 h3
    have k0 := hbp.c0
    have k1 := hbp.c1
    have k2 := hbp.c2
    have hla := hcl qa (by simp)
    have HQ := Lib.hid (HC3.out _ _ _ rfl)
    clear HC1 HC3 hcl h3 hbp
    have hcd := code_any qa w2 hla
    by_cases hk : codeM qa = k
    ·have HR : Hid (RS = some ⟨codeM qa, qb, qc⟩) := Lib.hid (HH.out _ (by rw [HQ.out, if_pos hk]))
     subst hk
     clear HH HQ HS HN
     go_wp2_with (with_reducible refine h_A ?_)
     refine hcd.mono ?_
     rintro e w3 ⟨rfl, rfl⟩
     clear hcd
     go_wp2_with (with_reducible refine h_A ?_)
     go_quiet (fail)
     go_wp2_with (with_reducible refine h_A ?_)
     go_ret3
     rw [HR.out]
     exact ⟨rfl, below_drewN hB2 _⟩
    ·have HN2 : Hid (findP k (P.take (j + 1)) = none) := Lib.hid (by rw [HS.out, HQ.out, if_neg hk])
     have hk' : ((codeM qa : Int) == (k : Int)) = false := by simp; omega
     clear HH HQ HS HN hk
     go_wp2_with (with_reducible refine h_A ?_)
     refine hcd.mono ?_
     rintro e w3 ⟨rfl, rfl⟩
     clear hcd
     go_wp2_with (with_reducible refine h_A ?_)
     exact ⟨⟨j + 1, by omega, by go_num, HN2, hb2, hB2⟩, by simp [RowKit.intOf]; omega⟩
   ·have HN2 : Hid (findP k (P.take (j + 1)) = none) := Lib.hid (by rw [HS.out, HC1.out h3])
    have h3' : ((Q.length : Int) == 3) = false := by simp; omega
    clear HH HS HN HC1 HC3 hcl hbp h3
    go_wp2_with (with_reducible refine h_A ?_)
    exact ⟨⟨j + 1, by omega, by go_num, HN2, hb2, hB2⟩, by simp [RowKit.intOf]; omega⟩
  ·obtain rfl : j = P.length := by omega
   have HR : Hid (RS = none) := Lib.hid (by rw [HRS.out]; have := HN.out; rwa [List.take_length] at this)
   clear HN
   go_wp2_with (with_reducible refine h_A ?_)
   go_ret3
   rw [HR.out]
   exact ⟨rfl, hB⟩
end Go.PH
end
section
/- The walk of method's Kinds. -/
namespace Go.PH
open Go.RowKit Go.Proofs

theorem kinds_any (c k : Nat) (w : World) (he : MEnv w) :
  Calls Tryz.prog 69 #[.int .u8 (c : Int), .int .u8 (k : Int)] w fun e w' => e = .returned (.tuple #[.string (str (kindsO (findM c k))), .bool (findM c k).isSome]) ∧ Below w.heap.size w w' := by
 have hf := find_any c k w he
 generalize findM c k = r at *
 unfold FindR at hf
 generalize kindsO r = kd at *
 generalize wordO r = wd at *
 generalize r.isSome = is at *
 go_enter Tryz.func69, Tryz.ntmps69
 go_wp2_with (with_reducible refine h_A ?_)
 refine hf.mono ?_
 rintro e w1 ⟨rfl, hB⟩
 go_wp2_with (with_reducible refine h_A ?_)
 go_ret2
 exact ⟨rfl, hB⟩
end Go.PH
end
section
/- The listed variables of methods: what the row's list gives, and a world for the witness. -/
namespace Go.Proofs.YtfbkameikhgciaaGreatDoor
open Go.PH Go.RowKit Go.ChangeShapes Go.WideShapes Go.ChangeAt

theorem own : ownKnob Tryz.prog.godebug = none := by kernel_rfl
theorem laidOut : laidOutB Tryz.prog = true := by kernel_rfl
def utfList : List (String × DataW Unit) := [("unicode/utf8.acceptRanges", Rows.laid_unicode_utf8_acceptRanges), ("unicode/utf8.first", Rows.laid_unicode_utf8_first)]
theorem env {W : World} (h : laidMetH Tryz.prog utfList W) (hsh : W.ShapedOpen Tryz.prog) : MEnv W := ⟨Tryz.laysM146.s1_3 W hsh⟩
/-! A world for the witness: each listed variable as its initialiser lays it. -/
def u8s (l : List Nat) : Array Value := (l.map fun (n : Nat) => Value.int .u8 (n : Int)).toArray
def accN : List Nat := [128, 191, 160, 191, 128, 159, 144, 191, 128, 143, 0, 0, 0, 0, 0, 0, 0, 0, 0, 0, 0, 0, 0, 0, 0, 0, 0, 0, 0, 0, 0, 0]
def withCells (h : Array Obj) (g : Nat) (cs : Array Value) : Array Obj := h.modify g fun
 | .cells _ t frozen => .cells cs t frozen
 | o => o
noncomputable def wit (os : Os) : World :=
 let w0 := World.holding Tryz.prog os ⟨#[], #[], []⟩
 { w0 with heap := withCells (withCells w0.heap 2 (u8s accN)) 1 (u8s Go.Pinned.utf8FirstZ) }
theorem utf_met (os : Os) (args : Array Value) : laidMet Tryz.prog utfList ((wit os).forCall (fun _ _ => 0) ⟨#[], args, []⟩).memory :=
 laidMet_of_run' 8 (by kernel_rfl) (by kernel_rfl)
end Go.Proofs.YtfbkameikhgciaaGreatDoor
end
section
/- The walks of method's Kinds, Name, Named. -/
namespace Go.PH
open Go.RowKit Go.Proofs

def nameO (c k : Nat) : List UInt8 := (nameM c k).getD []
theorem mname_any (c k : Nat) (w : World) (he : MEnv w) :
  Calls Tryz.prog 88 #[.int .u8 (c : Int), .int .u8 (k : Int)] w fun e w' => e = .returned (.tuple #[.string (str (nameO c k)), .bool (nameM c k).isSome]) ∧ Below w.heap.size w w' := by
 have hcl := classes_any c w
 have hf := find_any c k w he
 have hln : (clsWord c).length ≤ 20 := (clsText_len c).2
 cases hr : findM c k with
 | none =>
  have HN : Hid (nameO c k = [] ∧ (nameM c k).isSome = false) := Lib.hid (by unfold nameO nameM; rw [hr]; exact ⟨rfl, rfl⟩)
  rw [hr] at hf
  unfold FindR at hf
  simp only [Option.isSome_none] at hf
  clear hr
  go_enter Tryz.func88, Tryz.ntmps88
  go_wp2_with (with_reducible refine h_A ?_)
  refine hcl.mono ?_
  rintro e w1 ⟨rfl, rfl⟩
  go_wp2_with (with_reducible refine h_A ?_)
  refine hf.mono ?_
  rintro e w1 ⟨rfl, hB⟩
  go_wp2_with (with_reducible refine h_A ?_)
  go_ret2
  rw [HN.out.1, HN.out.2]
  exact ⟨rfl, hB⟩
 | some r =>
  have HN : Hid (nameO c k = clsWord c ++ [46] ++ r.word ∧ (nameM c k).isSome = true) := Lib.hid (by unfold nameO nameM; rw [hr]; exact ⟨rfl, rfl⟩)
  have hrl : (clsWord c ++ [46] ++ r.word).length ≤ 30 := (find_small hr).2.1
  simp only [List.length_append, List.length_cons, List.length_nil] at hrl
  rw [hr] at hf
  unfold FindR at hf
  simp only [Option.isSome_some] at hf
  have hw : wordO (some r) = r.word := rfl
  rw [hw] at hf
  clear hr hw
  have hs1 := str_size (clsWord c)
  have hs2 := str_size r.word
  go_enter Tryz.func88, Tryz.ntmps88
  go_wp2_with (with_reducible refine h_A ?_)
  refine hcl.mono ?_
  rintro e w1 ⟨rfl, rfl⟩
  go_wp2_with (with_reducible refine h_A ?_)
  refine hf.mono ?_
  rintro e w1 ⟨rfl, hB⟩
  go_wp2_with (with_reducible refine h_A ?_)
  go_ret2
  rw [HN.out.1, HN.out.2]
  exact ⟨rfl, hB⟩
end Go.PH
end
section
/- The document's table as a row of memory; the walk of Table. -/
namespace Go.PH
open Go.RowKit Go.Proofs

def rrC (r : RRow) : List Value := [.int .u8 (r.cls : Int), .int .u8 (r.code : Int), .string (str r.name), .string (str r.kinds)]
def rrV (r : RRow) : Array Value := #[.int .u8 (r.cls : Int), .int .u8 (r.code : Int), .string (str r.name), .string (str r.kinds)]
def rr0 : RRow := ⟨0, 0, [], []⟩
theorem rrShape : RecShape rrC 4 where
 len _ := rfl
 one a u hu := by simp [rrC] at hu; rcases hu with rfl | rfl | rfl | rfl <;> rfl
 pos := by omega
def tabCells : Array Value := (rowC rrC refTab).toArray
theorem tab_cell {w : World} {g : Nat} {t : TypeId} (hb : Box w g t tabCells) {j : Nat} (hj : j < refTab.length) : ∀ i u, (rrC refTab[j])[i]? = some u → w.cell? ⟨g, j * 4 + i, none⟩ = some u := fun i u hu => by
 refine hb.cell ?_
 have hi : i < 4 := by have := (List.getElem?_eq_some_iff.1 hu).1; rwa [rrShape.len] at this
 have := rowC_get rrShape refTab j hj i hi
 rw [hu] at this
 simpa [tabCells] using this
theorem oper_of_run {P : Program} {o : Oper} {a : Act} {w w' : World} {K : Act → World → Prop} {Q : Exit → Act → World → Prop} {v : Value} (h : (execOp a.eval o).run P w = .ok (.value v) w') (hk : K (a.put o.dst v) w') : o.wp P a w K Q := by
 unfold Oper.wp
 simp only [h]
 exact hk
set_option maxRecDepth 100000 in
set_option maxHeartbeats 4000000 in
theorem table_any (w : World) : Calls Tryz.prog 92 #[] w fun e w' => e = .returned (.slice (some ⟨w.heap.size, 0, none⟩) 44 44) ∧ w' = w.alloc (.cells tabCells 127) := by
 have ht : Hid (tabCells = (rowC rrC refTab).toArray) := Lib.hid rfl
 go_enter Tryz.func92, Tryz.ntmps92
 go_wp2_with (with_reducible refine h_A ?_)
 rename_i Q1 K1 h1 K0 h0
 refine oper_of_run (v := .slice (some ⟨w.heap.size, 0, none⟩) 44 44) (w' := w.alloc (.cells tabCells 127)) (by kernel_rfl) ?_
 refine h0 _ _ ?_
 clear h0 K0
 go_wp2_with (with_reducible refine h_A ?_)
 go_ret
 exact ⟨rfl, rfl⟩
end Go.PH
end
section
/- The walks of the document's Find, Named. -/
namespace Go.PH
open Go.RowKit Go.Proofs

theorem rr_one {a b : Int} {g h : ByteArray} : ∀ u ∈ [Value.int .u8 a, .int .u8 b, .string g, .string h], u.oneCell' = true := by
 intro u hu
 simp at hu; rcases hu with rfl | rfl | rfl | rfl <;> rfl
def RFindR (w : World) (r : Option RRow) (e : Ending) (w' : World) : Prop := e = .returned (.tuple #[.agg (rrV (r.getD rr0)), .bool r.isSome]) ∧ Below w.heap.size w w'
theorem find_take {α : Type} {p : α → Bool} {l : List α} {j : Nat} (hj : j < l.length) (h : (l.take j).find? p = none) : (p l[j] = true → l.find? p = some l[j]) ∧ (p l[j] = false → (l.take (j + 1)).find? p = none) := by
 constructor
 ·intro hp
  have e : l.find? p = (l.take j ++ l.drop j).find? p := by rw [List.take_append_drop]
  rw [e, List.find?_append, h, Option.none_or, List.drop_eq_getElem_cons hj, List.find?_cons, hp]
 ·intro hp
  rw [List.take_succ_eq_append_getElem hj, List.find?_append, h]
  simp [hp]
set_option maxRecDepth 20000 in
set_option maxHeartbeats 2000000 in
theorem rfind_any (c k : Nat) (w : World) : Calls Tryz.prog 59 #[.int .u8 (c : Int), .int .u8 (k : Int)] w (RFindR w (refFind c k)) := by
 obtain ⟨RS, hRS⟩ : ∃ RS, RS = refFind c k := ⟨_, rfl⟩
 rw [← hRS]
 have HRS : Hid (RS = refTab.find? fun r => decide (r.cls = c ∧ r.code = k)) := Lib.hid hRS
 clear hRS
 have hB0 := ((Below.refl w.heap.size w).alloc (Nat.le_refl _) (.cells (rrV rr0) 127)).alloc (by simp) (.cells tabCells 127)
 have hz0 := (Box.new w (rrV rr0) 127).alloc (.cells tabCells 127)
 have hb0 := Box.new (w.alloc (.cells (rrV rr0) 127)) tabCells 127
 have htb := table_any (w.alloc (.cells (rrV rr0) 127))
 have hs1 : (w.alloc (.cells (rrV rr0) 127)).heap.size = w.heap.size + 1 := by simp
 have hl44 : refTab.length = 44 := by decide
 have HL := Lib.hid hl44
 clear hl44
 rw [hs1] at hb0 htb
 unfold rrV rr0 at hz0 htb hb0 hB0
 simp only at hz0 htb hb0 hB0
 clear hs1
 go_enter Tryz.func59, Tryz.ntmps59
 go_wp2_with (with_reducible refine h_A ?_)
 refine htb.mono ?_
 rintro e w1 ⟨rfl, rfl⟩
 clear htb
 generalize ((w.alloc (.cells #[.int .u8 ((0 : Nat) : Int), .int .u8 ((0 : Nat) : Int), .string (str []), .string (str [])] 127)).alloc (.cells tabCells 127)) = w1 at *
 go_wp2_with (with_reducible refine h_A ?_)
 go_loopw [7] (fun s wr => ∃ (j : Nat), j ≤ 44 ∧ s = .int .i64 j ∧ Hid ((refTab.take j).find? (fun r => decide (r.cls = c ∧ r.code = k)) = none) ∧ Box wr w.heap.size 127 #[.int .u8 ((0 : Nat) : Int), .int .u8 ((0 : Nat) : Int), .string (str []), .string (str [])] ∧ Box wr (w.heap.size + 1) 127 tabCells ∧ Below w.heap.size w wr) (fun s _ => 44 - (RowKit.intOf s).toNat)
 case atStart => exact ⟨0, by omega, rfl, Lib.hid rfl, hz0, hb0, hB0⟩
 case round =>
  obtain ⟨j, hj, rfl, HN, hz, hb, hB⟩ := hrel
  clear hz0 hb0 hB0
  by_cases hlt : j < 44
  ·have hjl : j < refTab.length := by rw [HL.out]; exact hlt
   have hjn : (j : Int) < 44 := by omega
   have hc := tab_cell hb hjl
   have HT := Lib.hid (find_take hjl HN.out)
   have hsm := row_len _ (List.getElem_mem hjl)
   generalize refTab[j] = r at *
   obtain ⟨rc, rk, rn, rd⟩ := r
   have k0 : wr.cell? ⟨w.heap.size + 1, j * 4, none⟩ = _ := hc 0 _ rfl
   have k1 := hc 1 _ rfl
   have k2 := hc 2 _ rfl
   have k3 := hc 3 _ rfl
   clear hc hsm
   by_cases h1 : rc = c
   ·subst h1
    by_cases h2 : rk = k
    ·subst h2
     have HR : Hid (RS = some ⟨rc, rk, rn, rd⟩) := Lib.hid (by rw [HRS.out]; exact HT.out.1 (by simp))
     clear HT HN HRS
     go_wp2_with (with_reducible refine h_B ?_)
     refine unhold (wp_box (v := .agg #[.int .u8 (rc : Int), .int .u8 (rk : Int), .string (str rn), .string (str rd)]) (vs := [.int .u8 (rc : Int), .int .u8 (rk : Int), .string (str rn), .string (str rd)]) rfl rfl rfl rfl hz rfl (by kernel_rfl) (by simp) rr_one #[.int .u8 (rc : Int), .int .u8 (rk : Int), .string (str rn), .string (str rd)] (by simp) ?_)
     intro w5 hz5 hg5 _
     have hB5 := hB.grown hg5 hB.size (fun g hg => by injection hg with hg; omega)
     clear k0 k1 k2 k3 hz hb hB
     go_wp2_with (with_reducible refine h_A ?_)
     refine ret_box_tmp rfl hz5 rfl rfl Tryz.underlying127 rfl (by kernel_rfl) rfl ?_
     rw [HR.out]
     exact ⟨rfl, hB5⟩
    ·have HN2 : Hid ((refTab.take (j + 1)).find? (fun r => decide (r.cls = rc ∧ r.code = k)) = none) := Lib.hid (HT.out.2 (by simp [h2]))
     have e2 : ((rk : Int) == (k : Int)) = false := by simp; omega
     clear HT HN h2
     go_wp2_with (with_reducible refine h_A ?_)
     exact ⟨⟨j + 1, by omega, by go_num, HN2, hz, hb, hB⟩, by simp [RowKit.intOf]; omega⟩
   ·have HN2 : Hid ((refTab.take (j + 1)).find? (fun r => decide (r.cls = c ∧ r.code = k)) = none) := Lib.hid (HT.out.2 (by simp [h1]))
    have e1 : ((rc : Int) == (c : Int)) = false := by simp; omega
    clear HT HN h1
    go_wp2_with (with_reducible refine h_A ?_)
    exact ⟨⟨j + 1, by omega, by go_num, HN2, hz, hb, hB⟩, by simp [RowKit.intOf]; omega⟩
  ·obtain rfl : j = 44 := by omega
   have HR : Hid (RS = none) := Lib.hid (by
    rw [HRS.out]
    have := HN.out
    rwa [List.take_of_length_le (by rw [HL.out]; omega)] at this)
   clear HN HRS
   go_wp2_with (with_reducible refine h_B ?_)
   refine unhold (wp_box (v := .agg #[.int .u8 0, .int .u8 0, .string ⟨#[]⟩, .string ⟨#[]⟩]) (vs := [.int .u8 0, .int .u8 0, .string ⟨#[]⟩, .string ⟨#[]⟩]) rfl rfl rfl rfl hz rfl (by kernel_rfl) (by simp) rr_one #[.int .u8 0, .int .u8 0, .string ⟨#[]⟩, .string ⟨#[]⟩] (by simp) ?_)
   intro w5 hz5 hg5 _
   have hB5 := hB.grown hg5 hB.size (fun g hg => by injection hg with hg; omega)
   clear hz hb hB
   go_wp2_with (with_reducible refine h_A ?_)
   refine ret_box_tmp rfl hz5 rfl rfl Tryz.underlying127 rfl (by kernel_rfl) rfl ?_
   rw [HR.out]
   exact ⟨rfl, hB5⟩
end Go.PH
end

/- Rows of methods as one text: how it is cut, how a code is read. -/
import Derived.Test.YtidpbbleneekgaaDoorMdMath
import Derived.Lib.SplitLaws
set_option linter.all false
set_option linter.unusedSimpArgs false
set_option linter.unusedVariables false
namespace Go.PH

/-- a text cut at a sign -/
def cutsB (d : UInt8) : List UInt8 → List (List UInt8)
  | [] => [[]]
  | c :: r => if c = d then [] :: cutsB d r else
    match cutsB d r with
    | h :: t => (c :: h) :: t
    | [] => [[c]]
theorem cutsB_ne {d : UInt8} (l : List UInt8) : cutsB d l ≠ [] := by
  cases l with
  | nil => simp [cutsB]
  | cons c r =>
    rw [cutsB]
    split
    · simp
    · split <;> simp
theorem cutsB_one {d : UInt8} : ∀ {a : List UInt8}, d ∉ a → cutsB d a = [a]
  | [], _ => rfl
  | c :: a, h => by
    have hc : c ≠ d := fun e => h (by simp [e])
    have ih := cutsB_one (a := a) (fun e => h (List.mem_cons_of_mem _ e))
    rw [cutsB, if_neg hc, ih]
theorem cutsB_more {d : UInt8} : ∀ {a : List UInt8} (r : List UInt8), d ∉ a → cutsB d (a ++ d :: r) = a :: cutsB d r
  | [], r, _ => by simp [cutsB]
  | c :: a, r, h => by
    have hc : c ≠ d := fun e => h (by simp [e])
    have ih := cutsB_more (a := a) r (fun e => h (List.mem_cons_of_mem _ e))
    rw [List.cons_append, cutsB, if_neg hc, ih]
theorem indexByte_atd : ∀ {a : List UInt8} {c : UInt8} (r : List UInt8), c ∉ a → Lib.indexByte (a ++ c :: r) c = (a.length : Int)
  | [], c, r, _ => by simp [Lib.indexByte]
  | b :: a, c, r, h => by
    have hb : (b == c) = false := by simp; exact fun e => h (by simp [e])
    have ih := indexByte_atd (a := a) (c := c) r (fun e => h (by simp [e]))
    rw [List.cons_append, Lib.indexByte, hb, ih]
    have : ((a.length : Int) == -1) = false := by rw [beq_eq_false_iff_ne]; omega
    simp [this]
def sepS (d : UInt8) : ByteArray := ⟨#[d]⟩
theorem split_cuts {d : UInt8} : ∀ (k : Nat) (l : List UInt8), l.count d = k → (Lib.splitB (sepS d) 0 k (str l)).map (fun b => b.data.toList) = cutsB d l
  | 0, l, h => by
    rw [Lib.splitB_zero, cutsB_one (List.count_eq_zero.1 h)]; rfl
  | k + 1, l, h => by
    have hm : d ∈ l := List.count_pos_iff.1 (by omega)
    obtain ⟨a, r, rfl, ha⟩ := List.eq_append_cons_of_mem hm
    have hc : r.count d = k := by
      rw [List.count_append, List.count_cons_self, List.count_eq_zero.2 ha] at h; omega
    have hi : Lib.indexB (str (a ++ d :: r)) (sepS d) = (a.length : Int) := by
      show Lib.index (a ++ d :: r) [d] = _
      rw [Lib.index_one, indexByte_atd r ha]
    rw [Lib.splitB_hit (sepS d) 0 k _ a.length hi, List.map_cons, cutsB_more r ha]
    have e1 : (str (a ++ d :: r)).extract (a.length + (sepS d).size) (str (a ++ d :: r)).size = str r := by
      rw [str_size, str_extract]
      congr 1
      rw [List.take_of_length_le (Nat.le_refl _)]
      show (a ++ d :: r).drop (a.length + 1) = r
      rw [← List.drop_drop, List.drop_left]
      rfl
    have e2 : ((str (a ++ d :: r)).extract 0 (a.length + 0)).data.toList = a := by
      rw [str_extract, Nat.add_zero, List.take_left, List.drop_zero]; rfl
    rw [e1, e2, split_cuts k r hc]
theorem count_cuts {d : UInt8} (l : List UInt8) : Lib.countB (str l) (sepS d) = l.count d := by
  show Lib.count l [d] = _
  exact Lib.count_one d l
theorem cuts_len {d : UInt8} (l : List UInt8) : (cutsB d l).length = l.count d + 1 := by
  rw [← split_cuts _ l rfl, List.length_map]
  exact Lib.splitB_all (sepS d) (by show 1 ≤ 1; omega) 0 _ _ (count_cuts l)
theorem split_cellsd {d : UInt8} (l : List UInt8) : (Lib.splitB (sepS d) 0 (Lib.countB (str l) (sepS d)) (str l)).map Value.string = (cutsB d l).map (fun p => Value.string (str p)) := by
  rw [count_cuts, ← split_cuts _ l rfl, List.map_map]
  rfl

/-- a code's digits, read as the program does, in eight bits -/
def codeM (l : List UInt8) : Nat := l.foldl (fun n c => (10 * n + c.toNat + 208) % 256) 0
def pieceM (p : List UInt8) : Option MRow := match cutsB 32 p with
  | [a, b, c] => some ⟨codeM a, b, c⟩
  | _ => none
/-- the first piece that is of a code -/
def findP (k : Nat) : List (List UInt8) → Option MRow
  | [] => none
  | p :: l => match pieceM p with
    | some r => if r.code = k then some r else findP k l
    | none => findP k l
theorem findP_app (k : Nat) (a b : List (List UInt8)) : findP k (a ++ b) = match findP k a with
  | some r => some r
  | none => findP k b := by
  induction a with
  | nil => rfl
  | cons p a ih =>
    simp only [List.cons_append, findP]
    cases pieceM p with
    | none => exact ih
    | some r =>
      simp only
      by_cases h : r.code = k
      · rw [if_pos h, if_pos h]
      · rw [if_neg h, if_neg h]; exact ih
theorem pieces_of (k : Nat) : ∀ l : List (List UInt8), findP k l = (l.filterMap pieceM).find? fun r => decide (r.code = k)
  | [] => rfl
  | p :: l => by
    have ih := pieces_of k l
    rw [findP, List.filterMap_cons]
    cases pieceM p with
    | none => exact ih
    | some r =>
      by_cases h : r.code = k
      · simp [h]
      · simp only [h, if_false, List.find?_cons, decide_false]
        exact ih
theorem cls_pieces (c : Nat) : (cutsB 59 (clsText c)).filterMap pieceM = clsRows c := by
  by_cases h : c = 1 ∨ c = 2 ∨ c = 3 ∨ c = 4 ∨ c = 5 ∨ c = 6 ∨ c = 8
  · rcases h with rfl | rfl | rfl | rfl | rfl | rfl | rfl <;> decide +kernel
  · have h1 : clsRows c = [] := by
      cases hc : clsRows c with
      | nil => rfl
      | cons _ _ => exact absurd (cls_of (by rw [hc]; simp)) h
    have h2 : clsText c = [] := by
      unfold clsText
      split
      all_goals first | rfl | (exfalso; apply h; simp)
    rw [h1, h2]
    decide +kernel
theorem findP_cls (c k : Nat) : findP k (cutsB 59 (clsText c)) = findM c k := by rw [pieces_of, cls_pieces]; rfl
theorem codeM_lt (l : List UInt8) : codeM l < 256 := by
  unfold codeM
  rcases List.eq_nil_or_concat l with rfl | ⟨m, x, rfl⟩
  · decide
  · rw [List.concat_eq_append, List.foldl_append]
    exact Nat.mod_lt _ (by decide)
theorem codeM_snoc (l : List UInt8) (c : UInt8) : codeM (l ++ [c]) = (10 * codeM l + c.toNat + 208) % 256 := by simp [codeM]
theorem clsText_len (c : Nat) : (clsText c).length ≤ 200 ∧ (clsWord c).length ≤ 20 := by
  unfold clsText clsWord
  constructor <;> split <;> decide +kernel
theorem cutsB_le (d : UInt8) : ∀ (l : List UInt8), ∀ p ∈ cutsB d l, p.length ≤ l.length
  | [], p, hp => by simp [cutsB] at hp; subst hp; simp
  | c :: r, p, hp => by
    have ih := cutsB_le d r
    rw [cutsB] at hp
    split at hp
    · rcases List.mem_cons.1 hp with rfl | hp
      · simp
      · have := ih p hp; simp; omega
    · cases hd : cutsB d r with
      | nil => rw [hd] at hp; simp at hp; subst hp; simp
      | cons h t =>
        rw [hd] at hp ih
        rcases List.mem_cons.1 hp with rfl | hp
        · have := ih h (List.mem_cons_self ..); simp; omega
        · have := ih p (List.mem_cons_of_mem _ hp); simp; omega
end Go.PH

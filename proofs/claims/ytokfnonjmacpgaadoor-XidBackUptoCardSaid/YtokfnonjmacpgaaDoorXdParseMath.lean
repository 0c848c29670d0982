/- A name's text, read back: plain mathematics. -/
import Derived.Test.YtokfnonjmacpgaaDoorXdText
import Derived.Lib.SplitLaws
import Derived.Lib.ParseIntB
set_option linter.all false
set_option linter.unusedSimpArgs false
set_option linter.unusedVariables false
namespace Go.PH

/-- a text cut at its dots -/
def dotsB : List UInt8 → List (List UInt8)
  | [] => [[]]
  | c :: r => if c = 46 then [] :: dotsB r else
    match dotsB r with
    | h :: t => (c :: h) :: t
    | [] => [[c]]
theorem dotsB_ne (l : List UInt8) : dotsB l ≠ [] := by
  cases l with
  | nil => simp [dotsB]
  | cons c r =>
    rw [dotsB]
    split
    · simp
    · split <;> simp
theorem dotsB_one : ∀ {a : List UInt8}, (46 : UInt8) ∉ a → dotsB a = [a]
  | [], _ => rfl
  | c :: a, h => by
    have hc : c ≠ 46 := fun e => h (by simp [e])
    have ih := dotsB_one (a := a) (fun e => h (by simp [e]))
    rw [dotsB, if_neg hc, ih]
theorem dotsB_more : ∀ {a : List UInt8} (r : List UInt8), (46 : UInt8) ∉ a → dotsB (a ++ 46 :: r) = a :: dotsB r
  | [], r, _ => by simp [dotsB]
  | c :: a, r, h => by
    have hc : c ≠ 46 := fun e => h (by simp [e])
    have ih := dotsB_more (a := a) r (fun e => h (by simp [e]))
    rw [List.cons_append, dotsB, if_neg hc, ih]
def joinB : List (List UInt8) → List UInt8
  | [] => []
  | [a] => a
  | a :: b :: r => a ++ 46 :: joinB (b :: r)
theorem join_dots (l : List UInt8) : joinB (dotsB l) = l := by
  induction l with
  | nil => rfl
  | cons c r ih =>
    rw [dotsB]
    split
    · rename_i e
      cases hd : dotsB r with
      | nil => exact absurd hd (dotsB_ne r)
      | cons h t => rw [joinB, ← hd, ih, e]; rfl
    · cases hd : dotsB r with
      | nil => exact absurd hd (dotsB_ne r)
      | cons h t =>
        rw [hd] at ih
        cases t with
        | nil => simp only [joinB] at ih ⊢; rw [ih]
        | cons h2 t2 => simp only [joinB] at ih ⊢; rw [List.cons_append, ih]
theorem indexByte_at : ∀ {a : List UInt8} {c : UInt8} (r : List UInt8), c ∉ a → Lib.indexByte (a ++ c :: r) c = (a.length : Int)
  | [], c, r, _ => by simp [Lib.indexByte]
  | b :: a, c, r, h => by
    have hb : (b == c) = false := by simp; exact fun e => h (by simp [e])
    have ih := indexByte_at (a := a) (c := c) r (fun e => h (by simp [e]))
    rw [List.cons_append, Lib.indexByte, hb, ih]
    have : ((a.length : Int) == -1) = false := by rw [beq_eq_false_iff_ne]; omega
    simp [this]
def dotS : ByteArray := ⟨#[46]⟩
theorem split_dots : ∀ (k : Nat) (l : List UInt8), l.count 46 = k → (Lib.splitB dotS 0 k (str l)).map (fun b => b.data.toList) = dotsB l
  | 0, l, h => by
    rw [Lib.splitB_zero, dotsB_one (List.count_eq_zero.1 h)]; rfl
  | k + 1, l, h => by
    have hm : (46 : UInt8) ∈ l := List.count_pos_iff.1 (by omega)
    obtain ⟨a, r, rfl, ha⟩ := List.eq_append_cons_of_mem hm
    have hc : r.count 46 = k := by
      rw [List.count_append, List.count_cons_self, List.count_eq_zero.2 ha] at h; omega
    have hi : Lib.indexB (str (a ++ 46 :: r)) dotS = (a.length : Int) := by
      show Lib.index (a ++ 46 :: r) [46] = _
      rw [Lib.index_one, indexByte_at r ha]
    rw [Lib.splitB_hit dotS 0 k _ a.length hi, List.map_cons, dotsB_more r ha]
    have e1 : (str (a ++ 46 :: r)).extract (a.length + dotS.size) (str (a ++ 46 :: r)).size = str r := by
      rw [str_size, str_extract]
      congr 1
      rw [List.take_of_length_le (Nat.le_refl _)]
      show (a ++ 46 :: r).drop (a.length + 1) = r
      rw [← List.drop_drop, List.drop_left]
      rfl
    have e2 : ((str (a ++ 46 :: r)).extract 0 (a.length + 0)).data.toList = a := by
      rw [str_extract, Nat.add_zero, List.take_left, List.drop_zero]; rfl
    rw [e1, e2, split_dots k r hc]
theorem count_dots (l : List UInt8) : Lib.countB (str l) dotS = l.count 46 := by
  show Lib.count l [46] = _
  exact Lib.count_one 46 l
theorem dots_len (l : List UInt8) : (dotsB l).length = l.count 46 + 1 := by
  rw [← split_dots _ l rfl, List.length_map]
  exact Lib.splitB_all dotS (by decide) 0 _ _ (count_dots l)
theorem split_cells (l : List UInt8) : (Lib.splitB dotS 0 (Lib.countB (str l) dotS) (str l)).map Value.string = (dotsB l).map (fun p => Value.string (str p)) := by
  rw [count_dots, ← split_dots _ l rfl, List.map_map]
  rfl
/-! ### signs -/
def valU (c : UInt8) : Nat := if 48 ≤ c.toNat ∧ c.toNat ≤ 57 then c.toNat - 48 else c.toNat - 87
def isHex (c : UInt8) : Bool := decide (48 ≤ c.toNat ∧ c.toNat ≤ 57) || decide (97 ≤ c.toNat ∧ c.toNat ≤ 102)
def allHex (l : List UInt8) : Bool := l.all isHex
def pairsU : List UInt8 → List UInt8
  | a :: b :: r => UInt8.ofNat (16 * valU a + valU b) :: pairsU r
  | _ => []
def unhexR (s : List UInt8) : List UInt8 × Bool := if allHex s = true then (pairsU s, s.length % 2 == 0) else ([], false)
theorem valU_lt {c : UInt8} (h : isHex c = true) : valU c < 16 := by
  unfold isHex at h
  simp at h
  unfold valU
  split <;> omega
theorem sign_val {c : UInt8} (h : isHex c = true) : signU (valU c) = c := by
  unfold isHex at h
  simp at h
  apply UInt8.toNat_inj.1
  unfold signU valU
  rw [UInt8.toNat_ofNat']
  repeat' split
  all_goals omega
theorem val_sign {k : Nat} (h : k < 16) : isHex (signU k) = true ∧ valU (signU k) = k := by
  have : (signU k).toNat = if k < 10 then 48 + k else 87 + k := by
    unfold signU; rw [UInt8.toNat_ofNat']; split <;> omega
  unfold isHex valU
  rw [this]
  constructor
  · by_cases h1 : k < 10
    · simp [h1]; omega
    · simp [h1]; omega
  · by_cases h1 : k < 10
    · simp [h1]; omega
    · simp [h1]; omega
theorem hex_pairs : ∀ (l : List UInt8), allHex l = true → l.length % 2 = 0 → hexB (pairsU l) = l
  | [], _, _ => rfl
  | [_], _, h => by simp at h
  | a :: b :: r, hA, hl => by
    unfold allHex at hA
    simp only [List.all_cons, Bool.and_eq_true] at hA
    have ih := hex_pairs r hA.2.2 (by simp at hl; omega)
    have h1 := valU_lt hA.1
    have h2 := valU_lt hA.2.1
    have e : (UInt8.ofNat (16 * valU a + valU b)).toNat = 16 * valU a + valU b := by rw [UInt8.toNat_ofNat']; omega
    rw [pairsU]
    unfold hexB at ih ⊢
    rw [List.flatMap_cons, ih, e, show (16 * valU a + valU b) / 16 = valU a by omega, show (16 * valU a + valU b) % 16 = valU b by omega, sign_val hA.1, sign_val hA.2.1]
    rfl
theorem unhex_hex (l : List UInt8) : unhexR (hexB l) = (l, true) := by
  have h : ∀ l : List UInt8, allHex (hexB l) = true ∧ pairsU (hexB l) = l := by
    intro l
    induction l with
    | nil => exact ⟨rfl, rfl⟩
    | cons x l ih =>
      have hx := x.toNat_lt
      have e : hexB (x :: l) = signU (x.toNat / 16) :: signU (x.toNat % 16) :: hexB l := rfl
      have v1 := val_sign (k := x.toNat / 16) (by omega)
      have v2 := val_sign (k := x.toNat % 16) (by omega)
      rw [e]
      refine ⟨?_, ?_⟩
      · unfold allHex at ih ⊢; simp [v1.1, v2.1, ih.1]
      · rw [pairsU, v1.2, v2.2, ih.2]
        congr 1
        apply UInt8.toNat_inj.1
        rw [UInt8.toNat_ofNat']; omega
  unfold unhexR
  rw [if_pos (h l).1, (h l).2, hexB_len]
  simp
theorem unhex_ok {l g : List UInt8} (h : unhexR l = (g, true)) : hexB g = l := by
  unfold unhexR at h
  split at h
  · rename_i hA
    simp only [Prod.mk.injEq, beq_iff_eq] at h
    rw [← h.1]
    exact hex_pairs l hA h.2
  · simp at h
theorem hex_no46 (l : List UInt8) : (46 : UInt8) ∉ hexB l := by
  intro h
  unfold hexB at h
  obtain ⟨x, _, hx⟩ := List.mem_flatMap.1 h
  have := x.toNat_lt
  simp only [List.mem_cons, List.not_mem_nil, or_false] at hx
  rcases hx with hx | hx
  · have v := (val_sign (k := x.toNat / 16) (by omega)).1
    rw [← hx] at v
    exact absurd v (by decide)
  · have v := (val_sign (k := x.toNat % 16) (by omega)).1
    rw [← hx] at v
    exact absurd v (by decide)
theorem dec_no46 (n : Nat) : ∀ c ∈ Lib.decDigits n, 48 ≤ c.toNat ∧ c.toNat ≤ 57 := by
  induction n using Nat.strongRecOn with
  | ind n ih =>
    intro c hc
    rw [Lib.decDigits] at hc
    by_cases h : n < 10
    · rw [dif_pos h] at hc
      simp only [List.mem_cons, List.not_mem_nil, or_false] at hc
      rw [hc, UInt8.toNat_ofNat']; omega
    · rw [dif_neg h] at hc
      rcases List.mem_append.1 hc with h1 | h1
      · exact ih _ (by omega) c h1
      · simp only [List.mem_cons, List.not_mem_nil, or_false] at h1
        rw [h1, UInt8.toNat_ofNat']; omega
theorem uintM_snoc (M : Nat) : ∀ (l : List UInt8) (acc : Nat) (c : UInt8) (v : Nat), Lib.parseUintM M acc l = .ok v → Lib.parseUintM M acc (l ++ [c]) = Lib.parseUintM M v [c]
  | [], acc, c, v, h => by
    simp only [Lib.parseUintM, Lib.NumEnd.ok.injEq] at h
    subst h
    rfl
  | x :: l, acc, c, v, h => by
    rw [Lib.parseUintM] at h
    rw [List.cons_append, Lib.parseUintM]
    split at h
    · rename_i h1
      rw [if_pos h1]
      split at h
      · cases h
      · rename_i h2
        rw [if_neg h2]
        split at h
        · cases h
        · rename_i h3
          rw [if_neg h3]
          exact uintM_snoc M l _ c v h
    · cases h
theorem uint_dec (n : Nat) (h : n < 4294967296) : Lib.parseUintB 32 (Lib.decDigits n) = .ok n := by
  have hm : ∀ n, n < 4294967296 → Lib.parseUintM (2 ^ 32 - 1) 0 (Lib.decDigits n) = .ok n := by
    intro n
    induction n using Nat.strongRecOn with
    | ind n ih =>
      intro hn
      rw [Lib.decDigits]
      by_cases h : n < 10
      · rw [dif_pos h]
        have e : (UInt8.ofNat (48 + n)).toNat = 48 + n := by rw [UInt8.toNat_ofNat']; omega
        rw [Lib.parseUintM, e, if_pos (by omega), if_neg (by omega), if_neg (by omega), Lib.parseUintM]
        congr 1; omega
      · rw [dif_neg h]
        have e : (UInt8.ofNat (48 + n % 10)).toNat = 48 + n % 10 := by rw [UInt8.toNat_ofNat']; omega
        rw [uintM_snoc _ _ _ _ _ (ih (n / 10) (by omega) (by omega)), Lib.parseUintM, e, if_pos (by omega), if_neg (by omega), if_neg (by omega), Lib.parseUintM]
        congr 1; omega
  unfold Lib.parseUintB
  rw [if_neg (by rw [← digB_dec]; exact digB_ne n)]
  exact hm n h
theorem uintM_le (M : Nat) : ∀ (l : List UInt8) (acc v : Nat), acc ≤ M → Lib.parseUintM M acc l = .ok v → v ≤ M
  | [], acc, v, ha, h => by
    simp only [Lib.parseUintM, Lib.NumEnd.ok.injEq] at h
    omega
  | x :: l, acc, v, ha, h => by
    rw [Lib.parseUintM] at h
    split at h
    · split at h
      · cases h
      · split at h
        · cases h
        · exact uintM_le M l _ v (by omega) h
    · cases h
theorem uint_lt {l : List UInt8} {v : Nat} (h : Lib.parseUintB 32 l = .ok v) : v < 4294967296 := by
  unfold Lib.parseUintB at h
  split at h
  · cases h
  · have := uintM_le _ l 0 v (by omega) h
    omega
/-! ### a name of a text -/
def parse3 (a b c : List UInt8) : Option Xd :=
  match Lib.parseUintB 32 a with
  | .ok u => if Lib.decDigits u = a ∧ (unhexR b).2 = true ∧ (unhexR c).2 = true ∧ Xd.ok ⟨u, (unhexR b).1, (unhexR c).1⟩ = true then some ⟨u, (unhexR b).1, (unhexR c).1⟩ else none
  | _ => none
def parseX (s : List UInt8) : Option Xd :=
  match dotsB s with
  | [a, b, c] => parse3 a b c
  | _ => none
theorem txt_dots (x : Xd) : dotsB x.txt = [Lib.decDigits x.fmt, hexB x.glob, hexB x.bran] := by
  have h1 : (46 : UInt8) ∉ Lib.decDigits x.fmt := fun h => by have := dec_no46 _ _ h; simp at this
  have e : x.txt = Lib.decDigits x.fmt ++ 46 :: (hexB x.glob ++ 46 :: hexB x.bran) := by simp [Xd.txt]
  rw [e, dotsB_more _ h1, dotsB_more _ (hex_no46 _), dotsB_one (hex_no46 _)]
theorem parse_txt {x : Xd} (hf : x.fmt < 4294967296) (hk : x.ok = true) : parseX x.txt = some x := by
  unfold parseX
  rw [txt_dots]
  simp only [parse3, uint_dec _ hf, unhex_hex]
  rw [if_pos ⟨trivial, trivial, trivial, hk⟩]
theorem txt_parse {s : List UInt8} {x : Xd} (h : parseX s = some x) : x.txt = s ∧ x.ok = true ∧ x.fmt < 4294967296 := by
  unfold parseX at h
  split at h
  · rename_i a b c hd
    unfold parse3 at h
    split at h
    · rename_i u hu
      split at h
      · rename_i hc
        obtain ⟨h1, h2, h3, h4⟩ := hc
        simp only [Option.some.injEq] at h
        subst h
        refine ⟨?_, h4, uint_lt hu⟩
        have j := join_dots s
        rw [hd] at j
        simp only [joinB] at j
        unfold Xd.txt
        simp only
        rw [h1, unhex_ok (l := b) (g := (unhexR b).1) (by rw [← h2]), unhex_ok (l := c) (g := (unhexR c).1) (by rw [← h3]), ← j]
        simp
      · cases h
    · cases h
  · cases h
end Go.PH

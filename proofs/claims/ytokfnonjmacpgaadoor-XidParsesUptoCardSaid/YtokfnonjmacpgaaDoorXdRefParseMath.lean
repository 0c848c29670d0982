/- The document's reading of a name's text, as plain mathematics: it tells the same as 'parseX'. -/
import Derived.Test.YtokfnonjmacpgaaDoorXdRefUnhex
import Derived.Test.YtokfnonjmacpgaaDoorXdParse
set_option linter.all false
set_option linter.unusedSimpArgs false
set_option linter.unusedVariables false
namespace Go.PH
open Go.RowKit Go.Proofs

def isDig (c : UInt8) : Bool := decide (48 ≤ c.toNat) && decide (c.toNat ≤ 57)
def dq : Nat → List UInt8 → Nat × Nat
  | n, [] => (n, 0)
  | n, c :: r => if isDig c = true ∧ n < 4294967296 then ((dq (10 * n + (c.toNat - 48)) r).1, (dq (10 * n + (c.toNat - 48)) r).2 + 1) else (n, 0)
def sq : List UInt8 → Nat
  | [] => 0
  | c :: r => if c = 46 then 0 else sq r + 1
def parseQ (l : List UInt8) : Xd × Nat :=
  let n := (dq 0 l).1
  let a := (dq 0 l).2
  let s := a + 1 + sq (l.drop (a + 1))
  if 4294967296 ≤ n ∨ l.length ≤ s then (xd0, 5) else
  let g := unhexQ ((l.take s).drop (a + 1))
  let h := unhexQ (l.drop (s + 1))
  if g.2 = true ∧ h.2 = true ∧ Xd.ok ⟨n, g.1, h.1⟩ = true ∧ Xd.txt ⟨n, g.1, h.1⟩ = l then (⟨n, g.1, h.1⟩, 0) else (xd0, 5)
theorem dq_le : ∀ (l : List UInt8) (n : Nat), (dq n l).2 ≤ l.length
  | [], n => by simp [dq]
  | c :: r, n => by
    unfold dq
    split
    · have := dq_le r (10 * n + (c.toNat - 48)); simp; omega
    · simp
theorem sq_le : ∀ (l : List UInt8), sq l ≤ l.length
  | [] => by simp [sq]
  | c :: r => by
    unfold sq
    split
    · simp
    · have := sq_le r; simp; omega
theorem dq_at {l : List UInt8} {k : Nat} (hk : k < l.length) (n : Nat) : dq n (l.drop k) = if isDig l[k] = true ∧ n < 4294967296 then ((dq (10 * n + (l[k].toNat - 48)) (l.drop (k + 1))).1, (dq (10 * n + (l[k].toNat - 48)) (l.drop (k + 1))).2 + 1) else (n, 0) := by
  rw [List.drop_eq_getElem_cons hk]
  rfl
theorem sq_at {l : List UInt8} {k : Nat} (hk : k < l.length) : sq (l.drop k) = if l[k] = 46 then 0 else sq (l.drop (k + 1)) + 1 := by
  rw [List.drop_eq_getElem_cons hk]
  rfl
def DqSt (l : List UInt8) (k n : Nat) : Prop := dq 0 l = ((dq n (l.drop k)).1, k + (dq n (l.drop k)).2)
theorem DqSt.start (l : List UInt8) : DqSt l 0 0 := by unfold DqSt; rw [List.drop_zero, Nat.zero_add]
theorem DqSt.fin {l : List UInt8} {n : Nat} (h : DqSt l l.length n) : dq 0 l = (n, l.length) := by
  unfold DqSt at h
  rw [List.drop_length] at h
  simpa [dq] using h
theorem DqSt.stop {l : List UInt8} {k n : Nat} (h : DqSt l k n) (hk : k < l.length) (hx : ¬(isDig l[k] = true ∧ n < 4294967296)) : dq 0 l = (n, k) := by
  unfold DqSt at h
  rw [dq_at hk, if_neg hx] at h
  simpa using h
theorem DqSt.step {l : List UInt8} {k n : Nat} (h : DqSt l k n) (hk : k < l.length) (h1 : isDig l[k] = true) (h2 : n < 4294967296) : DqSt l (k + 1) (10 * n + (l[k].toNat - 48)) := by
  unfold DqSt at h ⊢
  rw [dq_at hk, if_pos ⟨h1, h2⟩] at h
  rw [h]
  simp only
  congr 1
  omega
def SqSt (l : List UInt8) (a k : Nat) : Prop := a + sq (l.drop a) = k + sq (l.drop k)
theorem SqSt.fin {l : List UInt8} {a k : Nat} (h : SqSt l a k) (hk : l.length ≤ k) : a + sq (l.drop a) = k := by
  unfold SqSt at h
  rw [List.drop_eq_nil_of_le hk] at h
  simpa [sq] using h
theorem SqSt.stop {l : List UInt8} {a k : Nat} (h : SqSt l a k) (hk : k < l.length) (hx : l[k] = 46) : a + sq (l.drop a) = k := by
  unfold SqSt at h
  rw [sq_at hk, if_pos hx] at h
  simpa using h
theorem SqSt.step {l : List UInt8} {a k : Nat} (h : SqSt l a k) (hk : k < l.length) (hx : l[k] ≠ 46) : SqSt l a (k + 1) := by
  unfold SqSt at h ⊢
  rw [sq_at hk, if_neg hx] at h
  omega
/-- digits' value -/
def valD (n : Nat) (l : List UInt8) : Nat := l.foldl (fun n c => 10 * n + (c.toNat - 48)) n
theorem valD_ge (l : List UInt8) : ∀ n, n ≤ valD n l := by
  induction l with
  | nil => intro n; exact Nat.le_refl _
  | cons c r ih =>
    intro n
    have := ih (10 * n + (c.toNat - 48))
    unfold valD at this ⊢
    simp only [List.foldl_cons]
    omega
theorem dq_digits (r : List UInt8) : ∀ (d : List UInt8) (n : Nat), (∀ c ∈ d, 48 ≤ c.toNat ∧ c.toNat ≤ 57) → valD n d < 4294967296 → dq n (d ++ 46 :: r) = (valD n d, d.length)
  | [], n, _, _ => by
    simp only [List.nil_append, dq]
    rw [if_neg (by unfold isDig; simp)]
    rfl
  | c :: d, n, hd, hv => by
    have hc := hd c (by simp)
    have e : valD n (c :: d) = valD (10 * n + (c.toNat - 48)) d := rfl
    rw [e] at hv ⊢
    have hn : n < 4294967296 := by have := valD_ge d (10 * n + (c.toNat - 48)); omega
    have ih := dq_digits r d (10 * n + (c.toNat - 48)) (fun x hx => hd x (by simp [hx])) hv
    simp only [List.cons_append, dq]
    rw [if_pos ⟨by unfold isDig; simp [hc.1, hc.2], hn⟩, ih]
    rfl
theorem valD_app (a b : List UInt8) (n : Nat) : valD n (a ++ b) = valD (valD n a) b := by unfold valD; rw [List.foldl_append]
theorem valD_dec (n : Nat) : valD 0 (Lib.decDigits n) = n := by
  rw [← digB_dec]
  induction n using Nat.strongRecOn with
  | ind n ih =>
    have hu : ∀ k, k < 10 → (UInt8.ofNat (48 + k)).toNat - 48 = k := fun k hk => by rw [UInt8.toNat_ofNat']; omega
    by_cases h : n < 10
    · rw [digB_small (by omega)]
      unfold valD
      simp only [List.foldl_cons, List.foldl_nil]
      rw [hu n h]; omega
    · rw [digB_big (by omega), valD_app, ih (n / 10) (by omega)]
      unfold valD
      simp only [List.foldl_cons, List.foldl_nil]
      rw [hu (n % 10) (by omega)]; omega
theorem sq_to : ∀ (a r : List UInt8), (46 : UInt8) ∉ a → sq (a ++ 46 :: r) = a.length
  | [], r, _ => by simp [sq]
  | c :: a, r, h => by
    simp only [List.mem_cons, not_or] at h
    simp only [List.cons_append, sq]
    rw [if_neg (fun e => h.1 e.symm), sq_to a r h.2]
    rfl
theorem parseQ_eq (l : List UInt8) : parseQ l = parseR l := by
  unfold parseR
  cases hx : parseX l with
  | some x =>
    simp only
    obtain ⟨ht, hk, hf⟩ := txt_parse hx
    have hl : l = Lib.decDigits x.fmt ++ 46 :: (hexB x.glob ++ 46 :: hexB x.bran) := by rw [← ht]; simp [Xd.txt]
    have hd : dq 0 l = (x.fmt, (Lib.decDigits x.fmt).length) := by
      have hv := valD_dec x.fmt
      have := dq_digits (hexB x.glob ++ 46 :: hexB x.bran) (Lib.decDigits x.fmt) 0 (dec_no46 _) (by rw [hv]; exact hf)
      rw [hv, ← hl] at this
      exact this
    have hdr : l.drop ((Lib.decDigits x.fmt).length + 1) = hexB x.glob ++ 46 :: hexB x.bran := by
      rw [hl, show (Lib.decDigits x.fmt).length + 1 = (Lib.decDigits x.fmt ++ [46]).length by simp, show Lib.decDigits x.fmt ++ 46 :: (hexB x.glob ++ 46 :: hexB x.bran) = (Lib.decDigits x.fmt ++ [46]) ++ (hexB x.glob ++ 46 :: hexB x.bran) by simp, List.drop_left]
    have hs : sq (l.drop ((Lib.decDigits x.fmt).length + 1)) = (hexB x.glob).length := by rw [hdr, sq_to _ _ (hex_no46 _)]
    have hll : l.length = (Lib.decDigits x.fmt).length + 1 + ((hexB x.glob).length + 1 + (hexB x.bran).length) := by rw [hl]; simp; omega
    have hg : (l.take ((Lib.decDigits x.fmt).length + 1 + (hexB x.glob).length)).drop ((Lib.decDigits x.fmt).length + 1) = hexB x.glob := by
      rw [List.drop_take, hdr]
      simp
    have hh : l.drop ((Lib.decDigits x.fmt).length + 1 + (hexB x.glob).length + 1) = hexB x.bran := by
      rw [show (Lib.decDigits x.fmt).length + 1 + (hexB x.glob).length + 1 = (Lib.decDigits x.fmt).length + 1 + ((hexB x.glob).length + 1) by omega, ← List.drop_drop, hdr]
      simp
    unfold parseQ
    simp only [hd, hs, hg, hh, unhexQ_hex]
    rw [if_neg (by omega), if_pos ⟨trivial, trivial, hk, ht⟩]
  | none =>
    simp only
    unfold parseQ
    simp only
    split
    · rfl
    · rename_i hn
      split
      · rename_i hc
        have := parse_txt (x := ⟨(dq 0 l).1, (unhexQ ((l.take ((dq 0 l).2 + 1 + sq (l.drop ((dq 0 l).2 + 1)))).drop ((dq 0 l).2 + 1))).1, (unhexQ (l.drop ((dq 0 l).2 + 1 + sq (l.drop ((dq 0 l).2 + 1)) + 1))).1⟩) (by simp only; omega) hc.2.2.1
        rw [hc.2.2.2, hx] at this
        cases this
      · rfl
end Go.PH

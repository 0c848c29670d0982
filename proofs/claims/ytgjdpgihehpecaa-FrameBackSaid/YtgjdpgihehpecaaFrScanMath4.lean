/- Frames' bytes, and the beginning of another one's, scanned. -/
import Derived.Test.YtgjdpgihehpecaaFrScanMath3
namespace Go.PH

theorem flags_back : ∀ a b c d : Bool, ((bitv a 8 + bitv b 4 + bitv c 2 + bitv d 1) / 8 % 2 == 1) = a ∧ ((bitv a 8 + bitv b 4 + bitv c 2 + bitv d 1) / 4 % 2 == 1) = b ∧ ((bitv a 8 + bitv b 4 + bitv c 2 + bitv d 1) / 2 % 2 == 1) = c ∧ ((bitv a 8 + bitv b 4 + bitv c 2 + bitv d 1) % 2 == 1) = d := by decide
theorem toNat_of (n : Nat) : (UInt8.ofNat n).toNat = n % 256 := by rw [UInt8.toNat_ofNat']
theorem Fr.bytes_cons (f : Fr) : f.bytes = UInt8.ofNat f.flags :: UInt8.ofNat f.ty :: UInt8.ofNat ((12 + f.load.length) / 256) :: UInt8.ofNat (12 + f.load.length) :: 0 :: UInt8.ofNat f.track :: UInt8.ofNat (f.chan / 256) :: UInt8.ofNat f.chan :: 0 :: 0 :: 0 :: 0 :: f.load := by
  simp [Fr.bytes, be2]
theorem fr_all {f : Fr} (hw : f.wf) (hok : f.ok = true) : frWell f.bytes = true ∧ frN f.bytes = f.bytes.length ∧ frAt f.bytes f.bytes.length = f := by
  have hfl := f.flags_lt
  obtain ⟨w1, w2, w3⟩ := hw
  have ⟨⟨o1, o2⟩, o3⟩ : (f.ty ≤ 3 ∧ f.track ≤ 15) ∧ f.load.length ≤ 4084 := by unfold Fr.ok at hok; simpa using hok
  have hlen := f.bytes_length
  have hN : frN f.bytes = f.bytes.length := by
    rw [hlen, f.bytes_cons, frN_eq]
    simp only [byteN, List.getD_cons_zero, List.getD_cons_succ, toNat_of]
    omega
  refine ⟨?_, hN, ?_⟩
  · unfold frWell
    rw [List.all_eq_true]
    intro k hk
    have hk := List.mem_range.1 hk
    have hk12 : k < 12 := by omega
    unfold placeOk
    rw [hN]
    split
    · simp; omega
    · next h3 =>
      rw [f.bytes_cons]
      match k, hk12, h3 with
      | 0, _, _ => simp [frMost, toNat_of]; omega
      | 1, _, _ => simp [frMost, toNat_of]; omega
      | 2, _, _ => simp [frMost, toNat_of]; omega
      | 3, _, h => exact absurd rfl h
      | 4, _, _ => simp [frMost]
      | 5, _, _ => simp [frMost, toNat_of]; omega
      | 6, _, _ => simp [frMost, toNat_of]; omega
      | 7, _, _ => simp [frMost, toNat_of]; omega
      | 8, _, _ => simp [frMost]
      | 9, _, _ => simp [frMost]
      | 10, _, _ => simp [frMost]
      | 11, _, _ => simp [frMost]
  · rw [hlen]
    have hb : frAt f.bytes (12 + f.load.length) = ⟨byteN f.bytes 0 / 8 % 2 == 1, byteN f.bytes 0 / 4 % 2 == 1, byteN f.bytes 0 / 2 % 2 == 1, byteN f.bytes 0 % 2 == 1, byteN f.bytes 1, byteN f.bytes 5, 256 * byteN f.bytes 6 + byteN f.bytes 7, (f.bytes.take (12 + f.load.length)).drop 12⟩ := rfl
    have h0 : byteN f.bytes 0 = f.flags := by rw [f.bytes_cons]; simp only [byteN, List.getD_cons_zero, toNat_of]; omega
    have h1 : byteN f.bytes 1 = f.ty := by rw [f.bytes_cons]; simp only [byteN, List.getD_cons_zero, List.getD_cons_succ, toNat_of]; omega
    have h5 : byteN f.bytes 5 = f.track := by rw [f.bytes_cons]; simp only [byteN, List.getD_cons_zero, List.getD_cons_succ, toNat_of]; omega
    have h67 : 256 * byteN f.bytes 6 + byteN f.bytes 7 = f.chan := by rw [f.bytes_cons]; simp only [byteN, List.getD_cons_zero, List.getD_cons_succ, toNat_of]; omega
    have hld : (f.bytes.take (12 + f.load.length)).drop 12 = f.load := by
      rw [← hlen, List.take_length, f.bytes_cons]; rfl
    rw [hb, h0, h1, h5, h67, hld]
    have := flags_back f.first f.last f.beg f.fin
    unfold Fr.flags
    rw [this.1, this.2.1, this.2.2.1, this.2.2.2]
theorem frScan_one {f : Fr} (hw : f.wf) (hok : f.ok = true) (r : List UInt8) : frScan (f.bytes ++ r) = (f :: (frScan r).1, f.bytes.length + (frScan r).2.1, (frScan r).2.2) := by
  obtain ⟨h1, h2, h3⟩ := fr_all hw hok
  have hlen := f.bytes_length
  have e1 : frN (f.bytes ++ r) = f.bytes.length := by rw [frN_app r (by omega), h2]
  rw [frScan_more (by rw [frWell_app r (by omega)]; exact h1) (by simp; omega) (by rw [e1]; simp), e1, frAt_app r (by omega) (Nat.le_refl _), h3, List.drop_left' rfl]
theorem frScan_row {l : List Fr} (hw : ∀ f ∈ l, f.wf) (r : List UInt8) : frScan (frBytes l ++ r) = (frOks l ++ (frScan r).1, (frBytes l).length + (frScan r).2.1, (frScan r).2.2) := by
  induction l with
  | nil => simp [frBytes, frOks]
  | cons f l ih =>
    have ih := ih (fun g hg => hw g (List.mem_cons_of_mem _ hg))
    cases hok : f.ok
    · have e1 : frOks (f :: l) = frOks l := by simp [frOks, hok]
      have e2 : frBytes (f :: l) = frBytes l := by unfold frBytes; rw [e1]
      rw [e1, e2]; exact ih
    · have e1 : frOks (f :: l) = f :: frOks l := by simp [frOks, hok]
      have e2 : frBytes (f :: l) = f.bytes ++ frBytes l := by unfold frBytes; rw [e1]; simp
      rw [e1, e2, List.append_assoc, frScan_one (hw f (List.mem_cons_self ..)) hok, ih]
      simp [Nat.add_assoc]
theorem frScan_part {f : Fr} (hw : f.wf) (hok : f.ok = true) {k : Nat} (hk : k < f.bytes.length) : frScan (f.bytes.take k) = ([], 0, 0) := by
  obtain ⟨h1, h2, _⟩ := fr_all hw hok
  have hwt := frWell_take h1 k
  have hlen : (f.bytes.take k).length = k := by rw [List.length_take]; omega
  by_cases h12 : k < 12
  · exact frScan_short hwt (by omega)
  · refine frScan_wait hwt (by omega) ?_
    have := frN_app (a := f.bytes.take k) (f.bytes.drop k) (by omega)
    rw [List.take_append_drop] at this
    rw [← this, h2, hlen]; exact hk
theorem frScan_back {l : List Fr} (hl : ∀ f ∈ l, f.wf) {f : Fr} (hw : f.wf) (hok : f.ok = true) {k : Nat} (hk : k < f.bytes.length) : frScan (frBytes l ++ f.bytes.take k) = (frOks l, (frBytes l).length, 0) := by
  rw [frScan_row hl, frScan_part hw hok hk]; simp
end Go.PH

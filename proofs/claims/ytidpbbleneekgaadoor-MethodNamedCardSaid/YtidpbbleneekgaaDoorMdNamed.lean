/- The walks of method's Kinds, Name, Named. -/
import Derived.Test.YtidpbbleneekgaaDoorMdFind
set_option linter.all false
set_option linter.unusedSimpArgs false
set_option linter.unusedVariables false
namespace Go.PH
open Go.RowKit Go.Proofs

theorem kinds_any (c k : Nat) (w : World) (he : MEnv w) :
    Calls Tryd.prog 14 #[.int .u8 (c : Int), .int .u8 (k : Int)] w fun e w' => e = .returned (.tuple #[.string (str (kindsO (findM c k))), .bool (findM c k).isSome]) ∧ Below w.heap.size w w' := by
  have hf := find_any c k w he
  generalize findM c k = r at *
  unfold FindR at hf
  generalize kindsO r = kd at *
  generalize wordO r = wd at *
  generalize r.isSome = is at *
  go_enter Tryd.func14, Tryd.ntmps14
  go_wp2_with (first | (with_reducible refine hold_append ?_) | (with_reducible refine hold_make ?_) | (with_reducible refine hold_copy ?_))
  refine hf.mono ?_
  rintro e w1 ⟨rfl, hB⟩
  go_wp2_with (first | (with_reducible refine hold_append ?_) | (with_reducible refine hold_make ?_) | (with_reducible refine hold_copy ?_))
  go_ret2
  exact ⟨rfl, hB⟩
def nameO (c k : Nat) : List UInt8 := (nameM c k).getD []
theorem name_some (c k : Nat) : (nameM c k).isSome = (findM c k).isSome := by unfold nameM; simp
theorem mname_any (c k : Nat) (w : World) (he : MEnv w) :
    Calls Tryd.prog 15 #[.int .u8 (c : Int), .int .u8 (k : Int)] w fun e w' => e = .returned (.tuple #[.string (str (nameO c k)), .bool (nameM c k).isSome]) ∧ Below w.heap.size w w' := by
  have hcl := classes_any c w
  have hf := find_any c k w he
  have hln : (clsWord c).length ≤ 20 := (clsText_len c).2
  cases hr : findM c k with
  | none =>
    have HN : Hid (nameO c k = [] ∧ (nameM c k).isSome = false) := Lib.hid (by unfold nameO nameM; rw [hr]; exact ⟨rfl, rfl⟩)
    rw [hr] at hf
    unfold FindR at hf
    simp only [Option.isSome_none] at hf
    clear hr
    go_enter Tryd.func15, Tryd.ntmps15
    go_wp2_with (first | (with_reducible refine hold_append ?_) | (with_reducible refine hold_make ?_) | (with_reducible refine hold_copy ?_))
    refine hcl.mono ?_
    rintro e w1 ⟨rfl, rfl⟩
    go_wp2_with (first | (with_reducible refine hold_append ?_) | (with_reducible refine hold_make ?_) | (with_reducible refine hold_copy ?_))
    refine hf.mono ?_
    rintro e w1 ⟨rfl, hB⟩
    go_wp2_with (first | (with_reducible refine hold_append ?_) | (with_reducible refine hold_make ?_) | (with_reducible refine hold_copy ?_))
    go_ret2
    rw [HN.out.1, HN.out.2]
    exact ⟨rfl, hB⟩
  | some r =>
    have HN : Hid (nameO c k = clsWord c ++ [46] ++ r.word ∧ (nameM c k).isSome = true) := Lib.hid (by unfold nameO nameM; rw [hr]; exact ⟨rfl, rfl⟩)
    have hrl : (clsWord c ++ [46] ++ r.word).length ≤ 30 := (find_small hr).2.1
    simp only [List.length_append, List.length_cons, List.length_nil] at hrl
    rw [hr] at hf
    unfold FindR at hf
    simp only [Option.isSome_some] at hf
    have hw : wordO (some r) = r.word := rfl
    rw [hw] at hf
    clear hr hw
    have hs1 := str_size (clsWord c)
    have hs2 := str_size r.word
    go_enter Tryd.func15, Tryd.ntmps15
    go_wp2_with (first | (with_reducible refine hold_append ?_) | (with_reducible refine hold_make ?_) | (with_reducible refine hold_copy ?_))
    refine hcl.mono ?_
    rintro e w1 ⟨rfl, rfl⟩
    go_wp2_with (first | (with_reducible refine hold_append ?_) | (with_reducible refine hold_make ?_) | (with_reducible refine hold_copy ?_))
    refine hf.mono ?_
    rintro e w1 ⟨rfl, hB⟩
    go_wp2_with (first | (with_reducible refine hold_append ?_) | (with_reducible refine hold_make ?_) | (with_reducible refine hold_copy ?_))
    go_ret2
    rw [HN.out.1, HN.out.2]
    exact ⟨rfl, hB⟩
theorem pairs_mem {p : Nat × Nat} (h : p ∈ pairsM) : 1 ≤ p.1 ∧ p.1 ≤ 8 ∧ 1 ≤ p.2 ∧ p.2 ≤ 12 := by
  unfold pairsM pairsK at h
  simp only [List.mem_flatMap, List.mem_map, List.mem_range] at h
  obtain ⟨c, hc, k, hk, rfl⟩ := h
  exact ⟨by show 1 ≤ c + 1; omega, by show c + 1 ≤ 8; omega, by show 1 ≤ k + 1; omega, by show k + 1 ≤ 12; omega⟩
theorem named_none {s : List UInt8} (h : ∀ c k, 1 ≤ c → c < 9 → 1 ≤ k → k ≤ 12 → nameM c k ≠ some s) : namedM s = none := by
  unfold namedM
  rw [List.find?_eq_none]
  intro p hp
  obtain ⟨h1, h2, h3, h4⟩ := pairs_mem hp
  simpa using h p.1 p.2 h1 (by omega) h3 h4
def namedC (r : Option (Nat × Nat)) : Nat := (r.map (·.1)).getD 0
def namedK (r : Option (Nat × Nat)) : Nat := (r.map (·.2)).getD 0
set_option maxRecDepth 20000 in
set_option maxHeartbeats 2000000 in
theorem named_any (s : List UInt8) (w : World) (he : MEnv w) :
    Calls Tryd.prog 17 #[.string (str s)] w fun e w' => e = .returned (.tuple #[.int .u8 (namedC (namedM s) : Int), .int .u8 (namedK (namedM s) : Int), .bool (namedM s).isSome]) ∧ Below w.heap.size w w' := by
  have hB0 := Below.refl w.heap.size w
  have HL := fun c k => Lib.hid (@leads_back c k s)
  have HZ := Lib.hid (@named_none s)
  generalize namedM s = RS at *
  go_enter Tryd.func17, Tryd.ntmps17
  go_wp2_with (first | (with_reducible refine hold_append ?_) | (with_reducible refine hold_make ?_) | (with_reducible refine hold_copy ?_))
  go_loopw [5] (fun x wr => ∃ (c : Nat), 1 ≤ c ∧ c ≤ 9 ∧ x = .int .u8 c ∧ Hid (∀ c' k', 1 ≤ c' → c' < c → 1 ≤ k' → k' ≤ 12 → nameM c' k' ≠ some s) ∧ Below w.heap.size w wr) (fun x _ => 9 - (RowKit.intOf x).toNat)
  case atStart => exact ⟨1, by omega, by omega, rfl, Lib.hid (by intro c' k' h1 h2; omega), hB0⟩
  case round =>
    obtain ⟨c, hc1, hc9, rfl, HN, hB⟩ := hrel
    clear hB0
    by_cases h8 : c ≤ 8
    · have h8' : (c : Int) ≤ 8 := by omega
      have hw0 : Below w.heap.size w wr := hB
      obtain ⟨w0, hw0e⟩ : ∃ w0, w0 = wr := ⟨_, rfl⟩
      rw [← hw0e] at hB
      clear hw0
      go_wp2_with (first | (with_reducible refine hold_append ?_) | (with_reducible refine hold_make ?_) | (with_reducible refine hold_copy ?_))
      go_loopw [6] (fun x wy => ∃ (k : Nat), 1 ≤ k ∧ k ≤ 13 ∧ x = .int .u8 k ∧ Hid (∀ k', 1 ≤ k' → k' < k → nameM c k' ≠ some s) ∧ Below w.heap.size w wy) (fun x _ => 13 - (RowKit.intOf x).toNat)
      case atStart => exact ⟨1, by omega, by omega, rfl, Lib.hid (by intro k' h1 h2; omega), hw0e ▸ hB⟩
      case round =>
        obtain ⟨k, hk1, hk13, rfl, HK, hBk⟩ := hrel
        clear hB hw0e
        by_cases h12 : k ≤ 12
        · have h12' : (k : Int) ≤ 12 := by omega
          have hnm := mname_any c k wr (he.on hBk)
          cases hn : nameM c k with
          | none =>
            have HK2 : Hid (∀ k', 1 ≤ k' → k' < k + 1 → nameM c k' ≠ some s) := Lib.hid (fun k' h1 h2 => by
              by_cases e : k' = k
              · rw [e, hn]; simp
              · exact HK.out k' h1 (by omega))
            have hno : nameO c k = [] := by unfold nameO; rw [hn]; rfl
            rw [hn, hno] at hnm
            simp only [Option.isSome_none] at hnm
            clear HK hn hno
            go_wp2_with (first | (with_reducible refine hold_append ?_) | (with_reducible refine hold_make ?_) | (with_reducible refine hold_copy ?_))
            refine hnm.mono ?_
            rintro e w1 ⟨rfl, hB1⟩
            have hB2 := hBk.trans (hB1.mono hBk.size)
            clear hnm hB1 hBk
            go_wp2_with (first | (with_reducible refine hold_append ?_) | (with_reducible refine hold_make ?_) | (with_reducible refine hold_copy ?_))
            exact ⟨⟨k + 1, by omega, by omega, by go_num, HK2, hB2⟩, by simp [RowKit.intOf]; omega⟩
          | some t =>
            have hno : nameO c k = t := by unfold nameO; rw [hn]; rfl
            rw [hn, hno] at hnm
            simp only [Option.isSome_some] at hnm
            by_cases hts : t = s
            · have HR : Hid (RS = some (c, k)) := Lib.hid ((HL c k).out (by rw [hn, hts]))
              have hq : ((str t).toList == (str s).toList) = true := by rw [str_toList, str_toList]; simpa using hts
              clear HK hn hno hts HL HZ HN
              go_wp2_with (first | (with_reducible refine hold_append ?_) | (with_reducible refine hold_make ?_) | (with_reducible refine hold_copy ?_))
              refine hnm.mono ?_
              rintro e w1 ⟨rfl, hB1⟩
              have hB2 := hBk.trans (hB1.mono hBk.size)
              clear hnm hB1 hBk
              go_wp2_with (first | (with_reducible refine hold_append ?_) | (with_reducible refine hold_make ?_) | (with_reducible refine hold_copy ?_))
              go_ret3
              rw [HR.out]
              exact ⟨rfl, hB2⟩
            · have HK2 : Hid (∀ k', 1 ≤ k' → k' < k + 1 → nameM c k' ≠ some s) := Lib.hid (fun k' h1 h2 => by
                by_cases e : k' = k
                · rw [e, hn]; simpa using hts
                · exact HK.out k' h1 (by omega))
              have hq : ((str t).toList == (str s).toList) = false := by rw [str_toList, str_toList]; simpa using hts
              clear HK hn hno hts
              go_wp2_with (first | (with_reducible refine hold_append ?_) | (with_reducible refine hold_make ?_) | (with_reducible refine hold_copy ?_))
              refine hnm.mono ?_
              rintro e w1 ⟨rfl, hB1⟩
              have hB2 := hBk.trans (hB1.mono hBk.size)
              clear hnm hB1 hBk
              go_wp2_with (first | (with_reducible refine hold_append ?_) | (with_reducible refine hold_make ?_) | (with_reducible refine hold_copy ?_))
              exact ⟨⟨k + 1, by omega, by omega, by go_num, HK2, hB2⟩, by simp [RowKit.intOf]; omega⟩
        · have h12' : ¬ (k : Int) ≤ 12 := by omega
          have HN2 : Hid (∀ c' k', 1 ≤ c' → c' < c + 1 → 1 ≤ k' → k' ≤ 12 → nameM c' k' ≠ some s) := Lib.hid (fun c' k' a1 a2 a3 a4 => by
            by_cases e : c' = c
            · rw [e]; exact HK.out k' a3 (by omega)
            · exact HN.out c' k' a1 (by omega) a3 a4)
          clear HK HN
          go_wp2_with (first | (with_reducible refine hold_append ?_) | (with_reducible refine hold_make ?_) | (with_reducible refine hold_copy ?_))
          exact ⟨⟨c + 1, by omega, by omega, by go_num, HN2, hBk⟩, by simp [RowKit.intOf]; omega⟩
    · have h8' : ¬ (c : Int) ≤ 8 := by omega
      obtain rfl : c = 9 := by omega
      have HR : Hid (RS = none) := Lib.hid (HZ.out HN.out)
      clear HN HZ HL
      go_wp2_with (first | (with_reducible refine hold_append ?_) | (with_reducible refine hold_make ?_) | (with_reducible refine hold_copy ?_))
      go_ret3
      rw [HR.out]
      exact ⟨rfl, hB⟩
end Go.PH

/- Records as plain mathematics: their bytes, and cutting them off bytes. No program in sight. -/
import Derived.Test.YtcfdgndigmcacaaDoorCrcMath2
import Derived.Test.YtcfdgndigmcacaaDoorOctMath
namespace Go.PH

structure Rc where
  kind : Nat
  data : List UInt8
deriving DecidableEq
def Rc.wf (r : Rc) : Prop := r.kind < 256
def Rc.hd (r : Rc) : List UInt8 := UInt8.ofNat r.kind :: be 4 r.data.length
def Rc.bytes (r : Rc) : List UInt8 := seal' r.hd ++ seal' r.data
def rcBytes (l : List Rc) : List UInt8 := l.flatMap Rc.bytes
/-- records as a file's bytes, or the number of the error -/
def rcLong (l : List Rc) : Bool := l.any (fun r => decide (65536 < r.data.length))
def rcPut (l : List Rc) : List UInt8 × Nat := if rcLong l = true then ([], 3) else (rcBytes l, 0)
theorem rcBytes_nil : rcBytes [] = [] := rfl
theorem rcBytes_cons (r : Rc) (l : List Rc) : rcBytes (r :: l) = r.bytes ++ rcBytes l := rfl
theorem rcBytes_app (a b : List Rc) : rcBytes (a ++ b) = rcBytes a ++ rcBytes b := by simp [rcBytes]
theorem seal_length (l : List UInt8) : (seal' l).length = l.length + 4 := by simp [seal', length_le4]
theorem Rc.hd_length (r : Rc) : r.hd.length = 5 := by simp [Rc.hd, be_length]
theorem Rc.bytes_length (r : Rc) : r.bytes.length = r.data.length + 13 := by
  rw [Rc.bytes, List.length_append, seal_length, seal_length, r.hd_length]; omega
theorem rcLong_no {l : List Rc} (h : rcLong l = false) : ∀ r ∈ l, r.data.length ≤ 65536 := by
  intro r hr
  unfold rcLong at h
  rw [List.any_eq_false] at h
  have := h r hr
  simp at this
  exact this
theorem rcLong_of {l : List Rc} (h : ∀ r ∈ l, r.data.length ≤ 65536) : rcLong l = false := by
  unfold rcLong
  rw [List.any_eq_false]
  intro r hr
  have := h r hr
  simp
  exact this
theorem rcLong_yes {l : List Rc} {r : Rc} (hr : r ∈ l) (h : 65536 < r.data.length) : rcLong l = true := by
  unfold rcLong
  rw [List.any_eq_true]
  exact ⟨r, hr, by simpa using h⟩
theorem rcPut_of {l : List Rc} (h : ∀ r ∈ l, r.data.length ≤ 65536) : rcPut l = (rcBytes l, 0) := by unfold rcPut; rw [rcLong_of h]; rfl
theorem rcPut_long {l : List Rc} {r : Rc} (hr : r ∈ l) (h : 65536 < r.data.length) : rcPut l = ([], 3) := by unfold rcPut; rw [rcLong_yes hr h]; rfl

/-- how many bytes of data a record's head tells -/
def rcN (b : List UInt8) : Nat := unbe ((b.take 5).drop 1)
/-- the record with whose bytes b begins and how many these are; or none, and what is left -/
def rcOne (b : List UInt8) : Rc × Nat × Nat :=
  if b = [] then (⟨0, []⟩, 0, 0) else if b.length < 9 then (⟨0, []⟩, 0, 1) else if opens (b.take 9) = false then (⟨0, []⟩, 0, 2)
  else if 65536 < rcN b then (⟨0, []⟩, 0, 2) else if b.length < rcN b + 13 then (⟨0, []⟩, 0, 1)
  else if opens ((b.take (rcN b + 13)).drop 9) = false then (⟨0, []⟩, 0, 2) else (⟨(b.getD 0 0).toNat, (b.drop 9).take (rcN b)⟩, rcN b + 13, 0)
def rcScanF : Nat → List UInt8 → List Rc × Nat × Nat
  | 0, _ => ([], 0, 0)
  | k + 1, b => if (rcOne b).2.1 = 0 then ([], 0, (rcOne b).2.2) else
    ((rcOne b).1 :: (rcScanF k (b.drop (rcOne b).2.1)).1, (rcOne b).2.1 + (rcScanF k (b.drop (rcOne b).2.1)).2.1, (rcScanF k (b.drop (rcOne b).2.1)).2.2)
def rcScan (b : List UInt8) : List Rc × Nat × Nat := rcScanF (b.length + 1) b
theorem rcOne_empty : rcOne [] = (⟨0, []⟩, 0, 0) := rfl
theorem rcOne_short {b : List UInt8} (h0 : b ≠ []) (h : b.length < 9) : rcOne b = (⟨0, []⟩, 0, 1) := by rw [rcOne, if_neg h0, if_pos h]
theorem ne_of_len {b : List UInt8} (h : 9 ≤ b.length) : b ≠ [] := by intro e; rw [e] at h; simp at h
theorem rcOne_head {b : List UInt8} (h : 9 ≤ b.length) (ho : opens (b.take 9) = false) : rcOne b = (⟨0, []⟩, 0, 2) := by rw [rcOne, if_neg (ne_of_len h), if_neg (by omega), if_pos ho]
theorem rcOne_great {b : List UInt8} (h : 9 ≤ b.length) (ho : opens (b.take 9) = true) (hn : 65536 < rcN b) : rcOne b = (⟨0, []⟩, 0, 2) := by rw [rcOne, if_neg (ne_of_len h), if_neg (by omega), if_neg (by simp [ho]), if_pos hn]
theorem rcOne_torn {b : List UInt8} (h : 9 ≤ b.length) (ho : opens (b.take 9) = true) (hn : rcN b ≤ 65536) (hl : b.length < rcN b + 13) : rcOne b = (⟨0, []⟩, 0, 1) := by
  rw [rcOne, if_neg (ne_of_len h), if_neg (by omega), if_neg (by simp [ho]), if_neg (by omega), if_pos hl]
theorem rcOne_data {b : List UInt8} (h : 9 ≤ b.length) (ho : opens (b.take 9) = true) (hn : rcN b ≤ 65536) (hl : rcN b + 13 ≤ b.length) (hd : opens ((b.take (rcN b + 13)).drop 9) = false) : rcOne b = (⟨0, []⟩, 0, 2) := by
  rw [rcOne, if_neg (ne_of_len h), if_neg (by omega), if_neg (by simp [ho]), if_neg (by omega), if_neg (by omega), if_pos hd]
theorem rcOne_yes {b : List UInt8} (h : 9 ≤ b.length) (ho : opens (b.take 9) = true) (hn : rcN b ≤ 65536) (hl : rcN b + 13 ≤ b.length) (hd : opens ((b.take (rcN b + 13)).drop 9) = true) : rcOne b = (⟨(b.getD 0 0).toNat, (b.drop 9).take (rcN b)⟩, rcN b + 13, 0) := by
  rw [rcOne, if_neg (ne_of_len h), if_neg (by omega), if_neg (by simp [ho]), if_neg (by omega), if_neg (by omega), if_neg (by simp [hd])]
/-- all that one step tells -/
theorem rcOne_cases (b : List UInt8) : (∃ w, w ≤ 2 ∧ rcOne b = (⟨0, []⟩, 0, w)) ∨ (9 ≤ b.length ∧ opens (b.take 9) = true ∧ rcN b ≤ 65536 ∧ rcN b + 13 ≤ b.length ∧ opens ((b.take (rcN b + 13)).drop 9) = true ∧ rcOne b = (⟨(b.getD 0 0).toNat, (b.drop 9).take (rcN b)⟩, rcN b + 13, 0)) := by
  by_cases h0 : b = []
  · exact .inl ⟨0, by omega, by rw [h0]; rfl⟩
  by_cases h1 : b.length < 9
  · exact .inl ⟨1, by omega, rcOne_short h0 h1⟩
  cases h2 : opens (b.take 9)
  · exact .inl ⟨2, by omega, rcOne_head (by omega) h2⟩
  by_cases h3 : 65536 < rcN b
  · exact .inl ⟨2, by omega, rcOne_great (by omega) h2 h3⟩
  by_cases h4 : b.length < rcN b + 13
  · exact .inl ⟨1, by omega, rcOne_torn (by omega) h2 (by omega) h4⟩
  cases h5 : opens ((b.take (rcN b + 13)).drop 9)
  · exact .inl ⟨2, by omega, rcOne_data (by omega) h2 (by omega) (by omega) h5⟩
  exact .inr ⟨by omega, rfl, by omega, by omega, rfl, rcOne_yes (by omega) h2 (by omega) (by omega) h5⟩
theorem rcOne_le (b : List UInt8) : (rcOne b).2.1 ≤ b.length ∧ (rcOne b).2.2 ≤ 2 := by
  rcases rcOne_cases b with ⟨w, hw, e⟩ | ⟨h9, _, _, hl, _, e⟩
  · rw [e]; exact ⟨Nat.zero_le _, hw⟩
  · rw [e]; exact ⟨hl, by simp⟩
theorem rcScanF_fuel : ∀ (k j : Nat) (b : List UInt8), b.length < k → b.length < j → rcScanF k b = rcScanF j b
  | 0, _, b, h, _ => by omega
  | _, 0, b, _, h => by omega
  | k + 1, j + 1, b, hk, hj => by
    rw [rcScanF, rcScanF]
    split
    · rfl
    · rename_i h1
      have hl := rcOne_le b
      have h2 : (b.drop (rcOne b).2.1).length < k ∧ (b.drop (rcOne b).2.1).length < j := by simp; omega
      rw [rcScanF_fuel k j _ h2.1 h2.2]
theorem rcScan_none {b : List UInt8} (h : (rcOne b).2.1 = 0) : rcScan b = ([], 0, (rcOne b).2.2) := by rw [rcScan, rcScanF, if_pos h]
theorem rcScan_some {b : List UInt8} (h : (rcOne b).2.1 ≠ 0) : rcScan b = ((rcOne b).1 :: (rcScan (b.drop (rcOne b).2.1)).1, (rcOne b).2.1 + (rcScan (b.drop (rcOne b).2.1)).2.1, (rcScan (b.drop (rcOne b).2.1)).2.2) := by
  have hl := rcOne_le b
  rw [rcScan, rcScanF, if_neg h, rcScanF_fuel b.length ((b.drop (rcOne b).2.1).length + 1) _ (by simp; omega) (by omega)]
  rfl
theorem rcScan_le (b : List UInt8) : (rcScan b).2.1 ≤ b.length ∧ (rcScan b).2.2 ≤ 2 ∧ 13 * (rcScan b).1.length ≤ (rcScan b).2.1 := by
  induction hn : b.length using Nat.strongRecOn generalizing b with
  | ind n ih =>
    subst hn
    have hl := rcOne_le b
    by_cases h : (rcOne b).2.1 = 0
    · rw [rcScan_none h]; exact ⟨Nat.zero_le _, hl.2, by simp⟩
    · have h13 : 13 ≤ (rcOne b).2.1 := by
        rcases rcOne_cases b with ⟨w, hw, e⟩ | ⟨_, _, _, _, _, e⟩
        · rw [e] at h; exact absurd rfl h
        · rw [e]; simp only; omega
      obtain ⟨i1, i2, i3⟩ := ih _ (by rw [List.length_drop]; omega) (b.drop (rcOne b).2.1) rfl
      rw [List.length_drop] at i1
      rw [rcScan_some h]
      simp only [List.length_cons]
      exact ⟨by omega, i2, by omega⟩
theorem rcScan_at {rest : List UInt8} {l : List Rc} {u : Nat} {fs r : List Rc × Nat × Nat} (h : fs = (l ++ (rcScan rest).1, u + (rcScan rest).2.1, (rcScan rest).2.2)) (hr : rcScan rest = r) : fs = (l ++ r.1, u + r.2.1, r.2.2) := by rw [h, hr]

/-- a record's own bytes, whatever stands behind them -/
theorem rc_hd_bytes (r : Rc) (p : List UInt8) : (r.bytes ++ p).take 9 = seal' r.hd := by
  have h : (seal' r.hd).length = 9 := by rw [seal_length, r.hd_length]
  rw [Rc.bytes, List.append_assoc, List.take_append_of_le_length (by omega), List.take_of_length_le (by omega)]
theorem rc_five (b : List UInt8) : b.take 5 = (b.take 9).take 5 := by rw [List.take_take]; rfl
theorem rcN_seal {b : List UInt8} {r : Rc} (h : b.take 9 = seal' r.hd) : rcN b = r.data.length % 4294967296 := by
  have h5 : (seal' r.hd).take 5 = r.hd := by
    rw [seal', List.take_append_of_le_length (by rw [r.hd_length]; omega), List.take_of_length_le (by rw [r.hd_length]; omega)]
  unfold rcN
  rw [rc_five, h, h5, Rc.hd]
  simp [unbe_be]
theorem rc_one_bytes {r : Rc} (hw : r.wf) (hd : r.data.length ≤ 65536) (p : List UInt8) : rcOne (r.bytes ++ p) = (r, r.data.length + 13, 0) := by
  have hl := r.bytes_length
  have h9 := rc_hd_bytes r p
  have hN : rcN (r.bytes ++ p) = r.data.length := by rw [rcN_seal h9]; omega
  have hs : (seal' r.hd).length = 9 := by rw [seal_length, r.hd_length]
  have hdr : (r.bytes ++ p).drop 9 = seal' r.data ++ p := by
    rw [Rc.bytes, List.append_assoc, List.drop_append_of_le_length (by omega), List.drop_of_length_le (by omega), List.nil_append]
  rw [rcOne_yes (by rw [List.length_append]; omega) (by rw [h9]; exact opens_seal _) (by omega) (by rw [List.length_append]; omega) (by
    rw [hN, List.take_append_of_le_length (by omega), List.take_of_length_le (by omega), Rc.bytes, List.drop_append_of_le_length (by omega), List.drop_of_length_le (by omega), List.nil_append]; exact opens_seal _), hN, hdr]
  have hk : ((r.bytes ++ p).getD 0 0).toNat = r.kind := by
    have : r.kind < 256 := hw
    simp [Rc.bytes, seal', Rc.hd, Nat.mod_eq_of_lt this]
  rw [hk, seal', List.append_assoc, List.take_append_of_le_length (Nat.le_refl _), List.take_length]
theorem rcScan_bytes {l : List Rc} (hw : ∀ r ∈ l, r.wf ∧ r.data.length ≤ 65536) (p : List UInt8) : rcScan (rcBytes l ++ p) = (l ++ (rcScan p).1, (rcBytes l).length + (rcScan p).2.1, (rcScan p).2.2) := by
  induction l with
  | nil => simp [rcBytes_nil]
  | cons r l ih =>
    have hr := hw r (by simp)
    have h1 := rc_one_bytes hr.1 hr.2 (rcBytes l ++ p)
    have ih := ih (fun r h => hw r (by simp [h]))
    have hl := r.bytes_length
    rw [rcBytes_cons, List.append_assoc, rcScan_some (by rw [h1]; simp), h1]
    simp only
    rw [← hl, List.drop_left, ih]
    simp [Nat.add_assoc]
/-- what is scanned, put again, is the bytes that were taken -/
theorem rc_of_one {b : List UInt8} (h9 : 9 ≤ b.length) (ho : opens (b.take 9) = true) (hn : rcN b ≤ 65536) (hl : rcN b + 13 ≤ b.length) (hd : opens ((b.take (rcN b + 13)).drop 9) = true) :
    (⟨(b.getD 0 0).toNat, (b.drop 9).take (rcN b)⟩ : Rc).bytes = b.take (rcN b + 13) := by
  have ht9 : (b.take 9).length = 9 := by rw [List.length_take]; omega
  have e1 := (opens_seal_iff (l := b.take 9) (by omega)).1 ho
  have e2 := (opens_seal_iff (l := (b.take (rcN b + 13)).drop 9) (by rw [List.length_drop, List.length_take]; omega)).1 hd
  have hx : ((b.take (rcN b + 13)).drop 9).length = rcN b + 4 := by rw [List.length_drop, List.length_take]; omega
  rw [hx, Nat.add_sub_cancel] at e2
  rw [ht9, show 9 - 4 = 5 by omega, ← rc_five] at e1
  have hdt : ((b.take (rcN b + 13)).drop 9).take (rcN b) = (b.drop 9).take (rcN b) := by
    rw [List.drop_take, List.take_take, Nat.min_eq_left (by omega)]
  rw [hdt] at e2
  have hdl : ((b.drop 9).take (rcN b)).length = rcN b := by rw [List.length_take, List.length_drop]; omega
  have hhd : (⟨(b.getD 0 0).toNat, (b.drop 9).take (rcN b)⟩ : Rc).hd = b.take 5 := by
    rw [Rc.hd]
    simp only [hdl]
    match b, h9 with
    | x0 :: x1 :: x2 :: x3 :: x4 :: r, _ =>
      have hN : rcN (x0 :: x1 :: x2 :: x3 :: x4 :: r) = unbe [x1, x2, x3, x4] := rfl
      rw [hN]
      have hb : be 4 (unbe [x1, x2, x3, x4]) = [x1, x2, x3, x4] := be_unbe4 _ _ _ _
      rw [hb]
      simp
  rw [Rc.bytes, hhd, e1]
  show _ ++ seal' ((b.drop 9).take (rcN b)) = _
  rw [e2]
  have e9 : b.take 9 = (b.take (rcN b + 13)).take 9 := by rw [List.take_take, Nat.min_eq_left (by omega)]
  rw [e9, List.take_append_drop]
where
  be_unbe4 (a b c d : UInt8) : be 4 (unbe [a, b, c, d]) = [a, b, c, d] := by
    have ha := a.toNat_lt; have hb := b.toNat_lt; have hc := c.toNat_lt; have hd := d.toNat_lt
    have e : ∀ (x : UInt8) (n : Nat), n % 256 = x.toNat → UInt8.ofNat n = x := fun x n h => UInt8.toNat_inj.1 (by rw [UInt8.toNat_ofNat']; exact h)
    simp only [be, unbe, List.foldl_cons, List.foldl_nil]
    rw [e a _ (by omega), e b _ (by omega), e c _ (by omega), e d _ (by omega)]
theorem rcScan_put (b : List UInt8) : (∀ r ∈ (rcScan b).1, r.wf ∧ r.data.length ≤ 65536) ∧ rcBytes (rcScan b).1 = b.take (rcScan b).2.1 ∧ ((rcScan b).2.2 = 0 → (rcScan b).2.1 = b.length) := by
  induction hn : b.length using Nat.strongRecOn generalizing b with
  | ind n ih =>
    subst hn
    have hl := rcOne_le b
    by_cases h : (rcOne b).2.1 = 0
    · rw [rcScan_none h]
      refine ⟨by simp, by simp [rcBytes_nil], ?_⟩
      intro h2
      have h2 : (rcOne b).2.2 = 0 := h2
      by_cases h0 : b = []
      · rw [h0]; rfl
      exfalso
      rw [rcOne, if_neg h0] at h2 h
      split at h2
      · simp at h2
      · rename_i x1
        rw [if_neg x1] at h
        split at h2
        · simp at h2
        · rename_i x2
          rw [if_neg x2] at h
          split at h2
          · simp at h2
          · rename_i x3
            rw [if_neg x3] at h
            split at h2
            · simp at h2
            · rename_i x4
              rw [if_neg x4] at h
              split at h2
              · simp at h2
              · rename_i x5
                rw [if_neg x5] at h
                simp at h
    · rcases rcOne_cases b with ⟨w, hw, e⟩ | ⟨h9, ho, hnb, hlb, hd, e⟩
      · rw [e] at h; exact absurd rfl h
      · obtain ⟨i1, i2, i3⟩ := ih _ (by rw [List.length_drop]; omega) (b.drop (rcOne b).2.1) rfl
        rw [rcScan_some h]
        rw [e] at i1 i2 i3 ⊢
        simp only at i1 i2 i3 ⊢
        have hb := rc_of_one h9 ho hnb hlb hd
        refine ⟨?_, ?_, ?_⟩
        · intro r hr
          rcases List.mem_cons.1 hr with rfl | hr
          · exact ⟨(b.getD 0 0).toNat_lt, by show ((b.drop 9).take (rcN b)).length ≤ _; rw [List.length_take]; omega⟩
          · exact i1 r hr
        · rw [rcBytes_cons, hb, i2, ← List.take_add]
        · intro h2
          have := i3 h2
          rw [List.length_drop] at this
          omega
end Go.PH

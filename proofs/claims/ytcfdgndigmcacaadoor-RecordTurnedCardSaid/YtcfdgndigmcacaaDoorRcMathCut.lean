/- Records' bytes, cut off anywhere. No program in sight. -/
import Derived.Test.YtcfdgndigmcacaaDoorRcMath
namespace Go.PH

theorem rcScan_nil : rcScan [] = ([], 0, 0) := by rw [rcScan_none (by rfl)]; rfl
theorem rc_one_part {r : Rc} (hd : r.data.length ≤ 65536) {m : Nat} (h0 : 0 < m) (hm : m < r.bytes.length) : rcOne (r.bytes.take m) = (⟨0, []⟩, 0, 1) := by
  have hl : (r.bytes.take m).length = m := by rw [List.length_take]; omega
  have hbl := r.bytes_length
  by_cases h9 : m < 9
  · exact rcOne_short (by intro e; rw [e] at hl; simp at hl; omega) (by omega)
  · have ht : (r.bytes.take m).take 9 = seal' r.hd := by
      rw [List.take_take, Nat.min_eq_left (by omega)]
      have := rc_hd_bytes r []
      rwa [List.append_nil] at this
    have hN : rcN (r.bytes.take m) = r.data.length := by rw [rcN_seal ht]; omega
    exact rcOne_torn (by omega) (by rw [ht]; exact opens_seal _) (by omega) (by omega)
theorem rcScan_cut {l : List Rc} (hw : ∀ r ∈ l, r.wf ∧ r.data.length ≤ 65536) {j t : Nat} (hj : j ≤ l.length) (hE : (rcBytes (l.take j)).length ≤ t) (ht : t ≤ (rcBytes l).length) (hn : ∀ h : j < l.length, t < (rcBytes (l.take j)).length + l[j].data.length + 13) :
    rcScan ((rcBytes l).take t) = (l.take j, (rcBytes (l.take j)).length, if (rcBytes (l.take j)).length = t then 0 else 1) := by
  have hs : rcBytes l = rcBytes (l.take j) ++ rcBytes (l.drop j) := by rw [← rcBytes_app, List.take_append_drop]
  have hwj : ∀ r ∈ l.take j, r.wf ∧ r.data.length ≤ 65536 := fun r hr => hw r (List.mem_of_mem_take hr)
  rw [hs, List.take_append, List.take_of_length_le hE, rcScan_bytes hwj]
  by_cases e : (rcBytes (l.take j)).length = t
  · rw [e, Nat.sub_self, List.take_zero, rcScan_nil, if_pos rfl]
    simp
  · rw [if_neg e]
    have hjl : j < l.length := by
      rcases Nat.lt_or_ge j l.length with h | h
      · exact h
      · rw [List.take_of_length_le h] at hE e; omega
    have hn := hn hjl
    rw [List.drop_eq_getElem_cons hjl, rcBytes_cons, List.take_append_of_le_length (by rw [Rc.bytes_length]; omega)]
    have h1 := rc_one_part (hw _ (List.getElem_mem hjl)).2 (m := t - (rcBytes (l.take j)).length) (by omega) (by rw [Rc.bytes_length]; omega)
    rw [rcScan_none (by rw [h1]), h1]
    simp
end Go.PH

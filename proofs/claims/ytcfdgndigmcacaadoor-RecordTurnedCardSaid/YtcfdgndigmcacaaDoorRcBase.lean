/- Records as cells; which records a statement plays. -/
import Derived.Test.YtcfdgndigmcacaaDoorRcMath
import Derived.Test.YtcfdgndigmcacaaDoorRec
import Derived.Test.YtcfdgndigmcacaaDoorBox
import Derived.Test.YtcfdgndigmcacaaDoorStr
import Derived.Test.YtcfdgndigmcacaaDoorRegion2
import Derived.Test.YtcfdgndigmcacaaDoorRow
namespace Go.PH
open Go.RowKit Go.Proofs

def rcC (r : Rc) : List Value := [.int .u8 (r.kind : Int), .string (str r.data)]
def rcV (r : Rc) : Array Value := #[.int .u8 (r.kind : Int), .string (str r.data)]
theorem rcShape : RecShape rcC 2 where
  len := fun _ => rfl
  one := fun a u hu => by simp [rcC] at hu; rcases hu with rfl | rfl <;> rfl
  pos := by omega
theorem slR : SlT Tryd.prog 22 33 2 24 (.agg #[.int .u8 0, .string ⟨#[]⟩]) := SlT.mk' Tryd.underlying22 (by kernel_rfl) rfl (by omega)
abbrev OwnR (w : World) (base : Nat) (A : Option Addr) (n c : Nat) (l : List Rc) : Prop := Own w base 33 2 A n c (rowC rcC l)
abbrev RdR (w : World) (B : Nat) (A : Option Addr) (n c : Nat) (l : List Rc) : Prop := Rd w B 2 A n c (rowC rcC l)
def zr : Array Value := #[.int .u8 0, .string ⟨#[]⟩]
theorem zr_eq : zr = #[.int .u8 0, .string ⟨#[]⟩] := rfl
theorem kind_u8v {k : Nat} (h : k < 256) : Value.int .u8 (k : Int) = u8v (UInt8.ofNat k) := by
  rw [u8v, UInt8.toNat_ofNat', Nat.mod_eq_of_lt h]
def rcSum (l : List Rc) : Nat := (l.map (fun r => r.data.length)).sum
theorem rcSum_take {l : List Rc} {k : Nat} (hk : k < l.length) : rcSum (l.take (k + 1)) = rcSum (l.take k) + l[k].data.length := by
  unfold rcSum; rw [List.take_succ_eq_append_getElem hk, List.map_append, List.sum_append]; simp only [List.map_cons, List.map_nil, List.sum_cons, List.sum_nil, Nat.add_zero]
theorem rcBytes_len (l : List Rc) : (rcBytes l).length = rcSum l + 13 * l.length := by
  induction l with
  | nil => rfl
  | cons r l ih =>
    have hs : rcSum (r :: l) = r.data.length + rcSum l := by simp [rcSum]
    rw [rcBytes_cons, List.length_append, ih, r.bytes_length, hs, List.length_cons]; omega
theorem rcSum_le (l : List Rc) (k : Nat) : rcSum (l.take k) ≤ rcSum l := by
  have h : rcSum l = rcSum (l.take k) + rcSum (l.drop k) := by
    conv => lhs; rw [← List.take_append_drop k l]
    unfold rcSum; rw [List.map_append, List.sum_append]
  omega
def rcGreat (l : List Rc) : Bool := decide (40 < l.length ∨ 4000 < rcSum l)
theorem rcGreat_no {l : List Rc} (h : rcGreat l = false) : l.length ≤ 40 ∧ rcSum l ≤ 4000 := by
  unfold rcGreat at h
  rw [decide_eq_false_iff_not] at h
  omega
theorem rcSum_mem {l : List Rc} {r : Rc} (h : r ∈ l) : r.data.length ≤ rcSum l := by
  induction l with
  | nil => simp at h
  | cons a l ih =>
    have hs : rcSum (a :: l) = a.data.length + rcSum l := by simp [rcSum]
    rcases List.mem_cons.1 h with rfl | h
    · omega
    · have := ih h; omega

set_option maxRecDepth 20000 in
set_option maxHeartbeats 1000000 in
theorem great_any (A : Option Addr) (n c : Nat) (l : List Rc) (w : World) (hr : RdR w w.heap.size A n c l) (hf : ∀ r ∈ l, r.data.length ≤ 140737488351232) (hn : n ≤ 140737488351232) :
    Calls Tryd.prog 9 #[.slice A n c] w fun e w' => e = .returned (.bool (rcGreat l)) ∧ w' = w := by
  have hl := rec_length rcShape hr
  go_enter Tryd.func9, Tryd.ntmps9
  go_wp2_with (first | (with_reducible refine hold_append ?_) | (with_reducible refine hold_make ?_) | (with_reducible refine hold_copy ?_))
  go_loopw [4, 3] (fun s v wr => ∃ (k L : Nat), k ≤ n ∧ k ≤ 40 ∧ s = .int .i64 k ∧ v = .int .i64 L ∧ Hid (L + rcSum (l.take k) = 4000) ∧ L ≤ 4000 ∧ wr = w) (fun s _ _ => n - (intOf s).toNat)
  case atStart => exact ⟨0, 4000, by omega, by omega, rfl, rfl, Lib.hid (by simp [rcSum]), by omega, rfl⟩
  case round =>
    obtain ⟨k, L, hk, hk40, rfl, rfl, HL, hL, rfl⟩ := hrel
    by_cases hlt : k < n ∧ k < 40
    · obtain ⟨hlt, h40⟩ := hlt
      have hkn : (k : Int) < (n : Int) := by omega
      have hk4 : (k : Int) < 40 := by omega
      obtain ⟨b, off, rfl, hbB, hkl, hc⟩ := rec_at rcShape hr hlt
      have hfk := hf l[k] (List.getElem_mem hkl)
      have HS := Lib.hid (rcSum_take hkl)
      generalize l[k] = x at *
      obtain ⟨kd, dt⟩ := x
      simp only at hfk
      have k1 := hc 1 _ rfl
      clear hc
      have hss := str_size dt
      by_cases hgt : L < dt.length
      · have hd : (L : Int) < ((str dt).size : Int) := by omega
        have HG := Lib.hid (show rcGreat l = true from by
          have h1 := HS.out; have h2 := HL.out; have h3 := rcSum_le l (k + 1)
          unfold rcGreat; rw [decide_eq_true_iff]; simp only at h1; omega)
        clear hss
        go_wp2_with (first | (with_reducible refine hold_append ?_) | (with_reducible refine hold_make ?_) | (with_reducible refine hold_copy ?_))
        go_ret
        rw [HG.out]
        exact ⟨rfl, rfl⟩
      · have hd : ¬ (L : Int) < ((str dt).size : Int) := by omega
        obtain ⟨M, hM⟩ : ∃ M, M = L - dt.length := ⟨_, rfl⟩
        have hw : IntKind.i64.wrap ((L : Int) - ((str dt).size : Int)) = (M : Int) := by rw [IntWalk.i64_in _ ⟨by omega, by omega⟩]; omega
        have HS2 := Lib.hid (show M + rcSum (l.take (k + 1)) = 4000 from by rw [HS.out, ← HL.out]; simp only; omega)
        have hM4 : M ≤ 4000 := by omega
        clear hM hss
        go_wp2_with (first | (with_reducible refine hold_append ?_) | (with_reducible refine hold_make ?_) | (with_reducible refine hold_copy ?_))
        exact ⟨⟨k + 1, M, by omega, by omega, by go_num, rfl, HS2, hM4, by first | rfl | trivial⟩, by simp [intOf]; omega⟩
    · by_cases hkn : k < n
      · have hk4 : ¬ (k : Int) < 40 := by omega
        have hkn' : (k : Int) < (n : Int) := by omega
        by_cases hn4 : 40 < n
        · have hd : decide ((40 : Int) < (n : Int)) = true := by simp; omega
          have HG := Lib.hid (show rcGreat l = true from by unfold rcGreat; rw [decide_eq_true_iff]; omega)
          go_wp2_with (first | (with_reducible refine hold_append ?_) | (with_reducible refine hold_make ?_) | (with_reducible refine hold_copy ?_))
          go_ret
          rw [HG.out]
          exact ⟨rfl, rfl⟩
        · omega
      · obtain rfl : k = n := by omega
        have hd : decide ((40 : Int) < (k : Int)) = false := by simp; omega
        have hLs := HL.out
        rw [← hl, List.take_length] at hLs
        have HG := Lib.hid (show rcGreat l = false from by unfold rcGreat; rw [decide_eq_false_iff_not]; omega)
        clear hLs HL
        go_wp2_with (first | (with_reducible refine hold_append ?_) | (with_reducible refine hold_make ?_) | (with_reducible refine hold_copy ?_))
        go_ret
        rw [HG.out]
        exact ⟨rfl, rfl⟩
end Go.PH

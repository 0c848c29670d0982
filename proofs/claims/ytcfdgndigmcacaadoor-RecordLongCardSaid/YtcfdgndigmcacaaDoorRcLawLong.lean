/- RecordLong: for every input of the form's own reach the law returns true and writes nothing that was there. Condition: the listed table reads as its numbers. -/
import Derived.Test.YtcfdgndigmcacaaDoorRcHead
namespace Go.PH
open Go.RowKit Go.Proofs

def fillB (n k : Nat) (x : UInt8) : List UInt8 := List.replicate k x ++ List.replicate (n - k) 0
theorem fillB_len (n k : Nat) (x : UInt8) (h : k ≤ n) : (fillB n k x).length = n := by simp [fillB]; omega
theorem fillB_set (n k : Nat) (x : UInt8) (h : k < n) : (fillB n k x).set k x = fillB n (k + 1) x := by
  unfold fillB
  rw [List.set_append_right _ _ (by simp), List.length_replicate, Nat.sub_self, show n - k = (n - (k + 1)) + 1 by omega, List.replicate_succ, List.set_cons_zero, List.replicate_succ', List.append_assoc]
  rfl
set_option maxRecDepth 20000 in
set_option maxHeartbeats 2000000 in
theorem law_RecordLong (x : Int) (cc : Nat) (w : World) (ht : TabAt w) (hg0 : 0 < w.heap.size) (hx1 : -128 ≤ x) (hx2 : x ≤ 127) (hc : cc < 256) :
    Calls Tryd.prog 4 #[.int .i8 x, .int .u8 (cc : Int)] w fun e w' => e = .returned (.bool true) ∧ Below w.heap.size w w' := by
  obtain ⟨n, hn⟩ : ∃ n : Nat, (n : Int) = 65536 + x := ⟨(65536 + x).toNat, by omega⟩
  have hw0 : IntKind.i64.wrap x = x := IntWalk.i64_in _ ⟨by omega, by omega⟩
  have hw1 : IntKind.i64.wrap (65536 + x) = (n : Int) := by rw [IntWalk.i64_in _ ⟨by omega, by omega⟩]; omega
  have hnb : 65408 ≤ n ∧ n ≤ 65663 := by omega
  obtain ⟨hn1, hn2⟩ := hnb
  have HN := Lib.hid hn
  clear hn
  have HU := Lib.hid (kind_u8v hc)
  generalize hcx : UInt8.ofNat cc = cx at *
  clear hcx
  go_enter Tryd.func4, Tryd.ntmps4
  go_wp2_with (first | (with_reducible refine hold_append ?_) | (with_reducible refine hold_make ?_) | (with_reducible refine hold_copy ?_))
  refine unhold (wp_make slB rfl rfl n n rfl rfl (by omega) (by omega) (Nat.le_refl _) (by omega) (by simp [maxLen]; omega) w.heap.size (Nat.le_refl _) ?_)
  intro w1 ho1 hg1
  have hB1 : Below w.heap.size w w1 := (Below.refl _ _).grown hg1 (Nat.le_refl _) (by simp)
  have hx0 : (madeCells (Value.int .u8 0).cells (n * 1)).toList.take (n * 1) = (fillB n 0 cx).map u8v := by
    simp [Value.cells, toList_madeCells_one, u8v, fillB]
  rw [hx0] at ho1
  clear hx0 hg1
  go_wp2_with (first | (with_reducible refine hold_append ?_) | (with_reducible refine hold_make ?_) | (with_reducible refine hold_copy ?_))
  go_loopw [7] (fun s wr => ∃ k : Nat, k ≤ n ∧ s = .int .i64 k ∧ Own wr w.heap.size 5 1 (some ⟨w.heap.size, 0, none⟩) n n ((fillB n k cx).map u8v) ∧ Below w.heap.size w wr) (fun s _ => n - (intOf s).toNat)
  case atStart => exact ⟨0, by omega, rfl, ho1, hB1⟩
  case round =>
    obtain ⟨k, hk, rfl, ho, hB⟩ := hrel
    by_cases hlt : k < n
    · have hkn : (k : Int) < (n : Int) := by omega
      obtain ⟨g, hge, hbg, hgl, hkl, hcell, hfz, hst⟩ := OwnB.at_k ho (k := k) hlt
      obtain rfl : w.heap.size = g := by injection hge with h; injection h
      have h1 := hst cx
      rw [fillB_set n k cx hlt, ← HU.out] at h1
      clear hst
      go_wp2_with (first | (with_reducible refine hold_append ?_) | (with_reducible refine hold_make ?_) | (with_reducible refine hold_copy ?_))
      exact ⟨⟨k + 1, by omega, by go_num, h1, hB.setCell (by omega) _⟩, by simp [intOf]; omega⟩
    · obtain rfl : k = n := by omega
      have hfl := fillB_len k k cx (Nat.le_refl _)
      generalize hdt : fillB k k cx = dt at *
      clear hdt
      have hst := run_strB (w := wr) ho.rd
      have hz := hB.size
      have hlit : Own (wr.alloc (.cells #[.int .u8 (cc : Int), .string (str dt)] 33)) wr.heap.size 33 2 (some ⟨wr.heap.size, 0, none⟩) 1 1 (rowC rcC [⟨cc, dt⟩]) :=
        own_lit (w := wr) wr.heap.size #[.int .u8 (cc : Int), .string (str dt)] 33 1 (Nat.le_refl _) (by simp [maxLen]) rfl (size := 2) (by omega)
      have hB2 : Below w.heap.size w (wr.alloc (.cells #[.int .u8 (cc : Int), .string (str dt)] 33)) := hB.alloc hz _
      have ho2 : Own (wr.alloc (.cells #[.int .u8 (cc : Int), .string (str dt)] 33)) w.heap.size 5 1 (some ⟨w.heap.size, 0, none⟩) k k (dt.map u8v) := ho.alloc _
      have hbl := rcBytes_len [⟨cc, dt⟩]
      have hsm : rcSum [⟨cc, dt⟩] = dt.length := by simp [rcSum]
      rw [hsm, hfl] at hbl
      have hpt := rcput_any _ 1 1 [⟨cc, dt⟩] _ hlit.rd (fun r hr => by rw [List.mem_singleton.1 hr]; exact ⟨hc, by show dt.length ≤ _; omega⟩) (by omega) (ht.below hB2 hg0) (Nat.lt_of_lt_of_le hg0 hB2.size) (by rw [hbl]; simp; omega)
      by_cases hpos : 0 < x
      · have hput : rcPut [⟨cc, dt⟩] = ([], 3) := rcPut_long (List.mem_singleton.2 rfl) (by show 65536 < dt.length; have := HN.out; omega)
        rw [hput] at hpt
        clear hput hbl hsm hlit hst
        have hq : (str []).toList.isEmpty = true := by rw [str_toList]; rfl
        have hst := run_strB (w := wr) ho.rd
        clear hfl
        go_wp2_with (first | (with_reducible refine hold_append ?_) | (with_reducible refine hold_make ?_) | (with_reducible refine hold_copy ?_))
        refine hpt.mono ?_
        rintro e w3 ⟨rfl, hB3⟩
        have hB4 := hB2.trans (hB3.mono hB2.size)
        clear hpt hst
        go_wp2_with (first | (with_reducible refine hold_append ?_) | (with_reducible refine hold_make ?_) | (with_reducible refine hold_copy ?_))
        refine (head_any w3 (ht.below hB4 hg0) (Nat.lt_of_lt_of_le hg0 hB4.size)).mono ?_
        rintro e w5 ⟨rfl, hB5⟩
        have hB6 := hB4.trans (hB5.mono hB4.size)
        go_wp2_with (first | (with_reducible refine hold_append ?_) | (with_reducible refine hold_make ?_) | (with_reducible refine hold_copy ?_))
        go_ret
        exact ⟨rfl, hB6⟩
      · have hwf : ∀ r ∈ [(⟨cc, dt⟩ : Rc)], r.wf ∧ r.data.length ≤ 65536 := fun r hr => by rw [List.mem_singleton.1 hr]; exact ⟨hc, by show dt.length ≤ 65536; have := HN.out; omega⟩
        have hput : rcPut [⟨cc, dt⟩] = (rcBytes [⟨cc, dt⟩], 0) := rcPut_of fun r hr => (hwf r hr).2
        have hscn := rcScan_bytes hwf []
        have e0 : rcScan [] = ([], 0, 0) := rcScan_of rfl
        rw [List.append_nil, e0] at hscn
        simp only [List.append_nil, Nat.add_zero] at hscn
        rw [hput] at hpt
        have hsc := fun W h1 h2 => rcscan_any (rcBytes [⟨cc, dt⟩]) W h1 h2 (by rw [hbl]; simp; omega)
        rw [hscn, hbl] at hsc
        have hsz : (str (rcBytes [⟨cc, dt⟩])).size = k + 13 := by rw [str_size, hbl]; rfl
        obtain ⟨T, hT⟩ : ∃ T, T = k + 13 := ⟨_, rfl⟩
        have hwT : IntKind.i64.wrap ((k : Int) + 13) = (T : Int) := by rw [IntWalk.i64_in _ ⟨by omega, by omega⟩]; omega
        simp only [List.length_singleton, Nat.mul_one] at hsc
        rw [← hT] at hsc hsz
        clear hT hput hscn e0 hbl hsm hlit hwf
        generalize rcBytes [⟨cc, dt⟩] = sb at *
        have hTT : ((T : Int) == (T : Int)) = true := by simp
        have hq : ((str dt).toList == (str dt).toList) = true := by simp
        go_wp2_with (first | (with_reducible refine hold_append ?_) | (with_reducible refine hold_make ?_) | (with_reducible refine hold_copy ?_))
        refine hpt.mono ?_
        rintro e w3 ⟨rfl, hB3⟩
        have hB4 := hB2.trans (hB3.mono hB2.size)
        have ho3 := own_below ho2 hB3
        have hsc' := hsc w3 (ht.below hB4 hg0) (Nat.lt_of_lt_of_le hg0 hB4.size)
        clear hpt hst ho2 hB2 hsc ho hB1 ho1
        go_wp2_with (first | (with_reducible refine hold_append ?_) | (with_reducible refine hold_make ?_) | (with_reducible refine hold_copy ?_))
        refine hsc'.mono ?_
        rintro e w5 ⟨A5, c5, rfl, ho5, hB5⟩
        have hB6 := hB4.trans (hB5.mono hB4.size)
        have ho35 := own_below ho3 hB5
        have ho5' : OwnR w5 w3.heap.size A5 1 c5 [⟨cc, dt⟩] := ho5
        obtain ⟨b5, off5, rfl, hbb, _, hy⟩ := rec_at rcShape ho5'.rd (k := 0) (by omega)
        have k1 : w5.cell? ⟨b5, off5 + 1, none⟩ = some (.string (str dt)) := hy 1 _ rfl
        clear hy hsc' ho5 ho5' hB4 hB5 ho3
        go_wp2_with (first | (with_reducible refine hold_append ?_) | (with_reducible refine hold_make ?_) | (with_reducible refine hold_copy ?_))
        have hS : w5.drew.cell? ⟨b5, off5 + 1, none⟩ = some (.string (str dt)) ∧ RdB w5.drew w5.heap.size (some ⟨w.heap.size, 0, none⟩) k k dt := ⟨k1, Rd.drew ho35.rd⟩
        refine rg_start (fun wx : World => wx.cell? ⟨b5, off5 + 1, none⟩ = some (.string (str dt)) ∧ RdB wx w5.heap.size (some ⟨w.heap.size, 0, none⟩) k k dt) (by kernel_rfl) ?_
        refine rg_take 0 (v := ?_) rfl (by kernel_rfl) (by kernel_rfl) (by kernel_rfl) hS rfl ?_ ?_
        rotate_left
        · intro wS hSw; go_simp; (with_reducible rfl)
        simp only [List.getElem_toArray, List.getElem_cons_zero, Act.put, List.setIfInBounds_toArray, List.set_cons_zero, List.set_cons_succ]
        refine rg_take 1 (v := ?_) rfl (by kernel_rfl) (by kernel_rfl) (by kernel_rfl) hS rfl ?_ ?_
        rotate_left
        · intro wS hSw; go_simp; (with_reducible rfl)
        simp only [List.getElem_toArray, List.getElem_cons_succ, List.getElem_cons_zero, Act.put, List.setIfInBounds_toArray, List.set_cons_zero, List.set_cons_succ]
        refine rg_take 2 (v := ?_) rfl (by kernel_rfl) (by kernel_rfl) (by kernel_rfl) hS rfl ?_ ?_
        rotate_left
        · intro wS hSw; go_simp; (with_reducible rfl)
        simp only [List.getElem_toArray, List.getElem_cons_succ, List.getElem_cons_zero, Act.put, List.setIfInBounds_toArray, List.set_cons_zero, List.set_cons_succ]
        refine rg_take 3 (v := ?_) rfl (by kernel_rfl) (by kernel_rfl) (by kernel_rfl) hS rfl ?_ ?_
        rotate_left
        · intro wS hSw; go_simp; (with_reducible rfl)
        simp only [List.getElem_toArray, List.getElem_cons_succ, List.getElem_cons_zero, Act.put, List.setIfInBounds_toArray, List.set_cons_zero, List.set_cons_succ]
        refine rg_take 4 (v := ?_) rfl (by kernel_rfl) (by kernel_rfl) (by kernel_rfl) hS rfl ?_ ?_
        rotate_left
        · intro wS hSw; go_simp; (with_reducible rfl)
        simp only [List.getElem_toArray, List.getElem_cons_succ, List.getElem_cons_zero, Act.put, List.setIfInBounds_toArray, List.set_cons_zero, List.set_cons_succ]
        refine rg_take 5 (v := ?_) rfl (by kernel_rfl) (by kernel_rfl) (by kernel_rfl) hS rfl ?_ ?_
        rotate_left
        · intro wS hSw; go_simp; (with_reducible rfl)
        simp only [List.getElem_toArray, List.getElem_cons_succ, List.getElem_cons_zero, Act.put, List.setIfInBounds_toArray, List.set_cons_zero, List.set_cons_succ]
        refine rg_take 6 (v := ?_) rfl (by kernel_rfl) (by kernel_rfl) (by kernel_rfl) hS rfl ?_ ?_
        rotate_left
        · intro wS hSw; go_simp; (with_reducible rfl)
        simp only [List.getElem_toArray, List.getElem_cons_succ, List.getElem_cons_zero, Act.put, List.setIfInBounds_toArray, List.set_cons_zero, List.set_cons_succ]
        refine rg_take 7 (v := ?_) rfl (by kernel_rfl) (by kernel_rfl) (by kernel_rfl) hS rfl ?_ ?_
        rotate_left
        · intro wS hSw; go_simp; (with_reducible rfl)
        simp only [List.getElem_toArray, List.getElem_cons_succ, List.getElem_cons_zero, Act.put, List.setIfInBounds_toArray, List.set_cons_zero, List.set_cons_succ]
        refine rg_take 8 (v := ?_) rfl (by kernel_rfl) (by kernel_rfl) (by kernel_rfl) hS rfl ?_ ?_
        rotate_left
        · intro wS hSw; go_simp; (with_reducible rfl)
        simp only [List.getElem_toArray, List.getElem_cons_succ, List.getElem_cons_zero, Act.put, List.setIfInBounds_toArray, List.set_cons_zero, List.set_cons_succ]
        refine rg_take 9 (v := ?_) rfl (by kernel_rfl) (by kernel_rfl) (by kernel_rfl) hS rfl ?_ ?_
        rotate_left
        · intro wS hSw; go_simp; (with_reducible rfl)
        simp only [List.getElem_toArray, List.getElem_cons_succ, List.getElem_cons_zero, Act.put, List.setIfInBounds_toArray, List.set_cons_zero, List.set_cons_succ]
        refine rg_take 10 (v := ?_) rfl (by kernel_rfl) (by kernel_rfl) (by kernel_rfl) hS rfl ?_ ?_
        rotate_left
        · intro wS hSw; go_simp; (with_reducible rfl)
        simp only [List.getElem_toArray, List.getElem_cons_succ, List.getElem_cons_zero, Act.put, List.setIfInBounds_toArray, List.set_cons_zero, List.set_cons_succ]
        refine rg_take 11 (v := ?_) rfl (by kernel_rfl) (by kernel_rfl) (by kernel_rfl) hS rfl ?_ ?_
        rotate_left
        · intro wS hSw; go_simp; (with_reducible rfl)
        simp only [List.getElem_toArray, List.getElem_cons_succ, List.getElem_cons_zero, Act.put, List.setIfInBounds_toArray, List.set_cons_zero, List.set_cons_succ]
        refine rg_take 12 (v := ?_) rfl (by kernel_rfl) (by kernel_rfl) (by kernel_rfl) hS rfl ?_ ?_
        rotate_left
        · intro wS hSw; go_simp; (with_reducible rfl)
        simp only [List.getElem_toArray, List.getElem_cons_succ, List.getElem_cons_zero, Act.put, List.setIfInBounds_toArray, List.set_cons_zero, List.set_cons_succ]
        refine rg_take 13 (v := ?_) rfl (by kernel_rfl) (by kernel_rfl) (by kernel_rfl) hS rfl ?_ ?_
        rotate_left
        · intro wS hSw; go_simp; (with_reducible rfl)
        simp only [List.getElem_toArray, List.getElem_cons_succ, List.getElem_cons_zero, Act.put, List.setIfInBounds_toArray, List.set_cons_zero, List.set_cons_succ]
        refine rg_take 14 (v := ?_) rfl (by kernel_rfl) (by kernel_rfl) (by kernel_rfl) hS rfl ?_ ?_
        rotate_left
        · intro wS hSw; go_simp; (with_reducible rfl)
        simp only [List.getElem_toArray, List.getElem_cons_succ, List.getElem_cons_zero, Act.put, List.setIfInBounds_toArray, List.set_cons_zero, List.set_cons_succ]
        refine rg_take 15 (v := ?_) rfl (by kernel_rfl) (by kernel_rfl) (by kernel_rfl) hS rfl ?_ ?_
        rotate_left
        · intro wS hSw; go_simp; (with_reducible rfl)
        simp only [List.getElem_toArray, List.getElem_cons_succ, List.getElem_cons_zero, Act.put, List.setIfInBounds_toArray, List.set_cons_zero, List.set_cons_succ]
        refine rg_take 16 (v := ?_) rfl (by kernel_rfl) (by kernel_rfl) (by kernel_rfl) hS rfl ?_ ?_
        rotate_left
        · intro wS hSw; go_simp; (with_reducible rfl)
        simp only [List.getElem_toArray, List.getElem_cons_succ, List.getElem_cons_zero, Act.put, List.setIfInBounds_toArray, List.set_cons_zero, List.set_cons_succ]
        refine rg_take 17 (v := ?_) rfl (by kernel_rfl) (by kernel_rfl) (by kernel_rfl) hS rfl ?_ ?_
        rotate_left
        · intro wS hSw; go_simp; (with_reducible rfl)
        simp only [List.getElem_toArray, List.getElem_cons_succ, List.getElem_cons_zero, Act.put, List.setIfInBounds_toArray, List.set_cons_zero, List.set_cons_succ]
        refine rg_take 18 (v := ?_) rfl (by kernel_rfl) (by kernel_rfl) (by kernel_rfl) hS rfl ?_ ?_
        rotate_left
        · intro wS hSw; go_simp; (with_reducible rfl)
        simp only [List.getElem_toArray, List.getElem_cons_succ, List.getElem_cons_zero, Act.put, List.setIfInBounds_toArray, List.set_cons_zero, List.set_cons_succ]
        refine rg_take 19 (v := ?_) rfl (by kernel_rfl) (by kernel_rfl) (by kernel_rfl) hS rfl ?_ ?_
        rotate_left
        · intro wS hSw; go_simp; (with_reducible rfl)
        simp only [List.getElem_toArray, List.getElem_cons_succ, List.getElem_cons_zero, Act.put, List.setIfInBounds_toArray, List.set_cons_zero, List.set_cons_succ]
        refine rg_take 20 (v := ?_) rfl (by kernel_rfl) (by kernel_rfl) (by kernel_rfl) hS rfl ?_ ?_
        rotate_left
        · intro wS hSw; go_simp; (with_reducible rfl)
        simp only [List.getElem_toArray, List.getElem_cons_succ, List.getElem_cons_zero, Act.put, List.setIfInBounds_toArray, List.set_cons_zero, List.set_cons_succ]
        refine rg_take 21 (v := ?_) rfl (by kernel_rfl) (by kernel_rfl) (by kernel_rfl) hS rfl ?_ ?_
        rotate_left
        · intro wS hSw; go_simp; (with_reducible rfl)
        simp only [List.getElem_toArray, List.getElem_cons_succ, List.getElem_cons_zero, Act.put, List.setIfInBounds_toArray, List.set_cons_zero, List.set_cons_succ]
        refine rg_take 22 (v := ?_) rfl (by kernel_rfl) (by kernel_rfl) (by kernel_rfl) hS rfl ?_ ?_
        rotate_left
        · intro wS hSw; go_simp; (with_reducible rfl)
        simp only [List.getElem_toArray, List.getElem_cons_succ, List.getElem_cons_zero, Act.put, List.setIfInBounds_toArray, List.set_cons_zero, List.set_cons_succ]
        refine rg_take 23 (v := ?_) rfl (by kernel_rfl) (by kernel_rfl) (by kernel_rfl) hS rfl ?_ ?_
        rotate_left
        · intro wS hSw; go_simp; (with_reducible rfl)
        simp only [List.getElem_toArray, List.getElem_cons_succ, List.getElem_cons_zero, Act.put, List.setIfInBounds_toArray, List.set_cons_zero, List.set_cons_succ]
        refine rg_take 24 (v := ?_) rfl (by kernel_rfl) (by kernel_rfl) (by kernel_rfl) hS rfl ?_ ?_
        rotate_left
        · intro wS hSw; go_simp; (with_reducible rfl)
        simp only [List.getElem_toArray, List.getElem_cons_succ, List.getElem_cons_zero, Act.put, List.setIfInBounds_toArray, List.set_cons_zero, List.set_cons_succ]
        refine rg_take 25 (v := ?_) rfl (by kernel_rfl) (by kernel_rfl) (by kernel_rfl) hS rfl ?_ ?_
        rotate_left
        · intro wS hSw; go_simp; (with_reducible rfl)
        simp only [List.getElem_toArray, List.getElem_cons_succ, List.getElem_cons_zero, Act.put, List.setIfInBounds_toArray, List.set_cons_zero, List.set_cons_succ]
        refine rg_take 26 (v := ?_) rfl (by kernel_rfl) (by kernel_rfl) (by kernel_rfl) hS rfl ?_ ?_
        rotate_left
        · intro wS hSw; go_simp; (with_reducible rfl)
        simp only [List.getElem_toArray, List.getElem_cons_succ, List.getElem_cons_zero, Act.put, List.setIfInBounds_toArray, List.set_cons_zero, List.set_cons_succ]
        refine rg_take 27 (v := ?_) rfl (by kernel_rfl) (by kernel_rfl) (by kernel_rfl) hS rfl ?_ ?_
        rotate_left
        · intro wS hSw; go_simp; (with_reducible rfl)
        simp only [List.getElem_toArray, List.getElem_cons_succ, List.getElem_cons_zero, Act.put, List.setIfInBounds_toArray, List.set_cons_zero, List.set_cons_succ]
        refine rg_take 28 (v := ?_) rfl (by kernel_rfl) (by kernel_rfl) (by kernel_rfl) hS rfl ?_ ?_
        rotate_left
        · intro wS hSw; go_simp; (with_reducible rfl)
        simp only [List.getElem_toArray, List.getElem_cons_succ, List.getElem_cons_zero, Act.put, List.setIfInBounds_toArray, List.set_cons_zero, List.set_cons_succ]
        refine rg_take 29 (v := ?_) rfl (by kernel_rfl) (by kernel_rfl) (by kernel_rfl) hS rfl ?_ ?_
        rotate_left
        · intro wS hSw; go_simp; (with_reducible rfl)
        simp only [List.getElem_toArray, List.getElem_cons_succ, List.getElem_cons_zero, Act.put, List.setIfInBounds_toArray, List.set_cons_zero, List.set_cons_succ]
        refine rg_take 30 (v := ?_) rfl (by kernel_rfl) (by kernel_rfl) (by kernel_rfl) hS rfl ?_ ?_
        rotate_left
        · intro wS hSw; have hv := run_strB (w := wS) hSw.2; go_simp; (with_reducible rfl)
        simp only [List.getElem_toArray, List.getElem_cons_succ, List.getElem_cons_zero, Act.put, List.setIfInBounds_toArray, List.set_cons_zero, List.set_cons_succ]
        refine rg_take 31 (v := ?_) rfl (by kernel_rfl) (by kernel_rfl) (by kernel_rfl) hS rfl ?_ ?_
        rotate_left
        · intro wS hSw; go_simp; (with_reducible rfl)
        simp only [List.getElem_toArray, List.getElem_cons_succ, List.getElem_cons_zero, Act.put, List.setIfInBounds_toArray, List.set_cons_zero, List.set_cons_succ]
        refine rg_take 32 (v := ?_) rfl (by kernel_rfl) (by kernel_rfl) (by kernel_rfl) hS rfl ?_ ?_
        rotate_left
        · intro wS hSw; go_simp; (with_reducible rfl)
        simp only [List.getElem_toArray, List.getElem_cons_succ, List.getElem_cons_zero, Act.put, List.setIfInBounds_toArray, List.set_cons_zero, List.set_cons_succ]
        refine rg_take 33 (v := ?_) rfl (by kernel_rfl) (by kernel_rfl) (by kernel_rfl) hS rfl ?_ ?_
        rotate_left
        · intro wS hSw; go_simp; (with_reducible rfl)
        simp only [List.getElem_toArray, List.getElem_cons_succ, List.getElem_cons_zero, Act.put, List.setIfInBounds_toArray, List.set_cons_zero, List.set_cons_succ]
        refine rg_one 34 rfl (by kernel_rfl) rfl (fun K hK => ?_)
        go_simp
        have hBd := below_drewN hB6 1
        refine (head_any w5.drew (ht.below hBd hg0) (Nat.lt_of_lt_of_le hg0 hBd.size)).mono ?_
        rintro e w7 ⟨rfl, hB7⟩
        have hB8 : Below w.heap.size w w7 := hBd.trans (hB7.mono hBd.size)
        have hS7 := And.intro ((hB7.cell (p := ⟨b5, off5 + 1, none⟩) hbb).trans hS.1) (Rd.below hS.2 hB7)
        refine hK _ _ hS7 ?_; clear hK K
        refine rg_take 35 (v := ?_) rfl (by kernel_rfl) (by kernel_rfl) (by kernel_rfl) hS7 rfl ?_ ?_
        rotate_left
        · intro wS hSw; go_simp; (with_reducible rfl)
        simp only [List.getElem_toArray, List.getElem_cons_succ, List.getElem_cons_zero, Act.put, List.setIfInBounds_toArray, List.set_cons_zero, List.set_cons_succ]
        refine rg_take 36 (v := ?_) rfl (by kernel_rfl) (by kernel_rfl) (by kernel_rfl) hS7 rfl ?_ ?_
        rotate_left
        · intro wS hSw; go_simp; (with_reducible rfl)
        simp only [List.getElem_toArray, List.getElem_cons_succ, List.getElem_cons_zero, Act.put, List.setIfInBounds_toArray, List.set_cons_zero, List.set_cons_succ]
        refine rg_end (by kernel_rfl) ?_
        go_wp2_with (first | (with_reducible refine hold_append ?_) | (with_reducible refine hold_make ?_) | (with_reducible refine hold_copy ?_))
        go_ret
        exact ⟨rfl, hB8⟩
end Go.PH

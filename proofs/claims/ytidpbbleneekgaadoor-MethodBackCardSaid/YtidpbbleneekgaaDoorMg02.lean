/- Texts laid together: See, SlB, OctWalk, OctPut, OctPutText, OctRWidth. -/
import Derived.Deep.Slices
import Derived.Test.YtidpbbleneekgaaDoorRows
import Derived.BigQuiet
import Derived.Deep.QuietTactic
import Derived.Deep.RegionWith
import Derived.Test.YtidpbbleneekgaaDoorMg00
import Derived.Test.YtidpbbleneekgaaDoorMg01
section
/- Reading arguments of whatever depth as the walks take them: numbers, bools, texts, slices, structs. -/
set_option linter.all false
set_option linter.unusedSimpArgs false
set_option linter.unusedVariables false
namespace Go.PH
open Go.RowKit Go.ChangeShapes Go.WideShapes Go.ChangeAt Go.Deep

section
variable {H : Type} {enc : TypeId × Value → H} {P : Program} {W : World}

/-- whatever reads at type t is, with all its sizes within the form's reach, some a of which R tells the cells -/
def Reader (enc : TypeId × Value → H) (P : Program) (W : World) (t : TypeId) {α : Type} (R : α → List Value → Prop) : Prop :=
  ∀ (fuel : Nat) (cs : List Value) (d : DataW H) (p : List MemPlace), DataW.trod enc P W 0 (fun _ => true) true fuel t cs = some (d, p) → (∀ x ∈ d.weights P t, x ≤ reachBytes) → ∃ a, R a cs

def RInt (k : IntKind) (n : Int) (cs : List Value) : Prop := cs = [.int k n] ∧ (Lit.int k n).wf = true
def RBool (b : Bool) (cs : List Value) : Prop := cs = [.bool b]
def RStr (l : List UInt8) (cs : List Value) : Prop := cs = [.string (str l)] ∧ l.length ≤ 140737488351232
def RSlice (W : World) (size bytes : Nat) {α : Type} (R : α → List Value → Prop) (L : List α) (cs : List Value) : Prop :=
  ∃ A n c xs, cs = [.slice A n c] ∧ Rd W W.heap.size size A n c xs ∧ L.length = n ∧ c * bytes ≤ 140737488351232 ∧ ∀ i (h : i < L.length), R L[i] ((xs.drop (i * size)).take size)

theorem reader_int {t : TypeId} {k : IntKind} (ht : P.underlying t = some (.int k)) : Reader enc P W t (RInt k) := fun fuel cs d p h _ => by
  obtain ⟨n, h1, _, h2⟩ := DataW.trod_int ht h
  exact ⟨n, h1, h2⟩
theorem reader_bool {t : TypeId} (ht : P.underlying t = some .bool) : Reader enc P W t RBool := fun fuel cs d p h _ => by
  obtain ⟨b, h1, _⟩ := DataW.trod_bool ht h
  exact ⟨b, h1⟩
theorem reader_str {t : TypeId} (ht : P.underlying t = some .string) : Reader enc P W t RStr := fun fuel cs d p h hw => by
  obtain ⟨s, h1, h2, _⟩ := DataW.trod_string ht h
  obtain ⟨rfl, rfl⟩ : d = _ ∧ p = _ := by simpa using h2
  have := hw s.data.toList.length (by simp [DataW.weights])
  exact ⟨s.data.toList, h1, by simpa [reachBytes] using this⟩
theorem weightsAll_mem {e : TypeId} : ∀ {ds : List (DataW H)} {d : DataW H}, d ∈ ds → ∀ x ∈ d.weights P e, x ∈ DataW.weightsAll P e ds
  | d0 :: ds, d, hd, x, hx => by
    simp only [DataW.weightsAll, List.mem_append]
    rcases List.mem_cons.1 hd with rfl | h
    · exact .inl hx
    · exact .inr (weightsAll_mem h x hx)
theorem reader_slice {t e size bytes : Nat} {α : Type} {R : α → List Value → Prop} (ht : P.underlying t = some (.slice e)) (hc : P.cellsOf e = size) (hby : P.bytesOf e = bytes) (hpos : 0 < size) (hr : Reader enc P W e R) : Reader enc P W t (RSlice W size bytes R) := fun fuel cs d p h hw => by
  have hlt := DataW.trod_lt fuel _ _ _ h
  rcases open_slice ht h with ⟨rfl, _⟩ | ⟨a, len, cap, m, n, D, Pl, rfl, hb, hl, hm, hmm, hx, hel⟩
  · exact ⟨[], none, 0, 0, [], rfl, Rd.nil _ _ _ _ (by simp [maxLen]) _, rfl, by omega, fun i h => by simp at h⟩
  simp only [if_true] at hmm
  have hmm' := hmm.symm
  subst hmm'
  obtain ⟨rfl, rfl⟩ : d = _ ∧ p = _ := by simpa using hx
  have hcap : cap * bytes ≤ 140737488351232 := by
    have := hw (((((List.range len).map D).length) + (((List.range (cap - len)).map fun j => D (len + j)).length)) * P.bytesOf e) (by simp [DataW.weights, ht])
    simp only [List.length_map, List.length_range, hby, reachBytes] at this
    rwa [show len + (cap - len) = cap by omega] at this
  have each : ∀ i, i < len → ∃ y : α × List Value, W.cells? 0 (a.add (i * P.cellsOf e)) (P.cellsOf e) = some y.2 ∧ R y.1 y.2 := fun i hi => by
    obtain ⟨cs', h1, h2⟩ := hel i (by omega)
    obtain ⟨y, hy⟩ := hr _ _ _ _ h2 (fun x hx => hw x (by
      simp only [DataW.weights, ht, List.mem_cons, List.mem_append]
      exact .inr (.inl (weightsAll_mem (List.mem_map.2 ⟨i, List.mem_range.2 hi, rfl⟩) x hx))))
    exact ⟨(y, cs'), h1, hy⟩
  obtain ⟨Y, hY⟩ : ∃ Y : Nat → Option (α × List Value), ∀ i, i < len → ∃ y, Y i = some y ∧ W.cells? 0 (a.add (i * P.cellsOf e)) (P.cellsOf e) = some y.2 ∧ R y.1 y.2 :=
    ⟨fun i => if h : i < len then some (each i h).choose else none, fun i hi => ⟨_, dif_pos hi, (each i hi).choose_spec⟩⟩
  by_cases hl0 : len = 0
  · subst hl0
    exact ⟨[], some a, 0, cap, [], rfl, Rd.nil _ _ _ _ hm _, rfl, hcap, fun i h => by simp at h⟩
  obtain ⟨y0, _⟩ := hY 0 (by omega)
  obtain ⟨Y', hY'⟩ : ∃ Y' : Nat → α × List Value, ∀ i, i < len → Y i = some (Y' i) := ⟨fun i => (Y i).getD y0, fun i hi => by
    obtain ⟨y, hy, _⟩ := hY i hi
    show Y i = some ((Y i).getD y0)
    rw [hy]; rfl⟩
  replace hY : ∀ i, i < len → W.cells? 0 (a.add (i * P.cellsOf e)) (P.cellsOf e) = some (Y' i).2 ∧ R (Y' i).1 (Y' i).2 := fun i hi => by
    obtain ⟨y, hy, h1⟩ := hY i hi
    rw [hY' i hi] at hy
    injection hy with hy
    rw [hy]; exact h1
  clear hY' each
  obtain ⟨Y, rfl⟩ : ∃ Y, Y = Y' := ⟨_, rfl⟩
  have hlenY : ∀ i, i < len → (Y i).2.length = size := fun i hi => by rw [← hc]; exact (World.cells?_some (hY i hi).1).2.1
  have hchunk : ∀ (k : Nat), k ≤ len → ((List.range k).flatMap fun i => (Y i).2).length = k * size ∧ ∀ i, i < k → ((((List.range k).flatMap fun i => (Y i).2).drop (i * size)).take size) = (Y i).2 := by
    intro k
    induction k with
    | zero => intro _; simp
    | succ k ih =>
      intro hk
      obtain ⟨h1, h2⟩ := ih (by omega)
      have hlk := hlenY k (by omega)
      rw [List.range_succ, List.flatMap_append]
      simp only [List.flatMap_cons, List.flatMap_nil, List.append_nil]
      refine ⟨by rw [List.length_append, h1, hlk, Nat.succ_mul], fun i hi => ?_⟩
      rcases Nat.lt_or_ge i k with hik | hik
      · have : i * size + size ≤ k * size := by rw [← Nat.succ_mul]; exact Nat.mul_le_mul_right _ hik
        rw [List.drop_append_of_le_length (by rw [h1]; omega), List.take_append_of_le_length (by rw [List.length_drop, h1]; omega)]
        exact h2 i hik
      · obtain rfl : i = k := by omega
        rw [List.drop_append, h1, Nat.sub_self, List.drop_of_length_le (by rw [h1]; exact Nat.le_refl _), List.drop_zero, List.nil_append, List.take_of_length_le (by omega)]
  obtain ⟨hL, hCh⟩ := hchunk len (Nat.le_refl _)
  refine ⟨(List.range len).map fun i => (Y i).1, some a, len, cap, (List.range len).flatMap fun i => (Y i).2, rfl, ⟨hL, hl, hm, fun hn => ?_⟩, by simp, hcap, fun i hi => ?_⟩
  · obtain ⟨_, _, hcell0⟩ := World.cells?_some (hY 0 hn).1
    have h0 := hcell0 0 (by omega)
    have h0' : W.cell? a = (Y 0).2[0]? := by
      rw [← h0]; congr 1
      simp [Addr.add]
    have hs0 : (Y 0).2[0]? = some ((Y 0).2[0]'(by rw [hlenY 0 hn]; exact hpos)) := List.getElem?_eq_getElem _
    rw [hs0] at h0'
    obtain ⟨b, off, spot⟩ := a
    have hspot : spot = none := World.cell?_spot h0'
    subst hspot
    refine ⟨b, off, rfl, World.block_lt_of_cell? W _ h0', fun j u hu => ?_⟩
    have hj : j < len * size := by rw [← hL]; exact (List.getElem?_eq_some_iff.1 hu).1
    have hq : j / size < len := (Nat.div_lt_iff_lt_mul hpos).2 hj
    have hr' : j % size < size := Nat.mod_lt _ hpos
    have hjj : j / size * size + j % size = j := by rw [Nat.mul_comm]; exact Nat.div_add_mod j size
    obtain ⟨_, _, hcq⟩ := World.cells?_some (hY (j / size) hq).1
    have h3 := hcq (j % size) (by rw [hc]; exact hr')
    rw [hc] at h3
    have h4 : (Y (j / size)).2[j % size]? = some u := by
      rw [← hCh _ hq, List.getElem?_take, if_pos hr', List.getElem?_drop, hjj]; exact hu
    rw [h4] at h3
    rw [← h3]
    congr 1
    unfold Addr.add
    split <;> split <;> simp_all <;> omega
  · simp only [List.getElem_map, List.getElem_range]
    have hi' : i < len := by simpa using hi
    rw [hCh i hi']
    exact (hY i hi').2

/-- the fields of a struct -/
theorem trod_field {t fuel : Nat} {cs : List Value} {d : DataW H} {p : List MemPlace} {fs : Array Field} (ht : P.underlying t = some (.struct fs)) (h : DataW.trod enc P W 0 (fun _ => true) true fuel t cs = some (d, p)) (hw : ∀ x ∈ d.weights P t, x ≤ reachBytes) :
    cs.length = P.cellsOf t ∧ ∀ (i : Nat) (f : Field), fs[i]? = some f → ∀ {α : Type} {R : α → List Value → Prop}, Reader enc P W f.type R → ∃ a, R a ((cs.drop f.offset).take (P.cellsOf f.type)) := by
  obtain ⟨xs, n, _, hx, hl, hlen, hf⟩ := DataW.trod_struct ht h
  obtain ⟨rfl, rfl⟩ : d = _ ∧ p = _ := by simpa using hx
  refine ⟨hl, fun i f hi α R hr => ?_⟩
  have hif : i < fs.size := (Array.getElem?_eq_some_iff.1 hi).1
  have h1 := hf i f hi
  rw [List.getElem?_eq_getElem (by omega)] at h1
  refine hr _ _ _ _ h1 fun x hxm => hw x ?_
  simp only [DataW.weights, ht]
  refine DataW.weights_mem_each (j := i) (t := f.type) (d := xs[i].1) ?_ ?_ x hxm
  · rw [List.getElem?_map, Array.getElem?_toList, hi]; rfl
  · rw [List.getElem?_map, List.getElem?_eq_getElem (by omega)]; rfl

/-- an argument, by its reader -/
theorem see_arg {t : TypeId} {v : Value} {d : DataW H} {ps : List MemPlace} {α : Type} {R : α → List Value → Prop} (hr : Reader enc P W t R) (hd : DataW.Trod enc P W 0 (fun _ => true) true t v d ps)
    {ts : List TypeId} {ds : List (DataW H)} {j : Nat} (hz : (DataW.weightsEach P ts ds).all (· ≤ reachBytes) = true) (ht : ts[j]? = some t) (hdj : ds[j]? = some d) : ∃ a, R a v.cells.toList := by
  obtain ⟨fuel, hf⟩ := hd
  refine hr fuel _ d ps hf fun x hx => ?_
  have := List.all_eq_true.1 hz x (DataW.weights_mem_each ht hdj x hx)
  simpa using this
end
end Go.PH
end
section
/- Slices of bytes; bytes turned into a text. -/
set_option linter.all false
set_option linter.unusedSimpArgs false
set_option linter.unusedVariables false
namespace Go.PH
open Go.RowKit Go.Proofs
theorem slB : SlT Tryd.prog 25 5 1 1 (.int .u8 0) := SlT.mk' Tryd.underlying25 (by kernel_rfl) rfl (by omega)
theorem run_strB {w : World} {B n c : Nat} {A : Option Addr} {l : List UInt8} (hr : RdB w B A n c l) : (convert 25 9 (.slice A n c)).run Tryd.prog w = .ok (.string (str l)) w :=
  run_str Tryd.underlying25 Tryd.underlying9 Tryd.underlying5 hr
end Go.PH
end
section
/- The walks of octet and of its reference: widths, numbers, putting. -/
set_option linter.all false
set_option linter.unusedSimpArgs false
set_option linter.unusedVariables false
namespace Go.PH
open Go.RowKit Go.Proofs

theorem wide_any (x : Int) (w : World) : Calls Tryd.prog 39 #[.int .i64 x] w fun e w' => e = .returned (.bool (wideB x)) ∧ w' = w := by
  by_cases h1 : x = 1
  · subst h1
    go_enter Tryd.func39, Tryd.ntmps39
    go_wp2_with (first | (with_reducible refine hold_append ?_) | (with_reducible refine hold_make ?_) | (with_reducible refine hold_copy ?_))
    go_ret
    exact ⟨rfl, rfl⟩
  by_cases h2 : x = 2
  · subst h2
    go_enter Tryd.func39, Tryd.ntmps39
    go_wp2_with (first | (with_reducible refine hold_append ?_) | (with_reducible refine hold_make ?_) | (with_reducible refine hold_copy ?_))
    go_ret
    exact ⟨rfl, rfl⟩
  by_cases h4 : x = 4
  · subst h4
    go_enter Tryd.func39, Tryd.ntmps39
    go_wp2_with (first | (with_reducible refine hold_append ?_) | (with_reducible refine hold_make ?_) | (with_reducible refine hold_copy ?_))
    go_ret
    exact ⟨rfl, rfl⟩
  by_cases h8 : x = 8
  · subst h8
    go_enter Tryd.func39, Tryd.ntmps39
    go_wp2_with (first | (with_reducible refine hold_append ?_) | (with_reducible refine hold_make ?_) | (with_reducible refine hold_copy ?_))
    go_ret
    exact ⟨rfl, rfl⟩
  have e := wideB_no h1 h2 h4 h8
  rw [e]
  go_enter Tryd.func39, Tryd.ntmps39
  go_wp2_with (first | (with_reducible refine hold_append ?_) | (with_reducible refine hold_make ?_) | (with_reducible refine hold_copy ?_))
  go_ret
  exact ⟨rfl, rfl⟩

/-- behind: new memory, filled to the brim -/
theorem behind_any (A : Option Addr) (n c : Nat) (l : List UInt8) (A' : Option Addr) (n' c' : Nat) (l' : List UInt8) (w : World) (hb : RdB w w.heap.size A n c l) (hb' : RdB w w.heap.size A' n' c' l') (hn : n + n' ≤ 281474976710656) :
    Calls Tryd.prog 40 #[.slice A n c, .slice A' n' c'] w fun e w' => ∃ A2, e = .returned (.slice A2 (n + n') (n + n')) ∧ Own w' w.heap.size 5 1 A2 (n + n') (n + n') ((l ++ l').map u8v) ∧ Below w.heap.size w w' := by
  have hl := hb.length
  have hl' := hb'.length
  go_enter Tryd.func40, Tryd.ntmps40
  go_wp2_with (first | (with_reducible refine hold_append ?_) | (with_reducible refine hold_make ?_) | (with_reducible refine hold_copy ?_))
  refine unhold (wp_make slB rfl rfl 0 (n + n') rfl rfl (by omega) (by omega) (by omega) (by omega) (by simp [maxLen]; omega) w.heap.size (Nat.le_refl _) ?_)
  intro w1 ho1 hg1
  have hB1 : Below w.heap.size w w1 := (Below.refl _ _).grown hg1 (Nat.le_refl _) (by simp)
  have hz1 := hB1.size
  simp only [Nat.zero_mul, List.take_zero] at ho1
  go_wp2_with (first | (with_reducible refine hold_append ?_) | (with_reducible refine hold_make ?_) | (with_reducible refine hold_copy ?_))
  refine unhold (wp_app_fit slB rfl rfl rfl rfl ho1 (hb.below hB1) (map_one l) (by omega) hz1 ?_)
  intro w2 ho2 hg2
  have hB2 : Below w.heap.size w w2 := hB1.grown hg2 hz1 (fun g hg => (ho1.blk_lt hg).1)
  have hz2 := hB2.size
  simp only [Nat.zero_add, List.nil_append] at ho2
  go_wp2_with (first | (with_reducible refine hold_append ?_) | (with_reducible refine hold_make ?_) | (with_reducible refine hold_copy ?_))
  refine unhold (wp_app_fit slB rfl rfl rfl rfl ho2 (hb'.below hB2) (map_one l') (by omega) hz2 ?_)
  intro w3 ho3 hg3
  have hB3 : Below w.heap.size w w3 := hB2.grown hg3 hz2 (fun g hg => (ho2.blk_lt hg).1)
  rw [← List.map_append] at ho3
  go_wp2_with (first | (with_reducible refine hold_append ?_) | (with_reducible refine hold_make ?_) | (with_reducible refine hold_copy ?_))
  go_ret
  exact ⟨_, by first | rfl | simp, by simpa using ho3, hB3⟩
theorem shr8 (n k : Nat) : (n : Int) / 2 ^ (8 * k) % 256 = (((UInt8.ofNat (n / 256 ^ k)).toNat : Nat) : Int) := by
  rw [UInt8.toNat_ofNat', show (256 : Nat) ^ k = 2 ^ (8 * k) by rw [Nat.pow_mul]]
  rw [Int.natCast_emod, Int.natCast_ediv, Int.natCast_pow]; rfl

set_option maxHeartbeats 1000000 in
theorem number_any (n i : Nat) (w : World) (_hn : n < 18446744073709551616) (hi : 1 ≤ i) (hi8 : i ≤ 8) :
    Calls Tryd.prog 41 #[.int .u64 n, .int .i64 i] w fun e w' => ∃ A2, e = .returned (.slice A2 i i) ∧ Own w' w.heap.size 5 1 A2 i i ((be i n).map u8v) ∧ Below w.heap.size w w' := by
  go_enter Tryd.func41, Tryd.ntmps41
  go_wp2_with (first | (with_reducible refine hold_append ?_) | (with_reducible refine hold_make ?_) | (with_reducible refine hold_copy ?_))
  refine unhold (wp_make slB rfl rfl i i rfl rfl (by omega) (by omega) (Nat.le_refl _) (by omega) (by simp [maxLen]; omega) w.heap.size (Nat.le_refl _) ?_)
  intro w1 ho1 hg1
  have hB1 : Below w.heap.size w w1 := (Below.refl _ _).grown hg1 (Nat.le_refl _) (by simp)
  have hz1 := hB1.size
  have hx0 : (madeCells (Value.int .u8 0).cells (i * 1)).toList.take (i * 1) = (List.replicate (i - 0) 0 ++ be 0 n).map u8v := by
    simp [Value.cells, toList_madeCells_one, u8v, be]
  rw [hx0] at ho1
  go_wp2_with (first | (with_reducible refine hold_append ?_) | (with_reducible refine hold_make ?_) | (with_reducible refine hold_copy ?_))
  go_loopw [11] (fun x wr => ∃ k : Nat, k ≤ i ∧ x = .int .i64 k ∧ Own wr w.heap.size 5 1 (some ⟨w.heap.size, 0, none⟩) i i ((List.replicate (i - k) 0 ++ be k n).map u8v) ∧ Below w.heap.size w wr) (fun x _ => i - (RowKit.intOf x).toNat)
  case atStart => exact ⟨0, by omega, rfl, ho1, hB1⟩
  case round =>
    obtain ⟨k, hk, rfl, ho, hB⟩ := hrel
    by_cases hlt : k < i
    · obtain ⟨g, hge, hbg, hgl, hkl, hcell, hfz, hst⟩ := OwnB.at_k ho (k := i - 1 - k) (by omega)
      obtain rfl : w.heap.size = g := by injection hge with h; injection h
      have h1 := hst (UInt8.ofNat (n / 256 ^ k))
      rw [be_set i n k hlt] at h1
      have e8 := shr8 n k
      unfold u8v at h1
      rw [← e8] at h1
      clear hst e8
      go_wp2_with (first | (with_reducible refine hold_append ?_) | (with_reducible refine hold_make ?_) | (with_reducible refine hold_copy ?_))
      exact ⟨⟨k + 1, by omega, by go_num, h1, hB.setCell (by omega) _⟩, by simp [RowKit.intOf]; omega⟩
    · obtain rfl : k = i := by omega
      rw [Nat.sub_self, List.replicate_zero, List.nil_append] at ho
      go_wp2_with (first | (with_reducible refine hold_append ?_) | (with_reducible refine hold_make ?_) | (with_reducible refine hold_copy ?_))
      go_ret
      exact ⟨_, rfl, ho, hB⟩
end Go.PH
end
section
/- The walk of octet's Put. -/
set_option linter.all false
set_option linter.unusedSimpArgs false
set_option linter.unusedVariables false
namespace Go.PH
open Go.RowKit Go.Proofs

set_option maxHeartbeats 1000000 in
theorem put_any (A : Option Addr) (n c : Nat) (l : List UInt8) (v : Nat) (x : Int) (w : World) (hb : RdB w w.heap.size A n c l) (hv : v < 18446744073709551616) (hn : n ≤ 281474976710600) :
    Calls Tryd.prog 21 #[.slice A n c, .int .u64 v, .int .i64 x] w fun e w' => ∃ A2 c2, e = .returned (.slice A2 (puts l v x).length c2) ∧ Own w' w.heap.size 5 1 A2 (puts l v x).length c2 ((puts l v x).map u8v) ∧ Below w.heap.size w w' := by
  have hl := hb.length
  by_cases hw : wideB x = true
  · have h8 := wideB_le hw
    obtain ⟨i, rfl⟩ : ∃ i : Nat, x = i := ⟨x.toNat, by omega⟩
    rw [puts_yes hw]
    simp only [List.length_append, be_length, Int.toNat_natCast, hl]
    go_enter Tryd.func21, Tryd.ntmps21
    go_wp2_with (first | (with_reducible refine hold_append ?_) | (with_reducible refine hold_make ?_) | (with_reducible refine hold_copy ?_))
    refine (wide_any i w).mono ?_
    rw [hw]
    rintro e w' ⟨rfl, rfl⟩
    go_wp2_with (first | (with_reducible refine hold_append ?_) | (with_reducible refine hold_make ?_) | (with_reducible refine hold_copy ?_))
    refine (number_any v i w' hv (by omega) (by omega)).mono ?_
    rintro e w1 ⟨A1, rfl, ho1, hB1⟩
    go_wp2_with (first | (with_reducible refine hold_append ?_) | (with_reducible refine hold_make ?_) | (with_reducible refine hold_copy ?_))
    refine (behind_any A n c l A1 i i (be i v) w1 ((hb.below hB1).more hB1.size) ho1.rd (by omega)).mono ?_
    rintro e w2 ⟨A2, rfl, ho2, hB2⟩
    go_wp2_with (first | (with_reducible refine hold_append ?_) | (with_reducible refine hold_make ?_) | (with_reducible refine hold_copy ?_))
    go_ret
    exact ⟨A2, n + i, rfl, ho2.base_le hB1.size, hB1.trans (hB2.mono hB1.size)⟩
  · have hw' : wideB x = false := by simpa using hw
    rw [puts_no hw']
    rw [hl]
    go_enter Tryd.func21, Tryd.ntmps21
    go_wp2_with (first | (with_reducible refine hold_append ?_) | (with_reducible refine hold_make ?_) | (with_reducible refine hold_copy ?_))
    refine (wide_any x w).mono ?_
    rw [hw']
    rintro e w' ⟨rfl, rfl⟩
    go_wp2_with (first | (with_reducible refine hold_append ?_) | (with_reducible refine hold_make ?_) | (with_reducible refine hold_copy ?_))
    refine (behind_any A n c l none 0 0 [] w' hb (Rd.nil _ _ _ _ (by simp [maxLen]) _) (by omega)).mono ?_
    rintro e w2 ⟨A2, rfl, ho2, hB2⟩
    simp only [Nat.add_zero, List.append_nil] at ho2 ⊢
    go_wp2_with (first | (with_reducible refine hold_append ?_) | (with_reducible refine hold_make ?_) | (with_reducible refine hold_copy ?_))
    go_ret
    exact ⟨A2, n, rfl, ho2, hB2⟩

end Go.PH
end
section
/- The walk of octet's PutText. -/
set_option linter.all false
set_option linter.unusedSimpArgs false
set_option linter.unusedVariables false
namespace Go.PH
open Go.RowKit Go.Proofs

theorem textErr_wide {n : Nat} {x : Int} (h : x = 8 ∨ wideB x = false) : textErr n x = 2 := by
  unfold textErr
  rw [if_neg]
  intro h'
  rcases h with rfl | h
  · omega
  · have := wideB_yes (w := x) (by omega)
    rw [h] at this; cases this
theorem putsText_err {l s : List UInt8} {x : Int} (h : textErr s.length x ≠ 0) : putsText l s x = [] := by unfold putsText; rw [if_neg h]
theorem putsText_ok {l s : List UInt8} {x : Int} (h : textErr s.length x = 0) : putsText l s x = l ++ be x.toNat s.length ++ s := by unfold putsText; rw [if_pos h]

set_option maxHeartbeats 1000000 in
theorem puttext_any (A : Option Addr) (n c : Nat) (l s : List UInt8) (x : Int) (w : World) (hb : RdB w w.heap.size A n c l) (hs : s.length ≤ 140737488351232) (hn : n ≤ 140737488351240) :
    Calls Tryd.prog 35 #[.slice A n c, .string (str s), .int .i64 x] w fun e w' => ∃ A2 c2, e = .returned (.tuple #[.slice A2 (putsText l s x).length c2, .int .i64 (textErr s.length x)]) ∧ Own w' w.heap.size 5 1 A2 (putsText l s x).length c2 ((putsText l s x).map u8v) ∧ Below w.heap.size w w' := by
  have hl := hb.length
  have hss := str_size s
  by_cases h8 : x = 8
  · rw [textErr_wide (.inl h8), putsText_err (by rw [textErr_wide (.inl h8)]; omega)]
    subst h8
    go_enter Tryd.func35, Tryd.ntmps35
    go_wp2_with (first | (with_reducible refine hold_append ?_) | (with_reducible refine hold_make ?_) | (with_reducible refine hold_copy ?_))
    go_ret2
    exact ⟨none, 0, rfl, Own.none_ _ _ _ _, Below.refl _ _⟩
  by_cases hw : wideB x = true
  · rcases (show x = 1 ∨ x = 2 ∨ x = 4 by rw [wideB_iff] at hw; omega) with rfl | rfl | rfl
    · by_cases hlen : s.length < 256
      · have he : textErr s.length 1 = 0 := by unfold textErr; simp; omega
        rw [he, putsText_ok he]
        have hz : (s.length : Int) / 256 = 0 := by omega
        simp only [List.length_append, be_length, show (1 : Int).toNat = 1 from rfl, hl]
        go_enter Tryd.func35, Tryd.ntmps35
        go_wp2_with (first | (with_reducible refine hold_append ?_) | (with_reducible refine hold_make ?_) | (with_reducible refine hold_copy ?_))
        refine (wide_any _ w).mono ?_
        rw [hw]
        rintro e w' ⟨rfl, rfl⟩
        go_wp2_with (first | (with_reducible refine hold_append ?_) | (with_reducible refine hold_make ?_) | (with_reducible refine hold_copy ?_))
        refine (number_any s.length 1 w' (by omega) (by omega) (by omega)).mono ?_
        rintro e w1 ⟨A1, rfl, ho1, hB1⟩
        go_wp2_with (first | (with_reducible refine hold_append ?_) | (with_reducible refine hold_make ?_) | (with_reducible refine hold_copy ?_))
        refine unhold (wp_app_str slB Tryd.underlying9 rfl rfl rfl rfl ho1 (by omega) hB1.size ?_)
        intro A2 c2 w2 ho2 hg2
        have hB2 : Below w'.heap.size w' w2 := hB1.grown hg2 hB1.size (fun g hg => (ho1.blk_lt hg).1)
        rw [← List.map_append] at ho2
        go_wp2_with (first | (with_reducible refine hold_append ?_) | (with_reducible refine hold_make ?_) | (with_reducible refine hold_copy ?_))
        refine (behind_any A n c l A2 (1 + s.length) c2 (be 1 s.length ++ s) w2 ((hb.below hB2).more hB2.size) ho2.rd (by omega)).mono ?_
        rintro e w3 ⟨A3, rfl, ho3, hB3⟩
        rw [← List.append_assoc] at ho3
        go_wp2_with (first | (with_reducible refine hold_append ?_) | (with_reducible refine hold_make ?_) | (with_reducible refine hold_copy ?_))
        go_ret2
        rw [Nat.add_assoc]
        exact ⟨A3, _, rfl, ho3.base_le hB2.size, hB2.trans (hB3.mono hB2.size)⟩
      · have he : textErr s.length 1 = 3 := by unfold textErr; simp; omega
        rw [he, putsText_err (by rw [he]; omega)]
        have hz : ((s.length : Int) / 256 != 0) = true := by simp; omega
        go_enter Tryd.func35, Tryd.ntmps35
        go_wp2_with (first | (with_reducible refine hold_append ?_) | (with_reducible refine hold_make ?_) | (with_reducible refine hold_copy ?_))
        refine (wide_any _ w).mono ?_
        rw [hw]
        rintro e w' ⟨rfl, rfl⟩
        go_wp2_with (first | (with_reducible refine hold_append ?_) | (with_reducible refine hold_make ?_) | (with_reducible refine hold_copy ?_))
        go_ret2
        exact ⟨none, 0, rfl, Own.none_ _ _ _ _, Below.refl _ _⟩
    · by_cases hlen : s.length < 65536
      · have he : textErr s.length 2 = 0 := by unfold textErr; simp; omega
        rw [he, putsText_ok he]
        have hz : (s.length : Int) / 65536 = 0 := by omega
        simp only [List.length_append, be_length, show (2 : Int).toNat = 2 from rfl, hl]
        go_enter Tryd.func35, Tryd.ntmps35
        go_wp2_with (first | (with_reducible refine hold_append ?_) | (with_reducible refine hold_make ?_) | (with_reducible refine hold_copy ?_))
        refine (wide_any _ w).mono ?_
        rw [hw]
        rintro e w' ⟨rfl, rfl⟩
        go_wp2_with (first | (with_reducible refine hold_append ?_) | (with_reducible refine hold_make ?_) | (with_reducible refine hold_copy ?_))
        refine (number_any s.length 2 w' (by omega) (by omega) (by omega)).mono ?_
        rintro e w1 ⟨A1, rfl, ho1, hB1⟩
        go_wp2_with (first | (with_reducible refine hold_append ?_) | (with_reducible refine hold_make ?_) | (with_reducible refine hold_copy ?_))
        refine unhold (wp_app_str slB Tryd.underlying9 rfl rfl rfl rfl ho1 (by omega) hB1.size ?_)
        intro A2 c2 w2 ho2 hg2
        have hB2 : Below w'.heap.size w' w2 := hB1.grown hg2 hB1.size (fun g hg => (ho1.blk_lt hg).1)
        rw [← List.map_append] at ho2
        go_wp2_with (first | (with_reducible refine hold_append ?_) | (with_reducible refine hold_make ?_) | (with_reducible refine hold_copy ?_))
        refine (behind_any A n c l A2 (2 + s.length) c2 (be 2 s.length ++ s) w2 ((hb.below hB2).more hB2.size) ho2.rd (by omega)).mono ?_
        rintro e w3 ⟨A3, rfl, ho3, hB3⟩
        rw [← List.append_assoc] at ho3
        go_wp2_with (first | (with_reducible refine hold_append ?_) | (with_reducible refine hold_make ?_) | (with_reducible refine hold_copy ?_))
        go_ret2
        rw [Nat.add_assoc]
        exact ⟨A3, _, rfl, ho3.base_le hB2.size, hB2.trans (hB3.mono hB2.size)⟩
      · have he : textErr s.length 2 = 3 := by unfold textErr; simp; omega
        rw [he, putsText_err (by rw [he]; omega)]
        have hz : ((s.length : Int) / 65536 != 0) = true := by simp; omega
        go_enter Tryd.func35, Tryd.ntmps35
        go_wp2_with (first | (with_reducible refine hold_append ?_) | (with_reducible refine hold_make ?_) | (with_reducible refine hold_copy ?_))
        refine (wide_any _ w).mono ?_
        rw [hw]
        rintro e w' ⟨rfl, rfl⟩
        go_wp2_with (first | (with_reducible refine hold_append ?_) | (with_reducible refine hold_make ?_) | (with_reducible refine hold_copy ?_))
        go_ret2
        exact ⟨none, 0, rfl, Own.none_ _ _ _ _, Below.refl _ _⟩
    · by_cases hlen : s.length < 4294967296
      · have he : textErr s.length 4 = 0 := by unfold textErr; simp; omega
        rw [he, putsText_ok he]
        have hz : (s.length : Int) / 4294967296 = 0 := by omega
        simp only [List.length_append, be_length, show (4 : Int).toNat = 4 from rfl, hl]
        go_enter Tryd.func35, Tryd.ntmps35
        go_wp2_with (first | (with_reducible refine hold_append ?_) | (with_reducible refine hold_make ?_) | (with_reducible refine hold_copy ?_))
        refine (wide_any _ w).mono ?_
        rw [hw]
        rintro e w' ⟨rfl, rfl⟩
        go_wp2_with (first | (with_reducible refine hold_append ?_) | (with_reducible refine hold_make ?_) | (with_reducible refine hold_copy ?_))
        refine (number_any s.length 4 w' (by omega) (by omega) (by omega)).mono ?_
        rintro e w1 ⟨A1, rfl, ho1, hB1⟩
        go_wp2_with (first | (with_reducible refine hold_append ?_) | (with_reducible refine hold_make ?_) | (with_reducible refine hold_copy ?_))
        refine unhold (wp_app_str slB Tryd.underlying9 rfl rfl rfl rfl ho1 (by omega) hB1.size ?_)
        intro A2 c2 w2 ho2 hg2
        have hB2 : Below w'.heap.size w' w2 := hB1.grown hg2 hB1.size (fun g hg => (ho1.blk_lt hg).1)
        rw [← List.map_append] at ho2
        go_wp2_with (first | (with_reducible refine hold_append ?_) | (with_reducible refine hold_make ?_) | (with_reducible refine hold_copy ?_))
        refine (behind_any A n c l A2 (4 + s.length) c2 (be 4 s.length ++ s) w2 ((hb.below hB2).more hB2.size) ho2.rd (by omega)).mono ?_
        rintro e w3 ⟨A3, rfl, ho3, hB3⟩
        rw [← List.append_assoc] at ho3
        go_wp2_with (first | (with_reducible refine hold_append ?_) | (with_reducible refine hold_make ?_) | (with_reducible refine hold_copy ?_))
        go_ret2
        rw [Nat.add_assoc]
        exact ⟨A3, _, rfl, ho3.base_le hB2.size, hB2.trans (hB3.mono hB2.size)⟩
      · have he : textErr s.length 4 = 3 := by unfold textErr; simp; omega
        rw [he, putsText_err (by rw [he]; omega)]
        have hz : ((s.length : Int) / 4294967296 != 0) = true := by simp; omega
        go_enter Tryd.func35, Tryd.ntmps35
        go_wp2_with (first | (with_reducible refine hold_append ?_) | (with_reducible refine hold_make ?_) | (with_reducible refine hold_copy ?_))
        refine (wide_any _ w).mono ?_
        rw [hw]
        rintro e w' ⟨rfl, rfl⟩
        go_wp2_with (first | (with_reducible refine hold_append ?_) | (with_reducible refine hold_make ?_) | (with_reducible refine hold_copy ?_))
        go_ret2
        exact ⟨none, 0, rfl, Own.none_ _ _ _ _, Below.refl _ _⟩
  · have hw' : wideB x = false := by simpa using hw
    rw [textErr_wide (.inr hw'), putsText_err (by rw [textErr_wide (.inr hw')]; omega)]
    go_enter Tryd.func35, Tryd.ntmps35
    go_wp2_with (first | (with_reducible refine hold_append ?_) | (with_reducible refine hold_make ?_) | (with_reducible refine hold_copy ?_))
    refine (wide_any x w).mono ?_
    rw [hw']
    rintro e w' ⟨rfl, rfl⟩
    go_wp2_with (first | (with_reducible refine hold_append ?_) | (with_reducible refine hold_make ?_) | (with_reducible refine hold_copy ?_))
    go_ret2
    exact ⟨none, 0, rfl, Own.none_ _ _ _ _, Below.refl _ _⟩
end Go.PH
end
section
/- The walk of the reference's Width. -/
set_option linter.all false
set_option linter.unusedSimpArgs false
set_option linter.unusedVariables false
namespace Go.PH
open Go.RowKit Go.Proofs

end Go.PH
end

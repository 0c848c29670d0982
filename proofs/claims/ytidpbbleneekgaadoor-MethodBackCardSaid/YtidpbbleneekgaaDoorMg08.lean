/- Texts laid together: VlSee, VlSmall, VlFine, VlCopy, VlReadMem. -/
import Derived.Test.YtidpbbleneekgaaDoorProg
import Derived.Test.YtidpbbleneekgaaDoorMg01
import Derived.Test.YtidpbbleneekgaaDoorMg02
import Derived.Test.YtidpbbleneekgaaDoorMg03
import Derived.Test.YtidpbbleneekgaaDoorMg06
import Derived.Test.YtidpbbleneekgaaDoorMg07
section
/- Reading arguments that hold values, however deep. -/
set_option linter.all false
set_option linter.unusedSimpArgs false
set_option linter.unusedVariables false
namespace Go.PH
open Go.RowKit Go.Proofs Go.ChangeShapes Go.WideShapes Go.ChangeAt Go.Deep

section
variable {H : Type} {enc : TypeId × Value → H} {P : Program} {W : World}
/-- a reader at fuel below N -/
def ReaderN (N : Nat) (enc : TypeId × Value → H) (P : Program) (W : World) (t : TypeId) {α : Type} (R : α → List Value → Prop) : Prop :=
  ∀ (fuel : Nat), fuel < N → ∀ (cs : List Value) (d : DataW H) (p : List MemPlace), DataW.trod enc P W 0 (fun _ => true) true fuel t cs = some (d, p) → (∀ x ∈ d.weights P t, x ≤ reachBytes) → ∃ a, R a cs
theorem Reader.at {N : Nat} {t : TypeId} {α : Type} {R : α → List Value → Prop} (h : Reader enc P W t R) : ReaderN N enc P W t R := fun fuel _ => h fuel
theorem ReaderN.all {t : TypeId} {α : Type} {R : α → List Value → Prop} (h : ∀ N, ReaderN N enc P W t R) : Reader enc P W t R := fun fuel => h (fuel + 1) fuel (Nat.lt_succ_self _)
/-- R alone decides what reads; the fuel does not -/
theorem readerN_slice {N : Nat} {t e size bytes : Nat} {α : Type} {R : α → List Value → Prop} (ht : P.underlying t = some (.slice e)) (hc : P.cellsOf e = size) (hby : P.bytesOf e = bytes) (hpos : 0 < size) (hr : ReaderN N enc P W e R) : ReaderN (N + 1) enc P W t (RSlice W size bytes R) := fun fuel hfu cs d p h hw => by
  have hlt := DataW.trod_lt fuel _ _ _ h
  rcases DataW.trod_slice ht h with ⟨rfl, _⟩ | ⟨a, len, cap, elems, rest, n, hfn, rfl, hx, hb, hl, hm, hlen, hel, hsp, _⟩
  · exact ⟨[], none, 0, 0, [], rfl, Rd.nil _ _ _ _ (by simp [maxLen]) _, rfl, by omega, fun i h => by simp at h⟩
  have hrl : rest.length = cap - len := (hsp rfl).1
  obtain ⟨rfl, rfl⟩ : d = _ ∧ p = _ := by simpa using hx
  have hcap : cap * bytes ≤ 140737488351232 := by
    have := hw ((elems.length + rest.length) * P.bytesOf e) (by simp [DataW.weights, ht])
    simp only [hlen, hrl, hby, reachBytes] at this
    rwa [show len + (cap - len) = cap by omega] at this
  have each : ∀ i, i < len → ∃ y : α × List Value, W.cells? 0 (a.add (i * P.cellsOf e)) (P.cellsOf e) = some y.2 ∧ R y.1 y.2 := fun i hi => by
    have h0 := hel i hi
    rw [List.getElem?_eq_getElem (by omega), Option.bind_eq_some_iff] at h0
    obtain ⟨cs', h1, h2⟩ := h0
    obtain ⟨y, hy⟩ := hr n (by omega) _ _ _ h2 (fun x hx => hw x (by
      simp only [DataW.weights, ht, List.mem_cons, List.mem_append]
      exact .inr (.inl (weightsAll_mem (List.mem_map.2 ⟨_, List.getElem_mem (by omega : i < elems.length), rfl⟩) x hx))))
    exact ⟨(y, cs'), h1, hy⟩
  obtain ⟨Y, hY⟩ : ∃ Y : Nat → Option (α × List Value), ∀ i, i < len → ∃ y, Y i = some y ∧ W.cells? 0 (a.add (i * P.cellsOf e)) (P.cellsOf e) = some y.2 ∧ R y.1 y.2 :=
    ⟨fun i => if h : i < len then some (each i h).choose else none, fun i hi => ⟨_, dif_pos hi, (each i hi).choose_spec⟩⟩
  by_cases hl0 : len = 0
  · subst hl0
    exact ⟨[], some a, 0, cap, [], rfl, Rd.nil _ _ _ _ hm _, rfl, hcap, fun i h => by simp at h⟩
  obtain ⟨y0, _⟩ := hY 0 (by omega)
  obtain ⟨Y', hY'⟩ : ∃ Y' : Nat → α × List Value, ∀ i, i < len → Y i = some (Y' i) := ⟨fun i => (Y i).getD y0, fun i hi => by
    obtain ⟨y, hy, _⟩ := hY i hi
    show Y i = some ((Y i).getD y0)
    rw [hy]; rfl⟩
  replace hY : ∀ i, i < len → W.cells? 0 (a.add (i * P.cellsOf e)) (P.cellsOf e) = some (Y' i).2 ∧ R (Y' i).1 (Y' i).2 := fun i hi => by
    obtain ⟨y, hy, h1⟩ := hY i hi
    rw [hY' i hi] at hy
    injection hy with hy
    rw [hy]; exact h1
  clear hY' each
  obtain ⟨Y, rfl⟩ : ∃ Y, Y = Y' := ⟨_, rfl⟩
  have hlenY : ∀ i, i < len → (Y i).2.length = size := fun i hi => by rw [← hc]; exact (World.cells?_some (hY i hi).1).2.1
  have hchunk : ∀ (k : Nat), k ≤ len → ((List.range k).flatMap fun i => (Y i).2).length = k * size ∧ ∀ i, i < k → ((((List.range k).flatMap fun i => (Y i).2).drop (i * size)).take size) = (Y i).2 := by
    intro k
    induction k with
    | zero => intro _; simp
    | succ k ih =>
      intro hk
      obtain ⟨h1, h2⟩ := ih (by omega)
      have hlk := hlenY k (by omega)
      rw [List.range_succ, List.flatMap_append]
      simp only [List.flatMap_cons, List.flatMap_nil, List.append_nil]
      refine ⟨by rw [List.length_append, h1, hlk, Nat.succ_mul], fun i hi => ?_⟩
      rcases Nat.lt_or_ge i k with hik | hik
      · have : i * size + size ≤ k * size := by rw [← Nat.succ_mul]; exact Nat.mul_le_mul_right _ hik
        rw [List.drop_append_of_le_length (by rw [h1]; omega), List.take_append_of_le_length (by rw [List.length_drop, h1]; omega)]
        exact h2 i hik
      · obtain rfl : i = k := by omega
        rw [List.drop_append, h1, Nat.sub_self, List.drop_of_length_le (by rw [h1]; exact Nat.le_refl _), List.drop_zero, List.nil_append, List.take_of_length_le (by omega)]
  obtain ⟨hL, hCh⟩ := hchunk len (Nat.le_refl _)
  refine ⟨(List.range len).map fun i => (Y i).1, some a, len, cap, (List.range len).flatMap fun i => (Y i).2, rfl, ⟨hL, hl, hm, fun hn => ?_⟩, by simp, hcap, fun i hi => ?_⟩
  · obtain ⟨_, _, hcell0⟩ := World.cells?_some (hY 0 hn).1
    have h0 := hcell0 0 (by omega)
    have h0' : W.cell? a = (Y 0).2[0]? := by
      rw [← h0]; congr 1
      simp [Addr.add]
    have hs0 : (Y 0).2[0]? = some ((Y 0).2[0]'(by rw [hlenY 0 hn]; exact hpos)) := List.getElem?_eq_getElem _
    rw [hs0] at h0'
    obtain ⟨b, off, spot⟩ := a
    have hspot : spot = none := World.cell?_spot h0'
    subst hspot
    refine ⟨b, off, rfl, World.block_lt_of_cell? W _ h0', fun j u hu => ?_⟩
    have hj : j < len * size := by rw [← hL]; exact (List.getElem?_eq_some_iff.1 hu).1
    have hq : j / size < len := (Nat.div_lt_iff_lt_mul hpos).2 hj
    have hr' : j % size < size := Nat.mod_lt _ hpos
    have hjj : j / size * size + j % size = j := by rw [Nat.mul_comm]; exact Nat.div_add_mod j size
    obtain ⟨_, _, hcq⟩ := World.cells?_some (hY (j / size) hq).1
    have h3 := hcq (j % size) (by rw [hc]; exact hr')
    rw [hc] at h3
    have h4 : (Y (j / size)).2[j % size]? = some u := by
      rw [← hCh _ hq, List.getElem?_take, if_pos hr', List.getElem?_drop, hjj]; exact hu
    rw [h4] at h3
    rw [← h3]
    congr 1
    unfold Addr.add
    split <;> split <;> simp_all <;> omega
  · simp only [List.getElem_map, List.getElem_range]
    have hi' : i < len := by simpa using hi
    rw [hCh i hi']
    exact (hY i hi').2


/-- the fields of a struct -/
theorem trodN_field {t fuel : Nat} {cs : List Value} {d : DataW H} {p : List MemPlace} {fs : Array Field} (ht : P.underlying t = some (.struct fs)) (h : DataW.trod enc P W 0 (fun _ => true) true fuel t cs = some (d, p)) (hw : ∀ x ∈ d.weights P t, x ≤ reachBytes) :
    cs.length = P.cellsOf t ∧ ∀ (i : Nat) (f : Field), fs[i]? = some f → ∀ {α : Type} {R : α → List Value → Prop}, ReaderN fuel enc P W f.type R → ∃ a, R a ((cs.drop f.offset).take (P.cellsOf f.type)) := by
  obtain ⟨xs, n, hfn, hx, hl, hlen, hf⟩ := DataW.trod_struct ht h
  obtain ⟨rfl, rfl⟩ : d = _ ∧ p = _ := by simpa using hx
  refine ⟨hl, fun i f hi α R hr => ?_⟩
  have hif : i < fs.size := (Array.getElem?_eq_some_iff.1 hi).1
  have h1 := hf i f hi
  rw [List.getElem?_eq_getElem (by omega)] at h1
  refine hr n (by omega) _ _ _ h1 fun x hxm => hw x ?_
  simp only [DataW.weights, ht]
  refine DataW.weights_mem_each (j := i) (t := f.type) (d := xs[i].1) ?_ ?_ x hxm
  · rw [List.getElem?_map, Array.getElem?_toList, hi]; rfl
  · rw [List.getElem?_map, List.getElem?_eq_getElem (by omega)]; rfl


/-- rows of pairs -/
theorem rows_pairs {α β : Type} {f : α × β → List Value} {sz : Nat} {Q : α → β → Prop} : ∀ (L : List α) (xs : List Value), xs.length = L.length * sz → (∀ i (h : i < L.length), ∃ b, (xs.drop (i * sz)).take sz = f (L[i], b) ∧ Q L[i] b) → ∃ ys : List (α × β), ys.map (·.1) = L ∧ xs = rowC f ys ∧ ∀ p ∈ ys, Q p.1 p.2
  | [], xs, hx, _ => ⟨[], rfl, List.eq_nil_of_length_eq_zero (by simpa using hx), fun p hp => by cases hp⟩
  | a :: L, xs, hx, h => by
    obtain ⟨b, h1, h2⟩ := h 0 (by simp)
    rw [Nat.zero_mul, List.drop_zero] at h1
    have hl : (xs.drop sz).length = L.length * sz := by rw [List.length_drop, hx, List.length_cons, Nat.succ_mul]; omega
    obtain ⟨ys, e1, e2, e3⟩ := rows_pairs L (xs.drop sz) hl (fun i hi => by
      obtain ⟨c, h3, h4⟩ := h (i + 1) (by simp; omega)
      refine ⟨c, ?_, h4⟩
      rw [Nat.succ_mul, Nat.add_comm] at h3
      rw [List.drop_drop]
      exact h3)
    refine ⟨(a, b) :: ys, by rw [List.map_cons, e1], ?_, fun p hp => ?_⟩
    · rw [rowC_cons, ← e2]
      have h1' : xs.take sz = f (a, b) := h1
      rw [← h1']
      exact (List.take_append_drop sz xs).symm
    · rcases List.mem_cons.1 hp with rfl | hp
      · exact h2
      · exact e3 p hp
theorem txs_row {xs : List Value} : ∀ {L : List (List UInt8)}, xs.length = L.length * 1 → (∀ i (h : i < L.length), RStr L[i] ((xs.drop (i * 1)).take 1)) → xs = L.map txV ∧ ∀ k ∈ L, k.length ≤ 140737488351232 := by
  intro L
  induction L generalizing xs with
  | nil => intro hx _; exact ⟨List.eq_nil_of_length_eq_zero (by simpa using hx), fun k hk => by cases hk⟩
  | cons a L ih =>
    intro hx h
    match xs, hx with
    | x :: xs, hx =>
      have h0 := h 0 (by simp)
      obtain ⟨h01, h02⟩ := h0
      simp at h01 h02
      obtain ⟨e1, e2⟩ := ih (xs := xs) (by simpa using hx) (fun i hi => by
        have := h (i + 1) (by simp; omega)
        rw [show (i + 1) * 1 = i * 1 + 1 by omega, List.drop_succ_cons] at this
        exact this)
      refine ⟨by rw [List.map_cons, ← e1, h01]; rfl, fun k hk => ?_⟩
      rcases List.mem_cons.1 hk with rfl | hk
      · exact h02
      · exact e2 k hk
end
variable {H : Type} {enc : TypeId × Value → H} {W : World}
def RVal (W : World) (v : Vl) (cs : List Value) : Prop := ∃ h, cs = vlC (v, h) ∧ RV W (fun g => g < W.heap.size) v h
theorem cells5v {cs : List Value} {a b c d e : Value} (hl : cs.length = 5) (h0 : (cs.drop 0).take 1 = [a]) (h1 : (cs.drop 1).take 1 = [b]) (h2 : (cs.drop 2).take 1 = [c]) (h3 : (cs.drop 3).take 1 = [d]) (h4 : (cs.drop 4).take 1 = [e]) : cs = [a, b, c, d, e] := by
  match cs, hl with
  | [x, y, z, u, v], _ => simp_all
theorem rdx_of {w : World} {size n c : Nat} {A : Option Addr} {xs : List Value} (h : Rd w w.heap.size size A n c xs) : RdX w (fun g => g < w.heap.size) size A n c xs := ⟨h, fun hn g hg => by
  obtain ⟨b, off, e, hb, _⟩ := h.at_ hn
  subst e
  injection hg with hg
  rw [← hg]; exact hb⟩
theorem bounds_u64 {x : Int} (h : (Lit.int .u64 x).wf = true) : 0 ≤ x ∧ x < 18446744073709551616 := by
  have e1 : IntKind.u64.min = 0 := by decide
  have e2 : IntKind.u64.max = 18446744073709551615 := by decide
  simp only [Lit.wf, e1, e2, Bool.and_eq_true, decide_eq_true_eq] at h
  omega
set_option maxRecDepth 20000 in
theorem readerN_val : ∀ N, ReaderN N enc Tryd.prog W 55 (RVal W) := by
  intro N
  induction N with
  | zero => intro fuel hf; omega
  | succ N ih =>
    intro fuel hfu cs d p h hw
    obtain ⟨hl, hf⟩ := trodN_field Tryd.underlying55 h hw
    obtain ⟨n0, h0, w0⟩ := hf 0 _ rfl (reader_int (k := .u8) Tryd.underlying51).at
    obtain ⟨n1, h1, w1⟩ := hf 1 _ rfl (reader_int (k := .u64) Tryd.underlying46).at
    obtain ⟨l2, h2, w2⟩ := hf 2 _ rfl (reader_str Tryd.underlying9).at
    obtain ⟨L3, A3, n3, c3, xs3, h3, r3, e3, b3, f3⟩ := hf 3 _ rfl (reader_slice Tryd.underlying52 (by kernel_rfl : Tryd.prog.cellsOf 9 = 1) (by kernel_rfl : Tryd.prog.bytesOf 9 = 16) (by omega) (reader_str Tryd.underlying9)).at
    have hN : ReaderN fuel enc Tryd.prog W 55 (RVal W) := fun fu hfu' => ih fu (by omega)
    have hsl := readerN_slice (enc := enc) (P := Tryd.prog) (W := W) (N := fuel) (t := 53) Tryd.underlying53 (by kernel_rfl : Tryd.prog.cellsOf 55 = 5) (by kernel_rfl : Tryd.prog.bytesOf 55 = 80) (by omega) hN
    obtain ⟨L4, A4, n4, c4, xs4, h4, r4, e4, b4, f4⟩ := hf 4 _ rfl (fun fu hfu' => hsl fu (by omega))
    have k0 := bounds_u8 w0
    have k1 := bounds_u64 w1
    rw [(by kernel_rfl : Tryd.prog.cellsOf 55 = 5)] at hl
    have e0 : n0 = ((n0.toNat : Nat) : Int) := by omega
    have e1 : n1 = ((n1.toNat : Nat) : Int) := by omega
    rw [e0] at h0
    rw [e1] at h1
    subst e3 e4
    obtain ⟨ys, y1, y2, y3⟩ := rows_pairs (f := vlC) (sz := 5) (Q := fun v h => RV W (fun g => g < W.heap.size) v h) L4 xs4 (by rw [r4.len]) f4
    obtain ⟨t1, t2⟩ := txs_row (by rw [r3.len]) f3
    subst t1 y2
    have hcs := cells5v hl h0 h1 h2 h3 h4
    refine ⟨.mk n0.toNat n1.toNat l2 L3 L4, ⟨A3, c3, A4, c4⟩, hcs, ys, by show n0.toNat < 256; omega, by show n1.toNat < _; omega, w2, rdx_of r3, t2, by show L3.length ≤ _; have := r3.cap; omega, by show L4.length ≤ _; have := r4.cap; omega, rdx_of r4, y1, y3⟩
theorem reader_val : Reader enc Tryd.prog W 55 (RVal W) := ReaderN.all readerN_val
end Go.PH
end
section
/- Which values can be looked at: the walks of the document's small and Small. -/
set_option linter.all false
set_option linter.unusedSimpArgs false
set_option linter.unusedVariables false
namespace Go.PH
open Go.RowKit Go.Proofs

def keysN : List (List UInt8) → Int → Option Int
  | [], n => some n
  | k :: l, n => if n < (k.length : Int) then none else keysN l (n - (k.length : Int))
mutual
/-- how many bytes are left of so many -/
def smallV : Vl → Int → Int
  | .mk _ _ s keys l, n => if n < (s.length : Int) ∨ n < (keys.length : Int) then -1 else
    match keysN keys (n - (s.length : Int) - (keys.length : Int)) with
    | none => -1
    | some m => smallL l m
def smallL : List Vl → Int → Int
  | [], n => n
  | x :: l, n => if n < 0 then n else smallL l (smallV x n)
end
theorem smallV_eq (v : Vl) (n : Int) : smallV v n = if n < (v.s.length : Int) ∨ n < (v.keys.length : Int) then -1 else
    match keysN v.keys (n - (v.s.length : Int) - (v.keys.length : Int)) with
    | none => -1
    | some m => smallL v.list m := by cases v; rw [smallV]; rfl
theorem keysN_le : ∀ (l : List (List UInt8)) (n m : Int), keysN l n = some m → m ≤ n ∧ ((l = [] → 0 ≤ n) → 0 ≤ m)
  | [], n, m, h => by rw [keysN] at h; cases h; exact ⟨by omega, fun h => h rfl⟩
  | k :: l, n, m, h => by
    rw [keysN] at h
    split at h
    · cases h
    · obtain ⟨h1, h2⟩ := keysN_le l _ m h
      exact ⟨by omega, fun _ => h2 (fun _ => by omega)⟩
mutual
theorem smallV_b : ∀ (v : Vl) (n : Int), 0 ≤ n → smallV v n ≤ n ∧ -1 ≤ smallV v n
  | .mk k m s keys l, n, hn => by
    rw [smallV]
    split
    · exact ⟨by omega, by omega⟩
    · rename_i h
      cases hk : keysN keys (n - (s.length : Int) - (keys.length : Int)) with
      | none => exact ⟨by simp only; omega, by simp only; omega⟩
      | some q =>
        simp only
        obtain ⟨h1, h2⟩ := keysN_le keys _ q hk
        have h3 := h2 (fun e => by subst e; simp; omega)
        have h4 := smallL_b l q (by omega)
        exact ⟨by omega, h4.2⟩
theorem smallL_b : ∀ (l : List Vl) (n : Int), -1 ≤ n → smallL l n ≤ n ∧ -1 ≤ smallL l n
  | [], n, h => by rw [smallL]; exact ⟨Int.le_refl _, h⟩
  | x :: l, n, h => by
    rw [smallL]
    split
    · exact ⟨Int.le_refl _, h⟩
    · have h1 := smallV_b x n (by omega)
      have h2 := smallL_b l (smallV x n) h1.2
      exact ⟨by omega, h2.2⟩
end
theorem smallL_neg (l : List Vl) {m : Int} (h : m < 0) : smallL l m = m := by
  cases l with
  | nil => rw [smallL]
  | cons x l => rw [smallL, if_pos h]
def SmlR (w : World) (v : Vl) (m : Int) (e : Ending) (w' : World) : Prop := e = .returned (.int .i64 (smallV v m)) ∧ Below w.heap.size w w'
set_option maxRecDepth 20000 in
set_option maxHeartbeats 1000000 in
theorem rsml_any (v : Vl) : ∀ (h : VH) (m : Int) (w : World), RVw w v h → 0 ≤ m → m ≤ 1000000 → Calls Tryd.prog 34 #[.agg (vlV v h), .int .i64 m] w (SmlR w v m) := by
  refine Vl.ind (P := fun v => ∀ (h : VH) (m : Int) (w : World), RVw w v h → 0 ≤ m → m ≤ 1000000 → Calls Tryd.prog 34 #[.agg (vlV v h), .int .i64 m] w (SmlR w v m)) ?_ v
  intro v ih h m w hv hm0 hm1
  obtain ⟨K1, j1, K2, j2⟩ := h
  have hbv := hv.bounds
  obtain ⟨xb, w1, hqb, hqv, hX, hB1⟩ := alloc_stepV w #[.int .u8 (v.kind : Int), .int .u64 (v.n : Int), .string (str v.s), .slice K1 v.keys.length j1, .slice K2 v.list.length j2] 55
  have hv1 := hv.up hB1
  have hel := fun {i : Nat} (hi : i < v.list.length) => hv1.elem hi
  have hky := fun {i : Nat} (hi : i < v.keys.length) => hv1.key hi
  have hbs := hbv.2.2.1
  have hbk := hbv.2.2.2.2.1
  have hbl := hbv.2.2.2.2.2
  have HKL := Lib.hid hbv.2.2.2.1
  unfold vlV SmlR
  simp only at hel hky ⊢
  have HE := Lib.hid (smallV_eq v m)
  have hss := str_size v.s
  clear hv hbv hv1
  have c2 := hX.cell (j := 2) rfl
  have c3 := hX.cell (j := 3) rfl
  have IH := Lib.hid ih
  clear ih
  by_cases hs : m < (v.s.length : Int)
  · have HF : Hid (smallV v m = -1) := Lib.hid (by rw [HE.out, if_pos (.inl hs)])
    clear hel hky
    go_enter Tryd.func34, Tryd.ntmps34
    go_upto_region 1 with fail
    rw [← hqb, ← hqv]
    clear hqb hqv
    go_wp2_with (first | (with_reducible refine hold_append ?_) | (with_reducible refine hold_make ?_) | (with_reducible refine hold_copy ?_))
    go_ret
    rw [HF.out]
    exact ⟨rfl, hB1⟩
  by_cases hk : m < (v.keys.length : Int)
  · have HF : Hid (smallV v m = -1) := Lib.hid (by rw [HE.out, if_pos (.inr hk)])
    clear hel hky
    go_enter Tryd.func34, Tryd.ntmps34
    go_upto_region 1 with fail
    rw [← hqb, ← hqv]
    clear hqb hqv
    go_wp2_with (first | (with_reducible refine hold_append ?_) | (with_reducible refine hold_make ?_) | (with_reducible refine hold_copy ?_))
    go_ret
    rw [HF.out]
    exact ⟨rfl, hB1⟩
  have HE2 : Hid (smallV v m = match keysN v.keys (m - (v.s.length : Int) - (v.keys.length : Int)) with | none => -1 | some q => smallL v.list q) := Lib.hid (by rw [HE.out, if_neg (by omega)])
  clear HE
  go_enter Tryd.func34, Tryd.ntmps34
  go_upto_region 1 with fail
  rw [← hqb, ← hqv]
  clear hqb hqv
  go_wp2_with (first | (with_reducible refine hold_append ?_) | (with_reducible refine hold_make ?_) | (with_reducible refine hold_copy ?_))
  clear c2 c3
  go_loopw [1, 5] (fun s1 s5 wr => ∃ (i : Nat) (q : Int), i ≤ v.keys.length ∧ s5 = .int .i64 i ∧ s1 = .int .i64 q ∧ -1000000 ≤ q ∧ q ≤ 1000000 ∧ Hid (keysN (v.keys.drop i) q = keysN v.keys (m - (v.s.length : Int) - (v.keys.length : Int))) ∧ Hid (i = v.keys.length → 0 ≤ q) ∧ Box wr xb 55 #[.int .u8 (v.kind : Int), .int .u64 (v.n : Int), .string (str v.s), .slice K1 v.keys.length j1, .slice K2 v.list.length j2] ∧ Below w.heap.size w wr ∧ Below w1.heap.size w1 wr) (fun _ s5 _ => v.keys.length - (RowKit.intOf s5).toNat)
  case atStart => exact ⟨0, _, by omega, rfl, by first | rfl | go_num, by omega, by omega, Lib.hid rfl, Lib.hid (fun e => by omega), hX, hB1, Below.refl _ _⟩
  case round =>
    as_aux_lemma =>
    clear hX hB1
    obtain ⟨i, q, hi, rfl, rfl, hq0, hq1, HC, HZ, hX, hB, hB2⟩ := hrel
    have c3 := hX.cell (j := 3) rfl
    simp only [List.getElem_toArray, List.getElem_cons_succ, List.getElem_cons_zero] at c3
    by_cases hlt : i < v.keys.length
    · have g1 : (i : Int) < (v.keys.length : Int) := by omega
      obtain ⟨b, off, rfl, hC⟩ := hky hlt
      have k0 := hC wr hB2
      have HD : Hid (keysN (v.keys.drop i) q = if q < (v.keys[i].length : Int) then none else keysN (v.keys.drop (i + 1)) (q - (v.keys[i].length : Int))) := Lib.hid (by rw [List.drop_eq_getElem_cons hlt, keysN])
      have hkl := HKL.out _ (List.getElem_mem hlt)
      clear hC hky
      generalize v.keys[i] = a at *
      have has := str_size a
      by_cases hqa : q < (a.length : Int)
      · have HF : Hid (smallV v m = -1) := Lib.hid (by rw [HE2.out, ← HC.out, HD.out, if_pos hqa])
        clear hel
        go_wp2_with (first | (with_reducible refine hold_append ?_) | (with_reducible refine hold_make ?_) | (with_reducible refine hold_copy ?_))
        go_ret
        rw [HF.out]
        exact ⟨rfl, hB⟩
      · have HC2 : Hid (keysN (v.keys.drop (i + 1)) (q - (a.length : Int)) = keysN v.keys (m - (v.s.length : Int) - (v.keys.length : Int))) := Lib.hid (by rw [← HC.out, HD.out, if_neg hqa])
        clear hel
        go_wp2_with (first | (with_reducible refine hold_append ?_) | (with_reducible refine hold_make ?_) | (with_reducible refine hold_copy ?_))
        exact ⟨⟨i + 1, q - (a.length : Int), by omega, by go_num, by first | rfl | go_num, by omega, by omega, HC2, Lib.hid (fun _ => by omega), hX, hB, hB2⟩, by simp [RowKit.intOf]; omega⟩
    · have g1 : ¬ (i : Int) < (v.keys.length : Int) := by omega
      have hq00 := HZ.out (by omega)
      have HF : Hid (smallV v m = smallL v.list q) := Lib.hid (by rw [HE2.out, ← HC.out, List.drop_eq_nil_of_le (by omega), keysN])
      clear hky HC HZ HE2
      go_wp2_with (first | (with_reducible refine hold_append ?_) | (with_reducible refine hold_make ?_) | (with_reducible refine hold_copy ?_))
      clear c3
      go_loopw [1, 6] (fun s1 s6 wr => ∃ (i : Nat) (p : Int), i ≤ v.list.length ∧ s6 = .int .i64 i ∧ s1 = .int .i64 p ∧ -1 ≤ p ∧ p ≤ 1000000 ∧ Hid (smallL (v.list.drop i) p = smallL v.list q) ∧ Box wr xb 55 #[.int .u8 (v.kind : Int), .int .u64 (v.n : Int), .string (str v.s), .slice K1 v.keys.length j1, .slice K2 v.list.length j2] ∧ Below w.heap.size w wr ∧ Below w1.heap.size w1 wr) (fun _ s6 _ => v.list.length - (RowKit.intOf s6).toNat)
      case atStart => exact ⟨0, q, by omega, rfl, rfl, by omega, by omega, Lib.hid rfl, hX, hB, hB2⟩
      case round =>
        as_aux_lemma =>
        clear hX hB hB2
        obtain ⟨i, p, hi, rfl, rfl, hp0, hp1, HC, hX, hB, hB2⟩ := hrel
        have c4 := hX.cell (j := 4) rfl
        simp only [List.getElem_toArray, List.getElem_cons_succ, List.getElem_cons_zero] at c4
        by_cases hlt : i < v.list.length ∧ 0 ≤ p
        · obtain ⟨hlt, hqn⟩ := hlt
          have g1 : (i : Int) < (v.list.length : Int) := by omega
          obtain ⟨b, off, hx, rfl, hvx, HX⟩ := hel hlt
          obtain ⟨k0, k1, k2, k3, k4⟩ := HX wr hB2
          have HD : Hid (smallL (v.list.drop i) p = smallL (v.list.drop (i + 1)) (smallV v.list[i] p)) := Lib.hid (by rw [List.drop_eq_getElem_cons hlt, smallL, if_neg (by omega)])
          have h1 := IH.out _ (List.getElem_mem hlt) hx p wr (hvx.up hB2) hqn hp1
          clear HX hel hvx
          have hcl := smallV_b v.list[i] p hqn
          generalize v.list[i] = x at *
          have HC2 : Hid (smallL (v.list.drop (i + 1)) (smallV x p) = smallL v.list q) := Lib.hid (by rw [← HC.out, HD.out])
          unfold vlV SmlR at h1
          go_wp2_with (first | (with_reducible refine hold_append ?_) | (with_reducible refine hold_make ?_) | (with_reducible refine hold_copy ?_))
          refine h1.mono ?_
          rintro e w3 ⟨rfl, hB3⟩
          clear h1 k0 k1 k2 k3 k4 c4
          go_wp2_with (first | (with_reducible refine hold_append ?_) | (with_reducible refine hold_make ?_) | (with_reducible refine hold_copy ?_))
          exact ⟨⟨i + 1, smallV x p, by omega, by go_num, rfl, hcl.2, by omega, HC2, hX.below hB3, hB.trans (hB3.mono hB.size), hB2.trans (hB3.mono hB2.size)⟩, by simp [RowKit.intOf]; omega⟩
        · have HQ : Hid (p = smallL v.list q) := Lib.hid (by
            rw [← HC.out]
            by_cases h0 : p < 0
            · rw [smallL_neg _ h0]
            · rw [List.drop_eq_nil_of_le (by omega), smallL])
          clear hel
          by_cases h2 : i < v.list.length
          · have g1 : (i : Int) < (v.list.length : Int) := by omega
            have g2 : ¬ 0 ≤ p := by omega
            clear hlt
            go_wp2_with (first | (with_reducible refine hold_append ?_) | (with_reducible refine hold_make ?_) | (with_reducible refine hold_copy ?_))
            go_ret
            rw [HF.out, ← HQ.out]
            exact ⟨rfl, hB⟩
          · have g1 : ¬ (i : Int) < (v.list.length : Int) := by omega
            clear hlt
            go_wp2_with (first | (with_reducible refine hold_append ?_) | (with_reducible refine hold_make ?_) | (with_reducible refine hold_copy ?_))
            go_ret
            rw [HF.out, ← HQ.out]
            exact ⟨rfl, hB⟩
/-- can a value be looked at? -/
def smallB (v : Vl) : Bool := decide (0 ≤ cntV v 400) && !deepV 40 v && decide (0 ≤ smallV v 20000)
set_option maxRecDepth 20000 in
theorem rsmall_any (v : Vl) (h : VH) (w : World) (hv : RVw w v h) : Calls Tryd.prog 18 #[.agg (vlV v h)] w fun e w' => e = .returned (.bool (smallB v)) ∧ Below w.heap.size w w' := by
  obtain ⟨K1, j1, K2, j2⟩ := h
  obtain ⟨xb, w1, hqb, hqv, hX, hB1⟩ := alloc_stepV w #[.int .u8 (v.kind : Int), .int .u64 (v.n : Int), .string (str v.s), .slice K1 v.keys.length j1, .slice K2 v.list.length j2] 55
  have hv1 := hv.up hB1
  have hct := rleft_any v _ 400 w1 hv1 (by omega) (by omega)
  have hdp := fun (W : World) (hW : Below w1.heap.size w1 W) => rdeep_any v _ 40 W (hv1.up hW) (by omega) trivial
  have hsm := fun (W : World) (hW : Below w1.heap.size w1 W) => rsml_any v _ 20000 W (hv1.up hW) (by omega) (by omega)
  have hcg := cntV_ge v 400 (by omega) (by omega)
  have hcl := cntV_le v 400
  have hsg := smallV_b v 20000 (by omega)
  have HS : Hid (smallB v = (decide (0 ≤ cntV v 400) && !deepV 40 v && decide (0 ≤ smallV v 20000))) := Lib.hid rfl
  rw [HS.out]
  unfold vlV at hct hdp hsm ⊢
  unfold CntR at hct
  unfold DeepR' at hdp
  unfold SmlR at hsm
  generalize cntV v 400 = c at *
  generalize deepV 40 v = d at *
  generalize smallV v 20000 = s at *
  simp only at hct hdp hsm ⊢
  have c0 := hX.cell (j := 0) rfl
  have c1 := hX.cell (j := 1) rfl
  have c2 := hX.cell (j := 2) rfl
  have c3 := hX.cell (j := 3) rfl
  have c4 := hX.cell (j := 4) rfl
  go_enter Tryd.func18, Tryd.ntmps18
  go_upto_region 1 with fail
  rw [← hqb, ← hqv]
  clear hqb hqv HS
  go_wp2_with (first | (with_reducible refine hold_append ?_) | (with_reducible refine hold_make ?_) | (with_reducible refine hold_copy ?_))
  refine hct.mono ?_
  rintro e w2 ⟨rfl, hB2⟩
  have hX2 := hX.below hB2
  have hBB := hB1.trans (hB2.mono hB1.size)
  clear hct c0 c1 c2 c3 c4
  by_cases hc : c < 0
  · have hd : decide (0 ≤ c) = false := by simp; omega
    go_wp2_with (first | (with_reducible refine hold_append ?_) | (with_reducible refine hold_make ?_) | (with_reducible refine hold_copy ?_))
    go_ret
    rw [hd]
    exact ⟨rfl, hBB⟩
  · have hd : decide (0 ≤ c) = true := by simp; omega
    have HD := Lib.hid hd
    clear hd
    have c0 := hX2.cell (j := 0) rfl
    have c1 := hX2.cell (j := 1) rfl
    have c2 := hX2.cell (j := 2) rfl
    have c3 := hX2.cell (j := 3) rfl
    have c4 := hX2.cell (j := 4) rfl
    have h2 := hdp w2 hB2
    go_wp2_with (first | (with_reducible refine hold_append ?_) | (with_reducible refine hold_make ?_) | (with_reducible refine hold_copy ?_))
    refine h2.mono ?_
    rintro e w3 ⟨rfl, hB3⟩
    have hX3 := hX2.below hB3
    have hBB3 := hBB.trans (hB3.mono hBB.size)
    clear h2 c0 c1 c2 c3 c4
    have h3 := hsm w3 (hB2.trans (hB3.mono hB2.size))
    cases d
    · have c0 := hX3.cell (j := 0) rfl
      have c1 := hX3.cell (j := 1) rfl
      have c2 := hX3.cell (j := 2) rfl
      have c3 := hX3.cell (j := 3) rfl
      have c4 := hX3.cell (j := 4) rfl
      go_wp2_with (first | (with_reducible refine hold_append ?_) | (with_reducible refine hold_make ?_) | (with_reducible refine hold_copy ?_))
      refine h3.mono ?_
      rintro e w4 ⟨rfl, hB4⟩
      clear c0 c1 c2 c3 c4 h3
      go_wp2_with (first | (with_reducible refine hold_append ?_) | (with_reducible refine hold_make ?_) | (with_reducible refine hold_copy ?_))
      go_ret
      rw [HD.out]
      exact ⟨by simp, hBB3.trans (hB4.mono hBB3.size)⟩
    · go_wp2_with (first | (with_reducible refine hold_append ?_) | (with_reducible refine hold_make ?_) | (with_reducible refine hold_copy ?_))
      go_ret
      rw [HD.out]
      exact ⟨by simp, hBB3⟩
end Go.PH
end
section
/- Values that are no greater than may be looked at. No program in sight. -/
set_option linter.all false
set_option linter.unusedSimpArgs false
set_option linter.unusedVariables false
namespace Go.PH

end Go.PH
end
section
/- A value in memory of its own: the walk of the document's Copy. -/
set_option linter.all false
set_option linter.unusedSimpArgs false
set_option linter.unusedVariables false
namespace Go.PH
open Go.RowKit Go.Proofs

theorem slTx : SlT Tryd.prog 52 9 1 16 (.string ⟨#[]⟩) := SlT.mk' Tryd.underlying52 (by kernel_rfl) rfl (by omega)
theorem slVl : SlT Tryd.prog 53 55 5 80 (.agg #[.int .u8 0, .int .u64 0, .string ⟨#[]⟩, .slice none 0 0, .slice none 0 0]) := SlT.mk' Tryd.underlying53 (by kernel_rfl) rfl (by omega)
/-- blocks from base on, but those of a row -/
def FB (base : Nat) (A : Option Addr) (w : World) : Nat → Prop := fun g => base ≤ g ∧ g < w.heap.size ∧ blk A ≠ some g
/-- fresh blocks -/
def FN (base : Nat) (w : World) : Nat → Prop := fun g => base ≤ g ∧ g < w.heap.size
/-- what a round has made: the parts so far, the keys -/
structure CpS (wr : World) (base : Nat) (K : List (List UInt8)) (AK : Option Addr) (cK : Nat) (A : Option Addr) (c : Nat) (xs : List (Vl × VH)) : Prop where
  own : Own wr base 55 5 A xs.length c (rowC vlC xs)
  el : ∀ p ∈ xs, RV wr (FB base A wr) p.1 p.2
  ky : RdX wr (FB base A wr) 1 AK K.length cK (K.map txV)
theorem CpS.on {wr wr' : World} {base : Nat} {K : List (List UInt8)} {AK : Option Addr} {cK : Nat} {A : Option Addr} {c : Nat} {xs : List (Vl × VH)} (h : CpS wr base K AK cK A c xs) (hk : ∀ g, base ≤ g → g < wr.heap.size → wr'.heap[g]? = wr.heap[g]?) (hs : wr.heap.size ≤ wr'.heap.size) : CpS wr' base K AK cK A c xs := by
  have hF : ∀ g, FB base A wr g → FB base A wr' g := fun g hg => ⟨hg.1, Nat.lt_of_lt_of_le hg.2.1 hs, hg.2.2⟩
  refine ⟨?_, fun p hp => ((h.el p hp).keep (fun g hg => hk g hg.1 hg.2.1) hs).mono hF, (h.ky.keep (fun g hg => hk g hg.1 hg.2.1) hs).mono hF⟩
  have ho := h.own
  unfold Own World.ownsRow at ho ⊢
  obtain ⟨hl, h1⟩ := ho
  refine ⟨hl, h1.imp id ?_⟩
  rintro ⟨g, cap, cur, hv, hb, hh, hr⟩
  exact ⟨g, cap, cur, hv, hb, (hk g hb (Array.getElem?_eq_some_iff.1 hh).1).trans hh, hr⟩
theorem CpS.below {wr wr' : World} {base : Nat} {K : List (List UInt8)} {AK : Option Addr} {cK : Nat} {A : Option Addr} {c : Nat} {xs : List (Vl × VH)} (h : CpS wr base K AK cK A c xs) (hB : Below wr.heap.size wr wr') : CpS wr' base K AK cK A c xs := h.on (fun g _ hg => hB.block g hg) hB.size
theorem CpS.box {wr wr' : World} {base b : Nat} {K : List (List UInt8)} {AK : Option Addr} {cK : Nat} {A : Option Addr} {c : Nat} {xs : List (Vl × VH)} (h : CpS wr base K AK cK A c xs) (hg : wr.grownBy wr' (some b)) (hb : b < base) : CpS wr' base K AK cK A c xs :=
  h.on (fun g hg1 hg2 => hg.block g hg2 (fun e => by injection e with e; omega)) hg.size
/-- one more part -/
theorem CpS.push {wr w5 w6 : World} {base : Nat} {K : List (List UInt8)} {AK : Option Addr} {cK : Nat} {A A2 : Option Addr} {c c2 : Nat} {xs : List (Vl × VH)} {x : Vl} {hx : VH} (h : CpS wr base K AK cK A c xs) (hbs : base ≤ wr.heap.size) (hB : Below wr.heap.size wr w5) (hv : RV w5 (FN wr.heap.size w5) x hx)
    (ho : Own w6 base 55 5 A2 (xs.length + 1) c2 (rowC vlC (xs ++ [(x, hx)]))) (hg : w5.grownBy w6 (blk A)) (hA : blk A2 = blk A ∨ ∀ g, blk A2 = some g → w5.heap.size ≤ g) : CpS w6 base K AK cK A2 c2 (xs ++ [(x, hx)]) := by
  have h5 := h.below hB
  have hAl : ∀ g, blk A = some g → g < wr.heap.size := fun g hg => (h.own.blk_lt hg).2
  have hF : ∀ g, FB base A w5 g → FB base A2 w6 g := fun g hg1 => ⟨hg1.1, Nat.lt_of_lt_of_le hg1.2.1 hg.size, by
    rcases hA with e | e
    · rw [e]; exact hg1.2.2
    · intro e2; have := e g e2; have := hg1.2.1; omega⟩
  have hk : ∀ g, FB base A w5 g → w6.heap[g]? = w5.heap[g]? := fun g hg1 => hg.block g hg1.2.1 (fun e => hg1.2.2 e.symm)
  refine ⟨by rw [List.length_append]; exact ho, fun p hp => ?_, (h5.ky.keep hk hg.size).mono hF⟩
  rcases List.mem_append.1 hp with hp | hp
  · exact ((h5.el p hp).keep hk hg.size).mono hF
  · obtain rfl := List.mem_singleton.1 hp
    have hFN : ∀ g, FN wr.heap.size w5 g → FB base A w5 g := fun g hg1 => ⟨Nat.le_trans hbs hg1.1, hg1.2, fun e => by have := hAl g e; have := hg1.1; omega⟩
    exact (((hv.mono hFN).keep hk hg.size).mono hF)
end Go.PH
end
section
/- What a reader of values makes in memory: parts and keys in rows of their own. -/
set_option linter.all false
set_option linter.unusedSimpArgs false
set_option linter.unusedVariables false
namespace Go.PH
open Go.RowKit Go.Proofs

/-- blocks from base on, but those of two rows -/
def FB2 (base : Nat) (A AK : Option Addr) (w : World) : Nat → Prop := fun g => base ≤ g ∧ g < w.heap.size ∧ blk A ≠ some g ∧ blk AK ≠ some g
structure MnS (wr : World) (base : Nat) (K : List (List UInt8)) (AK : Option Addr) (cK : Nat) (A : Option Addr) (c : Nat) (xs : List (Vl × VH)) : Prop where
  own : Own wr base 55 5 A xs.length c (rowC vlC xs)
  kown : Own wr base 9 1 AK K.length cK (K.map txV)
  ne : ∀ g, blk A = some g → blk AK ≠ some g
  el : ∀ p ∈ xs, RV wr (FB2 base A AK wr) p.1 p.2
theorem own_on {wr wr' : World} {base e size n c : Nat} {A : Option Addr} {ys : List Value} (h : Own wr base e size A n c ys) (hk : ∀ g, base ≤ g → g < wr.heap.size → wr'.heap[g]? = wr.heap[g]?) : Own wr' base e size A n c ys := by
  unfold Own World.ownsRow at h ⊢
  obtain ⟨hl, h1⟩ := h
  refine ⟨hl, h1.imp id ?_⟩
  rintro ⟨g, cap, cur, hv, hb, hh, hr⟩
  exact ⟨g, cap, cur, hv, hb, (hk g hb (Array.getElem?_eq_some_iff.1 hh).1).trans hh, hr⟩
section
variable {wr wr' w5 w6 : World} {base : Nat} {K : List (List UInt8)} {AK A A2 : Option Addr} {cK c c2 : Nat} {xs : List (Vl × VH)}
theorem MnS.on (h : MnS wr base K AK cK A c xs) (hk : ∀ g, base ≤ g → g < wr.heap.size → wr'.heap[g]? = wr.heap[g]?) (hs : wr.heap.size ≤ wr'.heap.size) : MnS wr' base K AK cK A c xs := by
  have hF : ∀ g, FB2 base A AK wr g → FB2 base A AK wr' g := fun g hg => ⟨hg.1, Nat.lt_of_lt_of_le hg.2.1 hs, hg.2.2⟩
  exact ⟨own_on h.own hk, own_on h.kown hk, h.ne, fun p hp => ((h.el p hp).keep (fun g hg => hk g hg.1 hg.2.1) hs).mono hF⟩
theorem MnS.below (h : MnS wr base K AK cK A c xs) (hB : Below wr.heap.size wr wr') : MnS wr' base K AK cK A c xs := h.on (fun g _ hg => hB.block g hg) hB.size
theorem MnS.box {b : Nat} (h : MnS wr base K AK cK A c xs) (hg : wr.grownBy wr' (some b)) (hb : b < base) : MnS wr' base K AK cK A c xs :=
  h.on (fun g hg1 hg2 => hg.block g hg2 (fun e => by injection e with e; omega)) hg.size
theorem MnS.nil (wr : World) (base : Nat) : MnS wr base [] none 0 none 0 [] := ⟨Own.none_ _ _ _ _, Own.none_ _ _ _ _, fun g h => (by cases h), fun p hp => (by cases hp)⟩
/-- one more key -/
theorem MnS.pushK {k : List UInt8} (h : MnS w5 base K AK cK A c xs) (ho : Own w6 base 9 1 A2 (K.length + 1) c2 ((K ++ [k]).map txV)) (hg : w5.grownBy w6 (blk AK)) (hA : blk A2 = blk AK ∨ ∀ g, blk A2 = some g → w5.heap.size ≤ g) : MnS w6 base (K ++ [k]) A2 c2 A c xs := by
  have hAl : ∀ g, blk A = some g → g < w5.heap.size := fun g hg => (h.own.blk_lt hg).2
  refine ⟨own_stays h.own hg (fun g hg e => h.ne g hg e), by rw [List.length_append]; exact ho, fun g hg e => ?_, fun p hp => ?_⟩
  · rcases hA with e2 | e2
    · exact h.ne g hg (by rw [← e2, e])
    · have := hAl g hg; have := e2 g e; omega
  · have hk : ∀ g, FB2 base A AK w5 g → w6.heap[g]? = w5.heap[g]? := fun g hg1 => hg.block g hg1.2.1 (fun e => hg1.2.2.2 e.symm)
    have hF : ∀ g, FB2 base A AK w5 g → FB2 base A A2 w6 g := fun g hg1 => ⟨hg1.1, Nat.lt_of_lt_of_le hg1.2.1 hg.size, hg1.2.2.1, by
      rcases hA with e | e
      · rw [e]; exact hg1.2.2.2
      · intro e2; have := e g e2; have := hg1.2.1; omega⟩
    exact ((h.el p hp).keep hk hg.size).mono hF
/-- one more part -/
theorem MnS.push {W4 : Nat} {x : Vl} {hx : VH} (h : MnS w5 base K AK cK A c xs) (h4 : ∀ g, blk A = some g ∨ blk AK = some g → g < W4) (hbs : base ≤ W4) (hv : RV w5 (FN W4 w5) x hx)
    (ho : Own w6 base 55 5 A2 (xs.length + 1) c2 (rowC vlC (xs ++ [(x, hx)]))) (hg : w5.grownBy w6 (blk A)) (hA : blk A2 = blk A ∨ ∀ g, blk A2 = some g → w5.heap.size ≤ g) : MnS w6 base K AK cK A2 c2 (xs ++ [(x, hx)]) := by
  have hKl : ∀ g, blk AK = some g → g < w5.heap.size := fun g hg => (h.kown.blk_lt hg).2
  have hF : ∀ g, FB2 base A AK w5 g → FB2 base A2 AK w6 g := fun g hg1 => ⟨hg1.1, Nat.lt_of_lt_of_le hg1.2.1 hg.size, by
    rcases hA with e | e
    · rw [e]; exact hg1.2.2.1
    · intro e2; have := e g e2; have := hg1.2.1; omega, hg1.2.2.2⟩
  have hk : ∀ g, FB2 base A AK w5 g → w6.heap[g]? = w5.heap[g]? := fun g hg1 => hg.block g hg1.2.1 (fun e => hg1.2.2.1 e.symm)
  refine ⟨by rw [List.length_append]; exact ho, own_stays h.kown hg (fun g hg e => h.ne g e hg), fun g hg e => ?_, fun p hp => ?_⟩
  · rcases hA with e2 | e2
    · exact h.ne g (by rw [← e2, hg]) e
    · have := hKl g e; have := e2 g hg; omega
  rcases List.mem_append.1 hp with hp | hp
  · exact ((h.el p hp).keep hk hg.size).mono hF
  · obtain rfl := List.mem_singleton.1 hp
    have hFN : ∀ g, FN W4 w5 g → FB2 base A AK w5 g := fun g hg1 => ⟨Nat.le_trans hbs hg1.1, hg1.2, fun e => by have := h4 g (.inl e); have := hg1.1; omega, fun e => by have := h4 g (.inr e); have := hg1.1; omega⟩
    exact (((hv.mono hFN).keep hk hg.size).mono hF)
/-- what was read stays, and lies aside from the rows -/
theorem MnS.fresh {W4 : Nat} {x : Vl} {hx : VH} (h : MnS w5 base K AK cK A c xs) (h4 : ∀ g, blk A = some g ∨ blk AK = some g → g < W4) (hbs : base ≤ W4) (hv : RV w5 (FN W4 w5) x hx)
    (hg : w5.grownBy w6 (blk A)) (hA : blk A2 = blk A ∨ ∀ g, blk A2 = some g → w5.heap.size ≤ g) : RV w6 (FB2 base A2 AK w6) x hx := by
  have hF : ∀ g, FB2 base A AK w5 g → FB2 base A2 AK w6 g := fun g hg1 => ⟨hg1.1, Nat.lt_of_lt_of_le hg1.2.1 hg.size, by
    rcases hA with e | e
    · rw [e]; exact hg1.2.2.1
    · intro e2; have := e g e2; have := hg1.2.1; omega, hg1.2.2.2⟩
  have hk : ∀ g, FB2 base A AK w5 g → w6.heap[g]? = w5.heap[g]? := fun g hg1 => hg.block g hg1.2.1 (fun e => hg1.2.2.1 e.symm)
  have hFN : ∀ g, FN W4 w5 g → FB2 base A AK w5 g := fun g hg1 => ⟨Nat.le_trans hbs hg1.1, hg1.2, fun e => by have := h4 g (.inl e); have := hg1.1; omega, fun e => by have := h4 g (.inr e); have := hg1.1; omega⟩
  exact (((hv.mono hFN).keep hk hg.size).mono hF)
/-- the last part written -/
theorem MnS.setlast {z : Vl × VH} {x : Vl} {hx : VH} (h : MnS w5 base K AK cK A c (xs ++ [z])) (hv : RV w5 (FB2 base A AK w5) x hx) (ho : Own w6 base 55 5 A (xs.length + 1) c (rowC vlC (xs ++ [(x, hx)]))) (hg : w5.grownBy w6 (blk A)) : MnS w6 base K AK cK A c (xs ++ [(x, hx)]) := by
  have hF : ∀ g, FB2 base A AK w5 g → FB2 base A AK w6 g := fun g hg1 => ⟨hg1.1, Nat.lt_of_lt_of_le hg1.2.1 hg.size, hg1.2.2⟩
  have hk : ∀ g, FB2 base A AK w5 g → w6.heap[g]? = w5.heap[g]? := fun g hg1 => hg.block g hg1.2.1 (fun e => hg1.2.2.1 e.symm)
  refine ⟨by rw [List.length_append]; exact ho, own_stays h.kown hg (fun g hg e => h.ne g e hg), h.ne, fun p hp => ?_⟩
  rcases List.mem_append.1 hp with hp | hp
  · exact ((h.el p (List.mem_append_left _ hp)).keep hk hg.size).mono hF
  · obtain rfl := List.mem_singleton.1 hp
    exact (hv.keep hk hg.size).mono hF
/-- the value that they make -/
theorem MnS.rv {B : Nat} {k : Nat} (h : MnS wr base K AK cK A c xs) (hB : B ≤ base) (hk : k < 256) (hkl : ∀ x ∈ K, x.length ≤ 140737488351232) (h1 : K.length ≤ 140737488351232) (h2 : xs.length ≤ 140737488351232) : RV wr (FN B wr) (.mk k 0 [] K (xs.map (·.1))) ⟨AK, cK, A, c⟩ := by
  have hFB : ∀ g, FB2 base A AK wr g → FN B wr g := fun g hg => ⟨Nat.le_trans hB hg.1, hg.2.1⟩
  refine ⟨xs, hk, (by show (0 : Nat) < _; decide), (by show (0 : Nat) ≤ _; omega), RdX.of_own h.kown (fun g hg => ?_), hkl, h1, (by show (xs.map (·.1)).length ≤ _; simpa using h2), ?_, rfl, fun p hp => (h.el p hp).mono hFB⟩
  · have := h.kown.blk_lt hg
    exact ⟨by omega, this.2⟩
  · have ho := h.own
    show RdX wr (FN B wr) 5 A (xs.map (·.1)).length c (rowC vlC xs)
    rw [List.length_map]
    refine RdX.of_own ho (fun g hg => ?_)
    have := ho.blk_lt hg
    exact ⟨by omega, this.2⟩
end
/-- nothing is other than it was, but for two blocks -/
def KP (B pb vb : Nat) (w w' : World) : Prop := Below B w w' ∧ ∀ g, g < w.heap.size → g ≠ pb → g ≠ vb → w'.heap[g]? = w.heap[g]?
section
variable {B pb vb : Nat} {a w w' : World}
theorem KP.refl (B pb vb : Nat) (w : World) : KP B pb vb w w := ⟨Below.refl _ _, fun _ _ _ _ => rfl⟩
theorem KP.size (h : KP B pb vb a w) : a.heap.size ≤ w.heap.size := h.1.size
theorem KP.trans (h : KP B pb vb a w) (k : KP B pb vb w w') : KP B pb vb a w' := ⟨h.1.trans k.1, fun g hg h1 h2 => (k.2 g (Nat.lt_of_lt_of_le hg h.size) h1 h2).trans (h.2 g hg h1 h2)⟩
theorem KP.below (h : KP B pb vb a w) (hb : B ≤ a.heap.size) (k : Below w.heap.size w w') : KP B pb vb a w' := h.trans ⟨k.mono (Nat.le_trans hb h.size), fun g hg _ _ => k.block g hg⟩
theorem KP.grown (h : KP B pb vb a w) (hb : B ≤ a.heap.size) {row : Option Nat} (hg : w.grownBy w' row) (hr : ∀ g, row = some g → B ≤ g ∧ (g = pb ∨ g = vb ∨ a.heap.size ≤ g)) : KP B pb vb a w' :=
  ⟨h.1.grown hg (Nat.le_trans hb h.size) (fun g e => (hr g e).1), fun g hlt h1 h2 => (hg.block g (Nat.lt_of_lt_of_le hlt h.size) (fun e => by rcases (hr g e.symm).2 with e | e | e <;> omega)).trans (h.2 g hlt h1 h2)⟩
theorem KP.drew (h : KP B pb vb a w) : KP B pb vb a w.drew := ⟨below_drewN h.1 1, h.2⟩
theorem KP.box {g : Nat} {t : TypeId} {cs : Array Value} (h : KP B pb vb w w') (hb : Box w g t cs) (h1 : g ≠ pb) (h2 : g ≠ vb) : Box w' g t cs := (h.2 g hb.lt h1 h2).trans hb
theorem KP.own {base e size n c : Nat} {A : Option Addr} {ys : List Value} (h : KP B pb vb w w') (ho : Own w base e size A n c ys) (h1 : pb < base) (h2 : vb < base) : Own w' base e size A n c ys := own_on ho (fun g hg1 hg2 => h.2 g hg2 (by omega) (by omega))
theorem KP.mns {base : Nat} {K : List (List UInt8)} {AK A : Option Addr} {cK c : Nat} {xs : List (Vl × VH)} (h : KP B pb vb w w') (ho : MnS w base K AK cK A c xs) (h1 : pb < base) (h2 : vb < base) : MnS w' base K AK cK A c xs := ho.on (fun g hg1 hg2 => h.2 g hg2 (by omega) (by omega)) h.size
end
end Go.PH
end

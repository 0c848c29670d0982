/- Texts laid together: VlSee, VlSmall, VlFine, VlCopy, VlReadMem, VlMust, VlUtf, VlPlain. -/
import Derived.Test.YtenegldhfgfokaaGreatDoorProg
import Derived.WalkLawsBesides
import Derived.Lib.DecodeN
import Derived.Lib.TrimU
import Derived.Lib.OthersKept
import Derived.Deep.Cut
import Derived.Test.YtenegldhfgfokaaGreatDoorMg00
import Derived.Test.YtenegldhfgfokaaGreatDoorMg01
import Derived.Test.YtenegldhfgfokaaGreatDoorMg03
import Derived.Test.YtenegldhfgfokaaGreatDoorMg07
import Derived.Test.YtenegldhfgfokaaGreatDoorMg08
import Derived.Test.YtenegldhfgfokaaGreatDoorMg09
import Derived.Test.YtenegldhfgfokaaGreatDoorMg13
set_option linter.all false
set_option linter.unusedSimpArgs false
set_option linter.unusedVariables false
section
/- Reading arguments that hold values, however deep. -/
namespace Go.PH
open Go.RowKit Go.Proofs Go.ChangeShapes Go.WideShapes Go.ChangeAt Go.Deep

section
variable {H : Type} {enc : TypeId × Value → H} {P : Program} {W : World}
/-- a reader at fuel below N -/
def ReaderN (N : Nat) (enc : TypeId × Value → H) (P : Program) (W : World) (t : TypeId) {α : Type} (R : α → List Value → Prop) : Prop :=
 ∀ (fuel : Nat), fuel < N → ∀ (cs : List Value) (d : DataW H) (p : List MemPlace), DataW.trod enc P W 0 (fun _ => true) true fuel t cs = some (d, p) → (∀ x ∈ d.weights P t, x ≤ reachBytes) → ∃ a, R a cs
theorem Reader.at {N : Nat} {t : TypeId} {α : Type} {R : α → List Value → Prop} (h : Reader enc P W t R) : ReaderN N enc P W t R := fun fuel _ => h fuel
theorem ReaderN.all {t : TypeId} {α : Type} {R : α → List Value → Prop} (h : ∀ N, ReaderN N enc P W t R) : Reader enc P W t R := fun fuel => h (fuel + 1) fuel (Nat.lt_succ_self _)
/-- R alone decides what reads; the fuel does not -/
theorem readerN_slice {N : Nat} {t e size bytes : Nat} {α : Type} {R : α → List Value → Prop} (ht : P.underlying t = some (.slice e)) (hc : P.cellsOf e = size) (hby : P.bytesOf e = bytes) (hpos : 0 < size) (hr : ReaderN N enc P W e R) : ReaderN (N + 1) enc P W t (RSlice W size bytes R) := fun fuel hfu cs d p h hw => by
 have hlt := DataW.trod_lt fuel _ _ _ h
 rcases DataW.trod_slice ht h with ⟨rfl, _⟩ | ⟨a, len, cap, elems, rest, n, hfn, rfl, hx, hb, hl, hm, hlen, hel, hsp, _⟩
 ·exact ⟨[], none, 0, 0, [], rfl, Rd.nil _ _ _ _ (by simp [maxLen]) _, rfl, by omega, fun i h => by simp at h⟩
 have hrl : rest.length = cap - len := (hsp rfl).1
 obtain ⟨rfl, rfl⟩ : d = _ ∧ p = _ := by simpa using hx
 have hcap : cap * bytes ≤ 140737488351232 := by
  have := hw ((elems.length + rest.length) * P.bytesOf e) (by simp [DataW.weights, ht])
  simp only [hlen, hrl, hby, reachBytes] at this
  rwa [show len + (cap - len) = cap by omega] at this
 have each : ∀ i, i < len → ∃ y : α × List Value, W.cells? 0 (a.add (i * P.cellsOf e)) (P.cellsOf e) = some y.2 ∧ R y.1 y.2 := fun i hi => by
  have h0 := hel i hi
  rw [List.getElem?_eq_getElem (by omega), Option.bind_eq_some_iff] at h0
  obtain ⟨cs', h1, h2⟩ := h0
  obtain ⟨y, hy⟩ := hr n (by omega) _ _ _ h2 (fun x hx => hw x (by
   simp only [DataW.weights, ht, List.mem_cons, List.mem_append]
   exact .inr (.inl (weightsAll_mem (List.mem_map.2 ⟨_, List.getElem_mem (by omega : i < elems.length), rfl⟩) x hx))))
  exact ⟨(y, cs'), h1, hy⟩
 obtain ⟨Y, hY⟩ : ∃ Y : Nat → Option (α × List Value), ∀ i, i < len → ∃ y, Y i = some y ∧ W.cells? 0 (a.add (i * P.cellsOf e)) (P.cellsOf e) = some y.2 ∧ R y.1 y.2 :=
  ⟨fun i => if h : i < len then some (each i h).choose else none, fun i hi => ⟨_, dif_pos hi, (each i hi).choose_spec⟩⟩
 by_cases hl0 : len = 0
 ·subst hl0
  exact ⟨[], some a, 0, cap, [], rfl, Rd.nil _ _ _ _ hm _, rfl, hcap, fun i h => by simp at h⟩
 obtain ⟨y0, _⟩ := hY 0 (by omega)
 obtain ⟨Y', hY'⟩ : ∃ Y' : Nat → α × List Value, ∀ i, i < len → Y i = some (Y' i) := ⟨fun i => (Y i).getD y0, fun i hi => by
  obtain ⟨y, hy, _⟩ := hY i hi
  show Y i = some ((Y i).getD y0)
  rw [hy]; rfl⟩
 replace hY : ∀ i, i < len → W.cells? 0 (a.add (i * P.cellsOf e)) (P.cellsOf e) = some (Y' i).2 ∧ R (Y' i).1 (Y' i).2 := fun i hi => by
  obtain ⟨y, hy, h1⟩ := hY i hi
  rw [hY' i hi] at hy
  injection hy with hy
  rw [hy]; exact h1
 clear hY' each
 obtain ⟨Y, rfl⟩ : ∃ Y, Y = Y' := ⟨_, rfl⟩
 have hlenY : ∀ i, i < len → (Y i).2.length = size := fun i hi => by rw [← hc]; exact (World.cells?_some (hY i hi).1).2.1
 have hchunk : ∀ (k : Nat), k ≤ len → ((List.range k).flatMap fun i => (Y i).2).length = k * size ∧ ∀ i, i < k → ((((List.range k).flatMap fun i => (Y i).2).drop (i * size)).take size) = (Y i).2 := by
  intro k
  induction k with
  | zero => intro _; simp
  | succ k ih =>
   intro hk
   obtain ⟨h1, h2⟩ := ih (by omega)
   have hlk := hlenY k (by omega)
   rw [List.range_succ, List.flatMap_append]
   simp only [List.flatMap_cons, List.flatMap_nil, List.append_nil]
   refine ⟨by rw [List.length_append, h1, hlk, Nat.succ_mul], fun i hi => ?_⟩
   rcases Nat.lt_or_ge i k with hik | hik
   ·have : i * size + size ≤ k * size := by rw [← Nat.succ_mul]; exact Nat.mul_le_mul_right _ hik
    rw [List.drop_append_of_le_length (by rw [h1]; omega), List.take_append_of_le_length (by rw [List.length_drop, h1]; omega)]
    exact h2 i hik
   ·obtain rfl : i = k := by omega
    rw [List.drop_append, h1, Nat.sub_self, List.drop_of_length_le (by rw [h1]; exact Nat.le_refl _), List.drop_zero, List.nil_append, List.take_of_length_le (by omega)]
 obtain ⟨hL, hCh⟩ := hchunk len (Nat.le_refl _)
 refine ⟨(List.range len).map fun i => (Y i).1, some a, len, cap, (List.range len).flatMap fun i => (Y i).2, rfl, ⟨hL, hl, hm, fun hn => ?_⟩, by simp, hcap, fun i hi => ?_⟩
 ·obtain ⟨_, _, hcell0⟩ := World.cells?_some (hY 0 hn).1
  have h0 := hcell0 0 (by omega)
  have h0' : W.cell? a = (Y 0).2[0]? := by
   rw [← h0]; congr 1
   simp [Addr.add]
  have hs0 : (Y 0).2[0]? = some ((Y 0).2[0]'(by rw [hlenY 0 hn]; exact hpos)) := List.getElem?_eq_getElem _
  rw [hs0] at h0'
  obtain ⟨b, off, spot⟩ := a
  have hspot : spot = none := World.cell?_spot h0'
  subst hspot
  refine ⟨b, off, rfl, World.block_lt_of_cell? W _ h0', fun j u hu => ?_⟩
  have hj : j < len * size := by rw [← hL]; exact (List.getElem?_eq_some_iff.1 hu).1
  have hq : j / size < len := (Nat.div_lt_iff_lt_mul hpos).2 hj
  have hr' : j % size < size := Nat.mod_lt _ hpos
  have hjj : j / size * size + j % size = j := by rw [Nat.mul_comm]; exact Nat.div_add_mod j size
  obtain ⟨_, _, hcq⟩ := World.cells?_some (hY (j / size) hq).1
  have h3 := hcq (j % size) (by rw [hc]; exact hr')
  rw [hc] at h3
  have h4 : (Y (j / size)).2[j % size]? = some u := by
   rw [← hCh _ hq, List.getElem?_take, if_pos hr', List.getElem?_drop, hjj]; exact hu
  rw [h4] at h3
  rw [← h3]
  congr 1
  unfold Addr.add
  split <;> split <;> simp_all <;> omega
 ·simp only [List.getElem_map, List.getElem_range]
  have hi' : i < len := by simpa using hi
  rw [hCh i hi']
  exact (hY i hi').2


/-- the fields of a struct -/
theorem trodN_field {t fuel : Nat} {cs : List Value} {d : DataW H} {p : List MemPlace} {fs : Array Field} (ht : P.underlying t = some (.struct fs)) (h : DataW.trod enc P W 0 (fun _ => true) true fuel t cs = some (d, p)) (hw : ∀ x ∈ d.weights P t, x ≤ reachBytes) :
  cs.length = P.cellsOf t ∧ ∀ (i : Nat) (f : Field), fs[i]? = some f → ∀ {α : Type} {R : α → List Value → Prop}, ReaderN fuel enc P W f.type R → ∃ a, R a ((cs.drop f.offset).take (P.cellsOf f.type)) := by
 obtain ⟨xs, n, hfn, hx, hl, hlen, hf⟩ := DataW.trod_struct ht h
 obtain ⟨rfl, rfl⟩ : d = _ ∧ p = _ := by simpa using hx
 refine ⟨hl, fun i f hi α R hr => ?_⟩
 have hif : i < fs.size := (Array.getElem?_eq_some_iff.1 hi).1
 have h1 := hf i f hi
 rw [List.getElem?_eq_getElem (by omega)] at h1
 refine hr n (by omega) _ _ _ h1 fun x hxm => hw x ?_
 simp only [DataW.weights, ht]
 refine DataW.weights_mem_each (j := i) (t := f.type) (d := xs[i].1) ?_ ?_ x hxm
 ·rw [List.getElem?_map, Array.getElem?_toList, hi]; rfl
 ·rw [List.getElem?_map, List.getElem?_eq_getElem (by omega)]; rfl


/-- rows of pairs -/
theorem rows_pairs {α β : Type} {f : α × β → List Value} {sz : Nat} {Q : α → β → Prop} : ∀ (L : List α) (xs : List Value), xs.length = L.length * sz → (∀ i (h : i < L.length), ∃ b, (xs.drop (i * sz)).take sz = f (L[i], b) ∧ Q L[i] b) → ∃ ys : List (α × β), ys.map (·.1) = L ∧ xs = rowC f ys ∧ ∀ p ∈ ys, Q p.1 p.2
 | [], xs, hx, _ => ⟨[], rfl, List.eq_nil_of_length_eq_zero (by simpa using hx), fun p hp => by cases hp⟩
 | a :: L, xs, hx, h => by
  obtain ⟨b, h1, h2⟩ := h 0 (by simp)
  rw [Nat.zero_mul, List.drop_zero] at h1
  have hl : (xs.drop sz).length = L.length * sz := by rw [List.length_drop, hx, List.length_cons, Nat.succ_mul]; omega
  obtain ⟨ys, e1, e2, e3⟩ := rows_pairs L (xs.drop sz) hl (fun i hi => by
   obtain ⟨c, h3, h4⟩ := h (i + 1) (by simp; omega)
   refine ⟨c, ?_, h4⟩
   rw [Nat.succ_mul, Nat.add_comm] at h3
   rw [List.drop_drop]
   exact h3)
  refine ⟨(a, b) :: ys, by rw [List.map_cons, e1], ?_, fun p hp => ?_⟩
  ·rw [rowC_cons, ← e2]
   have h1' : xs.take sz = f (a, b) := h1
   rw [← h1']
   exact (List.take_append_drop sz xs).symm
  ·rcases List.mem_cons.1 hp with rfl | hp
   ·exact h2
   ·exact e3 p hp
theorem txs_row {xs : List Value} : ∀ {L : List (List UInt8)}, xs.length = L.length * 1 → (∀ i (h : i < L.length), RStr L[i] ((xs.drop (i * 1)).take 1)) → xs = L.map txV ∧ ∀ k ∈ L, k.length ≤ 140737488351232 := by
 intro L
 induction L generalizing xs with
 | nil => intro hx _; exact ⟨List.eq_nil_of_length_eq_zero (by simpa using hx), fun k hk => by cases hk⟩
 | cons a L ih =>
  intro hx h
  match xs, hx with
  | x :: xs, hx =>
   have h0 := h 0 (by simp)
   obtain ⟨h01, h02⟩ := h0
   simp at h01 h02
   obtain ⟨e1, e2⟩ := ih (xs := xs) (by simpa using hx) (fun i hi => by
    have := h (i + 1) (by simp; omega)
    rw [show (i + 1) * 1 = i * 1 + 1 by omega, List.drop_succ_cons] at this
    exact this)
   refine ⟨by rw [List.map_cons, ← e1, h01]; rfl, fun k hk => ?_⟩
   rcases List.mem_cons.1 hk with rfl | hk
   ·exact h02
   ·exact e2 k hk
end
variable {H : Type} {enc : TypeId × Value → H} {W : World}
def RVal (W : World) (v : Vl) (cs : List Value) : Prop := ∃ h, cs = vlC (v, h) ∧ RV W (fun g => g < W.heap.size) v h
theorem cells5v {cs : List Value} {a b c d e : Value} (hl : cs.length = 5) (h0 : (cs.drop 0).take 1 = [a]) (h1 : (cs.drop 1).take 1 = [b]) (h2 : (cs.drop 2).take 1 = [c]) (h3 : (cs.drop 3).take 1 = [d]) (h4 : (cs.drop 4).take 1 = [e]) : cs = [a, b, c, d, e] := by
 match cs, hl with
 | [x, y, z, u, v], _ => simp_all
theorem rdx_of {w : World} {size n c : Nat} {A : Option Addr} {xs : List Value} (h : Rd w w.heap.size size A n c xs) : RdX w (fun g => g < w.heap.size) size A n c xs := ⟨h, fun hn g hg => by
 obtain ⟨b, off, e, hb, _⟩ := h.at_ hn
 subst e
 injection hg with hg
 rw [← hg]; exact hb⟩
theorem bounds_u64 {x : Int} (h : (Lit.int .u64 x).wf = true) : 0 ≤ x ∧ x < 18446744073709551616 := by
 have e1 : IntKind.u64.min = 0 := by decide
 have e2 : IntKind.u64.max = 18446744073709551615 := by decide
 simp only [Lit.wf, e1, e2, Bool.and_eq_true, decide_eq_true_eq] at h
 omega
set_option maxRecDepth 20000 in
theorem readerN_val : ∀ N, ReaderN N enc Tryz.prog W 69 (RVal W) := by
 intro N
 induction N with
 | zero => intro fuel hf; omega
 | succ N ih =>
  intro fuel hfu cs d p h hw
  obtain ⟨hl, hf⟩ := trodN_field Tryz.underlying69 h hw
  obtain ⟨n0, h0, w0⟩ := hf 0 _ rfl (reader_int (k := .u8) Tryz.underlying65).at
  obtain ⟨n1, h1, w1⟩ := hf 1 _ rfl (reader_int (k := .u64) Tryz.underlying63).at
  obtain ⟨l2, h2, w2⟩ := hf 2 _ rfl (reader_str Tryz.underlying9).at
  obtain ⟨L3, A3, n3, c3, xs3, h3, r3, e3, b3, f3⟩ := hf 3 _ rfl (reader_slice Tryz.underlying66 (by kernel_rfl : Tryz.prog.cellsOf 9 = 1) (by kernel_rfl : Tryz.prog.bytesOf 9 = 16) (by omega) (reader_str Tryz.underlying9)).at
  have hN : ReaderN fuel enc Tryz.prog W 69 (RVal W) := fun fu hfu' => ih fu (by omega)
  have hsl := readerN_slice (enc := enc) (P := Tryz.prog) (W := W) (N := fuel) (t := 67) Tryz.underlying67 (by kernel_rfl : Tryz.prog.cellsOf 69 = 5) (by kernel_rfl : Tryz.prog.bytesOf 69 = 80) (by omega) hN
  obtain ⟨L4, A4, n4, c4, xs4, h4, r4, e4, b4, f4⟩ := hf 4 _ rfl (fun fu hfu' => hsl fu (by omega))
  have k0 := bounds_u8 w0
  have k1 := bounds_u64 w1
  rw [(by kernel_rfl : Tryz.prog.cellsOf 69 = 5)] at hl
  have e0 : n0 = ((n0.toNat : Nat) : Int) := by omega
  have e1 : n1 = ((n1.toNat : Nat) : Int) := by omega
  rw [e0] at h0
  rw [e1] at h1
  subst e3 e4
  obtain ⟨ys, y1, y2, y3⟩ := rows_pairs (f := vlC) (sz := 5) (Q := fun v h => RV W (fun g => g < W.heap.size) v h) L4 xs4 (by rw [r4.len]) f4
  obtain ⟨t1, t2⟩ := txs_row (by rw [r3.len]) f3
  subst t1 y2
  have hcs := cells5v hl h0 h1 h2 h3 h4
  refine ⟨.mk n0.toNat n1.toNat l2 L3 L4, ⟨A3, c3, A4, c4⟩, hcs, ys, by show n0.toNat < 256; omega, by show n1.toNat < _; omega, w2, rdx_of r3, t2, by show L3.length ≤ _; have := r3.cap; omega, by show L4.length ≤ _; have := r4.cap; omega, rdx_of r4, y1, y3⟩
theorem reader_val : Reader enc Tryz.prog W 69 (RVal W) := ReaderN.all readerN_val
end Go.PH
end
section
/- Which values can be looked at: the walks of the document's small and Small. -/
namespace Go.PH
open Go.RowKit Go.Proofs

end Go.PH
end
section
/- Values that are no greater than may be looked at. No program in sight. -/
namespace Go.PH

end Go.PH
end
section
/- A value in memory of its own: the walk of the document's Copy. -/
namespace Go.PH
open Go.RowKit Go.Proofs

theorem slTx : SlT Tryz.prog 66 9 1 16 (.string ⟨#[]⟩) := SlT.mk' Tryz.underlying66 (by kernel_rfl) rfl (by omega)
theorem slVl : SlT Tryz.prog 67 69 5 80 (.agg #[.int .u8 0, .int .u64 0, .string ⟨#[]⟩, .slice none 0 0, .slice none 0 0]) := SlT.mk' Tryz.underlying67 (by kernel_rfl) rfl (by omega)
/-- blocks from base on, but those of a row -/
def FB (base : Nat) (A : Option Addr) (w : World) : Nat → Prop := fun g => base ≤ g ∧ g < w.heap.size ∧ blk A ≠ some g
/-- fresh blocks -/
def FN (base : Nat) (w : World) : Nat → Prop := fun g => base ≤ g ∧ g < w.heap.size
/-- what a round has made: the parts so far, the keys -/
structure CpS (wr : World) (base : Nat) (K : List (List UInt8)) (AK : Option Addr) (cK : Nat) (A : Option Addr) (c : Nat) (xs : List (Vl × VH)) : Prop where
 own : Own wr base 69 5 A xs.length c (rowC vlC xs)
 el : ∀ p ∈ xs, RV wr (FB base A wr) p.1 p.2
 ky : RdX wr (FB base A wr) 1 AK K.length cK (K.map txV)
theorem CpS.on {wr wr' : World} {base : Nat} {K : List (List UInt8)} {AK : Option Addr} {cK : Nat} {A : Option Addr} {c : Nat} {xs : List (Vl × VH)} (h : CpS wr base K AK cK A c xs) (hk : ∀ g, base ≤ g → g < wr.heap.size → wr'.heap[g]? = wr.heap[g]?) (hs : wr.heap.size ≤ wr'.heap.size) : CpS wr' base K AK cK A c xs := by
 have hF : ∀ g, FB base A wr g → FB base A wr' g := fun g hg => ⟨hg.1, Nat.lt_of_lt_of_le hg.2.1 hs, hg.2.2⟩
 refine ⟨?_, fun p hp => ((h.el p hp).keep (fun g hg => hk g hg.1 hg.2.1) hs).mono hF, (h.ky.keep (fun g hg => hk g hg.1 hg.2.1) hs).mono hF⟩
 have ho := h.own
 unfold Own World.ownsRow at ho ⊢
 obtain ⟨hl, h1⟩ := ho
 refine ⟨hl, h1.imp id ?_⟩
 rintro ⟨g, cap, cur, hv, hb, hh, hr⟩
 exact ⟨g, cap, cur, hv, hb, (hk g hb (Array.getElem?_eq_some_iff.1 hh).1).trans hh, hr⟩
theorem CpS.below {wr wr' : World} {base : Nat} {K : List (List UInt8)} {AK : Option Addr} {cK : Nat} {A : Option Addr} {c : Nat} {xs : List (Vl × VH)} (h : CpS wr base K AK cK A c xs) (hB : Below wr.heap.size wr wr') : CpS wr' base K AK cK A c xs := h.on (fun g _ hg => hB.block g hg) hB.size
theorem CpS.box {wr wr' : World} {base b : Nat} {K : List (List UInt8)} {AK : Option Addr} {cK : Nat} {A : Option Addr} {c : Nat} {xs : List (Vl × VH)} (h : CpS wr base K AK cK A c xs) (hg : wr.grownBy wr' (some b)) (hb : b < base) : CpS wr' base K AK cK A c xs :=
 h.on (fun g hg1 hg2 => hg.block g hg2 (fun e => by injection e with e; omega)) hg.size
/-- one more part -/
theorem CpS.push {wr w5 w6 : World} {base : Nat} {K : List (List UInt8)} {AK : Option Addr} {cK : Nat} {A A2 : Option Addr} {c c2 : Nat} {xs : List (Vl × VH)} {x : Vl} {hx : VH} (h : CpS wr base K AK cK A c xs) (hbs : base ≤ wr.heap.size) (hB : Below wr.heap.size wr w5) (hv : RV w5 (FN wr.heap.size w5) x hx)
  (ho : Own w6 base 69 5 A2 (xs.length + 1) c2 (rowC vlC (xs ++ [(x, hx)]))) (hg : w5.grownBy w6 (blk A)) (hA : blk A2 = blk A ∨ ∀ g, blk A2 = some g → w5.heap.size ≤ g) : CpS w6 base K AK cK A2 c2 (xs ++ [(x, hx)]) := by
 have h5 := h.below hB
 have hAl : ∀ g, blk A = some g → g < wr.heap.size := fun g hg => (h.own.blk_lt hg).2
 have hF : ∀ g, FB base A w5 g → FB base A2 w6 g := fun g hg1 => ⟨hg1.1, Nat.lt_of_lt_of_le hg1.2.1 hg.size, by
  rcases hA with e | e
  ·rw [e]; exact hg1.2.2
  ·intro e2; have := e g e2; have := hg1.2.1; omega⟩
 have hk : ∀ g, FB base A w5 g → w6.heap[g]? = w5.heap[g]? := fun g hg1 => hg.block g hg1.2.1 (fun e => hg1.2.2 e.symm)
 refine ⟨by rw [List.length_append]; exact ho, fun p hp => ?_, (h5.ky.keep hk hg.size).mono hF⟩
 rcases List.mem_append.1 hp with hp | hp
 ·exact ((h5.el p hp).keep hk hg.size).mono hF
 ·obtain rfl := List.mem_singleton.1 hp
  have hFN : ∀ g, FN wr.heap.size w5 g → FB base A w5 g := fun g hg1 => ⟨Nat.le_trans hbs hg1.1, hg1.2, fun e => by have := hAl g e; have := hg1.1; omega⟩
  exact (((hv.mono hFN).keep hk hg.size).mono hF)
end Go.PH
end
section
/- What a reader of values makes in memory: parts and keys in rows of their own. -/
namespace Go.PH
open Go.RowKit Go.Proofs

/-- blocks from base on, but those of two rows -/
def FB2 (base : Nat) (A AK : Option Addr) (w : World) : Nat → Prop := fun g => base ≤ g ∧ g < w.heap.size ∧ blk A ≠ some g ∧ blk AK ≠ some g
structure MnS (wr : World) (base : Nat) (K : List (List UInt8)) (AK : Option Addr) (cK : Nat) (A : Option Addr) (c : Nat) (xs : List (Vl × VH)) : Prop where
 own : Own wr base 69 5 A xs.length c (rowC vlC xs)
 kown : Own wr base 9 1 AK K.length cK (K.map txV)
 ne : ∀ g, blk A = some g → blk AK ≠ some g
 el : ∀ p ∈ xs, RV wr (FB2 base A AK wr) p.1 p.2
theorem own_on {wr wr' : World} {base e size n c : Nat} {A : Option Addr} {ys : List Value} (h : Own wr base e size A n c ys) (hk : ∀ g, base ≤ g → g < wr.heap.size → wr'.heap[g]? = wr.heap[g]?) : Own wr' base e size A n c ys := by
 unfold Own World.ownsRow at h ⊢
 obtain ⟨hl, h1⟩ := h
 refine ⟨hl, h1.imp id ?_⟩
 rintro ⟨g, cap, cur, hv, hb, hh, hr⟩
 exact ⟨g, cap, cur, hv, hb, (hk g hb (Array.getElem?_eq_some_iff.1 hh).1).trans hh, hr⟩
section
variable {wr wr' w5 w6 : World} {base : Nat} {K : List (List UInt8)} {AK A A2 : Option Addr} {cK c c2 : Nat} {xs : List (Vl × VH)}
theorem MnS.on (h : MnS wr base K AK cK A c xs) (hk : ∀ g, base ≤ g → g < wr.heap.size → wr'.heap[g]? = wr.heap[g]?) (hs : wr.heap.size ≤ wr'.heap.size) : MnS wr' base K AK cK A c xs := by
 have hF : ∀ g, FB2 base A AK wr g → FB2 base A AK wr' g := fun g hg => ⟨hg.1, Nat.lt_of_lt_of_le hg.2.1 hs, hg.2.2⟩
 exact ⟨own_on h.own hk, own_on h.kown hk, h.ne, fun p hp => ((h.el p hp).keep (fun g hg => hk g hg.1 hg.2.1) hs).mono hF⟩
theorem MnS.below (h : MnS wr base K AK cK A c xs) (hB : Below wr.heap.size wr wr') : MnS wr' base K AK cK A c xs := h.on (fun g _ hg => hB.block g hg) hB.size
theorem MnS.box {b : Nat} (h : MnS wr base K AK cK A c xs) (hg : wr.grownBy wr' (some b)) (hb : b < base) : MnS wr' base K AK cK A c xs :=
 h.on (fun g hg1 hg2 => hg.block g hg2 (fun e => by injection e with e; omega)) hg.size
theorem MnS.nil (wr : World) (base : Nat) : MnS wr base [] none 0 none 0 [] := ⟨Own.none_ _ _ _ _, Own.none_ _ _ _ _, fun g h => (by cases h), fun p hp => (by cases hp)⟩
/-- one more key -/
theorem MnS.pushK {k : List UInt8} (h : MnS w5 base K AK cK A c xs) (ho : Own w6 base 9 1 A2 (K.length + 1) c2 ((K ++ [k]).map txV)) (hg : w5.grownBy w6 (blk AK)) (hA : blk A2 = blk AK ∨ ∀ g, blk A2 = some g → w5.heap.size ≤ g) : MnS w6 base (K ++ [k]) A2 c2 A c xs := by
 have hAl : ∀ g, blk A = some g → g < w5.heap.size := fun g hg => (h.own.blk_lt hg).2
 refine ⟨own_stays h.own hg (fun g hg e => h.ne g hg e), by rw [List.length_append]; exact ho, fun g hg e => ?_, fun p hp => ?_⟩
 ·rcases hA with e2 | e2
  ·exact h.ne g hg (by rw [← e2, e])
  ·have := hAl g hg; have := e2 g e; omega
 ·have hk : ∀ g, FB2 base A AK w5 g → w6.heap[g]? = w5.heap[g]? := fun g hg1 => hg.block g hg1.2.1 (fun e => hg1.2.2.2 e.symm)
  have hF : ∀ g, FB2 base A AK w5 g → FB2 base A A2 w6 g := fun g hg1 => ⟨hg1.1, Nat.lt_of_lt_of_le hg1.2.1 hg.size, hg1.2.2.1, by
   rcases hA with e | e
   ·rw [e]; exact hg1.2.2.2
   ·intro e2; have := e g e2; have := hg1.2.1; omega⟩
  exact ((h.el p hp).keep hk hg.size).mono hF
/-- one more part -/
theorem MnS.push {W4 : Nat} {x : Vl} {hx : VH} (h : MnS w5 base K AK cK A c xs) (h4 : ∀ g, blk A = some g ∨ blk AK = some g → g < W4) (hbs : base ≤ W4) (hv : RV w5 (FN W4 w5) x hx)
  (ho : Own w6 base 69 5 A2 (xs.length + 1) c2 (rowC vlC (xs ++ [(x, hx)]))) (hg : w5.grownBy w6 (blk A)) (hA : blk A2 = blk A ∨ ∀ g, blk A2 = some g → w5.heap.size ≤ g) : MnS w6 base K AK cK A2 c2 (xs ++ [(x, hx)]) := by
 have hKl : ∀ g, blk AK = some g → g < w5.heap.size := fun g hg => (h.kown.blk_lt hg).2
 have hF : ∀ g, FB2 base A AK w5 g → FB2 base A2 AK w6 g := fun g hg1 => ⟨hg1.1, Nat.lt_of_lt_of_le hg1.2.1 hg.size, by
  rcases hA with e | e
  ·rw [e]; exact hg1.2.2.1
  ·intro e2; have := e g e2; have := hg1.2.1; omega, hg1.2.2.2⟩
 have hk : ∀ g, FB2 base A AK w5 g → w6.heap[g]? = w5.heap[g]? := fun g hg1 => hg.block g hg1.2.1 (fun e => hg1.2.2.1 e.symm)
 refine ⟨by rw [List.length_append]; exact ho, own_stays h.kown hg (fun g hg e => h.ne g e hg), fun g hg e => ?_, fun p hp => ?_⟩
 ·rcases hA with e2 | e2
  ·exact h.ne g (by rw [← e2, hg]) e
  ·have := hKl g e; have := e2 g hg; omega
 rcases List.mem_append.1 hp with hp | hp
 ·exact ((h.el p hp).keep hk hg.size).mono hF
 ·obtain rfl := List.mem_singleton.1 hp
  have hFN : ∀ g, FN W4 w5 g → FB2 base A AK w5 g := fun g hg1 => ⟨Nat.le_trans hbs hg1.1, hg1.2, fun e => by have := h4 g (.inl e); have := hg1.1; omega, fun e => by have := h4 g (.inr e); have := hg1.1; omega⟩
  exact (((hv.mono hFN).keep hk hg.size).mono hF)
/-- what was read stays, and lies aside from the rows -/
theorem MnS.fresh {W4 : Nat} {x : Vl} {hx : VH} (h : MnS w5 base K AK cK A c xs) (h4 : ∀ g, blk A = some g ∨ blk AK = some g → g < W4) (hbs : base ≤ W4) (hv : RV w5 (FN W4 w5) x hx)
  (hg : w5.grownBy w6 (blk A)) (hA : blk A2 = blk A ∨ ∀ g, blk A2 = some g → w5.heap.size ≤ g) : RV w6 (FB2 base A2 AK w6) x hx := by
 have hF : ∀ g, FB2 base A AK w5 g → FB2 base A2 AK w6 g := fun g hg1 => ⟨hg1.1, Nat.lt_of_lt_of_le hg1.2.1 hg.size, by
  rcases hA with e | e
  ·rw [e]; exact hg1.2.2.1
  ·intro e2; have := e g e2; have := hg1.2.1; omega, hg1.2.2.2⟩
 have hk : ∀ g, FB2 base A AK w5 g → w6.heap[g]? = w5.heap[g]? := fun g hg1 => hg.block g hg1.2.1 (fun e => hg1.2.2.1 e.symm)
 have hFN : ∀ g, FN W4 w5 g → FB2 base A AK w5 g := fun g hg1 => ⟨Nat.le_trans hbs hg1.1, hg1.2, fun e => by have := h4 g (.inl e); have := hg1.1; omega, fun e => by have := h4 g (.inr e); have := hg1.1; omega⟩
 exact (((hv.mono hFN).keep hk hg.size).mono hF)
/-- the last part written -/
theorem MnS.setlast {z : Vl × VH} {x : Vl} {hx : VH} (h : MnS w5 base K AK cK A c (xs ++ [z])) (hv : RV w5 (FB2 base A AK w5) x hx) (ho : Own w6 base 69 5 A (xs.length + 1) c (rowC vlC (xs ++ [(x, hx)]))) (hg : w5.grownBy w6 (blk A)) : MnS w6 base K AK cK A c (xs ++ [(x, hx)]) := by
 have hF : ∀ g, FB2 base A AK w5 g → FB2 base A AK w6 g := fun g hg1 => ⟨hg1.1, Nat.lt_of_lt_of_le hg1.2.1 hg.size, hg1.2.2⟩
 have hk : ∀ g, FB2 base A AK w5 g → w6.heap[g]? = w5.heap[g]? := fun g hg1 => hg.block g hg1.2.1 (fun e => hg1.2.2.1 e.symm)
 refine ⟨by rw [List.length_append]; exact ho, own_stays h.kown hg (fun g hg e => h.ne g e hg), h.ne, fun p hp => ?_⟩
 rcases List.mem_append.1 hp with hp | hp
 ·exact ((h.el p (List.mem_append_left _ hp)).keep hk hg.size).mono hF
 ·obtain rfl := List.mem_singleton.1 hp
  exact (hv.keep hk hg.size).mono hF
/-- the value that they make -/
theorem MnS.rv {B : Nat} {k : Nat} (h : MnS wr base K AK cK A c xs) (hB : B ≤ base) (hk : k < 256) (hkl : ∀ x ∈ K, x.length ≤ 140737488351232) (h1 : K.length ≤ 140737488351232) (h2 : xs.length ≤ 140737488351232) : RV wr (FN B wr) (.mk k 0 [] K (xs.map (·.1))) ⟨AK, cK, A, c⟩ := by
 have hFB : ∀ g, FB2 base A AK wr g → FN B wr g := fun g hg => ⟨Nat.le_trans hB hg.1, hg.2.1⟩
 refine ⟨xs, hk, (by show (0 : Nat) < _; decide), (by show (0 : Nat) ≤ _; omega), RdX.of_own h.kown (fun g hg => ?_), hkl, h1, (by show (xs.map (·.1)).length ≤ _; simpa using h2), ?_, rfl, fun p hp => (h.el p hp).mono hFB⟩
 ·have := h.kown.blk_lt hg
  exact ⟨by omega, this.2⟩
 ·have ho := h.own
  show RdX wr (FN B wr) 5 A (xs.map (·.1)).length c (rowC vlC xs)
  rw [List.length_map]
  refine RdX.of_own ho (fun g hg => ?_)
  have := ho.blk_lt hg
  exact ⟨by omega, this.2⟩
end
/-- nothing is other than it was, but for two blocks -/
def KP (B pb vb : Nat) (w w' : World) : Prop := Below B w w' ∧ ∀ g, g < w.heap.size → g ≠ pb → g ≠ vb → w'.heap[g]? = w.heap[g]?
section
variable {B pb vb : Nat} {a w w' : World}
theorem KP.refl (B pb vb : Nat) (w : World) : KP B pb vb w w := ⟨Below.refl _ _, fun _ _ _ _ => rfl⟩
theorem KP.size (h : KP B pb vb a w) : a.heap.size ≤ w.heap.size := h.1.size
theorem KP.trans (h : KP B pb vb a w) (k : KP B pb vb w w') : KP B pb vb a w' := ⟨h.1.trans k.1, fun g hg h1 h2 => (k.2 g (Nat.lt_of_lt_of_le hg h.size) h1 h2).trans (h.2 g hg h1 h2)⟩
theorem KP.below (h : KP B pb vb a w) (hb : B ≤ a.heap.size) (k : Below w.heap.size w w') : KP B pb vb a w' := h.trans ⟨k.mono (Nat.le_trans hb h.size), fun g hg _ _ => k.block g hg⟩
theorem KP.grown (h : KP B pb vb a w) (hb : B ≤ a.heap.size) {row : Option Nat} (hg : w.grownBy w' row) (hr : ∀ g, row = some g → B ≤ g ∧ (g = pb ∨ g = vb ∨ a.heap.size ≤ g)) : KP B pb vb a w' :=
 ⟨h.1.grown hg (Nat.le_trans hb h.size) (fun g e => (hr g e).1), fun g hlt h1 h2 => (hg.block g (Nat.lt_of_lt_of_le hlt h.size) (fun e => by rcases (hr g e.symm).2 with e | e | e <;> omega)).trans (h.2 g hlt h1 h2)⟩
theorem KP.drew (h : KP B pb vb a w) : KP B pb vb a w.drew := ⟨below_drewN h.1 1, h.2⟩
theorem KP.box {g : Nat} {t : TypeId} {cs : Array Value} (h : KP B pb vb w w') (hb : Box w g t cs) (h1 : g ≠ pb) (h2 : g ≠ vb) : Box w' g t cs := (h.2 g hb.lt h1 h2).trans hb
theorem KP.own {base e size n c : Nat} {A : Option Addr} {ys : List Value} (h : KP B pb vb w w') (ho : Own w base e size A n c ys) (h1 : pb < base) (h2 : vb < base) : Own w' base e size A n c ys := own_on ho (fun g hg1 hg2 => h.2 g hg2 (by omega) (by omega))
theorem KP.mns {base : Nat} {K : List (List UInt8)} {AK A : Option Addr} {cK c : Nat} {xs : List (Vl × VH)} (h : KP B pb vb w w') (ho : MnS w base K AK cK A c xs) (h1 : pb < base) (h2 : vb < base) : MnS w' base K AK cK A c xs := ho.on (fun g hg1 hg2 => h.2 g hg2 (by omega) (by omega)) h.size
end
end Go.PH
end
section
/- The reader's 'must': the walk of the program. -/
namespace Go.PH
open Go.RowKit Go.Proofs

/-- the panic of a reader that must stop -/
def PAN : List PanicEntry := [{ v := .iface 173 (.agg #[]), recovered := false }]
theorem must_yes {F : Nat → Prop} {w : World} {v : Value} {vb : Option Nat} {l : List UInt8} (h : Rdr F w v vb l false) {pb : Nat} {n : Int} (hp : Box w pb 177 #[v, .int .i64 n]) :
  Calls Tryz.prog 98 #[.pointer (some ⟨pb, 0, none⟩), .bool true] w fun e w' => e = .returned (.tuple #[]) ∧ w' = w := by
 have hb := rdbad_any h
 have c0 := hp.c0
 clear h hp
 go_enter Tryz.func98, Tryz.ntmps98
 go_wp2_with (with_reducible refine h_A ?_)
 refine hb.mono ?_
 rintro e w' ⟨rfl, rfl⟩
 go_wp2_with (with_reducible refine h_A ?_)
 go_end0
 exact ⟨rfl, rfl⟩
theorem must_no {F : Nat → Prop} {w : World} {v : Value} {vb : Option Nat} {l : List UInt8} {bad : Bool} (h : Rdr F w v vb l bad) {pb : Nat} {n : Int} (hp : Box w pb 177 #[v, .int .i64 n]) (is : Bool) (hno : is = false ∨ bad = true) :
  Calls Tryz.prog 98 #[.pointer (some ⟨pb, 0, none⟩), .bool is] w fun e w' => e = .panicked PAN ∧ w' = w := by
 have hb := rdbad_any h
 have c0 := hp.c0
 clear h hp
 cases is
 ·clear hno
  go_enter Tryz.func98, Tryz.ntmps98
  go_wp2_with (with_reducible refine h_A ?_)
  exact ⟨rfl, rfl, rfl⟩
 ·obtain rfl : bad = true := hno.resolve_left (by decide)
  clear hno
  go_enter Tryz.func98, Tryz.ntmps98
  go_wp2_with (with_reducible refine h_A ?_)
  refine hb.mono ?_
  rintro e w' ⟨rfl, rfl⟩
  go_wp2_with (with_reducible refine h_A ?_)
  exact ⟨rfl, rfl, rfl⟩
end Go.PH
end
section
/- UTF-8 as plain mathematics: the model's steps through a text and the document's test are one. -/
namespace Go.PH

/-- the document's step, by a text's length and first bytes: how many bytes the first sign has; 0: there is none -/
def u8N (n b0 b1 b2 b3 : Nat) : Nat :=
 if b0 < 128 then 1
 else if 194 ≤ b0 ∧ b0 ≤ 223 ∧ 1 < n ∧ 128 ≤ b1 ∧ b1 ≤ 191 then 2
 else if 224 ≤ b0 ∧ b0 ≤ 239 ∧ 2 < n ∧ 128 ≤ b1 ∧ b1 ≤ 191 ∧ (b0 = 224 → 160 ≤ b1) ∧ (b0 = 237 → b1 ≤ 159) ∧ 128 ≤ b2 ∧ b2 ≤ 191 then 3
 else if 240 ≤ b0 ∧ b0 ≤ 244 ∧ 3 < n ∧ 128 ≤ b1 ∧ b1 ≤ 191 ∧ (b0 = 240 → 144 ≤ b1) ∧ (b0 = 244 → b1 ≤ 143) ∧ 128 ≤ b2 ∧ b2 ≤ 191 ∧ 128 ≤ b3 ∧ b3 ≤ 191 then 4
 else 0
theorem u8N_le (n b0 b1 b2 b3 : Nat) (hn : 0 < n) : u8N n b0 b1 b2 b3 ≤ n := by
 unfold u8N
 repeat' split
 all_goals omega
def byteN (l : List UInt8) (k : Nat) : Nat := ((l[k]?).getD 0).toNat
theorem byteN_lt (l : List UInt8) (k : Nat) : byteN l k < 256 := UInt8.toNat_lt _
def u8step (l : List UInt8) : Nat := u8N l.length (byteN l 0) (byteN l 1) (byteN l 2) (byteN l 3)
set_option maxHeartbeats 2000000 in
theorem decodeN_step (n b0 b1 b2 b3 : Nat) (h0 : b0 < 256) (h1 : b1 < 256) (h2 : b2 < 256) (h3 : b3 < 256) :
  if u8N n b0 b1 b2 b3 = 0 then Lib.decodeN n b0 b1 b2 b3 = (65533, 1) else (Lib.decodeN n b0 b1 b2 b3).2 = u8N n b0 b1 b2 b3 ∧ ((Lib.decodeN n b0 b1 b2 b3).1 = 65533 → u8N n b0 b1 b2 b3 ≠ 1) := by
 unfold u8N
 by_cases c1 : b0 < 128
 ·simp only [c1, if_true]
  rw [if_neg (by omega)]
  unfold Lib.decodeN
  rw [if_pos c1]
  exact ⟨rfl, fun h => by simp only at h; omega⟩
 rw [if_neg c1]
 unfold Lib.decodeN
 rw [if_neg c1]
 by_cases c2 : 194 ≤ b0 ∧ b0 ≤ 223 ∧ 1 < n ∧ 128 ≤ b1 ∧ b1 ≤ 191
 ·rw [if_pos c2, if_neg (by omega), if_pos (by omega), if_pos (by omega)]
  exact ⟨rfl, fun _ => by omega⟩
 rw [if_neg c2]
 by_cases c3 : 224 ≤ b0 ∧ b0 ≤ 239 ∧ 2 < n ∧ 128 ≤ b1 ∧ b1 ≤ 191 ∧ (b0 = 224 → 160 ≤ b1) ∧ (b0 = 237 → b1 ≤ 159) ∧ 128 ≤ b2 ∧ b2 ≤ 191
 ·rw [if_pos c3, if_neg (by omega), if_neg (by omega), if_pos (by omega), if_pos (by omega)]
  exact ⟨rfl, fun _ => by omega⟩
 rw [if_neg c3]
 by_cases c4 : 240 ≤ b0 ∧ b0 ≤ 244 ∧ 3 < n ∧ 128 ≤ b1 ∧ b1 ≤ 191 ∧ (b0 = 240 → 144 ≤ b1) ∧ (b0 = 244 → b1 ≤ 143) ∧ 128 ≤ b2 ∧ b2 ≤ 191 ∧ 128 ≤ b3 ∧ b3 ≤ 191
 ·rw [if_pos c4, if_neg (by omega), if_neg (by omega), if_neg (by omega), if_pos (by omega), if_pos (by omega)]
  exact ⟨rfl, fun _ => by omega⟩
 rw [if_neg c4, if_pos rfl]
 by_cases d2 : b0 / 32 = 6 ∧ (1 < n ∧ b1 / 64 = 2)
 ·rw [if_pos d2, if_neg (by omega)]
 rw [if_neg d2]
 by_cases d3 : b0 / 16 = 14 ∧ (1 < n ∧ b1 / 64 = 2) ∧ (2 < n ∧ b2 / 64 = 2)
 ·rw [if_pos d3, if_neg (by omega)]
 rw [if_neg d3]
 by_cases d4 : b0 / 8 = 30 ∧ (1 < n ∧ b1 / 64 = 2) ∧ (2 < n ∧ b2 / 64 = 2) ∧ (3 < n ∧ b3 / 64 = 2)
 ·rw [if_pos d4, if_neg (by omega)]
 rw [if_neg d4]
/-- is a text UTF-8? -/
def utfF : Nat → List UInt8 → Bool
 | 0, l => l.isEmpty
 | f + 1, l => if l = [] then true else if u8step l = 0 then false else utfF f (l.drop (u8step l))
def utf8B (l : List UInt8) : Bool := utfF l.length l
theorem u8step_le {l : List UInt8} (h : l ≠ []) : u8step l ≤ l.length := u8N_le _ _ _ _ _ (List.length_pos_iff.2 h)
theorem utfF_more : ∀ (f : Nat) (l : List UInt8), l.length ≤ f → utfF f l = utf8B l := by
 intro f
 induction f using Nat.strongRecOn with
 | _ f ih =>
  intro l hl
  by_cases h0 : l = []
  ·subst h0
   cases f <;> rfl
  have hp := List.length_pos_iff.2 h0
  obtain ⟨k, hk⟩ : ∃ k, l.length = k + 1 := ⟨l.length - 1, by omega⟩
  obtain ⟨f, rfl⟩ : ∃ m, f = m + 1 := ⟨f - 1, by omega⟩
  unfold utf8B
  rw [hk, utfF, utfF, if_neg h0, if_neg h0]
  by_cases hs : u8step l = 0
  ·rw [if_pos hs, if_pos hs]
  ·rw [if_neg hs, if_neg hs]
   have hlen : (l.drop (u8step l)).length ≤ k := by rw [List.length_drop]; omega
   rw [ih f (by omega) _ (by omega)]
   by_cases hkf : k = f
   ·rw [hkf, ih f (by omega) _ (by omega)]
   ·rw [ih k (by omega) _ hlen]
theorem utf8B_none {l : List UInt8} (h0 : l ≠ []) (h : u8step l = 0) : utf8B l = false := by
 obtain ⟨k, hk⟩ : ∃ k, l.length = k + 1 := ⟨l.length - 1, by have := List.length_pos_iff.2 h0; omega⟩
 unfold utf8B
 rw [hk, utfF, if_neg h0, if_pos h]
theorem utf8B_some {l : List UInt8} (h0 : l ≠ []) (h : u8step l ≠ 0) : utf8B l = utf8B (l.drop (u8step l)) := by
 obtain ⟨k, hk⟩ : ∃ k, l.length = k + 1 := ⟨l.length - 1, by have := List.length_pos_iff.2 h0; omega⟩
 rw [← utfF_more k (l.drop (u8step l)) (by rw [List.length_drop]; omega)]
 conv => lhs; unfold utf8B
 rw [hk, utfF, if_neg h0, if_neg h]
/-! ### the model's step -/
theorem get!_str (s : List UInt8) (i : Nat) : ((str s).get! i).toNat = byteN s i := by
 unfold ByteArray.get! str byteN
 simp only [List.getElem!_toArray, List.getElem!_eq_getElem?_getD]
 rfl
theorem byteN_drop (s : List UInt8) (i k : Nat) : byteN (s.drop i) k = byteN s (i + k) := by
 unfold byteN
 rw [List.getElem?_drop]
theorem decode_drop (s : List UInt8) (i : Nat) : Utf8.decode (str s) i = Lib.decodeN (s.drop i).length (byteN (s.drop i) 0) (byteN (s.drop i) 1) (byteN (s.drop i) 2) (byteN (s.drop i) 3) := by
 rw [Lib.decode_at]
 simp only [get!_str, str_size, List.length_drop, byteN_drop, Nat.add_zero]
theorem decode_step (s : List UInt8) (i : Nat) : if u8step (s.drop i) = 0 then Utf8.decode (str s) i = (65533, 1) else (Utf8.decode (str s) i).2 = u8step (s.drop i) ∧ ((Utf8.decode (str s) i).1 = 65533 → u8step (s.drop i) ≠ 1) := by
 rw [decode_drop]
 exact decodeN_step _ _ _ _ _ (byteN_lt _ _) (byteN_lt _ _) (byteN_lt _ _) (byteN_lt _ _)
end Go.PH
end
section
/- Which texts are UTF-8: the walk of the program. -/
namespace Go.PH
open Go.RowKit Go.Proofs

/-- where a text's iterator stands -/
def posAt (k : Nat) (w : World) : Nat := match w.heap[k]? with | some (.stringIter _ p) => p | _ => 0
theorem posAt_eq {k p : Nat} {w : World} {s : ByteArray} (h : w.heap[k]? = some (.stringIter s p)) : posAt k w = p := by unfold posAt; rw [h]
abbrev UTabs (w : World) : Prop := Lib.Utf8Tabs 5 6 w
theorem decode_lt (s : List UInt8) (i : Nat) : (Utf8.decode (str s) i).1 < 2147483648 ∧ 1 ≤ (Utf8.decode (str s) i).2 ∧ (Utf8.decode (str s) i).2 ≤ 4 := by
 rw [decode_drop]
 have h0 := byteN_lt (s.drop i) 0
 have h1 := byteN_lt (s.drop i) 1
 have h2 := byteN_lt (s.drop i) 2
 have h3 := byteN_lt (s.drop i) 3
 unfold Lib.decodeN
 repeat' split
 all_goals (refine ⟨?_, ?_, ?_⟩ <;> (simp only; omega))
theorem decodeGo_drop (s : List UInt8) (i : Nat) (hi : i < s.length) : Lib.decodeGo (str (s.drop i)) = Utf8.decode (str s) i := by
 have h0 : (str (s.drop i)).size ≠ 0 := by rw [str_size, List.length_drop]; omega
 unfold Lib.decodeGo
 rw [if_neg h0, decode_drop, decode_drop, List.drop_zero]
theorem UTabs.on {w w' : World} (h : UTabs w) (hB : Below w.heap.size w w') : UTabs w' := by
 refine ⟨fun c hc => ?_, fun i hi => ⟨?_, ?_⟩⟩
 ·have := h.1 c hc
  exact (hB.cell (p := ⟨_, c, none⟩) (World.block_lt_of_cell? w _ this)).trans this
 ·have := (h.2 i hi).1
  exact (hB.cell (p := ⟨_, 2 * i, none⟩) (World.block_lt_of_cell? w _ this)).trans this
 ·have := (h.2 i hi).2
  exact (hB.cell (p := ⟨_, 2 * i + 1, none⟩) (World.block_lt_of_cell? w _ this)).trans this
set_option maxRecDepth 20000 in
theorem plain_any (s : List UInt8) (w : World) (hs : s.length ≤ 140737488351232) (hT : UTabs w) :
  Calls Tryz.prog 110 #[.string (str s)] w fun e w' => e = .returned (.bool (utf8B s)) ∧ Below w.heap.size w w' := by
 have hnx := fun (w : World) (k pos : Nat) ty => Lib.run_next_any_at (P := Tryz.prog) w k (str s) pos ty
 have hne := fun (w : World) (k pos : Nat) ty => Lib.run_next_end_at (P := Tryz.prog) w k (str s) pos ty
 have hsz : (str s).size = s.length := rfl
 obtain ⟨k, hk⟩ : ∃ k, k = w.heap.size := ⟨_, rfl⟩
 obtain ⟨w1, hw1⟩ : ∃ w1, w1 = w.iter (str s) 0 := ⟨_, rfl⟩
 have hk1 : w1.heap[k]? = some (.stringIter (str s) 0) := by rw [hw1, hk]; exact World.iter_heap _ _ _
 have hB1 : Below w.heap.size w w1 := by rw [hw1]; exact (Below.refl _ _).alloc (Nat.le_refl _) _
 have HK := Lib.hid hk
 go_enter Tryz.func110, Tryz.ntmps110
 go_upto_region 2 with fail
 rw [← hw1, ← hk]
 clear hw1 hk
 go_wp2_with (with_reducible refine h_A ?_)
 go_loopw [9] (fun _ wr => ∃ pos : Nat, pos ≤ s.length ∧ wr.heap[k]? = some (.stringIter (str s) pos) ∧ Hid (utf8B (s.drop pos) = utf8B s) ∧ Below w.heap.size w wr) (fun _ wr => s.length - posAt k wr)
 case atStart => exact ⟨0, by omega, hk1, Lib.hid rfl, hB1⟩
 case round =>
  clear hk1 hB1
  obtain ⟨pos, hp, hk1, HC, hB⟩ := hrel
  by_cases hlt : pos < s.length
  ·have hx := fun ty => hnx wr k pos ty hk1 hlt
   have hd := decode_step s pos
   obtain ⟨hc1, hc2, hc3⟩ := decode_lt s pos
   have hgo := decodeGo_drop s pos hlt
   obtain ⟨c, hc⟩ : ∃ c, (Utf8.decode (str s) pos).1 = c := ⟨_, rfl⟩
   obtain ⟨q, hq⟩ : ∃ q, (Utf8.decode (str s) pos).2 = q := ⟨_, rfl⟩
   have hpair : Utf8.decode (str s) pos = (c, q) := by rw [← hc, ← hq]
   rw [hc] at hc1
   rw [hq] at hc2 hc3
   rw [hpair] at hd hgo
   simp only [hc, hq] at hx
   have HD := Lib.hid hd
   have HG := Lib.hid hgo
   clear hd hc hq hpair hgo hnx hne
   have hB2 : Below w.heap.size w (wr.iterAt k (str s) (pos + q)) := Lib.below_iterAt hB (by rw [HK.out]; exact Nat.le_refl _) _ _
   have hk2 := Lib.iterAt_heap wr k (str s) pos (pos + q) hk1
   have HP := Lib.hid (posAt_eq hk1)
   generalize wr.iterAt k (str s) (pos + q) = w2 at *
   have HP2 := Lib.hid (posAt_eq hk2)
   have HN0 : Hid (s.drop pos ≠ []) := Lib.hid (by intro e; have := congrArg List.length e; rw [List.length_drop] at this; simp at this; omega)
   by_cases h65 : c = 65533
   ·have g1 : ((c : Int) == 65533) = true := by simp [h65]
    have hco := Tryz.utf8_DecodeRuneInString (str (s.drop pos)) w2 (hT.on hB2)
    rw [HG.out] at hco
    simp only at hco
    have hle := u8step_le HN0.out
    rw [List.length_drop] at hle
    by_cases hq1 : q = 1
    ·have g2 : ((q : Int) == 1) = true := by simp [hq1]
     have h0 : u8step (s.drop pos) = 0 := by
      refine Classical.byContradiction fun h0 => ?_
      have h := HD.out
      rw [if_neg h0] at h
      exact h.2 h65 (by rw [← h.1, hq1])
     have HF : Hid (utf8B s = false) := Lib.hid (by rw [← HC.out, utf8B_none HN0.out h0])
     clear h0 hq1 h65 hle
     go_wp2_with (first | (with_reducible refine hold_append ?_) | (with_reducible refine hold_make ?_) | (with_reducible refine hold_copy ?_) | (with_reducible refine hold_slice ?_) | (with_reducible refine hold_conv (s := 9) (t := 26) ?_))
     refine unhold (wp_cutS Tryz.underlying9 rfl rfl rfl (l := s) pos s.length (.inr ⟨_, _, rfl, rfl⟩) (.inl ⟨rfl, rfl⟩) (by omega) (by omega) ?_)
     rw [List.take_length]
     go_wp2_with (first | (with_reducible refine hold_append ?_) | (with_reducible refine hold_make ?_) | (with_reducible refine hold_copy ?_) | (with_reducible refine hold_slice ?_) | (with_reducible refine hold_conv (s := 9) (t := 26) ?_))
     refine hco.mono ?_
     rintro e w3 ⟨rfl, hB3⟩
     go_wp2_with (first | (with_reducible refine hold_append ?_) | (with_reducible refine hold_make ?_) | (with_reducible refine hold_copy ?_) | (with_reducible refine hold_slice ?_) | (with_reducible refine hold_conv (s := 9) (t := 26) ?_))
     go_ret
     rw [HF.out]
     exact ⟨rfl, hB2.trans (hB3.mono hB2.size)⟩
    ·have g2 : ((q : Int) == 1) = false := by simp; omega
     have hst : u8step (s.drop pos) ≠ 0 ∧ q = u8step (s.drop pos) := by
      have h := HD.out
      split at h
      ·injection h with e1 e2; exact absurd e2 hq1
      ·rename_i h0; exact ⟨h0, h.1⟩
     have HC2 : Hid (utf8B (s.drop (pos + q)) = utf8B s) := Lib.hid (by rw [← HC.out, utf8B_some HN0.out hst.1, List.drop_drop, ← hst.2])
     rw [← hst.2] at hle
     clear hst h65
     go_wp2_with (first | (with_reducible refine hold_append ?_) | (with_reducible refine hold_make ?_) | (with_reducible refine hold_copy ?_) | (with_reducible refine hold_slice ?_) | (with_reducible refine hold_conv (s := 9) (t := 26) ?_))
     refine unhold (wp_cutS Tryz.underlying9 rfl rfl rfl (l := s) pos s.length (.inr ⟨_, _, rfl, rfl⟩) (.inl ⟨rfl, rfl⟩) (by omega) (by omega) ?_)
     rw [List.take_length]
     go_wp2_with (first | (with_reducible refine hold_append ?_) | (with_reducible refine hold_make ?_) | (with_reducible refine hold_copy ?_) | (with_reducible refine hold_slice ?_) | (with_reducible refine hold_conv (s := 9) (t := 26) ?_))
     refine hco.mono ?_
     rintro e w3 ⟨rfl, hB3⟩
     have hk3 : w3.heap[k]? = some (.stringIter (str s) (pos + q)) := (hB3.block k (Array.getElem?_eq_some_iff.1 hk2).1).trans hk2
     have HP3 := Lib.hid (posAt_eq hk3)
     go_wp2_with (first | (with_reducible refine hold_append ?_) | (with_reducible refine hold_make ?_) | (with_reducible refine hold_copy ?_) | (with_reducible refine hold_slice ?_) | (with_reducible refine hold_conv (s := 9) (t := 26) ?_))
     exact ⟨⟨pos + q, by omega, hk3, HC2, hB2.trans (hB3.mono hB2.size)⟩, by rw [HP.out, HP3.out]; omega⟩
   ·have g1 : ((c : Int) == 65533) = false := by simp; omega
    have hst : u8step (s.drop pos) ≠ 0 ∧ q = u8step (s.drop pos) := by
     have h := HD.out
     split at h
     ·injection h with e1 e2; exact absurd e1 h65
     ·rename_i h0; exact ⟨h0, h.1⟩
    have HC2 : Hid (utf8B (s.drop (pos + q)) = utf8B s) := Lib.hid (by rw [← HC.out, utf8B_some HN0.out hst.1, List.drop_drop, ← hst.2])
    have hle := u8step_le HN0.out
    rw [← hst.2, List.length_drop] at hle
    clear hst h65
    go_wp2_with (with_reducible refine h_A ?_)
    exact ⟨⟨pos + q, by omega, hk2, HC2, hB2⟩, by rw [HP.out, HP2.out]; omega⟩
  ·have hx := fun ty => hne wr k pos ty hk1 hlt
   have HF : Hid (utf8B s = true) := Lib.hid (by rw [← HC.out, List.drop_eq_nil_of_le (by omega)]; rfl)
   clear hnx hne
   go_wp2_with (with_reducible refine h_A ?_)
   go_ret
   rw [HF.out]
   exact ⟨rfl, hB⟩
end Go.PH
end

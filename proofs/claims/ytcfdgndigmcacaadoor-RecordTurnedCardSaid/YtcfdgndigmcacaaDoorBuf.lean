/- A text turned into bytes that are then written: the row that the conversion makes. -/
import Derived.Test.YtcfdgndigmcacaaDoorStr
import Derived.Laws.Tables
namespace Go.PH
open Go.RowKit
section
variable {P : Program} {w w' : World} {g : Nat} {e : TypeId} {l : List UInt8} {tl : List Value}
/-- block g holds these bytes, and cells behind them, marked as a conversion's row -/
def Buf (w : World) (g : Nat) (e : TypeId) (l : List UInt8) (tl : List Value) : Prop :=
  w.heap[g]? = some (.cells (l.map u8v ++ tl).toArray e (l.length + tl.length, l.length + tl.length + 1))
theorem Buf.lt (h : Buf w g e l tl) : g < w.heap.size := (Array.getElem?_eq_some_iff.1 h).1
theorem Buf.below (h : Buf w g e l tl) (hB : Below w.heap.size w w') : Buf w' g e l tl := (hB.block g h.lt).trans h
theorem Buf.at_k (h : Buf w g e l tl) {k : Nat} (hk : k < l.length) : w.cell? ⟨g, k, none⟩ = some (.int .u8 (l[k].toNat : Int)) ∧ w.frozen? ⟨g, k, none⟩ = false ∧ ∀ x : UInt8, Buf (w.setCell ⟨g, k, none⟩ (u8v x)) g e (l.set k x) tl := by
  unfold Buf at h
  refine ⟨?_, ?_, fun x => ?_⟩
  · simp only [World.cell?, h]
    simp only [List.getElem?_toArray]
    rw [List.getElem?_append_left (by simpa using hk)]
    simp [hk, u8v]
  · simp [World.frozen?, h]; omega
  · unfold Buf
    rw [setCell_eq_setRow w g k _ e _ (u8v x) h, setRow_heap w g _ _ e _ h, List.length_set]
    congr 3
    apply Array.ext'
    rw [Array.toList_setIfInBounds, List.map_set, List.set_append_left _ _ (by simpa using hk)]
theorem Buf.rd (h : Buf w g e l tl) {n c : Nat} (hn : l.length = n) (hc : n ≤ c) (hm : c ≤ maxLen) : RdB w w.heap.size (some ⟨g, 0, none⟩) n c l := by
  refine ⟨by simp [hn], hc, hm, fun _ => ⟨_, _, rfl, h.lt, fun j u hu => ?_⟩⟩
  have hj : j < l.length := by have := (List.getElem?_eq_some_iff.1 hu).1; simpa using this
  rw [Nat.zero_add, (h.at_k hj).1]
  simp [u8v, hj] at hu ⊢
  exact hu
theorem run_s2buf {src dst e : TypeId} (hs : P.underlying src = some .string) (hd : P.underlying dst = some (.slice e)) (he : P.underlying e = some (.int .u8)) (w : World) (l : List UInt8) (hl : l.length ≤ 140737488351240) :
    ∃ c tl w', (convert src dst (.string (str l))).run P w = .ok (.slice (some ⟨w.heap.size, 0, none⟩) l.length c) w' ∧ Buf w' w.heap.size e l tl ∧ l.length ≤ c ∧ c ≤ maxLen ∧ Below w.heap.size w w' := by
  refine ⟨_, List.replicate (grownCap w l.length 0 e - l.length) (.int .u8 0), _, Lib.run_convert_string_bytes w src dst e (str l) hs hd he, ?_, grownCap_ge _ _ _ _, grownCap_le_maxLen _ _ _ _ (by simp only [maxLen, str_size]; omega), ?_⟩
  · have h := Lib.bytesWorld_at_new w e (str l)
    have hc : Lib.bytesCells w e (str l) = (l.map u8v ++ List.replicate (grownCap w l.length 0 e - l.length) (Value.int .u8 0)).toArray := by
      apply Array.ext'
      simp [Lib.bytesCells, str, u8v]
      rfl
    unfold Buf
    rw [h, hc]
    simp
  · refine ⟨?_, ?_, ?_, by rw [Lib.bytesWorld_size]; omega, fun k hk => Lib.bytesWorld_at_old w e (str l) k hk⟩
    all_goals rfl
variable {ops : Array Oper} {rest : List Oper} {o : Oper} {a : Act} {Q : Exit → Act → World → Prop} {x : Operand}
theorem wp_s2buf {src dst e : TypeId} (hs : P.underlying src = some .string) (hd : P.underlying dst = some (.slice e)) (he : P.underlying e = some (.int .u8)) (hw : Region.wanted o (yielded ops a.tmps) = true) (ho : o.op = .convert src dst x) {l : List UInt8} (hx : a.eval x = .string (str l)) (hl : l.length ≤ 140737488351240)
    (hk : ∀ c tl w', Buf w' w.heap.size e l tl → l.length ≤ c → c ≤ maxLen → Below w.heap.size w w' → wpList P ops Q rest (a.put o.dst (.slice (some ⟨w.heap.size, 0, none⟩) l.length c)) w') : wpList P ops Q (o :: rest) a w :=
  BigFrame.wpList_want hw fun K hK => by
    obtain ⟨c, tl, w', hrun, h1, h2, h3, h4⟩ := run_s2buf hs hd he w l hl
    unfold Oper.wp execOp
    simp only [ho, hx, Sem.run_bind, Sem.run_pure, Result.andThen_ok, hrun]
    exact hK _ _ (hk c tl w' h1 h2 h3 h4)
end
end Go.PH

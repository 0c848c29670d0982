/- Texts: cut, put together, turned into bytes. -/
import Derived.Test.YtidpbbleneekgaaDoorSlB
import Derived.Test.YtidpbbleneekgaaDoorMem5
import Derived.Lib.ConvBytes
set_option linter.all false
set_option linter.unusedSimpArgs false
set_option linter.unusedVariables false
namespace Go.PH
open Go.RowKit
section
variable {P : Program} {w : World} {t : TypeId}
theorem str_extract (l : List UInt8) (a b : Nat) : (str l).extract a b = str ((l.take b).drop a) := by
  rw [List.drop_take]; exact ByteArray.extract_mk l a b
theorem str_app (a b : List UInt8) : str a ++ str b = str (a ++ b) := by
  apply ByteArray.ext
  simp [str]
theorem str_nil : str [] = ⟨#[]⟩ := rfl
theorem run_cutS (hu : P.underlying t = some .string) (w : World) {l : List UInt8} {lo hi : Option Value} (i j : Nat) (hlo : Bd lo 0 i) (hhi : Bd hi l.length j) (h1 : i ≤ j) (h2 : j ≤ l.length) :
    (Instr.sliceAt t (.string (str l)) lo hi none).run P w = .ok (.string (str ((l.take j).drop i))) w := by
  rw [run_sliceAt_string w t _ _ _ _ hu]
  rcases hlo with ⟨rfl, rfl⟩ | ⟨kd, X, rfl, rfl⟩
  · rcases hhi with ⟨rfl, rfl⟩ | ⟨kd, X, rfl, rfl⟩
    · rw [run_slice_string_all (h := hu), str_size, str_extract]
    · rw [run_slice_string_h (ht := hu) (h0 := by omega) (h2 := by rw [str_size]; omega), str_extract]; simp
  · rcases hhi with ⟨rfl, rfl⟩ | ⟨kd', X, rfl, rfl⟩
    · rw [run_slice_string_l (ht := hu) (h0 := by omega) (h1 := by rw [str_size]; omega), str_size, str_extract]; simp
    · rw [run_slice_string (h := hu) (h0 := by omega) (h1 := by omega) (h2 := by rw [str_size]; omega), str_extract]; simp
variable {ops : Array Oper} {rest : List Oper} {o : Oper} {a : Act} {Q : Exit → Act → World → Prop} {x : Operand} {K : Act → World → Prop}
theorem op_cutS {lo hi : Option Operand} (hu : P.underlying t = some .string) (ho : o.op = .slice t x lo hi none) {l : List UInt8} (hx : a.eval x = .string (str l)) (i j : Nat) (hlo : Bd (lo.map a.eval) 0 i) (hhi : Bd (hi.map a.eval) l.length j) (h1 : i ≤ j) (h2 : j ≤ l.length)
    (hk : K (a.put o.dst (.string (str ((l.take j).drop i)))) w) : o.wp P a w K Q := by
  have hrun := run_cutS hu w i j hlo hhi h1 h2
  unfold Oper.wp execOp
  simp only [ho, hx, Sem.run_bind, Sem.run_pure, Result.andThen_ok, Option.map_none, hrun]
  exact hk
theorem wp_cutS {lo hi : Option Operand} (hu : P.underlying t = some .string) (hw : Region.wanted o (yielded ops a.tmps) = true) (ho : o.op = .slice t x lo hi none) {l : List UInt8} (hx : a.eval x = .string (str l)) (i j : Nat) (hlo : Bd (lo.map a.eval) 0 i) (hhi : Bd (hi.map a.eval) l.length j) (h1 : i ≤ j) (h2 : j ≤ l.length)
    (hk : wpList P ops Q rest (a.put o.dst (.string (str ((l.take j).drop i)))) w) : wpList P ops Q (o :: rest) a w :=
  BigFrame.wpList_want hw fun K hK => op_cutS hu ho hx i j hlo hhi h1 h2 (hK _ _ hk)
/-- []byte(s) -/
theorem run_s2b {src dst e : TypeId} (hs : P.underlying src = some .string) (hd : P.underlying dst = some (.slice e)) (he : P.underlying e = some (.int .u8)) (w : World) (l : List UInt8) (hl : l.length ≤ 140737488351240) :
    ∃ c w', (convert src dst (.string (str l))).run P w = .ok (.slice (some ⟨w.heap.size, 0, none⟩) l.length c) w' ∧ RdB w' w'.heap.size (some ⟨w.heap.size, 0, none⟩) l.length c l ∧ Below w.heap.size w w' := by
  refine ⟨_, _, Lib.run_convert_string_bytes w src dst e (str l) hs hd he, ?_, ?_⟩
  · refine ⟨by simp, ?_, ?_, fun hn => ⟨_, _, rfl, by rw [Lib.bytesWorld_size]; omega, fun j u hu => ?_⟩⟩
    · exact grownCap_ge _ _ _ _
    · exact grownCap_le_maxLen _ _ _ _ (by simp only [maxLen, str_size]; omega)
    · have hj : j < l.length := by have := (List.getElem?_eq_some_iff.1 hu).1; simpa using this
      have := Lib.bytesWorld_cell w e (str l) j (by rw [str_size]; exact hj)
      simp only [Nat.zero_add]
      rw [this]
      simp [u8v, str, List.getD, hj] at hu ⊢
      exact hu
  · refine ⟨?_, ?_, ?_, by rw [Lib.bytesWorld_size]; omega, fun k hk => Lib.bytesWorld_at_old w e (str l) k hk⟩
    all_goals rfl
theorem op_s2b {src dst e : TypeId} (hs : P.underlying src = some .string) (hd : P.underlying dst = some (.slice e)) (he : P.underlying e = some (.int .u8)) (ho : o.op = .convert src dst x) {l : List UInt8} (hx : a.eval x = .string (str l)) (hl : l.length ≤ 140737488351240)
    (hk : ∀ c w', RdB w' w'.heap.size (some ⟨w.heap.size, 0, none⟩) l.length c l → Below w.heap.size w w' → K (a.put o.dst (.slice (some ⟨w.heap.size, 0, none⟩) l.length c)) w') : o.wp P a w K Q := by
  obtain ⟨c, w', hrun, h1, h2⟩ := run_s2b hs hd he w l hl
  unfold Oper.wp execOp
  simp only [ho, hx, Sem.run_bind, Sem.run_pure, Result.andThen_ok, hrun]
  exact hk _ _ h1 h2
theorem wp_s2b {src dst e : TypeId} (hs : P.underlying src = some .string) (hd : P.underlying dst = some (.slice e)) (he : P.underlying e = some (.int .u8)) (hw : Region.wanted o (yielded ops a.tmps) = true) (ho : o.op = .convert src dst x) {l : List UInt8} (hx : a.eval x = .string (str l)) (hl : l.length ≤ 140737488351240)
    (hk : ∀ c w', RdB w' w'.heap.size (some ⟨w.heap.size, 0, none⟩) l.length c l → Below w.heap.size w w' → wpList P ops Q rest (a.put o.dst (.slice (some ⟨w.heap.size, 0, none⟩) l.length c)) w') : wpList P ops Q (o :: rest) a w :=
  BigFrame.wpList_want hw fun K hK => op_s2b hs hd he ho hx hl fun c w' h1 h2 => hK _ _ (hk c w' h1 h2)
end
end Go.PH

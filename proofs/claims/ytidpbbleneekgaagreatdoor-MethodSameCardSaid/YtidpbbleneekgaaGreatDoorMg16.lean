/- Texts laid together: XdBase, XdSee. -/
import Derived.Deep.QuietTactic
import Derived.BigQuiet
import Derived.Test.YtidpbbleneekgaaGreatDoorMg02
import Derived.Test.YtidpbbleneekgaaGreatDoorMg03
import Derived.Test.YtidpbbleneekgaaGreatDoorMg06
import Derived.Test.YtidpbbleneekgaaGreatDoorMg11
section
/- Names as values; the walks of Check, OneGlobal, and the compares. -/
set_option linter.all false
set_option linter.unusedSimpArgs false
set_option linter.unusedVariables false
namespace Go.PH
open Go.RowKit Go.Proofs

set_option maxRecDepth 20000 in
theorem check_any (x : Xd) (w : World) (hw : x.wf) :
    Calls Tryz.prog 100 #[.agg (xdV x)] w fun e w' => e = .returned (.int .i64 x.err) ∧ Below w.heap.size w w' := by
  obtain ⟨f, g, h⟩ := x
  obtain ⟨h1, h2, h3⟩ := hw
  simp only at h1 h2 h3
  have hB : Below w.heap.size w (w.alloc (.cells #[.int .u32 (f : Int), .string (str g), .string (str h)] 44)) := (Below.refl _ _).alloc (Nat.le_refl _) _
  have hsg := str_size g
  have hsh := str_size h
  by_cases c1 : g = []
  · have hd1 : (str g).toList.isEmpty = true := by rw [c1, str_toList]; rfl
    have he : Xd.err ⟨f, g, h⟩ = 40 := by simp [Xd.err, Xd.ok, c1]
    rw [he]
    clear hsg hsh c1 he
    unfold xdV
    go_enter Tryz.func100, Tryz.ntmps100
    go_wp2_with (first | (with_reducible refine hold_append ?_) | (with_reducible refine hold_make ?_) | (with_reducible refine hold_copy ?_))
    go_ret
    exact ⟨rfl, hB⟩
  · have hd1 : (str g).toList.isEmpty = false := by rw [str_toList]; simpa using c1
    by_cases c2 : 64 < g.length
    · have hd2 : (64 : Int) < ((str g).size : Int) := by omega
      have he : Xd.err ⟨f, g, h⟩ = 40 := by simp [Xd.err, Xd.ok]; omega
      rw [he]
      clear hsg hsh c1 he
      unfold xdV
      go_enter Tryz.func100, Tryz.ntmps100
      go_wp2_with (first | (with_reducible refine hold_append ?_) | (with_reducible refine hold_make ?_) | (with_reducible refine hold_copy ?_))
      go_ret
      exact ⟨rfl, hB⟩
    · have hd2 : decide ((64 : Int) < ((str g).size : Int)) = false := by simp; omega
      by_cases c3 : 64 < h.length
      · have hd3 : (64 : Int) < ((str h).size : Int) := by omega
        have he : Xd.err ⟨f, g, h⟩ = 40 := by simp [Xd.err, Xd.ok]; omega
        rw [he]
        clear hsg hsh c1 he
        unfold xdV
        go_enter Tryz.func100, Tryz.ntmps100
        go_wp2_with (first | (with_reducible refine hold_append ?_) | (with_reducible refine hold_make ?_) | (with_reducible refine hold_copy ?_))
        go_ret
        exact ⟨rfl, hB⟩
      · have hd3 : ¬ (64 : Int) < ((str h).size : Int) := by omega
        have he : Xd.err ⟨f, g, h⟩ = 0 := by simp [Xd.err, Xd.ok]; exact ⟨c1, by omega, by omega⟩
        rw [he]
        clear hsg hsh c1 he
        unfold xdV
        go_enter Tryz.func100, Tryz.ntmps100
        go_wp2_with (first | (with_reducible refine hold_append ?_) | (with_reducible refine hold_make ?_) | (with_reducible refine hold_copy ?_))
        go_ret
        exact ⟨rfl, hB⟩
set_option maxRecDepth 20000 in
theorem rcheck_any (x : Xd) (w : World) (hw : x.wf) :
    Calls Tryz.prog 93 #[.agg (xdV x)] w fun e w' => e = .returned (.int .i64 x.err) ∧ Below w.heap.size w w' := by
  obtain ⟨f, g, h⟩ := x
  obtain ⟨h1, h2, h3⟩ := hw
  simp only at h1 h2 h3
  have hB : Below w.heap.size w (w.alloc (.cells #[.int .u32 (f : Int), .string (str g), .string (str h)] 44)) := (Below.refl _ _).alloc (Nat.le_refl _) _
  have hsg := str_size g
  have hsh := str_size h
  by_cases c1 : g = []
  · have hd1 : ((str g).size : Int) < 1 := by rw [hsg, c1]; decide
    have he : Xd.err ⟨f, g, h⟩ = 40 := by simp [Xd.err, Xd.ok, c1]
    rw [he]
    clear hsg hsh c1 he
    unfold xdV
    go_enter Tryz.func93, Tryz.ntmps93
    go_wp2_with (first | (with_reducible refine hold_append ?_) | (with_reducible refine hold_make ?_) | (with_reducible refine hold_copy ?_))
    go_ret
    exact ⟨rfl, hB⟩
  · have hgl : 0 < g.length := List.length_pos_iff.2 c1
    have hd1 : decide (((str g).size : Int) < 1) = false := by simp; omega
    by_cases c2 : 64 < g.length
    · have hd2 : (64 : Int) < ((str g).size : Int) := by omega
      have he : Xd.err ⟨f, g, h⟩ = 40 := by simp [Xd.err, Xd.ok]; omega
      rw [he]
      clear hsg hsh c1 he
      unfold xdV
      go_enter Tryz.func93, Tryz.ntmps93
      go_wp2_with (first | (with_reducible refine hold_append ?_) | (with_reducible refine hold_make ?_) | (with_reducible refine hold_copy ?_))
      go_ret
      exact ⟨rfl, hB⟩
    · have hd2 : decide ((64 : Int) < ((str g).size : Int)) = false := by simp; omega
      by_cases c3 : 64 < h.length
      · have hd3 : (64 : Int) < ((str h).size : Int) := by omega
        have he : Xd.err ⟨f, g, h⟩ = 40 := by simp [Xd.err, Xd.ok]; omega
        rw [he]
        clear hsg hsh c1 he
        unfold xdV
        go_enter Tryz.func93, Tryz.ntmps93
        go_wp2_with (first | (with_reducible refine hold_append ?_) | (with_reducible refine hold_make ?_) | (with_reducible refine hold_copy ?_))
        go_ret
        exact ⟨rfl, hB⟩
      · have hd3 : ¬ (64 : Int) < ((str h).size : Int) := by omega
        have he : Xd.err ⟨f, g, h⟩ = 0 := by simp [Xd.err, Xd.ok]; exact ⟨c1, by omega, by omega⟩
        rw [he]
        clear hsg hsh c1 he
        unfold xdV
        go_enter Tryz.func93, Tryz.ntmps93
        go_wp2_with (first | (with_reducible refine hold_append ?_) | (with_reducible refine hold_make ?_) | (with_reducible refine hold_copy ?_))
        go_ret
        exact ⟨rfl, hB⟩
end Go.PH
end
section
/- Reading names as the laws' arguments. -/
set_option linter.all false
set_option linter.unusedSimpArgs false
set_option linter.unusedVariables false
namespace Go.PH
open Go.RowKit Go.Proofs Go.ChangeShapes Go.WideShapes Go.ChangeAt Go.Deep
variable {H : Type} {enc : TypeId × Value → H} {W : World}

def xdC (x : Xd) : List Value := [.int .u32 (x.fmt : Int), .string (str x.glob), .string (str x.bran)]
def RXid (x : Xd) (cs : List Value) : Prop := cs = xdC x ∧ x.wf
theorem cells3x {cs : List Value} {a b c : Value} (hl : cs.length = 3) (h0 : (cs.drop 0).take 1 = [a]) (h1 : (cs.drop 1).take 1 = [b]) (h2 : (cs.drop 2).take 1 = [c]) : cs = [a, b, c] := by
  match cs, hl with
  | [x, y, z], _ => simp_all
set_option maxRecDepth 20000 in
theorem reader_xid : Reader enc Tryz.prog W 44 RXid := fun fuel cs d p h hw => by
  obtain ⟨hl, hf⟩ := trod_field Tryz.underlying44 h hw
  obtain ⟨n0, h0, w0⟩ := hf 0 _ rfl (reader_int (k := .u32) Tryz.underlying42)
  obtain ⟨l1, h1, w1⟩ := hf 1 _ rfl (reader_str Tryz.underlying9)
  obtain ⟨l2, h2, w2⟩ := hf 2 _ rfl (reader_str Tryz.underlying9)
  have b0 := bounds_u32 w0
  rw [(by kernel_rfl : Tryz.prog.cellsOf 44 = 3)] at hl
  have e0 : n0 = ((n0.toNat : Nat) : Int) := by omega
  rw [e0] at h0
  exact ⟨⟨n0.toNat, l1, l2⟩, cells3x hl h0 h1 h2, by show n0.toNat < 4294967296; omega, w1, w2⟩
set_option maxRecDepth 20000 in
theorem see_xid {d : DataW H} {ps : List MemPlace} {v : Value} {r : Reach} {b0 : Nat} (hval : Value.okWide Tryz.prog W r b0 44 v) (hd : DataW.Trod enc Tryz.prog W 0 (fun _ => true) true 44 v d ps)
    {ts : List TypeId} {ds : List (DataW H)} {j : Nat} (hz : (DataW.weightsEach Tryz.prog ts ds).all (· ≤ reachBytes) = true) (ht : ts[j]? = some 44) (hdj : ds[j]? = some d) :
    ∃ x : Xd, v = .agg (xdV x) ∧ x.wf := by
  obtain ⟨cs, rfl, _⟩ := okWide_struct Tryz.underlying44 hval
  obtain ⟨x, h1, h2⟩ := see_arg reader_xid hd hz ht hdj
  refine ⟨x, ?_, h2⟩
  simp only [Value.cells] at h1
  congr 1
  apply Array.ext'
  rw [h1]
  rfl
end Go.PH
end

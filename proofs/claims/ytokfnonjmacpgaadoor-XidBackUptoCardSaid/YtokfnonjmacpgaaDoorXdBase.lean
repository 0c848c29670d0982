/- Names as values; the walks of Check, OneGlobal, and the compares. -/
import Derived.Test.YtokfnonjmacpgaaDoorXdMath
import Derived.Test.YtokfnonjmacpgaaDoorRec
import Derived.Test.YtokfnonjmacpgaaDoorBox
import Derived.Test.YtokfnonjmacpgaaDoorStr
import Derived.Test.YtokfnonjmacpgaaDoorRegion2
import Derived.Test.YtokfnonjmacpgaaDoorRow
import Derived.Deep.QuietTactic
import Derived.BigQuiet
set_option linter.all false
set_option linter.unusedSimpArgs false
set_option linter.unusedVariables false
namespace Go.PH
open Go.RowKit Go.Proofs

def xdV (x : Xd) : Array Value := #[.int .u32 (x.fmt : Int), .string (str x.glob), .string (str x.bran)]
set_option maxRecDepth 20000 in
theorem check_any (x : Xd) (w : World) (hw : x.wf) :
    Calls Tryd.prog 15 #[.agg (xdV x)] w fun e w' => e = .returned (.int .i64 x.err) ∧ Below w.heap.size w w' := by
  obtain ⟨f, g, h⟩ := x
  obtain ⟨h1, h2, h3⟩ := hw
  simp only at h1 h2 h3
  have hB : Below w.heap.size w (w.alloc (.cells #[.int .u32 (f : Int), .string (str g), .string (str h)] 24)) := (Below.refl _ _).alloc (Nat.le_refl _) _
  have hsg := str_size g
  have hsh := str_size h
  by_cases c1 : g = []
  · have hd1 : (str g).toList.isEmpty = true := by rw [c1, str_toList]; rfl
    have he : Xd.err ⟨f, g, h⟩ = 40 := by simp [Xd.err, Xd.ok, c1]
    rw [he]
    clear hsg hsh c1 he
    unfold xdV
    go_enter Tryd.func15, Tryd.ntmps15
    go_wp2_with (first | (with_reducible refine hold_append ?_) | (with_reducible refine hold_make ?_) | (with_reducible refine hold_copy ?_))
    go_ret
    exact ⟨rfl, hB⟩
  · have hd1 : (str g).toList.isEmpty = false := by rw [str_toList]; simpa using c1
    by_cases c2 : 64 < g.length
    · have hd2 : (64 : Int) < ((str g).size : Int) := by omega
      have he : Xd.err ⟨f, g, h⟩ = 40 := by simp [Xd.err, Xd.ok]; omega
      rw [he]
      clear hsg hsh c1 he
      unfold xdV
      go_enter Tryd.func15, Tryd.ntmps15
      go_wp2_with (first | (with_reducible refine hold_append ?_) | (with_reducible refine hold_make ?_) | (with_reducible refine hold_copy ?_))
      go_ret
      exact ⟨rfl, hB⟩
    · have hd2 : decide ((64 : Int) < ((str g).size : Int)) = false := by simp; omega
      by_cases c3 : 64 < h.length
      · have hd3 : (64 : Int) < ((str h).size : Int) := by omega
        have he : Xd.err ⟨f, g, h⟩ = 40 := by simp [Xd.err, Xd.ok]; omega
        rw [he]
        clear hsg hsh c1 he
        unfold xdV
        go_enter Tryd.func15, Tryd.ntmps15
        go_wp2_with (first | (with_reducible refine hold_append ?_) | (with_reducible refine hold_make ?_) | (with_reducible refine hold_copy ?_))
        go_ret
        exact ⟨rfl, hB⟩
      · have hd3 : ¬ (64 : Int) < ((str h).size : Int) := by omega
        have he : Xd.err ⟨f, g, h⟩ = 0 := by simp [Xd.err, Xd.ok]; exact ⟨c1, by omega, by omega⟩
        rw [he]
        clear hsg hsh c1 he
        unfold xdV
        go_enter Tryd.func15, Tryd.ntmps15
        go_wp2_with (first | (with_reducible refine hold_append ?_) | (with_reducible refine hold_make ?_) | (with_reducible refine hold_copy ?_))
        go_ret
        exact ⟨rfl, hB⟩
set_option maxRecDepth 20000 in
theorem rcheck_any (x : Xd) (w : World) (hw : x.wf) :
    Calls Tryd.prog 16 #[.agg (xdV x)] w fun e w' => e = .returned (.int .i64 x.err) ∧ Below w.heap.size w w' := by
  obtain ⟨f, g, h⟩ := x
  obtain ⟨h1, h2, h3⟩ := hw
  simp only at h1 h2 h3
  have hB : Below w.heap.size w (w.alloc (.cells #[.int .u32 (f : Int), .string (str g), .string (str h)] 24)) := (Below.refl _ _).alloc (Nat.le_refl _) _
  have hsg := str_size g
  have hsh := str_size h
  by_cases c1 : g = []
  · have hd1 : ((str g).size : Int) < 1 := by rw [hsg, c1]; decide
    have he : Xd.err ⟨f, g, h⟩ = 40 := by simp [Xd.err, Xd.ok, c1]
    rw [he]
    clear hsg hsh c1 he
    unfold xdV
    go_enter Tryd.func16, Tryd.ntmps16
    go_wp2_with (first | (with_reducible refine hold_append ?_) | (with_reducible refine hold_make ?_) | (with_reducible refine hold_copy ?_))
    go_ret
    exact ⟨rfl, hB⟩
  · have hgl : 0 < g.length := List.length_pos_iff.2 c1
    have hd1 : decide (((str g).size : Int) < 1) = false := by simp; omega
    by_cases c2 : 64 < g.length
    · have hd2 : (64 : Int) < ((str g).size : Int) := by omega
      have he : Xd.err ⟨f, g, h⟩ = 40 := by simp [Xd.err, Xd.ok]; omega
      rw [he]
      clear hsg hsh c1 he
      unfold xdV
      go_enter Tryd.func16, Tryd.ntmps16
      go_wp2_with (first | (with_reducible refine hold_append ?_) | (with_reducible refine hold_make ?_) | (with_reducible refine hold_copy ?_))
      go_ret
      exact ⟨rfl, hB⟩
    · have hd2 : decide ((64 : Int) < ((str g).size : Int)) = false := by simp; omega
      by_cases c3 : 64 < h.length
      · have hd3 : (64 : Int) < ((str h).size : Int) := by omega
        have he : Xd.err ⟨f, g, h⟩ = 40 := by simp [Xd.err, Xd.ok]; omega
        rw [he]
        clear hsg hsh c1 he
        unfold xdV
        go_enter Tryd.func16, Tryd.ntmps16
        go_wp2_with (first | (with_reducible refine hold_append ?_) | (with_reducible refine hold_make ?_) | (with_reducible refine hold_copy ?_))
        go_ret
        exact ⟨rfl, hB⟩
      · have hd3 : ¬ (64 : Int) < ((str h).size : Int) := by omega
        have he : Xd.err ⟨f, g, h⟩ = 0 := by simp [Xd.err, Xd.ok]; exact ⟨c1, by omega, by omega⟩
        rw [he]
        clear hsg hsh c1 he
        unfold xdV
        go_enter Tryd.func16, Tryd.ntmps16
        go_wp2_with (first | (with_reducible refine hold_append ?_) | (with_reducible refine hold_make ?_) | (with_reducible refine hold_copy ?_))
        go_ret
        exact ⟨rfl, hB⟩
/-! ### '==' of names -/
theorem xid_fields : Tryd.prog.underlying 24 = some (.struct (Tryd.prog.fieldsOf 24)) := by kernel_rfl
theorem xid_stood : Tryd.prog.stoodInHeld 24 = false := by kernel_rfl
theorem xid_guard : Tryd.prog.eqGuardType Tryd.prog.depth 24 = false := by kernel_rfl
theorem str_ne {a b : List UInt8} (h : ¬ a = b) : ((str a).toList == (str b).toList) = false := by rw [str_toList, str_toList]; simpa using h
theorem xid_equal (a b : Xd) (w : World) : (Op.equalIn 10000 24 (.agg (xdV a)) (.agg (xdV b))).run Tryd.prog w = .ok (decide (a = b)) w := by
  rw [run_equalIn_struct w 9999 24 _ _ xid_fields xid_stood]
  simp only [Program.fieldsOf, Tryd.underlying24]
  obtain ⟨f, g, hh⟩ := a
  obtain ⟨f', g', h'⟩ := b
  unfold xdV
  simp only [Xd.mk.injEq]
  by_cases h : (f : Int) = (f' : Int)
  · have e := Int.ofNat_inj.1 h
    subst e
    by_cases h : g = g'
    · subst h
      by_cases h : hh = h'
      · subst h
        simp [Op.eqFields, part, run_equalIn_int _ 9998 22 .u32 .u32 _ _ Tryd.underlying22, run_equalIn_string _ 9998 9 _ _ Tryd.underlying9, h, Result.andThen, typeInfo, sizeOf]
      · have h := str_ne h
        simp [Op.eqFields, part, run_equalIn_int _ 9998 22 .u32 .u32 _ _ Tryd.underlying22, run_equalIn_string _ 9998 9 _ _ Tryd.underlying9, h, Result.andThen, typeInfo, sizeOf]
        rw [str_toList, str_toList] at h
        simpa using h
    · have h := str_ne h
      simp [Op.eqFields, part, run_equalIn_int _ 9998 22 .u32 .u32 _ _ Tryd.underlying22, run_equalIn_string _ 9998 9 _ _ Tryd.underlying9, h, Result.andThen, typeInfo, sizeOf]
      rw [str_toList, str_toList] at h
      intro q
      simp [q] at h
  · simp [Op.eqFields, part, run_equalIn_int _ 9998 22 .u32 .u32 _ _ Tryd.underlying22, run_equalIn_string _ 9998 9 _ _ Tryd.underlying9, h, Result.andThen, typeInfo, sizeOf]
    omega
end Go.PH

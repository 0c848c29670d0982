/- Texts laid together: GtRTake0. -/
import Derived.Test.YtcfhnnbgghbjfaaMg15
import Derived.Test.YtcfhnnbgghbjfaaMg21
import Derived.Test.YtcfhnnbgghbjfaaMg24
section
/- Words for the walk of the reference's Take. -/
set_option linter.all false
set_option linter.unusedSimpArgs false
set_option linter.unusedVariables false
namespace Go.PH
open Go.RowKit Go.Proofs

theorem own_pt {w : World} {base g n c : Nat} {d e : List Pt} {p : Pt} {k : Nat} (ho : OwnP w base (some ⟨g, 0, none⟩) n c (d ++ p :: e)) (hd : d.length = k) :
    w.cell? ⟨g, k * 5, none⟩ = some (.int .u8 (p.node : Int)) ∧ w.cell? ⟨g, k * 5 + 1, none⟩ = some (.int .u32 (p.x.fmt : Int)) ∧ w.cell? ⟨g, k * 5 + 2, none⟩ = some (.string (str p.x.glob)) ∧ w.cell? ⟨g, k * 5 + 3, none⟩ = some (.string (str p.x.bran)) ∧ w.cell? ⟨g, k * 5 + 4, none⟩ = some (.int .u8 (p.st : Int)) := by
  have hl := own_len ptShape ho
  have hil : k < (d ++ p :: e).length := by simp; omega
  have hk : k < n := by omega
  have hp : (d ++ p :: e)[k] = p := by subst hd; simp
  have h := fun j u (hu : (ptC (d ++ p :: e)[k])[j]? = some u) => own_cell ho hk hil (j := j) hu
  simp only [hp] at h
  exact ⟨h 0 _ rfl, h 1 _ rfl, h 2 _ rfl, h 3 _ rfl, h 4 _ rfl⟩
theorem wp_ptset {ops : Array Oper} {rest : List Oper} {o : Oper} {a : Act} {Q : Exit → Act → World → Prop} {x y : Operand} {W : World} {base g n c k j : Nat} {d e : List Pt} {p : Pt} (v : Nat) (hw : Region.wanted o (yielded ops a.tmps) = true) (ho : o.op = .store 43 x y)
    (hx : a.eval x = .pointer (some ⟨g, j, none⟩)) (hy : a.eval y = .int .u8 (v : Int)) (hown : OwnP W base (some ⟨g, 0, none⟩) n c (d ++ p :: e)) (hk : d.length = k) (hj : j = k * 5 + 4)
    (hc : ∀ w', OwnP w' base (some ⟨g, 0, none⟩) n c (d ++ Pt.to v p :: e) → W.grownBy w' (some g) → w'.heap.size = W.heap.size → wpList Try.prog ops Q rest (a.put o.dst undef) w') : wpList Try.prog ops Q (o :: rest) a W := by
  have hl := own_len ptShape hown
  have hil : k < (d ++ p :: e).length := by simp; omega
  have hkn : k < n := by omega
  have hp : (d ++ p :: e)[k] = p := by subst hk; simp
  have hset : (d ++ p :: e).set k (Pt.to v p) = d ++ Pt.to v p :: e := by subst hk; simp
  refine wp_recset ptShape hw ho hx hy hown (k := k) (i := 4) (vs := [.int .u8 (v : Int)]) hkn hil (Pt.to v p) rfl (by kernel_rfl) ?_ (by simp) hj fun w' h1 h2 h3 => hc w' ?_ h2 h3
  · rw [hp]; simp [ptC, Pt.to]
  · rwa [hset] at h1
theorem lt_xn {l : Lt} (h : ltOk l = true) : l.xa = 0 ∨ l.no = 0 := by
  unfold ltOk at h
  simp only [Bool.and_eq_true, decide_eq_true_eq] at h
  exact h.1.1.1.1.2
end Go.PH
end

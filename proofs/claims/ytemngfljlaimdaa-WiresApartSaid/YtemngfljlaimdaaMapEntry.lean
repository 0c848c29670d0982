/- 'm[k] = append(m[k], ..)': the entry taken, then stored into, in a map that is owned. -/
import Derived.Test.YtemngfljlaimdaaMapW
import Derived.WideKeyEntry
import Derived.Maps.OwnSet
set_option linter.all false
set_option linter.unusedSimpArgs false
set_option linter.unusedVariables false
namespace Go.PH
open Go.RowKit Go.WideElems Go.ChangeMaps Go.MapKept
variable {H : Type} {P : Program} {w : World} {t k e : TypeId} {R : Value → Option (DataW H × List MemPlace)} {b n : Nat} {D : DataW H}
theorem nodup_key {es : List MapEntry} (h : (es.map (·.key)).Nodup) {x y : MapEntry} (hx : x ∈ es) (hy : y ∈ es) (hk : x.key = y.key) : x = y := by
  induction es with
  | nil => cases hx
  | cons a l ih =>
    simp only [List.map_cons, List.nodup_cons] at h
    rcases List.mem_cons.1 hx with h1 | h1
    · rcases List.mem_cons.1 hy with h2 | h2
      · rw [h1, h2]
      · exact absurd (show a.key ∈ l.map (·.key) from List.mem_map.2 ⟨y, h2, by rw [← hk, h1]⟩) h.1
    · rcases List.mem_cons.1 hy with h2 | h2
      · exact absurd (show a.key ∈ l.map (·.key) from List.mem_map.2 ⟨x, h1, by rw [hk, h2]⟩) h.1
      · exact ih h.2 h1 h2
theorem entry_own (hown : w.ownsMap P k R b n D) (KL : WideMaps.KeyLaw P k) (ht : P.underlying t = some (.map k e)) {z : Value} (hz : ∀ u : World, (zeroValue e).run P u = .ok z u) {zd : DataW H} {zp : List MemPlace} (hzd : R z = some (zd, zp))
    {key : Value} {kl : Lit} (hkey : keyOf P k key = some kl) (hn : n < maxLen) :
    ∃ (v0 : Value) (st : Nat) (m1 : Obj) (ps : List MemPlace), (Instr.mapEntry t (.map (some b)) key).run P w = .ok (.tuple #[v0, goInt st]) (setBlock w b m1) ∧ R v0 = some (D.atKey kl zd, ps) ∧
      ∀ (w2 : World) (val : Value) (d : DataW H) (ps' : List MemPlace), w2.heap[b]? = some m1 → R val = some (d, ps') →
        ∃ w3, (Instr.entryStore t (.map (some b)) (goInt st) val).run P w2 = .ok () w3 ∧ w3.ownsMap P k R b (n + 1) (D.put kl d) ∧ w2.grownBy w3 (some b) := by
  have K := Maps.Keyed.of_law KL
  have hst := fun (val : Value) (d : DataW H) (ps' : List MemPlace) (hv : R val = some (d, ps')) => hown.store K ht hn hkey hv
  obtain ⟨es, clock, hb, F, hs, hD⟩ := hown
  obtain ⟨v0, st, es1, clock1, h1, h2, h3⟩ := entry_then_store KL ht hz hb F hkey
  have hR : ∃ ps, R v0 = some (D.atKey kl zd, ps) := by
    rcases Maps.fit_look false K ht (hz w) hb F hkey with ⟨_, hno, hat⟩ | ⟨e0, y, hm, hk0, _, hRv, hat, _⟩
    · rcases h2 with ⟨e1, he1, hk1, _⟩ | ⟨_, rfl⟩
      · exact absurd hk1 (hno e1 he1)
      · exact ⟨zp, by rw [hD, hat zd]; exact hzd⟩
    · rcases h2 with ⟨e1, he1, hk1, rfl⟩ | ⟨hno, _⟩
      · have e := nodup_key F.stamped.2.2 hm he1 (hk0.trans hk1.symm)
        subst e
        exact ⟨y.2, by rw [hD, hat zd]; exact hRv⟩
      · exact absurd hk0 (hno e0 hm)
  obtain ⟨ps, hR⟩ := hR
  refine ⟨v0, st, .map es1 clock1, ps, h1, hR, fun w2 val d ps' hw2 hv => ?_⟩
  obtain ⟨es', clock', h4, h5⟩ := h3 w2 val hw2
  obtain ⟨w', h6, h7, _⟩ := hst val d ps' hv
  rw [h5] at h6
  simp only [Result.ok.injEq] at h6
  obtain ⟨es2, clock2, g1, g2, g3, g4⟩ := h7
  have hw' : w' = setBlock w b (.map es' clock') := by first | exact h6.2.symm | exact h6.symm
  rw [hw', heap_setBlock_same hb] at g1
  refine ⟨_, h4, ⟨es2, clock2, by rw [heap_setBlock_same hw2]; exact g1, g2, g3, g4⟩, ?_⟩
  exact World.mapTurned.grown ⟨es1, clock1, es', clock', hw2, rfl⟩
end Go.PH

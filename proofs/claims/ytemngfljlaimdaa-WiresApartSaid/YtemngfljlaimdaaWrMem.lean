/- Wires in memory: what the map's block and its rows hold of a row of letters. -/
import Derived.Test.YtemngfljlaimdaaWrKey
import Derived.Test.YtemngfljlaimdaaMapEntry
set_option linter.all false
set_option linter.unusedSimpArgs false
set_option linter.unusedVariables false
namespace Go.PH
open Go.RowKit Go.Proofs

def strV (s : List UInt8) : Value := .string (str s)
/-- a slice's header -/
structure Hd where
  A : Option Addr
  n : Nat
  c : Nat
def Hd.v (h : Hd) : Value := .slice h.A h.n h.c
/-- all blocks but those of a set stay as they are -/
def Quiet (w w' : World) : Prop := w'.os = w.os ∧ w'.tape = w.tape ∧ w'.output = w.output
theorem Quiet.trans {a b c : World} (h : Quiet a b) (k : Quiet b c) : Quiet a c := ⟨k.1.trans h.1, k.2.1.trans h.2.1, k.2.2.trans h.2.2⟩
theorem Quiet.below {B : Nat} {w w' : World} (h : Below B w w') : Quiet w w' := ⟨h.os, h.tape, h.output⟩
theorem Quiet.grown {w w' : World} {r : Option Nat} (h : w.grownBy w' r) : Quiet w w' := ⟨h.os, h.tape, h.output⟩
def KeepF (F : Nat → Prop) (w w' : World) : Prop := w.heap.size ≤ w'.heap.size ∧ (∀ g, g < w.heap.size → ¬ F g → w'.heap[g]? = w.heap[g]?) ∧ Quiet w w'
theorem KeepF.trans {F F' : Nat → Prop} {w w' w2 : World} (h : KeepF F w w') (h' : KeepF F' w' w2) (hF : ∀ g, F' g → F g ∨ w.heap.size ≤ g) : KeepF F w w2 :=
  ⟨Nat.le_trans h.1 h'.1, fun g hg hn => (h'.2.1 g (Nat.lt_of_lt_of_le hg h.1) (fun e => by rcases hF g e with e | e; exact hn e; omega)).trans (h.2.1 g hg hn), h.2.2.trans h'.2.2⟩
theorem KeepF.below {F : Nat → Prop} {w w' : World} (h : Below w.heap.size w w') : KeepF F w w' := ⟨h.size, fun g hg _ => h.block g hg, .below h⟩
/-- where the set lies behind a base, nothing ahead of it turns -/
theorem KeepF.toBelow {F : Nat → Prop} {w w' : World} {B : Nat} (h : KeepF F w w') (hB : B ≤ w.heap.size) (hF : ∀ g, F g → B ≤ g) : Below B w w' :=
  ⟨h.2.2.1, h.2.2.2.1, h.2.2.2.2, h.1, fun k hk => h.2.1 k (by omega) (fun e => by have := hF k e; omega)⟩
def OwnS (w : World) (h : Hd) (l : List (List UInt8)) : Prop := Own w 0 9 1 h.A h.n h.c (l.map strV)
structure WrMap (w : World) (F : Nat → Prop) (mb n : Nat) (D : DataW Value) (hd : Int → Int → Hd) (R : List Wl) : Prop where
  owns : w.ownsMap Try.prog 54 rawW mb n D
  inF : F mb
  miss : ∀ a b, i64ok a → i64ok b → bag R a b = [] → Maps.has D (wayL a b) = false
  has : ∀ a b, i64ok a → i64ok b → bag R a b ≠ [] → Maps.has D (wayL a b) = true ∧ (∀ z, D.atKey (wayL a b) z = .held (hd a b).v)
  row : ∀ a b, i64ok a → i64ok b → bag R a b ≠ [] → OwnS w (hd a b) (bag R a b) ∧ ∀ g, blk (hd a b).A = some g → F g ∧ g ≠ mb
  apart : ∀ a b c d, i64ok a → i64ok b → i64ok c → i64ok d → bag R a b ≠ [] → bag R c d ≠ [] → ¬ (a = c ∧ b = d) → blk (hd a b).A ≠ blk (hd c d).A
  lt : ∀ g, F g → g < w.heap.size
/-- wires at a pointer -/
structure Wr (w : World) (F : Nat → Prop) (pb n : Nat) (R : List Wl) : Prop where
  ex : ∃ mb D hd, Box w pb 50 #[.map (some mb)] ∧ F pb ∧ pb ≠ mb ∧ (∀ a b, i64ok a → i64ok b → bag R a b ≠ [] → blk (hd a b).A ≠ some pb) ∧ WrMap w F mb n D hd R
  wf : ∀ x ∈ R, i64ok x.fr ∧ i64ok x.to ∧ x.s.length ≤ 32768
  most : ∀ a b, (bag R a b).length ≤ 64
theorem keepF_of {F G : Nat → Prop} {w w' : World} (h : KeepF G w w') (hd : ∀ g, F g → ¬ G g) (hl : ∀ g, F g → g < w.heap.size) : ∀ g, F g → w'.heap[g]? = w.heap[g]? := fun g hg => h.2.1 g (hl g hg) (hd g hg)
theorem ownsMap_keep {w w' : World} {P : Program} {k : TypeId} {R : Value → Option (DataW Value × List MemPlace)} {b n : Nat} {D : DataW Value} (h : w.ownsMap P k R b n D) (hb : w'.heap[b]? = w.heap[b]?) : w'.ownsMap P k R b n D := by
  obtain ⟨es, clock, h1, h2, h3, h4⟩ := h
  exact ⟨es, clock, hb.trans h1, h2, h3, h4⟩
theorem own_keep {w w' : World} {base e size n c : Nat} {A : Option Addr} {xs : List Value} (h : Own w base e size A n c xs) (hb : ∀ g, blk A = some g → w'.heap[g]? = w.heap[g]?) (hs : w.heap.size ≤ w'.heap.size) : Own w' base e size A n c xs := by
  unfold Own World.ownsRow at h ⊢
  obtain ⟨hl, h1⟩ := h
  refine ⟨hl, h1.imp id ?_⟩
  rintro ⟨g, cap, cur, hv, hb0, hh, hr⟩
  exact ⟨g, cap, cur, hv, hb0, (hb g (by injection hv with e; rw [e]; rfl)).trans hh, hr⟩
theorem WrMap.keep {w w' : World} {F : Nat → Prop} {mb n : Nat} {D : DataW Value} {hd : Int → Int → Hd} {R : List Wl} (h : WrMap w F mb n D hd R) (hk : ∀ g, F g → w'.heap[g]? = w.heap[g]?) (hs : w.heap.size ≤ w'.heap.size) : WrMap w' F mb n D hd R where
  owns := ownsMap_keep h.owns (hk _ h.inF)
  inF := h.inF
  miss := h.miss
  has := h.has
  row a b ha hb hne := by
    obtain ⟨h1, h2⟩ := h.row a b ha hb hne
    exact ⟨own_keep h1 (fun g hg => hk g (h2 g hg).1) hs, h2⟩
  apart := h.apart
  lt g hg := Nat.lt_of_lt_of_le (h.lt g hg) hs
theorem Wr.keep {w w' : World} {F : Nat → Prop} {pb n : Nat} {R : List Wl} (h : Wr w F pb n R) (hk : ∀ g, F g → w'.heap[g]? = w.heap[g]?) (hs : w.heap.size ≤ w'.heap.size) : Wr w' F pb n R where
  ex := by
    obtain ⟨mb, D, hd, h1, h2, h3, h4, h5⟩ := h.ex
    exact ⟨mb, D, hd, (hk _ h2).trans h1, h2, h3, h4, h5.keep hk hs⟩
  wf := h.wf
  most := h.most
end Go.PH

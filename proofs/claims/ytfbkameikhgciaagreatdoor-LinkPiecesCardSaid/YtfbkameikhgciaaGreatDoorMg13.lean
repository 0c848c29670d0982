/- Texts laid together: VlCopy, VlReadMem, VlMust, VlUtf, VlPlain, MdTabs, VlKeyed. -/
import Derived.WalkLawsBesides
import Derived.Lib.DecodeN
import Derived.Lib.TrimU
import Derived.Lib.OthersKept
import Derived.Deep.Cut
import Derived.Lib.LaidU8
import Derived.Maps.OwnSet
import Derived.StringKeys
import Derived.Test.YtfbkameikhgciaaGreatDoorMg00
import Derived.Test.YtfbkameikhgciaaGreatDoorMg01
import Derived.Test.YtfbkameikhgciaaGreatDoorMg02
import Derived.Test.YtfbkameikhgciaaGreatDoorMg06
import Derived.Test.YtfbkameikhgciaaGreatDoorMg07
import Derived.Test.YtfbkameikhgciaaGreatDoorMg08
import Derived.Test.YtfbkameikhgciaaGreatDoorMg11
import Derived.Test.YtfbkameikhgciaaGreatDoorMg12
set_option linter.all false
set_option linter.unusedSimpArgs false
set_option linter.unusedVariables false
set_option maxRecDepth 20000
set_option maxHeartbeats 8000000
section
namespace Go.PH
open Go.RowKit Go.Proofs
theorem slTx : SlT Tryz.prog 22 9 1 16 (.string ⟨#[]⟩) := SlT.mk' Tryz.underlying22 (by kernel_rfl) rfl (by omega)
theorem slVl : SlT Tryz.prog 76 78 5 80 (.agg #[.int .u8 0, .int .u64 0, .string ⟨#[]⟩, .slice none 0 0, .slice none 0 0]) := SlT.mk' Tryz.underlying76 (by kernel_rfl) rfl (by omega)
def FB (base : Nat) (A : Option Addr) (w : World) : Nat → Prop := fun g => base ≤ g ∧ g < w.heap.size ∧ blk A ≠ some g
def FN (base : Nat) (w : World) : Nat → Prop := fun g => base ≤ g ∧ g < w.heap.size
structure CpS (wr : World) (base : Nat) (K : List (List UInt8)) (AK : Option Addr) (cK : Nat) (A : Option Addr) (c : Nat) (xs : List (Vl × VH)) : Prop where
 own : Own wr base 78 5 A xs.length c (rowC vlC xs)
 el : ∀ p ∈ xs, RV wr (FB base A wr) p.1 p.2
 ky : RdX wr (FB base A wr) 1 AK K.length cK (K.map txV)
theorem CpS.on {wr wr' : World} {base : Nat} {K : List (List UInt8)} {AK : Option Addr} {cK : Nat} {A : Option Addr} {c : Nat} {xs : List (Vl × VH)} (h : CpS wr base K AK cK A c xs) (hk : ∀ g, base ≤ g → g < wr.heap.size → wr'.heap[g]? = wr.heap[g]?) (hs : wr.heap.size ≤ wr'.heap.size) : CpS wr' base K AK cK A c xs := by
 have hF : ∀ g, FB base A wr g → FB base A wr' g := fun g hg => ⟨hg.1, Nat.lt_of_lt_of_le hg.2.1 hs, hg.2.2⟩
 refine ⟨?_, fun p hp => ((h.el p hp).keep (fun g hg => hk g hg.1 hg.2.1) hs).mono hF, (h.ky.keep (fun g hg => hk g hg.1 hg.2.1) hs).mono hF⟩
 have ho := h.own
 unfold Own World.ownsRow at ho ⊢
 obtain ⟨hl, h1⟩ := ho
 refine ⟨hl, h1.imp id ?_⟩
 rintro ⟨g, cap, cur, hv, hb, hh, hr⟩
 exact ⟨g, cap, cur, hv, hb, (hk g hb (Array.getElem?_eq_some_iff.1 hh).1).trans hh, hr⟩
theorem CpS.below {wr wr' : World} {base : Nat} {K : List (List UInt8)} {AK : Option Addr} {cK : Nat} {A : Option Addr} {c : Nat} {xs : List (Vl × VH)} (h : CpS wr base K AK cK A c xs) (hB : Below wr.heap.size wr wr') : CpS wr' base K AK cK A c xs := h.on (fun g _ hg => hB.block g hg) hB.size
theorem CpS.box {wr wr' : World} {base b : Nat} {K : List (List UInt8)} {AK : Option Addr} {cK : Nat} {A : Option Addr} {c : Nat} {xs : List (Vl × VH)} (h : CpS wr base K AK cK A c xs) (hg : wr.grownBy wr' (some b)) (hb : b < base) : CpS wr' base K AK cK A c xs :=
 h.on (fun g hg1 hg2 => hg.block g hg2 (fun e => by injection e with e; omega)) hg.size
theorem CpS.push {wr w5 w6 : World} {base : Nat} {K : List (List UInt8)} {AK : Option Addr} {cK : Nat} {A A2 : Option Addr} {c c2 : Nat} {xs : List (Vl × VH)} {x : Vl} {hx : VH} (h : CpS wr base K AK cK A c xs) (hbs : base ≤ wr.heap.size) (hB : Below wr.heap.size wr w5) (hv : RV w5 (FN wr.heap.size w5) x hx)
  (ho : Own w6 base 78 5 A2 (xs.length + 1) c2 (rowC vlC (xs ++ [(x, hx)]))) (hg : w5.grownBy w6 (blk A)) (hA : blk A2 = blk A ∨ ∀ g, blk A2 = some g → w5.heap.size ≤ g) : CpS w6 base K AK cK A2 c2 (xs ++ [(x, hx)]) := by
 have h5 := h.below hB
 have hAl : ∀ g, blk A = some g → g < wr.heap.size := fun g hg => (h.own.blk_lt hg).2
 have hF : ∀ g, FB base A w5 g → FB base A2 w6 g := fun g hg1 => ⟨hg1.1, Nat.lt_of_lt_of_le hg1.2.1 hg.size, by
  rcases hA with e | e
  ·rw [e]; exact hg1.2.2
  ·intro e2; have := e g e2; have := hg1.2.1; omega⟩
 have hk : ∀ g, FB base A w5 g → w6.heap[g]? = w5.heap[g]? := fun g hg1 => hg.block g hg1.2.1 (fun e => hg1.2.2 e.symm)
 refine ⟨by rw [List.length_append]; exact ho, fun p hp => ?_, (h5.ky.keep hk hg.size).mono hF⟩
 rcases List.mem_append.1 hp with hp | hp
 ·exact ((h5.el p hp).keep hk hg.size).mono hF
 ·obtain rfl := List.mem_singleton.1 hp
  have hFN : ∀ g, FN wr.heap.size w5 g → FB base A w5 g := fun g hg1 => ⟨Nat.le_trans hbs hg1.1, hg1.2, fun e => by have := hAl g e; have := hg1.1; omega⟩
  exact (((hv.mono hFN).keep hk hg.size).mono hF)
end Go.PH
end
section
namespace Go.PH
open Go.RowKit Go.Proofs
def FB2 (base : Nat) (A AK : Option Addr) (w : World) : Nat → Prop := fun g => base ≤ g ∧ g < w.heap.size ∧ blk A ≠ some g ∧ blk AK ≠ some g
structure MnS (wr : World) (base : Nat) (K : List (List UInt8)) (AK : Option Addr) (cK : Nat) (A : Option Addr) (c : Nat) (xs : List (Vl × VH)) : Prop where
 own : Own wr base 78 5 A xs.length c (rowC vlC xs)
 kown : Own wr base 9 1 AK K.length cK (K.map txV)
 ne : ∀ g, blk A = some g → blk AK ≠ some g
 el : ∀ p ∈ xs, RV wr (FB2 base A AK wr) p.1 p.2
theorem Ju {wr wr' : World} {base e size n c : Nat} {A : Option Addr} {ys : List Value} (h : Own wr base e size A n c ys) (hk : ∀ g, base ≤ g → g < wr.heap.size → wr'.heap[g]? = wr.heap[g]?) : Own wr' base e size A n c ys := by
 unfold Own World.ownsRow at h ⊢
 obtain ⟨hl, h1⟩ := h
 refine ⟨hl, h1.imp id ?_⟩
 rintro ⟨g, cap, cur, hv, hb, hh, hr⟩
 exact ⟨g, cap, cur, hv, hb, (hk g hb (Array.getElem?_eq_some_iff.1 hh).1).trans hh, hr⟩
section
variable {wr wr' w5 w6 : World} {base : Nat} {K : List (List UInt8)} {AK A A2 : Option Addr} {cK c c2 : Nat} {xs : List (Vl × VH)}
theorem MnS.on (h : MnS wr base K AK cK A c xs) (hk : ∀ g, base ≤ g → g < wr.heap.size → wr'.heap[g]? = wr.heap[g]?) (hs : wr.heap.size ≤ wr'.heap.size) : MnS wr' base K AK cK A c xs := by
 have hF : ∀ g, FB2 base A AK wr g → FB2 base A AK wr' g := fun g hg => ⟨hg.1, Nat.lt_of_lt_of_le hg.2.1 hs, hg.2.2⟩
 exact ⟨Ju h.own hk, Ju h.kown hk, h.ne, fun p hp => ((h.el p hp).keep (fun g hg => hk g hg.1 hg.2.1) hs).mono hF⟩
theorem MnS.below (h : MnS wr base K AK cK A c xs) (hB : Below wr.heap.size wr wr') : MnS wr' base K AK cK A c xs := h.on (fun g _ hg => hB.block g hg) hB.size
theorem MnS.box {b : Nat} (h : MnS wr base K AK cK A c xs) (hg : wr.grownBy wr' (some b)) (hb : b < base) : MnS wr' base K AK cK A c xs :=
 h.on (fun g hg1 hg2 => hg.block g hg2 (fun e => by injection e with e; omega)) hg.size
theorem MnS.nil (wr : World) (base : Nat) : MnS wr base [] none 0 none 0 [] := ⟨Own.none_ _ _ _ _, Own.none_ _ _ _ _, fun g h => (by cases h), fun p hp => (by cases hp)⟩
theorem MnS.pushK {k : List UInt8} (h : MnS w5 base K AK cK A c xs) (ho : Own w6 base 9 1 A2 (K.length + 1) c2 ((K ++ [k]).map txV)) (hg : w5.grownBy w6 (blk AK)) (hA : blk A2 = blk AK ∨ ∀ g, blk A2 = some g → w5.heap.size ≤ g) : MnS w6 base (K ++ [k]) A2 c2 A c xs := by
 have hAl : ∀ g, blk A = some g → g < w5.heap.size := fun g hg => (h.own.blk_lt hg).2
 refine ⟨zf h.own hg (fun g hg e => h.ne g hg e), by rw [List.length_append]; exact ho, fun g hg e => ?_, fun p hp => ?_⟩
 ·rcases hA with e2 | e2
  ·exact h.ne g hg (by rw [← e2, e])
  ·have := hAl g hg; have := e2 g e; omega
 ·have hk : ∀ g, FB2 base A AK w5 g → w6.heap[g]? = w5.heap[g]? := fun g hg1 => hg.block g hg1.2.1 (fun e => hg1.2.2.2 e.symm)
  have hF : ∀ g, FB2 base A AK w5 g → FB2 base A A2 w6 g := fun g hg1 => ⟨hg1.1, Nat.lt_of_lt_of_le hg1.2.1 hg.size, hg1.2.2.1, by
   rcases hA with e | e
   ·rw [e]; exact hg1.2.2.2
   ·intro e2; have := e g e2; have := hg1.2.1; omega⟩
  exact ((h.el p hp).keep hk hg.size).mono hF
theorem MnS.push {W4 : Nat} {x : Vl} {hx : VH} (h : MnS w5 base K AK cK A c xs) (h4 : ∀ g, blk A = some g ∨ blk AK = some g → g < W4) (hbs : base ≤ W4) (hv : RV w5 (FN W4 w5) x hx)
  (ho : Own w6 base 78 5 A2 (xs.length + 1) c2 (rowC vlC (xs ++ [(x, hx)]))) (hg : w5.grownBy w6 (blk A)) (hA : blk A2 = blk A ∨ ∀ g, blk A2 = some g → w5.heap.size ≤ g) : MnS w6 base K AK cK A2 c2 (xs ++ [(x, hx)]) := by
 have hKl : ∀ g, blk AK = some g → g < w5.heap.size := fun g hg => (h.kown.blk_lt hg).2
 have hF : ∀ g, FB2 base A AK w5 g → FB2 base A2 AK w6 g := fun g hg1 => ⟨hg1.1, Nat.lt_of_lt_of_le hg1.2.1 hg.size, by
  rcases hA with e | e
  ·rw [e]; exact hg1.2.2.1
  ·intro e2; have := e g e2; have := hg1.2.1; omega, hg1.2.2.2⟩
 have hk : ∀ g, FB2 base A AK w5 g → w6.heap[g]? = w5.heap[g]? := fun g hg1 => hg.block g hg1.2.1 (fun e => hg1.2.2.1 e.symm)
 refine ⟨by rw [List.length_append]; exact ho, zf h.kown hg (fun g hg e => h.ne g e hg), fun g hg e => ?_, fun p hp => ?_⟩
 ·rcases hA with e2 | e2
  ·exact h.ne g (by rw [← e2, hg]) e
  ·have := hKl g e; have := e2 g hg; omega
 rcases List.mem_append.1 hp with hp | hp
 ·exact ((h.el p hp).keep hk hg.size).mono hF
 ·obtain rfl := List.mem_singleton.1 hp
  have hFN : ∀ g, FN W4 w5 g → FB2 base A AK w5 g := fun g hg1 => ⟨Nat.le_trans hbs hg1.1, hg1.2, fun e => by have := h4 g (.inl e); have := hg1.1; omega, fun e => by have := h4 g (.inr e); have := hg1.1; omega⟩
  exact (((hv.mono hFN).keep hk hg.size).mono hF)
theorem MnS.fresh {W4 : Nat} {x : Vl} {hx : VH} (h : MnS w5 base K AK cK A c xs) (h4 : ∀ g, blk A = some g ∨ blk AK = some g → g < W4) (hbs : base ≤ W4) (hv : RV w5 (FN W4 w5) x hx)
  (hg : w5.grownBy w6 (blk A)) (hA : blk A2 = blk A ∨ ∀ g, blk A2 = some g → w5.heap.size ≤ g) : RV w6 (FB2 base A2 AK w6) x hx := by
 have hF : ∀ g, FB2 base A AK w5 g → FB2 base A2 AK w6 g := fun g hg1 => ⟨hg1.1, Nat.lt_of_lt_of_le hg1.2.1 hg.size, by
  rcases hA with e | e
  ·rw [e]; exact hg1.2.2.1
  ·intro e2; have := e g e2; have := hg1.2.1; omega, hg1.2.2.2⟩
 have hk : ∀ g, FB2 base A AK w5 g → w6.heap[g]? = w5.heap[g]? := fun g hg1 => hg.block g hg1.2.1 (fun e => hg1.2.2.1 e.symm)
 have hFN : ∀ g, FN W4 w5 g → FB2 base A AK w5 g := fun g hg1 => ⟨Nat.le_trans hbs hg1.1, hg1.2, fun e => by have := h4 g (.inl e); have := hg1.1; omega, fun e => by have := h4 g (.inr e); have := hg1.1; omega⟩
 exact (((hv.mono hFN).keep hk hg.size).mono hF)
theorem MnS.setlast {z : Vl × VH} {x : Vl} {hx : VH} (h : MnS w5 base K AK cK A c (xs ++ [z])) (hv : RV w5 (FB2 base A AK w5) x hx) (ho : Own w6 base 78 5 A (xs.length + 1) c (rowC vlC (xs ++ [(x, hx)]))) (hg : w5.grownBy w6 (blk A)) : MnS w6 base K AK cK A c (xs ++ [(x, hx)]) := by
 have hF : ∀ g, FB2 base A AK w5 g → FB2 base A AK w6 g := fun g hg1 => ⟨hg1.1, Nat.lt_of_lt_of_le hg1.2.1 hg.size, hg1.2.2⟩
 have hk : ∀ g, FB2 base A AK w5 g → w6.heap[g]? = w5.heap[g]? := fun g hg1 => hg.block g hg1.2.1 (fun e => hg1.2.2.1 e.symm)
 refine ⟨by rw [List.length_append]; exact ho, zf h.kown hg (fun g hg e => h.ne g e hg), h.ne, fun p hp => ?_⟩
 rcases List.mem_append.1 hp with hp | hp
 ·exact ((h.el p (List.mem_append_left _ hp)).keep hk hg.size).mono hF
 ·obtain rfl := List.mem_singleton.1 hp
  exact (hv.keep hk hg.size).mono hF
theorem MnS.rv {B : Nat} {k : Nat} (h : MnS wr base K AK cK A c xs) (hB : B ≤ base) (hk : k < 256) (hkl : ∀ x ∈ K, x.length ≤ 140737488351232) (h1 : K.length ≤ 140737488351232) (h2 : xs.length ≤ 140737488351232) : RV wr (FN B wr) (.mk k 0 [] K (xs.map (·.1))) ⟨AK, cK, A, c⟩ := by
 have hFB : ∀ g, FB2 base A AK wr g → FN B wr g := fun g hg => ⟨Nat.le_trans hB hg.1, hg.2.1⟩
 refine ⟨xs, hk, (by show (0 : Nat) < _; decide), (by show (0 : Nat) ≤ _; omega), RdX.of_own h.kown (fun g hg => ?_), hkl, h1, (by show (xs.map (·.1)).length ≤ _; simpa using h2), ?_, rfl, fun p hp => (h.el p hp).mono hFB⟩
 ·have := h.kown.blk_lt hg
  exact ⟨by omega, this.2⟩
 ·have ho := h.own
  show RdX wr (FN B wr) 5 A (xs.map (·.1)).length c (rowC vlC xs)
  rw [List.length_map]
  refine RdX.of_own ho (fun g hg => ?_)
  have := ho.blk_lt hg
  exact ⟨by omega, this.2⟩
end
def KP (B pb vb : Nat) (w w' : World) : Prop := Below B w w' ∧ ∀ g, g < w.heap.size → g ≠ pb → g ≠ vb → w'.heap[g]? = w.heap[g]?
section
variable {B pb vb : Nat} {a w w' : World}
theorem KP.refl (B pb vb : Nat) (w : World) : KP B pb vb w w := ⟨Below.refl _ _, fun _ _ _ _ => rfl⟩
theorem KP.size (h : KP B pb vb a w) : a.heap.size ≤ w.heap.size := h.1.size
theorem KP.trans (h : KP B pb vb a w) (k : KP B pb vb w w') : KP B pb vb a w' := ⟨h.1.trans k.1, fun g hg h1 h2 => (k.2 g (Nat.lt_of_lt_of_le hg h.size) h1 h2).trans (h.2 g hg h1 h2)⟩
theorem KP.below (h : KP B pb vb a w) (hb : B ≤ a.heap.size) (k : Below w.heap.size w w') : KP B pb vb a w' := h.trans ⟨k.mono (Nat.le_trans hb h.size), fun g hg _ _ => k.block g hg⟩
theorem KP.grown (h : KP B pb vb a w) (hb : B ≤ a.heap.size) {row : Option Nat} (hg : w.grownBy w' row) (hr : ∀ g, row = some g → B ≤ g ∧ (g = pb ∨ g = vb ∨ a.heap.size ≤ g)) : KP B pb vb a w' :=
 ⟨h.1.grown hg (Nat.le_trans hb h.size) (fun g e => (hr g e).1), fun g hlt h1 h2 => (hg.block g (Nat.lt_of_lt_of_le hlt h.size) (fun e => by rcases (hr g e.symm).2 with e | e | e <;> omega)).trans (h.2 g hlt h1 h2)⟩
theorem KP.drew (h : KP B pb vb a w) : KP B pb vb a w.drew := ⟨za h.1 1, h.2⟩
theorem KP.box {g : Nat} {t : TypeId} {cs : Array Value} (h : KP B pb vb w w') (hb : Box w g t cs) (h1 : g ≠ pb) (h2 : g ≠ vb) : Box w' g t cs := (h.2 g hb.lt h1 h2).trans hb
theorem KP.own {base e size n c : Nat} {A : Option Addr} {ys : List Value} (h : KP B pb vb w w') (ho : Own w base e size A n c ys) (h1 : pb < base) (h2 : vb < base) : Own w' base e size A n c ys := Ju ho (fun g hg1 hg2 => h.2 g hg2 (by omega) (by omega))
theorem KP.mns {base : Nat} {K : List (List UInt8)} {AK A : Option Addr} {cK c : Nat} {xs : List (Vl × VH)} (h : KP B pb vb w w') (ho : MnS w base K AK cK A c xs) (h1 : pb < base) (h2 : vb < base) : MnS w' base K AK cK A c xs := ho.on (fun g hg1 hg2 => h.2 g hg2 (by omega) (by omega)) h.size
end
end Go.PH
end
section
namespace Go.PH
open Go.RowKit Go.Proofs
def PAN : List PanicEntry := [{ v := .iface 251 (.agg #[]), recovered := false }]
theorem yJ {F : Nat → Prop} {w : World} {v : Value} {vb : Option Nat} {l : List UInt8} (h : Rdr F w v vb l false) {pb : Nat} {n : Int} (hp : Box w pb 255 #[v, .int .i64 n]) :
  Calls Tryz.prog 178 #[.pointer (some ⟨pb, 0, none⟩), .bool true] w fun e w' => e = .returned (.tuple #[]) ∧ w' = w := by
 have hb := zY h
 have c0 := hp.c0
 clear h hp
 go_enter Tryz.func178, Tryz.ntmps178
 go_wp2_with (with_reducible refine h_A ?_)
 refine hb.mono ?_
 rintro e w' ⟨rfl, rfl⟩
 go_wp2_with (with_reducible refine h_A ?_)
 go_end0
 exact ⟨rfl, rfl⟩
theorem yL {F : Nat → Prop} {w : World} {v : Value} {vb : Option Nat} {l : List UInt8} {bad : Bool} (h : Rdr F w v vb l bad) {pb : Nat} {n : Int} (hp : Box w pb 255 #[v, .int .i64 n]) (is : Bool) (hno : is = false ∨ bad = true) :
  Calls Tryz.prog 178 #[.pointer (some ⟨pb, 0, none⟩), .bool is] w fun e w' => e = .panicked PAN ∧ w' = w := by
 have hb := zY h
 have c0 := hp.c0
 clear h hp
 cases is
 ·clear hno
  go_enter Tryz.func178, Tryz.ntmps178
  go_wp2_with (with_reducible refine h_A ?_)
  exact ⟨rfl, rfl, rfl⟩
 ·obtain rfl : bad = true := hno.resolve_left (by decide)
  clear hno
  go_enter Tryz.func178, Tryz.ntmps178
  go_wp2_with (with_reducible refine h_A ?_)
  refine hb.mono ?_
  rintro e w' ⟨rfl, rfl⟩
  go_wp2_with (with_reducible refine h_A ?_)
  exact ⟨rfl, rfl, rfl⟩
end Go.PH
end
section
namespace Go.PH
def u8N (n b0 b1 b2 b3 : Nat) : Nat :=
 if b0 < 128 then 1
 else if 194 ≤ b0 ∧ b0 ≤ 223 ∧ 1 < n ∧ 128 ≤ b1 ∧ b1 ≤ 191 then 2
 else if 224 ≤ b0 ∧ b0 ≤ 239 ∧ 2 < n ∧ 128 ≤ b1 ∧ b1 ≤ 191 ∧ (b0 = 224 → 160 ≤ b1) ∧ (b0 = 237 → b1 ≤ 159) ∧ 128 ≤ b2 ∧ b2 ≤ 191 then 3
 else if 240 ≤ b0 ∧ b0 ≤ 244 ∧ 3 < n ∧ 128 ≤ b1 ∧ b1 ≤ 191 ∧ (b0 = 240 → 144 ≤ b1) ∧ (b0 = 244 → b1 ≤ 143) ∧ 128 ≤ b2 ∧ b2 ≤ 191 ∧ 128 ≤ b3 ∧ b3 ≤ 191 then 4
 else 0
theorem zar (n b0 b1 b2 b3 : Nat) (hn : 0 < n) : u8N n b0 b1 b2 b3 ≤ n := by
 unfold u8N
 repeat' split
 all_goals omega
def jA (l : List UInt8) (k : Nat) : Nat := ((l[k]?).getD 0).toNat
theorem xZ (l : List UInt8) (k : Nat) : jA l k < 256 := UInt8.toNat_lt _
def xx (l : List UInt8) : Nat := u8N l.length (jA l 0) (jA l 1) (jA l 2) (jA l 3)
theorem Z5 (n b0 b1 b2 b3 : Nat) (h0 : b0 < 256) (h1 : b1 < 256) (h2 : b2 < 256) (h3 : b3 < 256) :
  if u8N n b0 b1 b2 b3 = 0 then Lib.decodeN n b0 b1 b2 b3 = (65533, 1) else (Lib.decodeN n b0 b1 b2 b3).2 = u8N n b0 b1 b2 b3 ∧ ((Lib.decodeN n b0 b1 b2 b3).1 = 65533 → u8N n b0 b1 b2 b3 ≠ 1) := by
 unfold u8N
 by_cases c1 : b0 < 128
 ·simp only [c1, if_true]
  rw [if_neg (by omega)]
  unfold Lib.decodeN
  rw [if_pos c1]
  exact ⟨rfl, fun h => by simp only at h; omega⟩
 rw [if_neg c1]
 unfold Lib.decodeN
 rw [if_neg c1]
 by_cases c2 : 194 ≤ b0 ∧ b0 ≤ 223 ∧ 1 < n ∧ 128 ≤ b1 ∧ b1 ≤ 191
 ·rw [if_pos c2, if_neg (by omega), if_pos (by omega), if_pos (by omega)]
  exact ⟨rfl, fun _ => by omega⟩
 rw [if_neg c2]
 by_cases c3 : 224 ≤ b0 ∧ b0 ≤ 239 ∧ 2 < n ∧ 128 ≤ b1 ∧ b1 ≤ 191 ∧ (b0 = 224 → 160 ≤ b1) ∧ (b0 = 237 → b1 ≤ 159) ∧ 128 ≤ b2 ∧ b2 ≤ 191
 ·rw [if_pos c3, if_neg (by omega), if_neg (by omega), if_pos (by omega), if_pos (by omega)]
  exact ⟨rfl, fun _ => by omega⟩
 rw [if_neg c3]
 by_cases c4 : 240 ≤ b0 ∧ b0 ≤ 244 ∧ 3 < n ∧ 128 ≤ b1 ∧ b1 ≤ 191 ∧ (b0 = 240 → 144 ≤ b1) ∧ (b0 = 244 → b1 ≤ 143) ∧ 128 ≤ b2 ∧ b2 ≤ 191 ∧ 128 ≤ b3 ∧ b3 ≤ 191
 ·rw [if_pos c4, if_neg (by omega), if_neg (by omega), if_neg (by omega), if_pos (by omega), if_pos (by omega)]
  exact ⟨rfl, fun _ => by omega⟩
 rw [if_neg c4, if_pos rfl]
 by_cases d2 : b0 / 32 = 6 ∧ (1 < n ∧ b1 / 64 = 2)
 ·rw [if_pos d2, if_neg (by omega)]
 rw [if_neg d2]
 by_cases d3 : b0 / 16 = 14 ∧ (1 < n ∧ b1 / 64 = 2) ∧ (2 < n ∧ b2 / 64 = 2)
 ·rw [if_pos d3, if_neg (by omega)]
 rw [if_neg d3]
 by_cases d4 : b0 / 8 = 30 ∧ (1 < n ∧ b1 / 64 = 2) ∧ (2 < n ∧ b2 / 64 = 2) ∧ (3 < n ∧ b3 / 64 = 2)
 ·rw [if_pos d4, if_neg (by omega)]
 rw [if_neg d4]
def utfF : Nat → List UInt8 → Bool
 | 0, l => l.isEmpty
 | f + 1, l => if l = [] then true else if xx l = 0 then false else utfF f (l.drop (xx l))
def zV (l : List UInt8) : Bool := utfF l.length l
theorem Z6 {l : List UInt8} (h : l ≠ []) : xx l ≤ l.length := zar _ _ _ _ _ (List.length_pos_iff.2 h)
theorem Jg : ∀ (f : Nat) (l : List UInt8), l.length ≤ f → utfF f l = zV l := by
 intro f
 induction f using Nat.strongRecOn with
 | _ f ih =>
  intro l hl
  by_cases h0 : l = []
  ·subst h0
   cases f <;> rfl
  have hp := List.length_pos_iff.2 h0
  obtain ⟨k, hk⟩ : ∃ k, l.length = k + 1 := ⟨l.length - 1, by omega⟩
  obtain ⟨f, rfl⟩ : ∃ m, f = m + 1 := ⟨f - 1, by omega⟩
  unfold zV
  rw [hk, utfF, utfF, if_neg h0, if_neg h0]
  by_cases hs : xx l = 0
  ·rw [if_pos hs, if_pos hs]
  ·rw [if_neg hs, if_neg hs]
   have hlen : (l.drop (xx l)).length ≤ k := by rw [List.length_drop]; omega
   rw [ih f (by omega) _ (by omega)]
   by_cases hkf : k = f
   ·rw [hkf, ih f (by omega) _ (by omega)]
   ·rw [ih k (by omega) _ hlen]
theorem XT {l : List UInt8} (h0 : l ≠ []) (h : xx l = 0) : zV l = false := by
 obtain ⟨k, hk⟩ : ∃ k, l.length = k + 1 := ⟨l.length - 1, by have := List.length_pos_iff.2 h0; omega⟩
 unfold zV
 rw [hk, utfF, if_neg h0, if_pos h]
theorem vH {l : List UInt8} (h0 : l ≠ []) (h : xx l ≠ 0) : zV l = zV (l.drop (xx l)) := by
 obtain ⟨k, hk⟩ : ∃ k, l.length = k + 1 := ⟨l.length - 1, by have := List.length_pos_iff.2 h0; omega⟩
 rw [← Jg k (l.drop (xx l)) (by rw [List.length_drop]; omega)]
 conv => lhs; unfold zV
 rw [hk, utfF, if_neg h0, if_neg h]
theorem get!_str (s : List UInt8) (i : Nat) : ((str s).get! i).toNat = jA s i := by
 unfold ByteArray.get! str jA
 simp only [List.getElem!_toArray, List.getElem!_eq_getElem?_getD]
 rfl
theorem XU (s : List UInt8) (i k : Nat) : jA (s.drop i) k = jA s (i + k) := by
 unfold jA
 rw [List.getElem?_drop]
theorem qx (s : List UInt8) (i : Nat) : Utf8.decode (str s) i = Lib.decodeN (s.drop i).length (jA (s.drop i) 0) (jA (s.drop i) 1) (jA (s.drop i) 2) (jA (s.drop i) 3) := by
 rw [Lib.decode_at]
 simp only [get!_str, zj, List.length_drop, XU, Nat.add_zero]
theorem YF (s : List UInt8) (i : Nat) : if xx (s.drop i) = 0 then Utf8.decode (str s) i = (65533, 1) else (Utf8.decode (str s) i).2 = xx (s.drop i) ∧ ((Utf8.decode (str s) i).1 = 65533 → xx (s.drop i) ≠ 1) := by
 rw [qx]
 exact Z5 _ _ _ _ _ (xZ _ _) (xZ _ _) (xZ _ _) (xZ _ _)
end Go.PH
end
section
namespace Go.PH
open Go.RowKit Go.Proofs
def VF (k : Nat) (w : World) : Nat := match w.heap[k]? with | some (.stringIter _ p) => p | _ => 0
theorem Zi {k p : Nat} {w : World} {s : ByteArray} (h : w.heap[k]? = some (.stringIter s p)) : VF k w = p := by unfold VF; rw [h]
abbrev UTabs (w : World) : Prop := Lib.Utf8Tabs 1 2 w
theorem Jf (s : List UInt8) (i : Nat) : (Utf8.decode (str s) i).1 < 2147483648 ∧ 1 ≤ (Utf8.decode (str s) i).2 ∧ (Utf8.decode (str s) i).2 ≤ 4 := by
 rw [qx]
 have h0 := xZ (s.drop i) 0
 have h1 := xZ (s.drop i) 1
 have h2 := xZ (s.drop i) 2
 have h3 := xZ (s.drop i) 3
 unfold Lib.decodeN
 repeat' split
 all_goals (refine ⟨?_, ?_, ?_⟩ <;> (simp only; omega))
theorem Zj (s : List UInt8) (i : Nat) (hi : i < s.length) : Lib.decodeGo (str (s.drop i)) = Utf8.decode (str s) i := by
 have h0 : (str (s.drop i)).size ≠ 0 := by rw [zj, List.length_drop]; omega
 unfold Lib.decodeGo
 rw [if_neg h0, qx, qx, List.drop_zero]
theorem UTabs.on {w w' : World} (h : UTabs w) (hB : Below w.heap.size w w') : UTabs w' := by
 refine ⟨fun c hc => ?_, fun i hi => ⟨?_, ?_⟩⟩
 ·have := h.1 c hc
  exact (hB.cell (p := ⟨_, c, none⟩) (World.block_lt_of_cell? w _ this)).trans this
 ·have := (h.2 i hi).1
  exact (hB.cell (p := ⟨_, 2 * i, none⟩) (World.block_lt_of_cell? w _ this)).trans this
 ·have := (h.2 i hi).2
  exact (hB.cell (p := ⟨_, 2 * i + 1, none⟩) (World.block_lt_of_cell? w _ this)).trans this
theorem Z4 (s : List UInt8) (w : World) (hs : s.length ≤ 140737488351232) (hT : UTabs w) :
  Calls Tryz.prog 173 #[.string (str s)] w fun e w' => e = .returned (.bool (zV s)) ∧ Below w.heap.size w w' := by
 have hnx := fun (w : World) (k pos : Nat) ty => Lib.run_next_any_at (P := Tryz.prog) w k (str s) pos ty
 have hne := fun (w : World) (k pos : Nat) ty => Lib.run_next_end_at (P := Tryz.prog) w k (str s) pos ty
 have hsz : (str s).size = s.length := rfl
 obtain ⟨k, hk⟩ : ∃ k, k = w.heap.size := ⟨_, rfl⟩
 obtain ⟨w1, hw1⟩ : ∃ w1, w1 = w.iter (str s) 0 := ⟨_, rfl⟩
 have hk1 : w1.heap[k]? = some (.stringIter (str s) 0) := by rw [hw1, hk]; exact World.iter_heap _ _ _
 have hB1 : Below w.heap.size w w1 := by rw [hw1]; exact (Below.refl _ _).alloc (Nat.le_refl _) _
 have HK := Lib.hid hk
 go_enter Tryz.func173, Tryz.ntmps173
 go_upto_region 2 with fail
 rw [← hw1, ← hk]
 clear hw1 hk
 go_wp2_with (with_reducible refine h_A ?_)
 go_loopw [9] (fun _ wr => ∃ pos : Nat, pos ≤ s.length ∧ wr.heap[k]? = some (.stringIter (str s) pos) ∧ Hid (zV (s.drop pos) = zV s) ∧ Below w.heap.size w wr) (fun _ wr => s.length - VF k wr)
 case atStart => exact ⟨0, by omega, hk1, Lib.hid rfl, hB1⟩
 case round =>
  clear hk1 hB1
  obtain ⟨pos, hp, hk1, HC, hB⟩ := hrel
  by_cases hlt : pos < s.length
  ·have hx := fun ty => hnx wr k pos ty hk1 hlt
   have hd := YF s pos
   obtain ⟨hc1, hc2, hc3⟩ := Jf s pos
   have hgo := Zj s pos hlt
   obtain ⟨c, hc⟩ : ∃ c, (Utf8.decode (str s) pos).1 = c := ⟨_, rfl⟩
   obtain ⟨q, hq⟩ : ∃ q, (Utf8.decode (str s) pos).2 = q := ⟨_, rfl⟩
   have hpair : Utf8.decode (str s) pos = (c, q) := by rw [← hc, ← hq]
   rw [hc] at hc1
   rw [hq] at hc2 hc3
   rw [hpair] at hd hgo
   simp only [hc, hq] at hx
   have HD := Lib.hid hd
   have HG := Lib.hid hgo
   clear hd hc hq hpair hgo hnx hne
   have hB2 : Below w.heap.size w (wr.iterAt k (str s) (pos + q)) := Lib.below_iterAt hB (by rw [HK.out]; exact Nat.le_refl _) _ _
   have hk2 := Lib.iterAt_heap wr k (str s) pos (pos + q) hk1
   have HP := Lib.hid (Zi hk1)
   generalize wr.iterAt k (str s) (pos + q) = w2 at *
   have HP2 := Lib.hid (Zi hk2)
   have HN0 : Hid (s.drop pos ≠ []) := Lib.hid (by intro e; have := congrArg List.length e; rw [List.length_drop] at this; simp at this; omega)
   by_cases h65 : c = 65533
   ·have g1 : ((c : Int) == 65533) = true := by simp [h65]
    have hco := Tryz.utf8_DecodeRuneInString (str (s.drop pos)) w2 (hT.on hB2)
    rw [HG.out] at hco
    simp only at hco
    have hle := Z6 HN0.out
    rw [List.length_drop] at hle
    by_cases hq1 : q = 1
    ·have g2 : ((q : Int) == 1) = true := by simp [hq1]
     have h0 : xx (s.drop pos) = 0 := by
      refine Classical.byContradiction fun h0 => ?_
      have h := HD.out
      rw [if_neg h0] at h
      exact h.2 h65 (by rw [← h.1, hq1])
     have HF : Hid (zV s = false) := Lib.hid (by rw [← HC.out, XT HN0.out h0])
     clear h0 hq1 h65 hle
     go_wp2_with (first | (with_reducible refine zT ?_) | (with_reducible refine yt ?_) | (with_reducible refine yr ?_) | (with_reducible refine yc ?_) | (with_reducible refine yu (s := 9) (t := 55) ?_))
     refine zc (Qz Tryz.underlying9 rfl rfl rfl (l := s) pos s.length (.inr ⟨_, _, rfl, rfl⟩) (.inl ⟨rfl, rfl⟩) (by omega) (by omega) ?_)
     rw [List.take_length]
     go_wp2_with (first | (with_reducible refine zT ?_) | (with_reducible refine yt ?_) | (with_reducible refine yr ?_) | (with_reducible refine yc ?_) | (with_reducible refine yu (s := 9) (t := 55) ?_))
     refine hco.mono ?_
     rintro e w3 ⟨rfl, hB3⟩
     go_wp2_with (first | (with_reducible refine zT ?_) | (with_reducible refine yt ?_) | (with_reducible refine yr ?_) | (with_reducible refine yc ?_) | (with_reducible refine yu (s := 9) (t := 55) ?_))
     go_ret
     rw [HF.out]
     exact ⟨rfl, hB2.trans (hB3.mono hB2.size)⟩
    ·have g2 : ((q : Int) == 1) = false := by simp; omega
     have hst : xx (s.drop pos) ≠ 0 ∧ q = xx (s.drop pos) := by
      have h := HD.out
      split at h
      ·injection h with e1 e2; exact absurd e2 hq1
      ·rename_i h0; exact ⟨h0, h.1⟩
     have HC2 : Hid (zV (s.drop (pos + q)) = zV s) := Lib.hid (by rw [← HC.out, vH HN0.out hst.1, List.drop_drop, ← hst.2])
     rw [← hst.2] at hle
     clear hst h65
     go_wp2_with (first | (with_reducible refine zT ?_) | (with_reducible refine yt ?_) | (with_reducible refine yr ?_) | (with_reducible refine yc ?_) | (with_reducible refine yu (s := 9) (t := 55) ?_))
     refine zc (Qz Tryz.underlying9 rfl rfl rfl (l := s) pos s.length (.inr ⟨_, _, rfl, rfl⟩) (.inl ⟨rfl, rfl⟩) (by omega) (by omega) ?_)
     rw [List.take_length]
     go_wp2_with (first | (with_reducible refine zT ?_) | (with_reducible refine yt ?_) | (with_reducible refine yr ?_) | (with_reducible refine yc ?_) | (with_reducible refine yu (s := 9) (t := 55) ?_))
     refine hco.mono ?_
     rintro e w3 ⟨rfl, hB3⟩
     have hk3 : w3.heap[k]? = some (.stringIter (str s) (pos + q)) := (hB3.block k (Array.getElem?_eq_some_iff.1 hk2).1).trans hk2
     have HP3 := Lib.hid (Zi hk3)
     go_wp2_with (first | (with_reducible refine zT ?_) | (with_reducible refine yt ?_) | (with_reducible refine yr ?_) | (with_reducible refine yc ?_) | (with_reducible refine yu (s := 9) (t := 55) ?_))
     exact ⟨⟨pos + q, by omega, hk3, HC2, hB2.trans (hB3.mono hB2.size)⟩, by rw [HP.out, HP3.out]; omega⟩
   ·have g1 : ((c : Int) == 65533) = false := by simp; omega
    have hst : xx (s.drop pos) ≠ 0 ∧ q = xx (s.drop pos) := by
     have h := HD.out
     split at h
     ·injection h with e1 e2; exact absurd e1 h65
     ·rename_i h0; exact ⟨h0, h.1⟩
    have HC2 : Hid (zV (s.drop (pos + q)) = zV s) := Lib.hid (by rw [← HC.out, vH HN0.out hst.1, List.drop_drop, ← hst.2])
    have hle := Z6 HN0.out
    rw [← hst.2, List.length_drop] at hle
    clear hst h65
    go_wp2_with (with_reducible refine h_A ?_)
    exact ⟨⟨pos + q, by omega, hk2, HC2, hB2⟩, by rw [HP.out, HP2.out]; omega⟩
  ·have hx := fun ty => hne wr k pos ty hk1 hlt
   have HF : Hid (zV s = true) := Lib.hid (by rw [← HC.out, List.drop_eq_nil_of_le (by omega)]; rfl)
   clear hnx hne
   go_wp2_with (with_reducible refine h_A ?_)
   go_ret
   rw [HF.out]
   exact ⟨rfl, hB⟩
end Go.PH
end
section
namespace Go.Proofs.YtfbkameikhgciaaGreatDoor
open Go.Lib Go.PH Go.RowKit Go.ChangeShapes Go.WideShapes Go.ChangeAt
theorem u8types : Lays.n260 Tryz.prog Tryz.lays197_ren := { Tryz.lays197 with }
theorem u8extra : U8Extra Tryz.prog Tryz.lays197_ren where
 n3 := by kernel_rfl
 n4 := by kernel_rfl
 y3 := by kernel_rfl
 y4 := by kernel_rfl
 c5 := by kernel_rfl
 c119 := by kernel_rfl
 c138 := by kernel_rfl
theorem first_same : Rows.laid_unicode_utf8_first = firstData := by kernel_rfl
theorem accept_same : (Rows.laid_unicode_utf8_acceptRanges : DataW Unit) = acceptData := by kernel_rfl
theorem utabs {W : World} (h : laidMetH Tryz.prog utfList W) : UTabs W := by
 have h' : laidMet Tryz.prog utfList W := h
 exact utf8Tabs_of_reads u8types u8extra (first_same ▸ Lib.laidMet.reads h' (by unfold utfList; simp)) (accept_same ▸ Lib.laidMet.reads h' (by unfold utfList; simp))
end Go.Proofs.YtfbkameikhgciaaGreatDoor
end
section
namespace Go.PH
open Go.RowKit Go.Proofs
def jj (k : List UInt8) : Bool := decide (1 ≤ k.length) && decide (k.length ≤ 255) && zV k
theorem xw (K : List (List UInt8)) : xR K zV = (K.all jj && decide K.Nodup) := rfl
theorem Kk {K : List (List UInt8)} {i : Nat} (hi : i < K.length) (h : jj K[i] = false) : xR K zV = false := by
 rw [xw]
 have : K.all jj = false := by
  rw [List.all_eq_false]
  exact ⟨_, List.getElem_mem hi, by rw [h]; simp⟩
 rw [this]; rfl
theorem XQ {K : List (List UInt8)} {i : Nat} (hi : i < K.length) (h : K[i] ∈ K.take i) : xR K zV = false := by
 rw [xw]
 have : ¬ K.Nodup := fun hn => by
  have h1 : (K.take (i + 1)).Nodup := hn.sublist (List.take_sublist _ _)
  rw [List.take_succ_eq_append_getElem hi, List.nodup_append] at h1
  exact h1.2.2 _ h _ (by simp) rfl
 rw [decide_eq_false this, Bool.and_false]
theorem Jc {K : List (List UInt8)} (h1 : ∀ k ∈ K, jj k = true) (h2 : K.Nodup) : xR K zV = true := by
 rw [xw, List.all_eq_true.2 h1, decide_eq_true h2]; rfl
theorem XR {K : List (List UInt8)} {i : Nat} (hi : i < K.length) (h : (K.take i).Nodup) (hn : K[i] ∉ K.take i) : (K.take (i + 1)).Nodup := by
 rw [List.take_succ_eq_append_getElem hi, List.nodup_append]
 exact ⟨h, by simp, fun a ha b hb e => by rw [List.mem_singleton.1 hb] at e; rw [e] at ha; exact hn ha⟩
abbrev seenMap (w : World) (mb n : Nat) (D : DataW Unit) : Prop := w.ownsMap Tryz.prog 9 (plainElem (H := Unit) Tryz.prog 3) mb n D
theorem seenMap.below {w w' : World} {mb n : Nat} {D : DataW Unit} (h : seenMap w mb n D) (hB : Below w.heap.size w w') : seenMap w' mb n D := by
 obtain ⟨es, clock, hb, F, hs, hD⟩ := h
 exact ⟨es, clock, (hB.block mb (Array.getElem?_eq_some_iff.1 hb).1).trans hb, F, hs, hD⟩
theorem str_keyedM : Maps.Keyed Tryz.prog 9 := Maps.string_keyed Tryz.underlying9
theorem Jd {a : List UInt8} (h : a.length ≤ 140737488351232) : keyOf Tryz.prog 9 (.string (str a)) = some (.string a) := WideMaps.keyOf_string_mk Tryz.underlying9 (by rw [zj]; simp [maxLen]; omega)
theorem Z3 (a : List UInt8) : (str a).toList.isEmpty = decide (a.length = 0) := by
 rw [zt]
 cases a <;> simp
theorem XS {P : Program} {ops : Array Oper} {Q : Exit → Act → World → Prop} {rest : List Oper} {a : Act} {w : World} {dst : Option Tmp} {ty : TypeId} {pos : String} {after : Array Edge} {guard : Option (Nat × Bool)} {t : TypeId} {m k v : Operand} (h : Hold (wpList P ops Q (⟨dst, .mapUpdate t m k v, ty, pos, after, guard⟩ :: rest) a w)) :
  wpList P ops Q (⟨dst, .mapUpdate t m k v, ty, pos, after, guard⟩ :: rest) a w := h
theorem Je (A : Option Addr) (n c : Nat) (K : List (List UInt8)) (w : World) (hr : Rd w w.heap.size 1 A n c (K.map txV)) (hn : n ≤ 140737488351232) (hkl : ∀ k ∈ K, k.length ≤ 140737488351232) (hT : UTabs w) :
  Calls Tryz.prog 174 #[.slice A n c] w fun e w' => e = .returned (.bool (xR K zV)) ∧ Below w.heap.size w w' := by
 have hl : K.length = n := by have := hr.len; simpa using this
 have HL := Lib.hid hl
 have HKL := Lib.hid hkl
 clear hl hkl
 have hmk := fun W => run_makeMap (P := Tryz.prog) 263 W
 have hmap := World.ownsMap_made w Tryz.prog 9 (plainElem (H := Unit) Tryz.prog 3)
 have hB0 : Below w.heap.size w (w.alloc (.map #[] 0)) := (Below.refl _ _).alloc (Nat.le_refl _) _
 go_enter Tryz.func174, Tryz.ntmps174
 go_upto_region 2 with fail
 obtain ⟨mb, hmb⟩ : ∃ m, m = w.heap.size := ⟨_, rfl⟩
 rw [← hmb] at hmap ⊢
 have HMB := Lib.hid hmb
 clear hmb hmk
 generalize (w.alloc (.map #[] 0)) = w1 at *
 go_wp2_with (with_reducible refine h_A ?_)
 go_loopw [9] (fun s wr => ∃ (i : Nat) (D : DataW Unit), i ≤ n ∧ s = .int .i64 i ∧ Below w.heap.size w wr ∧ seenMap wr mb i D ∧ Hid ((∀ k ∈ K.take i, jj k = true) ∧ (K.take i).Nodup ∧ ∀ s : List UInt8, D.atKey (.string s) (.lit (.int .i64 0)) = .lit (.int .i64 (if s ∈ K.take i then 1 else 0)))) (fun s _ => n - (RowKit.intOf s).toNat)
 case atStart => exact ⟨0, _, by omega, rfl, hB0, hmap, Lib.hid ⟨by simp, by simp, fun s => by simp; rfl⟩⟩
 case round =>
  clear hB0 hmap
  obtain ⟨i, D, hi, rfl, hB, hmap, HI⟩ := hrel
  by_cases hlt : i < n
  ·have g1 : (i : Int) < (n : Int) := by omega
   have hil : i < K.length := by rw [HL.out]; exact hlt
   obtain ⟨b, off, rfl, hC⟩ := Zh hr hlt hil
   have y0 := hC wr hB
   have hal := HKL.out _ (List.getElem_mem hil)
   have HBAD : Hid (jj K[i] = false → xR K zV = false) := Lib.hid (Kk hil)
   have HTW : Hid (K[i] ∈ K.take i → xR K zV = false) := Lib.hid (XQ hil)
   have HND : Hid (K[i] ∉ K.take i → (K.take (i + 1)).Nodup) := Lib.hid (XR hil HI.out.2.1)
   have HTK : Hid (K.take (i + 1) = K.take i ++ [K[i]]) := Lib.hid (List.take_succ_eq_append_getElem hil)
   clear hC
   generalize K[i] = a at *
   have has := zj a
   have hem := Z3 a
   have hpl := Z4 a wr hal (hT.on hB)
   have HKO : Hid (jj a = (decide (1 ≤ a.length) && decide (a.length ≤ 255) && zV a)) := Lib.hid rfl
   by_cases ha0 : a.length = 0
   ·have HF : Hid (xR K zV = false) := Lib.hid (HBAD.out (by rw [HKO.out, decide_eq_false (by omega : ¬ 1 ≤ a.length)]; rfl))
    rw [decide_eq_true ha0] at hem
    clear ha0 hpl
    go_wp2_with (with_reducible refine h_A ?_)
    go_ret
    rw [HF.out]
    exact ⟨rfl, hB⟩
   ·rw [decide_eq_false ha0] at hem
    by_cases ha1 : 255 < a.length
    ·have HF : Hid (xR K zV = false) := Lib.hid (HBAD.out (by rw [HKO.out, decide_eq_false (by omega : ¬ a.length ≤ 255)]; simp))
     have g2 : (255 : Int) < (a.length : Int) := by omega
     clear ha0 hpl
     go_wp2_with (with_reducible refine h_A ?_)
     go_ret
     rw [HF.out]
     exact ⟨rfl, hB⟩
    ·have g2 : ¬ (255 : Int) < (a.length : Int) := by omega
     have HK2 : Hid (jj a = zV a) := Lib.hid (by rw [HKO.out, decide_eq_true (by omega : 1 ≤ a.length), decide_eq_true (by omega : a.length ≤ 255)]; rfl)
     clear ha0 ha1
     cases hu : zV a
     ·rw [hu] at hpl
      have HF : Hid (xR K zV = false) := Lib.hid (HBAD.out (by rw [HK2.out, hu]))
      clear hu
      go_wp2_with (with_reducible refine h_A ?_)
      refine hpl.mono ?_
      rintro e w2 ⟨rfl, hB2⟩
      clear hpl y0
      go_wp2_with (with_reducible refine h_A ?_)
      go_ret
      rw [HF.out]
      exact ⟨rfl, hB.trans (hB2.mono hB.size)⟩
     ·rw [hu] at hpl
      have HKT : Hid (jj a = true) := Lib.hid (by rw [HK2.out, hu])
      clear hu
      go_wp2_with (with_reducible refine h_A ?_)
      refine hpl.mono ?_
      rintro e w2 ⟨rfl, hB2⟩
      have hBB := hB.trans (hB2.mono hB.size)
      have hmap2 := hmap.below hB2
      clear hpl y0 hmap hB2 hB
      obtain ⟨cc, hrun, hat, _⟩ := hmap2.lookup_int (t := 263) str_keyedM Tryz.underlying263 Tryz.underlying3 (Tryz.zeroValue3 _) (key := .string (str a)) (kl := .string a) (Jd hal)
      rw [HI.out.2.2 a] at hat
      injection hat with hat
      injection hat with _ hat
      have HAT := Lib.hid hat
      clear hat
      by_cases hm : a ∈ K.take i
      ·have hc1 : cc = 1 := by rw [← HAT.out, if_pos hm]
       have HF := Lib.hid (HTW.out hm)
       subst hc1
       clear hm
       go_wp2_with (with_reducible refine h_A ?_)
       go_ret
       rw [HF.out]
       exact ⟨rfl, hBB⟩
      ·have hc1 : cc = 0 := by rw [← HAT.out, if_neg hm]
       have HM := Lib.hid hm
       subst hc1
       clear hm
       go_wp2_with (first | (with_reducible refine XS ?_))
       refine zc (wpList_mapUpdate_own (H := Unit) _ rfl _ _ _ 263 rfl 9 3 str_keyedM Tryz.underlying263 (plainElem (H := Unit) Tryz.prog 3) _ _ _ rfl hmap2 (by simp [maxLen]; omega) _ _ (.string a) rfl rfl (Jd hal) (.lit (.int .i64 1)) [] (plainElem_int Tryz.underlying3 (by decide)) ?_)
       intro w3 hmap3 hg3
       have hBy := hBB.grown hg3 hBB.size (fun g hg => by injection hg with hg; have := HMB.out; omega)
       have HI2 : Hid ((∀ k ∈ K.take (i + 1), jj k = true) ∧ (K.take (i + 1)).Nodup ∧ ∀ s : List UInt8, (D.put (.string a) (.lit (.int .i64 1))).atKey (.string s) (.lit (.int .i64 0)) = .lit (.int .i64 (if s ∈ K.take (i + 1) then 1 else 0))) := Lib.hid (by
        refine ⟨fun k hk => ?_, HND.out HM.out, fun s => ?_⟩
        ·rw [HTK.out] at hk
         rcases List.mem_append.1 hk with hk | hk
         ·exact HI.out.1 k hk
         ·rw [List.mem_singleton.1 hk]; exact HKT.out
        ·by_cases hs : s = a
         ·subst hs
          rw [Maps.atKey_put_same hmap2.isMap (str_keyedM.key (Jd hal)), if_pos (by rw [HTK.out]; simp)]
         ·rw [Maps.atKey_put_other (fun e => hs (by injection e)), HI.out.2.2 s, HTK.out]
          by_cases hs2 : s ∈ K.take i
          ·rw [if_pos hs2, if_pos (by simp [hs2])]
          ·rw [if_neg hs2, if_neg (by simp [hs, hs2])])
       clear hmap2 hrun hg3
       go_wp2_with (with_reducible refine h_A ?_)
       exact ⟨⟨i + 1, _, by omega, by go_num, hBy, hmap3, HI2⟩, by simp [RowKit.intOf]; omega⟩
  ·have HF : Hid (xR K zV = true) := Lib.hid (by
    have h := HI.out
    rw [List.take_of_length_le (by rw [HL.out]; omega)] at h
    exact Jc h.1 h.2.1)
   have g1 : ¬ (i : Int) < (n : Int) := by omega
   go_wp2_with (with_reducible refine h_A ?_)
   go_ret
   rw [HF.out]
   exact ⟨rfl, hB⟩
end Go.PH
end

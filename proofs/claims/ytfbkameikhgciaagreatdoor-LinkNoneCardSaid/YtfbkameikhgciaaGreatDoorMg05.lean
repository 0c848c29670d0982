/- Texts laid together: GaMem, GaCheck, GaSee, LkNew, OctPutText. -/
import Derived.Deep.QuietTactic
import Derived.BigQuiet
import Derived.Deep.Cut
import Derived.WalkSpells
import Derived.Test.YtfbkameikhgciaaGreatDoorMg01
import Derived.Test.YtfbkameikhgciaaGreatDoorMg02
import Derived.Test.YtfbkameikhgciaaGreatDoorMg03
import Derived.Test.YtfbkameikhgciaaGreatDoorMg04
set_option linter.all false
set_option linter.unusedSimpArgs false
set_option linter.unusedVariables false
section
/- A gatherer in memory. -/
namespace Go.PH
open Go.RowKit Go.Proofs

def goesL (l : List Fr) : Bool := match l.getLast? with
 | none => false
 | some x => !x.fin
def PartOk (l : List Fr) (x : Fr) : Prop := x.ty < 256 ∧ ∃ y, l.getLast? = some y ∧ x.ty = y.ty ∧ x.first = y.first ∧ x.last = y.last
theorem PartOk.fits {l : List Fr} {x : Fr} (h : PartOk l x) (f : Fr) : fitsP true x (goesL l) f = fitsB l f := by
 obtain ⟨_, y, hy, h1, h2, h3⟩ := h
 unfold fitsP fitsB goesL
 rw [hy, h1, h2, h3]
 cases hf : y.fin <;> simp [hf]
structure GaMap (w : World) (F : Nat → Prop) (mb n : Nat) (D : DataW Value) (hd : Nat → Nat → Hd) (xf : Nat → Nat → Fr) (op : Nat → Nat → List Fr) : Prop where
 owns : w.ownsMap Tryz.prog 156 rawV mb n D
 inF : F mb
 miss : ∀ a b, a < 65536 → b < 65536 → op a b = [] → Maps.has D (gkL a b) = false
 has : ∀ a b, a < 65536 → b < 65536 → op a b ≠ [] → Maps.has D (gkL a b) = true ∧ ∀ z, D.atKey (gkL a b) z = .held (.agg (partC (hd a b) (loadLen (op a b)) (xf a b) (goesL (op a b))))
 part : ∀ a b, a < 65536 → b < 65536 → op a b ≠ [] → PartOk (op a b) (xf a b)
 row : ∀ a b, a < 65536 → b < 65536 → op a b ≠ [] → OwnG w 0 (hd a b).A (hd a b).n (hd a b).c (segsOf (op a b)) ∧ ∀ g, blk (hd a b).A = some g → F g ∧ g ≠ mb
 apart : ∀ a b c d, a < 65536 → b < 65536 → c < 65536 → d < 65536 → op a b ≠ [] → op c d ≠ [] → ¬ (a = c ∧ b = d) → ∀ g, blk (hd a b).A = some g → blk (hd c d).A ≠ some g
 lt : ∀ g, F g → g < w.heap.size
theorem GaMap.keep {w w' : World} {F : Nat → Prop} {mb n : Nat} {D : DataW Value} {hd : Nat → Nat → Hd} {xf : Nat → Nat → Fr} {op : Nat → Nat → List Fr} (h : GaMap w F mb n D hd xf op) (hk : ∀ g, F g → w'.heap[g]? = w.heap[g]?) (hs : w.heap.size ≤ w'.heap.size) : GaMap w' F mb n D hd xf op where
 owns := ownsMap_keep h.owns (hk _ h.inF)
 inF := h.inF
 miss := h.miss
 has := h.has
 part := h.part
 row a b ha hb hne := by
  obtain ⟨h1, h2⟩ := h.row a b ha hb hne
  exact ⟨own_keep h1 (fun g hg => hk g (h2 g hg).1), h2⟩
 apart := h.apart
 lt g hg := Nat.lt_of_lt_of_le (h.lt g hg) hs
theorem GaMap.mono {w : World} {F : Nat → Prop} {mb n m : Nat} {D : DataW Value} {hd : Nat → Nat → Hd} {xf : Nat → Nat → Fr} {op : Nat → Nat → List Fr} (h : GaMap w F mb n D hd xf op) (hn : n ≤ m) : GaMap w F mb m D hd xf op := ⟨h.owns.mono hn, h.inF, h.miss, h.has, h.part, h.row, h.apart, h.lt⟩
/-- a gatherer at a pointer; F: its blocks; n: how often its map was written at most -/
structure Ga (w : World) (F : Nat → Prop) (pb n : Nat) (g : GS) : Prop where
 ex : ∃ mb D hd xf, Box w pb 88 #[.map (some mb), .bool g.dead] ∧ F pb ∧ pb ≠ mb ∧ (g.dead = false → (∀ a b, a < 65536 → b < 65536 → g.op a b ≠ [] → blk (hd a b).A ≠ some pb) ∧ GaMap w F mb n D hd xf g.op)
 lt : ∀ k, F k → k < w.heap.size
theorem Ga.keep {w w' : World} {F : Nat → Prop} {pb n : Nat} {g : GS} (h : Ga w F pb n g) (hk : ∀ k, F k → w'.heap[k]? = w.heap[k]?) (hs : w.heap.size ≤ w'.heap.size) : Ga w' F pb n g where
 ex := by
  obtain ⟨mb, D, hd, xf, h1, h2, h3, h4⟩ := h.ex
  exact ⟨mb, D, hd, xf, (hk _ h2).trans h1, h2, h3, fun e => ⟨(h4 e).1, (h4 e).2.keep hk hs⟩⟩
 lt k hk' := Nat.lt_of_lt_of_le (h.lt k hk') hs
theorem Ga.mono {w : World} {F : Nat → Prop} {pb n m : Nat} {g : GS} (h : Ga w F pb n g) (hn : n ≤ m) : Ga w F pb m g := by
 obtain ⟨⟨mb, D, hd, xf, h1, h2, h3, h4⟩, h5⟩ := h
 exact ⟨⟨mb, D, hd, xf, h1, h2, h3, fun e => ⟨(h4 e).1, (h4 e).2.mono hn⟩⟩, h5⟩
theorem Ga.below {w w' : World} {F : Nat → Prop} {pb n : Nat} {g : GS} (h : Ga w F pb n g) (hB : Below w.heap.size w w') : Ga w' F pb n g := h.keep (fun k hk => hB.block k (h.lt k hk)) hB.size
/-- one key's list is another one -/
theorem GaMap.set {w w5 : World} {F F' : Nat → Prop} {mb n m : Nat} {D D' : DataW Value} {hd : Nat → Nat → Hd} {xf : Nat → Nat → Fr} {op op' : Nat → Nat → List Fr} (h : GaMap w F mb n D hd xf op) {a b : Nat} (ha : a < 65536) (hb : b < 65536) {l : List Fr} {H : Hd} {x : Fr}
  (hop : ∀ u v, op' u v = if u = a ∧ v = b then l else op u v) (o5 : w5.ownsMap Tryz.prog 156 rawV mb m D') (k5 : ∀ g, g < w.heap.size → g ≠ mb → (op a b ≠ [] → blk (hd a b).A ≠ some g) → w5.heap[g]? = w.heap[g]?)
  (dO : ∀ u v, gkL u v ≠ gkL a b → Maps.has D' (gkL u v) = Maps.has D (gkL u v) ∧ ∀ z, D'.atKey (gkL u v) z = D.atKey (gkL u v) z) (d0 : l = [] → Maps.has D' (gkL a b) = false)
  (d1 : l ≠ [] → Maps.has D' (gkL a b) = true ∧ (∀ z, D'.atKey (gkL a b) z = .held (.agg (partC H (loadLen l) x (goesL l)))) ∧ PartOk l x ∧ OwnG w5 0 H.A H.n H.c (segsOf l) ∧ ∀ g, blk H.A = some g → F' g ∧ g ≠ mb ∧ (w.heap.size ≤ g ∨ op a b ≠ [] ∧ blk (hd a b).A = some g))
  (hFF : ∀ g, F g → (op a b ≠ [] → blk (hd a b).A ≠ some g) → F' g) (hlt : ∀ g, F' g → g < w5.heap.size) :
  GaMap w5 F' mb m D' (fun u v => if u = a ∧ v = b then H else hd u v) (fun u v => if u = a ∧ v = b then x else xf u v) op' := by
 have hke : ∀ u v, u < 65536 → v < 65536 → ¬ (u = a ∧ v = b) → gkL u v ≠ gkL a b := fun u v hu hv hne e => hne (gkL_inj hu hv ha hb e)
 refine ⟨o5, hFF mb h.inF fun e e' => ((h.row a b ha hb e).2 mb e').2 rfl, fun u v hu hv e => ?_, fun u v hu hv e => ?_, fun u v hu hv e => ?_, fun u v hu hv e => ?_, fun u v c d hu hv hc hd' e1 e2 hne => ?_, hlt⟩
 ·rw [hop] at e
  by_cases q : u = a ∧ v = b
  ·rw [if_pos q] at e
   rw [q.1, q.2]
   exact d0 e
  ·rw [if_neg q] at e
   rw [(dO u v (hke u v hu hv q)).1]
   exact h.miss u v hu hv e
 ·rw [hop] at e ⊢
  by_cases q : u = a ∧ v = b
  ·simp only [if_pos q] at e ⊢
   rw [q.1, q.2]
   exact ⟨(d1 e).1, (d1 e).2.1⟩
  ·simp only [if_neg q] at e ⊢
   rw [(dO u v (hke u v hu hv q)).1]
   exact ⟨(h.has u v hu hv e).1, fun z => by rw [(dO u v (hke u v hu hv q)).2]; exact (h.has u v hu hv e).2 z⟩
 ·rw [hop] at e ⊢
  by_cases q : u = a ∧ v = b
  ·simp only [if_pos q] at e ⊢
   exact (d1 e).2.2.1
  ·simp only [if_neg q] at e ⊢
   exact h.part u v hu hv e
 ·rw [hop] at e ⊢
  by_cases q : u = a ∧ v = b
  ·simp only [if_pos q] at e ⊢
   obtain ⟨_, _, _, h4, h5⟩ := d1 e
   exact ⟨h4, fun g hg => ⟨(h5 g hg).1, (h5 g hg).2.1⟩⟩
  ·simp only [if_neg q] at e ⊢
   obtain ⟨q1, q2⟩ := h.row u v hu hv e
   have q3 : ∀ g, blk (hd u v).A = some g → (op a b ≠ [] → blk (hd a b).A ≠ some g) := fun g hg ne => h.apart u v a b hu hv ha hb e ne q g hg
   exact ⟨own_keep q1 (fun g hg => k5 g (h.lt _ (q2 g hg).1) (q2 g hg).2 (q3 g hg)), fun g hg => ⟨hFF g (q2 g hg).1 (q3 g hg), (q2 g hg).2⟩⟩
 ·intro g hg hg2
  rw [hop] at e1 e2
  have key : ∀ u v, u < 65536 → v < 65536 → ¬ (u = a ∧ v = b) → op u v ≠ [] → l ≠ [] → ∀ g, blk (hd u v).A = some g → blk H.A = some g → False := by
   intro u v hu hv q e hl g hg hg2
   obtain ⟨_, _, _, _, h5⟩ := d1 hl
   obtain ⟨_, _, h6⟩ := h5 g hg2
   rcases h6 with h6 | ⟨h6, h7⟩
   ·have := h.lt _ ((h.row u v hu hv e).2 g hg).1
    omega
   ·exact h.apart u v a b hu hv ha hb e h6 q g hg h7
  by_cases q : u = a ∧ v = b
  ·by_cases q' : c = a ∧ d = b
   ·exact hne ⟨q.1.trans q'.1.symm, q.2.trans q'.2.symm⟩
   ·simp only [if_pos q] at e1 hg
    simp only [if_neg q'] at e2 hg2
    exact key c d hc hd' q' e2 e1 g hg2 hg
  ·by_cases q' : c = a ∧ d = b
   ·simp only [if_neg q] at e1 hg
    simp only [if_pos q'] at e2 hg2
    exact key u v hu hv q e1 e2 g hg hg2
   ·simp only [if_neg q] at e1 hg
    simp only [if_neg q'] at e2 hg2
    exact h.apart u v c d hu hv hc hd' e1 e2 hne g hg hg2
/-- the value of an assembly -/
def asV (c t : Nat) (A : Option Addr) (n k : Nat) : Array Value := #[.int .u16 (c : Int), .int .u8 (t : Int), .slice A n k]
theorem alloc_stepG (w : World) (cs : Array Value) (t : TypeId) : ∃ (b : Nat) (v : World), b = w.heap.size ∧ v = w.alloc (.cells cs t) ∧ Box v b t cs ∧ Below w.heap.size w v :=
 ⟨_, _, rfl, rfl, Box.new w cs t, (Below.refl _ _).alloc (Nat.le_refl _) _⟩
end Go.PH
end
section
/- The walk of gather's Check. -/
namespace Go.PH
open Go.RowKit Go.Proofs

def asErr (a : As) : Nat := if asOk a then 0 else 70
def prevT (l : List Sg) : Nat → Option Nat
 | 0 => none
 | i + 1 => (l[i]?).map (·.ty)
theorem segsOk_step {l : List Sg} {i n : Nat} (h : i < l.length) : segsOk n (prevT l i) (l.drop i) = (decide (l[i].ty ≤ 3) && (match prevT l i with | none => true | some p => decide (p < l[i].ty)) && decide (n + l[i].load.length ≤ 16384) && segsOk (n + l[i].load.length) (prevT l (i + 1)) (l.drop (i + 1))) := by
 have e : prevT l (i + 1) = some l[i].ty := by simp [prevT, h]
 rw [List.drop_eq_getElem_cons h, e]
 rfl
set_option maxRecDepth 20000 in
set_option maxHeartbeats 4000000 in
theorem gcheck_any (a : As) (A : Option Addr) (n c : Nat) (B : Nat) (w : World) (hr : RdG w B A n c a.segs) (hB : B ≤ w.heap.size) (hw : a.wf) (hs : ∀ s ∈ a.segs, s.load.length ≤ 140737488351232) (hn : n ≤ 140737488351232) :
  Calls Tryz.prog 61 #[.agg (asV a.chan a.track A n c)] w fun e w' => e = .returned (.int .i64 (asErr a : Int)) ∧ Below w.heap.size w w' := by
 have hnl := rec_length sgShape hr
 obtain ⟨ch, tr, l⟩ := a
 obtain ⟨hch, htr, hty⟩ := hw
 simp only at *
 obtain ⟨xb, w0, hqb, hqv, hX, hB0⟩ := alloc_stepG w (asV ch tr A n c) 42
 have HN := Lib.hid hnl
 have hel := fun {i : Nat} (hi : i < n) => rec_at sgShape hr hi
 have HTY := Lib.hid hty
 have HSL := Lib.hid hs
 have hxw : w.heap.size ≤ xb := by omega
 clear hnl hty hs
 unfold asV at *
 go_enter Tryz.func61, Tryz.ntmps61
 go_upto_region 1 with fail
 rw [← hqb, ← hqv]
 clear hqb hqv
 have x0 := hX.c0
 have x1 := hX.c1
 have x2 := hX.c2
 have HR : Hid (segsOk 0 none l = segsOk 0 (prevT l 0) (l.drop 0)) := Lib.hid rfl
 go_wp2_with (with_reducible refine h_B ?_)
 go_loopw [3, 9] (fun s3 s9 wr => ∃ (i m : Nat), i ≤ n ∧ m ≤ 16384 ∧ s3 = .int .i64 (m : Int) ∧ s9 = .int .i64 (i : Int) ∧ Hid (segsOk 0 none l = segsOk m (prevT l i) (l.drop i)) ∧ Box wr xb 42 #[.int .u16 (ch : Int), .int .u8 (tr : Int), .slice A n c] ∧ Below w.heap.size w wr) (fun _ s9 _ => n - (RowKit.intOf s9).toNat)
 case atStart => exact ⟨0, 0, by omega, by omega, rfl, rfl, HR, hX, hB0⟩
 case round =>
  clear HR x0 x1 x2 hX hB0 w0
  obtain ⟨i, m, hi, hm, rfl, rfl, HC, hX, hBr⟩ := hrel
  have x0 := hX.c0
  have x1 := hX.c1
  have x2 := hX.c2
  by_cases hlt : i < n
  ·have g1 : (i : Int) < (n : Int) := by omega
   obtain ⟨b, off, rfl, hbB, hkl, hcl⟩ := hel hlt
   have hst := segsOk_step (n := m) hkl
   have hbw : b < w.heap.size := by omega
   have k0 : wr.cell? ⟨b, off + i * 2, none⟩ = some (.int .u8 (l[i].ty : Int)) := (hBr.cell (p := ⟨b, off + i * 2, none⟩) hbw).trans (hcl 0 _ rfl)
   have k1 : wr.cell? ⟨b, off + i * 2 + 1, none⟩ = some (.string (str l[i].load)) := (hBr.cell (p := ⟨b, off + i * 2 + 1, none⟩) hbw).trans (hcl 1 _ rfl)
   have hty := HTY.out _ (List.getElem_mem hkl)
   have hsl := HSL.out _ (List.getElem_mem hkl)
   rw [← HC.out] at hst
   have HST := Lib.hid hst
   clear hst hcl
   generalize l[i] = s at *
   obtain ⟨sb, w2, hqb, hqv, hS, hB2⟩ := alloc_stepG wr #[.int .u8 0, .string ⟨#[]⟩] 84
   have hss := str_size s.load
   go_wp2_with (with_reducible refine h_B ?_)
   rw [← hqb, ← hqv]
   refine unhold (wp_box (v := .agg #[.int .u8 (s.ty : Int), .string (str s.load)]) (vs := [.int .u8 (s.ty : Int), .string (str s.load)]) rfl rfl rfl rfl hS rfl (by kernel_rfl) (by simp) (by simp [Value.oneCell']) #[.int .u8 (s.ty : Int), .string (str s.load)] (by simp) ?_)
   intro w3 hS3 hg3 _
   have hsw : w.heap.size ≤ sb := by rw [hqb]; exact hBr.size
   have hxs : xb ≠ sb := by have := hX.lt; omega
   have hX3 := (hX.below hB2).grown hg3 (by intro e; injection e with e; exact hxs e)
   have hB3 : Below w.heap.size w w3 := (hBr.trans (hB2.mono hBr.size)).grown hg3 (Nat.le_trans hBr.size hB2.size) (fun g hg => by injection hg with hg; omega)
   clear hS hg3 hB2 x0 x1 x2 k0 k1 hqb hqv
   have x2 := hX3.c2
   have s0 := hS3.c0
   have s1 := hS3.c1
   have hw1 : IntKind.i64.wrap ((16384 : Int) - (m : Int)) = (16384 : Int) - (m : Int) := IntWalk.i64_in _ ⟨by omega, by omega⟩
   by_cases c1 : 3 < s.ty
   ·have d1 : decide ((3 : Int) < (s.ty : Int)) = true := by simp; omega
    have HV : Hid (asErr ⟨ch, tr, l⟩ = 70) := Lib.hid (by
     have : segsOk 0 none l = false := by
      rw [HST.out]
      try rw [HP.out]
      simp; try omega
     simp [asErr, asOk, this])
    go_upto_region 5 with fail
    try simp only [Act.put]
    go_quiet (fail)
    go_wp2_with (with_reducible refine h_B ?_)
    go_ret
    exact ⟨by rw [HV.out]; rfl, below_drewN hB3 _⟩
   ·have d1 : decide ((3 : Int) < (s.ty : Int)) = false := by simp; omega
    rcases Nat.eq_zero_or_pos i with rfl | hpos
    ·by_cases c3 : 16384 < m + s.load.length
     ·have d3 : (16384 : Int) - (m : Int) < (s.load.length : Int) := by omega
      have HV : Hid (asErr ⟨ch, tr, l⟩ = 70) := Lib.hid (by
       have : segsOk 0 none l = false := by
        rw [HST.out]
        try rw [HP.out]
        simp; try omega
       simp [asErr, asOk, this])
      go_upto_region 5 with fail
      try simp only [Act.put]
      go_quiet (fail)
      go_wp2_with (with_reducible refine h_B ?_)
      go_ret
      exact ⟨by rw [HV.out]; rfl, below_drewN hB3 _⟩
     ·have d3 : decide ((16384 : Int) - (m : Int) < (s.load.length : Int)) = false := by simp; omega
      have HV : Hid (segsOk 0 none l = segsOk (m + s.load.length) (prevT l 1) (l.drop 1)) := Lib.hid (by rw [HST.out]; simp [prevT]; intro _; omega)
      go_upto_region 5 with fail
      try simp only [Act.put]
      go_quiet (fail)
      have s1' := hS3.c1
      go_wp2_with (with_reducible refine h_B ?_)
      exact ⟨⟨0 + 1, m + s.load.length, by omega, by omega, by go_num, by go_num, HV, hX3, below_drewN hB3 _⟩, by simp [RowKit.intOf]; omega⟩
    ·obtain ⟨j, rfl⟩ : ∃ j, i = j + 1 := ⟨i - 1, by omega⟩
     obtain ⟨b', off', hbe, _, hkj, hcj⟩ := hel (i := j) (by omega)
     obtain ⟨rfl, rfl⟩ : b = b' ∧ off = off' := by simpa using hbe
     have p0 : w3.cell? ⟨b, off + j * 2, none⟩ = some (.int .u8 (l[j].ty : Int)) := (hB3.cell (p := ⟨b, off + j * 2, none⟩) hbw).trans (hcj 0 _ rfl)
     have hpt := HTY.out _ (List.getElem_mem hkj)
     have HP : Hid (prevT l (j + 1) = some l[j].ty) := Lib.hid (by simp [prevT, hkj])
     have hwj : IntKind.i64.wrap (j : Int) = (j : Int) := IntWalk.i64_in _ ⟨by omega, by omega⟩
     have hj0 : (0 : Int) < (j : Int) + 1 := by omega
     have hj1 : (j : Int) < (n : Int) := by omega
     clear hcj hbe
     generalize l[j].ty = pt at *
     by_cases c2 : s.ty ≤ pt
     ·have d2 : (s.ty : Int) ≤ (pt : Int) := by omega
      have HE := Lib.hid c2
      clear c2
      have HV : Hid (asErr ⟨ch, tr, l⟩ = 70) := Lib.hid (by
       have : segsOk 0 none l = false := by
        rw [HST.out]
        try rw [HP.out]
        simp; try omega
       simp [asErr, asOk, this])
      go_upto_region 5 with fail
      try simp only [Act.put]
      go_quiet (fail)
      go_wp2_with (with_reducible refine h_B ?_)
      go_ret
      exact ⟨by rw [HV.out]; rfl, below_drewN hB3 _⟩
     ·have d2 : decide ((s.ty : Int) ≤ (pt : Int)) = false := by simp; omega
      by_cases c3 : 16384 < m + s.load.length
      ·have d3 : (16384 : Int) - (m : Int) < (s.load.length : Int) := by omega
       have HV : Hid (asErr ⟨ch, tr, l⟩ = 70) := Lib.hid (by
        have : segsOk 0 none l = false := by
         rw [HST.out]
         try rw [HP.out]
         simp; try omega
        simp [asErr, asOk, this])
       go_upto_region 5 with fail
       try simp only [Act.put]
       go_quiet (fail)
       go_wp2_with (with_reducible refine h_B ?_)
       go_ret
       exact ⟨by rw [HV.out]; rfl, below_drewN hB3 _⟩
      ·have d3 : decide ((16384 : Int) - (m : Int) < (s.load.length : Int)) = false := by simp; omega
       have HV : Hid (segsOk 0 none l = segsOk (m + s.load.length) (prevT l (j + 1 + 1)) (l.drop (j + 1 + 1))) := Lib.hid (by rw [HST.out, HP.out]; simp; intro _; omega)
       go_upto_region 5 with fail
       try simp only [Act.put]
       go_quiet (fail)
       have s1' := hS3.c1
       go_wp2_with (with_reducible refine h_B ?_)
       exact ⟨⟨(j + 1) + 1, m + s.load.length, by omega, by omega, by go_num, by go_num, HV, hX3, below_drewN hB3 _⟩, by simp [RowKit.intOf]; omega⟩
  ·have g1 : ¬ (i : Int) < (n : Int) := by omega
   have hall : segsOk 0 none l = true := by
    rw [HC.out, List.drop_eq_nil_of_le (by have := HN.out; omega)]
    cases prevT l i <;> rfl
   have HA := Lib.hid hall
   clear hall HC
   rcases Nat.eq_zero_or_pos n with hn0 | hpos
   ·have HV : Hid (asErr ⟨ch, tr, l⟩ = 70) := Lib.hid (by
     have : l = [] := List.eq_nil_of_length_eq_zero (by have := HN.out; omega)
     simp [asErr, asOk, headOk, this])
    have d1 : ((n : Int) == 0) = true := by simp; omega
    clear hn0 hel
    go_upto_region 9 with fail
    try simp only [Act.put]
    go_quiet (fail)
    go_wp2_with (with_reducible refine h_B ?_)
    go_ret
    exact ⟨by rw [HV.out]; rfl, below_drewN hBr _⟩
   ·obtain ⟨b, off, rfl, hbB, hkl, hcl⟩ := hel hpos
    have hbw : b < w.heap.size := by omega
    have k0 : wr.cell? ⟨b, off, none⟩ = some (.int .u8 (l[0].ty : Int)) := (hBr.cell (p := ⟨b, off, none⟩) hbw).trans (by simpa using hcl 0 _ rfl)
    have hty := HTY.out _ (List.getElem_mem hkl)
    have hj1 : (0 : Int) < (n : Int) := by omega
    have d1 : ((n : Int) == 0) = false := by simp; omega
    have HH : Hid (headOk ⟨ch, tr, l⟩ = (decide (l[0].ty = tr) && decide (tr ≤ 1) && (decide (tr ≠ 0) || decide (n ≤ 1)))) := Lib.hid (by
     have := HN.out
     cases l with
     | nil => simp at hkl
     | cons s r =>
      simp only [headOk, List.getElem_cons_zero]
      congr 2
      cases r with
      | nil => simp at this ⊢; omega
      | cons s' r' => simp at this ⊢; omega)
    clear hcl hel
    generalize l[0].ty = t0 at *
    by_cases c1 : t0 = tr
    ·have d2 : ((t0 : Int) != (tr : Int)) = false := by simp; omega
     have HE1 := Lib.hid c1
     clear c1
     by_cases c2 : 1 < tr
     ·have d3 : (1 : Int) < (tr : Int) := by omega
      have HV : Hid (asErr ⟨ch, tr, l⟩ = 70) := Lib.hid (by
       have : headOk ⟨ch, tr, l⟩ = false := by rw [HH.out]; simp; omega
       simp [asErr, asOk, this])
      go_upto_region 9 with fail
      try simp only [Act.put]
      go_quiet (fail)
      go_wp2_with (with_reducible refine h_B ?_)
      go_ret
      exact ⟨by rw [HV.out]; rfl, below_drewN hBr _⟩
     ·have d3 : decide ((1 : Int) < (tr : Int)) = false := by simp; omega
      by_cases c3 : tr = 0
      ·have d4 : ((tr : Int) == 0) = true := by simp; omega
       have HE2 := Lib.hid c3
       clear c3
       by_cases c4 : 1 < n
       ·have d5 : (1 : Int) < (n : Int) := by omega
        have HV : Hid (asErr ⟨ch, tr, l⟩ = 70) := Lib.hid (by
         have : headOk ⟨ch, tr, l⟩ = false := by rw [HH.out]; simp [HE2.out]; omega
         simp [asErr, asOk, this])
        go_upto_region 9 with fail
        try simp only [Act.put]
        go_quiet (fail)
        go_wp2_with (with_reducible refine h_B ?_)
        go_ret
        exact ⟨by rw [HV.out]; rfl, below_drewN hBr _⟩
       ·have d5 : decide ((1 : Int) < (n : Int)) = false := by simp; omega
        have HV : Hid (asErr ⟨ch, tr, l⟩ = 0) := Lib.hid (by
         have : headOk ⟨ch, tr, l⟩ = true := by rw [HH.out]; simp [HE1.out, HE2.out]; omega
         simp [asErr, asOk, this, HA.out])
        go_upto_region 9 with fail
        try simp only [Act.put]
        go_quiet (fail)
        go_wp2_with (with_reducible refine h_B ?_)
        go_ret
        exact ⟨by rw [HV.out]; rfl, below_drewN hBr _⟩
      ·have d4 : ((tr : Int) == 0) = false := by simp; omega
       have HV : Hid (asErr ⟨ch, tr, l⟩ = 0) := Lib.hid (by
        have : headOk ⟨ch, tr, l⟩ = true := by rw [HH.out]; simp [HE1.out, c3]; omega
        simp [asErr, asOk, this, HA.out])
       go_upto_region 9 with fail
       try simp only [Act.put]
       go_quiet (fail)
       go_wp2_with (with_reducible refine h_B ?_)
       go_ret
       exact ⟨by rw [HV.out]; rfl, below_drewN hBr _⟩
    ·have d2 : ((t0 : Int) != (tr : Int)) = true := by simp; omega
     have HV : Hid (asErr ⟨ch, tr, l⟩ = 70) := Lib.hid (by
      have : headOk ⟨ch, tr, l⟩ = false := by rw [HH.out]; simp; omega
      simp [asErr, asOk, this])
     clear c1
     go_upto_region 9 with fail
     try simp only [Act.put]
     go_quiet (fail)
     go_wp2_with (with_reducible refine h_B ?_)
     go_ret
     exact ⟨by rw [HV.out]; rfl, below_drewN hBr _⟩
end Go.PH
end
section
/- Reading assemblies as a law's argument. -/
namespace Go.PH
open Go.RowKit Go.Proofs Go.ChangeShapes Go.WideShapes Go.ChangeAt Go.Deep
variable {H : Type} {enc : TypeId × Value → H} {W : World}

def Sg.wf (s : Sg) : Prop := s.ty < 256 ∧ s.load.length ≤ 140737488351232
def RSeg (s : Sg) (cs : List Value) : Prop := cs = sgC s ∧ s.wf
theorem cells2g {cs : List Value} {a b : Value} (hl : cs.length = 2) (h0 : (cs.drop 0).take 1 = [a]) (h1 : (cs.drop 1).take 1 = [b]) : cs = [a, b] := by
 match cs, hl with
 | [x, y], _ => simp_all
theorem cells3g {cs : List Value} {a b c : Value} (hl : cs.length = 3) (h0 : (cs.drop 0).take 1 = [a]) (h1 : (cs.drop 1).take 1 = [b]) (h2 : (cs.drop 2).take 1 = [c]) : cs = [a, b, c] := by
 match cs, hl with
 | [x, y, z], _ => simp_all
set_option maxRecDepth 20000 in
theorem reader_seg : Reader enc Tryz.prog W 84 RSeg := fun fuel cs d p h hw => by
 obtain ⟨hl, hf⟩ := trod_field Tryz.underlying84 h hw
 obtain ⟨n0, h0, w0⟩ := hf 0 _ rfl (reader_int (k := .u8) Tryz.underlying5)
 obtain ⟨s1, h1, w1⟩ := hf 1 _ rfl (reader_str Tryz.underlying9)
 have b0 := bounds_u8 w0
 rw [(by kernel_rfl : Tryz.prog.cellsOf 84 = 2)] at hl
 have e0 : n0 = ((n0.toNat : Nat) : Int) := by omega
 rw [e0] at h0
 exact ⟨⟨n0.toNat, s1⟩, cells2g hl h0 h1, by show n0.toNat < 256; omega, w1⟩
def RAs (W : World) (a : As) (cs : List Value) : Prop := ∃ A n c, cs = (asV a.chan a.track A n c).toList ∧ a.wf ∧ (∀ s ∈ a.segs, s.load.length ≤ 140737488351232) ∧ RdG W W.heap.size A n c a.segs ∧ n ≤ 140737488351232
set_option maxRecDepth 20000 in
theorem reader_as : Reader enc Tryz.prog W 42 (RAs W) := fun fuel cs d p h hw => by
 obtain ⟨hl, hf⟩ := trod_field Tryz.underlying42 h hw
 obtain ⟨n0, h0, w0⟩ := hf 0 _ rfl (reader_int (k := .u16) Tryz.underlying39)
 obtain ⟨n1, h1, w1⟩ := hf 1 _ rfl (reader_int (k := .u8) Tryz.underlying5)
 obtain ⟨L, A, n, c, xs, h2, hR, hn, hk, hE⟩ := hf 2 _ rfl (reader_slice Tryz.underlying40 (by kernel_rfl : Tryz.prog.cellsOf 84 = 2) (by kernel_rfl : Tryz.prog.bytesOf 84 = 24) (by omega) reader_seg)
 have c0 := bounds_u16 w0
 have c1 := bounds_u8 w1
 rw [(by kernel_rfl : Tryz.prog.cellsOf 42 = 3)] at hl
 have e0 : n0 = ((n0.toNat : Nat) : Int) := by omega
 have e1 : n1 = ((n1.toNat : Nat) : Int) := by omega
 rw [e0] at h0
 rw [e1] at h1
 obtain ⟨hs, hwf⟩ := rec_of (C := Sg.wf) sgShape hR hn hE
 have hcap := hs.cap
 exact ⟨⟨n0.toNat, n1.toNat, L⟩, A, n, c, cells3g hl h0 h1 h2, ⟨by show n0.toNat < 65536; omega, by show n1.toNat < 256; omega, fun s hs => (hwf s hs).1⟩, fun s hs => (hwf s hs).2, hs, by omega⟩
set_option maxRecDepth 20000 in
theorem see_as {d : DataW H} {ps : List MemPlace} {v : Value} {r : Reach} {b0 : Nat} (hval : Value.okWide Tryz.prog W r b0 42 v) (hd : DataW.Trod enc Tryz.prog W 0 (fun _ => true) true 42 v d ps)
  {ts : List TypeId} {ds : List (DataW H)} {j : Nat} (hz : (DataW.weightsEach Tryz.prog ts ds).all (· ≤ reachBytes) = true) (ht : ts[j]? = some 42) (hdj : ds[j]? = some d) : ∃ (a : As) (A : Option Addr) (n c : Nat), v = .agg (asV a.chan a.track A n c) ∧ a.wf ∧ (∀ s ∈ a.segs, s.load.length ≤ 140737488351232) ∧ RdG W W.heap.size A n c a.segs ∧ n ≤ 140737488351232 := by
 obtain ⟨cs, rfl, _⟩ := okWide_struct Tryz.underlying42 hval
 obtain ⟨g, A, n, c, h1, h2⟩ := see_arg reader_as hd hz ht hdj
 refine ⟨g, A, n, c, ?_, h2⟩
 simp only [Value.cells] at h1
 congr 1
 apply Array.ext'
 rw [h1]
end Go.PH
end
section
/- The walks of gather's New, link's New and State. -/
namespace Go.PH
open Go.RowKit Go.Proofs

set_option maxRecDepth 20000 in
theorem gnew_any (w : World) : Calls Tryz.prog 23 #[] w fun e w' => e = .returned (.pointer (some ⟨w.heap.size + 1, 0, none⟩)) ∧ Ga w' (fun g => g = w.heap.size ∨ g = w.heap.size + 1) (w.heap.size + 1) 0 GS.new ∧ Below w.heap.size w w' ∧ w'.heap.size = w.heap.size + 2 := by
 have hmk := fun W => run_makeMap (P := Tryz.prog) 86 W
 go_enter Tryz.func23, Tryz.ntmps23
 go_wp2_with (with_reducible refine h_A ?_)
 go_ret
 have hm0 := World.ownsMap_made w Tryz.prog 156 rawV
 have hs1 : (w.alloc (.map #[] 0)).heap.size = w.heap.size + 1 := by simp
 have hB1 : Below w.heap.size w (w.alloc (.map #[] 0)) := (Below.refl _ _).alloc (Nat.le_refl _) _
 have hbx : Box ((w.alloc (.map #[] 0)).alloc (.cells #[.map (some w.heap.size), .bool false] 88)) (w.heap.size + 1) 88 #[.map (some w.heap.size), .bool false] := by
  have := Box.new (w.alloc (.map #[] 0)) #[.map (some w.heap.size), .bool false] 88
  rwa [hs1] at this
 have hlt : ∀ g, (g = w.heap.size ∨ g = w.heap.size + 1) → g < ((w.alloc (.map #[] 0)).alloc (.cells #[.map (some w.heap.size), .bool false] 88)).heap.size := fun g hg => by simp only [World.alloc, Array.size_push]; omega
 refine ⟨rfl, ⟨⟨w.heap.size, .map [], fun _ _ => ⟨none, 0, 0⟩, fun _ _ => fr00, hbx, .inr rfl, by omega, fun _ => ⟨fun a b _ _ hne => absurd rfl hne, ?_⟩⟩, hlt⟩, hB1.alloc hB1.size _, by simp⟩
 exact ⟨ownsMap_keep hm0 (Below.heap_alloc _ _ _ (by omega)), .inl rfl, fun a b _ _ _ => rfl, fun a b _ _ hne => absurd rfl hne, fun a b _ _ hne => absurd rfl hne, fun a b _ _ hne => absurd rfl hne, fun a b c d _ _ _ _ hne => absurd rfl hne, hlt⟩
/-- a new link's cells -/
def lk0 (gp : Nat) : Array Value := #[.int .u8 0, .slice none 0 0, .pointer (some ⟨gp, 0, none⟩), .int .u64 255, .int .u64 4096, .pointer none, .slice none 0 0, .slice none 0 0]
set_option maxRecDepth 20000 in
theorem lnew_any (w : World) : Calls Tryz.prog 10 #[] w fun e w' => e = .returned (.pointer (some ⟨w.heap.size + 2, 0, none⟩)) ∧ Ga w' (fun g => g = w.heap.size ∨ g = w.heap.size + 1) (w.heap.size + 1) 0 GS.new ∧ Box w' (w.heap.size + 2) 61 (lk0 (w.heap.size + 1)) ∧ Below w.heap.size w w' := by
 have hg := gnew_any w
 go_enter Tryz.func10, Tryz.ntmps10
 go_wp2_with (with_reducible refine h_A ?_)
 refine hg.mono ?_
 rintro e w1 ⟨rfl, hG, hB, hz⟩
 have HZ := Lib.hid hz
 clear hz hg
 obtain ⟨lb, w2, hqb, hqv, hL, hB2⟩ := alloc_stepG w1 (lk0 (w.heap.size + 1)) 61
 unfold lk0 at hqv
 go_wp2_with (with_reducible refine h_A ?_)
 rw [← hqv, ← hqb]
 go_ret
 have e1 : lb = w.heap.size + 2 := by rw [hqb, HZ.out]
 rw [e1] at hL ⊢
 exact ⟨rfl, hG.below hB2, hL, hB.trans (hB2.mono hB.size)⟩
set_option maxRecDepth 20000 in
theorem lstate_nil (w : World) : Calls Tryz.prog 15 #[.pointer none] w fun e w' => e = .returned (.int .u8 5) ∧ w = w' := by
 go_enter Tryz.func15, Tryz.ntmps15
 go_wp2_with (with_reducible refine h_A ?_)
 go_ret
 exact ⟨rfl, rfl⟩
set_option maxRecDepth 20000 in
theorem lstate_zero (lb : Nat) (w : World) (h2 : w.cell? ⟨lb, 2, none⟩ = some (.pointer none)) : Calls Tryz.prog 15 #[.pointer (some ⟨lb, 0, none⟩)] w fun e w' => e = .returned (.int .u8 5) ∧ w = w' := by
 go_enter Tryz.func15, Tryz.ntmps15
 go_wp2_with (with_reducible refine h_A ?_)
 go_ret
 exact ⟨rfl, rfl⟩
set_option maxRecDepth 20000 in
theorem lstate_any (lb st gp : Nat) (w : World) (h0 : w.cell? ⟨lb, 0, none⟩ = some (.int .u8 (st : Int))) (h2 : w.cell? ⟨lb, 2, none⟩ = some (.pointer (some ⟨gp, 0, none⟩))) : Calls Tryz.prog 15 #[.pointer (some ⟨lb, 0, none⟩)] w fun e w' => e = .returned (.int .u8 (st : Int)) ∧ w = w' := by
 go_enter Tryz.func15, Tryz.ntmps15
 go_wp2_with (with_reducible refine h_A ?_)
 go_ret
 exact ⟨rfl, rfl⟩
end Go.PH
end
section
/- The walk of octet's PutText. -/
namespace Go.PH
open Go.RowKit Go.Proofs

theorem textErr_wide {n : Nat} {x : Int} (h : x = 8 ∨ wideB x = false) : textErr n x = 2 := by
 unfold textErr
 rw [if_neg]
 intro h'
 rcases h with rfl | h
 ·omega
 ·have := wideB_yes (w := x) (by omega)
  rw [h] at this; cases this
theorem putsText_err {l s : List UInt8} {x : Int} (h : textErr s.length x ≠ 0) : putsText l s x = [] := by unfold putsText; rw [if_neg h]
theorem putsText_ok {l s : List UInt8} {x : Int} (h : textErr s.length x = 0) : putsText l s x = l ++ be x.toNat s.length ++ s := by unfold putsText; rw [if_pos h]

set_option maxHeartbeats 1000000 in
theorem puttext_any (A : Option Addr) (n c : Nat) (l s : List UInt8) (x : Int) (w : World) (hb : RdB w w.heap.size A n c l) (hs : s.length ≤ 140737488351232) (hn : n ≤ 140737488351240) :
  Calls Tryz.prog 102 #[.slice A n c, .string (str s), .int .i64 x] w fun e w' => ∃ A2 c2, e = .returned (.tuple #[.slice A2 (putsText l s x).length c2, .int .i64 (textErr s.length x)]) ∧ Own w' w.heap.size 5 1 A2 (putsText l s x).length c2 ((putsText l s x).map u8v) ∧ Below w.heap.size w w' := by
 have hl := hb.length
 have hss := str_size s
 by_cases h8 : x = 8
 ·rw [textErr_wide (.inl h8), putsText_err (by rw [textErr_wide (.inl h8)]; omega)]
  subst h8
  go_enter Tryz.func102, Tryz.ntmps102
  go_wp2_with (with_reducible refine h_A ?_)
  go_ret2
  exact ⟨none, 0, rfl, Own.none_ _ _ _ _, Below.refl _ _⟩
 by_cases hw : wideB x = true
 ·rcases (show x = 1 ∨ x = 2 ∨ x = 4 by rw [wideB_iff] at hw; omega) with rfl | rfl | rfl
  ·by_cases hlen : s.length < 256
   ·have he : textErr s.length 1 = 0 := by unfold textErr; simp; omega
    rw [he, putsText_ok he]
    have hz : (s.length : Int) / 256 = 0 := by omega
    simp only [List.length_append, be_length, show (1 : Int).toNat = 1 from rfl, hl]
    go_enter Tryz.func102, Tryz.ntmps102
    go_wp2_with (with_reducible refine h_A ?_)
    refine (wide_any _ w).mono ?_
    rw [hw]
    rintro e w' ⟨rfl, rfl⟩
    go_wp2_with (with_reducible refine h_A ?_)
    refine (number_any s.length 1 w' (by omega) (by omega) (by omega)).mono ?_
    rintro e w1 ⟨A1, rfl, ho1, hB1⟩
    go_wp2_with (with_reducible refine h_A ?_)
    refine unhold (wp_app_str slB Tryz.underlying9 rfl rfl rfl rfl ho1 (by omega) hB1.size ?_)
    intro A2 c2 w2 ho2 hg2
    have hB2 : Below w'.heap.size w' w2 := hB1.grown hg2 hB1.size (fun g hg => (ho1.blk_lt hg).1)
    rw [← List.map_append] at ho2
    go_wp2_with (with_reducible refine h_A ?_)
    refine (behind_any A n c l A2 (1 + s.length) c2 (be 1 s.length ++ s) w2 ((hb.below hB2).more hB2.size) ho2.rd (by omega)).mono ?_
    rintro e w3 ⟨A3, rfl, ho3, hB3⟩
    rw [← List.append_assoc] at ho3
    go_wp2_with (with_reducible refine h_A ?_)
    go_ret2
    rw [Nat.add_assoc]
    exact ⟨A3, _, rfl, ho3.base_le hB2.size, hB2.trans (hB3.mono hB2.size)⟩
   ·have he : textErr s.length 1 = 3 := by unfold textErr; simp; omega
    rw [he, putsText_err (by rw [he]; omega)]
    have hz : ((s.length : Int) / 256 != 0) = true := by simp; omega
    go_enter Tryz.func102, Tryz.ntmps102
    go_wp2_with (with_reducible refine h_A ?_)
    refine (wide_any _ w).mono ?_
    rw [hw]
    rintro e w' ⟨rfl, rfl⟩
    go_wp2_with (with_reducible refine h_A ?_)
    go_ret2
    exact ⟨none, 0, rfl, Own.none_ _ _ _ _, Below.refl _ _⟩
  ·by_cases hlen : s.length < 65536
   ·have he : textErr s.length 2 = 0 := by unfold textErr; simp; omega
    rw [he, putsText_ok he]
    have hz : (s.length : Int) / 65536 = 0 := by omega
    simp only [List.length_append, be_length, show (2 : Int).toNat = 2 from rfl, hl]
    go_enter Tryz.func102, Tryz.ntmps102
    go_wp2_with (with_reducible refine h_A ?_)
    refine (wide_any _ w).mono ?_
    rw [hw]
    rintro e w' ⟨rfl, rfl⟩
    go_wp2_with (with_reducible refine h_A ?_)
    refine (number_any s.length 2 w' (by omega) (by omega) (by omega)).mono ?_
    rintro e w1 ⟨A1, rfl, ho1, hB1⟩
    go_wp2_with (with_reducible refine h_A ?_)
    refine unhold (wp_app_str slB Tryz.underlying9 rfl rfl rfl rfl ho1 (by omega) hB1.size ?_)
    intro A2 c2 w2 ho2 hg2
    have hB2 : Below w'.heap.size w' w2 := hB1.grown hg2 hB1.size (fun g hg => (ho1.blk_lt hg).1)
    rw [← List.map_append] at ho2
    go_wp2_with (with_reducible refine h_A ?_)
    refine (behind_any A n c l A2 (2 + s.length) c2 (be 2 s.length ++ s) w2 ((hb.below hB2).more hB2.size) ho2.rd (by omega)).mono ?_
    rintro e w3 ⟨A3, rfl, ho3, hB3⟩
    rw [← List.append_assoc] at ho3
    go_wp2_with (with_reducible refine h_A ?_)
    go_ret2
    rw [Nat.add_assoc]
    exact ⟨A3, _, rfl, ho3.base_le hB2.size, hB2.trans (hB3.mono hB2.size)⟩
   ·have he : textErr s.length 2 = 3 := by unfold textErr; simp; omega
    rw [he, putsText_err (by rw [he]; omega)]
    have hz : ((s.length : Int) / 65536 != 0) = true := by simp; omega
    go_enter Tryz.func102, Tryz.ntmps102
    go_wp2_with (with_reducible refine h_A ?_)
    refine (wide_any _ w).mono ?_
    rw [hw]
    rintro e w' ⟨rfl, rfl⟩
    go_wp2_with (with_reducible refine h_A ?_)
    go_ret2
    exact ⟨none, 0, rfl, Own.none_ _ _ _ _, Below.refl _ _⟩
  ·by_cases hlen : s.length < 4294967296
   ·have he : textErr s.length 4 = 0 := by unfold textErr; simp; omega
    rw [he, putsText_ok he]
    have hz : (s.length : Int) / 4294967296 = 0 := by omega
    simp only [List.length_append, be_length, show (4 : Int).toNat = 4 from rfl, hl]
    go_enter Tryz.func102, Tryz.ntmps102
    go_wp2_with (with_reducible refine h_A ?_)
    refine (wide_any _ w).mono ?_
    rw [hw]
    rintro e w' ⟨rfl, rfl⟩
    go_wp2_with (with_reducible refine h_A ?_)
    refine (number_any s.length 4 w' (by omega) (by omega) (by omega)).mono ?_
    rintro e w1 ⟨A1, rfl, ho1, hB1⟩
    go_wp2_with (with_reducible refine h_A ?_)
    refine unhold (wp_app_str slB Tryz.underlying9 rfl rfl rfl rfl ho1 (by omega) hB1.size ?_)
    intro A2 c2 w2 ho2 hg2
    have hB2 : Below w'.heap.size w' w2 := hB1.grown hg2 hB1.size (fun g hg => (ho1.blk_lt hg).1)
    rw [← List.map_append] at ho2
    go_wp2_with (with_reducible refine h_A ?_)
    refine (behind_any A n c l A2 (4 + s.length) c2 (be 4 s.length ++ s) w2 ((hb.below hB2).more hB2.size) ho2.rd (by omega)).mono ?_
    rintro e w3 ⟨A3, rfl, ho3, hB3⟩
    rw [← List.append_assoc] at ho3
    go_wp2_with (with_reducible refine h_A ?_)
    go_ret2
    rw [Nat.add_assoc]
    exact ⟨A3, _, rfl, ho3.base_le hB2.size, hB2.trans (hB3.mono hB2.size)⟩
   ·have he : textErr s.length 4 = 3 := by unfold textErr; simp; omega
    rw [he, putsText_err (by rw [he]; omega)]
    have hz : ((s.length : Int) / 4294967296 != 0) = true := by simp; omega
    go_enter Tryz.func102, Tryz.ntmps102
    go_wp2_with (with_reducible refine h_A ?_)
    refine (wide_any _ w).mono ?_
    rw [hw]
    rintro e w' ⟨rfl, rfl⟩
    go_wp2_with (with_reducible refine h_A ?_)
    go_ret2
    exact ⟨none, 0, rfl, Own.none_ _ _ _ _, Below.refl _ _⟩
 ·have hw' : wideB x = false := by simpa using hw
  rw [textErr_wide (.inr hw'), putsText_err (by rw [textErr_wide (.inr hw')]; omega)]
  go_enter Tryz.func102, Tryz.ntmps102
  go_wp2_with (with_reducible refine h_A ?_)
  refine (wide_any x w).mono ?_
  rw [hw']
  rintro e w' ⟨rfl, rfl⟩
  go_wp2_with (with_reducible refine h_A ?_)
  go_ret2
  exact ⟨none, 0, rfl, Own.none_ _ _ _ _, Below.refl _ _⟩
end Go.PH
end

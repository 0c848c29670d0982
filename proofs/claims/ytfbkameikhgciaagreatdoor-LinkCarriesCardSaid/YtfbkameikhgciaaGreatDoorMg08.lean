/- Texts laid together: GaFeed1, GaRefCheck, GaSee, LkNew, OctPutText, OctRWidth. -/
import Derived.WalkSpells
import Derived.Test.YtfbkameikhgciaaGreatDoorMg02
import Derived.Test.YtfbkameikhgciaaGreatDoorMg03
import Derived.Test.YtfbkameikhgciaaGreatDoorMg05
import Derived.Test.YtfbkameikhgciaaGreatDoorMg07
set_option linter.all false
set_option linter.unusedSimpArgs false
set_option linter.unusedVariables false
section
/- What gather's Feed leaves: the part laid in the map, or taken out. -/
namespace Go.PH
open Go.RowKit Go.Proofs

section
variable {w wz : World} {F : Nat → Prop} {pb mb n N C : Nat} {g : GS} {f y : Fr} {D : DataW Value} {hd : Nat → Nat → Hd} {xf : Nat → Nat → Fr} {H : Hd} {A : Option Addr}
theorem hd_blk (hm : GaMap w F mb n D hd xf g.op) (hf : f.wf) (htr : f.track ≤ 1) (h0 : g.op f.chan f.track = [] → H = ⟨none, 0, 0⟩) (h1 : g.op f.chan f.track ≠ [] → H = hd f.chan f.track) {k : Nat} (hk : blk H.A = some k) :
  g.op f.chan f.track ≠ [] ∧ blk (hd f.chan f.track).A = some k ∧ F k ∧ k ≠ mb ∧ k < w.heap.size := by
 by_cases e : g.op f.chan f.track = []
 ·rw [h0 e] at hk; cases hk
 ·rw [h1 e] at hk
  obtain ⟨_, h2⟩ := hm.row _ _ hf.2.2 (by omega) e
  exact ⟨e, hk, (h2 k hk).1, (h2 k hk).2, hm.lt _ (h2 k hk).1⟩
theorem feed_keep (hm : GaMap w F mb n D hd xf g.op) (hf : f.wf) (htr : f.track ≤ 1) (h0 : g.op f.chan f.track = [] → H = ⟨none, 0, 0⟩) (h1 : g.op f.chan f.track ≠ [] → H = hd f.chan f.track) (hK : KeepF (fun k => k = mb ∨ blk H.A = some k) w wz) : KeepF F w wz :=
 hK.weak fun k hk => by
  rcases hk with rfl | hk
  ·exact .inl hm.inF
  ·exact .inl (hd_blk hm hf htr h0 h1 hk).2.2.1
theorem feed_k5 (h0 : g.op f.chan f.track = [] → H = ⟨none, 0, 0⟩) (h1 : g.op f.chan f.track ≠ [] → H = hd f.chan f.track) (hK : KeepF (fun k => k = mb ∨ blk H.A = some k) w wz) :
  ∀ k, k < w.heap.size → k ≠ mb → (g.op f.chan f.track ≠ [] → blk (hd f.chan f.track).A ≠ some k) → wz.heap[k]? = w.heap[k]? := fun k hk hne hr => hK.2.1 k hk fun e => by
 rcases e with e | e
 ·exact hne e
 ·by_cases e0 : g.op f.chan f.track = []
  ·rw [h0 e0] at e; cases e
  ·rw [h1 e0] at e; exact hr e0 e
theorem feed_on (hm : GaMap w F mb n D hd xf g.op) (hF : F pb) (hne : pb ≠ mb) (hmr : ∀ a b, a < 65536 → b < 65536 → g.op a b ≠ [] → blk (hd a b).A ≠ some pb) (hlt : ∀ k, F k → k < w.heap.size) (hf : f.wf) (htr : f.track ≤ 1) (hdd : g.dead = false) (he : g.err f = 0) (hfl : (f.fin && f.last) = false)
  (h0 : g.op f.chan f.track = [] → H = ⟨none, 0, 0⟩) (h1 : g.op f.chan f.track ≠ [] → H = hd f.chan f.track) (hK : KeepF (fun k => k = mb ∨ blk H.A = some k) w wz) (hbz : Box wz pb 88 #[.map (some mb), .bool false])
  (o5 : wz.ownsMap Tryz.prog 156 rawV mb (n + 1) (D.put (gkL f.chan f.track) (.held (.agg (partC ⟨A, N, C⟩ (loadLen (g.op f.chan f.track ++ [f])) y (goesL (g.op f.chan f.track ++ [f]))))))) (hP : PartOk (g.op f.chan f.track ++ [f]) y)
  (hrow : OwnG wz 0 A N C (segsOf (g.op f.chan f.track ++ [f]))) (hAt : ∀ k, blk A = some k → (blk H.A = some k ∨ w.heap.size ≤ k)) :
  FeedR w F pb n g f (.returned (.tuple #[.agg asZ, .bool false, .int .i64 0])) wz := by
 have hnx : g.next f = g.upd f.chan f.track (g.op f.chan f.track ++ [f]) := by unfold GS.next; rw [if_neg (by omega), hfl]; simp
 have hout : g.out f = none := by
  unfold GS.out
  rw [if_neg]
  rintro ⟨_, e1, e2⟩
  rw [e1, e2] at hfl; cases hfl
 have hbk : ∀ k, blk A = some k → k < wz.heap.size ∧ k ≠ mb ∧ (F k ∨ w.heap.size ≤ k) ∧ (w.heap.size ≤ k ∨ g.op f.chan f.track ≠ [] ∧ blk (hd f.chan f.track).A = some k) := fun k hk => by
  have hl := (Own.blk_lt hrow hk).2
  rcases hAt k hk with e | e
  ·obtain ⟨q1, q2, q3, q4, _⟩ := hd_blk hm hf htr h0 h1 e
   exact ⟨hl, q4, .inl q3, .inr ⟨q1, q2⟩⟩
  ·exact ⟨hl, by have := hm.lt _ hm.inF; omega, .inr e, .inl e⟩
 have hset := hm.set (w5 := wz) (F' := fun k => F k ∨ (w.heap.size ≤ k ∧ k < wz.heap.size)) (a := f.chan) (b := f.track) hf.2.2 (show f.track < 65536 by omega) (l := g.op f.chan f.track ++ [f]) (H := ⟨A, N, C⟩) (x := y) (op' := (g.next f).op) (fun u v => by rw [hnx]; rfl) o5 (feed_k5 h0 h1 hK)
  (fun u v hne' => ⟨Maps.has_put_other hne' _, fun z => Maps.atKey_put_other hne' _ z⟩) (fun e => by simp at e)
  (fun _ => ⟨Maps.has_put_same (ownsMap_isG hm.owns) (gk_keyed.key (gk_key hf.2.2 (by omega))) _, fun z => Maps.atKey_put_same (ownsMap_isG hm.owns) (gk_keyed.key (gk_key hf.2.2 (by omega))) .., hP, hrow, fun k hk => by
   obtain ⟨q1, q2, q3, q4⟩ := hbk k hk
   exact ⟨by rcases q3 with q3 | q3; exact .inl q3; exact .inr ⟨q3, q1⟩, q2, q4⟩⟩)
  (fun k hk _ => .inl hk) (fun k hk => by rcases hk with hk | hk; have := hlt k hk; have := hK.1; omega; exact hk.2)
 refine ⟨_, fun k hk => hk.imp id (fun e => e.1), ⟨⟨mb, _, _, _, ?_, .inl hF, hne, fun _ => ⟨fun a b ha hb hne' => ?_, hset⟩⟩, hset.lt⟩, feed_keep hm hf htr h0 h1 hK, .inl ⟨hout, by rw [he]; rfl⟩⟩
 ·rw [hnx]; show Box wz pb _ #[_, .bool g.dead]; rw [hdd]; exact hbz
 ·rw [hnx] at hne'
  have hne2 : (if a = f.chan ∧ b = f.track then g.op f.chan f.track ++ [f] else g.op a b) ≠ [] := hne'
  by_cases q : a = f.chan ∧ b = f.track
  ·simp only [if_pos q]
   intro e
   have hpl := hlt pb hF
   rcases hAt pb e with e | e
   ·obtain ⟨q1, q2, _⟩ := hd_blk hm hf htr h0 h1 e
    exact hmr _ _ hf.2.2 (by omega) q1 q2
   ·omega
  ·rw [if_neg q] at hne2
   simp only [if_neg q]
   exact hmr a b ha hb hne2
theorem feed_out (hm : GaMap w F mb n D hd xf g.op) (hF : F pb) (hne : pb ≠ mb) (hmr : ∀ a b, a < 65536 → b < 65536 → g.op a b ≠ [] → blk (hd a b).A ≠ some pb) (hlt : ∀ k, F k → k < w.heap.size) (hf : f.wf) (htr : f.track ≤ 1) (hdd : g.dead = false) (he : g.err f = 0) (hfl : (f.fin && f.last) = true)
  (h0 : g.op f.chan f.track = [] → H = ⟨none, 0, 0⟩) (h1 : g.op f.chan f.track ≠ [] → H = hd f.chan f.track) (hK : KeepF (fun k => k = mb ∨ blk H.A = some k) w wz) (hbz : Box wz pb 88 #[.map (some mb), .bool false])
  (o5 : wz.ownsMap Tryz.prog 156 rawV mb n (D.del (gkL f.chan f.track))) (hN : N = (segsOf (g.op f.chan f.track ++ [f])).length)
  (hrow : OwnG wz 0 A N C (segsOf (g.op f.chan f.track ++ [f]))) (hAt : ∀ k, blk A = some k → (blk H.A = some k ∨ w.heap.size ≤ k)) (hAs : g.op f.chan f.track ≠ [] → ∀ k, blk (hd f.chan f.track).A = some k → blk A = some k ∨ True) :
  FeedR w F pb n g f (.returned (.tuple #[.agg (asV f.chan f.track A N C), .bool true, .int .i64 0])) wz := by
 have hnx : g.next f = g.upd f.chan f.track [] := by unfold GS.next; rw [if_neg (by omega), hfl]; simp
 have hff : f.fin = true ∧ f.last = true := by simpa using hfl
 have hout : g.out f = some ⟨f.chan, f.track, segsOf (g.op f.chan f.track ++ [f])⟩ := by
  unfold GS.out
  rw [if_pos ⟨he, hff.1, hff.2⟩]
 have hpA : blk A ≠ some pb := fun e => by
  have hpl := hlt pb hF
  rcases hAt pb e with e | e
  ·obtain ⟨q1, q2, _⟩ := hd_blk hm hf htr h0 h1 e
   exact hmr _ _ hf.2.2 (by omega) q1 q2
  ·omega
 have hother : ∀ k, blk A = some k → k < w.heap.size → g.op f.chan f.track ≠ [] ∧ blk (hd f.chan f.track).A = some k := fun k hk hl => by
  rcases hAt k hk with e | e
  ·obtain ⟨q1, q2, _⟩ := hd_blk hm hf htr h0 h1 e
   exact ⟨q1, q2⟩
  ·omega
 have hset := hm.set (w5 := wz) (F' := fun k => F k ∧ blk A ≠ some k) (a := f.chan) (b := f.track) hf.2.2 (show f.track < 65536 by omega) (l := []) (H := ⟨none, 0, 0⟩) (x := f) (op' := (g.next f).op) (fun u v => by rw [hnx]; rfl) o5 (feed_k5 h0 h1 hK)
  (fun u v hne' => ⟨Maps.has_del_other hne', fun z => Maps.atKey_del_other hne' z⟩) (fun _ => Maps.has_del_same) (fun e => absurd rfl e)
  (fun k hk hr => ⟨hk, fun e => by obtain ⟨q1, q2⟩ := hother k e (hlt k hk); exact hr q1 q2⟩) (fun k hk => by have := hlt k hk.1; have := hK.1; omega)
 refine ⟨_, fun k hk => .inl hk.1, ⟨⟨mb, _, _, _, ?_, ⟨hF, hpA⟩, hne, fun _ => ⟨fun a b ha hb hne' => ?_, hset.mono (Nat.le_succ _)⟩⟩, hset.lt⟩, feed_keep hm hf htr h0 h1 hK, .inr ⟨_, A, C, hout, ?_, ?_, fun b hb => ⟨fun e => e.2 hb, ?_⟩⟩⟩
 ·rw [hnx]; show Box wz pb _ #[_, .bool g.dead]; rw [hdd]; exact hbz
 ·rw [hnx] at hne'
  have hne2 : (if a = f.chan ∧ b = f.track then [] else g.op a b) ≠ [] := hne'
  by_cases q : a = f.chan ∧ b = f.track
  ·rw [if_pos q] at hne2; exact absurd rfl hne2
  ·rw [if_neg q] at hne2
   simp only [if_neg q]
   exact hmr a b ha hb hne2
 ·rw [hN]
 ·show OwnG wz 0 A (segsOf _).length C _
  rw [← hN]; exact hrow
 ·rcases hAt b hb with e | e
  ·exact .inl (hd_blk hm hf htr h0 h1 e).2.2.1
  ·exact .inr e
end
end Go.PH
end
section
/- The walk of the document's Check of assemblies. -/
namespace Go.PH
open Go.RowKit Go.Proofs

def refShape (tr n t0 t1 t2 : Nat) : Bool := (decide (tr = 0) && decide (n = 1) && decide (t0 = 0)) || (decide (tr = 1) && decide (1 ≤ n) && decide (n ≤ 3) && decide (t0 = 1) && !(decide (n = 2) && decide (t1 ≠ 2) && decide (t1 ≠ 3)) && !(decide (n = 3) && (decide (t1 ≠ 2) || decide (t2 ≠ 3))))
def tyAt (l : List Sg) (i : Nat) : Nat := ((l[i]?).map (·.ty)).getD 0
theorem refShape_iff {tr n t0 t1 t2 : Nat} : refShape tr n t0 t1 t2 = true ↔ (tr = 0 ∧ n = 1 ∧ t0 = 0) ∨ (tr = 1 ∧ 1 ≤ n ∧ n ≤ 3 ∧ t0 = 1 ∧ ¬ (n = 2 ∧ t1 ≠ 2 ∧ t1 ≠ 3) ∧ ¬ (n = 3 ∧ (t1 ≠ 2 ∨ t2 ≠ 3))) := by
 unfold refShape
 simp only [Bool.or_eq_true, Bool.and_eq_true, Bool.not_eq_true', decide_eq_true_eq, Bool.and_eq_false_iff, Bool.or_eq_false_iff, decide_eq_false_iff_not]
 omega
theorem as_ref (ch tr : Nat) (l : List Sg) : asOk ⟨ch, tr, l⟩ = (decide (sgLen l ≤ 16384) && refShape tr l.length (tyAt l 0) (tyAt l 1) (tyAt l 2)) := by
 rw [Bool.eq_iff_iff, Bool.and_eq_true, decide_eq_true_eq, refShape_iff]
 unfold asOk headOk
 match l with
 | [] => simp
 | [s] =>
  have e1 : tyAt [s] 0 = s.ty := rfl
  rw [e1]
  generalize tyAt [s] 1 = t1
  generalize tyAt [s] 2 = t2
  simp only [segsOk, sgLen, Bool.and_eq_true, Bool.or_eq_true, decide_eq_true_eq, List.isEmpty_nil, List.length_cons, List.length_nil, and_true, or_true]
  constructor
  ·rintro ⟨⟨h1, h2⟩, h3, h4⟩
   refine ⟨by omega, ?_⟩
   by_cases q : tr = 0
   ·exact .inl ⟨q, trivial, by omega⟩
   ·exact .inr ⟨by omega, by omega, by omega, by omega, (fun e => absurd e.1 (by decide)), (fun e => absurd e.1 (by decide))⟩
  ·rintro ⟨h1, ⟨h2, h3, h4⟩ | ⟨h2, h3, h4, h5, h6, h7⟩⟩
   ·exact ⟨⟨by omega, by omega⟩, by omega, by omega⟩
   ·clear h6 h7 h3 h4
    exact ⟨⟨by omega, by omega⟩, by omega, by omega⟩
 | [s, t] =>
  have e1 : tyAt [s, t] 0 = s.ty := rfl
  have e2 : tyAt [s, t] 1 = t.ty := rfl
  rw [e1, e2]
  generalize tyAt [s, t] 2 = t2
  simp only [segsOk, sgLen, Bool.and_eq_true, Bool.or_eq_true, decide_eq_true_eq, List.isEmpty_cons, List.length_cons, List.length_nil, and_true, or_false, Bool.false_eq_true]
  constructor
  ·rintro ⟨⟨⟨h1, h2⟩, ⟨h6, h7⟩, h8⟩, ⟨h3, h4⟩, h5⟩
   exact ⟨by omega, by omega⟩
  ·rintro ⟨h1, ⟨h2, h3, h4⟩ | ⟨h2, h3, h4, h5, h6, h7⟩⟩
   ·omega
   ·have h8 : t.ty = 2 ∨ t.ty = 3 := by
     by_cases q2 : t.ty = 2
     ·exact .inl q2
     ·by_cases q3 : t.ty = 3
      ·exact .inr q3
      ·exact absurd ⟨trivial, q2, q3⟩ h6
    clear h6 h7 h3 h4
    exact ⟨⟨⟨by omega, by omega⟩, ⟨by omega, by omega⟩, by omega⟩, ⟨by omega, by omega⟩, by omega⟩
 | [s, t, u] =>
  have e1 : tyAt [s, t, u] 0 = s.ty := rfl
  have e2 : tyAt [s, t, u] 1 = t.ty := rfl
  have e3 : tyAt [s, t, u] 2 = u.ty := rfl
  rw [e1, e2, e3]
  simp only [segsOk, sgLen, Bool.and_eq_true, Bool.or_eq_true, decide_eq_true_eq, List.isEmpty_cons, List.length_cons, List.length_nil, and_true, or_false, Bool.false_eq_true]
  constructor
  ·rintro ⟨⟨⟨h1, h2⟩, ⟨⟨h6, h7⟩, h8⟩, ⟨h9, hA⟩, hB⟩, ⟨h3, h4⟩, h5⟩
   exact ⟨by omega, by omega⟩
  ·rintro ⟨h1, ⟨h2, h3, h4⟩ | ⟨h2, h3, h4, h5, h6, h7⟩⟩
   ·omega
   ·have h8 : t.ty = 2 ∧ u.ty = 3 := by
     by_cases q2 : t.ty = 2
     ·by_cases q3 : u.ty = 3
      ·exact ⟨q2, q3⟩
      ·exact absurd ⟨trivial, .inr q3⟩ h7
     ·exact absurd ⟨trivial, .inl q2⟩ h7
    clear h6 h7 h3 h4
    exact ⟨⟨⟨by omega, by omega⟩, ⟨⟨by omega, by omega⟩, by omega⟩, ⟨by omega, by omega⟩, by omega⟩, ⟨by omega, by omega⟩, by omega⟩
 | s :: t :: u :: v :: r =>
  simp only [segsOk, Bool.and_eq_true, Bool.or_eq_true, decide_eq_true_eq, List.length_cons, List.isEmpty_cons, Bool.false_eq_true, or_false]
  constructor
  ·rintro ⟨⟨⟨⟨h1, _⟩, _⟩, ⟨⟨h2, h3⟩, _⟩, ⟨⟨h4, h5⟩, _⟩, ⟨⟨h6, h7⟩, _⟩, _⟩, ⟨h8, h9⟩, h10⟩
   omega
  ·rintro ⟨_, h | h⟩
   ·omega
   ·omega
theorem sgLen_take {l : List Sg} {i : Nat} (h : i < l.length) : sgLen (l.take (i + 1)) = sgLen (l.take i) + l[i].load.length := by
 rw [List.take_succ_eq_append_getElem h, sgLen_app]
 simp [sgLen]
theorem sgLen_le (l : List Sg) (i : Nat) : sgLen (l.take i) ≤ sgLen l := by
 have := sgLen_app (l.take i) (l.drop i)
 rw [List.take_append_drop] at this
 omega
set_option maxRecDepth 20000 in
set_option maxHeartbeats 4000000 in
theorem rgcheck_any (a : As) (A : Option Addr) (n c : Nat) (B : Nat) (w : World) (hr : RdG w B A n c a.segs) (hB : B ≤ w.heap.size) (hw : a.wf) (hs : ∀ s ∈ a.segs, s.load.length ≤ 140737488351232) (hn : n ≤ 140737488351232) :
  Calls Tryz.prog 18 #[.agg (asV a.chan a.track A n c)] w fun e w' => e = .returned (.int .i64 (asErr a : Int)) ∧ Below w.heap.size w w' := by
 have hnl := rec_length sgShape hr
 obtain ⟨ch, tr, l⟩ := a
 obtain ⟨hch, htr, hty⟩ := hw
 simp only at *
 obtain ⟨xb, w0, hqb, hqv, hX, hB0⟩ := alloc_stepG w (asV ch tr A n c) 42
 have HN := Lib.hid hnl
 have hel := fun {i : Nat} (hi : i < n) => rec_at sgShape hr hi
 have HTY := Lib.hid hty
 have HSL := Lib.hid hs
 have hxw : w.heap.size ≤ xb := by omega
 clear hnl hty hs
 obtain ⟨E, hE⟩ : ∃ E, E = asErr ⟨ch, tr, l⟩ := ⟨_, rfl⟩
 rw [← hE]
 have HERR := Lib.hid hE
 clear hE
 unfold asV at *
 go_enter Tryz.func18, Tryz.ntmps18
 go_upto_region 1 with fail
 rw [← hqb, ← hqv]
 clear hqb hqv
 have x2 := hX.c2
 go_wp2_with (with_reducible refine h_A ?_)
 go_loopw [3, 4] (fun s3 s4 wr => ∃ (i m : Nat), i ≤ n ∧ m ≤ 16384 ∧ s3 = .int .i64 (m : Int) ∧ s4 = .int .i64 (i : Int) ∧ Hid (sgLen (l.take i) = m) ∧ Box wr xb 42 #[.int .u16 (ch : Int), .int .u8 (tr : Int), .slice A n c] ∧ Below w.heap.size w wr) (fun _ s4 _ => n - (RowKit.intOf s4).toNat)
 case atStart => exact ⟨0, 0, by omega, by omega, rfl, rfl, Lib.hid rfl, hX, hB0⟩
 case round =>
  clear x2 hX hB0 w0
  obtain ⟨i, m, hi, hm, rfl, rfl, HC, hX, hBr⟩ := hrel
  have x1 := hX.c1
  have x2 := hX.c2
  by_cases hlt : i < n
  ·have g1 : (i : Int) < (n : Int) := by omega
   obtain ⟨b, off, rfl, hbB, hkl, hcl⟩ := hel hlt
   have hbw : b < w.heap.size := by omega
   have k1 : wr.cell? ⟨b, off + i * 2 + 1, none⟩ = some (.string (str l[i].load)) := (hBr.cell (p := ⟨b, off + i * 2 + 1, none⟩) hbw).trans (hcl 1 _ rfl)
   have hsl := HSL.out _ (List.getElem_mem hkl)
   have HST := Lib.hid (sgLen_take hkl)
   have HLE := Lib.hid (sgLen_le l (i + 1))
   clear hcl
   generalize l[i].load = s at *
   have hss := str_size s
   have hw1 : IntKind.i64.wrap ((16384 : Int) - (m : Int)) = (16384 : Int) - (m : Int) := IntWalk.i64_in _ ⟨by omega, by omega⟩
   by_cases c3 : 16384 < m + s.length
   ·have d3 : (16384 : Int) - (m : Int) < (s.length : Int) := by omega
    have HV : Hid (E = 70) := Lib.hid (by
     rw [HERR.out]
     have h1 := HLE.out
     rw [HST.out, HC.out] at h1
     unfold asErr
     rw [as_ref, decide_eq_false (by omega)]
     rfl)
    clear c3
    go_wp2_with (with_reducible refine h_A ?_)
    go_ret
    exact ⟨by rw [HV.out]; rfl, hBr⟩
   ·have d3 : ¬ (16384 : Int) - (m : Int) < (s.length : Int) := by omega
    go_wp2_with (with_reducible refine h_A ?_)
    exact ⟨⟨i + 1, m + s.length, by omega, by omega, by go_num, by go_num, Lib.hid (by rw [HST.out, HC.out]), hX, hBr⟩, by simp [RowKit.intOf]; omega⟩
  ·have g1 : ¬ (i : Int) < (n : Int) := by omega
   obtain rfl : i = n := by omega
   have HA0 : Hid (E = if refShape tr i (tyAt l 0) (tyAt l 1) (tyAt l 2) = true then 0 else 70) := Lib.hid (by
    have h1 := HC.out
    rw [List.take_of_length_le (by rw [HN.out]; exact Nat.le_refl _)] at h1
    rw [HERR.out]
    unfold asErr
    rw [as_ref, decide_eq_true (by omega), Bool.true_and, HN.out])
   have hce : ∀ j, j < i → ∃ b off, A = some ⟨b, off, none⟩ ∧ wr.cell? ⟨b, off + j * 2, none⟩ = some (.int .u8 (tyAt l j : Int)) := fun j hj => by
    obtain ⟨b, off, e, hbB, hkl, hcl⟩ := hel hj
    refine ⟨b, off, e, (hBr.cell (p := ⟨b, off + j * 2, none⟩) (by show b < _; omega)).trans ?_⟩
    have h0 := hcl 0 _ rfl
    simp only [Nat.add_zero] at h0
    rw [h0]
    unfold tyAt
    rw [List.getElem?_eq_getElem hkl]
    rfl
   have HA := HA0
   clear HA0 hel HERR
   obtain ⟨t0, ht0⟩ : ∃ x, x = tyAt l 0 := ⟨_, rfl⟩
   obtain ⟨t1, ht1⟩ : ∃ x, x = tyAt l 1 := ⟨_, rfl⟩
   obtain ⟨t2, ht2⟩ : ∃ x, x = tyAt l 2 := ⟨_, rfl⟩
   rw [← ht0, ← ht1, ← ht2] at HA
   have H0 := Lib.hid ht0
   have H1 := Lib.hid ht1
   have H2 := Lib.hid ht2
   clear ht0 ht1 ht2
   by_cases a0 : tr = 0
   ·have d0 : ((tr : Nat) : Int) = 0 := by omega
    rw [d0] at x1
    clear d0
    by_cases b1 : i = 1
    ·subst b1
     obtain ⟨b, off, rfl, z0⟩ := hce 0 (by omega)
     rw [← H0.out] at z0
     simp only [Nat.zero_mul, Nat.add_zero] at z0
     by_cases q0 : t0 = 0
     ·rw [show ((t0 : Nat) : Int) = 0 by omega] at z0
      have HV := Lib.hid (HA.out.trans (if_pos (refShape_iff.2 (by omega))))
      go_wp2_with (with_reducible refine h_A ?_)
      go_ret
      exact ⟨by rw [HV.out]; rfl, hBr⟩
     ·have d1 : ¬ (t0 : Int) = 0 := by omega
      have HV := Lib.hid (HA.out.trans (if_neg (fun e => by have := refShape_iff.1 e; omega)))
      go_wp2_with (with_reducible refine h_A ?_)
      go_ret
      exact ⟨by rw [HV.out]; rfl, hBr⟩
    ·have d1 : ¬ (i : Int) = 1 := by omega
     have HV := Lib.hid (HA.out.trans (if_neg (fun e => by have := refShape_iff.1 e; omega)))
     go_wp2_with (with_reducible refine h_A ?_)
     go_ret
     exact ⟨by rw [HV.out]; rfl, hBr⟩
   ·have d0 : ¬ (tr : Int) = 0 := by omega
    by_cases a1 : tr = 1
    ·have d2 : ((tr : Nat) : Int) = 1 := by omega
     rw [d2] at x1
     clear d0 d2
     by_cases b0 : i = 0
     ·subst b0
      have HV := Lib.hid (HA.out.trans (if_neg (fun e => by have := refShape_iff.1 e; omega)))
      go_wp2_with (with_reducible refine h_A ?_)
      go_ret
      exact ⟨by rw [HV.out]; rfl, hBr⟩
     ·by_cases b3 : 3 < i
      ·have d3 : (3 : Int) < (i : Int) := by omega
       have d4 : ¬ (i : Int) < 1 := by omega
       have HV := Lib.hid (HA.out.trans (if_neg (fun e => by have := refShape_iff.1 e; omega)))
       go_wp2_with (with_reducible refine h_A ?_)
       go_ret
       exact ⟨by rw [HV.out]; rfl, hBr⟩
      ·obtain ⟨b, off, rfl, z0⟩ := hce 0 (by omega)
       rw [← H0.out] at z0
       simp only [Nat.zero_mul, Nat.add_zero] at z0
       by_cases q0 : t0 = 1
       ·rw [show ((t0 : Nat) : Int) = 1 by omega] at z0
        by_cases b1 : i = 1
        ·subst b1
         have HV := Lib.hid (HA.out.trans (if_pos (refShape_iff.2 (by omega))))
         go_wp2_with (with_reducible refine h_A ?_)
         go_ret
         exact ⟨by rw [HV.out]; rfl, hBr⟩
        ·obtain ⟨b', off', e, z1⟩ := hce 1 (by omega)
         obtain ⟨rfl, rfl⟩ : b = b' ∧ off = off' := by simpa using e
         rw [← H1.out] at z1
         simp only [Nat.one_mul] at z1
         clear e
         by_cases b2 : i = 2
         ·subst b2
          by_cases q1 : t1 = 2
          ·rw [show ((t1 : Nat) : Int) = 2 by omega] at z1
           have HV := Lib.hid (HA.out.trans (if_pos (refShape_iff.2 (by omega))))
           go_wp2_with (with_reducible refine h_A ?_)
           go_ret
           exact ⟨by rw [HV.out]; rfl, hBr⟩
          ·have d5 : ¬ (t1 : Int) = 2 := by omega
           by_cases q2 : t1 = 3
           ·rw [show ((t1 : Nat) : Int) = 3 by omega] at z1
            clear d5
            have HV := Lib.hid (HA.out.trans (if_pos (refShape_iff.2 (by omega))))
            go_wp2_with (with_reducible refine h_A ?_)
            go_ret
            exact ⟨by rw [HV.out]; rfl, hBr⟩
           ·have d6 : ¬ (t1 : Int) = 3 := by omega
            have HV := Lib.hid (HA.out.trans (if_neg (fun e => by have := refShape_iff.1 e; omega)))
            go_wp2_with (with_reducible refine h_A ?_)
            go_ret
            exact ⟨by rw [HV.out]; rfl, hBr⟩
         ·obtain rfl : i = 3 := by omega
          by_cases q1 : t1 = 2
          ·rw [show ((t1 : Nat) : Int) = 2 by omega] at z1
           obtain ⟨b', off', e, z2⟩ := hce 2 (by omega)
           obtain ⟨rfl, rfl⟩ : b = b' ∧ off = off' := by simpa using e
           rw [← H2.out] at z2
           clear e
           by_cases q2 : t2 = 3
           ·rw [show ((t2 : Nat) : Int) = 3 by omega] at z2
            have HV := Lib.hid (HA.out.trans (if_pos (refShape_iff.2 (by omega))))
            go_wp2_with (with_reducible refine h_A ?_)
            go_ret
            exact ⟨by rw [HV.out]; rfl, hBr⟩
           ·have d5 : ¬ (t2 : Int) = 3 := by omega
            have HV := Lib.hid (HA.out.trans (if_neg (fun e => by have := refShape_iff.1 e; omega)))
            go_wp2_with (with_reducible refine h_A ?_)
            go_ret
            exact ⟨by rw [HV.out]; rfl, hBr⟩
          ·have d5 : ¬ (t1 : Int) = 2 := by omega
           have HV := Lib.hid (HA.out.trans (if_neg (fun e => by have := refShape_iff.1 e; omega)))
           go_wp2_with (with_reducible refine h_A ?_)
           go_ret
           exact ⟨by rw [HV.out]; rfl, hBr⟩
       ·have d5 : ¬ (t0 : Int) = 1 := by omega
        have d3 : ¬ (3 : Int) < (i : Int) := by omega
        have d4 : ¬ (i : Int) < 1 := by omega
        have d6 : (0 : Int) < (i : Int) := by omega
        have HV := Lib.hid (HA.out.trans (if_neg (fun e => by have := refShape_iff.1 e; omega)))
        go_wp2_with (with_reducible refine h_A ?_)
        go_ret
        exact ⟨by rw [HV.out]; rfl, hBr⟩
    ·have d1 : ¬ (tr : Int) = 1 := by omega
     have HV := Lib.hid (HA.out.trans (if_neg (fun e => by have := refShape_iff.1 e; omega)))
     go_wp2_with (with_reducible refine h_A ?_)
     go_ret
     exact ⟨by rw [HV.out]; rfl, hBr⟩
end Go.PH
end
section
/- Reading assemblies as a law's argument. -/
namespace Go.PH
open Go.RowKit Go.Proofs Go.ChangeShapes Go.WideShapes Go.ChangeAt Go.Deep
variable {H : Type} {enc : TypeId × Value → H} {W : World}

def Sg.wf (s : Sg) : Prop := s.ty < 256 ∧ s.load.length ≤ 140737488351232
def RSeg (s : Sg) (cs : List Value) : Prop := cs = sgC s ∧ s.wf
theorem cells2g {cs : List Value} {a b : Value} (hl : cs.length = 2) (h0 : (cs.drop 0).take 1 = [a]) (h1 : (cs.drop 1).take 1 = [b]) : cs = [a, b] := by
 match cs, hl with
 | [x, y], _ => simp_all
theorem cells3g {cs : List Value} {a b c : Value} (hl : cs.length = 3) (h0 : (cs.drop 0).take 1 = [a]) (h1 : (cs.drop 1).take 1 = [b]) (h2 : (cs.drop 2).take 1 = [c]) : cs = [a, b, c] := by
 match cs, hl with
 | [x, y, z], _ => simp_all
set_option maxRecDepth 20000 in
theorem reader_seg : Reader enc Tryz.prog W 84 RSeg := fun fuel cs d p h hw => by
 obtain ⟨hl, hf⟩ := trod_field Tryz.underlying84 h hw
 obtain ⟨n0, h0, w0⟩ := hf 0 _ rfl (reader_int (k := .u8) Tryz.underlying5)
 obtain ⟨s1, h1, w1⟩ := hf 1 _ rfl (reader_str Tryz.underlying9)
 have b0 := bounds_u8 w0
 rw [(by kernel_rfl : Tryz.prog.cellsOf 84 = 2)] at hl
 have e0 : n0 = ((n0.toNat : Nat) : Int) := by omega
 rw [e0] at h0
 exact ⟨⟨n0.toNat, s1⟩, cells2g hl h0 h1, by show n0.toNat < 256; omega, w1⟩
def RAs (W : World) (a : As) (cs : List Value) : Prop := ∃ A n c, cs = (asV a.chan a.track A n c).toList ∧ a.wf ∧ (∀ s ∈ a.segs, s.load.length ≤ 140737488351232) ∧ RdG W W.heap.size A n c a.segs ∧ n ≤ 140737488351232
set_option maxRecDepth 20000 in
theorem reader_as : Reader enc Tryz.prog W 42 (RAs W) := fun fuel cs d p h hw => by
 obtain ⟨hl, hf⟩ := trod_field Tryz.underlying42 h hw
 obtain ⟨n0, h0, w0⟩ := hf 0 _ rfl (reader_int (k := .u16) Tryz.underlying39)
 obtain ⟨n1, h1, w1⟩ := hf 1 _ rfl (reader_int (k := .u8) Tryz.underlying5)
 obtain ⟨L, A, n, c, xs, h2, hR, hn, hk, hE⟩ := hf 2 _ rfl (reader_slice Tryz.underlying40 (by kernel_rfl : Tryz.prog.cellsOf 84 = 2) (by kernel_rfl : Tryz.prog.bytesOf 84 = 24) (by omega) reader_seg)
 have c0 := bounds_u16 w0
 have c1 := bounds_u8 w1
 rw [(by kernel_rfl : Tryz.prog.cellsOf 42 = 3)] at hl
 have e0 : n0 = ((n0.toNat : Nat) : Int) := by omega
 have e1 : n1 = ((n1.toNat : Nat) : Int) := by omega
 rw [e0] at h0
 rw [e1] at h1
 obtain ⟨hs, hwf⟩ := rec_of (C := Sg.wf) sgShape hR hn hE
 have hcap := hs.cap
 exact ⟨⟨n0.toNat, n1.toNat, L⟩, A, n, c, cells3g hl h0 h1 h2, ⟨by show n0.toNat < 65536; omega, by show n1.toNat < 256; omega, fun s hs => (hwf s hs).1⟩, fun s hs => (hwf s hs).2, hs, by omega⟩
set_option maxRecDepth 20000 in
theorem see_as {d : DataW H} {ps : List MemPlace} {v : Value} {r : Reach} {b0 : Nat} (hval : Value.okWide Tryz.prog W r b0 42 v) (hd : DataW.Trod enc Tryz.prog W 0 (fun _ => true) true 42 v d ps)
  {ts : List TypeId} {ds : List (DataW H)} {j : Nat} (hz : (DataW.weightsEach Tryz.prog ts ds).all (· ≤ reachBytes) = true) (ht : ts[j]? = some 42) (hdj : ds[j]? = some d) : ∃ (a : As) (A : Option Addr) (n c : Nat), v = .agg (asV a.chan a.track A n c) ∧ a.wf ∧ (∀ s ∈ a.segs, s.load.length ≤ 140737488351232) ∧ RdG W W.heap.size A n c a.segs ∧ n ≤ 140737488351232 := by
 obtain ⟨cs, rfl, _⟩ := okWide_struct Tryz.underlying42 hval
 obtain ⟨g, A, n, c, h1, h2⟩ := see_arg reader_as hd hz ht hdj
 refine ⟨g, A, n, c, ?_, h2⟩
 simp only [Value.cells] at h1
 congr 1
 apply Array.ext'
 rw [h1]
end Go.PH
end
section
/- The walks of gather's New, link's New and State. -/
namespace Go.PH
open Go.RowKit Go.Proofs

set_option maxRecDepth 20000 in
theorem gnew_any (w : World) : Calls Tryz.prog 23 #[] w fun e w' => e = .returned (.pointer (some ⟨w.heap.size + 1, 0, none⟩)) ∧ Ga w' (fun g => g = w.heap.size ∨ g = w.heap.size + 1) (w.heap.size + 1) 0 GS.new ∧ Below w.heap.size w w' ∧ w'.heap.size = w.heap.size + 2 := by
 have hmk := fun W => run_makeMap (P := Tryz.prog) 86 W
 go_enter Tryz.func23, Tryz.ntmps23
 go_wp2_with (with_reducible refine h_A ?_)
 go_ret
 have hm0 := World.ownsMap_made w Tryz.prog 156 rawV
 have hs1 : (w.alloc (.map #[] 0)).heap.size = w.heap.size + 1 := by simp
 have hB1 : Below w.heap.size w (w.alloc (.map #[] 0)) := (Below.refl _ _).alloc (Nat.le_refl _) _
 have hbx : Box ((w.alloc (.map #[] 0)).alloc (.cells #[.map (some w.heap.size), .bool false] 88)) (w.heap.size + 1) 88 #[.map (some w.heap.size), .bool false] := by
  have := Box.new (w.alloc (.map #[] 0)) #[.map (some w.heap.size), .bool false] 88
  rwa [hs1] at this
 have hlt : ∀ g, (g = w.heap.size ∨ g = w.heap.size + 1) → g < ((w.alloc (.map #[] 0)).alloc (.cells #[.map (some w.heap.size), .bool false] 88)).heap.size := fun g hg => by simp only [World.alloc, Array.size_push]; omega
 refine ⟨rfl, ⟨⟨w.heap.size, .map [], fun _ _ => ⟨none, 0, 0⟩, fun _ _ => fr00, hbx, .inr rfl, by omega, fun _ => ⟨fun a b _ _ hne => absurd rfl hne, ?_⟩⟩, hlt⟩, hB1.alloc hB1.size _, by simp⟩
 exact ⟨ownsMap_keep hm0 (Below.heap_alloc _ _ _ (by omega)), .inl rfl, fun a b _ _ _ => rfl, fun a b _ _ hne => absurd rfl hne, fun a b _ _ hne => absurd rfl hne, fun a b _ _ hne => absurd rfl hne, fun a b c d _ _ _ _ hne => absurd rfl hne, hlt⟩
/-- a new link's cells -/
def lk0 (gp : Nat) : Array Value := #[.int .u8 0, .slice none 0 0, .pointer (some ⟨gp, 0, none⟩), .int .u64 255, .int .u64 4096, .pointer none, .slice none 0 0, .slice none 0 0]
set_option maxRecDepth 20000 in
theorem lnew_any (w : World) : Calls Tryz.prog 10 #[] w fun e w' => e = .returned (.pointer (some ⟨w.heap.size + 2, 0, none⟩)) ∧ Ga w' (fun g => g = w.heap.size ∨ g = w.heap.size + 1) (w.heap.size + 1) 0 GS.new ∧ Box w' (w.heap.size + 2) 61 (lk0 (w.heap.size + 1)) ∧ Below w.heap.size w w' := by
 have hg := gnew_any w
 go_enter Tryz.func10, Tryz.ntmps10
 go_wp2_with (with_reducible refine h_A ?_)
 refine hg.mono ?_
 rintro e w1 ⟨rfl, hG, hB, hz⟩
 have HZ := Lib.hid hz
 clear hz hg
 obtain ⟨lb, w2, hqb, hqv, hL, hB2⟩ := alloc_stepG w1 (lk0 (w.heap.size + 1)) 61
 unfold lk0 at hqv
 go_wp2_with (with_reducible refine h_A ?_)
 rw [← hqv, ← hqb]
 go_ret
 have e1 : lb = w.heap.size + 2 := by rw [hqb, HZ.out]
 rw [e1] at hL ⊢
 exact ⟨rfl, hG.below hB2, hL, hB.trans (hB2.mono hB.size)⟩
set_option maxRecDepth 20000 in
theorem lstate_any (lb st gp : Nat) (w : World) (h0 : w.cell? ⟨lb, 0, none⟩ = some (.int .u8 (st : Int))) (h2 : w.cell? ⟨lb, 2, none⟩ = some (.pointer (some ⟨gp, 0, none⟩))) : Calls Tryz.prog 15 #[.pointer (some ⟨lb, 0, none⟩)] w fun e w' => e = .returned (.int .u8 (st : Int)) ∧ w = w' := by
 go_enter Tryz.func15, Tryz.ntmps15
 go_wp2_with (with_reducible refine h_A ?_)
 go_ret
 exact ⟨rfl, rfl⟩
end Go.PH
end
section
/- The walk of octet's PutText. -/
namespace Go.PH
open Go.RowKit Go.Proofs

theorem textErr_wide {n : Nat} {x : Int} (h : x = 8 ∨ wideB x = false) : textErr n x = 2 := by
 unfold textErr
 rw [if_neg]
 intro h'
 rcases h with rfl | h
 ·omega
 ·have := wideB_yes (w := x) (by omega)
  rw [h] at this; cases this
theorem putsText_err {l s : List UInt8} {x : Int} (h : textErr s.length x ≠ 0) : putsText l s x = [] := by unfold putsText; rw [if_neg h]
theorem putsText_ok {l s : List UInt8} {x : Int} (h : textErr s.length x = 0) : putsText l s x = l ++ be x.toNat s.length ++ s := by unfold putsText; rw [if_pos h]

set_option maxHeartbeats 1000000 in
theorem puttext_any (A : Option Addr) (n c : Nat) (l s : List UInt8) (x : Int) (w : World) (hb : RdB w w.heap.size A n c l) (hs : s.length ≤ 140737488351232) (hn : n ≤ 140737488351240) :
  Calls Tryz.prog 102 #[.slice A n c, .string (str s), .int .i64 x] w fun e w' => ∃ A2 c2, e = .returned (.tuple #[.slice A2 (putsText l s x).length c2, .int .i64 (textErr s.length x)]) ∧ Own w' w.heap.size 5 1 A2 (putsText l s x).length c2 ((putsText l s x).map u8v) ∧ Below w.heap.size w w' := by
 have hl := hb.length
 have hss := str_size s
 by_cases h8 : x = 8
 ·rw [textErr_wide (.inl h8), putsText_err (by rw [textErr_wide (.inl h8)]; omega)]
  subst h8
  go_enter Tryz.func102, Tryz.ntmps102
  go_wp2_with (with_reducible refine h_A ?_)
  go_ret2
  exact ⟨none, 0, rfl, Own.none_ _ _ _ _, Below.refl _ _⟩
 by_cases hw : wideB x = true
 ·rcases (show x = 1 ∨ x = 2 ∨ x = 4 by rw [wideB_iff] at hw; omega) with rfl | rfl | rfl
  ·by_cases hlen : s.length < 256
   ·have he : textErr s.length 1 = 0 := by unfold textErr; simp; omega
    rw [he, putsText_ok he]
    have hz : (s.length : Int) / 256 = 0 := by omega
    simp only [List.length_append, be_length, show (1 : Int).toNat = 1 from rfl, hl]
    go_enter Tryz.func102, Tryz.ntmps102
    go_wp2_with (with_reducible refine h_A ?_)
    refine (wide_any _ w).mono ?_
    rw [hw]
    rintro e w' ⟨rfl, rfl⟩
    go_wp2_with (with_reducible refine h_A ?_)
    refine (number_any s.length 1 w' (by omega) (by omega) (by omega)).mono ?_
    rintro e w1 ⟨A1, rfl, ho1, hB1⟩
    go_wp2_with (with_reducible refine h_A ?_)
    refine unhold (wp_app_str slB Tryz.underlying9 rfl rfl rfl rfl ho1 (by omega) hB1.size ?_)
    intro A2 c2 w2 ho2 hg2
    have hB2 : Below w'.heap.size w' w2 := hB1.grown hg2 hB1.size (fun g hg => (ho1.blk_lt hg).1)
    rw [← List.map_append] at ho2
    go_wp2_with (with_reducible refine h_A ?_)
    refine (behind_any A n c l A2 (1 + s.length) c2 (be 1 s.length ++ s) w2 ((hb.below hB2).more hB2.size) ho2.rd (by omega)).mono ?_
    rintro e w3 ⟨A3, rfl, ho3, hB3⟩
    rw [← List.append_assoc] at ho3
    go_wp2_with (with_reducible refine h_A ?_)
    go_ret2
    rw [Nat.add_assoc]
    exact ⟨A3, _, rfl, ho3.base_le hB2.size, hB2.trans (hB3.mono hB2.size)⟩
   ·have he : textErr s.length 1 = 3 := by unfold textErr; simp; omega
    rw [he, putsText_err (by rw [he]; omega)]
    have hz : ((s.length : Int) / 256 != 0) = true := by simp; omega
    go_enter Tryz.func102, Tryz.ntmps102
    go_wp2_with (with_reducible refine h_A ?_)
    refine (wide_any _ w).mono ?_
    rw [hw]
    rintro e w' ⟨rfl, rfl⟩
    go_wp2_with (with_reducible refine h_A ?_)
    go_ret2
    exact ⟨none, 0, rfl, Own.none_ _ _ _ _, Below.refl _ _⟩
  ·by_cases hlen : s.length < 65536
   ·have he : textErr s.length 2 = 0 := by unfold textErr; simp; omega
    rw [he, putsText_ok he]
    have hz : (s.length : Int) / 65536 = 0 := by omega
    simp only [List.length_append, be_length, show (2 : Int).toNat = 2 from rfl, hl]
    go_enter Tryz.func102, Tryz.ntmps102
    go_wp2_with (with_reducible refine h_A ?_)
    refine (wide_any _ w).mono ?_
    rw [hw]
    rintro e w' ⟨rfl, rfl⟩
    go_wp2_with (with_reducible refine h_A ?_)
    refine (number_any s.length 2 w' (by omega) (by omega) (by omega)).mono ?_
    rintro e w1 ⟨A1, rfl, ho1, hB1⟩
    go_wp2_with (with_reducible refine h_A ?_)
    refine unhold (wp_app_str slB Tryz.underlying9 rfl rfl rfl rfl ho1 (by omega) hB1.size ?_)
    intro A2 c2 w2 ho2 hg2
    have hB2 : Below w'.heap.size w' w2 := hB1.grown hg2 hB1.size (fun g hg => (ho1.blk_lt hg).1)
    rw [← List.map_append] at ho2
    go_wp2_with (with_reducible refine h_A ?_)
    refine (behind_any A n c l A2 (2 + s.length) c2 (be 2 s.length ++ s) w2 ((hb.below hB2).more hB2.size) ho2.rd (by omega)).mono ?_
    rintro e w3 ⟨A3, rfl, ho3, hB3⟩
    rw [← List.append_assoc] at ho3
    go_wp2_with (with_reducible refine h_A ?_)
    go_ret2
    rw [Nat.add_assoc]
    exact ⟨A3, _, rfl, ho3.base_le hB2.size, hB2.trans (hB3.mono hB2.size)⟩
   ·have he : textErr s.length 2 = 3 := by unfold textErr; simp; omega
    rw [he, putsText_err (by rw [he]; omega)]
    have hz : ((s.length : Int) / 65536 != 0) = true := by simp; omega
    go_enter Tryz.func102, Tryz.ntmps102
    go_wp2_with (with_reducible refine h_A ?_)
    refine (wide_any _ w).mono ?_
    rw [hw]
    rintro e w' ⟨rfl, rfl⟩
    go_wp2_with (with_reducible refine h_A ?_)
    go_ret2
    exact ⟨none, 0, rfl, Own.none_ _ _ _ _, Below.refl _ _⟩
  ·by_cases hlen : s.length < 4294967296
   ·have he : textErr s.length 4 = 0 := by unfold textErr; simp; omega
    rw [he, putsText_ok he]
    have hz : (s.length : Int) / 4294967296 = 0 := by omega
    simp only [List.length_append, be_length, show (4 : Int).toNat = 4 from rfl, hl]
    go_enter Tryz.func102, Tryz.ntmps102
    go_wp2_with (with_reducible refine h_A ?_)
    refine (wide_any _ w).mono ?_
    rw [hw]
    rintro e w' ⟨rfl, rfl⟩
    go_wp2_with (with_reducible refine h_A ?_)
    refine (number_any s.length 4 w' (by omega) (by omega) (by omega)).mono ?_
    rintro e w1 ⟨A1, rfl, ho1, hB1⟩
    go_wp2_with (with_reducible refine h_A ?_)
    refine unhold (wp_app_str slB Tryz.underlying9 rfl rfl rfl rfl ho1 (by omega) hB1.size ?_)
    intro A2 c2 w2 ho2 hg2
    have hB2 : Below w'.heap.size w' w2 := hB1.grown hg2 hB1.size (fun g hg => (ho1.blk_lt hg).1)
    rw [← List.map_append] at ho2
    go_wp2_with (with_reducible refine h_A ?_)
    refine (behind_any A n c l A2 (4 + s.length) c2 (be 4 s.length ++ s) w2 ((hb.below hB2).more hB2.size) ho2.rd (by omega)).mono ?_
    rintro e w3 ⟨A3, rfl, ho3, hB3⟩
    rw [← List.append_assoc] at ho3
    go_wp2_with (with_reducible refine h_A ?_)
    go_ret2
    rw [Nat.add_assoc]
    exact ⟨A3, _, rfl, ho3.base_le hB2.size, hB2.trans (hB3.mono hB2.size)⟩
   ·have he : textErr s.length 4 = 3 := by unfold textErr; simp; omega
    rw [he, putsText_err (by rw [he]; omega)]
    have hz : ((s.length : Int) / 4294967296 != 0) = true := by simp; omega
    go_enter Tryz.func102, Tryz.ntmps102
    go_wp2_with (with_reducible refine h_A ?_)
    refine (wide_any _ w).mono ?_
    rw [hw]
    rintro e w' ⟨rfl, rfl⟩
    go_wp2_with (with_reducible refine h_A ?_)
    go_ret2
    exact ⟨none, 0, rfl, Own.none_ _ _ _ _, Below.refl _ _⟩
 ·have hw' : wideB x = false := by simpa using hw
  rw [textErr_wide (.inr hw'), putsText_err (by rw [textErr_wide (.inr hw')]; omega)]
  go_enter Tryz.func102, Tryz.ntmps102
  go_wp2_with (with_reducible refine h_A ?_)
  refine (wide_any x w).mono ?_
  rw [hw']
  rintro e w' ⟨rfl, rfl⟩
  go_wp2_with (with_reducible refine h_A ?_)
  go_ret2
  exact ⟨none, 0, rfl, Own.none_ _ _ _ _, Below.refl _ _⟩
end Go.PH
end
section
/- The walk of the reference's Width. -/
namespace Go.PH
open Go.RowKit Go.Proofs

theorem rwidth_any (x : Int) (w : World) : Calls Tryz.prog 142 #[.int .i64 x] w fun e w' => e = .returned (.bool (wideB x)) ∧ w' = w := by
 by_cases h1 : x = 1
 ·subst h1
  go_enter Tryz.func142, Tryz.ntmps142
  go_wp2_with (with_reducible refine h_A ?_)
  go_ret
  exact ⟨rfl, rfl⟩
 by_cases h2 : x = 2
 ·subst h2
  go_enter Tryz.func142, Tryz.ntmps142
  go_wp2_with (with_reducible refine h_A ?_)
  go_ret
  exact ⟨rfl, rfl⟩
 by_cases h4 : x = 4
 ·subst h4
  go_enter Tryz.func142, Tryz.ntmps142
  go_wp2_with (with_reducible refine h_A ?_)
  go_ret
  exact ⟨rfl, rfl⟩
 by_cases h8 : x = 8
 ·subst h8
  go_enter Tryz.func142, Tryz.ntmps142
  go_wp2_with (with_reducible refine h_A ?_)
  go_ret
  exact ⟨rfl, rfl⟩
 have b1 : (x == 1) = false := by simpa using h1
 have b2 : (x == 2) = false := by simpa using h2
 have b4 : (x == 4) = false := by simpa using h4
 have b8 : (x == 8) = false := by simpa using h8
 rw [wideB_no h1 h2 h4 h8]
 go_enter Tryz.func142, Tryz.ntmps142
 go_wp2_with (with_reducible refine h_A ?_)
 go_ret
 exact ⟨by simp, rfl⟩

end Go.PH
end

/- Texts laid together: GaFeed1, GaNew, LkNew, OctPutText, OctRWidth, OctRead, OctRead2. -/
import Derived.WalkSpells
import Derived.Lib.LazyBuf
import Derived.Laws.BitsAllLaws
import Derived.Laws.Bits64
import Derived.Test.YtfbkameikhgciaaGreatDoorMg02
import Derived.Test.YtfbkameikhgciaaGreatDoorMg03
import Derived.Test.YtfbkameikhgciaaGreatDoorMg04
import Derived.Test.YtfbkameikhgciaaGreatDoorMg05
set_option linter.all false
set_option linter.unusedSimpArgs false
set_option linter.unusedVariables false
set_option maxRecDepth 20000
set_option maxHeartbeats 8000000
section
namespace Go.PH
open Go.RowKit Go.Proofs
section
variable {w wz : World} {F : Nat → Prop} {pb mb n N C : Nat} {g : GS} {f y : Fr} {D : DataW Value} {hd : Nat → Nat → Hd} {xf : Nat → Nat → Fr} {H : Hd} {A : Option Addr}
theorem qX (hm : GaMap w F mb n D hd xf g.op) (hf : f.wf) (htr : f.track ≤ 1) (h0 : g.op f.chan f.track = [] → H = ⟨none, 0, 0⟩) (h1 : g.op f.chan f.track ≠ [] → H = hd f.chan f.track) {k : Nat} (hk : blk H.A = some k) :
  g.op f.chan f.track ≠ [] ∧ blk (hd f.chan f.track).A = some k ∧ F k ∧ k ≠ mb ∧ k < w.heap.size := by
 by_cases e : g.op f.chan f.track = []
 ·rw [h0 e] at hk; cases hk
 ·rw [h1 e] at hk
  obtain ⟨_, h2⟩ := hm.row _ _ hf.2.2 (by omega) e
  exact ⟨e, hk, (h2 k hk).1, (h2 k hk).2, hm.lt _ (h2 k hk).1⟩
theorem Zx (hm : GaMap w F mb n D hd xf g.op) (hf : f.wf) (htr : f.track ≤ 1) (h0 : g.op f.chan f.track = [] → H = ⟨none, 0, 0⟩) (h1 : g.op f.chan f.track ≠ [] → H = hd f.chan f.track) (hK : KeepF (fun k => k = mb ∨ blk H.A = some k) w wz) : KeepF F w wz :=
 hK.weak fun k hk => by
  rcases hk with rfl | hk
  ·exact .inl hm.inF
  ·exact .inl (qX hm hf htr h0 h1 hk).2.2.1
theorem Qn (h0 : g.op f.chan f.track = [] → H = ⟨none, 0, 0⟩) (h1 : g.op f.chan f.track ≠ [] → H = hd f.chan f.track) (hK : KeepF (fun k => k = mb ∨ blk H.A = some k) w wz) :
  ∀ k, k < w.heap.size → k ≠ mb → (g.op f.chan f.track ≠ [] → blk (hd f.chan f.track).A ≠ some k) → wz.heap[k]? = w.heap[k]? := fun k hk hne hr => hK.2.1 k hk fun e => by
 rcases e with e | e
 ·exact hne e
 ·by_cases e0 : g.op f.chan f.track = []
  ·rw [h0 e0] at e; cases e
  ·rw [h1 e0] at e; exact hr e0 e
theorem Qo (hm : GaMap w F mb n D hd xf g.op) (hF : F pb) (hne : pb ≠ mb) (hmr : ∀ a b, a < 65536 → b < 65536 → g.op a b ≠ [] → blk (hd a b).A ≠ some pb) (hlt : ∀ k, F k → k < w.heap.size) (hf : f.wf) (htr : f.track ≤ 1) (hdd : g.dead = false) (he : g.err f = 0) (hfl : (f.fin && f.last) = false)
  (h0 : g.op f.chan f.track = [] → H = ⟨none, 0, 0⟩) (h1 : g.op f.chan f.track ≠ [] → H = hd f.chan f.track) (hK : KeepF (fun k => k = mb ∨ blk H.A = some k) w wz) (hbz : Box wz pb 88 #[.map (some mb), .bool false])
  (o5 : wz.ownsMap Tryz.prog 156 rawV mb (n + 1) (D.put (gkL f.chan f.track) (.held (.agg (qC ⟨A, N, C⟩ (zE (g.op f.chan f.track ++ [f])) y (jc (g.op f.chan f.track ++ [f]))))))) (hP : PartOk (g.op f.chan f.track ++ [f]) y)
  (hrow : OwnG wz 0 A N C (yi (g.op f.chan f.track ++ [f]))) (hAt : ∀ k, blk A = some k → (blk H.A = some k ∨ w.heap.size ≤ k)) :
  Qp w F pb n g f (.returned (.tuple #[.agg asZ, .bool false, .int .i64 0])) wz := by
 have hnx : g.next f = g.upd f.chan f.track (g.op f.chan f.track ++ [f]) := by unfold GS.next; rw [if_neg (by omega), hfl]; simp
 have hout : g.out f = none := by
  unfold GS.out
  rw [if_neg]
  rintro ⟨_, e1, e2⟩
  rw [e1, e2] at hfl; cases hfl
 have hbk : ∀ k, blk A = some k → k < wz.heap.size ∧ k ≠ mb ∧ (F k ∨ w.heap.size ≤ k) ∧ (w.heap.size ≤ k ∨ g.op f.chan f.track ≠ [] ∧ blk (hd f.chan f.track).A = some k) := fun k hk => by
  have hl := (Own.blk_lt hrow hk).2
  rcases hAt k hk with e | e
  ·obtain ⟨q1, q2, q3, q4, _⟩ := qX hm hf htr h0 h1 e
   exact ⟨hl, q4, .inl q3, .inr ⟨q1, q2⟩⟩
  ·exact ⟨hl, by have := hm.lt _ hm.inF; omega, .inr e, .inl e⟩
 have hset := hm.set (w5 := wz) (F' := fun k => F k ∨ (w.heap.size ≤ k ∧ k < wz.heap.size)) (a := f.chan) (b := f.track) hf.2.2 (show f.track < 65536 by omega) (l := g.op f.chan f.track ++ [f]) (H := ⟨A, N, C⟩) (x := y) (op' := (g.next f).op) (fun u v => by rw [hnx]; rfl) o5 (Qn h0 h1 hK)
  (fun u v hne' => ⟨Maps.has_put_other hne' _, fun z => Maps.atKey_put_other hne' _ z⟩) (fun e => by simp at e)
  (fun _ => ⟨Maps.has_put_same (kh hm.owns) (gk_keyed.key (jU hf.2.2 (by omega))) _, fun z => Maps.atKey_put_same (kh hm.owns) (gk_keyed.key (jU hf.2.2 (by omega))) .., hP, hrow, fun k hk => by
   obtain ⟨q1, q2, q3, q4⟩ := hbk k hk
   exact ⟨by rcases q3 with q3 | q3; exact .inl q3; exact .inr ⟨q3, q1⟩, q2, q4⟩⟩)
  (fun k hk _ => .inl hk) (fun k hk => by rcases hk with hk | hk; have := hlt k hk; have := hK.1; omega; exact hk.2)
 refine ⟨_, fun k hk => hk.imp id (fun e => e.1), ⟨⟨mb, _, _, _, ?_, .inl hF, hne, fun _ => ⟨fun a b ha hb hne' => ?_, hset⟩⟩, hset.lt⟩, Zx hm hf htr h0 h1 hK, .inl ⟨hout, by rw [he]; rfl⟩⟩
 ·rw [hnx]; show Box wz pb _ #[_, .bool g.dead]; rw [hdd]; exact hbz
 ·rw [hnx] at hne'
  have hne2 : (if a = f.chan ∧ b = f.track then g.op f.chan f.track ++ [f] else g.op a b) ≠ [] := hne'
  by_cases q : a = f.chan ∧ b = f.track
  ·simp only [if_pos q]
   intro e
   have hpl := hlt pb hF
   rcases hAt pb e with e | e
   ·obtain ⟨q1, q2, _⟩ := qX hm hf htr h0 h1 e
    exact hmr _ _ hf.2.2 (by omega) q1 q2
   ·omega
  ·rw [if_neg q] at hne2
   simp only [if_neg q]
   exact hmr a b ha hb hne2
theorem JM (hm : GaMap w F mb n D hd xf g.op) (hF : F pb) (hne : pb ≠ mb) (hmr : ∀ a b, a < 65536 → b < 65536 → g.op a b ≠ [] → blk (hd a b).A ≠ some pb) (hlt : ∀ k, F k → k < w.heap.size) (hf : f.wf) (htr : f.track ≤ 1) (hdd : g.dead = false) (he : g.err f = 0) (hfl : (f.fin && f.last) = true)
  (h0 : g.op f.chan f.track = [] → H = ⟨none, 0, 0⟩) (h1 : g.op f.chan f.track ≠ [] → H = hd f.chan f.track) (hK : KeepF (fun k => k = mb ∨ blk H.A = some k) w wz) (hbz : Box wz pb 88 #[.map (some mb), .bool false])
  (o5 : wz.ownsMap Tryz.prog 156 rawV mb n (D.del (gkL f.chan f.track))) (hN : N = (yi (g.op f.chan f.track ++ [f])).length)
  (hrow : OwnG wz 0 A N C (yi (g.op f.chan f.track ++ [f]))) (hAt : ∀ k, blk A = some k → (blk H.A = some k ∨ w.heap.size ≤ k)) (hAs : g.op f.chan f.track ≠ [] → ∀ k, blk (hd f.chan f.track).A = some k → blk A = some k ∨ True) :
  Qp w F pb n g f (.returned (.tuple #[.agg (asV f.chan f.track A N C), .bool true, .int .i64 0])) wz := by
 have hnx : g.next f = g.upd f.chan f.track [] := by unfold GS.next; rw [if_neg (by omega), hfl]; simp
 have hff : f.fin = true ∧ f.last = true := by simpa using hfl
 have hout : g.out f = some ⟨f.chan, f.track, yi (g.op f.chan f.track ++ [f])⟩ := by
  unfold GS.out
  rw [if_pos ⟨he, hff.1, hff.2⟩]
 have hpA : blk A ≠ some pb := fun e => by
  have hpl := hlt pb hF
  rcases hAt pb e with e | e
  ·obtain ⟨q1, q2, _⟩ := qX hm hf htr h0 h1 e
   exact hmr _ _ hf.2.2 (by omega) q1 q2
  ·omega
 have hother : ∀ k, blk A = some k → k < w.heap.size → g.op f.chan f.track ≠ [] ∧ blk (hd f.chan f.track).A = some k := fun k hk hl => by
  rcases hAt k hk with e | e
  ·obtain ⟨q1, q2, _⟩ := qX hm hf htr h0 h1 e
   exact ⟨q1, q2⟩
  ·omega
 have hset := hm.set (w5 := wz) (F' := fun k => F k ∧ blk A ≠ some k) (a := f.chan) (b := f.track) hf.2.2 (show f.track < 65536 by omega) (l := []) (H := ⟨none, 0, 0⟩) (x := f) (op' := (g.next f).op) (fun u v => by rw [hnx]; rfl) o5 (Qn h0 h1 hK)
  (fun u v hne' => ⟨Maps.has_del_other hne', fun z => Maps.atKey_del_other hne' z⟩) (fun _ => Maps.has_del_same) (fun e => absurd rfl e)
  (fun k hk hr => ⟨hk, fun e => by obtain ⟨q1, q2⟩ := hother k e (hlt k hk); exact hr q1 q2⟩) (fun k hk => by have := hlt k hk.1; have := hK.1; omega)
 refine ⟨_, fun k hk => .inl hk.1, ⟨⟨mb, _, _, _, ?_, ⟨hF, hpA⟩, hne, fun _ => ⟨fun a b ha hb hne' => ?_, hset.mono (Nat.le_succ _)⟩⟩, hset.lt⟩, Zx hm hf htr h0 h1 hK, .inr ⟨_, A, C, hout, ?_, ?_, fun b hb => ⟨fun e => e.2 hb, ?_⟩⟩⟩
 ·rw [hnx]; show Box wz pb _ #[_, .bool g.dead]; rw [hdd]; exact hbz
 ·rw [hnx] at hne'
  have hne2 : (if a = f.chan ∧ b = f.track then [] else g.op a b) ≠ [] := hne'
  by_cases q : a = f.chan ∧ b = f.track
  ·rw [if_pos q] at hne2; exact absurd rfl hne2
  ·rw [if_neg q] at hne2
   simp only [if_neg q]
   exact hmr a b ha hb hne2
 ·rw [hN]
 ·show OwnG wz 0 A (yi _).length C _
  rw [← hN]; exact hrow
 ·rcases hAt b hb with e | e
  ·exact .inl (qX hm hf htr h0 h1 e).2.2.1
  ·exact .inr e
end
end Go.PH
end
section
namespace Go.PH
open Go.RowKit Go.Proofs
theorem J9 (w : World) : Calls Tryz.prog 23 #[] w fun e w' => e = .returned (.pointer (some ⟨w.heap.size + 1, 0, none⟩)) ∧ Ga w' (fun g => g = w.heap.size ∨ g = w.heap.size + 1) (w.heap.size + 1) 0 GS.new ∧ Below w.heap.size w w' ∧ w'.heap.size = w.heap.size + 2 := by
 have hmk := fun W => run_makeMap (P := Tryz.prog) 86 W
 go_enter Tryz.func23, Tryz.ntmps23
 go_wp2_with (with_reducible refine h_A ?_)
 go_ret
 have hm0 := World.ownsMap_made w Tryz.prog 156 rawV
 have hs1 : (w.alloc (.map #[] 0)).heap.size = w.heap.size + 1 := by simp
 have hB1 : Below w.heap.size w (w.alloc (.map #[] 0)) := (Below.refl _ _).alloc (Nat.le_refl _) _
 have hbx : Box ((w.alloc (.map #[] 0)).alloc (.cells #[.map (some w.heap.size), .bool false] 88)) (w.heap.size + 1) 88 #[.map (some w.heap.size), .bool false] := by
  have := Box.new (w.alloc (.map #[] 0)) #[.map (some w.heap.size), .bool false] 88
  rwa [hs1] at this
 have hlt : ∀ g, (g = w.heap.size ∨ g = w.heap.size + 1) → g < ((w.alloc (.map #[] 0)).alloc (.cells #[.map (some w.heap.size), .bool false] 88)).heap.size := fun g hg => by simp only [World.alloc, Array.size_push]; omega
 refine ⟨rfl, ⟨⟨w.heap.size, .map [], fun _ _ => ⟨none, 0, 0⟩, fun _ _ => fr00, hbx, .inr rfl, by omega, fun _ => ⟨fun a b _ _ hne => absurd rfl hne, ?_⟩⟩, hlt⟩, hB1.alloc hB1.size _, by simp⟩
 exact ⟨zO hm0 (Below.heap_alloc _ _ _ (by omega)), .inl rfl, fun a b _ _ _ => rfl, fun a b _ _ hne => absurd rfl hne, fun a b _ _ hne => absurd rfl hne, fun a b _ _ hne => absurd rfl hne, fun a b c d _ _ _ _ hne => absurd rfl hne, hlt⟩
end Go.PH
end
section
namespace Go.PH
open Go.RowKit Go.Proofs
def lk0 (gp : Nat) : Array Value := #[.int .u8 0, .slice none 0 0, .pointer (some ⟨gp, 0, none⟩), .int .u64 255, .int .u64 4096, .pointer none, .slice none 0 0, .slice none 0 0]
theorem ke (w : World) : Calls Tryz.prog 10 #[] w fun e w' => e = .returned (.pointer (some ⟨w.heap.size + 2, 0, none⟩)) ∧ Ga w' (fun g => g = w.heap.size ∨ g = w.heap.size + 1) (w.heap.size + 1) 0 GS.new ∧ Box w' (w.heap.size + 2) 61 (lk0 (w.heap.size + 1)) ∧ Below w.heap.size w w' := by
 have hg := J9 w
 go_enter Tryz.func10, Tryz.ntmps10
 go_wp2_with (with_reducible refine h_A ?_)
 refine hg.mono ?_
 rintro e w1 ⟨rfl, hG, hB, hz⟩
 have HZ := Lib.hid hz
 clear hz hg
 obtain ⟨lb, w2, hqb, hqv, hL, hB2⟩ := zr w1 (lk0 (w.heap.size + 1)) 61
 unfold lk0 at hqv
 go_wp2_with (with_reducible refine h_A ?_)
 rw [← hqv, ← hqb]
 go_ret
 have e1 : lb = w.heap.size + 2 := by rw [hqb, HZ.out]
 rw [e1] at hL ⊢
 exact ⟨rfl, hG.below hB2, hL, hB.trans (hB2.mono hB.size)⟩
theorem xi (lb st gp : Nat) (w : World) (h0 : w.cell? ⟨lb, 0, none⟩ = some (.int .u8 (st : Int))) (h2 : w.cell? ⟨lb, 2, none⟩ = some (.pointer (some ⟨gp, 0, none⟩))) : Calls Tryz.prog 15 #[.pointer (some ⟨lb, 0, none⟩)] w fun e w' => e = .returned (.int .u8 (st : Int)) ∧ w = w' := by
 go_enter Tryz.func15, Tryz.ntmps15
 go_wp2_with (with_reducible refine h_A ?_)
 go_ret
 exact ⟨rfl, rfl⟩
end Go.PH
end
section
namespace Go.PH
open Go.RowKit Go.Proofs
theorem xY {n : Nat} {x : Int} (h : x = 8 ∨ qf x = false) : zw n x = 2 := by
 unfold zw
 rw [if_neg]
 intro h'
 rcases h with rfl | h
 ·omega
 ·have := xM (w := x) (by omega)
  rw [h] at this; cases this
theorem yE {l s : List UInt8} {x : Int} (h : zw s.length x ≠ 0) : zF l s x = [] := by unfold zF; rw [if_neg h]
theorem yp {l s : List UInt8} {x : Int} (h : zw s.length x = 0) : zF l s x = l ++ be x.toNat s.length ++ s := by unfold zF; rw [if_pos h]
theorem yF (A : Option Addr) (n c : Nat) (l s : List UInt8) (x : Int) (w : World) (hb : RdB w w.heap.size A n c l) (hs : s.length ≤ 140737488351232) (hn : n ≤ 140737488351240) :
  Calls Tryz.prog 102 #[.slice A n c, .string (str s), .int .i64 x] w fun e w' => ∃ A2 c2, e = .returned (.tuple #[.slice A2 (zF l s x).length c2, .int .i64 (zw s.length x)]) ∧ Own w' w.heap.size 5 1 A2 (zF l s x).length c2 ((zF l s x).map u8v) ∧ Below w.heap.size w w' := by
 have hl := hb.length
 have hss := zj s
 by_cases h8 : x = 8
 ·rw [xY (.inl h8), yE (by rw [xY (.inl h8)]; omega)]
  subst h8
  go_enter Tryz.func102, Tryz.ntmps102
  go_wp2_with (with_reducible refine h_A ?_)
  go_ret2
  exact ⟨none, 0, rfl, Own.none_ _ _ _ _, Below.refl _ _⟩
 by_cases hw : qf x = true
 ·rcases (show x = 1 ∨ x = 2 ∨ x = 4 by rw [kr] at hw; omega) with rfl | rfl | rfl
  ·by_cases hlen : s.length < 256
   ·have he : zw s.length 1 = 0 := by unfold zw; simp; omega
    rw [he, yp he]
    have hz : (s.length : Int) / 256 = 0 := by omega
    simp only [List.length_append, zn, show (1 : Int).toNat = 1 from rfl, hl]
    go_enter Tryz.func102, Tryz.ntmps102
    go_wp2_with (with_reducible refine h_A ?_)
    refine (yY _ w).mono ?_
    rw [hw]
    rintro e w' ⟨rfl, rfl⟩
    go_wp2_with (with_reducible refine h_A ?_)
    refine (qP s.length 1 w' (by omega) (by omega) (by omega)).mono ?_
    rintro e w1 ⟨A1, rfl, ho1, hB1⟩
    go_wp2_with (with_reducible refine h_A ?_)
    refine zc (qM slB Tryz.underlying9 rfl rfl rfl rfl ho1 (by omega) hB1.size ?_)
    intro A2 c2 w2 ho2 hg2
    have hB2 : Below w'.heap.size w' w2 := hB1.grown hg2 hB1.size (fun g hg => (ho1.blk_lt hg).1)
    rw [← List.map_append] at ho2
    go_wp2_with (with_reducible refine h_A ?_)
    refine (qi A n c l A2 (1 + s.length) c2 (be 1 s.length ++ s) w2 ((hb.below hB2).more hB2.size) ho2.rd (by omega)).mono ?_
    rintro e w3 ⟨A3, rfl, ho3, hB3⟩
    rw [← List.append_assoc] at ho3
    go_wp2_with (with_reducible refine h_A ?_)
    go_ret2
    rw [Nat.add_assoc]
    exact ⟨A3, _, rfl, ho3.base_le hB2.size, hB2.trans (hB3.mono hB2.size)⟩
   ·have he : zw s.length 1 = 3 := by unfold zw; simp; omega
    rw [he, yE (by rw [he]; omega)]
    have hz : ((s.length : Int) / 256 != 0) = true := by simp; omega
    go_enter Tryz.func102, Tryz.ntmps102
    go_wp2_with (with_reducible refine h_A ?_)
    refine (yY _ w).mono ?_
    rw [hw]
    rintro e w' ⟨rfl, rfl⟩
    go_wp2_with (with_reducible refine h_A ?_)
    go_ret2
    exact ⟨none, 0, rfl, Own.none_ _ _ _ _, Below.refl _ _⟩
  ·by_cases hlen : s.length < 65536
   ·have he : zw s.length 2 = 0 := by unfold zw; simp; omega
    rw [he, yp he]
    have hz : (s.length : Int) / 65536 = 0 := by omega
    simp only [List.length_append, zn, show (2 : Int).toNat = 2 from rfl, hl]
    go_enter Tryz.func102, Tryz.ntmps102
    go_wp2_with (with_reducible refine h_A ?_)
    refine (yY _ w).mono ?_
    rw [hw]
    rintro e w' ⟨rfl, rfl⟩
    go_wp2_with (with_reducible refine h_A ?_)
    refine (qP s.length 2 w' (by omega) (by omega) (by omega)).mono ?_
    rintro e w1 ⟨A1, rfl, ho1, hB1⟩
    go_wp2_with (with_reducible refine h_A ?_)
    refine zc (qM slB Tryz.underlying9 rfl rfl rfl rfl ho1 (by omega) hB1.size ?_)
    intro A2 c2 w2 ho2 hg2
    have hB2 : Below w'.heap.size w' w2 := hB1.grown hg2 hB1.size (fun g hg => (ho1.blk_lt hg).1)
    rw [← List.map_append] at ho2
    go_wp2_with (with_reducible refine h_A ?_)
    refine (qi A n c l A2 (2 + s.length) c2 (be 2 s.length ++ s) w2 ((hb.below hB2).more hB2.size) ho2.rd (by omega)).mono ?_
    rintro e w3 ⟨A3, rfl, ho3, hB3⟩
    rw [← List.append_assoc] at ho3
    go_wp2_with (with_reducible refine h_A ?_)
    go_ret2
    rw [Nat.add_assoc]
    exact ⟨A3, _, rfl, ho3.base_le hB2.size, hB2.trans (hB3.mono hB2.size)⟩
   ·have he : zw s.length 2 = 3 := by unfold zw; simp; omega
    rw [he, yE (by rw [he]; omega)]
    have hz : ((s.length : Int) / 65536 != 0) = true := by simp; omega
    go_enter Tryz.func102, Tryz.ntmps102
    go_wp2_with (with_reducible refine h_A ?_)
    refine (yY _ w).mono ?_
    rw [hw]
    rintro e w' ⟨rfl, rfl⟩
    go_wp2_with (with_reducible refine h_A ?_)
    go_ret2
    exact ⟨none, 0, rfl, Own.none_ _ _ _ _, Below.refl _ _⟩
  ·by_cases hlen : s.length < 4294967296
   ·have he : zw s.length 4 = 0 := by unfold zw; simp; omega
    rw [he, yp he]
    have hz : (s.length : Int) / 4294967296 = 0 := by omega
    simp only [List.length_append, zn, show (4 : Int).toNat = 4 from rfl, hl]
    go_enter Tryz.func102, Tryz.ntmps102
    go_wp2_with (with_reducible refine h_A ?_)
    refine (yY _ w).mono ?_
    rw [hw]
    rintro e w' ⟨rfl, rfl⟩
    go_wp2_with (with_reducible refine h_A ?_)
    refine (qP s.length 4 w' (by omega) (by omega) (by omega)).mono ?_
    rintro e w1 ⟨A1, rfl, ho1, hB1⟩
    go_wp2_with (with_reducible refine h_A ?_)
    refine zc (qM slB Tryz.underlying9 rfl rfl rfl rfl ho1 (by omega) hB1.size ?_)
    intro A2 c2 w2 ho2 hg2
    have hB2 : Below w'.heap.size w' w2 := hB1.grown hg2 hB1.size (fun g hg => (ho1.blk_lt hg).1)
    rw [← List.map_append] at ho2
    go_wp2_with (with_reducible refine h_A ?_)
    refine (qi A n c l A2 (4 + s.length) c2 (be 4 s.length ++ s) w2 ((hb.below hB2).more hB2.size) ho2.rd (by omega)).mono ?_
    rintro e w3 ⟨A3, rfl, ho3, hB3⟩
    rw [← List.append_assoc] at ho3
    go_wp2_with (with_reducible refine h_A ?_)
    go_ret2
    rw [Nat.add_assoc]
    exact ⟨A3, _, rfl, ho3.base_le hB2.size, hB2.trans (hB3.mono hB2.size)⟩
   ·have he : zw s.length 4 = 3 := by unfold zw; simp; omega
    rw [he, yE (by rw [he]; omega)]
    have hz : ((s.length : Int) / 4294967296 != 0) = true := by simp; omega
    go_enter Tryz.func102, Tryz.ntmps102
    go_wp2_with (with_reducible refine h_A ?_)
    refine (yY _ w).mono ?_
    rw [hw]
    rintro e w' ⟨rfl, rfl⟩
    go_wp2_with (with_reducible refine h_A ?_)
    go_ret2
    exact ⟨none, 0, rfl, Own.none_ _ _ _ _, Below.refl _ _⟩
 ·have hw' : qf x = false := by simpa using hw
  rw [xY (.inr hw'), yE (by rw [xY (.inr hw')]; omega)]
  go_enter Tryz.func102, Tryz.ntmps102
  go_wp2_with (with_reducible refine h_A ?_)
  refine (yY x w).mono ?_
  rw [hw']
  rintro e w' ⟨rfl, rfl⟩
  go_wp2_with (with_reducible refine h_A ?_)
  go_ret2
  exact ⟨none, 0, rfl, Own.none_ _ _ _ _, Below.refl _ _⟩
end Go.PH
end
section
namespace Go.PH
open Go.RowKit Go.Proofs
end Go.PH
end
section
namespace Go.PH
open Go.RowKit Go.Proofs
theorem Za {w w' : World} (h : Below w.heap.size w w') (row : Option Nat) : w.grownBy w' row := ⟨h.os, h.tape, h.output, h.size, fun k hk _ => h.block k hk⟩
theorem kK (w : World) (row : Option Nat) : w.grownBy w.drew row := ⟨rfl, rfl, rfl, Nat.le_refl _, fun _ _ _ => rfl⟩
theorem Zb (w : World) (a : Addr) (u : Value) : w.grownBy (w.setCell a u) (some a.block) :=
 ⟨rfl, rfl, rfl, by simp, fun k _ hk => Below.heap_setCell _ _ _ k (fun e => hk (by rw [e]))⟩
theorem ZS (A : Option Addr) (n c : Nat) (l : List UInt8) (w : World) (hb : RdB w w.heap.size A n c l) (hn : n ≤ 140737488351240) :
  Calls Tryz.prog 76 #[.slice A n c] w fun e w' => ∃ A2 c2, e = .returned (.slice A2 n c2) ∧ Own w' w.heap.size 5 1 A2 n c2 (l.map u8v) ∧ Below w.heap.size w w' := by
 have hl := hb.length
 have hnil := run_eql_slice_nil (P := Tryz.prog) w 55 _ A n c Tryz.underlying55
 rcases A with _ | ad
 ·have hn0 : n = 0 := by
   rcases Nat.eq_zero_or_pos n with h0 | h0
   ·exact h0
   ·obtain ⟨b, off, e, _⟩ := hb.at_ h0; cases e
  subst hn0
  obtain rfl := List.eq_nil_of_length_eq_zero hl
  go_enter Tryz.func76, Tryz.ntmps76
  go_wp2_with (with_reducible refine h_A ?_)
  go_ret
  exact ⟨none, 0, rfl, Own.none_ _ _ _ _, Below.refl _ _⟩
 ·go_enter Tryz.func76, Tryz.ntmps76
  go_wp2_with (with_reducible refine h_A ?_)
  have hlit := xe (w := w) w.heap.size #[] 5 0 (Nat.le_refl _) (by simp [maxLen]) rfl (size := 1) (by omega)
  have hB1 : Below w.heap.size w (w.alloc (.cells #[] 5)) := (Below.refl _ _).alloc (Nat.le_refl _) _
  refine zc (yn (base := w.heap.size) slB rfl rfl rfl rfl hlit (hb.below hB1) (zU l) (by omega) (by simp [maxLen]; omega) (by simp) ?_)
  intro A2 c2 w2 ho2 hg2 _
  have hB2 : Below w.heap.size w w2 := hB1.grown hg2 (by simp) (fun g hg => (hlit.blk_lt hg).1)
  simp only [Nat.zero_add, List.nil_append] at ho2
  go_wp2_with (with_reducible refine h_A ?_)
  go_ret
  exact ⟨A2, c2, by first | rfl | simp, ho2, hB2⟩
def Rdr (F : Nat → Prop) (w : World) (v : Value) (vb : Option Nat) (l : List UInt8) (bad : Bool) : Prop :=
 (v = .pointer none ∧ vb = none ∧ l = [] ∧ bad = true) ∨
 (∃ rb, v = .pointer (some ⟨rb, 0, none⟩) ∧ vb = none ∧ l = [] ∧ bad = true ∧ w.cell? ⟨rb, 0, none⟩ = some (.pointer none) ∧ F rb) ∨
 (∃ rb b A n c, v = .pointer (some ⟨rb, 0, none⟩) ∧ vb = some b ∧ rb ≠ b ∧ w.cell? ⟨rb, 0, none⟩ = some (.pointer (some ⟨b, 0, none⟩)) ∧ w.cell? ⟨b, 0, none⟩ = some (.slice A n c) ∧
  w.cell? ⟨b, 1, none⟩ = some (.bool true) ∧ w.cell? ⟨b, 2, none⟩ = some (.bool bad) ∧ w.frozen? ⟨b, 0, none⟩ = false ∧ w.frozen? ⟨b, 2, none⟩ = false ∧ RdB w w.heap.size A n c l ∧ blk A ≠ some b ∧ n ≤ 140737488351240 ∧ F rb ∧ F b ∧ ∀ g, blk A = some g → F g)
theorem QU (w : World) : Calls Tryz.prog 107 #[.pointer none] w fun e w' => e = .returned (.bool true) ∧ w' = w := by
 go_enter Tryz.func107, Tryz.ntmps107
 go_wp2_with (with_reducible refine h_A ?_)
 go_ret
 exact ⟨rfl, rfl⟩
theorem QV (w : World) (b : Nat) (bad : Bool) (h1 : w.cell? ⟨b, 1, none⟩ = some (.bool true)) (h2 : w.cell? ⟨b, 2, none⟩ = some (.bool bad)) :
  Calls Tryz.prog 107 #[.pointer (some ⟨b, 0, none⟩)] w fun e w' => e = .returned (.bool bad) ∧ w' = w := by
 cases bad
 all_goals
  go_enter Tryz.func107, Tryz.ntmps107
  go_wp2_with (with_reducible refine h_A ?_)
  go_ret
  exact ⟨rfl, rfl⟩
theorem XG (w : World) : Calls Tryz.prog 108 #[.pointer none] w fun e w' => e = .returned (.int .i64 0) ∧ w' = w := by
 go_enter Tryz.func108, Tryz.ntmps108
 go_wp2_with (with_reducible refine h_A ?_)
 go_ret
 exact ⟨rfl, rfl⟩
theorem XH (w : World) (b : Nat) {A : Option Addr} {n c : Nat} (h0 : w.cell? ⟨b, 0, none⟩ = some (.slice A n c)) :
  Calls Tryz.prog 108 #[.pointer (some ⟨b, 0, none⟩)] w fun e w' => e = .returned (.int .i64 n) ∧ w' = w := by
 go_enter Tryz.func108, Tryz.ntmps108
 go_wp2_with (with_reducible refine h_A ?_)
 go_ret
 exact ⟨rfl, rfl⟩
theorem Rdr.kept {F : Nat → Prop} {w w' : World} {v : Value} {vb : Option Nat} {l : List UInt8} {bad : Bool} {row : Option Nat} (h : Rdr F w v vb l bad) (hg : w.grownBy w' row) (hne : ∀ g, row = some g → ¬ F g) : Rdr F w' v vb l bad := by
 rcases h with h | ⟨rb, h1, h2, h3, h4, h5, hF⟩ | ⟨rb, b, A, n, c, h1, h2, h3, h4, h5, h6, h7, h8, h9, hr, h10, h11, hF1, hF2, hF3⟩
 ·exact .inl h
 ·exact .inr (.inl ⟨rb, h1, h2, h3, h4, hg.cell h5 (fun e => hne _ e.symm hF), hF⟩)
 ·have hb : b < w.heap.size := World.block_lt_of_cell? w _ h5
  refine .inr (.inr ⟨rb, b, A, n, c, h1, h2, h3, hg.cell h4 (fun e => hne _ e.symm hF1), hg.cell h5 (fun e => hne _ e.symm hF2), hg.cell h6 (fun e => hne _ e.symm hF2), hg.cell h7 (fun e => hne _ e.symm hF2),
   (hg.frozen_far ⟨b, 0, none⟩ hb (fun e => hne _ e.symm hF2)).trans h8, (hg.frozen_far ⟨b, 2, none⟩ hb (fun e => hne _ e.symm hF2)).trans h9, (hr.grown_ne hg (Nat.le_refl _) ?_).more hg.size, h10, h11, hF1, hF2, hF3⟩)
  rcases hA : blk A with _ | g
  ·exact .inl rfl
  ·exact .inr fun e => hne g e.symm (hF3 g hA)
theorem Rdr.below {F : Nat → Prop} {w w' : World} {v : Value} {vb : Option Nat} {l : List UInt8} {bad : Bool} (h : Rdr F w v vb l bad) (hB : Below w.heap.size w w') : Rdr F w' v vb l bad := h.kept (Za hB none) (by simp)
theorem Rdr.drew {F : Nat → Prop} {w : World} {v : Value} {vb : Option Nat} {l : List UInt8} {bad : Bool} (h : Rdr F w v vb l bad) : Rdr F w.drew v vb l bad := h.kept (kK w none) (by simp)
theorem Rdr.inF {F : Nat → Prop} {w : World} {v : Value} {vb : Option Nat} {l : List UInt8} {bad : Bool} (h : Rdr F w v vb l bad) {g : Nat} (hg : vb = some g) : F g := by
 rcases h with ⟨_, rfl, _⟩ | ⟨_, _, rfl, _⟩ | ⟨rb, b, A, n, c, _, rfl, _, _, _, _, _, _, _, _, _, _, _, hF, _⟩
 ·cases hg
 ·cases hg
 ·cases hg; exact hF
theorem Rdr.len {F : Nat → Prop} {w : World} {v : Value} {vb : Option Nat} {l : List UInt8} {bad : Bool} (h : Rdr F w v vb l bad) : l.length ≤ 140737488351240 := by
 rcases h with ⟨_, _, rfl, _⟩ | ⟨_, _, _, rfl, _⟩ | ⟨rb, b, A, n, c, _, _, _, _, _, _, _, _, _, hr, _, hn, _⟩
 ·simp
 ·simp
 ·rw [hr.length]; exact hn
theorem zY {F : Nat → Prop} {w : World} {v : Value} {vb : Option Nat} {l : List UInt8} {bad : Bool} (h : Rdr F w v vb l bad) :
  Calls Tryz.prog 77 #[v] w fun e w' => e = .returned (.bool bad) ∧ w' = w := by
 rcases h with ⟨rfl, rfl, rfl, rfl⟩ | ⟨rb, rfl, rfl, rfl, rfl, hc, hF⟩ | ⟨rb, b, A, n, c, rfl, rfl, hne, hc, h0, h1, h2, _⟩
 ·go_enter Tryz.func77, Tryz.ntmps77
  go_wp2_with (with_reducible refine h_A ?_)
  go_ret
  exact ⟨rfl, rfl⟩
 ·go_enter Tryz.func77, Tryz.ntmps77
  go_wp2_with (with_reducible refine h_A ?_)
  refine (QU w).mono ?_
  rintro e w' ⟨rfl, rfl⟩
  go_wp2_with (with_reducible refine h_A ?_)
  go_ret
  exact ⟨rfl, rfl⟩
 ·go_enter Tryz.func77, Tryz.ntmps77
  go_wp2_with (with_reducible refine h_A ?_)
  refine (QV w b bad h1 h2).mono ?_
  rintro e w' ⟨rfl, rfl⟩
  go_wp2_with (with_reducible refine h_A ?_)
  go_ret
  exact ⟨rfl, rfl⟩
theorem yh {F : Nat → Prop} {w : World} {v : Value} {vb : Option Nat} {l : List UInt8} {bad : Bool} (h : Rdr F w v vb l bad) :
  Calls Tryz.prog 78 #[v] w fun e w' => e = .returned (.int .i64 l.length) ∧ w' = w := by
 rcases h with ⟨rfl, rfl, rfl, rfl⟩ | ⟨rb, rfl, rfl, rfl, rfl, hc, hF⟩ | ⟨rb, b, A, n, c, rfl, rfl, hne, hc, h0, h1, h2, _, _, hr, _⟩
 ·go_enter Tryz.func78, Tryz.ntmps78
  go_wp2_with (with_reducible refine h_A ?_)
  go_ret
  exact ⟨rfl, rfl⟩
 ·go_enter Tryz.func78, Tryz.ntmps78
  go_wp2_with (with_reducible refine h_A ?_)
  refine (XG w).mono ?_
  rintro e w' ⟨rfl, rfl⟩
  go_wp2_with (with_reducible refine h_A ?_)
  go_ret
  exact ⟨rfl, rfl⟩
 ·have hl := hr.length
  go_enter Tryz.func78, Tryz.ntmps78
  go_wp2_with (with_reducible refine h_A ?_)
  refine (XH w b h0).mono ?_
  rintro e w' ⟨rfl, rfl⟩
  go_wp2_with (with_reducible refine h_A ?_)
  go_ret
  rw [hl]
  exact ⟨rfl, rfl⟩
theorem yq {F : Nat → Prop} {w : World} {v : Value} {vb : Option Nat} {l : List UInt8} {bad : Bool} (h : Rdr F w v vb l bad) :
  Calls Tryz.prog 79 #[v] w fun e w' => e = .returned (.tuple #[]) ∧ Rdr F w' v vb [] true ∧ w.grownBy w' vb := by
 rcases h with ⟨rfl, rfl, rfl, rfl⟩ | ⟨rb, rfl, rfl, rfl, rfl, hc, hF⟩ | ⟨rb, b, A, n, c, rfl, rfl, hne, hc, h0, h1, h2, hf0, hf2, hr, hA, hn, hF⟩
 ·go_enter Tryz.func79, Tryz.ntmps79
  go_wp2_with (with_reducible refine h_A ?_)
  go_end0
  exact ⟨rfl, .inl ⟨rfl, rfl, rfl, rfl⟩, World.grownBy.refl _ _⟩
 ·go_enter Tryz.func79, Tryz.ntmps79
  go_wp2_with (with_reducible refine h_A ?_)
  go_end0
  exact ⟨rfl, .inr (.inl ⟨rb, rfl, rfl, rfl, rfl, hc, hF⟩), World.grownBy.refl _ _⟩
 ·go_enter Tryz.func79, Tryz.ntmps79
  go_wp2_with (with_reducible refine h_A ?_)
  have hS : w.drew.cell? ⟨rb, 0, none⟩ = some (.pointer (some ⟨b, 0, none⟩)) := hc
  have hf0' : w.drew.frozen? ⟨b, 0, none⟩ = false := hf0
  have h0' : w.drew.cell? ⟨b, 0, none⟩ = some (.slice A n c) := h0
  refine zD (fun wx => wx.cell? ⟨rb, 0, none⟩ = some (.pointer (some ⟨b, 0, none⟩))) (by kernel_rfl) ?_
  refine rg_t 0 hS ?_
  simp only [List.getElem_toArray, List.getElem_cons_zero, Act.put, List.setIfInBounds_toArray, List.set_cons_zero, List.set_cons_succ]
  refine rg_t 1 hS ?_
  simp only [g_S, Act.put]
  refine rg_t 2 hS ?_
  simp only [g_S, Act.put]
  refine rg_t 3 hS ?_
  simp only [g_S, Act.put]
  refine rg_t 4 hS ?_
  simp only [g_S, Act.put]
  refine rg_t 5 hS ?_
  simp only [g_S, Act.put]
  refine rg_t 6 hS ?_
  simp only [g_S, Act.put]
  refine rg_t 7 hS ?_
  simp only [g_S, Act.put]
  refine rg_t 8 hS ?_
  simp only [g_S, Act.put]
  refine rg_t 9 hS ?_
  simp only [g_S, Act.put]
  refine zi 10 rfl (by kernel_rfl) rfl (fun K hK => ?_)
  go_simp
  have hS1 : (w.drew.setCell ⟨b, 0, none⟩ (.slice none 0 0)).cell? ⟨rb, 0, none⟩ = some (.pointer (some ⟨b, 0, none⟩)) := (World.cell?_setCell_far _ _ _ _ (fun e => hne e.symm)).trans hS
  have hf2' : (w.drew.setCell ⟨b, 0, none⟩ (.slice none 0 0)).frozen? ⟨b, 2, none⟩ = false := by simp [hf2]
  refine hK _ _ hS1 ?_; clear hK K
  refine rg_t 11 hS1 ?_
  simp only [g_S, Act.put]
  refine rg_t 12 hS1 ?_
  simp only [g_S, Act.put]
  refine zi 13 rfl (by kernel_rfl) rfl (fun K hK => ?_)
  go_simp
  refine hK _ _ ((World.cell?_setCell_far _ _ _ _ (fun e => hne e.symm)).trans hS1) ?_
  clear hK K
  refine zK (by kernel_rfl) ?_
  go_end0
  refine ⟨rfl, .inr (.inr ⟨rb, b, none, 0, 0, rfl, rfl, hne, ?_, ?_, ?_, ?_, ?_, ?_, Rd.nil _ _ _ _ (by simp [maxLen]) _, by simp [blk], by omega, hF.1, hF.2.1, by simp [blk]⟩), ?_⟩
  ·exact (World.cell?_setCell_far _ _ _ _ (fun e => hne e.symm)).trans hS1
  ·change World.cell? ((w.setCell ⟨b, 0, none⟩ (.slice none 0 0)).setCell ⟨b, 2, none⟩ (.bool true)) _ = _
   rw [World.cell?_setCell_other _ _ _ _ (by simp)]
   exact World.cell?_setCell_same _ _ _ h0
  ·change World.cell? ((w.setCell ⟨b, 0, none⟩ (.slice none 0 0)).setCell ⟨b, 2, none⟩ (.bool true)) _ = _
   rw [World.cell?_setCell_other _ _ _ _ (by simp), World.cell?_setCell_other _ _ _ _ (by simp)]
   exact h1
  ·change World.cell? ((w.setCell ⟨b, 0, none⟩ (.slice none 0 0)).setCell ⟨b, 2, none⟩ (.bool true)) _ = _
   refine World.cell?_setCell_same _ _ _ (u := .bool bad) ?_
   rw [World.cell?_setCell_other _ _ _ _ (by simp)]
   exact h2
  ·simp [hf0]
  ·simp [hf2]
  ·exact ((Zb w ⟨b, 0, none⟩ (.slice none 0 0)).trans (Zb _ ⟨b, 2, none⟩ (.bool true))).trans ⟨rfl, rfl, rfl, Nat.le_refl _, fun _ _ _ => rfl⟩
theorem qR {F : Nat → Prop} {w : World} {v : Value} {vb : Option Nat} {l : List UInt8} {bad : Bool} (h : Rdr F w v vb l bad) (x : Int) (hx : -9223372036854775808 ≤ x) (hx' : x ≤ 9223372036854775807) :
  Calls Tryz.prog 53 #[v, .int .i64 x] w fun e w' => ∃ A2 c2, e = .returned (.slice A2 (yT l bad x).1.length c2) ∧ Own w' w.heap.size 5 1 A2 (yT l bad x).1.length c2 ((yT l bad x).1.map u8v) ∧
   Rdr F w' v vb (yT l bad x).2.1 (yT l bad x).2.2 ∧ w.grownBy w' vb := by
 by_cases hbad : bad = true
 ·subst hbad
  rw [jl (.inl rfl)]
  go_enter Tryz.func53, Tryz.ntmps53
  go_wp2_with (with_reducible refine h_A ?_)
  refine (zY h).mono ?_
  rintro e w' ⟨rfl, rfl⟩
  go_wp2_with (with_reducible refine h_A ?_)
  refine (yq h).mono ?_
  rintro e w1 ⟨rfl, h1, hg1⟩
  go_wp2_with (with_reducible refine h_A ?_)
  go_ret
  exact ⟨none, 0, rfl, Own.none_ _ _ _ _, h1, hg1⟩
 obtain rfl : bad = false := by simpa using hbad
 by_cases hneg : x < 0
 ·rw [jl (.inr (.inl hneg))]
  go_enter Tryz.func53, Tryz.ntmps53
  go_wp2_with (with_reducible refine h_A ?_)
  refine (zY h).mono ?_
  rintro e w' ⟨rfl, rfl⟩
  go_wp2_with (with_reducible refine h_A ?_)
  refine (yq h).mono ?_
  rintro e w1 ⟨rfl, h1, hg1⟩
  go_wp2_with (with_reducible refine h_A ?_)
  go_ret
  exact ⟨none, 0, rfl, Own.none_ _ _ _ _, h1, hg1⟩
 by_cases hlen : (l.length : Int) < x
 ·rw [jl (.inr (.inr hlen))]
  go_enter Tryz.func53, Tryz.ntmps53
  go_wp2_with (with_reducible refine h_A ?_)
  refine (zY h).mono ?_
  rintro e w' ⟨rfl, rfl⟩
  go_wp2_with (with_reducible refine h_A ?_)
  refine (yh h).mono ?_
  rintro e w' ⟨rfl, rfl⟩
  go_wp2_with (with_reducible refine h_A ?_)
  refine (yq h).mono ?_
  rintro e w1 ⟨rfl, h1, hg1⟩
  go_wp2_with (with_reducible refine h_A ?_)
  go_ret
  exact ⟨none, 0, rfl, Own.none_ _ _ _ _, h1, hg1⟩
 obtain ⟨m, rfl⟩ : ∃ m : Nat, x = m := ⟨x.toNat, by omega⟩
 have hm : m ≤ l.length := by omega
 rw [xq hm]
 have h' := h
 rcases h with ⟨_, _, _, hb⟩ | ⟨_, _, _, _, hb, _⟩ | ⟨rb, b, A, n, c, rfl, rfl, hne, hc, h0, h1, h2, hf0, hf2, hr, hA, hn, hF⟩
 ·cases hb
 ·cases hb
 have hl := hr.length
 have hcap := hr.cap
 go_enter Tryz.func53, Tryz.ntmps53
 go_wp2_with (with_reducible refine h_A ?_)
 refine (zY h').mono ?_
 rintro e w' ⟨rfl, rfl⟩
 go_wp2_with (with_reducible refine h_A ?_)
 refine (yh h').mono ?_
 rintro e w' ⟨rfl, rfl⟩
 go_wp2_with (with_reducible refine h_S ?_)
 refine zc (V9 slB rfl rfl rfl hr 0 m c (.inl ⟨rfl, rfl⟩) (.inr ⟨_, _, rfl, rfl⟩) (.inl ⟨rfl, rfl⟩) (by intro h; cases h) (by omega) (by omega) (Nat.le_refl _) (by omega) ?_)
 intro A1 hr1
 simp only [Nat.zero_mul, Nat.mul_one, List.drop_zero, ← List.map_take, Nat.sub_zero] at hr1
 go_wp2_with (with_reducible refine h_S ?_)
 refine (ZS A1 m c (l.take m) _ hr1 (by omega)).mono ?_
 rintro e w1 ⟨A2, c2, rfl, ho2, hB⟩
 go_wp2_with (with_reducible refine h_A ?_)
 have hbw : b < w'.heap.size := World.block_lt_of_cell? w' _ h0
 have hrw : rb < w'.heap.size := World.block_lt_of_cell? w' _ hc
 have hc1 : w1.drew.cell? ⟨rb, 0, none⟩ = some (.pointer (some ⟨b, 0, none⟩)) := (hB.cell hrw).trans hc
 have h01 : w1.drew.cell? ⟨b, 0, none⟩ = some (.slice A n c) := (hB.cell hbw).trans h0
 have h11 : w1.cell? ⟨b, 1, none⟩ = some (.bool true) := (hB.cell (p := ⟨b, 1, none⟩) hbw).trans h1
 have h21 : w1.cell? ⟨b, 2, none⟩ = some (.bool false) := (hB.cell (p := ⟨b, 2, none⟩) hbw).trans h2
 have hf01 : w1.drew.frozen? ⟨b, 0, none⟩ = false := (World.frozen?_of_block (w := w') (w' := w1.drew) (hB.block b hbw)).trans hf0
 have hf21 : w1.drew.frozen? ⟨b, 2, none⟩ = false := (World.frozen?_of_block (w := w') (w' := w1.drew) (hB.block b hbw)).trans hf2
 have hrr : RdB w1 w'.heap.size A n c l := hr.below hB
 have hcutA := fun wS : World => jm (A := A) slB wS hr.max hr.cap (lo := some (.int .i64 (m : Int))) (hi := none) (mx := none) m n c (.inr ⟨_, _, rfl, rfl⟩) (.inl ⟨rfl, rfl⟩) (.inl ⟨rfl, rfl⟩) (by intro h; cases h) (by omega) (by omega) (Nat.le_refl _) (Nat.le_refl _)
 have hq := hcutA w1.drew
 refine zD (fun wx => wx.cell? ⟨rb, 0, none⟩ = some (.pointer (some ⟨b, 0, none⟩))) (by kernel_rfl) ?_
 refine rg_t 0 hc1 ?_
 simp only [List.getElem_toArray, List.getElem_cons_zero, Act.put, List.setIfInBounds_toArray, List.set_cons_zero, List.set_cons_succ]
 refine rg_t 1 hc1 ?_
 simp only [g_S, Act.put]
 refine rg_t 2 hc1 ?_
 simp only [g_S, Act.put]
 refine rg_t 3 hc1 ?_
 simp only [g_S, Act.put]
 refine rg_t 4 hc1 ?_
 simp only [g_S, Act.put]
 refine rg_t 5 hc1 ?_
 simp only [g_S, Act.put]
 refine rg_t 6 hc1 ?_
 simp only [g_S, Act.put]
 refine rg_t 7 hc1 ?_
 simp only [g_S, Act.put]
 refine rg_t 8 hc1 ?_
 simp only [g_S, Act.put]
 refine rg_t 9 hc1 ?_
 simp only [g_S, Act.put]
 refine rg_t 11 hc1 ?_
 simp only [g_S, Act.put]
 refine zi 10 rfl (by kernel_rfl) rfl (fun K hK => ?_)
 go_simp
 refine hK _ _ hc1 ?_; clear hK K
 refine zi 12 rfl (by kernel_rfl) rfl (fun K hK => ?_)
 go_simp
 refine hK _ _ hc1 ?_; clear hK K
 refine rg_t 13 hc1 ?_
 simp only [g_S, Act.put]
 refine rg_t 14 hc1 ?_
 simp only [g_S, Act.put]
 refine zi 15 rfl (by kernel_rfl) rfl (fun K hK => ?_)
 go_simp
 refine hK _ _ ((World.cell?_setCell_far _ _ _ _ (fun e => hne e.symm)).trans hc1) ?_
 clear hK K
 refine zK (by kernel_rfl) ?_
 go_wp2_with (with_reducible refine h_A ?_)
 go_ret
 have hge : ∀ g, blk A2 = some g → w'.heap.size ≤ g := fun g hg => (ho2.blk_lt hg).1
 have hg0 := (Zb w1 ⟨b, 0, none⟩ (.slice (cutA A 1 m c) (n - m) (c - m))).trans (kK _ _)
 refine ⟨A2, c2, by simp [Array.getD, Nat.min_eq_left hm], ?_, ?_, ?_⟩
 ·rw [List.length_take, Nat.min_eq_left hm]
  refine ho2.kept hg0 (.inr fun e => ?_)
  rw [yC] at e
  have : w'.heap.size ≤ b := hge _ e
  omega
 ·refine .inr (.inr ⟨rb, b, cutA A 1 m c, n - m, c - m, rfl, rfl, hne, ?_, ?_, ?_, ?_, ?_, ?_, ?_, ?_, by omega, hF.1, hF.2.1, fun g hg => hF.2.2 g (by rwa [qN] at hg)⟩)
  ·exact (World.cell?_setCell_far _ _ _ _ (fun e => hne e.symm)).trans hc1
  ·exact World.cell?_setCell_same _ _ _ h01
  ·exact (World.cell?_setCell_other _ _ _ _ (by simp)).trans h11
  ·exact (World.cell?_setCell_other _ _ _ _ (by simp)).trans h21
  ·simpa using hf01
  ·simpa using hf21
  ·have h3 := vw hrr m n c (by omega) (by omega) (Nat.le_refl _) (Nat.le_refl _)
   have e3 : (((l.map u8v).take (n * 1)).drop (m * 1)) = (l.drop m).map u8v := by
    rw [Nat.mul_one, Nat.mul_one, List.take_of_length_le (by simp; omega), List.map_drop]
   rw [e3] at h3
   have h4 : RdB w1 w1.heap.size (cutA A 1 m c) (n - m) (c - m) (l.drop m) := h3.more hB.size
   exact (h4.grown_ne hg0 (Nat.le_refl _) (.inr (by rw [qN]; exact hA))).more hg0.size
  ·rw [qN]; exact hA
 ·exact (Za hB (some b)).trans hg0
end Go.PH
end
section
namespace Go.PH
open Go.RowKit Go.Proofs
theorem xj (A : Option Addr) (n c : Nat) (l : List UInt8) (w : World) (hb : RdB w w.heap.size A n c l) (hn : n ≤ 140737488351240) :
  Calls Tryz.prog 52 #[.slice A n c] w fun e w' => ∃ rb b, e = .returned (.pointer (some ⟨rb, 0, none⟩)) ∧ w.heap.size ≤ rb ∧ w.heap.size ≤ b ∧ Rdr (fun g => w.heap.size ≤ g ∧ g < w'.heap.size) w' (.pointer (some ⟨rb, 0, none⟩)) (some b) l false ∧ Below w.heap.size w w' := by
 go_enter Tryz.func52, Tryz.ntmps52
 go_wp2_with (with_reducible refine h_A ?_)
 refine (ZS A n c l w hb hn).mono ?_
 rintro e w1 ⟨A2, c2, rfl, ho2, hB⟩
 go_wp2_with (with_reducible refine h_A ?_)
 go_ret
 have hB1 : Below w.heap.size w (w1.alloc (.cells #[.slice A2 n c2, .bool true, .bool false] 151)) := hB.alloc hB.size _
 refine ⟨w1.heap.size + 1, w1.heap.size, rfl, by have := hB.size; omega, hB.size, .inr (.inr ⟨_, _, A2, n, c2, rfl, rfl, by omega, ?_, ?_, ?_, ?_, ?_, ?_, ?_, ?_, hn, ?_, ?_, ?_⟩), hB1.alloc (by have := hB1.size; omega) _⟩
 ·simp
 ·simp
 ·simp
 ·simp
 ·simp
 ·simp
 ·exact Own.rd (base := w.heap.size) (e := 5) ((ho2.alloc _).alloc _)
 ·intro e
  have := (ho2.blk_lt e).2
  omega
 ·have := hB.size; simp; omega
 ·have := hB.size; simp; omega
 ·intro g hg
  have h1 := (ho2.blk_lt hg).1
  have h2 := (ho2.blk_lt hg).2
  simp; omega
theorem Vt (k x : Nat) (hk : k < 72057594037927936) (hx : x < 256) : bits .or .u64 (IntKind.u64.wrap ((k : Int) * 256)) (x : Int) = ((256 * k + x : Nat) : Int) := by
 have h1 : IntKind.u64.wrap ((k : Int) * 256) = ((256 * k : Nat) : Int) := by rw [IntKind.wrap_u64]; omega
 rw [h1, u64_or_nat _ _ (by omega) (by omega)]
 have := Nat.two_pow_add_eq_or_of_lt (i := 8) (b := x) (by omega) k
 rw [← this]
theorem zP {F : Nat → Prop} {w : World} {v : Value} {vb : Option Nat} {l : List UInt8} {bad : Bool} (h : Rdr F w v vb l bad) (x : Int) (hx : -9223372036854775808 ≤ x) (hx' : x ≤ 9223372036854775807) :
  Calls Tryz.prog 54 #[v, .int .i64 x] w fun e w' => e = .returned (.int .u64 ((mnum l bad x).1 : Nat)) ∧ Rdr F w' v vb (mnum l bad x).2.1 (mnum l bad x).2.2 ∧ w.grownBy w' vb := by
 by_cases hw : qf x = true
 ·rw [xV hw]
  have hlo : (yT l bad x).1.length ≤ 8 := by
   have := vS hw
   unfold yT
   split
   ·simp
   ·simp only [List.length_take]; omega
  have hT := qR h x hx hx'
  generalize yT l bad x = r at hT hlo ⊢
  obtain ⟨o, l', bad'⟩ := r
  simp only at hT hlo ⊢
  go_enter Tryz.func54, Tryz.ntmps54
  go_wp2_with (with_reducible refine h_A ?_)
  refine (yY x w).mono ?_
  rw [hw]
  rintro e w' ⟨rfl, rfl⟩
  go_wp2_with (with_reducible refine h_A ?_)
  refine hT.mono ?_
  rintro e w1 ⟨A2, c2, rfl, ho, hR, hg⟩
  go_wp2_with (with_reducible refine h_A ?_)
  go_loopw [17, 5] (fun i s wr => wr = w1 ∧ ∃ k : Nat, k ≤ o.length ∧ i = .int .i64 k ∧ s = .int .u64 (unbe (o.take k) : Nat)) (fun i _ _ => o.length - (RowKit.intOf i).toNat)
  case atStart => exact ⟨rfl, 0, by omega, rfl, by simp [j6]⟩
  case round =>
   obtain ⟨rfl, k, hk, rfl, rfl⟩ := hrel
   by_cases hlt : k < o.length
   ·obtain ⟨b, off, rfl, hbB, hkl, hcell⟩ := RdB.at_k ho.rd (k := k) hlt
    have hby := o[k].toNat_lt
    go_wp2_with (with_reducible refine h_A ?_)
    have hsn : unbe (o.take (k + 1)) = 256 * unbe (o.take k) + o[k].toNat := by
     rw [List.take_succ_eq_append_getElem hkl]; exact Qs _ _
    have hlt7 : unbe (o.take k) < 72057594037927936 := by
     refine Nat.lt_of_lt_of_le (kt _) ?_
     refine Nat.le_trans (Nat.pow_le_pow_right (by omega) (show (o.take k).length ≤ 7 by rw [List.length_take]; omega)) (by decide)
    exact ⟨⟨trivial, k + 1, by omega, by go_num, by rw [Vt _ _ hlt7 hby, hsn]⟩, by simp [RowKit.intOf]; omega⟩
   ·obtain rfl : k = o.length := by omega
    rw [List.take_length]
    go_wp2_with (with_reducible refine h_A ?_)
    go_ret
    exact ⟨rfl, hR, hg⟩
 ·have hw' : qf x = false := by simpa using hw
  rw [Qt hw']
  go_enter Tryz.func54, Tryz.ntmps54
  go_wp2_with (with_reducible refine h_A ?_)
  refine (yY x w).mono ?_
  rw [hw']
  rintro e w' ⟨rfl, rfl⟩
  go_wp2_with (with_reducible refine h_A ?_)
  refine (yq h).mono ?_
  rintro e w1 ⟨rfl, h1, hg1⟩
  go_wp2_with (with_reducible refine h_A ?_)
  go_ret
  exact ⟨rfl, h1, hg1⟩
end Go.PH
end

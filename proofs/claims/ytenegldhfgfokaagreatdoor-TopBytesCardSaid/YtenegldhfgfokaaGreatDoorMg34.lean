/- Texts laid together: TbMath2. -/
import Derived.Test.YtenegldhfgfokaaGreatDoorMg12
import Derived.Test.YtenegldhfgfokaaGreatDoorMg33
set_option linter.all false
set_option linter.unusedSimpArgs false
set_option linter.unusedVariables false
section
/- The methods that TopBytes keeps: the assemblies, the frames, the bytes. Plain mathematics. -/
namespace Go.PH
open Go.RowKit Go.Proofs

def trk (m : Mt) : Nat := if m.cls ≤ 2 then 0 else 1
def asm (p : Nat × Mr) : As := ⟨p.1, trk p.2.1, [⟨trk p.2.1, putM p.2.1⟩]⟩
structure TbK (L : List Mr) (i : Nat) (K : List (Nat × Mr)) : Prop where
 len : K.length ≤ i
 all : ∀ p ∈ K, p.1 < i ∧ p.2 ∈ L ∧ goodM p.2.1 = true ∧ (putM p.2.1).length ≤ 4000
theorem TbK.nil (L : List Mr) : TbK L 0 [] := ⟨Nat.le_refl _, fun p hp => by cases hp⟩
theorem TbK.up {L : List Mr} {i : Nat} {K : List (Nat × Mr)} (h : TbK L i K) : TbK L (i + 1) K := ⟨by have := h.len; omega, fun p hp => by have := h.all p hp; exact ⟨by omega, this.2⟩⟩
theorem TbK.snoc {L : List Mr} {i : Nat} {K : List (Nat × Mr)} (h : TbK L i K) {x : Mr} (hx : x ∈ L) (hg : goodM x.1 = true) (hl : (putM x.1).length ≤ 4000) : TbK L (i + 1) (K ++ [(i, x)]) :=
 ⟨by have := h.len; simp; omega, fun p hp => by
  rcases List.mem_append.1 hp with hp | hp
  ·exact h.up.all p hp
  ·rw [List.mem_singleton.1 hp]; exact ⟨by show i < i + 1; omega, hx, hg, hl⟩⟩
theorem asm_ok {p : Nat × Mr} (h : (putM p.2.1).length ≤ 4000) : asOk (asm p) = true := one_ok (by unfold trk; split <;> omega) (by omega)
theorem asm_wf {p : Nat × Mr} (h : p.1 < 65536) : (asm p).wf := ⟨h, by show trk _ < 256; unfold trk; split <;> omega, fun s hs => by rw [List.mem_singleton.1 hs]; show trk _ < 256; unfold trk; split <;> omega⟩
theorem cutF_asm {p : Nat × Mr} (h : (putM p.2.1).length ≤ 4000) {most : Nat} (h1 : 1 ≤ most) (h2 : most ≤ 4084) : cutErr (most : Int) (asm p) = 0 ∧ cutF (most : Int) (asm p) = cutAs most (asm p) := by
 have e : cutErr (most : Int) (asm p) = 0 := by
  unfold cutErr
  rw [if_neg (by omega), if_pos (asm_ok h)]
 exact ⟨e, by unfold cutF; rw [if_pos e]; rfl⟩
def frK (most : Nat) (K : List (Nat × Mr)) : List Fr := allFr most (K.map asm)
theorem frK_snoc (most : Nat) (K : List (Nat × Mr)) (p : Nat × Mr) : frK most (K ++ [p]) = frK most K ++ cutAs most (asm p) := by simp [frK, allFr]
theorem cutAs_all {p : Nat × Mr} (h : (putM p.2.1).length ≤ 4000) (hp : p.1 < 65536) {most : Nat} (h1 : 1 ≤ most) (h2 : most ≤ 4084) : ∀ f ∈ cutAs most (asm p), f.ok = true ∧ f.wf ∧ f.load.length ≤ 16384 := by
 intro f hf
 have hw := cutF_wf (most := (most : Int)) (asm_wf hp)
 rw [(cutF_asm h h1 h2).2] at hw
 obtain ⟨k, hk, rfl⟩ := List.mem_iff_getElem.1 hf
 exact ⟨(feeds_at _ [] k hk (cutAs_feeds h1 h2 (asm_ok h)).1).1, hw _ hf⟩
theorem TbK.frs {L : List Mr} {i : Nat} {K : List (Nat × Mr)} (h : TbK L i K) (hi : i ≤ 65536) {most : Nat} (h1 : 1 ≤ most) (h2 : most ≤ 4084) : ∀ f ∈ frK most K, f.ok = true ∧ f.wf ∧ f.load.length ≤ 16384 := by
 intro f hf
 unfold frK allFr at hf
 obtain ⟨a, ha, hfa⟩ := List.mem_flatMap.1 hf
 obtain ⟨p, hp, rfl⟩ := List.mem_map.1 ha
 obtain ⟨q1, _, _, q4⟩ := h.all p hp
 exact cutAs_all q4 (by omega) h1 h2 f hfa
theorem TbK.flen {L : List Mr} {i : Nat} {K : List (Nat × Mr)} (h : TbK L i K) {most : Nat} (h1 : 1 ≤ most) : (frK most K).length ≤ 16388 * K.length := by
 have key : ∀ l : List (Nat × Mr), (∀ p ∈ l, (putM p.2.1).length ≤ 4000) → (allFr most (l.map asm)).length ≤ 16388 * l.length := by
  intro l
  induction l with
  | nil => intro _; simp [allFr]
  | cons p r ih =>
   intro hl
   have e : allFr most ((p :: r).map asm) = cutAs most (asm p) ++ allFr most (r.map asm) := rfl
   have h3 := cutAs_len h1 (asm_ok (hl p (List.mem_cons_self ..)))
   have h4 := ih fun q hq => hl q (List.mem_cons_of_mem _ hq)
   rw [e, List.length_append, List.length_cons]
   omega
 exact key K fun p hp => (h.all p hp).2.2.2
theorem TbK.blen {L : List Mr} {i : Nat} {K : List (Nat × Mr)} (h : TbK L i K) (hi : i ≤ 8) {most : Nat} (h1 : 1 ≤ most) : (frK most K).length ≤ 131104 ∧ (putAll (frK most K)).length ≤ 537001984 := by
 have h2 := h.flen h1
 have h3 := putAll_len (frK most K)
 have h4 := h.len
 omega
theorem TbK.asms {L : List Mr} {i : Nat} {K : List (Nat × Mr)} (h : TbK L i K) (hi : i ≤ 65536) : ∀ a ∈ K.map asm, asOk a = true ∧ a.wf := by
 intro a ha
 obtain ⟨p, hp, rfl⟩ := List.mem_map.1 ha
 obtain ⟨q1, _, _, q4⟩ := h.all p hp
 exact ⟨asm_ok q4, asm_wf (by omega)⟩
theorem TbK.scan {L : List Mr} {i : Nat} {K : List (Nat × Mr)} (h : TbK L i K) (hi : i ≤ 65536) {most : Nat} (h1 : 1 ≤ most) (h2 : most ≤ 4084) : frScan (putAll (frK most K)) = (frK most K, (putAll (frK most K)).length, 0) :=
 scan_putAll (fun f hf => (h.frs hi h1 h2 f hf).1) (fun f hf => (h.frs hi h1 h2 f hf).2.1)
/-- TopBytes' bytes and kept methods in memory -/
def TbB (w wr : World) (L : List Mr) (sz i : Nat) (s8 s9 : Value) : Prop := ∃ (m1 c1 m2 c2 : Nat) (A1 A2 : Option Addr) (K : List (Nat × Mr)), s8 = .slice A1 m1 c1 ∧ s9 = .slice A2 m2 c2 ∧ Hid (TbK L i K) ∧ Hid (m1 = (putAll (frK sz K)).length) ∧ Hid (m2 = K.length) ∧
 Own wr w.heap.size 5 1 A1 m1 c1 ((putAll (frK sz K)).map u8v) ∧ Own wr w.heap.size 29 4 A2 m2 c2 (rowC mrC (K.map (·.2))) ∧ (∀ g, blk A1 = some g → blk A2 ≠ some g) ∧ Below w.heap.size w wr
theorem TbB.start (w : World) (L : List Mr) (sz : Nat) : TbB w w L sz 0 (.slice none 0 0) (.slice none 0 0) :=
 ⟨0, 0, 0, 0, none, none, [], rfl, rfl, Lib.hid (TbK.nil L), Lib.hid rfl, Lib.hid rfl, Own.none_ _ _ _ _, Own.none_ _ _ _ _, (fun g h => by cases h), Below.refl _ _⟩
theorem TbB.skip {w wr w1 : World} {L : List Mr} {sz i : Nat} {s8 s9 : Value} (h : TbB w wr L sz i s8 s9) (hB : Below wr.heap.size wr w1) : TbB w w1 L sz (i + 1) s8 s9 := by
 obtain ⟨m1, c1, m2, c2, A1, A2, K, e1, e2, HK, HM1, HM2, hO1, hO2, hne, hB0⟩ := h
 exact ⟨m1, c1, m2, c2, A1, A2, K, e1, e2, Lib.hid HK.out.up, HM1, HM2, own_below hO1 hB, own_below hO2 hB, hne, hB0.trans (hB.mono hB0.size)⟩
/-- TopBytes' second loop: the bytes that came, what was fed, the gatherer -/
def TbL (wc wr : World) (sz : Nat) (AS : List As) (FS : List Fr) (b : List UInt8) (pb i nc : Nat) (s20 s21 s22 : Value) : Prop := ∃ (frm got nr cr nk : Nat) (Ar : Option Addr) (rest : List UInt8) (D R : List Fr) (g : GS) (F : Nat → Prop), s20 = .slice Ar nr cr ∧ s21 = .int .i64 (got : Int) ∧ s22 = .int .i64 (frm : Int) ∧
 Hid ((i = nc + 1 ∨ i = 7) → frm = b.length) ∧ frm ≤ b.length ∧ got ≤ AS.length ∧ Hid (PieceI FS b frm D R rest) ∧ Hid (∃ kk, FedI sz AS got kk g ∧ R = remF sz AS got kk) ∧ Hid (nk + R.length = FS.length) ∧ Ga wr F pb nk g ∧ (∀ k, F k → wc.heap.size ≤ k) ∧
 Own wr wc.heap.size 5 1 Ar nr cr (rest.map u8v) ∧ (∀ k, blk Ar = some k → ¬ F k) ∧ Below wc.heap.size wc wr
/-- TopBytes' innermost loop: the frames that a piece brought, the bytes that are left -/
def TbF (wc wr : World) (sz : Nat) (AS : List As) (FS : List Fr) (pb : Nat) (A6 : Option Addr) (N c6 : Nat) (FR RM : List Fr) (A9 : Option Addr) (n9 c9 : Nat) (rest : List UInt8) (s21 : Value) : Prop := ∃ (got nk : Nat) (g : GS) (F : Nat → Prop), s21 = .int .i64 (got : Int) ∧ got ≤ AS.length ∧
 Hid (∃ kk, FedI sz AS got kk g ∧ RM = remF sz AS got kk) ∧ Hid (nk + RM.length = FS.length) ∧ Ga wr F pb nk g ∧ (∀ k, F k → wc.heap.size ≤ k) ∧ OwnF wr wc.heap.size A6 N c6 FR ∧ (∀ k, blk A6 = some k → ¬ F k) ∧
 Own wr wc.heap.size 5 1 A9 n9 c9 (rest.map u8v) ∧ (∀ k, blk A9 = some k → ¬ F k) ∧ Below wc.heap.size wc wr
theorem own_fed {w w' : World} {F F' : Nat → Prop} {base e sz n c : Nat} {A : Option Addr} {xs : List Value} (hO : Own w base e sz A n c xs) (hn : ∀ k, blk A = some k → ¬ F k) (hK : KeepF F w w') (hF' : ∀ k, F' k → F k ∨ w.heap.size ≤ k) : Own w' base e sz A n c xs ∧ ∀ k, blk A = some k → ¬ F' k :=
 ⟨own_keepF hO hK hn, fun k hk h => by
  rcases hF' k h with h | h
  ·exact hn k hk h
  ·have := (hO.blk_lt hk).2; omega⟩
/-- a good method's bytes are read as what it was -/
theorem get_back {m : Mt} (hg : goodM m = true) (hb : MB m) : GetM (putM m) m 0 := by
 obtain ⟨h1, h2, h3, h4, _⟩ := get_parts hg hb rfl
 exact .inr (.inr ⟨h1, by rw [h2, h3]; exact h4, .inl ⟨rfl, hb, hg, rfl⟩⟩)
end Go.PH
end

/- Texts laid together: MdTakeR. -/
import Derived.Test.YtidpbbleneekgaaGreatDoorMg03
import Derived.Test.YtidpbbleneekgaaGreatDoorMg21
import Derived.Test.YtidpbbleneekgaaGreatDoorMg26
import Derived.Test.YtidpbbleneekgaaGreatDoorMg33
import Derived.Test.YtidpbbleneekgaaGreatDoorMg36
set_option linter.all false
set_option linter.unusedSimpArgs false
set_option linter.unusedVariables false
section
/- An argument off bytes: the walk of the document's take. -/
namespace Go.PH
open Go.RowKit Go.Proofs

theorem sl_one : ∀ {b : Bool} {n : Int} {s : ByteArray} {f : Int} {g h : ByteArray} {A : Option Addr} {p q : Nat} {k m : Int} {t : ByteArray} {B C : Option Addr} {u v x y : Nat}, ∀ z ∈ [Value.bool b, .int .u64 n, .string s, .int .u32 f, .string g, .string h, .slice A p q, .int .u8 k, .int .u64 m, .string t, .slice B u v, .slice C x y], z.oneCell' = true := by
 intro b n s f g h A p q k m t B C u v x y z hz
 simp at hz
 rcases hz with rfl | rfl | rfl | rfl | rfl | rfl | rfl | rfl | rfl | rfl | rfl | rfl <;> rfl
/-- an argument without its mark -/
def agF (a : Ag) : Ag := { a with is := false }
/-- what take answers -/
def TakeR (w : World) (F : Nat → Prop) (kd : UInt8) (l : List UInt8) (e : Ending) (w' : World) : Prop := ∃ (a : Ag) (h : AH) (A2 : Option Addr) (n2 c2 : Nat) (l2 : List UInt8), e = .returned (.tuple #[.agg (agV a h), .slice A2 n2 c2]) ∧ RA w' (FN w.heap.size w') a h ∧ RdX w' (fun g => F g ∨ FN w.heap.size w' g) 1 A2 n2 c2 (l2.map u8v) ∧ n2 ≤ 100000000 ∧ Below w.heap.size w w' ∧ a.is = false ∧
 ∀ (a' : Ag) (rest : List UInt8), l = byA kd a' ++ rest → okA kd a' = true → AB a' → a = agF a' ∧ l2 = rest
theorem num_take (kd : UInt8) (k : Nat) (hk : k = 1 ∨ k = 2 ∨ k = 4) (hby : ∀ a, byA kd a = be k a.n) (hok : ∀ a, okA kd a = true → a.n < 256 ^ k ∧ sameA a (agN a) = true) (l : List UInt8) :
  ∀ (a' : Ag) (rest : List UInt8), l = byA kd a' ++ rest → okA kd a' = true → AB a' → (⟨false, (mnum l false (k : Int)).1, [], xd0, [], vl0⟩ : Ag) = agF a' ∧ (mnum l false (k : Int)).2.1 = rest := by
 intro a' rest hl hka _
 obtain ⟨h1, h2⟩ := hok a' hka
 rw [hby] at hl
 have e1 := mnum_at k (by omega) a'.n h1 rest
 subst hl
 rw [e1]
 have e2 : a' = agN a' := (sameA_iff _ _).1 h2
 refine ⟨?_, rfl⟩
 rw [e2]
 rfl
theorem txt_take (kd : UInt8) (k : Nat) (hk : k = 1 ∨ k = 2) (hby : ∀ a, byA kd a = putsText [] a.s (k : Int)) (hok : ∀ a, okA kd a = true → textErr a.s.length (k : Int) = 0 ∧ sameA a (agS a) = true) (l : List UInt8) :
  ∀ (a' : Ag) (rest : List UInt8), l = byA kd a' ++ rest → okA kd a' = true → AB a' → (⟨false, 0, (mtext l false (k : Int) 65535).1, xd0, [], vl0⟩ : Ag) = agF a' ∧ (mtext l false (k : Int) 65535).2.1 = rest := by
 intro a' rest hl hka _
 obtain ⟨h1, h2⟩ := hok a' hka
 obtain ⟨h3, h4⟩ := text_ok hk h1
 rw [hby, h4] at hl
 have h5 : 256 ^ k ≤ 65536 := by rcases hk with rfl | rfl <;> decide
 have e1 := mtext_app2 k (by omega) a'.s rest 65535 h3 (by omega)
 rw [show ((65535 : Nat) : Int) = 65535 from rfl] at e1
 subst hl
 rw [e1]
 have e2 : a' = agS a' := (sameA_iff _ _).1 h2
 refine ⟨?_, rfl⟩
 rw [e2]
 rfl
theorem Qrd.rdx {F : Nat → Prop} {w : World} {b : Nat} {l : List UInt8} {bad : Bool} (h : Qrd F w b l bad) : ∃ A c, w.cell? ⟨b, 0, none⟩ = some (.slice A l.length c) ∧ RdX w F 1 A l.length c (l.map u8v) := by
 obtain ⟨A, n, c, h0, h1, _, _, hr, _, _, _, hF⟩ := h
 have hl := RdB.length hr
 rw [hl]
 exact ⟨A, c, h0, hr, fun _ g hg => hF g hg⟩
set_option maxRecDepth 20000 in
set_option maxHeartbeats 2000000 in
theorem rtake_110 {F : Nat → Prop} (A : Option Addr) (n c : Nat) (l : List UInt8) (w : World) (hr : RdX w F 1 A n c (l.map u8v)) (hF : ∀ g, F g → g < w.heap.size) (hn : n ≤ 100000000) :
  Calls Tryz.prog 24 #[.int .u8 110, .slice A n c] w (TakeR w F 110 l) := by
 obtain ⟨zb, w1, hzb, hzv, hZ, hB1⟩ := alloc_stepV w #[.bool false, .int .u64 0, .string ⟨#[]⟩, .int .u32 0, .string ⟨#[]⟩, .string ⟨#[]⟩, .slice none 0 0, .int .u8 0, .int .u64 0, .string ⟨#[]⟩, .slice none 0 0, .slice none 0 0] 52
 have hln : l.length = n := RdB.length (show RdB w w.heap.size A n c l from hr.1)
 have hrb : RdB w w.heap.size A n c l := hr.1
 have hop := qopen_any A n c l w1 (rd_wide (hrb.below hB1) hB1.size) (by omega)
 have hzw : w.heap.size ≤ zb := by omega
 go_enter Tryz.func24, Tryz.ntmps24
 go_upto_region 1 with fail
 rw [← hzb, ← hzv]
 clear hzb hzv
 go_wp2_with (with_reducible refine h_A ?_)
 refine hop.mono ?_
 rintro e w2 ⟨ob, rfl, hob, hR, hB2⟩
 have hZ2 := hZ.below hB2
 have hB02 := hB1.trans (hB2.mono hB1.size)
 have hs1 := hB1.size
 have hzl := hZ.lt
 clear hop hZ hB1 hB2
 obtain ⟨ab, w3, hab, hav, hX, hB3⟩ := alloc_stepV w2 #[.bool false, .int .u64 0, .string ⟨#[]⟩, .int .u32 0, .string ⟨#[]⟩, .string ⟨#[]⟩, .slice none 0 0, .int .u8 0, .int .u64 0, .string ⟨#[]⟩, .slice none 0 0, .slice none 0 0] 52
 go_upto_region 3 with fail
 rw [← hab, ← hav]
 have hZ3 := hZ2.below hB3
 have hB03 := hB02.trans (hB3.mono hB02.size)
 have hR3 := hR.below hB3
 have hzl2 := hZ2.lt
 have hza : zb < ab := by omega
 have hab2 : w2.heap.size ≤ ab := by omega
 have hoa : ob < ab := by have := hR.lt; omega
 have hF3 : ∀ g, (w1.heap.size ≤ g ∧ g < w2.heap.size) → g ≠ ab ∧ g ≠ zb := fun g hg => by omega
 clear hab hav hZ2 hB02 hR hB3
 have hwd := rargw_any 110 1 rfl w3
 have hnm := qnum_any hR3 1 (by omega) (by omega)
 have hlt := mnum_lt l false 1
 have hlen := mnum_len l false 1
 have HT := Lib.hid (num_take 110 1 (by omega) (fun _ => rfl) (fun a h => num_ok h) l)
 rw [show ((110 : Nat) : Int) = 110 from rfl, show ((1 : Nat) : Int) = 1 from rfl] at hwd
 rw [show ((1 : Nat) : Int) = 1 from rfl] at HT
 obtain ⟨T, hT⟩ : ∃ t, t = mnum l false 1 := ⟨_, rfl⟩
 rw [← hT] at hnm hlt hlen HT
 obtain ⟨x, l2, b2⟩ := T
 simp only at hnm hlt hlen
 clear hT
 go_wp2_with (with_reducible refine h_A ?_)
 refine hwd.mono ?_
 rintro e w4 ⟨rfl, rfl⟩
 clear hwd
 go_wp2_with (with_reducible refine h_A ?_)
 refine hnm.mono ?_
 rintro e w4 ⟨rfl, hR4, hg4⟩
 have hX4 := hX.grown hg4 (sne (by omega))
 have hZ4 := hZ3.grown hg4 (sne (by omega))
 have hB04 := hB03.grown hg4 hB03.size (fun g hg => by injection hg with hg; omega)
 clear hnm hX hZ3 hR3 hg4 hB03
 try simp only at hR4
 go_wp2_with (with_reducible refine h_B ?_)
 refine unhold (wp_box (v := .int .u64 (x : Int)) (vs := [.int .u64 (x : Int)]) rfl rfl rfl rfl hX4 rfl (by kernel_rfl) (by simp) (by simp; rfl) #[.bool false, .int .u64 (x : Int), .string ⟨#[]⟩, .int .u32 0, .string ⟨#[]⟩, .string ⟨#[]⟩, .slice none 0 0, .int .u8 0, .int .u64 0, .string ⟨#[]⟩, .slice none 0 0, .slice none 0 0] (by simp) ?_)
 intro w5 hX5 hg5 _
 have hR5 := hR4.kept hg5 (fun g hg hFg => by injection hg with hg; have := hF3 g hFg; omega)
 have hZ5 := hZ4.grown hg5 (sne (by omega))
 have hB05 := hB04.grown hg5 hB04.size (fun g hg => by injection hg with hg; omega)
 clear hX4 hZ4 hR4 hg5 hB04
 obtain ⟨A2, c2, hq0, hqx⟩ := hR5.rdx
 have hl2 := hR5.len
 go_upto_region 9 with fail
 refine rg_start (fun W : World => Box W ab 52 #[.bool false, .int .u64 (x : Int), .string ⟨#[]⟩, .int .u32 0, .string ⟨#[]⟩, .string ⟨#[]⟩, .slice none 0 0, .int .u8 0, .int .u64 0, .string ⟨#[]⟩, .slice none 0 0, .slice none 0 0] ∧ W.cell? ⟨ob, 0, none⟩ = some (.slice A2 l2.length c2)) (by kernel_rfl) ?_
 have hS : Box w5.drew ab 52 #[.bool false, .int .u64 (x : Int), .string ⟨#[]⟩, .int .u32 0, .string ⟨#[]⟩, .string ⟨#[]⟩, .slice none 0 0, .int .u8 0, .int .u64 0, .string ⟨#[]⟩, .slice none 0 0, .slice none 0 0] ∧ w5.drew.cell? ⟨ob, 0, none⟩ = some (.slice A2 l2.length c2) := ⟨hX5, hq0⟩
 replace hqx : RdX w5.drew (fun g => w1.heap.size ≤ g ∧ g < w2.heap.size) 1 A2 l2.length c2 (l2.map u8v) := hqx.keep (fun g hg => rfl) (Nat.le_refl _)
 replace hB05 := below_drewN hB05 1
 replace hZ5 : Box w5.drew zb 52 #[.bool false, .int .u64 0, .string ⟨#[]⟩, .int .u32 0, .string ⟨#[]⟩, .string ⟨#[]⟩, .slice none 0 0, .int .u8 0, .int .u64 0, .string ⟨#[]⟩, .slice none 0 0, .slice none 0 0] := hZ5
 have hB05 : Below w.heap.size w w5.drew := hB05
 clear hX5 hR5 hq0
 generalize w5.drew = wd at *
 refine rg_take 0 (v := ?_) rfl (by kernel_rfl) (by kernel_rfl) (by kernel_rfl) hS rfl ?_ ?_
 rotate_left
 ·intro wS hSw; have y0 := hSw.1.cell (j := 0) rfl; have y1 := hSw.1.cell (j := 1) rfl; have y2 := hSw.1.cell (j := 2) rfl; have y3 := hSw.1.cell (j := 3) rfl; have y4 := hSw.1.cell (j := 4) rfl; have y5 := hSw.1.cell (j := 5) rfl; have y6 := hSw.1.cell (j := 6) rfl; have y7 := hSw.1.cell (j := 7) rfl; have y8 := hSw.1.cell (j := 8) rfl; have y9 := hSw.1.cell (j := 9) rfl; have yA := hSw.1.cell (j := 10) rfl; have yB := hSw.1.cell (j := 11) rfl; go_simp; (with_reducible rfl)
 simp only [List.getElem_toArray, List.getElem_cons_zero, Act.put, List.setIfInBounds_toArray, List.set_cons_zero, List.set_cons_succ]
 refine rg_t 1 hS ?_
 simp only [g_S, Act.put]
 refine rg_t 2 hS ?_
 simp only [g_S, Act.put]
 refine rg_t 3 hS ?_
 simp only [g_S, Act.put]
 refine rg_take 4 (v := ?_) rfl (by kernel_rfl) (by kernel_rfl) (by kernel_rfl) hS rfl ?_ ?_
 rotate_left
 ·intro wS hSw; have y0 := hSw.2; go_simp; (with_reducible rfl)
 simp only [g_S, Act.put]
 refine rg_one 5 rfl (by kernel_rfl) rfl (fun K hK => ?_)
 refine op_box (g := zb) (j := 0) (v := .agg #[.bool false, .int .u64 (x : Int), .string ⟨#[]⟩, .int .u32 0, .string ⟨#[]⟩, .string ⟨#[]⟩, .slice none 0 0, .int .u8 0, .int .u64 0, .string ⟨#[]⟩, .slice none 0 0, .slice none 0 0]) (vs := (#[.bool false, .int .u64 (x : Int), .string ⟨#[]⟩, .int .u32 0, .string ⟨#[]⟩, .string ⟨#[]⟩, .slice none 0 0, .int .u8 0, .int .u64 0, .string ⟨#[]⟩, .slice none 0 0, .slice none 0 0]).toList) rfl rfl rfl hZ5 rfl (by kernel_rfl) (by simp) sl_one #[.bool false, .int .u64 (x : Int), .string ⟨#[]⟩, .int .u32 0, .string ⟨#[]⟩, .string ⟨#[]⟩, .slice none 0 0, .int .u8 0, .int .u64 0, .string ⟨#[]⟩, .slice none 0 0, .slice none 0 0] (by simp) ?_
 intro we hZe hge _
 have hS2 : Box we ab 52 #[.bool false, .int .u64 (x : Int), .string ⟨#[]⟩, .int .u32 0, .string ⟨#[]⟩, .string ⟨#[]⟩, .slice none 0 0, .int .u8 0, .int .u64 0, .string ⟨#[]⟩, .slice none 0 0, .slice none 0 0] ∧ we.cell? ⟨ob, 0, none⟩ = some (.slice A2 l2.length c2) := ⟨hS.1.grown hge (sne (by omega)), hge.cell hS.2 (by intro e; have e2 : ob = zb := (by simpa using e); omega)⟩
 have hBe := hB05.grown hge hB05.size (fun g hg => by injection hg with hg; omega)
 have hqe := hqx.keep (w' := we) (fun g hg => hge.block g (by have := hB05.size; have := hS.1.lt; omega) (by intro e; injection e with e; have := hF3 g hg; omega)) hge.size
 refine hK _ _ hS2 ?_; clear hK K
 try simp only [g_S, Act.put]
 refine rg_t 6 hS2 ?_
 simp only [g_S, Act.put]
 refine rg_end (by kernel_rfl) ?_
 go_wp2_with (with_reducible refine h_A ?_)
 refine ret_box_tmp rfl hZe rfl rfl Tryz.underlying52 rfl (by kernel_rfl) rfl ?_
 refine ⟨⟨false, x, [], xd0, [], vl0⟩, ah0, A2, l2.length, c2, l2, rfl, ⟨hlt, (RA.zero we (FN w.heap.size we) true).s, (RA.zero we (FN w.heap.size we) true).x, (RA.zero we (FN w.heap.size we) true).q, (RA.zero we (FN w.heap.size we) true).ok, (RA.zero we (FN w.heap.size we) true).c, (RA.zero we (FN w.heap.size we) true).v⟩, hqe.mono (fun g hg => .inr ⟨by omega, by have := hB05.size; have := hge.size; have := hS.1.lt; omega⟩), by omega, hBe, rfl, HT.out⟩
set_option maxRecDepth 20000 in
set_option maxHeartbeats 2000000 in
theorem rtake_119 {F : Nat → Prop} (A : Option Addr) (n c : Nat) (l : List UInt8) (w : World) (hr : RdX w F 1 A n c (l.map u8v)) (hF : ∀ g, F g → g < w.heap.size) (hn : n ≤ 100000000) :
  Calls Tryz.prog 24 #[.int .u8 119, .slice A n c] w (TakeR w F 119 l) := by
 obtain ⟨zb, w1, hzb, hzv, hZ, hB1⟩ := alloc_stepV w #[.bool false, .int .u64 0, .string ⟨#[]⟩, .int .u32 0, .string ⟨#[]⟩, .string ⟨#[]⟩, .slice none 0 0, .int .u8 0, .int .u64 0, .string ⟨#[]⟩, .slice none 0 0, .slice none 0 0] 52
 have hln : l.length = n := RdB.length (show RdB w w.heap.size A n c l from hr.1)
 have hrb : RdB w w.heap.size A n c l := hr.1
 have hop := qopen_any A n c l w1 (rd_wide (hrb.below hB1) hB1.size) (by omega)
 have hzw : w.heap.size ≤ zb := by omega
 go_enter Tryz.func24, Tryz.ntmps24
 go_upto_region 1 with fail
 rw [← hzb, ← hzv]
 clear hzb hzv
 go_wp2_with (with_reducible refine h_A ?_)
 refine hop.mono ?_
 rintro e w2 ⟨ob, rfl, hob, hR, hB2⟩
 have hZ2 := hZ.below hB2
 have hB02 := hB1.trans (hB2.mono hB1.size)
 have hs1 := hB1.size
 have hzl := hZ.lt
 clear hop hZ hB1 hB2
 obtain ⟨ab, w3, hab, hav, hX, hB3⟩ := alloc_stepV w2 #[.bool false, .int .u64 0, .string ⟨#[]⟩, .int .u32 0, .string ⟨#[]⟩, .string ⟨#[]⟩, .slice none 0 0, .int .u8 0, .int .u64 0, .string ⟨#[]⟩, .slice none 0 0, .slice none 0 0] 52
 go_upto_region 3 with fail
 rw [← hab, ← hav]
 have hZ3 := hZ2.below hB3
 have hB03 := hB02.trans (hB3.mono hB02.size)
 have hR3 := hR.below hB3
 have hzl2 := hZ2.lt
 have hza : zb < ab := by omega
 have hab2 : w2.heap.size ≤ ab := by omega
 have hoa : ob < ab := by have := hR.lt; omega
 have hF3 : ∀ g, (w1.heap.size ≤ g ∧ g < w2.heap.size) → g ≠ ab ∧ g ≠ zb := fun g hg => by omega
 clear hab hav hZ2 hB02 hR hB3
 have hwd := rargw_any 119 2 rfl w3
 have hnm := qnum_any hR3 2 (by omega) (by omega)
 have hlt := mnum_lt l false 2
 have hlen := mnum_len l false 2
 have HT := Lib.hid (num_take 119 2 (by omega) (fun _ => rfl) (fun a h => num_ok h) l)
 rw [show ((119 : Nat) : Int) = 119 from rfl, show ((2 : Nat) : Int) = 2 from rfl] at hwd
 rw [show ((2 : Nat) : Int) = 2 from rfl] at HT
 obtain ⟨T, hT⟩ : ∃ t, t = mnum l false 2 := ⟨_, rfl⟩
 rw [← hT] at hnm hlt hlen HT
 obtain ⟨x, l2, b2⟩ := T
 simp only at hnm hlt hlen
 clear hT
 go_wp2_with (with_reducible refine h_A ?_)
 refine hwd.mono ?_
 rintro e w4 ⟨rfl, rfl⟩
 clear hwd
 go_wp2_with (with_reducible refine h_A ?_)
 refine hnm.mono ?_
 rintro e w4 ⟨rfl, hR4, hg4⟩
 have hX4 := hX.grown hg4 (sne (by omega))
 have hZ4 := hZ3.grown hg4 (sne (by omega))
 have hB04 := hB03.grown hg4 hB03.size (fun g hg => by injection hg with hg; omega)
 clear hnm hX hZ3 hR3 hg4 hB03
 try simp only at hR4
 go_wp2_with (with_reducible refine h_B ?_)
 refine unhold (wp_box (v := .int .u64 (x : Int)) (vs := [.int .u64 (x : Int)]) rfl rfl rfl rfl hX4 rfl (by kernel_rfl) (by simp) (by simp; rfl) #[.bool false, .int .u64 (x : Int), .string ⟨#[]⟩, .int .u32 0, .string ⟨#[]⟩, .string ⟨#[]⟩, .slice none 0 0, .int .u8 0, .int .u64 0, .string ⟨#[]⟩, .slice none 0 0, .slice none 0 0] (by simp) ?_)
 intro w5 hX5 hg5 _
 have hR5 := hR4.kept hg5 (fun g hg hFg => by injection hg with hg; have := hF3 g hFg; omega)
 have hZ5 := hZ4.grown hg5 (sne (by omega))
 have hB05 := hB04.grown hg5 hB04.size (fun g hg => by injection hg with hg; omega)
 clear hX4 hZ4 hR4 hg5 hB04
 obtain ⟨A2, c2, hq0, hqx⟩ := hR5.rdx
 have hl2 := hR5.len
 go_upto_region 9 with fail
 refine rg_start (fun W : World => Box W ab 52 #[.bool false, .int .u64 (x : Int), .string ⟨#[]⟩, .int .u32 0, .string ⟨#[]⟩, .string ⟨#[]⟩, .slice none 0 0, .int .u8 0, .int .u64 0, .string ⟨#[]⟩, .slice none 0 0, .slice none 0 0] ∧ W.cell? ⟨ob, 0, none⟩ = some (.slice A2 l2.length c2)) (by kernel_rfl) ?_
 have hS : Box w5.drew ab 52 #[.bool false, .int .u64 (x : Int), .string ⟨#[]⟩, .int .u32 0, .string ⟨#[]⟩, .string ⟨#[]⟩, .slice none 0 0, .int .u8 0, .int .u64 0, .string ⟨#[]⟩, .slice none 0 0, .slice none 0 0] ∧ w5.drew.cell? ⟨ob, 0, none⟩ = some (.slice A2 l2.length c2) := ⟨hX5, hq0⟩
 replace hqx : RdX w5.drew (fun g => w1.heap.size ≤ g ∧ g < w2.heap.size) 1 A2 l2.length c2 (l2.map u8v) := hqx.keep (fun g hg => rfl) (Nat.le_refl _)
 replace hB05 := below_drewN hB05 1
 replace hZ5 : Box w5.drew zb 52 #[.bool false, .int .u64 0, .string ⟨#[]⟩, .int .u32 0, .string ⟨#[]⟩, .string ⟨#[]⟩, .slice none 0 0, .int .u8 0, .int .u64 0, .string ⟨#[]⟩, .slice none 0 0, .slice none 0 0] := hZ5
 have hB05 : Below w.heap.size w w5.drew := hB05
 clear hX5 hR5 hq0
 generalize w5.drew = wd at *
 refine rg_take 0 (v := ?_) rfl (by kernel_rfl) (by kernel_rfl) (by kernel_rfl) hS rfl ?_ ?_
 rotate_left
 ·intro wS hSw; have y0 := hSw.1.cell (j := 0) rfl; have y1 := hSw.1.cell (j := 1) rfl; have y2 := hSw.1.cell (j := 2) rfl; have y3 := hSw.1.cell (j := 3) rfl; have y4 := hSw.1.cell (j := 4) rfl; have y5 := hSw.1.cell (j := 5) rfl; have y6 := hSw.1.cell (j := 6) rfl; have y7 := hSw.1.cell (j := 7) rfl; have y8 := hSw.1.cell (j := 8) rfl; have y9 := hSw.1.cell (j := 9) rfl; have yA := hSw.1.cell (j := 10) rfl; have yB := hSw.1.cell (j := 11) rfl; go_simp; (with_reducible rfl)
 simp only [List.getElem_toArray, List.getElem_cons_zero, Act.put, List.setIfInBounds_toArray, List.set_cons_zero, List.set_cons_succ]
 refine rg_t 1 hS ?_
 simp only [g_S, Act.put]
 refine rg_t 2 hS ?_
 simp only [g_S, Act.put]
 refine rg_t 3 hS ?_
 simp only [g_S, Act.put]
 refine rg_take 4 (v := ?_) rfl (by kernel_rfl) (by kernel_rfl) (by kernel_rfl) hS rfl ?_ ?_
 rotate_left
 ·intro wS hSw; have y0 := hSw.2; go_simp; (with_reducible rfl)
 simp only [g_S, Act.put]
 refine rg_one 5 rfl (by kernel_rfl) rfl (fun K hK => ?_)
 refine op_box (g := zb) (j := 0) (v := .agg #[.bool false, .int .u64 (x : Int), .string ⟨#[]⟩, .int .u32 0, .string ⟨#[]⟩, .string ⟨#[]⟩, .slice none 0 0, .int .u8 0, .int .u64 0, .string ⟨#[]⟩, .slice none 0 0, .slice none 0 0]) (vs := (#[.bool false, .int .u64 (x : Int), .string ⟨#[]⟩, .int .u32 0, .string ⟨#[]⟩, .string ⟨#[]⟩, .slice none 0 0, .int .u8 0, .int .u64 0, .string ⟨#[]⟩, .slice none 0 0, .slice none 0 0]).toList) rfl rfl rfl hZ5 rfl (by kernel_rfl) (by simp) sl_one #[.bool false, .int .u64 (x : Int), .string ⟨#[]⟩, .int .u32 0, .string ⟨#[]⟩, .string ⟨#[]⟩, .slice none 0 0, .int .u8 0, .int .u64 0, .string ⟨#[]⟩, .slice none 0 0, .slice none 0 0] (by simp) ?_
 intro we hZe hge _
 have hS2 : Box we ab 52 #[.bool false, .int .u64 (x : Int), .string ⟨#[]⟩, .int .u32 0, .string ⟨#[]⟩, .string ⟨#[]⟩, .slice none 0 0, .int .u8 0, .int .u64 0, .string ⟨#[]⟩, .slice none 0 0, .slice none 0 0] ∧ we.cell? ⟨ob, 0, none⟩ = some (.slice A2 l2.length c2) := ⟨hS.1.grown hge (sne (by omega)), hge.cell hS.2 (by intro e; have e2 : ob = zb := (by simpa using e); omega)⟩
 have hBe := hB05.grown hge hB05.size (fun g hg => by injection hg with hg; omega)
 have hqe := hqx.keep (w' := we) (fun g hg => hge.block g (by have := hB05.size; have := hS.1.lt; omega) (by intro e; injection e with e; have := hF3 g hg; omega)) hge.size
 refine hK _ _ hS2 ?_; clear hK K
 try simp only [g_S, Act.put]
 refine rg_t 6 hS2 ?_
 simp only [g_S, Act.put]
 refine rg_end (by kernel_rfl) ?_
 go_wp2_with (with_reducible refine h_A ?_)
 refine ret_box_tmp rfl hZe rfl rfl Tryz.underlying52 rfl (by kernel_rfl) rfl ?_
 refine ⟨⟨false, x, [], xd0, [], vl0⟩, ah0, A2, l2.length, c2, l2, rfl, ⟨hlt, (RA.zero we (FN w.heap.size we) true).s, (RA.zero we (FN w.heap.size we) true).x, (RA.zero we (FN w.heap.size we) true).q, (RA.zero we (FN w.heap.size we) true).ok, (RA.zero we (FN w.heap.size we) true).c, (RA.zero we (FN w.heap.size we) true).v⟩, hqe.mono (fun g hg => .inr ⟨by omega, by have := hB05.size; have := hge.size; have := hS.1.lt; omega⟩), by omega, hBe, rfl, HT.out⟩
set_option maxRecDepth 20000 in
set_option maxHeartbeats 2000000 in
theorem rtake_100 {F : Nat → Prop} (A : Option Addr) (n c : Nat) (l : List UInt8) (w : World) (hr : RdX w F 1 A n c (l.map u8v)) (hF : ∀ g, F g → g < w.heap.size) (hn : n ≤ 100000000) :
  Calls Tryz.prog 24 #[.int .u8 100, .slice A n c] w (TakeR w F 100 l) := by
 obtain ⟨zb, w1, hzb, hzv, hZ, hB1⟩ := alloc_stepV w #[.bool false, .int .u64 0, .string ⟨#[]⟩, .int .u32 0, .string ⟨#[]⟩, .string ⟨#[]⟩, .slice none 0 0, .int .u8 0, .int .u64 0, .string ⟨#[]⟩, .slice none 0 0, .slice none 0 0] 52
 have hln : l.length = n := RdB.length (show RdB w w.heap.size A n c l from hr.1)
 have hrb : RdB w w.heap.size A n c l := hr.1
 have hop := qopen_any A n c l w1 (rd_wide (hrb.below hB1) hB1.size) (by omega)
 have hzw : w.heap.size ≤ zb := by omega
 go_enter Tryz.func24, Tryz.ntmps24
 go_upto_region 1 with fail
 rw [← hzb, ← hzv]
 clear hzb hzv
 go_wp2_with (with_reducible refine h_A ?_)
 refine hop.mono ?_
 rintro e w2 ⟨ob, rfl, hob, hR, hB2⟩
 have hZ2 := hZ.below hB2
 have hB02 := hB1.trans (hB2.mono hB1.size)
 have hs1 := hB1.size
 have hzl := hZ.lt
 clear hop hZ hB1 hB2
 obtain ⟨ab, w3, hab, hav, hX, hB3⟩ := alloc_stepV w2 #[.bool false, .int .u64 0, .string ⟨#[]⟩, .int .u32 0, .string ⟨#[]⟩, .string ⟨#[]⟩, .slice none 0 0, .int .u8 0, .int .u64 0, .string ⟨#[]⟩, .slice none 0 0, .slice none 0 0] 52
 go_upto_region 3 with fail
 rw [← hab, ← hav]
 have hZ3 := hZ2.below hB3
 have hB03 := hB02.trans (hB3.mono hB02.size)
 have hR3 := hR.below hB3
 have hzl2 := hZ2.lt
 have hza : zb < ab := by omega
 have hab2 : w2.heap.size ≤ ab := by omega
 have hoa : ob < ab := by have := hR.lt; omega
 have hF3 : ∀ g, (w1.heap.size ≤ g ∧ g < w2.heap.size) → g ≠ ab ∧ g ≠ zb := fun g hg => by omega
 clear hab hav hZ2 hB02 hR hB3
 have hwd := rargw_any 100 4 rfl w3
 have hnm := qnum_any hR3 4 (by omega) (by omega)
 have hlt := mnum_lt l false 4
 have hlen := mnum_len l false 4
 have HT := Lib.hid (num_take 100 4 (by omega) (fun _ => rfl) (fun a h => num_ok h) l)
 rw [show ((100 : Nat) : Int) = 100 from rfl, show ((4 : Nat) : Int) = 4 from rfl] at hwd
 rw [show ((4 : Nat) : Int) = 4 from rfl] at HT
 obtain ⟨T, hT⟩ : ∃ t, t = mnum l false 4 := ⟨_, rfl⟩
 rw [← hT] at hnm hlt hlen HT
 obtain ⟨x, l2, b2⟩ := T
 simp only at hnm hlt hlen
 clear hT
 go_wp2_with (with_reducible refine h_A ?_)
 refine hwd.mono ?_
 rintro e w4 ⟨rfl, rfl⟩
 clear hwd
 go_wp2_with (with_reducible refine h_A ?_)
 refine hnm.mono ?_
 rintro e w4 ⟨rfl, hR4, hg4⟩
 have hX4 := hX.grown hg4 (sne (by omega))
 have hZ4 := hZ3.grown hg4 (sne (by omega))
 have hB04 := hB03.grown hg4 hB03.size (fun g hg => by injection hg with hg; omega)
 clear hnm hX hZ3 hR3 hg4 hB03
 try simp only at hR4
 go_wp2_with (with_reducible refine h_B ?_)
 refine unhold (wp_box (v := .int .u64 (x : Int)) (vs := [.int .u64 (x : Int)]) rfl rfl rfl rfl hX4 rfl (by kernel_rfl) (by simp) (by simp; rfl) #[.bool false, .int .u64 (x : Int), .string ⟨#[]⟩, .int .u32 0, .string ⟨#[]⟩, .string ⟨#[]⟩, .slice none 0 0, .int .u8 0, .int .u64 0, .string ⟨#[]⟩, .slice none 0 0, .slice none 0 0] (by simp) ?_)
 intro w5 hX5 hg5 _
 have hR5 := hR4.kept hg5 (fun g hg hFg => by injection hg with hg; have := hF3 g hFg; omega)
 have hZ5 := hZ4.grown hg5 (sne (by omega))
 have hB05 := hB04.grown hg5 hB04.size (fun g hg => by injection hg with hg; omega)
 clear hX4 hZ4 hR4 hg5 hB04
 obtain ⟨A2, c2, hq0, hqx⟩ := hR5.rdx
 have hl2 := hR5.len
 go_upto_region 9 with fail
 refine rg_start (fun W : World => Box W ab 52 #[.bool false, .int .u64 (x : Int), .string ⟨#[]⟩, .int .u32 0, .string ⟨#[]⟩, .string ⟨#[]⟩, .slice none 0 0, .int .u8 0, .int .u64 0, .string ⟨#[]⟩, .slice none 0 0, .slice none 0 0] ∧ W.cell? ⟨ob, 0, none⟩ = some (.slice A2 l2.length c2)) (by kernel_rfl) ?_
 have hS : Box w5.drew ab 52 #[.bool false, .int .u64 (x : Int), .string ⟨#[]⟩, .int .u32 0, .string ⟨#[]⟩, .string ⟨#[]⟩, .slice none 0 0, .int .u8 0, .int .u64 0, .string ⟨#[]⟩, .slice none 0 0, .slice none 0 0] ∧ w5.drew.cell? ⟨ob, 0, none⟩ = some (.slice A2 l2.length c2) := ⟨hX5, hq0⟩
 replace hqx : RdX w5.drew (fun g => w1.heap.size ≤ g ∧ g < w2.heap.size) 1 A2 l2.length c2 (l2.map u8v) := hqx.keep (fun g hg => rfl) (Nat.le_refl _)
 replace hB05 := below_drewN hB05 1
 replace hZ5 : Box w5.drew zb 52 #[.bool false, .int .u64 0, .string ⟨#[]⟩, .int .u32 0, .string ⟨#[]⟩, .string ⟨#[]⟩, .slice none 0 0, .int .u8 0, .int .u64 0, .string ⟨#[]⟩, .slice none 0 0, .slice none 0 0] := hZ5
 have hB05 : Below w.heap.size w w5.drew := hB05
 clear hX5 hR5 hq0
 generalize w5.drew = wd at *
 refine rg_take 0 (v := ?_) rfl (by kernel_rfl) (by kernel_rfl) (by kernel_rfl) hS rfl ?_ ?_
 rotate_left
 ·intro wS hSw; have y0 := hSw.1.cell (j := 0) rfl; have y1 := hSw.1.cell (j := 1) rfl; have y2 := hSw.1.cell (j := 2) rfl; have y3 := hSw.1.cell (j := 3) rfl; have y4 := hSw.1.cell (j := 4) rfl; have y5 := hSw.1.cell (j := 5) rfl; have y6 := hSw.1.cell (j := 6) rfl; have y7 := hSw.1.cell (j := 7) rfl; have y8 := hSw.1.cell (j := 8) rfl; have y9 := hSw.1.cell (j := 9) rfl; have yA := hSw.1.cell (j := 10) rfl; have yB := hSw.1.cell (j := 11) rfl; go_simp; (with_reducible rfl)
 simp only [List.getElem_toArray, List.getElem_cons_zero, Act.put, List.setIfInBounds_toArray, List.set_cons_zero, List.set_cons_succ]
 refine rg_t 1 hS ?_
 simp only [g_S, Act.put]
 refine rg_t 2 hS ?_
 simp only [g_S, Act.put]
 refine rg_t 3 hS ?_
 simp only [g_S, Act.put]
 refine rg_take 4 (v := ?_) rfl (by kernel_rfl) (by kernel_rfl) (by kernel_rfl) hS rfl ?_ ?_
 rotate_left
 ·intro wS hSw; have y0 := hSw.2; go_simp; (with_reducible rfl)
 simp only [g_S, Act.put]
 refine rg_one 5 rfl (by kernel_rfl) rfl (fun K hK => ?_)
 refine op_box (g := zb) (j := 0) (v := .agg #[.bool false, .int .u64 (x : Int), .string ⟨#[]⟩, .int .u32 0, .string ⟨#[]⟩, .string ⟨#[]⟩, .slice none 0 0, .int .u8 0, .int .u64 0, .string ⟨#[]⟩, .slice none 0 0, .slice none 0 0]) (vs := (#[.bool false, .int .u64 (x : Int), .string ⟨#[]⟩, .int .u32 0, .string ⟨#[]⟩, .string ⟨#[]⟩, .slice none 0 0, .int .u8 0, .int .u64 0, .string ⟨#[]⟩, .slice none 0 0, .slice none 0 0]).toList) rfl rfl rfl hZ5 rfl (by kernel_rfl) (by simp) sl_one #[.bool false, .int .u64 (x : Int), .string ⟨#[]⟩, .int .u32 0, .string ⟨#[]⟩, .string ⟨#[]⟩, .slice none 0 0, .int .u8 0, .int .u64 0, .string ⟨#[]⟩, .slice none 0 0, .slice none 0 0] (by simp) ?_
 intro we hZe hge _
 have hS2 : Box we ab 52 #[.bool false, .int .u64 (x : Int), .string ⟨#[]⟩, .int .u32 0, .string ⟨#[]⟩, .string ⟨#[]⟩, .slice none 0 0, .int .u8 0, .int .u64 0, .string ⟨#[]⟩, .slice none 0 0, .slice none 0 0] ∧ we.cell? ⟨ob, 0, none⟩ = some (.slice A2 l2.length c2) := ⟨hS.1.grown hge (sne (by omega)), hge.cell hS.2 (by intro e; have e2 : ob = zb := (by simpa using e); omega)⟩
 have hBe := hB05.grown hge hB05.size (fun g hg => by injection hg with hg; omega)
 have hqe := hqx.keep (w' := we) (fun g hg => hge.block g (by have := hB05.size; have := hS.1.lt; omega) (by intro e; injection e with e; have := hF3 g hg; omega)) hge.size
 refine hK _ _ hS2 ?_; clear hK K
 try simp only [g_S, Act.put]
 refine rg_t 6 hS2 ?_
 simp only [g_S, Act.put]
 refine rg_end (by kernel_rfl) ?_
 go_wp2_with (with_reducible refine h_A ?_)
 refine ret_box_tmp rfl hZe rfl rfl Tryz.underlying52 rfl (by kernel_rfl) rfl ?_
 refine ⟨⟨false, x, [], xd0, [], vl0⟩, ah0, A2, l2.length, c2, l2, rfl, ⟨hlt, (RA.zero we (FN w.heap.size we) true).s, (RA.zero we (FN w.heap.size we) true).x, (RA.zero we (FN w.heap.size we) true).q, (RA.zero we (FN w.heap.size we) true).ok, (RA.zero we (FN w.heap.size we) true).c, (RA.zero we (FN w.heap.size we) true).v⟩, hqe.mono (fun g hg => .inr ⟨by omega, by have := hB05.size; have := hge.size; have := hS.1.lt; omega⟩), by omega, hBe, rfl, HT.out⟩
set_option maxRecDepth 20000 in
set_option maxHeartbeats 2000000 in
theorem rtake_115 {F : Nat → Prop} (A : Option Addr) (n c : Nat) (l : List UInt8) (w : World) (hr : RdX w F 1 A n c (l.map u8v)) (hF : ∀ g, F g → g < w.heap.size) (hn : n ≤ 100000000) :
  Calls Tryz.prog 24 #[.int .u8 115, .slice A n c] w (TakeR w F 115 l) := by
 obtain ⟨zb, w1, hzb, hzv, hZ, hB1⟩ := alloc_stepV w #[.bool false, .int .u64 0, .string ⟨#[]⟩, .int .u32 0, .string ⟨#[]⟩, .string ⟨#[]⟩, .slice none 0 0, .int .u8 0, .int .u64 0, .string ⟨#[]⟩, .slice none 0 0, .slice none 0 0] 52
 have hln : l.length = n := RdB.length (show RdB w w.heap.size A n c l from hr.1)
 have hrb : RdB w w.heap.size A n c l := hr.1
 have hop := qopen_any A n c l w1 (rd_wide (hrb.below hB1) hB1.size) (by omega)
 have hzw : w.heap.size ≤ zb := by omega
 go_enter Tryz.func24, Tryz.ntmps24
 go_upto_region 1 with fail
 rw [← hzb, ← hzv]
 clear hzb hzv
 go_wp2_with (with_reducible refine h_A ?_)
 refine hop.mono ?_
 rintro e w2 ⟨ob, rfl, hob, hR, hB2⟩
 have hZ2 := hZ.below hB2
 have hB02 := hB1.trans (hB2.mono hB1.size)
 have hs1 := hB1.size
 have hzl := hZ.lt
 clear hop hZ hB1 hB2
 obtain ⟨ab, w3, hab, hav, hX, hB3⟩ := alloc_stepV w2 #[.bool false, .int .u64 0, .string ⟨#[]⟩, .int .u32 0, .string ⟨#[]⟩, .string ⟨#[]⟩, .slice none 0 0, .int .u8 0, .int .u64 0, .string ⟨#[]⟩, .slice none 0 0, .slice none 0 0] 52
 go_upto_region 3 with fail
 rw [← hab, ← hav]
 have hZ3 := hZ2.below hB3
 have hB03 := hB02.trans (hB3.mono hB02.size)
 have hR3 := hR.below hB3
 have hzl2 := hZ2.lt
 have hza : zb < ab := by omega
 have hab2 : w2.heap.size ≤ ab := by omega
 have hoa : ob < ab := by have := hR.lt; omega
 have hF3 : ∀ g, (w1.heap.size ≤ g ∧ g < w2.heap.size) → g ≠ ab ∧ g ≠ zb := fun g hg => by omega
 clear hab hav hZ2 hB02 hR hB3
 have hwd := rargw_any 115 1 rfl w3
 have hnm := qtext_any hR3 1 65535 (by omega) (by omega) (by omega) (by omega)
 have hlt := mtext_slen l false 1 65535
 have hlen := mtext_len l false 1 65535
 have HT := Lib.hid (txt_take 115 1 (by omega) (fun _ => rfl) (fun a h => txt_ok h) l)
 rw [show ((115 : Nat) : Int) = 115 from rfl, show ((1 : Nat) : Int) = 1 from rfl] at hwd
 rw [show ((1 : Nat) : Int) = 1 from rfl] at HT
 rw [show ((65535 : Nat) : Int) = 65535 from rfl] at hlt
 obtain ⟨T, hT⟩ : ∃ t, t = mtext l false 1 65535 := ⟨_, rfl⟩
 rw [← hT] at hnm hlt hlen HT
 obtain ⟨x, l2, b2⟩ := T
 simp only at hnm hlt hlen
 clear hT
 go_wp2_with (with_reducible refine h_A ?_)
 refine hwd.mono ?_
 rintro e w4 ⟨rfl, rfl⟩
 clear hwd
 go_wp2_with (with_reducible refine h_A ?_)
 refine hnm.mono ?_
 rintro e w4 ⟨rfl, hR4, hg4⟩
 have hX4 := hX.grown hg4 (sne (by omega))
 have hZ4 := hZ3.grown hg4 (sne (by omega))
 have hB04 := hB03.grown hg4 hB03.size (fun g hg => by injection hg with hg; omega)
 clear hnm hX hZ3 hR3 hg4 hB03
 try simp only at hR4
 go_wp2_with (with_reducible refine h_B ?_)
 refine unhold (wp_box (v := .string (str x)) (vs := [.string (str x)]) rfl rfl rfl rfl hX4 rfl (by kernel_rfl) (by simp) (by simp; rfl) #[.bool false, .int .u64 0, .string (str x), .int .u32 0, .string ⟨#[]⟩, .string ⟨#[]⟩, .slice none 0 0, .int .u8 0, .int .u64 0, .string ⟨#[]⟩, .slice none 0 0, .slice none 0 0] (by simp) ?_)
 intro w5 hX5 hg5 _
 have hR5 := hR4.kept hg5 (fun g hg hFg => by injection hg with hg; have := hF3 g hFg; omega)
 have hZ5 := hZ4.grown hg5 (sne (by omega))
 have hB05 := hB04.grown hg5 hB04.size (fun g hg => by injection hg with hg; omega)
 clear hX4 hZ4 hR4 hg5 hB04
 obtain ⟨A2, c2, hq0, hqx⟩ := hR5.rdx
 have hl2 := hR5.len
 go_upto_region 13 with fail
 refine rg_start (fun W : World => Box W ab 52 #[.bool false, .int .u64 0, .string (str x), .int .u32 0, .string ⟨#[]⟩, .string ⟨#[]⟩, .slice none 0 0, .int .u8 0, .int .u64 0, .string ⟨#[]⟩, .slice none 0 0, .slice none 0 0] ∧ W.cell? ⟨ob, 0, none⟩ = some (.slice A2 l2.length c2)) (by kernel_rfl) ?_
 have hS : Box w5.drew ab 52 #[.bool false, .int .u64 0, .string (str x), .int .u32 0, .string ⟨#[]⟩, .string ⟨#[]⟩, .slice none 0 0, .int .u8 0, .int .u64 0, .string ⟨#[]⟩, .slice none 0 0, .slice none 0 0] ∧ w5.drew.cell? ⟨ob, 0, none⟩ = some (.slice A2 l2.length c2) := ⟨hX5, hq0⟩
 replace hqx : RdX w5.drew (fun g => w1.heap.size ≤ g ∧ g < w2.heap.size) 1 A2 l2.length c2 (l2.map u8v) := hqx.keep (fun g hg => rfl) (Nat.le_refl _)
 replace hB05 := below_drewN hB05 1
 replace hZ5 : Box w5.drew zb 52 #[.bool false, .int .u64 0, .string ⟨#[]⟩, .int .u32 0, .string ⟨#[]⟩, .string ⟨#[]⟩, .slice none 0 0, .int .u8 0, .int .u64 0, .string ⟨#[]⟩, .slice none 0 0, .slice none 0 0] := hZ5
 have hB05 : Below w.heap.size w w5.drew := hB05
 clear hX5 hR5 hq0
 generalize w5.drew = wd at *
 refine rg_take 0 (v := ?_) rfl (by kernel_rfl) (by kernel_rfl) (by kernel_rfl) hS rfl ?_ ?_
 rotate_left
 ·intro wS hSw; have y0 := hSw.1.cell (j := 0) rfl; have y1 := hSw.1.cell (j := 1) rfl; have y2 := hSw.1.cell (j := 2) rfl; have y3 := hSw.1.cell (j := 3) rfl; have y4 := hSw.1.cell (j := 4) rfl; have y5 := hSw.1.cell (j := 5) rfl; have y6 := hSw.1.cell (j := 6) rfl; have y7 := hSw.1.cell (j := 7) rfl; have y8 := hSw.1.cell (j := 8) rfl; have y9 := hSw.1.cell (j := 9) rfl; have yA := hSw.1.cell (j := 10) rfl; have yB := hSw.1.cell (j := 11) rfl; go_simp; (with_reducible rfl)
 simp only [List.getElem_toArray, List.getElem_cons_zero, Act.put, List.setIfInBounds_toArray, List.set_cons_zero, List.set_cons_succ]
 refine rg_t 1 hS ?_
 simp only [g_S, Act.put]
 refine rg_t 2 hS ?_
 simp only [g_S, Act.put]
 refine rg_t 3 hS ?_
 simp only [g_S, Act.put]
 refine rg_take 4 (v := ?_) rfl (by kernel_rfl) (by kernel_rfl) (by kernel_rfl) hS rfl ?_ ?_
 rotate_left
 ·intro wS hSw; have y0 := hSw.2; go_simp; (with_reducible rfl)
 simp only [g_S, Act.put]
 refine rg_one 5 rfl (by kernel_rfl) rfl (fun K hK => ?_)
 refine op_box (g := zb) (j := 0) (v := .agg #[.bool false, .int .u64 0, .string (str x), .int .u32 0, .string ⟨#[]⟩, .string ⟨#[]⟩, .slice none 0 0, .int .u8 0, .int .u64 0, .string ⟨#[]⟩, .slice none 0 0, .slice none 0 0]) (vs := (#[.bool false, .int .u64 0, .string (str x), .int .u32 0, .string ⟨#[]⟩, .string ⟨#[]⟩, .slice none 0 0, .int .u8 0, .int .u64 0, .string ⟨#[]⟩, .slice none 0 0, .slice none 0 0]).toList) rfl rfl rfl hZ5 rfl (by kernel_rfl) (by simp) sl_one #[.bool false, .int .u64 0, .string (str x), .int .u32 0, .string ⟨#[]⟩, .string ⟨#[]⟩, .slice none 0 0, .int .u8 0, .int .u64 0, .string ⟨#[]⟩, .slice none 0 0, .slice none 0 0] (by simp) ?_
 intro we hZe hge _
 have hS2 : Box we ab 52 #[.bool false, .int .u64 0, .string (str x), .int .u32 0, .string ⟨#[]⟩, .string ⟨#[]⟩, .slice none 0 0, .int .u8 0, .int .u64 0, .string ⟨#[]⟩, .slice none 0 0, .slice none 0 0] ∧ we.cell? ⟨ob, 0, none⟩ = some (.slice A2 l2.length c2) := ⟨hS.1.grown hge (sne (by omega)), hge.cell hS.2 (by intro e; have e2 : ob = zb := (by simpa using e); omega)⟩
 have hBe := hB05.grown hge hB05.size (fun g hg => by injection hg with hg; omega)
 have hqe := hqx.keep (w' := we) (fun g hg => hge.block g (by have := hB05.size; have := hS.1.lt; omega) (by intro e; injection e with e; have := hF3 g hg; omega)) hge.size
 refine hK _ _ hS2 ?_; clear hK K
 try simp only [g_S, Act.put]
 refine rg_t 6 hS2 ?_
 simp only [g_S, Act.put]
 refine rg_end (by kernel_rfl) ?_
 go_wp2_with (with_reducible refine h_A ?_)
 refine ret_box_tmp rfl hZe rfl rfl Tryz.underlying52 rfl (by kernel_rfl) rfl ?_
 refine ⟨⟨false, 0, x, xd0, [], vl0⟩, ah0, A2, l2.length, c2, l2, rfl, ⟨(RA.zero we (FN w.heap.size we) true).n, (by show x.length ≤ _; omega), (RA.zero we (FN w.heap.size we) true).x, (RA.zero we (FN w.heap.size we) true).q, (RA.zero we (FN w.heap.size we) true).ok, (RA.zero we (FN w.heap.size we) true).c, (RA.zero we (FN w.heap.size we) true).v⟩, hqe.mono (fun g hg => .inr ⟨by omega, by have := hB05.size; have := hge.size; have := hS.1.lt; omega⟩), by omega, hBe, rfl, HT.out⟩
set_option maxRecDepth 20000 in
set_option maxHeartbeats 2000000 in
theorem rtake_116 {F : Nat → Prop} (A : Option Addr) (n c : Nat) (l : List UInt8) (w : World) (hr : RdX w F 1 A n c (l.map u8v)) (hF : ∀ g, F g → g < w.heap.size) (hn : n ≤ 100000000) :
  Calls Tryz.prog 24 #[.int .u8 116, .slice A n c] w (TakeR w F 116 l) := by
 obtain ⟨zb, w1, hzb, hzv, hZ, hB1⟩ := alloc_stepV w #[.bool false, .int .u64 0, .string ⟨#[]⟩, .int .u32 0, .string ⟨#[]⟩, .string ⟨#[]⟩, .slice none 0 0, .int .u8 0, .int .u64 0, .string ⟨#[]⟩, .slice none 0 0, .slice none 0 0] 52
 have hln : l.length = n := RdB.length (show RdB w w.heap.size A n c l from hr.1)
 have hrb : RdB w w.heap.size A n c l := hr.1
 have hop := qopen_any A n c l w1 (rd_wide (hrb.below hB1) hB1.size) (by omega)
 have hzw : w.heap.size ≤ zb := by omega
 go_enter Tryz.func24, Tryz.ntmps24
 go_upto_region 1 with fail
 rw [← hzb, ← hzv]
 clear hzb hzv
 go_wp2_with (with_reducible refine h_A ?_)
 refine hop.mono ?_
 rintro e w2 ⟨ob, rfl, hob, hR, hB2⟩
 have hZ2 := hZ.below hB2
 have hB02 := hB1.trans (hB2.mono hB1.size)
 have hs1 := hB1.size
 have hzl := hZ.lt
 clear hop hZ hB1 hB2
 obtain ⟨ab, w3, hab, hav, hX, hB3⟩ := alloc_stepV w2 #[.bool false, .int .u64 0, .string ⟨#[]⟩, .int .u32 0, .string ⟨#[]⟩, .string ⟨#[]⟩, .slice none 0 0, .int .u8 0, .int .u64 0, .string ⟨#[]⟩, .slice none 0 0, .slice none 0 0] 52
 go_upto_region 3 with fail
 rw [← hab, ← hav]
 have hZ3 := hZ2.below hB3
 have hB03 := hB02.trans (hB3.mono hB02.size)
 have hR3 := hR.below hB3
 have hzl2 := hZ2.lt
 have hza : zb < ab := by omega
 have hab2 : w2.heap.size ≤ ab := by omega
 have hoa : ob < ab := by have := hR.lt; omega
 have hF3 : ∀ g, (w1.heap.size ≤ g ∧ g < w2.heap.size) → g ≠ ab ∧ g ≠ zb := fun g hg => by omega
 clear hab hav hZ2 hB02 hR hB3
 have hwd := rargw_any 116 2 rfl w3
 have hnm := qtext_any hR3 2 65535 (by omega) (by omega) (by omega) (by omega)
 have hlt := mtext_slen l false 2 65535
 have hlen := mtext_len l false 2 65535
 have HT := Lib.hid (txt_take 116 2 (by omega) (fun _ => rfl) (fun a h => txt_ok h) l)
 rw [show ((116 : Nat) : Int) = 116 from rfl, show ((2 : Nat) : Int) = 2 from rfl] at hwd
 rw [show ((2 : Nat) : Int) = 2 from rfl] at HT
 rw [show ((65535 : Nat) : Int) = 65535 from rfl] at hlt
 obtain ⟨T, hT⟩ : ∃ t, t = mtext l false 2 65535 := ⟨_, rfl⟩
 rw [← hT] at hnm hlt hlen HT
 obtain ⟨x, l2, b2⟩ := T
 simp only at hnm hlt hlen
 clear hT
 go_wp2_with (with_reducible refine h_A ?_)
 refine hwd.mono ?_
 rintro e w4 ⟨rfl, rfl⟩
 clear hwd
 go_wp2_with (with_reducible refine h_A ?_)
 refine hnm.mono ?_
 rintro e w4 ⟨rfl, hR4, hg4⟩
 have hX4 := hX.grown hg4 (sne (by omega))
 have hZ4 := hZ3.grown hg4 (sne (by omega))
 have hB04 := hB03.grown hg4 hB03.size (fun g hg => by injection hg with hg; omega)
 clear hnm hX hZ3 hR3 hg4 hB03
 try simp only at hR4
 go_wp2_with (with_reducible refine h_B ?_)
 refine unhold (wp_box (v := .string (str x)) (vs := [.string (str x)]) rfl rfl rfl rfl hX4 rfl (by kernel_rfl) (by simp) (by simp; rfl) #[.bool false, .int .u64 0, .string (str x), .int .u32 0, .string ⟨#[]⟩, .string ⟨#[]⟩, .slice none 0 0, .int .u8 0, .int .u64 0, .string ⟨#[]⟩, .slice none 0 0, .slice none 0 0] (by simp) ?_)
 intro w5 hX5 hg5 _
 have hR5 := hR4.kept hg5 (fun g hg hFg => by injection hg with hg; have := hF3 g hFg; omega)
 have hZ5 := hZ4.grown hg5 (sne (by omega))
 have hB05 := hB04.grown hg5 hB04.size (fun g hg => by injection hg with hg; omega)
 clear hX4 hZ4 hR4 hg5 hB04
 obtain ⟨A2, c2, hq0, hqx⟩ := hR5.rdx
 have hl2 := hR5.len
 go_upto_region 13 with fail
 refine rg_start (fun W : World => Box W ab 52 #[.bool false, .int .u64 0, .string (str x), .int .u32 0, .string ⟨#[]⟩, .string ⟨#[]⟩, .slice none 0 0, .int .u8 0, .int .u64 0, .string ⟨#[]⟩, .slice none 0 0, .slice none 0 0] ∧ W.cell? ⟨ob, 0, none⟩ = some (.slice A2 l2.length c2)) (by kernel_rfl) ?_
 have hS : Box w5.drew ab 52 #[.bool false, .int .u64 0, .string (str x), .int .u32 0, .string ⟨#[]⟩, .string ⟨#[]⟩, .slice none 0 0, .int .u8 0, .int .u64 0, .string ⟨#[]⟩, .slice none 0 0, .slice none 0 0] ∧ w5.drew.cell? ⟨ob, 0, none⟩ = some (.slice A2 l2.length c2) := ⟨hX5, hq0⟩
 replace hqx : RdX w5.drew (fun g => w1.heap.size ≤ g ∧ g < w2.heap.size) 1 A2 l2.length c2 (l2.map u8v) := hqx.keep (fun g hg => rfl) (Nat.le_refl _)
 replace hB05 := below_drewN hB05 1
 replace hZ5 : Box w5.drew zb 52 #[.bool false, .int .u64 0, .string ⟨#[]⟩, .int .u32 0, .string ⟨#[]⟩, .string ⟨#[]⟩, .slice none 0 0, .int .u8 0, .int .u64 0, .string ⟨#[]⟩, .slice none 0 0, .slice none 0 0] := hZ5
 have hB05 : Below w.heap.size w w5.drew := hB05
 clear hX5 hR5 hq0
 generalize w5.drew = wd at *
 refine rg_take 0 (v := ?_) rfl (by kernel_rfl) (by kernel_rfl) (by kernel_rfl) hS rfl ?_ ?_
 rotate_left
 ·intro wS hSw; have y0 := hSw.1.cell (j := 0) rfl; have y1 := hSw.1.cell (j := 1) rfl; have y2 := hSw.1.cell (j := 2) rfl; have y3 := hSw.1.cell (j := 3) rfl; have y4 := hSw.1.cell (j := 4) rfl; have y5 := hSw.1.cell (j := 5) rfl; have y6 := hSw.1.cell (j := 6) rfl; have y7 := hSw.1.cell (j := 7) rfl; have y8 := hSw.1.cell (j := 8) rfl; have y9 := hSw.1.cell (j := 9) rfl; have yA := hSw.1.cell (j := 10) rfl; have yB := hSw.1.cell (j := 11) rfl; go_simp; (with_reducible rfl)
 simp only [List.getElem_toArray, List.getElem_cons_zero, Act.put, List.setIfInBounds_toArray, List.set_cons_zero, List.set_cons_succ]
 refine rg_t 1 hS ?_
 simp only [g_S, Act.put]
 refine rg_t 2 hS ?_
 simp only [g_S, Act.put]
 refine rg_t 3 hS ?_
 simp only [g_S, Act.put]
 refine rg_take 4 (v := ?_) rfl (by kernel_rfl) (by kernel_rfl) (by kernel_rfl) hS rfl ?_ ?_
 rotate_left
 ·intro wS hSw; have y0 := hSw.2; go_simp; (with_reducible rfl)
 simp only [g_S, Act.put]
 refine rg_one 5 rfl (by kernel_rfl) rfl (fun K hK => ?_)
 refine op_box (g := zb) (j := 0) (v := .agg #[.bool false, .int .u64 0, .string (str x), .int .u32 0, .string ⟨#[]⟩, .string ⟨#[]⟩, .slice none 0 0, .int .u8 0, .int .u64 0, .string ⟨#[]⟩, .slice none 0 0, .slice none 0 0]) (vs := (#[.bool false, .int .u64 0, .string (str x), .int .u32 0, .string ⟨#[]⟩, .string ⟨#[]⟩, .slice none 0 0, .int .u8 0, .int .u64 0, .string ⟨#[]⟩, .slice none 0 0, .slice none 0 0]).toList) rfl rfl rfl hZ5 rfl (by kernel_rfl) (by simp) sl_one #[.bool false, .int .u64 0, .string (str x), .int .u32 0, .string ⟨#[]⟩, .string ⟨#[]⟩, .slice none 0 0, .int .u8 0, .int .u64 0, .string ⟨#[]⟩, .slice none 0 0, .slice none 0 0] (by simp) ?_
 intro we hZe hge _
 have hS2 : Box we ab 52 #[.bool false, .int .u64 0, .string (str x), .int .u32 0, .string ⟨#[]⟩, .string ⟨#[]⟩, .slice none 0 0, .int .u8 0, .int .u64 0, .string ⟨#[]⟩, .slice none 0 0, .slice none 0 0] ∧ we.cell? ⟨ob, 0, none⟩ = some (.slice A2 l2.length c2) := ⟨hS.1.grown hge (sne (by omega)), hge.cell hS.2 (by intro e; have e2 : ob = zb := (by simpa using e); omega)⟩
 have hBe := hB05.grown hge hB05.size (fun g hg => by injection hg with hg; omega)
 have hqe := hqx.keep (w' := we) (fun g hg => hge.block g (by have := hB05.size; have := hS.1.lt; omega) (by intro e; injection e with e; have := hF3 g hg; omega)) hge.size
 refine hK _ _ hS2 ?_; clear hK K
 try simp only [g_S, Act.put]
 refine rg_t 6 hS2 ?_
 simp only [g_S, Act.put]
 refine rg_end (by kernel_rfl) ?_
 go_wp2_with (with_reducible refine h_A ?_)
 refine ret_box_tmp rfl hZe rfl rfl Tryz.underlying52 rfl (by kernel_rfl) rfl ?_
 refine ⟨⟨false, 0, x, xd0, [], vl0⟩, ah0, A2, l2.length, c2, l2, rfl, ⟨(RA.zero we (FN w.heap.size we) true).n, (by show x.length ≤ _; omega), (RA.zero we (FN w.heap.size we) true).x, (RA.zero we (FN w.heap.size we) true).q, (RA.zero we (FN w.heap.size we) true).ok, (RA.zero we (FN w.heap.size we) true).c, (RA.zero we (FN w.heap.size we) true).v⟩, hqe.mono (fun g hg => .inr ⟨by omega, by have := hB05.size; have := hge.size; have := hS.1.lt; omega⟩), by omega, hBe, rfl, HT.out⟩
theorem RdX.cut {w : World} {F : Nat → Prop} {A : Option Addr} {n c : Nat} {l : List UInt8} (h : RdX w F 1 A n c (l.map u8v)) (k : Nat) (hk : k ≤ n) : RdX w F 1 (cutA A 1 k c) (n - k) (c - k) ((l.drop k).map u8v) := by
 have hln : l.length = n := RdB.length (show RdB w w.heap.size A n c l from h.1)
 refine ⟨?_, fun hp g hg => h.2 (by omega) g (by rwa [cutA_blk] at hg)⟩
 have h1 := rd_cut h.1 k n c hk h.1.cap (Nat.le_refl _) (Nat.le_refl _)
 have e : ((l.map u8v).take (n * 1)).drop (k * 1) = (l.drop k).map u8v := by rw [Nat.mul_one, Nat.mul_one, List.take_of_length_le (by simp; omega), List.map_drop]
 rw [e] at h1
 exact h1
set_option maxRecDepth 20000 in
set_option maxHeartbeats 2000000 in
theorem rtake_98 {F : Nat → Prop} (A : Option Addr) (n c : Nat) (l : List UInt8) (w : World) (hr : RdX w F 1 A n c (l.map u8v)) (hF : ∀ g, F g → g < w.heap.size) (hn : n ≤ 100000000) :
  Calls Tryz.prog 24 #[.int .u8 98, .slice A n c] w (TakeR w F 98 l) := by
 obtain ⟨zb, w1, hzb, hzv, hZ, hB1⟩ := alloc_stepV w #[.bool false, .int .u64 0, .string ⟨#[]⟩, .int .u32 0, .string ⟨#[]⟩, .string ⟨#[]⟩, .slice none 0 0, .int .u8 0, .int .u64 0, .string ⟨#[]⟩, .slice none 0 0, .slice none 0 0] 52
 have hln : l.length = n := RdB.length (show RdB w w.heap.size A n c l from hr.1)
 have hrb : RdB w w.heap.size A n c l := hr.1
 have hop := qopen_any A n c l w1 (rd_wide (hrb.below hB1) hB1.size) (by omega)
 have hzw : w.heap.size ≤ zb := by omega
 go_enter Tryz.func24, Tryz.ntmps24
 go_upto_region 1 with fail
 rw [← hzb, ← hzv]
 clear hzb hzv
 go_wp2_with (with_reducible refine h_A ?_)
 refine hop.mono ?_
 rintro e w2 ⟨ob, rfl, hob, hR, hB2⟩
 have hZ2 := hZ.below hB2
 have hB02 := hB1.trans (hB2.mono hB1.size)
 have hs1 := hB1.size
 have hzl := hZ.lt
 clear hop hZ hB1 hB2
 obtain ⟨ab, w3, hab, hav, hX, hB3⟩ := alloc_stepV w2 #[.bool false, .int .u64 0, .string ⟨#[]⟩, .int .u32 0, .string ⟨#[]⟩, .string ⟨#[]⟩, .slice none 0 0, .int .u8 0, .int .u64 0, .string ⟨#[]⟩, .slice none 0 0, .slice none 0 0] 52
 go_upto_region 3 with fail
 rw [← hab, ← hav]
 have hZ3 := hZ2.below hB3
 have hB03 := hB02.trans (hB3.mono hB02.size)
 have hR3 := hR.below hB3
 have hzl2 := hZ2.lt
 have hza : zb < ab := by omega
 have hab2 : w2.heap.size ≤ ab := by omega
 have hoa : ob < ab := by have := hR.lt; omega
 have hF3 : ∀ g, (w1.heap.size ≤ g ∧ g < w2.heap.size) → g ≠ ab ∧ g ≠ zb := fun g hg => by omega
 clear hab hav hZ2 hB02 hR hB3
 have hX5 := hX
 have hZ5 := hZ3
 have hB05 := hB03
 clear hX hZ3 hB03 hR3
 obtain ⟨w5, rfl⟩ : ∃ q, q = w3 := ⟨_, rfl⟩
 have hcap := hr.1.cap
 have hmax := hr.1.max
 go_upto_region 20 with fail
 refine rg_start (fun W : World => Box W ab 52 #[.bool false, .int .u64 0, .string ⟨#[]⟩, .int .u32 0, .string ⟨#[]⟩, .string ⟨#[]⟩, .slice none 0 0, .int .u8 0, .int .u64 0, .string ⟨#[]⟩, .slice none 0 0, .slice none 0 0]) (by kernel_rfl) ?_
 have hS : Box w5.drew ab 52 #[.bool false, .int .u64 0, .string ⟨#[]⟩, .int .u32 0, .string ⟨#[]⟩, .string ⟨#[]⟩, .slice none 0 0, .int .u8 0, .int .u64 0, .string ⟨#[]⟩, .slice none 0 0, .slice none 0 0] := hX5
 replace hB05 := below_drewN hB05 1
 replace hZ5 : Box w5.drew zb 52 #[.bool false, .int .u64 0, .string ⟨#[]⟩, .int .u32 0, .string ⟨#[]⟩, .string ⟨#[]⟩, .slice none 0 0, .int .u8 0, .int .u64 0, .string ⟨#[]⟩, .slice none 0 0, .slice none 0 0] := hZ5
 have hB05 : Below w.heap.size w w5.drew := hB05
 skip
 clear hX5
 generalize w5.drew = wd at *
 refine rg_take 0 (v := ?_) rfl (by kernel_rfl) (by kernel_rfl) (by kernel_rfl) hS rfl ?_ ?_
 rotate_left
 ·intro wS hSw; have y0 := hSw.cell (j := 0) rfl; have y1 := hSw.cell (j := 1) rfl; have y2 := hSw.cell (j := 2) rfl; have y3 := hSw.cell (j := 3) rfl; have y4 := hSw.cell (j := 4) rfl; have y5 := hSw.cell (j := 5) rfl; have y6 := hSw.cell (j := 6) rfl; have y7 := hSw.cell (j := 7) rfl; have y8 := hSw.cell (j := 8) rfl; have y9 := hSw.cell (j := 9) rfl; have yA := hSw.cell (j := 10) rfl; have yB := hSw.cell (j := 11) rfl; go_simp; (with_reducible rfl)
 simp only [List.getElem_toArray, List.getElem_cons_zero, Act.put, List.setIfInBounds_toArray, List.set_cons_zero, List.set_cons_succ]
 refine rg_t 1 hS ?_
 simp only [g_S, Act.put]
 refine rg_t 2 hS ?_
 simp only [g_S, Act.put]
 refine rg_slice 3 slB rfl (by kernel_rfl) (by kernel_rfl) (by kernel_rfl) hS rfl rfl rfl hmax hcap 0 n c (.inr ⟨_, _, rfl, rfl⟩) (.inl ⟨rfl, rfl⟩) (.inl ⟨rfl, rfl⟩) (by intro h; cases h) (by omega) (by omega) (Nat.le_refl _) (Nat.le_refl _) ?_
 try simp only [g_S, Act.put]
 refine rg_one 4 rfl (by kernel_rfl) rfl (fun K hK => ?_)
 refine op_box (g := zb) (j := 0) (v := .agg #[.bool false, .int .u64 0, .string ⟨#[]⟩, .int .u32 0, .string ⟨#[]⟩, .string ⟨#[]⟩, .slice none 0 0, .int .u8 0, .int .u64 0, .string ⟨#[]⟩, .slice none 0 0, .slice none 0 0]) (vs := (#[.bool false, .int .u64 0, .string ⟨#[]⟩, .int .u32 0, .string ⟨#[]⟩, .string ⟨#[]⟩, .slice none 0 0, .int .u8 0, .int .u64 0, .string ⟨#[]⟩, .slice none 0 0, .slice none 0 0]).toList) rfl rfl rfl hZ5 rfl (by kernel_rfl) (by simp) sl_one #[.bool false, .int .u64 0, .string ⟨#[]⟩, .int .u32 0, .string ⟨#[]⟩, .string ⟨#[]⟩, .slice none 0 0, .int .u8 0, .int .u64 0, .string ⟨#[]⟩, .slice none 0 0, .slice none 0 0] (by simp) ?_
 intro we hZe hge _
 have hS2 : Box we ab 52 #[.bool false, .int .u64 0, .string ⟨#[]⟩, .int .u32 0, .string ⟨#[]⟩, .string ⟨#[]⟩, .slice none 0 0, .int .u8 0, .int .u64 0, .string ⟨#[]⟩, .slice none 0 0, .slice none 0 0] := hS.grown hge (sne (by omega))
 have hBe := hB05.grown hge hB05.size (fun g hg => by injection hg with hg; omega)
 have hqe := (hr.keep (w' := we) (fun g hg => hBe.block g (hF g hg)) hBe.size).cut 0 (by omega)
 refine hK _ _ hS2 ?_; clear hK K
 try simp only [g_S, Act.put]
 refine rg_t 5 hS2 ?_
 simp only [g_S, Act.put]
 refine rg_end (by kernel_rfl) ?_
 go_wp2_with (with_reducible refine h_A ?_)
 refine ret_box_tmp rfl hZe rfl rfl Tryz.underlying52 rfl (by kernel_rfl) rfl ?_
 refine ⟨ag0 false, ah0, _, _, _, _, rfl, RA.zero _ _ _, hqe.mono (fun g hg => .inl hg), by omega, hBe, rfl, fun a' rest hl hka _ => ?_⟩
 have h2 : sameA a' (ag0 a'.is) = true := hka
 have e2 : a' = ag0 a'.is := (sameA_iff _ _).1 h2
 refine ⟨by rw [e2]; rfl, ?_⟩
 rw [hl]
 rfl
set_option maxRecDepth 20000 in
set_option maxHeartbeats 2000000 in
theorem rtake_120 {F : Nat → Prop} (A : Option Addr) (n c : Nat) (l : List UInt8) (w : World) (hr : RdX w F 1 A n c (l.map u8v)) (hF : ∀ g, F g → g < w.heap.size) (hn : n ≤ 100000000) :
  Calls Tryz.prog 24 #[.int .u8 120, .slice A n c] w (TakeR w F 120 l) := by
 obtain ⟨zb, w1, hzb, hzv, hZ, hB1⟩ := alloc_stepV w #[.bool false, .int .u64 0, .string ⟨#[]⟩, .int .u32 0, .string ⟨#[]⟩, .string ⟨#[]⟩, .slice none 0 0, .int .u8 0, .int .u64 0, .string ⟨#[]⟩, .slice none 0 0, .slice none 0 0] 52
 have hln : l.length = n := RdB.length (show RdB w w.heap.size A n c l from hr.1)
 have hrb : RdB w w.heap.size A n c l := hr.1
 have hop := qopen_any A n c l w1 (rd_wide (hrb.below hB1) hB1.size) (by omega)
 have hzw : w.heap.size ≤ zb := by omega
 go_enter Tryz.func24, Tryz.ntmps24
 go_upto_region 1 with fail
 rw [← hzb, ← hzv]
 clear hzb hzv
 go_wp2_with (with_reducible refine h_A ?_)
 refine hop.mono ?_
 rintro e w2 ⟨ob, rfl, hob, hR, hB2⟩
 have hZ2 := hZ.below hB2
 have hB02 := hB1.trans (hB2.mono hB1.size)
 have hs1 := hB1.size
 have hzl := hZ.lt
 clear hop hZ hB1 hB2
 obtain ⟨ab, w3, hab, hav, hX, hB3⟩ := alloc_stepV w2 #[.bool false, .int .u64 0, .string ⟨#[]⟩, .int .u32 0, .string ⟨#[]⟩, .string ⟨#[]⟩, .slice none 0 0, .int .u8 0, .int .u64 0, .string ⟨#[]⟩, .slice none 0 0, .slice none 0 0] 52
 go_upto_region 3 with fail
 rw [← hab, ← hav]
 have hZ3 := hZ2.below hB3
 have hB03 := hB02.trans (hB3.mono hB02.size)
 have hR3 := hR.below hB3
 have hzl2 := hZ2.lt
 have hza : zb < ab := by omega
 have hab2 : w2.heap.size ≤ ab := by omega
 have hoa : ob < ab := by have := hR.lt; omega
 have hF3 : ∀ g, (w1.heap.size ≤ g ∧ g < w2.heap.size) → g ≠ ab ∧ g ≠ zb := fun g hg => by omega
 clear hab hav hZ2 hB02 hR hB3
 have hgt := rxdget_any A n c l w3 (rd_wide (hrb.below hB03) hB03.size) (by omega)
 have hnl := getR_len l
 have hwf := getR_wf l
 have hgo := fun (a' : Ag) (rest : List UInt8) (hl : l = a'.x.bytes ++ rest) (hx : a'.x.fmt < 4294967296) (hok : a'.x.ok = true) => (show getR l = (a'.x, a'.x.bytes.length, 0) by rw [hl, getR_bytes hx hok])
 obtain ⟨T, hT⟩ : ∃ t, t = getR l := ⟨_, rfl⟩
 rw [← hT] at hgt hnl hwf hgo
 obtain ⟨x, k, er⟩ := T
 simp only at hgt hnl hwf
 have HGO := Lib.hid hgo
 have hwg := hwf.2.1
 have hwb := hwf.2.2
 unfold xdV at hgt
 clear hT hR3 hgo
 go_wp2_with (with_reducible refine h_A ?_)
 refine hgt.mono ?_
 rintro e w4 ⟨rfl, hB4⟩
 have hX4 := hX.below hB4
 have hZ4 := hZ3.below hB4
 have hB04 := hB03.trans (hB4.mono hB03.size)
 clear hgt hX hZ3 hB03 hB4
 go_wp2_with (with_reducible refine h_B ?_)
 refine unhold (wp_box (v := .agg #[.int .u32 (x.fmt : Int), .string (str x.glob), .string (str x.bran)]) (vs := [.int .u32 (x.fmt : Int), .string (str x.glob), .string (str x.bran)]) rfl rfl rfl rfl hX4 rfl (by kernel_rfl) (by simp) (by intro u hu; simp at hu; rcases hu with rfl | rfl | rfl <;> rfl) #[.bool false, .int .u64 0, .string ⟨#[]⟩, .int .u32 (x.fmt : Int), .string (str x.glob), .string (str x.bran), .slice none 0 0, .int .u8 0, .int .u64 0, .string ⟨#[]⟩, .slice none 0 0, .slice none 0 0] (by simp) ?_)
 intro w5 hX5 hg5 _
 have hZ5 := hZ4.grown hg5 (sne (by omega))
 have hB05 := hB04.grown hg5 hB04.size (fun g hg => by injection hg with hg; omega)
 clear hX4 hZ4 hg5 hB04
 have hcap := hr.1.cap
 have hmax := hr.1.max
 go_upto_region 20 with fail
 refine rg_start (fun W : World => Box W ab 52 #[.bool false, .int .u64 0, .string ⟨#[]⟩, .int .u32 (x.fmt : Int), .string (str x.glob), .string (str x.bran), .slice none 0 0, .int .u8 0, .int .u64 0, .string ⟨#[]⟩, .slice none 0 0, .slice none 0 0]) (by kernel_rfl) ?_
 have hS : Box w5.drew ab 52 #[.bool false, .int .u64 0, .string ⟨#[]⟩, .int .u32 (x.fmt : Int), .string (str x.glob), .string (str x.bran), .slice none 0 0, .int .u8 0, .int .u64 0, .string ⟨#[]⟩, .slice none 0 0, .slice none 0 0] := hX5
 replace hB05 := below_drewN hB05 1
 replace hZ5 : Box w5.drew zb 52 #[.bool false, .int .u64 0, .string ⟨#[]⟩, .int .u32 0, .string ⟨#[]⟩, .string ⟨#[]⟩, .slice none 0 0, .int .u8 0, .int .u64 0, .string ⟨#[]⟩, .slice none 0 0, .slice none 0 0] := hZ5
 have hB05 : Below w.heap.size w w5.drew := hB05
 skip
 clear hX5
 generalize w5.drew = wd at *
 refine rg_take 0 (v := ?_) rfl (by kernel_rfl) (by kernel_rfl) (by kernel_rfl) hS rfl ?_ ?_
 rotate_left
 ·intro wS hSw; have y0 := hSw.cell (j := 0) rfl; have y1 := hSw.cell (j := 1) rfl; have y2 := hSw.cell (j := 2) rfl; have y3 := hSw.cell (j := 3) rfl; have y4 := hSw.cell (j := 4) rfl; have y5 := hSw.cell (j := 5) rfl; have y6 := hSw.cell (j := 6) rfl; have y7 := hSw.cell (j := 7) rfl; have y8 := hSw.cell (j := 8) rfl; have y9 := hSw.cell (j := 9) rfl; have yA := hSw.cell (j := 10) rfl; have yB := hSw.cell (j := 11) rfl; go_simp; (with_reducible rfl)
 simp only [List.getElem_toArray, List.getElem_cons_zero, Act.put, List.setIfInBounds_toArray, List.set_cons_zero, List.set_cons_succ]
 refine rg_t 1 hS ?_
 simp only [g_S, Act.put]
 refine rg_t 2 hS ?_
 simp only [g_S, Act.put]
 refine rg_slice 3 slB rfl (by kernel_rfl) (by kernel_rfl) (by kernel_rfl) hS rfl rfl rfl hmax hcap k n c (.inr ⟨_, _, rfl, rfl⟩) (.inl ⟨rfl, rfl⟩) (.inl ⟨rfl, rfl⟩) (by intro h; cases h) (by omega) (by omega) (Nat.le_refl _) (Nat.le_refl _) ?_
 try simp only [g_S, Act.put]
 refine rg_one 4 rfl (by kernel_rfl) rfl (fun K hK => ?_)
 refine op_box (g := zb) (j := 0) (v := .agg #[.bool false, .int .u64 0, .string ⟨#[]⟩, .int .u32 (x.fmt : Int), .string (str x.glob), .string (str x.bran), .slice none 0 0, .int .u8 0, .int .u64 0, .string ⟨#[]⟩, .slice none 0 0, .slice none 0 0]) (vs := (#[.bool false, .int .u64 0, .string ⟨#[]⟩, .int .u32 (x.fmt : Int), .string (str x.glob), .string (str x.bran), .slice none 0 0, .int .u8 0, .int .u64 0, .string ⟨#[]⟩, .slice none 0 0, .slice none 0 0]).toList) rfl rfl rfl hZ5 rfl (by kernel_rfl) (by simp) sl_one #[.bool false, .int .u64 0, .string ⟨#[]⟩, .int .u32 (x.fmt : Int), .string (str x.glob), .string (str x.bran), .slice none 0 0, .int .u8 0, .int .u64 0, .string ⟨#[]⟩, .slice none 0 0, .slice none 0 0] (by simp) ?_
 intro we hZe hge _
 have hS2 : Box we ab 52 #[.bool false, .int .u64 0, .string ⟨#[]⟩, .int .u32 (x.fmt : Int), .string (str x.glob), .string (str x.bran), .slice none 0 0, .int .u8 0, .int .u64 0, .string ⟨#[]⟩, .slice none 0 0, .slice none 0 0] := hS.grown hge (sne (by omega))
 have hBe := hB05.grown hge hB05.size (fun g hg => by injection hg with hg; omega)
 have hqe := (hr.keep (w' := we) (fun g hg => hBe.block g (hF g hg)) hBe.size).cut k (by omega)
 refine hK _ _ hS2 ?_; clear hK K
 try simp only [g_S, Act.put]
 refine rg_t 5 hS2 ?_
 simp only [g_S, Act.put]
 refine rg_end (by kernel_rfl) ?_
 go_wp2_with (with_reducible refine h_A ?_)
 refine ret_box_tmp rfl hZe rfl rfl Tryz.underlying52 rfl (by kernel_rfl) rfl ?_
 refine ⟨⟨false, 0, [], x, [], vl0⟩, ah0, _, _, _, _, rfl, ⟨(RA.zero we (FN w.heap.size we) true).n, (RA.zero we (FN w.heap.size we) true).s, hwf, (RA.zero we (FN w.heap.size we) true).q, (RA.zero we (FN w.heap.size we) true).ok, (RA.zero we (FN w.heap.size we) true).c, (RA.zero we (FN w.heap.size we) true).v⟩, hqe.mono (fun g hg => .inl hg), by omega, hBe, rfl, fun a' rest hl hka hab => ?_⟩
 have h2 : (decide (((a'.x.err : Nat) : Int) = 0) && sameA a' (agX a')) = true := hka
 rw [Bool.and_eq_true, decide_eq_true_eq] at h2
 obtain ⟨h3, h4⟩ := h2
 have e2 : a' = agX a' := (sameA_iff _ _).1 h4
 have hok : a'.x.ok = true := by
  cases hk : a'.x.ok
  ·simp [Xd.err, hk] at h3
  ·rfl
 have hl' : l = a'.x.bytes ++ rest := by
  rw [hl]
  show a'.x.put ++ rest = _
  rw [Xd.put_ok hok]
 have hg := HGO.out a' rest hl' hab.x hok
 injection hg with g1 g2
 injection g2 with g2 g3
 refine ⟨by rw [e2, g1]; rfl, ?_⟩
 rw [g2, hl', List.drop_left]
set_option maxRecDepth 20000 in
set_option maxHeartbeats 2000000 in
theorem rtake_114 {F : Nat → Prop} (A : Option Addr) (n c : Nat) (l : List UInt8) (w : World) (hr : RdX w F 1 A n c (l.map u8v)) (hF : ∀ g, F g → g < w.heap.size) (hn : n ≤ 100000000) :
  Calls Tryz.prog 24 #[.int .u8 114, .slice A n c] w (TakeR w F 114 l) := by
 obtain ⟨zb, w1, hzb, hzv, hZ, hB1⟩ := alloc_stepV w #[.bool false, .int .u64 0, .string ⟨#[]⟩, .int .u32 0, .string ⟨#[]⟩, .string ⟨#[]⟩, .slice none 0 0, .int .u8 0, .int .u64 0, .string ⟨#[]⟩, .slice none 0 0, .slice none 0 0] 52
 have hln : l.length = n := RdB.length (show RdB w w.heap.size A n c l from hr.1)
 have hrb : RdB w w.heap.size A n c l := hr.1
 have hop := qopen_any A n c l w1 (rd_wide (hrb.below hB1) hB1.size) (by omega)
 have hzw : w.heap.size ≤ zb := by omega
 go_enter Tryz.func24, Tryz.ntmps24
 go_upto_region 1 with fail
 rw [← hzb, ← hzv]
 clear hzb hzv
 go_wp2_with (with_reducible refine h_A ?_)
 refine hop.mono ?_
 rintro e w2 ⟨ob, rfl, hob, hR, hB2⟩
 have hZ2 := hZ.below hB2
 have hB02 := hB1.trans (hB2.mono hB1.size)
 have hs1 := hB1.size
 have hzl := hZ.lt
 clear hop hZ hB1 hB2
 obtain ⟨ab, w3, hab, hav, hX, hB3⟩ := alloc_stepV w2 #[.bool false, .int .u64 0, .string ⟨#[]⟩, .int .u32 0, .string ⟨#[]⟩, .string ⟨#[]⟩, .slice none 0 0, .int .u8 0, .int .u64 0, .string ⟨#[]⟩, .slice none 0 0, .slice none 0 0] 52
 go_upto_region 3 with fail
 rw [← hab, ← hav]
 have hZ3 := hZ2.below hB3
 have hB03 := hB02.trans (hB3.mono hB02.size)
 have hR3 := hR.below hB3
 have hzl2 := hZ2.lt
 have hza : zb < ab := by omega
 have hab2 : w2.heap.size ≤ ab := by omega
 have hoa : ob < ab := by have := hR.lt; omega
 have hF3 : ∀ g, (w1.heap.size ≤ g ∧ g < w2.heap.size) → g ≠ ab ∧ g ≠ zb := fun g hg => by omega
 clear hab hav hZ2 hB02 hR hB3
 have hgt := rspget_any A n c l w3 (rd_wide (hrb.below hB03) hB03.size) (by omega)
 have hnl : spGetN l ≤ l.length := spGetN_len l
 have hok := spGet_okM l
 have hsl : (spGet l).length ≤ 140737488351232 := by
  unfold spGet
  split
  ·rw [getSpans_len]
   have hN : getN l < 65536 := unbe_take
   omega
  ·simp
 have hgo := fun (a' : Ag) (rest : List UInt8) (hl : l = spPut a'.q ++ rest) (h1 : spRight a'.q = true) (h2 : a'.q.length ≤ 1000) (h3 : spOK 4294967296 a'.q) => (show spGet l = a'.q ∧ spGetN l = (spPut a'.q).length by rw [hl]; exact ⟨(put_got rest h1 h2 h3).2.1, (put_got rest h1 h2 h3).2.2⟩)
 generalize spGet l = Q at *
 generalize spGetN l = k at *
 generalize spGetErr l = er at *
 have HGO := Lib.hid hgo
 have HOK := Lib.hid hok
 clear hR3 hgo hok
 go_wp2_with (with_reducible refine h_A ?_)
 refine hgt.mono ?_
 rintro e w4 ⟨A2, c2, rfl, ho4, hB4⟩
 have hX4 := hX.below hB4
 have hZ4 := hZ3.below hB4
 have hB04 := hB03.trans (hB4.mono hB03.size)
 have hs3 := hB03.size
 have hx3 := hX.lt
 clear hgt hX hZ3 hB03 hB4
 go_wp2_with (with_reducible refine h_B ?_)
 refine unhold (wp_box (v := .slice A2 Q.length c2) (vs := [.slice A2 Q.length c2]) rfl rfl rfl rfl hX4 rfl (by kernel_rfl) (by simp) (by simp; rfl) #[.bool false, .int .u64 0, .string ⟨#[]⟩, .int .u32 0, .string ⟨#[]⟩, .string ⟨#[]⟩, .slice A2 Q.length c2, .int .u8 0, .int .u64 0, .string ⟨#[]⟩, .slice none 0 0, .slice none 0 0] (by simp) ?_)
 intro w5 hX5 hg5 _
 have hZ5 := hZ4.grown hg5 (sne (by omega))
 have hB05 := hB04.grown hg5 hB04.size (fun g hg => by injection hg with hg; omega)
 have ho5 : OwnS w5 w3.heap.size A2 Q.length c2 Q := own_stays ho4 hg5 (fun g hg e => by injection e with e; have := (ho4.blk_lt hg).1; omega)
 clear hX4 hZ4 hg5 hB04 ho4
 have hq5 : RdX w5 (fun g => w3.heap.size ≤ g ∧ g < w5.heap.size) 2 A2 Q.length c2 (spCells Q) := RdX.of_own ho5 (fun g hg => ho5.blk_lt hg)
 have HQ5 := Lib.hid hq5
 clear ho5 hq5
 obtain ⟨W5, hW5⟩ : ∃ q, q = w5 := ⟨_, rfl⟩
 have hbk : ∀ (we : World), w5.drew.grownBy we (some zb) → RdX we (fun g => w.heap.size ≤ g ∧ g < we.heap.size) 2 A2 Q.length c2 (spCells Q) := fun we hge => by
  have hq := HQ5.out
  exact (hq.keep (fun g hg => hge.block g hg.2 (by intro e; injection e with e; have := hg.1; omega)) hge.size).mono (fun g hg => ⟨by have := hg.1; omega, Nat.lt_of_lt_of_le hg.2 hge.size⟩)
 clear hW5
 have hcap := hr.1.cap
 have hmax := hr.1.max
 go_upto_region 20 with fail
 refine rg_start (fun W : World => Box W ab 52 #[.bool false, .int .u64 0, .string ⟨#[]⟩, .int .u32 0, .string ⟨#[]⟩, .string ⟨#[]⟩, .slice A2 Q.length c2, .int .u8 0, .int .u64 0, .string ⟨#[]⟩, .slice none 0 0, .slice none 0 0]) (by kernel_rfl) ?_
 have hS : Box w5.drew ab 52 #[.bool false, .int .u64 0, .string ⟨#[]⟩, .int .u32 0, .string ⟨#[]⟩, .string ⟨#[]⟩, .slice A2 Q.length c2, .int .u8 0, .int .u64 0, .string ⟨#[]⟩, .slice none 0 0, .slice none 0 0] := hX5
 replace hB05 := below_drewN hB05 1
 replace hZ5 : Box w5.drew zb 52 #[.bool false, .int .u64 0, .string ⟨#[]⟩, .int .u32 0, .string ⟨#[]⟩, .string ⟨#[]⟩, .slice none 0 0, .int .u8 0, .int .u64 0, .string ⟨#[]⟩, .slice none 0 0, .slice none 0 0] := hZ5
 have hB05 : Below w.heap.size w w5.drew := hB05
 skip
 clear hX5
 generalize w5.drew = wd at *
 refine rg_take 0 (v := ?_) rfl (by kernel_rfl) (by kernel_rfl) (by kernel_rfl) hS rfl ?_ ?_
 rotate_left
 ·intro wS hSw; have y0 := hSw.cell (j := 0) rfl; have y1 := hSw.cell (j := 1) rfl; have y2 := hSw.cell (j := 2) rfl; have y3 := hSw.cell (j := 3) rfl; have y4 := hSw.cell (j := 4) rfl; have y5 := hSw.cell (j := 5) rfl; have y6 := hSw.cell (j := 6) rfl; have y7 := hSw.cell (j := 7) rfl; have y8 := hSw.cell (j := 8) rfl; have y9 := hSw.cell (j := 9) rfl; have yA := hSw.cell (j := 10) rfl; have yB := hSw.cell (j := 11) rfl; go_simp; (with_reducible rfl)
 simp only [List.getElem_toArray, List.getElem_cons_zero, Act.put, List.setIfInBounds_toArray, List.set_cons_zero, List.set_cons_succ]
 refine rg_t 1 hS ?_
 simp only [g_S, Act.put]
 refine rg_t 2 hS ?_
 simp only [g_S, Act.put]
 refine rg_slice 3 slB rfl (by kernel_rfl) (by kernel_rfl) (by kernel_rfl) hS rfl rfl rfl hmax hcap k n c (.inr ⟨_, _, rfl, rfl⟩) (.inl ⟨rfl, rfl⟩) (.inl ⟨rfl, rfl⟩) (by intro h; cases h) (by omega) (by omega) (Nat.le_refl _) (Nat.le_refl _) ?_
 try simp only [g_S, Act.put]
 refine rg_one 4 rfl (by kernel_rfl) rfl (fun K hK => ?_)
 refine op_box (g := zb) (j := 0) (v := .agg #[.bool false, .int .u64 0, .string ⟨#[]⟩, .int .u32 0, .string ⟨#[]⟩, .string ⟨#[]⟩, .slice A2 Q.length c2, .int .u8 0, .int .u64 0, .string ⟨#[]⟩, .slice none 0 0, .slice none 0 0]) (vs := (#[.bool false, .int .u64 0, .string ⟨#[]⟩, .int .u32 0, .string ⟨#[]⟩, .string ⟨#[]⟩, .slice A2 Q.length c2, .int .u8 0, .int .u64 0, .string ⟨#[]⟩, .slice none 0 0, .slice none 0 0]).toList) rfl rfl rfl hZ5 rfl (by kernel_rfl) (by simp) sl_one #[.bool false, .int .u64 0, .string ⟨#[]⟩, .int .u32 0, .string ⟨#[]⟩, .string ⟨#[]⟩, .slice A2 Q.length c2, .int .u8 0, .int .u64 0, .string ⟨#[]⟩, .slice none 0 0, .slice none 0 0] (by simp) ?_
 intro we hZe hge _
 have hS2 : Box we ab 52 #[.bool false, .int .u64 0, .string ⟨#[]⟩, .int .u32 0, .string ⟨#[]⟩, .string ⟨#[]⟩, .slice A2 Q.length c2, .int .u8 0, .int .u64 0, .string ⟨#[]⟩, .slice none 0 0, .slice none 0 0] := hS.grown hge (sne (by omega))
 have hBe := hB05.grown hge hB05.size (fun g hg => by injection hg with hg; omega)
 have hqe := (hr.keep (w' := we) (fun g hg => hBe.block g (hF g hg)) hBe.size).cut k (by omega)
 refine hK _ _ hS2 ?_; clear hK K
 try simp only [g_S, Act.put]
 refine rg_t 5 hS2 ?_
 simp only [g_S, Act.put]
 refine rg_end (by kernel_rfl) ?_
 go_wp2_with (with_reducible refine h_A ?_)
 refine ret_box_tmp rfl hZe rfl rfl Tryz.underlying52 rfl (by kernel_rfl) rfl ?_
 have hq := hbk we hge
 refine ⟨⟨false, 0, [], xd0, Q, vl0⟩, ⟨A2, c2, ⟨none, 0, none, 0⟩⟩, _, _, _, _, rfl, ⟨(RA.zero we (FN w.heap.size we) true).n, (RA.zero we (FN w.heap.size we) true).s, (RA.zero we (FN w.heap.size we) true).x, hq, HOK.out, hsl, (RA.zero we (FN w.heap.size we) true).v⟩, hqe.mono (fun g hg => .inl hg), by omega, hBe, rfl, fun a' rest hl hka hab => ?_⟩
 have h2 : (decide (((spPutErr a'.q : Nat) : Int) = 0) && sameA a' (agQ a')) = true := hka
 rw [Bool.and_eq_true, decide_eq_true_eq] at h2
 obtain ⟨h3, h4⟩ := h2
 have e2 : a' = agQ a' := (sameA_iff _ _).1 h4
 have hrl : spRight a'.q = true ∧ a'.q.length ≤ 1000 := by
  unfold spPutErr at h3
  split at h3
  ·rename_i hr
   split at h3
   ·exact ⟨hr, by omega⟩
   ·omega
  ·omega
 obtain ⟨g1, g2⟩ := HGO.out a' rest hl hrl.1 hrl.2 hab.q
 refine ⟨by rw [e2, g1]; rfl, ?_⟩
 rw [g2, hl]
 exact List.drop_left
set_option maxRecDepth 20000 in
set_option maxHeartbeats 2000000 in
theorem rtake_118 {F : Nat → Prop} (A : Option Addr) (n c : Nat) (l : List UInt8) (w : World) (hr : RdX w F 1 A n c (l.map u8v)) (hF : ∀ g, F g → g < w.heap.size) (hn : n ≤ 100000000) :
  Calls Tryz.prog 24 #[.int .u8 118, .slice A n c] w (TakeR w F 118 l) := by
 obtain ⟨zb, w1, hzb, hzv, hZ, hB1⟩ := alloc_stepV w #[.bool false, .int .u64 0, .string ⟨#[]⟩, .int .u32 0, .string ⟨#[]⟩, .string ⟨#[]⟩, .slice none 0 0, .int .u8 0, .int .u64 0, .string ⟨#[]⟩, .slice none 0 0, .slice none 0 0] 52
 have hln : l.length = n := RdB.length (show RdB w w.heap.size A n c l from hr.1)
 have hrb : RdB w w.heap.size A n c l := hr.1
 have hop := qopen_any A n c l w1 (rd_wide (hrb.below hB1) hB1.size) (by omega)
 have hzw : w.heap.size ≤ zb := by omega
 go_enter Tryz.func24, Tryz.ntmps24
 go_upto_region 1 with fail
 rw [← hzb, ← hzv]
 clear hzb hzv
 go_wp2_with (with_reducible refine h_A ?_)
 refine hop.mono ?_
 rintro e w2 ⟨ob, rfl, hob, hR, hB2⟩
 have hZ2 := hZ.below hB2
 have hB02 := hB1.trans (hB2.mono hB1.size)
 have hs1 := hB1.size
 have hzl := hZ.lt
 clear hop hZ hB1 hB2
 obtain ⟨ab, w3, hab, hav, hX, hB3⟩ := alloc_stepV w2 #[.bool false, .int .u64 0, .string ⟨#[]⟩, .int .u32 0, .string ⟨#[]⟩, .string ⟨#[]⟩, .slice none 0 0, .int .u8 0, .int .u64 0, .string ⟨#[]⟩, .slice none 0 0, .slice none 0 0] 52
 go_upto_region 3 with fail
 rw [← hab, ← hav]
 have hZ3 := hZ2.below hB3
 have hB03 := hB02.trans (hB3.mono hB02.size)
 have hR3 := hR.below hB3
 have hzl2 := hZ2.lt
 have hza : zb < ab := by omega
 have hab2 : w2.heap.size ≤ ab := by omega
 have hoa : ob < ab := by have := hR.lt; omega
 have hF3 : ∀ g, (w1.heap.size ≤ g ∧ g < w2.heap.size) → g ≠ ab ∧ g ≠ zb := fun g hg => by omega
 clear hab hav hZ2 hB02 hR hB3
 have hgt := rvget_any A n c l w3 (rd_wide (hrb.below hB03) hB03.size) hn
 clear hR3
 go_wp2_with (with_reducible refine h_A ?_)
 refine hgt.mono ?_
 rintro e w4 ⟨x, h1, k, er, rfl, hV, hB4, hkl, hgo⟩
 have HGO := Lib.hid hgo
 unfold vlV
 have hX4 := hX.below hB4
 have hZ4 := hZ3.below hB4
 have hB04 := hB03.trans (hB4.mono hB03.size)
 have hs3 := hB03.size
 have hx3 := hX.lt
 clear hgt hX hZ3 hB03 hB4 hgo
 go_wp2_with (with_reducible refine h_B ?_)
 refine unhold (wp_box (v := .agg #[.int .u8 (x.kind : Int), .int .u64 (x.n : Int), .string (str x.s), .slice h1.A1 x.keys.length h1.c1, .slice h1.A2 x.list.length h1.c2]) (vs := [.int .u8 (x.kind : Int), .int .u64 (x.n : Int), .string (str x.s), .slice h1.A1 x.keys.length h1.c1, .slice h1.A2 x.list.length h1.c2]) rfl rfl rfl rfl hX4 rfl (by kernel_rfl) (by simp) (vl_one x h1) #[.bool false, .int .u64 0, .string ⟨#[]⟩, .int .u32 0, .string ⟨#[]⟩, .string ⟨#[]⟩, .slice none 0 0, .int .u8 (x.kind : Int), .int .u64 (x.n : Int), .string (str x.s), .slice h1.A1 x.keys.length h1.c1, .slice h1.A2 x.list.length h1.c2] (by simp) ?_)
 intro w5 hX5 hg5 _
 have hZ5 := hZ4.grown hg5 (sne (by omega))
 have hB05 := hB04.grown hg5 hB04.size (fun g hg => by injection hg with hg; omega)
 have hV5 : RV w5 (FN w3.heap.size w5) x h1 := (hV.keep (fun g hg => hg5.block g hg.2 (by intro e; injection e with e; have := hg.1; omega)) hg5.size).mono (fun g hg => ⟨hg.1, Nat.lt_of_lt_of_le hg.2 hg5.size⟩)
 clear hX4 hZ4 hg5 hB04 hV
 have HV5 := Lib.hid hV5
 have hbk : ∀ (we : World), w5.drew.grownBy we (some zb) → RV we (FN w.heap.size we) x h1 := fun we hge => by
  have hq := HV5.out
  exact (hq.keep (fun g hg => hge.block g hg.2 (by intro e; injection e with e; have := hg.1; omega)) hge.size).mono (fun g hg => ⟨by have := hg.1; omega, Nat.lt_of_lt_of_le hg.2 hge.size⟩)
 clear hV5
 have hcap := hr.1.cap
 have hmax := hr.1.max
 go_upto_region 20 with fail
 refine rg_start (fun W : World => Box W ab 52 #[.bool false, .int .u64 0, .string ⟨#[]⟩, .int .u32 0, .string ⟨#[]⟩, .string ⟨#[]⟩, .slice none 0 0, .int .u8 (x.kind : Int), .int .u64 (x.n : Int), .string (str x.s), .slice h1.A1 x.keys.length h1.c1, .slice h1.A2 x.list.length h1.c2]) (by kernel_rfl) ?_
 have hS : Box w5.drew ab 52 #[.bool false, .int .u64 0, .string ⟨#[]⟩, .int .u32 0, .string ⟨#[]⟩, .string ⟨#[]⟩, .slice none 0 0, .int .u8 (x.kind : Int), .int .u64 (x.n : Int), .string (str x.s), .slice h1.A1 x.keys.length h1.c1, .slice h1.A2 x.list.length h1.c2] := hX5
 replace hB05 := below_drewN hB05 1
 replace hZ5 : Box w5.drew zb 52 #[.bool false, .int .u64 0, .string ⟨#[]⟩, .int .u32 0, .string ⟨#[]⟩, .string ⟨#[]⟩, .slice none 0 0, .int .u8 0, .int .u64 0, .string ⟨#[]⟩, .slice none 0 0, .slice none 0 0] := hZ5
 have hB05 : Below w.heap.size w w5.drew := hB05
 skip
 clear hX5
 generalize w5.drew = wd at *
 refine rg_take 0 (v := ?_) rfl (by kernel_rfl) (by kernel_rfl) (by kernel_rfl) hS rfl ?_ ?_
 rotate_left
 ·intro wS hSw; have y0 := hSw.cell (j := 0) rfl; have y1 := hSw.cell (j := 1) rfl; have y2 := hSw.cell (j := 2) rfl; have y3 := hSw.cell (j := 3) rfl; have y4 := hSw.cell (j := 4) rfl; have y5 := hSw.cell (j := 5) rfl; have y6 := hSw.cell (j := 6) rfl; have y7 := hSw.cell (j := 7) rfl; have y8 := hSw.cell (j := 8) rfl; have y9 := hSw.cell (j := 9) rfl; have yA := hSw.cell (j := 10) rfl; have yB := hSw.cell (j := 11) rfl; go_simp; (with_reducible rfl)
 simp only [List.getElem_toArray, List.getElem_cons_zero, Act.put, List.setIfInBounds_toArray, List.set_cons_zero, List.set_cons_succ]
 refine rg_t 1 hS ?_
 simp only [g_S, Act.put]
 refine rg_t 2 hS ?_
 simp only [g_S, Act.put]
 refine rg_slice 3 slB rfl (by kernel_rfl) (by kernel_rfl) (by kernel_rfl) hS rfl rfl rfl hmax hcap k n c (.inr ⟨_, _, rfl, rfl⟩) (.inl ⟨rfl, rfl⟩) (.inl ⟨rfl, rfl⟩) (by intro h; cases h) (by omega) (by omega) (Nat.le_refl _) (Nat.le_refl _) ?_
 try simp only [g_S, Act.put]
 refine rg_one 4 rfl (by kernel_rfl) rfl (fun K hK => ?_)
 refine op_box (g := zb) (j := 0) (v := .agg #[.bool false, .int .u64 0, .string ⟨#[]⟩, .int .u32 0, .string ⟨#[]⟩, .string ⟨#[]⟩, .slice none 0 0, .int .u8 (x.kind : Int), .int .u64 (x.n : Int), .string (str x.s), .slice h1.A1 x.keys.length h1.c1, .slice h1.A2 x.list.length h1.c2]) (vs := (#[.bool false, .int .u64 0, .string ⟨#[]⟩, .int .u32 0, .string ⟨#[]⟩, .string ⟨#[]⟩, .slice none 0 0, .int .u8 (x.kind : Int), .int .u64 (x.n : Int), .string (str x.s), .slice h1.A1 x.keys.length h1.c1, .slice h1.A2 x.list.length h1.c2]).toList) rfl rfl rfl hZ5 rfl (by kernel_rfl) (by simp) sl_one #[.bool false, .int .u64 0, .string ⟨#[]⟩, .int .u32 0, .string ⟨#[]⟩, .string ⟨#[]⟩, .slice none 0 0, .int .u8 (x.kind : Int), .int .u64 (x.n : Int), .string (str x.s), .slice h1.A1 x.keys.length h1.c1, .slice h1.A2 x.list.length h1.c2] (by simp) ?_
 intro we hZe hge _
 have hS2 : Box we ab 52 #[.bool false, .int .u64 0, .string ⟨#[]⟩, .int .u32 0, .string ⟨#[]⟩, .string ⟨#[]⟩, .slice none 0 0, .int .u8 (x.kind : Int), .int .u64 (x.n : Int), .string (str x.s), .slice h1.A1 x.keys.length h1.c1, .slice h1.A2 x.list.length h1.c2] := hS.grown hge (sne (by omega))
 have hBe := hB05.grown hge hB05.size (fun g hg => by injection hg with hg; omega)
 have hqe := (hr.keep (w' := we) (fun g hg => hBe.block g (hF g hg)) hBe.size).cut k (by omega)
 refine hK _ _ hS2 ?_; clear hK K
 try simp only [g_S, Act.put]
 refine rg_t 5 hS2 ?_
 simp only [g_S, Act.put]
 refine rg_end (by kernel_rfl) ?_
 go_wp2_with (with_reducible refine h_A ?_)
 refine ret_box_tmp rfl hZe rfl rfl Tryz.underlying52 rfl (by kernel_rfl) rfl ?_
 refine ⟨⟨false, 0, [], xd0, [], x⟩, ⟨none, 0, h1⟩, _, _, _, _, rfl, ⟨(RA.zero we (FN w.heap.size we) true).n, (RA.zero we (FN w.heap.size we) true).s, (RA.zero we (FN w.heap.size we) true).x, (RA.zero we (FN w.heap.size we) true).q, (RA.zero we (FN w.heap.size we) true).ok, (RA.zero we (FN w.heap.size we) true).c, hbk we hge⟩, hqe.mono (fun g hg => .inl hg), by omega, hBe, rfl, fun a' rest hl hka hab => ?_⟩
 have h2 : (decide (errV a'.v = 0) && sameA a' (agX2 a')) = true := hka
 rw [Bool.and_eq_true, decide_eq_true_eq] at h2
 obtain ⟨h3, h4⟩ := h2
 have e2 : a' = agX2 a' := (sameA_iff _ _).1 h4
 have hl' : l = vlB a'.v ++ rest := by
  rw [hl]
  show vlP a'.v ++ rest = _
  rw [vlP, if_pos h3]
 obtain ⟨g1, g2⟩ := HGO.out a'.v rest hl' hab.v h3
 refine ⟨by rw [e2, g1]; rfl, ?_⟩
 rw [g2, hl', List.drop_left]
theorem rtake_any (kd : UInt8) (hk : kd ∈ kindL) {F : Nat → Prop} (A : Option Addr) (n c : Nat) (l : List UInt8) (w : World) (hr : RdX w F 1 A n c (l.map u8v)) (hF : ∀ g, F g → g < w.heap.size) (hn : n ≤ 100000000) :
  Calls Tryz.prog 24 #[.int .u8 (kd.toNat : Int), .slice A n c] w (TakeR w F kd l) := by
 unfold kindL at hk
 simp only [List.mem_cons, List.not_mem_nil, or_false] at hk
 rcases hk with rfl | rfl | rfl | rfl | rfl | rfl | rfl | rfl | rfl
 ·exact rtake_98 A n c l w hr hF hn
 ·exact rtake_110 A n c l w hr hF hn
 ·exact rtake_119 A n c l w hr hF hn
 ·exact rtake_100 A n c l w hr hF hn
 ·exact rtake_115 A n c l w hr hF hn
 ·exact rtake_116 A n c l w hr hF hn
 ·exact rtake_120 A n c l w hr hF hn
 ·exact rtake_114 A n c l w hr hF hn
 ·exact rtake_118 A n c l w hr hF hn
end Go.PH
end

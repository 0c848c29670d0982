/- Texts laid together: LkBegin, LkBegin2, LkFeed0, LkHead. -/
import Derived.Deep.Cut
import Derived.Test.YtfbkameikhgciaaGreatDoorMg06
import Derived.Test.YtfbkameikhgciaaGreatDoorMg07
import Derived.Test.YtfbkameikhgciaaGreatDoorMg08
import Derived.Test.YtfbkameikhgciaaGreatDoorMg22
set_option linter.all false
set_option linter.unusedSimpArgs false
set_option linter.unusedVariables false
set_option maxRecDepth 20000
set_option maxHeartbeats 8000000
section
namespace Go.PH
open Go.RowKit Go.Proofs
def hdrB : List UInt8 := [65, 77, 81, 80, 1, 1, 0, 10]
def startB : List UInt8 := [1, 1, 0, 1, 0, 9, 112, 111, 115, 116, 104, 111, 117, 115, 101]
def QA : List UInt8 := [1, 5, 0, 3, 0, 255, 16, 0]
def QB : List UInt8 := [1, 8, 0, 0]
def qG (code : Nat) (text : List UInt8) : List UInt8 := [1, 11, 0, 3] ++ be 2 code ++ be 1 text.length ++ text
def QC : List UInt8 := [1, 12, 0, 0]
theorem ZK {code : Nat} {L : List SA} {kd : List UInt8} {pm : Nat → List UInt8} {bs : List UInt8} (hcd : code < 256) (hk : yg (zZ 1 code) = kd) (hf : (zZ 1 code).isSome = true) (hn : L.length = kd.length) (hn8 : kd.length ≤ 7) (hpl : ∀ i, i < kd.length → (pm i).length ≤ 70000)
  (hbs : qV 1 code false (zy L) ++ (List.range kd.length).flatMap pm = bs)
  (hput : ∀ i (h : i < L.length) (h' : i < kd.length) (base : Nat) (W : World) (A' : Option Addr) (n' c' : Nat) (l : List UInt8), OwnB W base A' n' c' l → base ≤ W.heap.size → n' ≤ 100000000 → Calls Tryz.prog 71 #[.slice A' n' c', .int .u8 (kd[i].toNat : Int), .agg (saC L[i]).toArray] W (PutA W base (blk A') (l ++ pm i))) :
  CtlC code L bs := by
 intro A n c w he hr
 have hnl := yw vY hr
 have h := J3 1 code false L kd pm A n c w he hr hk hf (by omega) (by omega) (by simp) (by omega) hcd (fun i hi => hpl i (by omega)) hput
 have hnk : n = kd.length := by omega
 rw [hnk, hbs] at h
 rw [hnk]
 exact h
theorem ctl1 : CtlC 1 [⟨true, 0, [112, 111, 115, 116, 104, 111, 117, 115, 101]⟩] startB := by
 refine ZK (kd := [116]) (pm := fun _ => be 2 9 ++ [112, 111, 115, 116, 104, 111, 117, 115, 101]) (by omega) (by decide) (by decide) rfl (by decide) (by intro i _; simp [be]) (by decide) ?_
 intro i h h' base W A' n' c' l ho hb hn
 have hi : i = 0 := by simp at h; omega
 subst hi
 exact zaA [112, 111, 115, 116, 104, 111, 117, 115, 101] base A' n' c' l W ho hb hn (by simp)
theorem ctl5 : CtlC 5 [⟨true, 255, []⟩, ⟨true, 4096, []⟩] QA := by
 refine ZK (kd := [119, 119]) (pm := fun i => if i = 0 then be 2 255 else be 2 4096) (by omega) (by decide) (by decide) rfl (by decide) (by intro i _; split <;> simp [be]) (by decide) ?_
 intro i h h' base W A' n' c' l ho hb hn
 have hi : i = 0 ∨ i = 1 := by simp at h; omega
 rcases hi with rfl | rfl
 ·exact Vq 255 base A' n' c' l W ho hb hn (by omega)
 ·exact Vq 4096 base A' n' c' l W ho hb hn (by omega)
theorem ctl8 : CtlC 8 [] QB := by
 refine ZK (kd := []) (pm := fun i => []) (by omega) (by decide) (by decide) rfl (by decide) (by intro i _; simp) (by decide) ?_
 intro i h
 simp at h
theorem zax : CtlC 12 [] QC := by
 refine ZK (kd := []) (pm := fun i => []) (by omega) (by decide) (by decide) rfl (by decide) (by intro i _; simp) (by decide) ?_
 intro i h
 simp at h
theorem zay (code : Nat) (text : List UInt8) (hc : code < 65536) (ht : text.length < 256) : CtlC 11 [⟨true, code, []⟩, ⟨true, 0, text⟩] (qG code text) := by
 refine ZK (kd := [119, 115]) (pm := fun i => if i = 0 then be 2 code else be 1 text.length ++ text) (by omega) (by decide) (by decide) rfl (by simp) (by intro i _; split <;> simp [zn] <;> omega) ?_ ?_
 ·simp [qV, zy, qG, be, List.range, List.range.loop]
 intro i h h' base W A' n' c' l ho hb hn
 have hi : i = 0 ∨ i = 1 := by simp at h; omega
 rcases hi with rfl | rfl
 ·exact Vq code base A' n' c' l W ho hb hn (by omega)
 ·exact zaz text base A' n' c' l W ho hb hn (by omega)
structure WroteS (w : World) (lb base : Nat) (cs : Array Value) (A : Option Addr) (l : List UInt8) (st : Nat) (w' : World) : Prop where
 ex : ∃ A2 c2, Box w' lb 61 (((cs.setIfInBounds 5 (bPtr lb 5)).setIfInBounds 6 (.slice A2 l.length c2)).setIfInBounds 0 (.int .u8 (st : Int))) ∧ Own w' base 5 1 A2 l.length c2 (l.map u8v) ∧ blk A2 ≠ some lb ∧ (blk A2 = blk A ∨ ∀ k, blk A2 = some k → w.heap.size ≤ k)
 keep : KeepF (fun k => k = lb ∨ blk A = some k) w w'
theorem JY (code : Nat) (text : List UInt8) (hcode : code < 65536) (htext : text.length < 256) (lb sz base sn sc : Nat) (cs : Array Value) (p : Value) (SA : Option Addr) (l : List UInt8) (w : World) (he : MEnv w)
  (hb : Box w lb 61 cs) (hs : cs.size = 8) (h4 : cs[4]? = some (.int .u64 (sz : Int))) (hsz : sz ≤ 1000000) (h5 : cs[5]? = some p) (hp : p = .pointer none ∨ p = bPtr lb 5) (h6 : cs[6]? = some (.slice SA sn sc)) (hown : Own w base 5 1 SA sn sc (l.map u8v)) (hne : blk SA ≠ some lb) (hbase : base ≤ w.heap.size) (hsn : sn ≤ 10000000000) :
  Calls Tryz.prog 33 #[.pointer (some ⟨lb, 0, none⟩), .int .u64 (code : Int), .string (str text)] w fun e w' => e = .returned (.tuple #[]) ∧ WroteS w lb base cs SA (l ++ ctlB sz (qG code text)) 5 w' := by
 have ha1 : ∀ W, Calls Tryz.prog 37 #[.int .u64 (code : Int), .string ⟨#[]⟩] W fun e w' => e = .returned (.agg #[.bool true, .int .u64 (code : Int), .string ⟨#[]⟩, .int .u32 0, .string ⟨#[]⟩, .string ⟨#[]⟩, .slice none 0 0, .int .u8 0, .int .u64 0, .string ⟨#[]⟩, .slice none 0 0, .slice none 0 0]) ∧ Below W.heap.size W w' := fun W => jo code [] W
 have ha2 : ∀ W, Calls Tryz.prog 37 #[.int .u64 0, .string (str text)] W fun e w' => e = .returned (.agg #[.bool true, .int .u64 0, .string (str text), .int .u32 0, .string ⟨#[]⟩, .string ⟨#[]⟩, .slice none 0 0, .int .u8 0, .int .u64 0, .string ⟨#[]⟩, .slice none 0 0, .slice none 0 0]) ∧ Below W.heap.size W w' := fun W => jo 0 text W
 go_enter Tryz.func33, Tryz.ntmps33
 go_wp2_with (with_reducible refine h_A ?_)
 (with_reducible refine (ha1 _).mono ?_)
 rintro e w1 ⟨rfl, hB1⟩
 go_wp2_with (with_reducible refine h_A ?_)
 (with_reducible refine (ha2 _).mono ?_)
 rintro e w2 ⟨rfl, hB2⟩
 have hB3 := hB1.trans (hB2.mono hB1.size)
 clear ha1 ha2
 obtain ⟨gb, w3, hqb, hqv, hG, hB23⟩ := zr w2 #[.bool true, .int .u64 (code : Int), .string ⟨#[]⟩, .int .u32 0, .string ⟨#[]⟩, .string ⟨#[]⟩, .slice none 0 0, .int .u8 0, .int .u64 0, .string ⟨#[]⟩, .slice none 0 0, .slice none 0 0, .bool true, .int .u64 0, .string (str text), .int .u32 0, .string ⟨#[]⟩, .string ⟨#[]⟩, .slice none 0 0, .int .u8 0, .int .u64 0, .string ⟨#[]⟩, .slice none 0 0, .slice none 0 0] 80
 have hlit := xe (w := w2) w2.heap.size #[.bool true, .int .u64 (code : Int), .string ⟨#[]⟩, .int .u32 0, .string ⟨#[]⟩, .string ⟨#[]⟩, .slice none 0 0, .int .u8 0, .int .u64 0, .string ⟨#[]⟩, .slice none 0 0, .slice none 0 0, .bool true, .int .u64 0, .string (str text), .int .u32 0, .string ⟨#[]⟩, .string ⟨#[]⟩, .slice none 0 0, .int .u8 0, .int .u64 0, .string ⟨#[]⟩, .slice none 0 0, .slice none 0 0] 80 2 (Nat.le_refl _) (by simp [maxLen]) (size := 12) rfl (by omega)
 rw [← hqv, ← hqb] at hlit
 have hra : Rd w3 w3.heap.size 12 (some ⟨gb, 0, none⟩) 2 2 (rowC saC [⟨true, code, []⟩, ⟨true, 0, text⟩]) := hlit.rd
 have hB4 := hB3.trans (hB23.mono hB3.size)
 have hsd := kC 11 [⟨true, code, []⟩, ⟨true, 0, text⟩] (qG code text) (zay code text hcode htext) (by simp [qG, zn]; omega) lb sz base sn sc cs p SA l (some ⟨gb, 0, none⟩) 2 2 w3 (he.on hB4) hra (hb.below hB4) hs h4 hsz h5 hp h6 (zg hown hB4) hne (by have := hB4.size; omega) hsn
 rw [show (((11 : Nat)) : Int) = 11 from rfl] at hsd
 clear hlit hra hG hB23 hB1 hB2
 go_wp2_with (with_reducible refine h_A ?_)
 rw [← hqb, ← hqv]
 clear hqb hqv
 (with_reducible refine hsd.mono ?_)
 rintro e w5 ⟨rfl, hW⟩
 clear hsd
 obtain ⟨⟨A2, c2, hb5, hO5, hn5, hA5⟩, hk5⟩ := hW
 have hlt0 : 0 < ((cs.setIfInBounds 5 (bPtr lb 5)).setIfInBounds 6 (.slice A2 (l ++ ctlB sz (qG code text)).length c2)).size := by rw [Array.size_setIfInBounds, Array.size_setIfInBounds, hs]; omega
 go_wp2_with (with_reducible refine h_B ?_)
 refine zc (yz rfl rfl rfl rfl hb5 (j := 0) (v := .int .u8 5) rfl (by kernel_rfl) hlt0 ?_)
 intro w6 hb6 hg6 hz6
 clear hz6
 go_wp2_with (with_reducible refine h_B ?_)
 go_end0
 have hB4' := hB4
 refine ⟨rfl, ⟨⟨A2, c2, hb6, zf hO5 hg6 (fun k hk e => hn5 (by rw [hk, ← e])), hn5, hA5.imp id (fun e k hk => by have := e k hk; have := hB4.size; omega)⟩, ?_⟩⟩
 exact ((KeepF.below hB4).trans hk5 (fun k hk => .inl hk)).trans (.grown (F := fun k => k = lb ∨ blk SA = some k) hg6 (fun k hk => .inl (.inl (by injection hk with hk; exact hk.symm)))) (fun k hk => .inl hk)
theorem MEnv.onK {w w' : World} {F : Nat → Prop} (h : MEnv w) (hK : KeepF F w w') (hF : ¬ F 0) : MEnv w' where
 mx := by
  have hl := h.lt
  obtain ⟨m, hm⟩ := h.mx
  refine ⟨m, ?_⟩
  have := hK.2.1 _ hl hF
  rw [← hm]
  simp only [World.cell?, this]
theorem kB (lb sz base sn sc n c B : Nat) (x2 x3 x7 p : Value) (RA SA : Option Addr) (l r : List UInt8) (w : World) (he : MEnv w) (hb : Box w lb 61 #[.int .u8 0, .slice RA n c, x2, x3, .int .u64 (sz : Int), p, .slice SA sn sc, x7]) (hr : RdB w B RA n c r) (hBw : B ≤ w.heap.size) (hsz : sz ≤ 1000000) (hp : p = .pointer none ∨ p = bPtr lb 5)
  (hown : Own w base 5 1 SA sn sc (l.map u8v)) (hne : blk SA ≠ some lb) (hbase : base ≤ w.heap.size) (hsn : sn ≤ 1000000000) (hn : n ≤ 1000000000) (hl0 : 0 ≠ lb) (hg0 : 0 < base) (h8 : r.take 8 = hdrB) :
  Calls Tryz.prog 25 #[.pointer (some ⟨lb, 0, none⟩)] w fun e w' => e = .returned (.tuple #[]) ∧ 8 ≤ n ∧ (∃ A2 c2, Box w' lb 61 #[.int .u8 1, .slice (cutA RA 1 8 c) (n - 8) (c - 8), x2, x3, .int .u64 (sz : Int), bPtr lb 5, .slice A2 (l ++ hdrB ++ ctlB sz startB).length c2, x7] ∧
   Own w' base 5 1 A2 (l ++ hdrB ++ ctlB sz startB).length c2 ((l ++ hdrB ++ ctlB sz startB).map u8v) ∧ blk A2 ≠ some lb ∧ (blk A2 = blk SA ∨ ∀ k, blk A2 = some k → w.heap.size ≤ k)) ∧ KeepF (fun k => k = lb ∨ blk SA = some k) w w' := by
 have hn8 : 8 ≤ n := by
  have h1 := hr.length
  have h2 := congrArg List.length h8
  rw [List.length_take] at h2
  have h3 : hdrB.length = 8 := rfl
  omega
 have hqq : ∀ k, k = min n 8 → ((str (r.take k)).toList != (str (hdrB.take k)).toList) = false := fun k e => by rw [e, Nat.min_eq_right hn8, h8]; simp [zt, hdrB]
 have hrl := hr.length
 obtain ⟨m, hm⟩ : ∃ m, m = min n 8 := ⟨_, rfl⟩
 have hmin2 : min (n : Int) 8 = (m : Int) := by omega
 have hmn : m ≤ n := by omega
 have hm8 : m ≤ 8 := by omega
 have hd2 : Bd (some (Value.int .i64 (m : Int))) n m := .inr ⟨_, _, rfl, rfl⟩
 have hq := hqq m hm
 have hq' : ((str (r.take m)).toList == (str (hdrB.take m)).toList) = (!false) := by rw [← hq, bne]; simp
 clear hqq
 have HMn := Lib.hid hm
 clear hm
 have hcv := fun (W : World) (h : Below w.heap.size w W) => jg (P := Tryz.prog) Tryz.underlying55 Tryz.underlying9 Tryz.underlying5 (RdB.cut (hr.below' h hBw) (lo := 0) (k := m) (by omega))
 simp only [Nat.sub_zero, List.drop_zero] at hcv
 have hrc := hr.cap
 have hrm := hr.max
 have x1 := hb.c1
 go_enter Tryz.func25, Tryz.ntmps25
 go_upto_region 1 with fail
 refine zD (fun W : World => Below w.heap.size w W) (by kernel_rfl) ?_
 have hS : Below w.heap.size w w.drew := za (Below.refl _ _) 1
 generalize w.drew = wd at *
 refine rg_t 0 hS ?_
 simp only [List.getElem_toArray, List.getElem_cons_zero, Act.put, List.setIfInBounds_toArray, List.set_cons_zero, List.set_cons_succ]
 refine rg_t 1 hS ?_
 simp only [g_S, Act.put]
 refine rg_t 2 hS ?_
 simp only [g_S, Act.put]
 refine zv 3 (v := ?_) rfl (by kernel_rfl) (by kernel_rfl) (by kernel_rfl) hS rfl ?_ ?_
 rotate_left
 ·intro wS hSw; have k0 := (hb.below hSw).cell (j := 1) rfl; go_simp; (with_reducible rfl)
 simp only [g_S, Act.put]
 refine rg_t 4 hS ?_
 simp only [g_S, Act.put]
 refine j8 5 slB rfl (by kernel_rfl) (by kernel_rfl) (by kernel_rfl) hS rfl rfl rfl hrm hrc 0 m c (.inl ⟨rfl, rfl⟩) hd2 (.inl ⟨rfl, rfl⟩) (fun h => by cases h) (by omega) (by omega) (Nat.le_refl _) (by omega) ?_
 try simp only [g_S, Act.put]
 simp only [Nat.sub_zero]
 refine zv 6 (v := ?_) rfl (by kernel_rfl) (by kernel_rfl) (by kernel_rfl) hS rfl ?_ ?_
 rotate_left
 ·intro wS hSw; have k0 := hcv _ hSw; go_simp; (with_reducible rfl)
 simp only [g_S, Act.put]
 refine rg_t 7 hS ?_
 simp only [g_S, Act.put]
 refine zv 8 (v := ?_) rfl (by kernel_rfl) (by kernel_rfl) (by kernel_rfl) hS rfl ?_ ?_
 rotate_left
 ·intro wS hSw; rw [qF (x := .const <| .string ⟨#[65, 77, 81, 80, 1, 1, 0, 10]⟩) (lo := none) (hi := some <| .tmp 17) Tryz.underlying9 (l := hdrB) (i := 0) (j := m)] <;> first | rfl | omega | exact hm8 | exact .inl ⟨rfl, rfl⟩ | exact .inr ⟨_, _, rfl, rfl⟩
 simp only [g_S, Act.put]
 simp only [List.drop_zero]
 refine rg_t 9 hS ?_
 simp only [g_S, Act.put]
 refine rg_t 10 hS ?_
 simp only [g_S, Act.put]
 refine zK (by kernel_rfl) ?_
 clear hcv x1
 have hme : m = 8 := by have := HMn.out; omega
 have hq8 : ((m : Int) == 8) = true := by rw [hme]; rfl
 have HME := Lib.hid hme
 have hm8' : 8 ≤ m := by omega
 have hbd := hb.below hS
 have hwd : w.heap.size ≤ wd.heap.size := hS.size
 have x1 := hbd.c1
 clear hme h8 hb hr
 go_wp2_with (first | (with_reducible refine zT ?_) | (with_reducible refine yc ?_) | (with_reducible refine xd ?_))
 refine zc (Vj slB rfl rfl rfl hrm hrc 8 n c (.inr ⟨_, _, rfl, by omega⟩) (.inl ⟨rfl, rfl⟩) (.inl ⟨rfl, rfl⟩) (by intro h; cases h) hn8 hrc (Nat.le_refl _) (Nat.le_refl _) ?_)
 go_wp2_with (with_reducible refine h_B ?_)
 refine zc (yz rfl rfl rfl rfl hbd (j := 1) (v := .slice (cutA RA 1 8 c) (n - 8) (c - 8)) rfl (by kernel_rfl) (by simp) ?_)
 intro w1 hb1 hg1 hz1
 have HZ1 := Lib.hid hz1
 clear hz1
 have hO1 := zf (zg hown hS) hg1 (fun k hk e => hne (by rw [hk, ← e]))
 have hK1 : KeepF (fun k => k = lb ∨ blk SA = some k) w w1 := (KeepF.below hS).trans (.grown (F := fun k => k = lb ∨ blk SA = some k) hg1 (fun k hk => .inl (.inl (by injection hk with hk; exact hk.symm)))) (fun k hk => .inl hk)
 have hws := vX bplL w1 _ hb1 rfl p rfl hp SA l hdrB rfl hO1 hne (by have := HZ1.out; omega) (by have : hdrB.length = 8 := rfl; omega)
 clear x1 hbd hO1
 unfold hdrB at hws
 go_wp2_with (with_reducible refine h_B ?_)
 refine hws.mono ?_
 rintro e w2 ⟨rfl, hW2⟩
 clear hws
 obtain ⟨⟨A2, c2, hb2, hO2, hn2, hA2⟩, hK2⟩ := hW2
 change Own w2 base 5 1 A2 (l ++ hdrB).length c2 ((l ++ hdrB).map u8v) at hO2
 replace hb2 : Box w2 lb 61 #[.int .u8 0, .slice (cutA RA 1 8 c) (n - 8) (c - 8), x2, x3, .int .u64 (sz : Int), bPtr lb 5, .slice A2 (l ++ hdrB).length c2, x7] := hb2
 go_wp2_with (with_reducible refine h_B ?_)
 refine zc (yz rfl rfl rfl rfl hb2 (j := 0) (v := .int .u8 1) rfl (by kernel_rfl) (by simp) ?_)
 intro w3 hb3 hg3 hz3
 have HZ3 := Lib.hid hz3
 clear hz3
 replace hb3 : Box w3 lb 61 #[.int .u8 1, .slice (cutA RA 1 8 c) (n - 8) (c - 8), x2, x3, .int .u64 (sz : Int), bPtr lb 5, .slice A2 (l ++ hdrB).length c2, x7] := hb3
 have hO3 := zf hO2 hg3 (fun k hk e => hn2 (by rw [hk, ← e]))
 have ha1 : ∀ W, Calls Tryz.prog 37 #[.int .u64 0, .string ⟨#[112, 111, 115, 116, 104, 111, 117, 115, 101]⟩] W fun e w' => e = .returned (.agg #[.bool true, .int .u64 0, .string ⟨#[112, 111, 115, 116, 104, 111, 117, 115, 101]⟩, .int .u32 0, .string ⟨#[]⟩, .string ⟨#[]⟩, .slice none 0 0, .int .u8 0, .int .u64 0, .string ⟨#[]⟩, .slice none 0 0, .slice none 0 0]) ∧ Below W.heap.size W w' := fun W => jo 0 [112, 111, 115, 116, 104, 111, 117, 115, 101] W
 have hK3 : KeepF (fun k => k = lb ∨ blk SA = some k) w w3 := (hK1.trans hK2 (fun k hk => .inl hk)).trans (.grown (F := fun k => k = lb) hg3 (fun k hk => .inl (by injection hk with hk; exact hk.symm))) (fun k hk => .inl (.inl hk))
 clear hb1 hb2 hO2 hK1 hg1 hg3
 go_wp2_with (with_reducible refine h_B ?_)
 (with_reducible refine (ha1 _).mono ?_)
 rintro e w4 ⟨rfl, hB4⟩
 clear ha1
 obtain ⟨gb, w5, hqb, hqv, hG, hB45⟩ := zr w4 #[.bool true, .int .u64 0, .string ⟨#[112, 111, 115, 116, 104, 111, 117, 115, 101]⟩, .int .u32 0, .string ⟨#[]⟩, .string ⟨#[]⟩, .slice none 0 0, .int .u8 0, .int .u64 0, .string ⟨#[]⟩, .slice none 0 0, .slice none 0 0] 80
 have hlit := xe (w := w4) w4.heap.size #[.bool true, .int .u64 0, .string ⟨#[112, 111, 115, 116, 104, 111, 117, 115, 101]⟩, .int .u32 0, .string ⟨#[]⟩, .string ⟨#[]⟩, .slice none 0 0, .int .u8 0, .int .u64 0, .string ⟨#[]⟩, .slice none 0 0, .slice none 0 0] 80 1 (Nat.le_refl _) (by simp [maxLen]) (size := 12) rfl (by omega)
 rw [← hqv, ← hqb] at hlit
 have hra : Rd w5 w5.heap.size 12 (some ⟨gb, 0, none⟩) 1 1 (rowC saC [⟨true, 0, [112, 111, 115, 116, 104, 111, 117, 115, 101]⟩]) := hlit.rd
 have hB5 := hB4.trans (hB45.mono hB4.size)
 have hK5 : KeepF (fun k => k = lb ∨ blk SA = some k) w w5 := hK3.trans (KeepF.below (F := fun k => k = lb) hB5) (fun k hk => .inl (.inl hk))
 have hhl : hdrB.length = 8 := rfl
 have hll := j9 hown
 have hsd := kC 1 [⟨true, 0, [112, 111, 115, 116, 104, 111, 117, 115, 101]⟩] startB ctl1 (by decide) lb sz base (l ++ hdrB).length c2 _ (bPtr lb 5) A2 (l ++ hdrB) (some ⟨gb, 0, none⟩) 1 1 w5 (he.onK hK5 (fun e => by rcases e with e | e; exact hl0 e; have := (hown.blk_lt e).1; omega)) hra (hb3.below hB5) rfl rfl hsz rfl (.inr rfl) rfl (zg hO3 hB5) hn2 (by have := hK5.1; omega) (by rw [List.length_append]; omega)
 rw [show (((1 : Nat)) : Int) = 1 from rfl] at hsd
 clear hlit hra hG hB45 hhl hll
 go_wp2_with (with_reducible refine h_B ?_)
 rw [← hqb, ← hqv]
 clear hqb hqv
 (with_reducible refine hsd.mono ?_)
 rintro e w6 ⟨rfl, hW6⟩
 clear hsd
 obtain ⟨⟨A6, c6, hb6, hO6, hn6, hA6⟩, hK6⟩ := hW6
 go_wp2
 go_end0
 refine ⟨rfl, hn8, ⟨A6, c6, hb6, hO6, hn6, ?_⟩, hK5.trans (hK6.weak (G := fun k => k = lb ∨ blk A2 = some k) (fun k hk => .inl hk)) ?_⟩
 ·rcases hA6 with h | h
  ·rw [h]
   rcases hA2 with h2 | h2
   ·exact .inl h2
   ·exact .inr fun k hk => by have := h2 k hk; have := HZ1.out; omega
  ·exact .inr fun k hk => by have := h k hk; have := hK5.1; omega
 ·intro k hk
  rcases hk with hk | hk
  ·exact .inl (.inl hk)
  ·rcases hA2 with h2 | h2
   ·exact .inl (.inr (by rw [← h2]; exact hk))
   ·exact .inr (by have := h2 k hk; have := HZ1.out; omega)
end Go.PH
end
section
namespace Go.PH
open Go.RowKit Go.Proofs
theorem vx (lb sz base sn sc n c B : Nat) (x2 x3 x7 p : Value) (RA SA : Option Addr) (l r : List UInt8) (w : World) (he : MEnv w) (hb : Box w lb 61 #[.int .u8 0, .slice RA n c, x2, x3, .int .u64 (sz : Int), p, .slice SA sn sc, x7]) (hr : RdB w B RA n c r) (hBw : B ≤ w.heap.size) (hsz : sz ≤ 1000000) (hp : p = .pointer none ∨ p = bPtr lb 5)
  (hown : Own w base 5 1 SA sn sc (l.map u8v)) (hne : blk SA ≠ some lb) (hbase : base ≤ w.heap.size) (hsn : sn ≤ 1000000000) (hn : n ≤ 1000000000) (hl0 : 0 ≠ lb) (hg0 : 0 < base) (h8 : r.take 8 ≠ hdrB.take n) :
  Calls Tryz.prog 25 #[.pointer (some ⟨lb, 0, none⟩)] w fun e w' => e = .returned (.tuple #[]) ∧ (∃ A2 c2, Box w' lb 61 #[.int .u8 5, .slice RA n c, x2, x3, .int .u64 (sz : Int), bPtr lb 5, .slice A2 (l ++ hdrB).length c2, x7] ∧
   Own w' base 5 1 A2 (l ++ hdrB).length c2 ((l ++ hdrB).map u8v) ∧ blk A2 ≠ some lb ∧ (blk A2 = blk SA ∨ ∀ k, blk A2 = some k → w.heap.size ≤ k)) ∧ KeepF (fun k => k = lb ∨ blk SA = some k) w w' := by
 have hqq : ∀ k, k = min n 8 → ((str (r.take k)).toList != (str (hdrB.take k)).toList) = true := fun k e => by
  have h1 := hr.length
  rw [e, zt, zt]
  simp only [bne_iff_ne, ne_eq]
  intro h
  apply h8
  rcases Nat.le_total n 8 with h2 | h2
  ·rw [Nat.min_eq_left h2] at h
   rw [← h, List.take_of_length_le (by omega), List.take_of_length_le (by omega)]
  ·rw [Nat.min_eq_right h2] at h
   rw [h]
   rw [List.take_of_length_le (by decide), List.take_of_length_le (by have : hdrB.length = 8 := rfl; omega)]
 have hrl := hr.length
 obtain ⟨m, hm⟩ : ∃ m, m = min n 8 := ⟨_, rfl⟩
 have hmin2 : min (n : Int) 8 = (m : Int) := by omega
 have hmn : m ≤ n := by omega
 have hm8 : m ≤ 8 := by omega
 have hd2 : Bd (some (Value.int .i64 (m : Int))) n m := .inr ⟨_, _, rfl, rfl⟩
 have hq := hqq m hm
 have hq' : ((str (r.take m)).toList == (str (hdrB.take m)).toList) = (!true) := by rw [← hq, bne]; simp
 clear hqq
 have HMn := Lib.hid hm
 clear hm
 have hcv := fun (W : World) (h : Below w.heap.size w W) => jg (P := Tryz.prog) Tryz.underlying55 Tryz.underlying9 Tryz.underlying5 (RdB.cut (hr.below' h hBw) (lo := 0) (k := m) (by omega))
 simp only [Nat.sub_zero, List.drop_zero] at hcv
 have hrc := hr.cap
 have hrm := hr.max
 have x1 := hb.c1
 go_enter Tryz.func25, Tryz.ntmps25
 go_upto_region 1 with fail
 refine zD (fun W : World => Below w.heap.size w W) (by kernel_rfl) ?_
 have hS : Below w.heap.size w w.drew := za (Below.refl _ _) 1
 generalize w.drew = wd at *
 refine rg_t 0 hS ?_
 simp only [List.getElem_toArray, List.getElem_cons_zero, Act.put, List.setIfInBounds_toArray, List.set_cons_zero, List.set_cons_succ]
 refine rg_t 1 hS ?_
 simp only [g_S, Act.put]
 refine rg_t 2 hS ?_
 simp only [g_S, Act.put]
 refine zv 3 (v := ?_) rfl (by kernel_rfl) (by kernel_rfl) (by kernel_rfl) hS rfl ?_ ?_
 rotate_left
 ·intro wS hSw; have k0 := (hb.below hSw).cell (j := 1) rfl; go_simp; (with_reducible rfl)
 simp only [g_S, Act.put]
 refine rg_t 4 hS ?_
 simp only [g_S, Act.put]
 refine j8 5 slB rfl (by kernel_rfl) (by kernel_rfl) (by kernel_rfl) hS rfl rfl rfl hrm hrc 0 m c (.inl ⟨rfl, rfl⟩) hd2 (.inl ⟨rfl, rfl⟩) (fun h => by cases h) (by omega) (by omega) (Nat.le_refl _) (by omega) ?_
 try simp only [g_S, Act.put]
 simp only [Nat.sub_zero]
 refine zv 6 (v := ?_) rfl (by kernel_rfl) (by kernel_rfl) (by kernel_rfl) hS rfl ?_ ?_
 rotate_left
 ·intro wS hSw; have k0 := hcv _ hSw; go_simp; (with_reducible rfl)
 simp only [g_S, Act.put]
 refine rg_t 7 hS ?_
 simp only [g_S, Act.put]
 refine zv 8 (v := ?_) rfl (by kernel_rfl) (by kernel_rfl) (by kernel_rfl) hS rfl ?_ ?_
 rotate_left
 ·intro wS hSw; rw [qF (x := .const <| .string ⟨#[65, 77, 81, 80, 1, 1, 0, 10]⟩) (lo := none) (hi := some <| .tmp 17) Tryz.underlying9 (l := hdrB) (i := 0) (j := m)] <;> first | rfl | omega | exact hm8 | exact .inl ⟨rfl, rfl⟩ | exact .inr ⟨_, _, rfl, rfl⟩
 simp only [g_S, Act.put]
 simp only [List.drop_zero]
 refine rg_t 9 hS ?_
 simp only [g_S, Act.put]
 refine rg_t 10 hS ?_
 simp only [g_S, Act.put]
 refine zK (by kernel_rfl) ?_
 clear hcv x1
 have hbd := hb.below hS
 have hwd : w.heap.size ≤ wd.heap.size := hS.size
 have hws := vX bplL wd _ hbd rfl p rfl hp SA l hdrB rfl (zg hown hS) hne (by omega) (by have : hdrB.length = 8 := rfl; omega)
 have hK1 : KeepF (fun k => k = lb ∨ blk SA = some k) w wd := .below hS
 clear h8 hb hr hbd
 unfold hdrB at hws
 go_wp2_with (with_reducible refine h_B ?_)
 refine hws.mono ?_
 rintro e w2 ⟨rfl, hW2⟩
 clear hws
 obtain ⟨⟨A2, c2, hb2, hO2, hn2, hA2⟩, hK2⟩ := hW2
 change Own w2 base 5 1 A2 (l ++ hdrB).length c2 ((l ++ hdrB).map u8v) at hO2
 replace hb2 : Box w2 lb 61 #[.int .u8 0, .slice RA n c, x2, x3, .int .u64 (sz : Int), bPtr lb 5, .slice A2 (l ++ hdrB).length c2, x7] := hb2
 go_wp2_with (with_reducible refine h_B ?_)
 refine zc (yz rfl rfl rfl rfl hb2 (j := 0) (v := .int .u8 5) rfl (by kernel_rfl) (by simp) ?_)
 intro w3 hb3 hg3 hz3
 clear hz3
 replace hb3 : Box w3 lb 61 #[.int .u8 5, .slice RA n c, x2, x3, .int .u64 (sz : Int), bPtr lb 5, .slice A2 (l ++ hdrB).length c2, x7] := hb3
 have hO3 := zf hO2 hg3 (fun k hk e => hn2 (by rw [hk, ← e]))
 have hK3 : KeepF (fun k => k = lb ∨ blk SA = some k) w w3 := (hK1.trans hK2 (fun k hk => .inl hk)).trans (.grown (F := fun k => k = lb) hg3 (fun k hk => .inl (by injection hk with hk; exact hk.symm))) (fun k hk => .inl (.inl hk))
 go_wp2_with (with_reducible refine h_B ?_)
 go_end0
 exact ⟨rfl, ⟨A2, c2, hb3, hO3, hn2, hA2.imp id (fun e k hk => by have := e k hk; omega)⟩, hK3⟩
theorem Yo (lb sz base sn sc n c B : Nat) (x2 x3 x7 p : Value) (RA SA : Option Addr) (l r : List UInt8) (w : World) (he : MEnv w) (hb : Box w lb 61 #[.int .u8 0, .slice RA n c, x2, x3, .int .u64 (sz : Int), p, .slice SA sn sc, x7]) (hr : RdB w B RA n c r) (hBw : B ≤ w.heap.size) (hsz : sz ≤ 1000000) (hp : p = .pointer none ∨ p = bPtr lb 5)
  (hown : Own w base 5 1 SA sn sc (l.map u8v)) (hne : blk SA ≠ some lb) (hbase : base ≤ w.heap.size) (hsn : sn ≤ 1000000000) (hn : n ≤ 1000000000) (hl0 : 0 ≠ lb) (hg0 : 0 < base) (hn8 : n < 8) (h8 : r = hdrB.take n) :
  Calls Tryz.prog 25 #[.pointer (some ⟨lb, 0, none⟩)] w fun e w' => e = .returned (.tuple #[]) ∧ Below w.heap.size w w' := by
 have hqq : ∀ k, k = min n 8 → ((str (r.take k)).toList != (str (hdrB.take k)).toList) = false := fun k e => by
  have h1 := hr.length
  rw [e, Nat.min_eq_left (by omega), zt, zt, List.take_of_length_le (by omega), ← h8]
  simp
 clear h8
 have hrl := hr.length
 obtain ⟨m, hm⟩ : ∃ m, m = min n 8 := ⟨_, rfl⟩
 have hmin2 : min (n : Int) 8 = (m : Int) := by omega
 have hmn : m ≤ n := by omega
 have hm8 : m ≤ 8 := by omega
 have hd2 : Bd (some (Value.int .i64 (m : Int))) n m := .inr ⟨_, _, rfl, rfl⟩
 have hq := hqq m hm
 have hq' : ((str (r.take m)).toList == (str (hdrB.take m)).toList) = (!false) := by rw [← hq, bne]; simp
 clear hqq
 have HMn := Lib.hid hm
 clear hm
 have hcv := fun (W : World) (h : Below w.heap.size w W) => jg (P := Tryz.prog) Tryz.underlying55 Tryz.underlying9 Tryz.underlying5 (RdB.cut (hr.below' h hBw) (lo := 0) (k := m) (by omega))
 simp only [Nat.sub_zero, List.drop_zero] at hcv
 have hrc := hr.cap
 have hrm := hr.max
 have x1 := hb.c1
 go_enter Tryz.func25, Tryz.ntmps25
 go_upto_region 1 with fail
 refine zD (fun W : World => Below w.heap.size w W) (by kernel_rfl) ?_
 have hS : Below w.heap.size w w.drew := za (Below.refl _ _) 1
 generalize w.drew = wd at *
 refine rg_t 0 hS ?_
 simp only [List.getElem_toArray, List.getElem_cons_zero, Act.put, List.setIfInBounds_toArray, List.set_cons_zero, List.set_cons_succ]
 refine rg_t 1 hS ?_
 simp only [g_S, Act.put]
 refine rg_t 2 hS ?_
 simp only [g_S, Act.put]
 refine zv 3 (v := ?_) rfl (by kernel_rfl) (by kernel_rfl) (by kernel_rfl) hS rfl ?_ ?_
 rotate_left
 ·intro wS hSw; have k0 := (hb.below hSw).cell (j := 1) rfl; go_simp; (with_reducible rfl)
 simp only [g_S, Act.put]
 refine rg_t 4 hS ?_
 simp only [g_S, Act.put]
 refine j8 5 slB rfl (by kernel_rfl) (by kernel_rfl) (by kernel_rfl) hS rfl rfl rfl hrm hrc 0 m c (.inl ⟨rfl, rfl⟩) hd2 (.inl ⟨rfl, rfl⟩) (fun h => by cases h) (by omega) (by omega) (Nat.le_refl _) (by omega) ?_
 try simp only [g_S, Act.put]
 simp only [Nat.sub_zero]
 refine zv 6 (v := ?_) rfl (by kernel_rfl) (by kernel_rfl) (by kernel_rfl) hS rfl ?_ ?_
 rotate_left
 ·intro wS hSw; have k0 := hcv _ hSw; go_simp; (with_reducible rfl)
 simp only [g_S, Act.put]
 refine rg_t 7 hS ?_
 simp only [g_S, Act.put]
 refine zv 8 (v := ?_) rfl (by kernel_rfl) (by kernel_rfl) (by kernel_rfl) hS rfl ?_ ?_
 rotate_left
 ·intro wS hSw; rw [qF (x := .const <| .string ⟨#[65, 77, 81, 80, 1, 1, 0, 10]⟩) (lo := none) (hi := some <| .tmp 17) Tryz.underlying9 (l := hdrB) (i := 0) (j := m)] <;> first | rfl | omega | exact hm8 | exact .inl ⟨rfl, rfl⟩ | exact .inr ⟨_, _, rfl, rfl⟩
 simp only [g_S, Act.put]
 simp only [List.drop_zero]
 refine rg_t 9 hS ?_
 simp only [g_S, Act.put]
 refine rg_t 10 hS ?_
 simp only [g_S, Act.put]
 refine zK (by kernel_rfl) ?_
 clear hcv x1
 have hm7 : ((m : Int) == 8) = false := by simp; omega
 clear hb hr
 go_wp2_with (with_reducible refine h_B ?_)
 go_end0
 exact ⟨rfl, hS⟩
end Go.PH
end
section
namespace Go.PH
open Go.RowKit Go.Proofs
theorem ZR (lb n c : Nat) (x0 x2 x3 x4 x5 x6 x7 : Value) (RA : Option Addr) (r : List UInt8) (w : World) (hb : Box w lb 61 #[x0, .slice RA n c, x2, x3, x4, x5, x6, x7]) (hr : RdB w w.heap.size RA n c r) (hn : n ≤ 1000000000) (hsc : zk r = ([], 0, 0)) :
  Calls Tryz.prog 26 #[.pointer (some ⟨lb, 0, none⟩)] w fun e w' => e = .returned (.tuple #[]) ∧ Box w' lb 61 #[x0, .slice RA n n, x2, x3, x4, x5, x6, x7] ∧ KeepF (fun k => k = lb) w w' := by
 have hs := Y7 RA n c r w hr hn
 rw [hsc] at hs
 simp only [List.length_nil] at hs
 have x1 := hb.c1
 have hrc := hr.cap
 have hrm := hr.max
 have hnm : n ≤ maxLen := by omega
 clear hsc
 go_enter Tryz.func26, Tryz.ntmps26
 go_wp2_with (with_reducible refine h_A ?_)
 refine hs.mono ?_
 rintro e w1 ⟨A1, c1, rfl, hO1, hB1⟩
 have hb1 := hb.below hB1
 have k1 : w1.drew.cell? ⟨lb, 1, none⟩ = some (.slice RA n c) := hb1.c1
 have hfz : w1.drew.frozen? ⟨lb, 1, none⟩ = false := hb1.thaw 1
 have hF := xt (show Box w1.drew lb 61 _ from hb1) (off := 1) (.slice RA n n)
 have HF := Lib.hid (show Box _ lb 61 #[x0, .slice RA n n, x2, x3, x4, x5, x6, x7] from hF)
 have hG := Lib.hid (yv w1.drew lb 1 (.slice RA n n))
 have HK1 : KeepF (fun k => k = lb) w w1.drew := .below (za hB1 1)
 clear hb hr hb1 hs x1 hF
 go_wp2
 go_region
 all_goals
  go_wp2
  refine wp_loop_rounds 1 ?_
  rw [rounds_succ]
  go_wp2
  go_end0
  exact ⟨rfl, HF.out, HK1.trans (.grown (F := fun k => k = lb) hG.out (fun k hk => .inl (by injection hk with hk; exact hk.symm))) (fun k hk => .inl hk)⟩
theorem QR (lb gp : Nat) (w : World) (he : MEnv w) (hb : Box w lb 61 (lk0 gp)) (hgl : 0 ≠ lb) :
  Calls Tryz.prog 12 #[.pointer (some ⟨lb, 0, none⟩), .string (str hdrB)] w fun e w' => e = .returned (.tuple #[.string (str (hdrB ++ ctlB 4096 startB)), .slice none 0 0]) ∧ w'.cell? ⟨lb, 0, none⟩ = some (.int .u8 1) ∧ w'.cell? ⟨lb, 2, none⟩ = some (.pointer (some ⟨gp, 0, none⟩)) ∧ KeepF (fun k => k = lb) w w' := by
 have hl0 : 0 < w.heap.size := he.lt
 have hlw := hb.lt
 have c0 := hb.c0
 have c2 := hb.c2
 have hst := xi lb 0 gp w c0 c2
 have hrs := kD (off := 5) w _ hb (by simp [lk0])
 have hss := zj hdrB
 go_enter Tryz.func12, Tryz.ntmps12
 go_wp2_with (with_reducible refine h_B ?_)
 refine hst.mono ?_
 rintro e w1 ⟨rfl, rfl⟩
 clear hst
 go_wp2_with (with_reducible refine h_B ?_)
 refine hrs.mono ?_
 rintro e w1 ⟨rfl, hb1, hg1, hz1⟩
 clear hrs c0 c2
 have HZ1 := Lib.hid hz1
 clear hz1
 replace hb1 : Box w1 lb 61 #[.int .u8 0, .slice none 0 0, .pointer (some ⟨gp, 0, none⟩), .int .u64 255, .int .u64 4096, .pointer none, .slice none 0 0, .slice none 0 0] := hb1
 have c1 := hb1.c1
 go_wp2_with (with_reducible refine h_B ?_)
 refine zc (yz rfl rfl rfl rfl hb1 (j := 7) (v := .slice none 0 0) rfl (by kernel_rfl) (by simp) ?_)
 intro w2 hb2 hg2 hz2
 have HZ2 := Lib.hid hz2
 clear hz2 c1
 replace hb2 : Box w2 lb 61 #[.int .u8 0, .slice none 0 0, .pointer (some ⟨gp, 0, none⟩), .int .u64 255, .int .u64 4096, .pointer none, .slice none 0 0, .slice none 0 0] := hb2
 have c1 := hb2.c1
 go_wp2_with (with_reducible refine h_B ?_)
 refine zc (qs (base := w2.heap.size) slB Tryz.underlying9 rfl rfl rfl rfl (Own.none_ w2 w2.heap.size 5 1) (by decide) (Nat.le_refl _) ?_)
 intro RA rc w3 hO3 hg3 hA3
 have hb3 := hb2.grown hg3 (by intro e; cases e)
 go_wp2_with (with_reducible refine h_B ?_)
 refine zc (yz rfl rfl rfl rfl hb3 (j := 1) (v := .slice RA 8 rc) rfl (by kernel_rfl) (by simp) ?_)
 intro w4 hb4 hg4 hz4
 have HZ4 := Lib.hid hz4
 clear hz4 c1
 replace hb4 : Box w4 lb 61 #[.int .u8 0, .slice RA 8 rc, .pointer (some ⟨gp, 0, none⟩), .int .u64 255, .int .u64 4096, .pointer none, .slice none 0 0, .slice none 0 0] := hb4
 have hRne : blk RA ≠ some lb := fun e => by have := (hO3.blk_lt e).1; have := HZ1.out; have := HZ2.out; omega
 have hO4 := zf hO3 hg4 (fun k hk e => hRne (by rw [hk, ← e]))
 have hK4 : KeepF (fun k => k = lb) w w4 := (((KeepF.grown (F := fun k => k = lb) hg1 (fun k hk => .inl (by injection hk with hk; exact hk.symm))).trans (.grown (F := fun k => k = lb) hg2 (fun k hk => .inl (by injection hk with hk; exact hk.symm))) (fun k hk => .inl hk)).trans (.grown (F := fun k => k = lb) hg3 (fun k hk => by cases hk)) (fun k hk => .inl hk)).trans (.grown (F := fun k => k = lb) hg4 (fun k hk => .inl (by injection hk with hk; exact hk.symm))) (fun k hk => .inl hk)
 have he4 : MEnv w4 := he.onK hK4 hgl
 have hr4 : RdB w4 w4.heap.size RA 8 rc hdrB := hO4.rd
 have hws : w.heap.size ≤ w4.heap.size := hK4.1
 have hrcm := hr4.max
 have hrc8 : rc - 8 ≤ maxLen := by omega
 have c0 := hb4.c0
 have hbg := kB lb 4096 w.heap.size 0 0 8 rc w4.heap.size _ _ _ (.pointer none) RA none [] hdrB w4 he4 hb4 hr4 (Nat.le_refl _) (by omega) (.inl rfl) (Own.none_ w4 w.heap.size 5 1) (by intro e; cases e) hws (by omega) (by omega) hgl hl0 rfl
 clear hb1 hb2 hb3 hO3 hO4 hr4 hg1 hg2 hg3 hg4
 go_wp2_with (with_reducible refine h_B ?_)
 refine hbg.mono ?_
 rintro e w5 ⟨rfl, _, ⟨A2, c2, hb5, hO5, hn5, hA5⟩, hK5⟩
 clear hbg
 replace hb5 : Box w5 lb 61 #[.int .u8 1, .slice (cutA RA 1 8 rc) 0 (rc - 8), .pointer (some ⟨gp, 0, none⟩), .int .u64 255, .int .u64 4096, bPtr lb 5, .slice A2 (hdrB ++ ctlB 4096 startB).length c2, .slice none 0 0] := hb5
 replace hO5 : Own w5 w.heap.size 5 1 A2 (hdrB ++ ctlB 4096 startB).length c2 ((hdrB ++ ctlB 4096 startB).map u8v) := hO5
 obtain ⟨OUT, hOUT⟩ : ∃ o, o = hdrB ++ ctlB 4096 startB := ⟨_, rfl⟩
 rw [← hOUT] at hb5 hO5
 have HOUT := Lib.hid hOUT
 clear hOUT
 have hfr := ZR lb 0 (rc - 8) _ _ _ _ _ _ _ (cutA RA 1 8 rc) [] w5 hb5 (Rd.nil _ _ _ _ hrc8 _) (by omega) (by decide)
 have c5 := hb5.c0
 clear c0
 go_wp2_with (with_reducible refine h_B ?_)
 refine hfr.mono ?_
 rintro e w6 ⟨rfl, hb6, hK6⟩
 clear hfr c5 hb5
 have hO6 := zq hO5 hK6 (fun k hk e => hn5 (by rw [hk, e]))
 have hK56 : KeepF (fun k => k = lb) w w6 := (hK4.trans hK5 (fun k hk => by rcases hk with hk | hk; exact .inl hk; cases hk)).trans hK6 (fun k hk => .inl hk)
 clear hO5 hK5 hK6 hK4
 go_wp2
 refine zD (fun W : World => Box W lb 61 #[.int .u8 1, .slice (cutA RA 1 8 rc) 0 0, .pointer (some ⟨gp, 0, none⟩), .int .u64 255, .int .u64 4096, bPtr lb 5, .slice A2 OUT.length c2, .slice none 0 0]) (by kernel_rfl) ?_
 have hS : Box w6.drew lb 61 #[.int .u8 1, .slice (cutA RA 1 8 rc) 0 0, .pointer (some ⟨gp, 0, none⟩), .int .u64 255, .int .u64 4096, bPtr lb 5, .slice A2 OUT.length c2, .slice none 0 0] := hb6
 have hO7 : Own w6.drew w.heap.size 5 1 A2 OUT.length c2 (OUT.map u8v) := hO6
 have hK7 : KeepF (fun k => k = lb) w w6.drew := hK56.trans (KeepF.below (F := fun k => k = lb) (za (Below.refl _ _) 1)) (fun k hk => .inl hk)
 clear hb6 hO6 hK56
 generalize w6.drew = w7 at *
 have hstr := ka (off := 5) (n := OUT.length) (c := c2) w7 _ hS A2 OUT rfl hO7
 refine rg_t 0 hS ?_
 simp only [List.getElem_toArray, List.getElem_cons_zero, Act.put, List.setIfInBounds_toArray, List.set_cons_zero, List.set_cons_succ]
 refine rg_t 1 hS ?_
 simp only [g_S, Act.put]
 refine rg_t 2 hS ?_
 simp only [g_S, Act.put]
 refine rg_t 4 hS ?_
 simp only [g_S, Act.put]
 refine rg_t 5 hS ?_
 simp only [g_S, Act.put]
 refine rg_t 6 hS ?_
 simp only [g_S, Act.put]
 refine zv 7 (v := ?_) rfl (by kernel_rfl) (by kernel_rfl) (by kernel_rfl) hS rfl ?_ ?_
 rotate_left
 ·intro wS hSw; have k0 := hSw.cell (j := 7) rfl; go_simp; (with_reducible rfl)
 simp only [g_S, Act.put]
 refine zi 3 rfl (by kernel_rfl) rfl (fun K hK => ?_)
 go_simp
 (with_reducible refine hstr.mono ?_)
 rintro e w8 ⟨rfl, hK8⟩
 have hS8 := ym hS hK8 hn5
 refine hK _ _ hS8 ?_
 clear hK K
 try simp only [g_S, Act.put]
 refine rg_t 8 hS8 ?_
 simp only [g_S, Act.put]
 refine rg_t 9 hS8 ?_
 simp only [g_S, Act.put]
 refine zK (by kernel_rfl) ?_
 go_wp2_with (with_reducible refine h_B ?_)
 go_ret2
 exact ⟨by rw [← HOUT.out]; rfl, hS8.cell (j := 0) rfl, hS8.cell (j := 2) rfl, hK7.trans hK8 (fun k hk => .inr (hO7.blk_lt hk).1)⟩
def amxB : List UInt8 := [65, 77, 88]
theorem QS (lb gp : Nat) (w : World) (he : MEnv w) (hb : Box w lb 61 (lk0 gp)) (hgl : 0 ≠ lb) :
  Calls Tryz.prog 12 #[.pointer (some ⟨lb, 0, none⟩), .string (str amxB)] w fun e w' => e = .returned (.tuple #[.string (str hdrB), .slice none 0 0]) ∧ w'.cell? ⟨lb, 0, none⟩ = some (.int .u8 5) ∧ w'.cell? ⟨lb, 2, none⟩ = some (.pointer (some ⟨gp, 0, none⟩)) ∧ KeepF (fun k => k = lb) w w' := by
 have hl0 : 0 < w.heap.size := he.lt
 have hlw := hb.lt
 have c0 := hb.c0
 have c2 := hb.c2
 have hst := xi lb 0 gp w c0 c2
 have hrs := kD (off := 5) w _ hb (by simp [lk0])
 have hss := zj amxB
 go_enter Tryz.func12, Tryz.ntmps12
 go_wp2_with (with_reducible refine h_B ?_)
 refine hst.mono ?_
 rintro e w1 ⟨rfl, rfl⟩
 clear hst
 go_wp2_with (with_reducible refine h_B ?_)
 refine hrs.mono ?_
 rintro e w1 ⟨rfl, hb1, hg1, hz1⟩
 clear hrs c0 c2
 have HZ1 := Lib.hid hz1
 clear hz1
 replace hb1 : Box w1 lb 61 #[.int .u8 0, .slice none 0 0, .pointer (some ⟨gp, 0, none⟩), .int .u64 255, .int .u64 4096, .pointer none, .slice none 0 0, .slice none 0 0] := hb1
 have c1 := hb1.c1
 go_wp2_with (with_reducible refine h_B ?_)
 refine zc (yz rfl rfl rfl rfl hb1 (j := 7) (v := .slice none 0 0) rfl (by kernel_rfl) (by simp) ?_)
 intro w2 hb2 hg2 hz2
 have HZ2 := Lib.hid hz2
 clear hz2 c1
 replace hb2 : Box w2 lb 61 #[.int .u8 0, .slice none 0 0, .pointer (some ⟨gp, 0, none⟩), .int .u64 255, .int .u64 4096, .pointer none, .slice none 0 0, .slice none 0 0] := hb2
 have c1 := hb2.c1
 go_wp2_with (with_reducible refine h_B ?_)
 refine zc (qs (base := w2.heap.size) slB Tryz.underlying9 rfl rfl rfl rfl (Own.none_ w2 w2.heap.size 5 1) (by decide) (Nat.le_refl _) ?_)
 intro RA rc w3 hO3 hg3 hA3
 have hb3 := hb2.grown hg3 (by intro e; cases e)
 go_wp2_with (with_reducible refine h_B ?_)
 refine zc (yz rfl rfl rfl rfl hb3 (j := 1) (v := .slice RA 3 rc) rfl (by kernel_rfl) (by simp) ?_)
 intro w4 hb4 hg4 hz4
 have HZ4 := Lib.hid hz4
 clear hz4 c1
 replace hb4 : Box w4 lb 61 #[.int .u8 0, .slice RA 3 rc, .pointer (some ⟨gp, 0, none⟩), .int .u64 255, .int .u64 4096, .pointer none, .slice none 0 0, .slice none 0 0] := hb4
 have hRne : blk RA ≠ some lb := fun e => by have := (hO3.blk_lt e).1; have := HZ1.out; have := HZ2.out; omega
 have hO4 := zf hO3 hg4 (fun k hk e => hRne (by rw [hk, ← e]))
 have hK4 : KeepF (fun k => k = lb) w w4 := (((KeepF.grown (F := fun k => k = lb) hg1 (fun k hk => .inl (by injection hk with hk; exact hk.symm))).trans (.grown (F := fun k => k = lb) hg2 (fun k hk => .inl (by injection hk with hk; exact hk.symm))) (fun k hk => .inl hk)).trans (.grown (F := fun k => k = lb) hg3 (fun k hk => by cases hk)) (fun k hk => .inl hk)).trans (.grown (F := fun k => k = lb) hg4 (fun k hk => .inl (by injection hk with hk; exact hk.symm))) (fun k hk => .inl hk)
 have he4 : MEnv w4 := he.onK hK4 hgl
 have hr4 : RdB w4 w4.heap.size RA 3 rc amxB := hO4.rd
 have hws : w.heap.size ≤ w4.heap.size := hK4.1
 have hrcm := hr4.max
 have hrc8 : rc - 8 ≤ maxLen := by omega
 have c0 := hb4.c0
 have hbg := vx lb 4096 w.heap.size 0 0 3 rc w4.heap.size _ _ _ (.pointer none) RA none [] amxB w4 he4 hb4 hr4 (Nat.le_refl _) (by omega) (.inl rfl) (Own.none_ w4 w.heap.size 5 1) (by intro e; cases e) hws (by omega) (by omega) hgl hl0 (by decide)
 clear hb1 hb2 hb3 hO3 hO4 hr4 hg1 hg2 hg3 hg4
 go_wp2_with (with_reducible refine h_B ?_)
 refine hbg.mono ?_
 rintro e w6 ⟨rfl, ⟨A2, c2, hb6, hO6, hn5, hA5⟩, hK5⟩
 clear hbg c0
 replace hb6 : Box w6 lb 61 #[.int .u8 5, .slice RA 3 rc, .pointer (some ⟨gp, 0, none⟩), .int .u64 255, .int .u64 4096, bPtr lb 5, .slice A2 hdrB.length c2, .slice none 0 0] := hb6
 replace hO6 : Own w6 w.heap.size 5 1 A2 hdrB.length c2 (hdrB.map u8v) := hO6
 obtain ⟨OUT, hOUT⟩ : ∃ o, o = hdrB := ⟨_, rfl⟩
 rw [← hOUT] at hb6 hO6
 have HOUT := Lib.hid hOUT
 clear hOUT
 have c5 := hb6.c0
 have hK56 : KeepF (fun k => k = lb) w w6 := hK4.trans hK5 (fun k hk => by rcases hk with hk | hk; exact .inl hk; cases hk)
 clear hK5 hK4
 go_wp2
 refine zD (fun W : World => Box W lb 61 #[.int .u8 5, .slice RA 3 rc, .pointer (some ⟨gp, 0, none⟩), .int .u64 255, .int .u64 4096, bPtr lb 5, .slice A2 OUT.length c2, .slice none 0 0]) (by kernel_rfl) ?_
 have hS : Box w6.drew lb 61 #[.int .u8 5, .slice RA 3 rc, .pointer (some ⟨gp, 0, none⟩), .int .u64 255, .int .u64 4096, bPtr lb 5, .slice A2 OUT.length c2, .slice none 0 0] := hb6
 have hO7 : Own w6.drew w.heap.size 5 1 A2 OUT.length c2 (OUT.map u8v) := hO6
 have hK7 : KeepF (fun k => k = lb) w w6.drew := hK56.trans (KeepF.below (F := fun k => k = lb) (za (Below.refl _ _) 1)) (fun k hk => .inl hk)
 clear hb6 hO6 hK56
 generalize w6.drew = w7 at *
 have hstr := ka (off := 5) (n := OUT.length) (c := c2) w7 _ hS A2 OUT rfl hO7
 refine rg_t 0 hS ?_
 simp only [List.getElem_toArray, List.getElem_cons_zero, Act.put, List.setIfInBounds_toArray, List.set_cons_zero, List.set_cons_succ]
 refine rg_t 1 hS ?_
 simp only [g_S, Act.put]
 refine rg_t 2 hS ?_
 simp only [g_S, Act.put]
 refine rg_t 4 hS ?_
 simp only [g_S, Act.put]
 refine rg_t 5 hS ?_
 simp only [g_S, Act.put]
 refine rg_t 6 hS ?_
 simp only [g_S, Act.put]
 refine zv 7 (v := ?_) rfl (by kernel_rfl) (by kernel_rfl) (by kernel_rfl) hS rfl ?_ ?_
 rotate_left
 ·intro wS hSw; have k0 := hSw.cell (j := 7) rfl; go_simp; (with_reducible rfl)
 simp only [g_S, Act.put]
 refine zi 3 rfl (by kernel_rfl) rfl (fun K hK => ?_)
 go_simp
 (with_reducible refine hstr.mono ?_)
 rintro e w8 ⟨rfl, hK8⟩
 have hS8 := ym hS hK8 hn5
 refine hK _ _ hS8 ?_
 clear hK K
 try simp only [g_S, Act.put]
 refine rg_t 8 hS8 ?_
 simp only [g_S, Act.put]
 refine rg_t 9 hS8 ?_
 simp only [g_S, Act.put]
 refine zK (by kernel_rfl) ?_
 go_wp2_with (with_reducible refine h_B ?_)
 go_ret2
 exact ⟨by rw [← HOUT.out]; rfl, hS8.cell (j := 0) rfl, hS8.cell (j := 2) rfl, hK7.trans hK8 (fun k hk => .inr (hO7.blk_lt hk).1)⟩
end Go.PH
end
section
namespace Go.PH
open Go.RowKit Go.Proofs
theorem V4 : (ctlB 4096 startB).length = 27 := by kernel_rfl
theorem vN (w : World) (he : MEnv w) : Calls Tryz.prog 9 #[] w fun e w' => e = .returned (.bool true) ∧ Below w.heap.size w w' := by
 have hgw := he.lt
 have hn1 := ke w
 have hol : (hdrB ++ ctlB 4096 startB).length = 35 := by rw [List.length_append, V4]; rfl
 have hot : ((str ((hdrB ++ ctlB 4096 startB).take 8)).toList == [65, 77, 81, 80, 1, 1, 0, 10]) = true := by rw [zt]; simp [hdrB]
 obtain ⟨OUT, hOUT⟩ : ∃ o, o = hdrB ++ ctlB 4096 startB := ⟨_, rfl⟩
 rw [← hOUT] at hol hot
 have HOUT := Lib.hid hOUT
 clear hOUT
 have hss := zj OUT
 go_enter Tryz.func9, Tryz.ntmps9
 go_wp2_with (with_reducible refine h_A ?_)
 refine hn1.mono ?_
 rintro e w1 ⟨rfl, hG1, hb1, hB1⟩
 clear hn1
 have he1 := he.on hB1
 obtain ⟨lb, hlb⟩ : ∃ b, b = w.heap.size + 2 := ⟨_, rfl⟩
 rw [← hlb] at hb1
 have hlw : w.heap.size ≤ lb := by omega
 have hf1 := QR lb _ w1 he1 hb1 (by omega)
 rw [← HOUT.out] at hf1
 go_wp2_with (with_reducible refine h_A ?_)
 rw [← hlb]
 clear hlb
 rw [show str hdrB = (⟨#[65, 77, 81, 80, 1, 1, 0, 10]⟩ : ByteArray) from rfl] at hf1
 (with_reducible refine hf1.mono ?_)
 rintro e w2 ⟨rfl, hc0, hc2, hK2⟩
 clear hf1
 have hB2 : Below w.heap.size w w2 := hB1.trans (hK2.toBelow hB1.size (fun g hg => by omega))
 have hn2 := ke w2
 go_wp2_with (with_reducible refine h_A ?_)
 refine hn2.mono ?_
 rintro e w3 ⟨rfl, hG3, hb3, hB3⟩
 clear hn2
 have hB3' := hB2.trans (hB3.mono hB2.size)
 have he3 := he.on hB3'
 obtain ⟨mb, hmb⟩ : ∃ b, b = w2.heap.size + 2 := ⟨_, rfl⟩
 rw [← hmb] at hb3
 have hmw : w2.heap.size ≤ mb := by omega
 have hlm : lb < w2.heap.size := World.block_lt_of_cell? _ _ hc0
 have hsz2 := hB2.size
 have hf2 := QS mb _ w3 he3 hb3 (by omega)
 have d0 : w3.cell? ⟨lb, 0, none⟩ = some (.int .u8 1) := (hB3.cell (p := ⟨lb, 0, none⟩) hlm).trans hc0
 have d2 := (hB3.cell (p := ⟨lb, 2, none⟩) hlm).trans hc2
 clear hc0 hc2
 go_wp2_with (with_reducible refine h_A ?_)
 rw [← hmb]
 clear hmb
 rw [show str amxB = (⟨#[65, 77, 88]⟩ : ByteArray) from rfl, show str hdrB = (⟨#[65, 77, 81, 80, 1, 1, 0, 10]⟩ : ByteArray) from rfl] at hf2
 (with_reducible refine hf2.mono ?_)
 rintro e w4 ⟨rfl, hm0, hm2, hK4⟩
 clear hf2
 have hB4 : Below w.heap.size w w4 := hB3'.trans (hK4.toBelow hB3'.size (fun g hg => by omega))
 have hlb4 : ∀ o, w4.cell? ⟨lb, o, none⟩ = w3.cell? ⟨lb, o, none⟩ := fun o => by
  have := hK4.2.1 lb (Nat.lt_of_lt_of_le hlm hB3.size) (by omega)
  simp only [World.cell?, this]
 have d0' := (hlb4 0).trans d0
 have d2' := (hlb4 2).trans d2
 clear hlb4 d0 d2
 have hs1 := xi lb 1 _ w4 d0' d2'
 have hs2 := xi mb 5 _ w4 hm0 hm2
 rw [show (((1 : Nat)) : Int) = 1 from rfl] at hs1
 rw [show (((5 : Nat)) : Int) = 5 from rfl] at hs2
 have hcs := vW (P := Tryz.prog) Tryz.underlying9 w4 (l := OUT) (lo := none) (hi := some (.int .i64 8)) 0 8 (.inl ⟨rfl, rfl⟩) (.inr ⟨_, _, rfl, rfl⟩) (by omega) (by omega)
 go_wp2_with (with_reducible refine h_A ?_)
 (with_reducible refine hs1.mono ?_)
 rintro e w5 ⟨rfl, rfl⟩
 go_wp2_with (with_reducible refine h_A ?_)
 (with_reducible refine hs2.mono ?_)
 rintro e w6 ⟨rfl, rfl⟩
 go_wp2_with (with_reducible refine h_A ?_)
 go_ret
 exact ⟨rfl, hB4⟩
end Go.PH
end

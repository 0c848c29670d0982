/- Texts laid together: TbLaid, VlKeyed, VlMay. -/
import Derived.Test.YtenegldhfgfokaaGreatDoorCards
import Derived.Test.YtenegldhfgfokaaGreatDoorTie
import Derived.Lib.LaidTab
import Derived.Lib.LaidU8
import Derived.Stop.LaidErr
import Derived.Maps.OwnSet
import Derived.StringKeys
import Derived.Test.YtenegldhfgfokaaGreatDoorMg01
import Derived.Test.YtenegldhfgfokaaGreatDoorMg03
import Derived.Test.YtenegldhfgfokaaGreatDoorMg12
import Derived.Test.YtenegldhfgfokaaGreatDoorMg13
import Derived.Test.YtenegldhfgfokaaGreatDoorMg14
set_option linter.all false
set_option linter.unusedSimpArgs false
set_option linter.unusedVariables false
section
/- The listed variables of the laws through the layers: what the row's list gives, and a world for the witness. -/
namespace Go.Proofs.YtenegldhfgfokaaGreatDoor
open Go.Lib Go.PH Go.RowKit Go.ChangeShapes Go.WideShapes Go.ChangeAt

theorem own : ownKnob Tryz.prog.godebug = none := by kernel_rfl
theorem laidOut : laidOutB Tryz.prog = true := by kernel_rfl
def topList : List (String × DataW Unit) := [("math/bits.deBruijn32tab", Rows.laid_math_bits_deBruijn32tab), ("math/bits.deBruijn64tab", Rows.laid_math_bits_deBruijn64tab), ("internal/strconv.uint64pow10", Rows.laid_internal_strconv_uint64pow10), ("posthouse/crc.table", Rows.laid_posthouse_crc_table), ("unicode/utf8.acceptRanges", Rows.laid_unicode_utf8_acceptRanges), ("unicode/utf8.first", Rows.laid_unicode_utf8_first)]
theorem env {W : World} (h : laidMetH Tryz.prog topList W) (hsh : W.ShapedOpen Tryz.prog) : MEnv W := ⟨Tryz.laysM146.s1_3 W hsh⟩
theorem u8types : Lays.n260 Tryz.prog Tryz.lays197_ren := { Tryz.lays197 with }
theorem u8extra : U8Extra Tryz.prog Tryz.lays197_ren where
 n3 := by kernel_rfl
 n4 := by kernel_rfl
 y3 := by kernel_rfl
 y4 := by kernel_rfl
 c5 := by kernel_rfl
 c119 := by kernel_rfl
 c138 := by kernel_rfl
theorem first_same : Rows.laid_unicode_utf8_first = firstData := by kernel_rfl
theorem accept_same : (Rows.laid_unicode_utf8_acceptRanges : DataW Unit) = acceptData := by kernel_rfl
theorem utabs {W : World} (h : laidMetH Tryz.prog topList W) : UTabs W := by
 have h' : laidMet Tryz.prog topList W := h
 exact utf8Tabs_of_reads u8types u8extra (first_same ▸ Lib.laidMet.reads h' (by unfold topList; simp)) (accept_same ▸ Lib.laidMet.reads h' (by unfold topList; simp))
theorem gTab : Tryz.prog.globalNamed "posthouse/crc.table" = some 0 := by kernel_rfl
theorem gTabType : (Tryz.prog.globals[0]?).map (·.type) = some 141 := by kernel_rfl
theorem cellsTab : Tryz.prog.cellsOf 141 = 16 := by kernel_rfl
theorem cellsU32 : Tryz.prog.cellsOf 56 = 1 := by kernel_rfl
def tabInts : List Int := [0, 274646895, 549293790, 820201905, 1098587580, 1361435347, 1640403810, 1905808397, 2197175160, 2460548119, 2722870694, 2987750089, 3280807620, 3553878443, 3811616794, 4084100981]
theorem table {W : World} (h : laidMetH Tryz.prog topList W) : TabAt W := by
 have h : laidMet Tryz.prog topList W := h
 have h1 : Lib.TabIs Tryz.prog W "posthouse/crc.table" .u32 tabInts := Lib.tabIs_of_head gTab gTabType Tryz.underlying141 Tryz.underlying56 cellsU32 cellsTab h.tail.tail.tail
 intro j hj
 have := h1.cell gTab j hj
 rw [this]
 have e : ∀ j : Fin 16, tabInts.getD j.val 0 = (tab j.val : Int) := by decide
 rw [e ⟨j, hj⟩]
/-! A world for the witness: each listed variable as its initialiser lays it. -/
def u8s (l : List Nat) : Array Value := (l.map fun (n : Nat) => Value.int .u8 (n : Int)).toArray
def u32s (l : List Nat) : Array Value := (l.map fun (n : Nat) => Value.int .u32 (n : Int)).toArray
def u64s (l : List Nat) : Array Value := (l.map fun (n : Nat) => Value.int .u64 (n : Int)).toArray
def deb32N : List Nat := [0, 1, 28, 2, 29, 14, 24, 3, 30, 22, 20, 15, 25, 17, 4, 8, 31, 27, 13, 23, 21, 19, 16, 7, 26, 12, 18, 6, 11, 5, 10, 9]
def deb64N : List Nat := [0, 1, 56, 2, 57, 49, 28, 3, 61, 58, 42, 50, 38, 29, 17, 4, 62, 47, 59, 36, 45, 43, 51, 22, 53, 39, 33, 30, 24, 18, 12, 5, 63, 55, 48, 27, 60, 41, 37, 16, 46, 35, 44, 21, 52, 32, 23, 11, 54, 26, 40, 15, 34, 20, 31, 10, 25, 14, 19, 9, 13, 8, 7, 6]
def powN : List Nat := [1, 10, 100, 1000, 10000, 100000, 1000000, 10000000, 100000000, 1000000000, 10000000000, 100000000000, 1000000000000, 10000000000000, 100000000000000, 1000000000000000, 10000000000000000, 100000000000000000, 1000000000000000000, 10000000000000000000]
def accN : List Nat := [128, 191, 160, 191, 128, 159, 144, 191, 128, 143, 0, 0, 0, 0, 0, 0, 0, 0, 0, 0, 0, 0, 0, 0, 0, 0, 0, 0, 0, 0, 0, 0]
def crcN : List Nat := [0, 274646895, 549293790, 820201905, 1098587580, 1361435347, 1640403810, 1905808397, 2197175160, 2460548119, 2722870694, 2987750089, 3280807620, 3553878443, 3811616794, 4084100981]
def withCells (h : Array Obj) (g : Nat) (cs : Array Value) : Array Obj := h.modify g fun
 | .cells _ t frozen => .cells cs t frozen
 | o => o
noncomputable def wit (os : Os) : World :=
 let w0 := World.holding Tryz.prog os ⟨#[], #[], []⟩
 { w0 with heap := withCells (withCells (withCells (withCells (withCells (withCells w0.heap 2 (u8s deb32N)) 3 (u8s deb64N)) 1 (u64s powN)) 0 (u32s crcN)) 6 (u8s accN)) 5 (u8s Go.Pinned.utf8FirstZ) }
theorem top_met (os : Os) (args : Array Value) : laidMet Tryz.prog topList ((wit os).forCall (fun _ _ => 0) ⟨#[], args, []⟩).memory :=
 laidMet_of_run' 8 (by kernel_rfl) (by kernel_rfl)
end Go.Proofs.YtenegldhfgfokaaGreatDoor
end
section
/- Which keys may be: the walk of the program. -/
namespace Go.PH
open Go.RowKit Go.Proofs

def keyOk (k : List UInt8) : Bool := decide (1 ≤ k.length) && decide (k.length ≤ 255) && utf8B k
theorem keysOk_eq (K : List (List UInt8)) : keysOk K utf8B = (K.all keyOk && decide K.Nodup) := rfl
theorem keys_bad {K : List (List UInt8)} {i : Nat} (hi : i < K.length) (h : keyOk K[i] = false) : keysOk K utf8B = false := by
 rw [keysOk_eq]
 have : K.all keyOk = false := by
  rw [List.all_eq_false]
  exact ⟨_, List.getElem_mem hi, by rw [h]; simp⟩
 rw [this]; rfl
theorem keys_twice {K : List (List UInt8)} {i : Nat} (hi : i < K.length) (h : K[i] ∈ K.take i) : keysOk K utf8B = false := by
 rw [keysOk_eq]
 have : ¬ K.Nodup := fun hn => by
  have h1 : (K.take (i + 1)).Nodup := hn.sublist (List.take_sublist _ _)
  rw [List.take_succ_eq_append_getElem hi, List.nodup_append] at h1
  exact h1.2.2 _ h _ (by simp) rfl
 rw [decide_eq_false this, Bool.and_false]
theorem keys_good {K : List (List UInt8)} (h1 : ∀ k ∈ K, keyOk k = true) (h2 : K.Nodup) : keysOk K utf8B = true := by
 rw [keysOk_eq, List.all_eq_true.2 h1, decide_eq_true h2]; rfl
theorem nodup_more {K : List (List UInt8)} {i : Nat} (hi : i < K.length) (h : (K.take i).Nodup) (hn : K[i] ∉ K.take i) : (K.take (i + 1)).Nodup := by
 rw [List.take_succ_eq_append_getElem hi, List.nodup_append]
 exact ⟨h, by simp, fun a ha b hb e => by rw [List.mem_singleton.1 hb] at e; rw [e] at ha; exact hn ha⟩
abbrev seenMap (w : World) (mb n : Nat) (D : DataW Unit) : Prop := w.ownsMap Tryz.prog 9 (plainElem (H := Unit) Tryz.prog 3) mb n D
theorem seenMap.below {w w' : World} {mb n : Nat} {D : DataW Unit} (h : seenMap w mb n D) (hB : Below w.heap.size w w') : seenMap w' mb n D := by
 obtain ⟨es, clock, hb, F, hs, hD⟩ := h
 exact ⟨es, clock, (hB.block mb (Array.getElem?_eq_some_iff.1 hb).1).trans hb, F, hs, hD⟩
theorem str_keyedM : Maps.Keyed Tryz.prog 9 := Maps.string_keyed Tryz.underlying9
theorem str_kl {a : List UInt8} (h : a.length ≤ 140737488351232) : keyOf Tryz.prog 9 (.string (str a)) = some (.string a) := WideMaps.keyOf_string_mk Tryz.underlying9 (by rw [str_size]; simp [maxLen]; omega)
theorem str_empty (a : List UInt8) : (str a).toList.isEmpty = decide (a.length = 0) := by
 rw [str_toList]
 cases a <;> simp
theorem hold_mapUp {P : Program} {ops : Array Oper} {Q : Exit → Act → World → Prop} {rest : List Oper} {a : Act} {w : World} {dst : Option Tmp} {ty : TypeId} {pos : String} {after : Array Edge} {guard : Option (Nat × Bool)} {t : TypeId} {m k v : Operand} (h : Hold (wpList P ops Q (⟨dst, .mapUpdate t m k v, ty, pos, after, guard⟩ :: rest) a w)) :
  wpList P ops Q (⟨dst, .mapUpdate t m k v, ty, pos, after, guard⟩ :: rest) a w := h
set_option maxRecDepth 20000 in
set_option maxHeartbeats 2000000 in
theorem keyed_any (A : Option Addr) (n c : Nat) (K : List (List UInt8)) (w : World) (hr : Rd w w.heap.size 1 A n c (K.map txV)) (hn : n ≤ 140737488351232) (hkl : ∀ k ∈ K, k.length ≤ 140737488351232) (hT : UTabs w) :
  Calls Tryz.prog 111 #[.slice A n c] w fun e w' => e = .returned (.bool (keysOk K utf8B)) ∧ Below w.heap.size w w' := by
 have hl : K.length = n := by have := hr.len; simpa using this
 have HL := Lib.hid hl
 have HKL := Lib.hid hkl
 clear hl hkl
 have hmk := fun W => run_makeMap (P := Tryz.prog) 200 W
 have hmap := World.ownsMap_made w Tryz.prog 9 (plainElem (H := Unit) Tryz.prog 3)
 have hB0 : Below w.heap.size w (w.alloc (.map #[] 0)) := (Below.refl _ _).alloc (Nat.le_refl _) _
 go_enter Tryz.func111, Tryz.ntmps111
 go_upto_region 2 with fail
 obtain ⟨mb, hmb⟩ : ∃ m, m = w.heap.size := ⟨_, rfl⟩
 rw [← hmb] at hmap ⊢
 have HMB := Lib.hid hmb
 clear hmb hmk
 generalize (w.alloc (.map #[] 0)) = w1 at *
 go_wp2_with (with_reducible refine h_A ?_)
 go_loopw [9] (fun s wr => ∃ (i : Nat) (D : DataW Unit), i ≤ n ∧ s = .int .i64 i ∧ Below w.heap.size w wr ∧ seenMap wr mb i D ∧ Hid ((∀ k ∈ K.take i, keyOk k = true) ∧ (K.take i).Nodup ∧ ∀ s : List UInt8, D.atKey (.string s) (.lit (.int .i64 0)) = .lit (.int .i64 (if s ∈ K.take i then 1 else 0)))) (fun s _ => n - (RowKit.intOf s).toNat)
 case atStart => exact ⟨0, _, by omega, rfl, hB0, hmap, Lib.hid ⟨by simp, by simp, fun s => by simp; rfl⟩⟩
 case round =>
  clear hB0 hmap
  obtain ⟨i, D, hi, rfl, hB, hmap, HI⟩ := hrel
  by_cases hlt : i < n
  ·have g1 : (i : Int) < (n : Int) := by omega
   have hil : i < K.length := by rw [HL.out]; exact hlt
   obtain ⟨b, off, rfl, hC⟩ := txs_cell hr hlt hil
   have y0 := hC wr hB
   have hal := HKL.out _ (List.getElem_mem hil)
   have HBAD : Hid (keyOk K[i] = false → keysOk K utf8B = false) := Lib.hid (keys_bad hil)
   have HTW : Hid (K[i] ∈ K.take i → keysOk K utf8B = false) := Lib.hid (keys_twice hil)
   have HND : Hid (K[i] ∉ K.take i → (K.take (i + 1)).Nodup) := Lib.hid (nodup_more hil HI.out.2.1)
   have HTK : Hid (K.take (i + 1) = K.take i ++ [K[i]]) := Lib.hid (List.take_succ_eq_append_getElem hil)
   clear hC
   generalize K[i] = a at *
   have has := str_size a
   have hem := str_empty a
   have hpl := plain_any a wr hal (hT.on hB)
   have HKO : Hid (keyOk a = (decide (1 ≤ a.length) && decide (a.length ≤ 255) && utf8B a)) := Lib.hid rfl
   by_cases ha0 : a.length = 0
   ·have HF : Hid (keysOk K utf8B = false) := Lib.hid (HBAD.out (by rw [HKO.out, decide_eq_false (by omega : ¬ 1 ≤ a.length)]; rfl))
    rw [decide_eq_true ha0] at hem
    clear ha0 hpl
    go_wp2_with (with_reducible refine h_A ?_)
    go_ret
    rw [HF.out]
    exact ⟨rfl, hB⟩
   ·rw [decide_eq_false ha0] at hem
    by_cases ha1 : 255 < a.length
    ·have HF : Hid (keysOk K utf8B = false) := Lib.hid (HBAD.out (by rw [HKO.out, decide_eq_false (by omega : ¬ a.length ≤ 255)]; simp))
     have g2 : (255 : Int) < (a.length : Int) := by omega
     clear ha0 hpl
     go_wp2_with (with_reducible refine h_A ?_)
     go_ret
     rw [HF.out]
     exact ⟨rfl, hB⟩
    ·have g2 : ¬ (255 : Int) < (a.length : Int) := by omega
     have HK2 : Hid (keyOk a = utf8B a) := Lib.hid (by rw [HKO.out, decide_eq_true (by omega : 1 ≤ a.length), decide_eq_true (by omega : a.length ≤ 255)]; rfl)
     clear ha0 ha1
     cases hu : utf8B a
     ·rw [hu] at hpl
      have HF : Hid (keysOk K utf8B = false) := Lib.hid (HBAD.out (by rw [HK2.out, hu]))
      clear hu
      go_wp2_with (with_reducible refine h_A ?_)
      refine hpl.mono ?_
      rintro e w2 ⟨rfl, hB2⟩
      clear hpl y0
      go_wp2_with (with_reducible refine h_A ?_)
      go_ret
      rw [HF.out]
      exact ⟨rfl, hB.trans (hB2.mono hB.size)⟩
     ·rw [hu] at hpl
      have HKT : Hid (keyOk a = true) := Lib.hid (by rw [HK2.out, hu])
      clear hu
      go_wp2_with (with_reducible refine h_A ?_)
      refine hpl.mono ?_
      rintro e w2 ⟨rfl, hB2⟩
      have hBB := hB.trans (hB2.mono hB.size)
      have hmap2 := hmap.below hB2
      clear hpl y0 hmap hB2 hB
      obtain ⟨cc, hrun, hat, _⟩ := hmap2.lookup_int (t := 200) str_keyedM Tryz.underlying200 Tryz.underlying3 (Tryz.zeroValue3 _) (key := .string (str a)) (kl := .string a) (str_kl hal)
      rw [HI.out.2.2 a] at hat
      injection hat with hat
      injection hat with _ hat
      have HAT := Lib.hid hat
      clear hat
      by_cases hm : a ∈ K.take i
      ·have hc1 : cc = 1 := by rw [← HAT.out, if_pos hm]
       have HF := Lib.hid (HTW.out hm)
       subst hc1
       clear hm
       go_wp2_with (with_reducible refine h_A ?_)
       go_ret
       rw [HF.out]
       exact ⟨rfl, hBB⟩
      ·have hc1 : cc = 0 := by rw [← HAT.out, if_neg hm]
       have HM := Lib.hid hm
       subst hc1
       clear hm
       go_wp2_with (first | (with_reducible refine hold_mapUp ?_))
       refine unhold (wpList_mapUpdate_own (H := Unit) _ rfl _ _ _ 200 rfl 9 3 str_keyedM Tryz.underlying200 (plainElem (H := Unit) Tryz.prog 3) _ _ _ rfl hmap2 (by simp [maxLen]; omega) _ _ (.string a) rfl rfl (str_kl hal) (.lit (.int .i64 1)) [] (plainElem_int Tryz.underlying3 (by decide)) ?_)
       intro w3 hmap3 hg3
       have hBy := hBB.grown hg3 hBB.size (fun g hg => by injection hg with hg; have := HMB.out; omega)
       have HI2 : Hid ((∀ k ∈ K.take (i + 1), keyOk k = true) ∧ (K.take (i + 1)).Nodup ∧ ∀ s : List UInt8, (D.put (.string a) (.lit (.int .i64 1))).atKey (.string s) (.lit (.int .i64 0)) = .lit (.int .i64 (if s ∈ K.take (i + 1) then 1 else 0))) := Lib.hid (by
        refine ⟨fun k hk => ?_, HND.out HM.out, fun s => ?_⟩
        ·rw [HTK.out] at hk
         rcases List.mem_append.1 hk with hk | hk
         ·exact HI.out.1 k hk
         ·rw [List.mem_singleton.1 hk]; exact HKT.out
        ·by_cases hs : s = a
         ·subst hs
          rw [Maps.atKey_put_same hmap2.isMap (str_keyedM.key (str_kl hal)), if_pos (by rw [HTK.out]; simp)]
         ·rw [Maps.atKey_put_other (fun e => hs (by injection e)), HI.out.2.2 s, HTK.out]
          by_cases hs2 : s ∈ K.take i
          ·rw [if_pos hs2, if_pos (by simp [hs2])]
          ·rw [if_neg hs2, if_neg (by simp [hs, hs2])])
       clear hmap2 hrun hg3
       go_wp2_with (with_reducible refine h_A ?_)
       exact ⟨⟨i + 1, _, by omega, by go_num, hBy, hmap3, HI2⟩, by simp [RowKit.intOf]; omega⟩
  ·have HF : Hid (keysOk K utf8B = true) := Lib.hid (by
    have h := HI.out
    rw [List.take_of_length_le (by rw [HL.out]; omega)] at h
    exact keys_good h.1 h.2.1)
   have g1 : ¬ (i : Int) < (n : Int) := by omega
   go_wp2_with (with_reducible refine h_A ?_)
   go_ret
   rw [HF.out]
   exact ⟨rfl, hB⟩
end Go.PH
end
section
/- Which values may be: the walk of the program. -/
namespace Go.PH
open Go.RowKit Go.Proofs

/-- what 'may' asks of one value: its kind, number, text's length, how many keys and values, and whether keys, text and values may be -/
def mayF (k n sl KL LL : Nat) (ko pl al : Bool) : Bool :=
 (decide (k = 168) || decide (KL = 0)) && (decide (k = 168) || decide (k = 169) || decide (LL = 0)) && (decide (k = 149) || decide (k = 160) || decide (sl = 0)) && decide (sl ≤ 4096) &&
  (if k = 8 then decide (n ≤ 1) else if k = 2 then decide (n ≤ 255) else if k = 49 ∨ k = 50 then true
   else if k = 240 ∨ k = 160 then decide (n = 0)
   else if k = 149 then pl && decide (n = 0)
   else if k = 168 then decide (KL = LL) && ko && decide (n = 0)
   else if k = 169 then decide (n = 0) else false) && al
theorem empty_len {α : Type} (l : List α) : l.isEmpty = decide (l.length = 0) := by cases l <;> simp
theorem mayV_eq (p : List UInt8 → Bool) (v : Vl) : mayV p v = mayF v.kind v.n v.s.length v.keys.length v.list.length (keysOk v.keys p) (p v.s) (v.list.all (mayV p)) := by
 cases v
 rw [mayV, mayL_all, empty_len, empty_len, empty_len]
 rfl
def MayR (w : World) (v : Vl) (e : Ending) (w' : World) : Prop := e = .returned (.bool (mayV utf8B v)) ∧ Below w.heap.size w w'
set_option maxRecDepth 20000 in
theorem idx_may (p : Vl → Bool) (bx : Nat) (v : Vl) (h : VH) (w : World) (hv : RVw w v h) (hcl : ∀ x ∈ v.list, ∀ hx W, Below w.heap.size w W → RVw W x hx → Calls Tryz.prog 112 (#[.agg (vlV x hx)] ++ #[]) W (fun e W' => e = .returned (.bool (p x)) ∧ Below W.heap.size W W')) :
  Calls Tryz.prog 120 #[.slice h.A2 v.list.length h.c2, .func (.func 112) #[] #[]] w fun e w' => (∃ r : Int, e = .returned (.int .i64 r) ∧ decide (0 ≤ r) = v.list.any p) ∧ Below w.heap.size w w' := by
 obtain ⟨K1, j1, K2, j2⟩ := h
 have hel := fun {i : Nat} (hi : i < v.list.length) => hv.elem hi
 simp only at hel ⊢
 obtain ⟨N, hN⟩ : ∃ N, N = v.list.length := ⟨_, rfl⟩
 have hNm : N ≤ 140737488351232 := by rw [hN]; exact hv.bounds.2.2.2.2.2
 rw [← hN]
 have HN := Lib.hid hN
 clear hN hv
 have HCL := Lib.hid hcl
 clear hcl
 go_enter Tryz.func120, Tryz.ntmps120
 go_wp2_with (with_reducible refine h_A ?_)
 go_loopw [8] (fun s8 wr => ∃ (i : Nat), i ≤ N ∧ s8 = .int .i64 i ∧ Hid ((v.list.drop i).any p = v.list.any p) ∧ Below w.heap.size w wr) (fun s8 _ => N - (RowKit.intOf s8).toNat)
 case atStart => exact ⟨0, by omega, rfl, Lib.hid rfl, Below.refl _ _⟩
 case round =>
  obtain ⟨i, hi, rfl, HC, hB⟩ := hrel
  by_cases hlt : i < N
  ·have g1 : (i : Int) < (N : Int) := by omega
   have hil : i < v.list.length := by rw [← HN.out]; exact hlt
   obtain ⟨b, off, hx, rfl, hvx, HX⟩ := hel hil
   obtain ⟨k0, k1, k2, k3, k4⟩ := HX wr hB
   have HD : Hid ((v.list.drop i).any p = (p v.list[i] || (v.list.drop (i + 1)).any p)) := Lib.hid (by rw [List.drop_eq_getElem_cons hil, List.any_cons])
   have hrec := HCL.out _ (List.getElem_mem hil) hx wr hB (hvx.up hB)
   clear HX hel hvx
   generalize v.list[i] = x at *
   unfold vlV at hrec
   simp only [List.append_toArray, List.cons_append, List.nil_append] at hrec
   go_wp2_with (with_reducible refine h_A ?_)
   refine hrec.mono ?_
   rintro e w2 ⟨rfl, hB2⟩
   have hBx := hB.trans (hB2.mono hB.size)
   clear hrec k0 k1 k2 k3 k4
   cases hp : p x
   ·have HC2 : Hid ((v.list.drop (i + 1)).any p = v.list.any p) := Lib.hid (by rw [← HC.out, HD.out, hp]; simp)
    go_wp2_with (with_reducible refine h_A ?_)
    exact ⟨⟨i + 1, by omega, by go_num, HC2, hBx⟩, by simp [RowKit.intOf]; omega⟩
   ·have HC2 : Hid (v.list.any p = true) := Lib.hid (by rw [← HC.out, HD.out, hp]; simp)
    go_wp2_with (with_reducible refine h_A ?_)
    go_ret
    exact ⟨⟨i, rfl, by rw [HC2.out]; simp⟩, hBx⟩
  ·have HQ : Hid (v.list.any p = false) := Lib.hid (by rw [← HC.out, List.drop_eq_nil_of_le (by rw [← HN.out]; omega)]; rfl)
   have g1 : ¬ (i : Int) < (N : Int) := by omega
   clear hel
   go_wp2_with (with_reducible refine h_A ?_)
   go_ret
   exact ⟨⟨_, rfl, by rw [HQ.out]; rfl⟩, hB⟩
set_option maxRecDepth 20000 in
theorem has_may (p : Vl → Bool) (bx : Nat) (v : Vl) (h : VH) (w : World) (hv : RVw w v h) (hcl : ∀ x ∈ v.list, ∀ hx W, Below w.heap.size w W → RVw W x hx → Calls Tryz.prog 112 (#[.agg (vlV x hx)] ++ #[]) W (fun e W' => e = .returned (.bool (p x)) ∧ Below W.heap.size W W')) :
  Calls Tryz.prog 108 #[.slice h.A2 v.list.length h.c2, .func (.func 112) #[] #[]] w fun e w' => e = .returned (.bool (v.list.any p)) ∧ Below w.heap.size w w' := by
 have hi := idx_may p bx v h w hv hcl
 generalize v.list.any p = r at *
 clear hcl
 go_enter Tryz.func108, Tryz.ntmps108
 go_wp2_with (with_reducible refine h_A ?_)
 refine hi.mono ?_
 rintro e w' ⟨⟨q, rfl, hq⟩, hB⟩
 have HQ := Lib.hid hq
 clear hq
 go_wp2_with (with_reducible refine h_A ?_)
 go_ret
 rw [← HQ.out]
 exact ⟨rfl, hB⟩
theorem any_not_all (p : Vl → Bool) (l : List Vl) : l.any (fun x => !p x) = !l.all p := by
 induction l with
 | nil => rfl
 | cons x l ih => rw [List.any_cons, List.all_cons, ih]; cases p x <;> simp
set_option maxRecDepth 20000 in
theorem may1_any (x : Vl) (hx : VH) (W : World) (hv : RVw W x hx) (hrec : ∀ W', Below W.heap.size W W' → Calls Tryz.prog 95 #[.agg (vlV x hx)] W' (MayR W' x)) :
  Calls Tryz.prog 112 #[.agg (vlV x hx)] W fun e W' => e = .returned (.bool (!mayV utf8B x)) ∧ Below W.heap.size W W' := by
 unfold vlV at hrec ⊢
 obtain ⟨xb, w1, hqb, hqv, hX, hB1⟩ := alloc_stepV W #[.int .u8 (x.kind : Int), .int .u64 (x.n : Int), .string (str x.s), .slice hx.A1 x.keys.length hx.c1, .slice hx.A2 x.list.length hx.c2] 69
 have hr1 := hrec w1 hB1
 have c0 := hX.c0
 have c1 := hX.c1
 have c2 := hX.c2
 have c3 := hX.c3
 have c4 := hX.c4
 clear hrec
 unfold MayR at hr1
 generalize mayV utf8B x = r at *
 go_enter Tryz.func112, Tryz.ntmps112
 go_upto_region 1 with fail
 rw [← hqb, ← hqv]
 clear hqb hqv
 go_wp2_with (with_reducible refine h_A ?_)
 refine hr1.mono ?_
 rintro e w2 ⟨rfl, hB2⟩
 go_wp2_with (with_reducible refine h_A ?_)
 go_ret
 exact ⟨rfl, hB1.trans (hB2.mono hB1.size)⟩
set_option maxRecDepth 20000 in
set_option maxHeartbeats 4000000 in
theorem may_any (v : Vl) : ∀ (h : VH) (w : World), RVw w v h → UTabs w → Calls Tryz.prog 95 #[.agg (vlV v h)] w (MayR w v) := by
 refine Vl.ind (P := fun v => ∀ (h : VH) (w : World), RVw w v h → UTabs w → Calls Tryz.prog 95 #[.agg (vlV v h)] w (MayR w v)) ?_ v
 intro v ih h w hv hT
 unfold vlV MayR
 obtain ⟨xb, w1, hxb, hxv, hX, hB1⟩ := alloc_stepV w #[.int .u8 (v.kind : Int), .int .u64 (v.n : Int), .string (str v.s), .slice h.A1 v.keys.length h.c1, .slice h.A2 v.list.length h.c2] 69
 have hv1 := hv.up hB1
 have hT1 := hT.on hB1
 obtain ⟨_, hnr, hsl, hkb, hKb, hLb⟩ := hv.bounds
 have hvk : RdX w1 (fun g => g < w1.heap.size) 1 h.A1 v.keys.length h.c1 (v.keys.map txV) := by
  obtain ⟨xs, _, _, _, hvk⟩ := hv1.parts
  exact hvk
 have hkey := keyed_any h.A1 v.keys.length h.c1 v.keys w1 hvk.1 hKb hkb hT1
 have hpl := plain_any v.s w1 hsl hT1
 have hcon := fun W (hW : Below w1.heap.size w1 W) => has_may (fun x => !mayV utf8B x) 0 v h W (hv1.up hW) (fun x hx hx' W' hW' hvx => may1_any x hx' W' hvx (fun W2 hW2 => ih x hx hx' W2 (hvx.up hW2) (((hT1.on hW).on hW').on hW2)))
 rw [any_not_all] at hcon
 obtain ⟨r, hr⟩ : ∃ r, r = mayV utf8B v := ⟨_, rfl⟩
 rw [← hr]
 rw [mayV_eq] at hr
 have hall : v.list.length = 0 → v.list.all (mayV utf8B) = true := fun e => by rw [List.length_eq_zero_iff.1 e]; rfl
 have hem := str_empty v.s
 have has := str_size v.s
 clear ih hv hT hv1 hT1 hvk hkb
 generalize keysOk v.keys utf8B = ko at *
 generalize utf8B v.s = pl at *
 generalize v.list.all (mayV utf8B) = al at *
 generalize v.keys.length = KL at *
 generalize v.list.length = LL at *
 generalize v.s = s at *
 obtain ⟨h1, j1, h2, j2⟩ := h
 simp only at *
 generalize v.kind = kd at *
 generalize v.n = nd at *
 generalize hk : ((kd : Nat) : Int) = k at *
 generalize hnn : ((nd : Nat) : Int) = nn at *
 generalize hsl2 : s.length = sl at *
 have HR := Lib.hid hr
 have HAL := Lib.hid hall
 clear hr hall hsl2
 have c0 := hX.c0
 have c1 := hX.c1
 have c2 := hX.c2
 have c3 := hX.c3
 have c4 := hX.c4
--TREE
 have HIN := Lib.hid hcon
 clear hcon
 by_cases hmap : kd = 168
 ·subst hmap
  obtain rfl : k = 168 := by rw [← hk]; rfl
  clear hk hpl
  by_cases hln : KL = LL
  ·have gl : ((KL : Int) != (LL : Int)) = false := by simp [hln]
   have HLN := Lib.hid hln
   clear hln
   cases ko
   ·obtain rfl : r = false := by rw [HR.out]; simp [mayF]
    go_enter Tryz.func95, Tryz.ntmps95
    go_upto_region 1 with fail
    rw [← hxb, ← hxv]
    clear hxb hxv
    go_wp2_with (with_reducible refine h_A ?_)
    refine hkey.mono ?_
    rintro e w2 ⟨rfl, hB2⟩
    go_wp2_with (with_reducible refine h_A ?_)
    go_ret
    exact ⟨rfl, hB1.trans (hB2.mono hB1.size)⟩
   ·by_cases hn : nd = 0
    ·have HN := Lib.hid hn
     have gn : (nn == 0) = true := by simp; omega
     clear hnn hn
     by_cases hs : sl = 0
     ·rw [decide_eq_true hs] at hem
      have HS := Lib.hid hs
      clear hs
      obtain rfl : r = al := by rw [HR.out]; simp [mayF, HLN.out, HN.out, HS.out]
      go_enter Tryz.func95, Tryz.ntmps95
      go_upto_region 1 with fail
      rw [← hxb, ← hxv]
      clear hxb hxv
      go_wp2_with (with_reducible refine h_A ?_)
      refine hkey.mono ?_
      rintro e w2 ⟨rfl, hB2⟩
      have hX2 := hX.below hB2
      have hcon := HIN.out w2 hB2
      clear c0 c1 c2 c3 c4
      have c0 := hX2.c0
      have c1 := hX2.c1
      have c2 := hX2.c2
      have c3 := hX2.c3
      have c4 := hX2.c4
      go_wp2_with (with_reducible refine h_A ?_)
      refine hcon.mono ?_
      rintro e w3 ⟨rfl, hB3⟩
      cases r
      ·go_wp2_with (with_reducible refine h_A ?_)
       go_ret
       exact ⟨rfl, (hB1.trans (hB2.mono hB1.size)).trans (hB3.mono (hB1.trans (hB2.mono hB1.size)).size)⟩
      ·go_wp2_with (with_reducible refine h_A ?_)
       go_ret
       exact ⟨rfl, (hB1.trans (hB2.mono hB1.size)).trans (hB3.mono (hB1.trans (hB2.mono hB1.size)).size)⟩
     ·rw [decide_eq_false hs] at hem
      have HS := Lib.hid hs
      clear hs
      obtain rfl : r = false := by rw [HR.out]; simp [mayF, HLN.out, HN.out, HS.out]
      go_enter Tryz.func95, Tryz.ntmps95
      go_upto_region 1 with fail
      rw [← hxb, ← hxv]
      clear hxb hxv
      go_wp2_with (with_reducible refine h_A ?_)
      refine hkey.mono ?_
      rintro e w2 ⟨rfl, hB2⟩
      have hX2 := hX.below hB2
      have hcon := HIN.out w2 hB2
      clear c0 c1 c2 c3 c4
      have c0 := hX2.c0
      have c1 := hX2.c1
      have c2 := hX2.c2
      have c3 := hX2.c3
      have c4 := hX2.c4
      go_wp2_with (with_reducible refine h_A ?_)
      go_ret
      exact ⟨rfl, hB1.trans (hB2.mono hB1.size)⟩
    ·have HN := Lib.hid hn
     have gn : (nn == 0) = false := by simp; omega
     clear hnn hn
     obtain rfl : r = false := by rw [HR.out]; simp [mayF, HLN.out, HN.out]
     go_enter Tryz.func95, Tryz.ntmps95
     go_upto_region 1 with fail
     rw [← hxb, ← hxv]
     clear hxb hxv
     go_wp2_with (with_reducible refine h_A ?_)
     refine hkey.mono ?_
     rintro e w2 ⟨rfl, hB2⟩
     have hX2 := hX.below hB2
     have hcon := HIN.out w2 hB2
     clear c0 c1 c2 c3 c4
     have c0 := hX2.c0
     have c1 := hX2.c1
     have c2 := hX2.c2
     have c3 := hX2.c3
     have c4 := hX2.c4
     go_wp2_with (with_reducible refine h_A ?_)
     go_ret
     exact ⟨rfl, hB1.trans (hB2.mono hB1.size)⟩
  ·have gl : ((KL : Int) != (LL : Int)) = true := by simp; omega
   have HLN := Lib.hid hln
   clear hln
   obtain rfl : r = false := by rw [HR.out]; simp [mayF, HLN.out]
   go_enter Tryz.func95, Tryz.ntmps95
   go_upto_region 1 with fail
   rw [← hxb, ← hxv]
   clear hxb hxv
   go_wp2_with (with_reducible refine h_A ?_)
   go_ret
   exact ⟨rfl, hB1⟩
 ·have gm : (k != 168) = true := by simp; omega
  have gm2 : (k == 168) = false := by simp; omega
  by_cases hkl : 0 < KL
  ·have gk : (0 : Int) < (KL : Int) := by omega
   have HM := Lib.hid hmap
   have HKL : Hid (¬ KL = 0) := Lib.hid (by omega)
   clear hkl hmap
   obtain rfl : r = false := by rw [HR.out]; simp [mayF, HM.out, HKL.out]
   go_enter Tryz.func95, Tryz.ntmps95
   go_upto_region 1 with fail
   rw [← hxb, ← hxv]
   clear hxb hxv
   go_wp2_with (with_reducible refine h_A ?_)
   go_ret
   exact ⟨rfl, hB1⟩
  ·have gk : ¬ (0 : Int) < (KL : Int) := by omega
   obtain rfl : KL = 0 := by omega
   by_cases hlist : kd = 169
   ·subst hlist
    obtain rfl : k = 169 := by rw [← hk]; rfl
    clear hk hkl hmap gm gm2 hkey hpl
    by_cases hn : nd = 0
    ·have HN := Lib.hid hn
     have gn : (nn == 0) = true := by simp; omega
     clear hnn hn
     by_cases hs : sl = 0
     ·rw [decide_eq_true hs] at hem
      have HS := Lib.hid hs
      clear hs
      obtain rfl : r = al := by rw [HR.out]; simp [mayF, HN.out, HS.out]
      have hcon := HIN.out w1 (Below.refl _ _)
      go_enter Tryz.func95, Tryz.ntmps95
      go_upto_region 1 with fail
      rw [← hxb, ← hxv]
      clear hxb hxv
      go_wp2_with (with_reducible refine h_A ?_)
      refine hcon.mono ?_
      rintro e w3 ⟨rfl, hB3⟩
      cases r
      ·go_wp2_with (with_reducible refine h_A ?_)
       go_ret
       exact ⟨rfl, (hB1).trans (hB3.mono (hB1).size)⟩
      ·go_wp2_with (with_reducible refine h_A ?_)
       go_ret
       exact ⟨rfl, (hB1).trans (hB3.mono (hB1).size)⟩
     ·rw [decide_eq_false hs] at hem
      have HS := Lib.hid hs
      clear hs
      obtain rfl : r = false := by rw [HR.out]; simp [mayF, HN.out, HS.out]
      go_enter Tryz.func95, Tryz.ntmps95
      go_upto_region 1 with fail
      rw [← hxb, ← hxv]
      clear hxb hxv
      go_wp2_with (with_reducible refine h_A ?_)
      go_ret
      exact ⟨rfl, hB1⟩
    ·have HN := Lib.hid hn
     have gn : (nn == 0) = false := by simp; omega
     clear hnn hn
     obtain rfl : r = false := by rw [HR.out]; simp [mayF, HN.out]
     go_enter Tryz.func95, Tryz.ntmps95
     go_upto_region 1 with fail
     rw [← hxb, ← hxv]
     clear hxb hxv
     go_wp2_with (with_reducible refine h_A ?_)
     go_ret
     exact ⟨rfl, hB1⟩
   ·have gl : (k != 169) = true := by simp; omega
    have gl2 : (k == 169) = false := by simp; omega
    by_cases hll : 0 < LL
    ·have gk2 : (0 : Int) < (LL : Int) := by omega
     have HM := Lib.hid hmap
     have HL := Lib.hid hlist
     have HLL : Hid (¬ LL = 0) := Lib.hid (by omega)
     clear hll hmap hlist
     obtain rfl : r = false := by rw [HR.out]; simp [mayF, HM.out, HL.out, HLL.out]
     go_enter Tryz.func95, Tryz.ntmps95
     go_upto_region 1 with fail
     rw [← hxb, ← hxv]
     clear hxb hxv
     go_wp2_with (with_reducible refine h_A ?_)
     go_ret
     exact ⟨rfl, hB1⟩
    ·have gk2 : ¬ (0 : Int) < (LL : Int) := by omega
     obtain rfl : LL = 0 := by omega
     obtain rfl : al = true := HAL.out rfl
     clear HIN HAL hll hkl hkey
     by_cases h240 : kd = 240
     ·subst h240
      obtain rfl : k = 240 := by rw [← hk]; rfl
      clear hk hmap gm gm2 hlist gl gl2
      by_cases hn : nd = 0
      ·have HN := Lib.hid hn
       have gn : (nn == 0) = true := by simp; omega
       clear hnn hn
       by_cases hs : sl = 0
       ·rw [decide_eq_true hs] at hem
        have HS := Lib.hid hs
        clear hs
        obtain rfl : r = true := by rw [HR.out]; simp [mayF, HN.out, HS.out]
        go_enter Tryz.func95, Tryz.ntmps95
        go_upto_region 1 with fail
        rw [← hxb, ← hxv]
        clear hxb hxv
        go_wp2_with (with_reducible refine h_A ?_)
        go_ret
        exact ⟨rfl, hB1⟩
       ·rw [decide_eq_false hs] at hem
        have HS := Lib.hid hs
        clear hs
        obtain rfl : r = false := by rw [HR.out]; simp [mayF, HN.out, HS.out]
        go_enter Tryz.func95, Tryz.ntmps95
        go_upto_region 1 with fail
        rw [← hxb, ← hxv]
        clear hxb hxv
        go_wp2_with (with_reducible refine h_A ?_)
        go_ret
        exact ⟨rfl, hB1⟩
      ·have HN := Lib.hid hn
       have gn : (nn == 0) = false := by simp; omega
       clear hnn hn
       obtain rfl : r = false := by rw [HR.out]; simp [mayF, HN.out]
       go_enter Tryz.func95, Tryz.ntmps95
       go_upto_region 1 with fail
       rw [← hxb, ← hxv]
       clear hxb hxv
       go_wp2_with (with_reducible refine h_A ?_)
       go_ret
       exact ⟨rfl, hB1⟩
     ·by_cases h8 : kd = 8
      ·subst h8
       obtain rfl : k = 8 := by rw [← hk]; rfl
       clear hk hmap gm gm2 hlist gl gl2
       by_cases hn : nd ≤ 1
       ·have HN := Lib.hid hn
        have gn : nn ≤ 1 := by omega
        clear hnn hn
        by_cases hs : sl = 0
        ·rw [decide_eq_true hs] at hem
         have HS := Lib.hid hs
         clear hs
         obtain rfl : r = true := by rw [HR.out]; simp [mayF, HN.out, HS.out]
         go_enter Tryz.func95, Tryz.ntmps95
         go_upto_region 1 with fail
         rw [← hxb, ← hxv]
         clear hxb hxv
         go_wp2_with (with_reducible refine h_A ?_)
         go_ret
         exact ⟨rfl, hB1⟩
        ·rw [decide_eq_false hs] at hem
         have HS := Lib.hid hs
         clear hs
         obtain rfl : r = false := by rw [HR.out]; simp [mayF, HN.out, HS.out]
         go_enter Tryz.func95, Tryz.ntmps95
         go_upto_region 1 with fail
         rw [← hxb, ← hxv]
         clear hxb hxv
         go_wp2_with (with_reducible refine h_A ?_)
         go_ret
         exact ⟨rfl, hB1⟩
       ·have HN := Lib.hid hn
        have gn : ¬ nn ≤ 1 := by omega
        clear hnn hn
        obtain rfl : r = false := by rw [HR.out]; simp [mayF, HN.out]
        go_enter Tryz.func95, Tryz.ntmps95
        go_upto_region 1 with fail
        rw [← hxb, ← hxv]
        clear hxb hxv
        go_wp2_with (with_reducible refine h_A ?_)
        go_ret
        exact ⟨rfl, hB1⟩
      ·by_cases h2 : kd = 2
       ·subst h2
        obtain rfl : k = 2 := by rw [← hk]; rfl
        clear hk hmap gm gm2 hlist gl gl2
        by_cases hn : nd ≤ 255
        ·have HN := Lib.hid hn
         have gn : nn ≤ 255 := by omega
         clear hnn hn
         by_cases hs : sl = 0
         ·rw [decide_eq_true hs] at hem
          have HS := Lib.hid hs
          clear hs
          obtain rfl : r = true := by rw [HR.out]; simp [mayF, HN.out, HS.out]
          go_enter Tryz.func95, Tryz.ntmps95
          go_upto_region 1 with fail
          rw [← hxb, ← hxv]
          clear hxb hxv
          go_wp2_with (with_reducible refine h_A ?_)
          go_ret
          exact ⟨rfl, hB1⟩
         ·rw [decide_eq_false hs] at hem
          have HS := Lib.hid hs
          clear hs
          obtain rfl : r = false := by rw [HR.out]; simp [mayF, HN.out, HS.out]
          go_enter Tryz.func95, Tryz.ntmps95
          go_upto_region 1 with fail
          rw [← hxb, ← hxv]
          clear hxb hxv
          go_wp2_with (with_reducible refine h_A ?_)
          go_ret
          exact ⟨rfl, hB1⟩
        ·have HN := Lib.hid hn
         have gn : ¬ nn ≤ 255 := by omega
         clear hnn hn
         obtain rfl : r = false := by rw [HR.out]; simp [mayF, HN.out]
         go_enter Tryz.func95, Tryz.ntmps95
         go_upto_region 1 with fail
         rw [← hxb, ← hxv]
         clear hxb hxv
         go_wp2_with (with_reducible refine h_A ?_)
         go_ret
         exact ⟨rfl, hB1⟩
       ·by_cases h49 : kd = 49
        ·subst h49
         obtain rfl : k = 49 := by rw [← hk]; rfl
         clear hk hmap gm gm2 hlist gl gl2
         clear hnn
         by_cases hs : sl = 0
         ·rw [decide_eq_true hs] at hem
          have HS := Lib.hid hs
          clear hs
          obtain rfl : r = true := by rw [HR.out]; simp [mayF, HS.out]
          go_enter Tryz.func95, Tryz.ntmps95
          go_upto_region 1 with fail
          rw [← hxb, ← hxv]
          clear hxb hxv
          go_wp2_with (with_reducible refine h_A ?_)
          go_ret
          exact ⟨rfl, hB1⟩
         ·rw [decide_eq_false hs] at hem
          have HS := Lib.hid hs
          clear hs
          obtain rfl : r = false := by rw [HR.out]; simp [mayF, HS.out]
          go_enter Tryz.func95, Tryz.ntmps95
          go_upto_region 1 with fail
          rw [← hxb, ← hxv]
          clear hxb hxv
          go_wp2_with (with_reducible refine h_A ?_)
          go_ret
          exact ⟨rfl, hB1⟩
        ·by_cases h50 : kd = 50
         ·subst h50
          obtain rfl : k = 50 := by rw [← hk]; rfl
          clear hk hmap gm gm2 hlist gl gl2
          clear hnn
          by_cases hs : sl = 0
          ·rw [decide_eq_true hs] at hem
           have HS := Lib.hid hs
           clear hs
           obtain rfl : r = true := by rw [HR.out]; simp [mayF, HS.out]
           go_enter Tryz.func95, Tryz.ntmps95
           go_upto_region 1 with fail
           rw [← hxb, ← hxv]
           clear hxb hxv
           go_wp2_with (with_reducible refine h_A ?_)
           go_ret
           exact ⟨rfl, hB1⟩
          ·rw [decide_eq_false hs] at hem
           have HS := Lib.hid hs
           clear hs
           obtain rfl : r = false := by rw [HR.out]; simp [mayF, HS.out]
           go_enter Tryz.func95, Tryz.ntmps95
           go_upto_region 1 with fail
           rw [← hxb, ← hxv]
           clear hxb hxv
           go_wp2_with (with_reducible refine h_A ?_)
           go_ret
           exact ⟨rfl, hB1⟩
         ·by_cases h149 : kd = 149
          ·subst h149
           obtain rfl : k = 149 := by rw [← hk]; rfl
           clear hk hmap gm gm2 hlist gl gl2
           by_cases hn : nd = 0
           ·have HN := Lib.hid hn
            have gn : (nn == 0) = true := by simp; omega
            clear hnn hn
            by_cases hs : sl ≤ 4096
            ·have HS := Lib.hid hs
             have gs : (sl : Int) ≤ 4096 := by omega
             clear hs
             cases pl
             ·obtain rfl : r = false := by rw [HR.out]; simp [mayF, HN.out, HS.out]
              go_enter Tryz.func95, Tryz.ntmps95
              go_upto_region 1 with fail
              rw [← hxb, ← hxv]
              clear hxb hxv
              go_wp2_with (with_reducible refine h_A ?_)
              refine hpl.mono ?_
              rintro e w2 ⟨rfl, hB2⟩
              go_wp2_with (with_reducible refine h_A ?_)
              go_ret
              exact ⟨rfl, hB1.trans (hB2.mono hB1.size)⟩
             ·obtain rfl : r = true := by rw [HR.out]; simp [mayF, HN.out, HS.out]
              go_enter Tryz.func95, Tryz.ntmps95
              go_upto_region 1 with fail
              rw [← hxb, ← hxv]
              clear hxb hxv
              go_wp2_with (with_reducible refine h_A ?_)
              refine hpl.mono ?_
              rintro e w2 ⟨rfl, hB2⟩
              go_wp2_with (with_reducible refine h_A ?_)
              go_ret
              exact ⟨rfl, hB1.trans (hB2.mono hB1.size)⟩
            ·have HS := Lib.hid hs
             have gs : ¬ (sl : Int) ≤ 4096 := by omega
             clear hs
             obtain rfl : r = false := by rw [HR.out]; simp [mayF, HN.out, HS.out]
             go_enter Tryz.func95, Tryz.ntmps95
             go_upto_region 1 with fail
             rw [← hxb, ← hxv]
             clear hxb hxv
             go_wp2_with (with_reducible refine h_A ?_)
             go_ret
             exact ⟨rfl, hB1⟩
           ·have HN := Lib.hid hn
            have gn : (nn == 0) = false := by simp; omega
            clear hnn hn
            obtain rfl : r = false := by rw [HR.out]; simp [mayF, HN.out]
            go_enter Tryz.func95, Tryz.ntmps95
            go_upto_region 1 with fail
            rw [← hxb, ← hxv]
            clear hxb hxv
            go_wp2_with (with_reducible refine h_A ?_)
            go_ret
            exact ⟨rfl, hB1⟩
          ·by_cases h160 : kd = 160
           ·subst h160
            obtain rfl : k = 160 := by rw [← hk]; rfl
            clear hk hmap gm gm2 hlist gl gl2
            by_cases hn : nd = 0
            ·have HN := Lib.hid hn
             have gn : (nn == 0) = true := by simp; omega
             clear hnn hn
             by_cases hs : sl ≤ 4096
             ·have HS := Lib.hid hs
              have gs : (sl : Int) ≤ 4096 := by omega
              clear hs
              obtain rfl : r = true := by rw [HR.out]; simp [mayF, HN.out, HS.out]
              go_enter Tryz.func95, Tryz.ntmps95
              go_upto_region 1 with fail
              rw [← hxb, ← hxv]
              clear hxb hxv
              go_wp2_with (with_reducible refine h_A ?_)
              go_ret
              exact ⟨rfl, hB1⟩
             ·have HS := Lib.hid hs
              have gs : ¬ (sl : Int) ≤ 4096 := by omega
              clear hs
              obtain rfl : r = false := by rw [HR.out]; simp [mayF, HN.out, HS.out]
              go_enter Tryz.func95, Tryz.ntmps95
              go_upto_region 1 with fail
              rw [← hxb, ← hxv]
              clear hxb hxv
              go_wp2_with (with_reducible refine h_A ?_)
              go_ret
              exact ⟨rfl, hB1⟩
            ·have HN := Lib.hid hn
             have gn : (nn == 0) = false := by simp; omega
             clear hnn hn
             obtain rfl : r = false := by rw [HR.out]; simp [mayF, HN.out]
             go_enter Tryz.func95, Tryz.ntmps95
             go_upto_region 1 with fail
             rw [← hxb, ← hxv]
             clear hxb hxv
             go_wp2_with (with_reducible refine h_A ?_)
             go_ret
             exact ⟨rfl, hB1⟩
           ·have g240 : (k == 240) = false := by simp; omega
            have g8 : (k == 8) = false := by simp; omega
            have g2 : (k == 2) = false := by simp; omega
            have g49 : (k == 49) = false := by simp; omega
            have g50 : (k == 50) = false := by simp; omega
            have g149 : (k == 149) = false := by simp; omega
            have g160 : (k == 160) = false := by simp; omega
            have H240 := Lib.hid h240
            have H8 := Lib.hid h8
            have H2 := Lib.hid h2
            have H49 := Lib.hid h49
            have H50 := Lib.hid h50
            have H149 := Lib.hid h149
            have H160 := Lib.hid h160
            have HMM := Lib.hid hmap
            have HLI := Lib.hid hlist
            clear hk hmap hlist hnn h240 h8 h2 h49 h50 h149 h160
            obtain rfl : r = false := by rw [HR.out]; simp [mayF, H240.out, H8.out, H2.out, H49.out, H50.out, H149.out, H160.out, HMM.out, HLI.out]
            go_enter Tryz.func95, Tryz.ntmps95
            go_upto_region 1 with fail
            rw [← hxb, ← hxv]
            clear hxb hxv
            go_wp2_with (with_reducible refine h_A ?_)
            go_ret
            exact ⟨rfl, hB1⟩
--EERT
end Go.PH
end

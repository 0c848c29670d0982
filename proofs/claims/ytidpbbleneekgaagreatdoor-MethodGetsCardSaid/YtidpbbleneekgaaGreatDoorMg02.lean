/- Texts laid together: Row, See, SlB, OctWalk, OctPut, OctPutText, OctRWidth, OctRead. -/
import Derived.ProofKit
import Derived.OpenShut
import Derived.Deep.DeepHandedRow
import Derived.Lib.LaidTab
import Derived.SizedLaws
import Derived.Deep.Slices
import Derived.Test.YtidpbbleneekgaaGreatDoorRows
import Derived.BigQuiet
import Derived.Deep.QuietTactic
import Derived.Deep.RegionWith
import Derived.Lib.LazyBuf
import Derived.Test.YtidpbbleneekgaaGreatDoorMg00
import Derived.Test.YtidpbbleneekgaaGreatDoorMg01
set_option linter.all false
set_option linter.unusedSimpArgs false
set_option linter.unusedVariables false
section
/- From a law's walk to its row: reading arguments as the walks take them; what a law's post asks. -/
namespace Go.PH
open Go.RowKit Go.ChangeShapes Go.WideShapes Go.ChangeAt
open Go.ChangeMaps (open_string shut_string)

section
variable {H : Type} {enc : TypeId × Value → H} {P : Program} {W W' : World}

theorem below_trodAll (hl : laidOutB P = true) (bel : Below W.heap.size W W') : ∀ {ts : List TypeId} {vs : List Value} {ds : List (DataW H)} {ps : List MemPlace}, (ts.all fun t => P.readableRec t && decide (t < P.types.size)) = true →
  (∀ x ∈ ps, x.block < W.heap.size) → DataW.TrodAll enc P W 0 (fun _ => true) true ts vs ds ps → DataW.TrodAll enc P W' 0 (fun b => decide (b < W.heap.size)) true ts vs ds ps
 | [], [], [], _, _, _, h => h
 | [], _ :: _, _, _, _, _, h => h.elim
 | [], [], _ :: _, _, _, _, h => h.elim
 | _ :: _, [], _, _, _, _, h => h.elim
 | _ :: _, _ :: _, [], _, _, _, h => h.elim
 | t :: ts, v :: vs, d :: ds, ps, ha, hlt, h => by
  obtain ⟨p, q, hp, hq, rfl⟩ := h
  simp only [List.all_cons, Bool.and_eq_true, decide_eq_true_eq] at ha
  exact ⟨p, q, Below.trod hl ha.1.1 ha.1.2 hp bel (fun x hx => hlt x (by simp [hx])), below_trodAll hl bel (by simpa using ha.2) (fun x hx => hlt x (by simp [hx])) hq, rfl⟩

/-- what a law's post asks: it returned true, nothing that was there has turned -/
theorem law_post {fn : Func} {s : ChangeSpec} {args : Array Value} {ds gs : List (DataW H)} {before : List MemPlace} {bt : TypeId} (hvars : s.vars = [])
  (hW : DataW.Whole enc P fn.params.toList s.vars false W args.toList ds gs before) (hl : laidOutB P = true) (hts : (fn.params.toList.all fun t => P.readableRec t && decide (t < P.types.size)) = true)
  (hrt : fn.resultTypes = #[bt]) (hb : P.underlying bt = some .bool) (hfn : ∀ ds : List (DataW H), ds.length = fn.params.size → s.fn H ds = { results := [.lit (.bool true)], args := ds }) (bel : Below W.heap.size W W') :
  s.post enc P fn false true false false W args (.bool true) W' := by
 have hW' := hW
 obtain ⟨p, q, hA, hV, rfl, hfz, hnd⟩ := hW
 rw [hvars] at hV
 obtain ⟨rfl, rfl⟩ := trodVars_none hV
 have hlen : ∀ {ts : List TypeId} {vs : List Value} {ds : List (DataW H)} {ps : List MemPlace}, DataW.TrodAll enc P W 0 (fun _ => true) true ts vs ds ps → ds.length = ts.length := by
  intro ts
  induction ts with
  | nil => intro vs ds ps h; cases vs <;> cases ds <;> simp_all [DataW.TrodAll]
  | cons t ts ih =>
   intro vs ds ps h
   obtain ⟨v, vs', d, ds', p, q, rfl, rfl, rfl, _, h⟩ := trodAll_cons h
   simp [ih h]
 have e : s.fn H (ds ++ []) = { results := [.lit (.bool true)], args := ds } := by rw [List.append_nil]; exact hfn ds (by rw [hlen hA]; simp)
 refine ⟨ds, [], _, [], p, [], hW', ?_, ?_, ?_, bel.frame _, fun h => by cases h⟩
 ·rw [e, hrt]
  exact ⟨[], [], shut_bool hb true, rfl, rfl⟩
 ·rw [e]
  exact below_trodAll hl bel hts (fun x hx => hW'.lt x (by simp [hx])) hA
 ·rw [e, hvars]
  exact rfl

/-- bytes -/
theorem bytes_core {t e : TypeId} {A : Option Addr} {n c fuel : Nat} {d : DataW H} {ps : List MemPlace} (ht : P.underlying t = some (.slice e)) (he : P.underlying e = some (.int .u8)) (hc : P.cellsOf e = 1) (hby : P.bytesOf e = 1)
  (hf : DataW.trod enc P W 0 (fun _ => true) true fuel t [.slice A n c] = some (d, ps)) (hz : ∀ elems spare, d = .slice elems spare → (elems.length + spare.length) * P.bytesOf e ≤ reachBytes) :
  ∃ l, RdB W W.heap.size A n c l ∧ c ≤ 140737488351232 := by
 rcases open_ints ht he hc hf with ⟨hcs, hx⟩ | ⟨a, len, cap, zs, hcs, _, hl, hm, hlen, hx, hcell, hwf⟩
 ·simp at hcs
  obtain ⟨rfl, rfl, rfl⟩ := hcs
  exact ⟨[], Rd.nil _ _ _ _ (by simp [maxLen]) _, by omega⟩
 ·simp at hcs
  obtain ⟨rfl, rfl, rfl⟩ := hcs
  simp only [if_true] at hlen
  obtain ⟨rfl, rfl⟩ : d = _ ∧ ps = _ := by simpa using hx
  have hzz := hz _ _ rfl
  have hcap : c ≤ 140737488351232 := by
   rw [hby] at hzz
   simp only [lits, List.length_map, List.length_take, List.length_drop, reachBytes] at hzz
   omega
  have hbd : ∀ z ∈ zs, 0 ≤ z ∧ z < 256 := by
   intro z hzm
   have := hwf z hzm
   simp [Lit.wf, IntKind.min, IntKind.max, IntKind.signed, IntKind.bits] at this
   omega
  refine ⟨(zs.take n).map fun z => UInt8.ofNat z.toNat, ⟨by simp; omega, hl, hm, fun hn => ?_⟩, hcap⟩
  have h0 := hcell 0 (by omega)
  obtain ⟨b, off, spot⟩ := a
  have hspot : spot = none := by simpa [Addr.add] using World.cell?_spot h0
  subst hspot
  refine ⟨b, off, rfl, ?_, fun j u hu => ?_⟩
  ·have := World.block_lt_of_cell? W _ h0
   simpa [Addr.add] using this
  ·have hj : j < n ∧ j < zs.length := by
    have := (List.getElem?_eq_some_iff.1 hu).1
    simp at this; omega
   have hadd : (⟨b, off, none⟩ : Addr).add j = ⟨b, off + j, none⟩ := by unfold Addr.add; split <;> simp_all
   have hcj := hcell j hj.2
   rw [hadd] at hcj
   rw [hcj]
   have hz := hbd zs[j] (List.getElem_mem hj.2)
   simp only [List.map_map, List.getElem?_map, List.getElem?_take, hj.1, if_true, List.getElem?_eq_getElem hj.2, Option.map_some, Function.comp] at hu
   rw [← hu]
   simp only [u8v, List.getD, List.getElem?_eq_getElem hj.2, Option.getD_some, UInt8.toNat_ofNat']
   congr 2
   omega
theorem see_bytes {t e : TypeId} {v : Value} {d : DataW H} {ps : List MemPlace} {r : Reach} {b0 : Nat} (ht : P.underlying t = some (.slice e)) (he : P.underlying e = some (.int .u8)) (hc : P.cellsOf e = 1) (hby : P.bytesOf e = 1)
  (hval : Value.okWide P W r b0 t v) (hd : DataW.Trod enc P W 0 (fun _ => true) true t v d ps) (hz : ∀ elems spare, d = .slice elems spare → (elems.length + spare.length) * P.bytesOf e ≤ reachBytes) :
  ∃ A n c l, v = .slice A n c ∧ RdB W W.heap.size A n c l ∧ c ≤ 140737488351232 := by
 obtain ⟨A, n, c, rfl⟩ := okWide_slice ht hval
 obtain ⟨fuel, hf⟩ := hd
 obtain ⟨l, h1, h2⟩ := bytes_core ht he hc hby (by simpa [Value.cells] using hf) hz
 exact ⟨A, n, c, l, rfl, h1, h2⟩
end
end Go.PH
end
section
/- Reading arguments of whatever depth as the walks take them: numbers, bools, texts, slices, structs. -/
namespace Go.PH
open Go.RowKit Go.ChangeShapes Go.WideShapes Go.ChangeAt Go.Deep

section
variable {H : Type} {enc : TypeId × Value → H} {P : Program} {W : World}

/-- whatever reads at type t is, with all its sizes within the form's reach, some a of which R tells the cells -/
def Reader (enc : TypeId × Value → H) (P : Program) (W : World) (t : TypeId) {α : Type} (R : α → List Value → Prop) : Prop :=
 ∀ (fuel : Nat) (cs : List Value) (d : DataW H) (p : List MemPlace), DataW.trod enc P W 0 (fun _ => true) true fuel t cs = some (d, p) → (∀ x ∈ d.weights P t, x ≤ reachBytes) → ∃ a, R a cs

end
end Go.PH
end
section
/- Slices of bytes; bytes turned into a text. -/
namespace Go.PH
open Go.RowKit Go.Proofs
theorem slB : SlT Tryz.prog 22 5 1 1 (.int .u8 0) := SlT.mk' Tryz.underlying22 (by kernel_rfl) rfl (by omega)
theorem run_strB {w : World} {B n c : Nat} {A : Option Addr} {l : List UInt8} (hr : RdB w B A n c l) : (convert 22 9 (.slice A n c)).run Tryz.prog w = .ok (.string (str l)) w :=
 run_str Tryz.underlying22 Tryz.underlying9 Tryz.underlying5 hr
end Go.PH
end
section
/- The walks of octet and of its reference: widths, numbers, putting. -/
namespace Go.PH
open Go.RowKit Go.Proofs

theorem wide_any (x : Int) (w : World) : Calls Tryz.prog 36 #[.int .i64 x] w fun e w' => e = .returned (.bool (wideB x)) ∧ w' = w := by
 by_cases h1 : x = 1
 ·subst h1
  go_enter Tryz.func36, Tryz.ntmps36
  go_wp2_with (with_reducible refine h_A ?_)
  go_ret
  exact ⟨rfl, rfl⟩
 by_cases h2 : x = 2
 ·subst h2
  go_enter Tryz.func36, Tryz.ntmps36
  go_wp2_with (with_reducible refine h_A ?_)
  go_ret
  exact ⟨rfl, rfl⟩
 by_cases h4 : x = 4
 ·subst h4
  go_enter Tryz.func36, Tryz.ntmps36
  go_wp2_with (with_reducible refine h_A ?_)
  go_ret
  exact ⟨rfl, rfl⟩
 by_cases h8 : x = 8
 ·subst h8
  go_enter Tryz.func36, Tryz.ntmps36
  go_wp2_with (with_reducible refine h_A ?_)
  go_ret
  exact ⟨rfl, rfl⟩
 have e := wideB_no h1 h2 h4 h8
 rw [e]
 go_enter Tryz.func36, Tryz.ntmps36
 go_wp2_with (with_reducible refine h_A ?_)
 go_ret
 exact ⟨rfl, rfl⟩

/-- behind: new memory, filled to the brim -/
theorem behind_any (A : Option Addr) (n c : Nat) (l : List UInt8) (A' : Option Addr) (n' c' : Nat) (l' : List UInt8) (w : World) (hb : RdB w w.heap.size A n c l) (hb' : RdB w w.heap.size A' n' c' l') (hn : n + n' ≤ 281474976710656) :
  Calls Tryz.prog 68 #[.slice A n c, .slice A' n' c'] w fun e w' => ∃ A2, e = .returned (.slice A2 (n + n') (n + n')) ∧ Own w' w.heap.size 5 1 A2 (n + n') (n + n') ((l ++ l').map u8v) ∧ Below w.heap.size w w' := by
 have hl := hb.length
 have hl' := hb'.length
 go_enter Tryz.func68, Tryz.ntmps68
 go_wp2_with (with_reducible refine h_A ?_)
 refine unhold (wp_make slB rfl rfl 0 (n + n') rfl rfl (by omega) (by omega) (by omega) (by omega) (by simp [maxLen]; omega) w.heap.size (Nat.le_refl _) ?_)
 intro w1 ho1 hg1
 have hB1 : Below w.heap.size w w1 := (Below.refl _ _).grown hg1 (Nat.le_refl _) (by simp)
 have hz1 := hB1.size
 simp only [Nat.zero_mul, List.take_zero] at ho1
 go_wp2_with (with_reducible refine h_A ?_)
 refine unhold (wp_app_fit slB rfl rfl rfl rfl ho1 (hb.below hB1) (map_one l) (by omega) hz1 ?_)
 intro w2 ho2 hg2
 have hB2 : Below w.heap.size w w2 := hB1.grown hg2 hz1 (fun g hg => (ho1.blk_lt hg).1)
 have hz2 := hB2.size
 simp only [Nat.zero_add, List.nil_append] at ho2
 go_wp2_with (with_reducible refine h_A ?_)
 refine unhold (wp_app_fit slB rfl rfl rfl rfl ho2 (hb'.below hB2) (map_one l') (by omega) hz2 ?_)
 intro w3 ho3 hg3
 have hB3 : Below w.heap.size w w3 := hB2.grown hg3 hz2 (fun g hg => (ho2.blk_lt hg).1)
 rw [← List.map_append] at ho3
 go_wp2_with (with_reducible refine h_A ?_)
 go_ret
 exact ⟨_, by first | rfl | simp, by simpa using ho3, hB3⟩
theorem shr8 (n k : Nat) : (n : Int) / 2 ^ (8 * k) % 256 = (((UInt8.ofNat (n / 256 ^ k)).toNat : Nat) : Int) := by
 rw [UInt8.toNat_ofNat', show (256 : Nat) ^ k = 2 ^ (8 * k) by rw [Nat.pow_mul]]
 rw [Int.natCast_emod, Int.natCast_ediv, Int.natCast_pow]; rfl

set_option maxHeartbeats 1000000 in
theorem number_any (n i : Nat) (w : World) (_hn : n < 18446744073709551616) (hi : 1 ≤ i) (hi8 : i ≤ 8) :
  Calls Tryz.prog 69 #[.int .u64 n, .int .i64 i] w fun e w' => ∃ A2, e = .returned (.slice A2 i i) ∧ Own w' w.heap.size 5 1 A2 i i ((be i n).map u8v) ∧ Below w.heap.size w w' := by
 go_enter Tryz.func69, Tryz.ntmps69
 go_wp2_with (with_reducible refine h_A ?_)
 refine unhold (wp_make slB rfl rfl i i rfl rfl (by omega) (by omega) (Nat.le_refl _) (by omega) (by simp [maxLen]; omega) w.heap.size (Nat.le_refl _) ?_)
 intro w1 ho1 hg1
 have hB1 : Below w.heap.size w w1 := (Below.refl _ _).grown hg1 (Nat.le_refl _) (by simp)
 have hz1 := hB1.size
 have hx0 : (madeCells (Value.int .u8 0).cells (i * 1)).toList.take (i * 1) = (List.replicate (i - 0) 0 ++ be 0 n).map u8v := by
  simp [Value.cells, toList_madeCells_one, u8v, be]
 rw [hx0] at ho1
 go_wp2_with (with_reducible refine h_A ?_)
 go_loopw [11] (fun x wr => ∃ k : Nat, k ≤ i ∧ x = .int .i64 k ∧ Own wr w.heap.size 5 1 (some ⟨w.heap.size, 0, none⟩) i i ((List.replicate (i - k) 0 ++ be k n).map u8v) ∧ Below w.heap.size w wr) (fun x _ => i - (RowKit.intOf x).toNat)
 case atStart => exact ⟨0, by omega, rfl, ho1, hB1⟩
 case round =>
  obtain ⟨k, hk, rfl, ho, hB⟩ := hrel
  by_cases hlt : k < i
  ·obtain ⟨g, hge, hbg, hgl, hkl, hcell, hfz, hst⟩ := OwnB.at_k ho (k := i - 1 - k) (by omega)
   obtain rfl : w.heap.size = g := by injection hge with h; injection h
   have h1 := hst (UInt8.ofNat (n / 256 ^ k))
   rw [be_set i n k hlt] at h1
   have e8 := shr8 n k
   unfold u8v at h1
   rw [← e8] at h1
   clear hst e8
   go_wp2_with (with_reducible refine h_A ?_)
   exact ⟨⟨k + 1, by omega, by go_num, h1, hB.setCell (by omega) _⟩, by simp [RowKit.intOf]; omega⟩
  ·obtain rfl : k = i := by omega
   rw [Nat.sub_self, List.replicate_zero, List.nil_append] at ho
   go_wp2_with (with_reducible refine h_A ?_)
   go_ret
   exact ⟨_, rfl, ho, hB⟩
end Go.PH
end
section
/- The walk of octet's Put. -/
namespace Go.PH
open Go.RowKit Go.Proofs

set_option maxHeartbeats 1000000 in
theorem put_any (A : Option Addr) (n c : Nat) (l : List UInt8) (v : Nat) (x : Int) (w : World) (hb : RdB w w.heap.size A n c l) (hv : v < 18446744073709551616) (hn : n ≤ 281474976710600) :
  Calls Tryz.prog 32 #[.slice A n c, .int .u64 v, .int .i64 x] w fun e w' => ∃ A2 c2, e = .returned (.slice A2 (puts l v x).length c2) ∧ Own w' w.heap.size 5 1 A2 (puts l v x).length c2 ((puts l v x).map u8v) ∧ Below w.heap.size w w' := by
 have hl := hb.length
 by_cases hw : wideB x = true
 ·have h8 := wideB_le hw
  obtain ⟨i, rfl⟩ : ∃ i : Nat, x = i := ⟨x.toNat, by omega⟩
  rw [puts_yes hw]
  simp only [List.length_append, be_length, Int.toNat_natCast, hl]
  go_enter Tryz.func32, Tryz.ntmps32
  go_wp2_with (with_reducible refine h_A ?_)
  refine (wide_any i w).mono ?_
  rw [hw]
  rintro e w' ⟨rfl, rfl⟩
  go_wp2_with (with_reducible refine h_A ?_)
  refine (number_any v i w' hv (by omega) (by omega)).mono ?_
  rintro e w1 ⟨A1, rfl, ho1, hB1⟩
  go_wp2_with (with_reducible refine h_A ?_)
  refine (behind_any A n c l A1 i i (be i v) w1 ((hb.below hB1).more hB1.size) ho1.rd (by omega)).mono ?_
  rintro e w2 ⟨A2, rfl, ho2, hB2⟩
  go_wp2_with (with_reducible refine h_A ?_)
  go_ret
  exact ⟨A2, n + i, rfl, ho2.base_le hB1.size, hB1.trans (hB2.mono hB1.size)⟩
 ·have hw' : wideB x = false := by simpa using hw
  rw [puts_no hw']
  rw [hl]
  go_enter Tryz.func32, Tryz.ntmps32
  go_wp2_with (with_reducible refine h_A ?_)
  refine (wide_any x w).mono ?_
  rw [hw']
  rintro e w' ⟨rfl, rfl⟩
  go_wp2_with (with_reducible refine h_A ?_)
  refine (behind_any A n c l none 0 0 [] w' hb (Rd.nil _ _ _ _ (by simp [maxLen]) _) (by omega)).mono ?_
  rintro e w2 ⟨A2, rfl, ho2, hB2⟩
  simp only [Nat.add_zero, List.append_nil] at ho2 ⊢
  go_wp2_with (with_reducible refine h_A ?_)
  go_ret
  exact ⟨A2, n, rfl, ho2, hB2⟩

end Go.PH
end
section
/- The walk of octet's PutText. -/
namespace Go.PH
open Go.RowKit Go.Proofs

theorem textErr_wide {n : Nat} {x : Int} (h : x = 8 ∨ wideB x = false) : textErr n x = 2 := by
 unfold textErr
 rw [if_neg]
 intro h'
 rcases h with rfl | h
 ·omega
 ·have := wideB_yes (w := x) (by omega)
  rw [h] at this; cases this
theorem putsText_err {l s : List UInt8} {x : Int} (h : textErr s.length x ≠ 0) : putsText l s x = [] := by unfold putsText; rw [if_neg h]
theorem putsText_ok {l s : List UInt8} {x : Int} (h : textErr s.length x = 0) : putsText l s x = l ++ be x.toNat s.length ++ s := by unfold putsText; rw [if_pos h]

set_option maxHeartbeats 1000000 in
theorem puttext_any (A : Option Addr) (n c : Nat) (l s : List UInt8) (x : Int) (w : World) (hb : RdB w w.heap.size A n c l) (hs : s.length ≤ 140737488351232) (hn : n ≤ 140737488351240) :
  Calls Tryz.prog 64 #[.slice A n c, .string (str s), .int .i64 x] w fun e w' => ∃ A2 c2, e = .returned (.tuple #[.slice A2 (putsText l s x).length c2, .int .i64 (textErr s.length x)]) ∧ Own w' w.heap.size 5 1 A2 (putsText l s x).length c2 ((putsText l s x).map u8v) ∧ Below w.heap.size w w' := by
 have hl := hb.length
 have hss := str_size s
 by_cases h8 : x = 8
 ·rw [textErr_wide (.inl h8), putsText_err (by rw [textErr_wide (.inl h8)]; omega)]
  subst h8
  go_enter Tryz.func64, Tryz.ntmps64
  go_wp2_with (with_reducible refine h_A ?_)
  go_ret2
  exact ⟨none, 0, rfl, Own.none_ _ _ _ _, Below.refl _ _⟩
 by_cases hw : wideB x = true
 ·rcases (show x = 1 ∨ x = 2 ∨ x = 4 by rw [wideB_iff] at hw; omega) with rfl | rfl | rfl
  ·by_cases hlen : s.length < 256
   ·have he : textErr s.length 1 = 0 := by unfold textErr; simp; omega
    rw [he, putsText_ok he]
    have hz : (s.length : Int) / 256 = 0 := by omega
    simp only [List.length_append, be_length, show (1 : Int).toNat = 1 from rfl, hl]
    go_enter Tryz.func64, Tryz.ntmps64
    go_wp2_with (with_reducible refine h_A ?_)
    refine (wide_any _ w).mono ?_
    rw [hw]
    rintro e w' ⟨rfl, rfl⟩
    go_wp2_with (with_reducible refine h_A ?_)
    refine (number_any s.length 1 w' (by omega) (by omega) (by omega)).mono ?_
    rintro e w1 ⟨A1, rfl, ho1, hB1⟩
    go_wp2_with (with_reducible refine h_A ?_)
    refine unhold (wp_app_str slB Tryz.underlying9 rfl rfl rfl rfl ho1 (by omega) hB1.size ?_)
    intro A2 c2 w2 ho2 hg2
    have hB2 : Below w'.heap.size w' w2 := hB1.grown hg2 hB1.size (fun g hg => (ho1.blk_lt hg).1)
    rw [← List.map_append] at ho2
    go_wp2_with (with_reducible refine h_A ?_)
    refine (behind_any A n c l A2 (1 + s.length) c2 (be 1 s.length ++ s) w2 ((hb.below hB2).more hB2.size) ho2.rd (by omega)).mono ?_
    rintro e w3 ⟨A3, rfl, ho3, hB3⟩
    rw [← List.append_assoc] at ho3
    go_wp2_with (with_reducible refine h_A ?_)
    go_ret2
    rw [Nat.add_assoc]
    exact ⟨A3, _, rfl, ho3.base_le hB2.size, hB2.trans (hB3.mono hB2.size)⟩
   ·have he : textErr s.length 1 = 3 := by unfold textErr; simp; omega
    rw [he, putsText_err (by rw [he]; omega)]
    have hz : ((s.length : Int) / 256 != 0) = true := by simp; omega
    go_enter Tryz.func64, Tryz.ntmps64
    go_wp2_with (with_reducible refine h_A ?_)
    refine (wide_any _ w).mono ?_
    rw [hw]
    rintro e w' ⟨rfl, rfl⟩
    go_wp2_with (with_reducible refine h_A ?_)
    go_ret2
    exact ⟨none, 0, rfl, Own.none_ _ _ _ _, Below.refl _ _⟩
  ·by_cases hlen : s.length < 65536
   ·have he : textErr s.length 2 = 0 := by unfold textErr; simp; omega
    rw [he, putsText_ok he]
    have hz : (s.length : Int) / 65536 = 0 := by omega
    simp only [List.length_append, be_length, show (2 : Int).toNat = 2 from rfl, hl]
    go_enter Tryz.func64, Tryz.ntmps64
    go_wp2_with (with_reducible refine h_A ?_)
    refine (wide_any _ w).mono ?_
    rw [hw]
    rintro e w' ⟨rfl, rfl⟩
    go_wp2_with (with_reducible refine h_A ?_)
    refine (number_any s.length 2 w' (by omega) (by omega) (by omega)).mono ?_
    rintro e w1 ⟨A1, rfl, ho1, hB1⟩
    go_wp2_with (with_reducible refine h_A ?_)
    refine unhold (wp_app_str slB Tryz.underlying9 rfl rfl rfl rfl ho1 (by omega) hB1.size ?_)
    intro A2 c2 w2 ho2 hg2
    have hB2 : Below w'.heap.size w' w2 := hB1.grown hg2 hB1.size (fun g hg => (ho1.blk_lt hg).1)
    rw [← List.map_append] at ho2
    go_wp2_with (with_reducible refine h_A ?_)
    refine (behind_any A n c l A2 (2 + s.length) c2 (be 2 s.length ++ s) w2 ((hb.below hB2).more hB2.size) ho2.rd (by omega)).mono ?_
    rintro e w3 ⟨A3, rfl, ho3, hB3⟩
    rw [← List.append_assoc] at ho3
    go_wp2_with (with_reducible refine h_A ?_)
    go_ret2
    rw [Nat.add_assoc]
    exact ⟨A3, _, rfl, ho3.base_le hB2.size, hB2.trans (hB3.mono hB2.size)⟩
   ·have he : textErr s.length 2 = 3 := by unfold textErr; simp; omega
    rw [he, putsText_err (by rw [he]; omega)]
    have hz : ((s.length : Int) / 65536 != 0) = true := by simp; omega
    go_enter Tryz.func64, Tryz.ntmps64
    go_wp2_with (with_reducible refine h_A ?_)
    refine (wide_any _ w).mono ?_
    rw [hw]
    rintro e w' ⟨rfl, rfl⟩
    go_wp2_with (with_reducible refine h_A ?_)
    go_ret2
    exact ⟨none, 0, rfl, Own.none_ _ _ _ _, Below.refl _ _⟩
  ·by_cases hlen : s.length < 4294967296
   ·have he : textErr s.length 4 = 0 := by unfold textErr; simp; omega
    rw [he, putsText_ok he]
    have hz : (s.length : Int) / 4294967296 = 0 := by omega
    simp only [List.length_append, be_length, show (4 : Int).toNat = 4 from rfl, hl]
    go_enter Tryz.func64, Tryz.ntmps64
    go_wp2_with (with_reducible refine h_A ?_)
    refine (wide_any _ w).mono ?_
    rw [hw]
    rintro e w' ⟨rfl, rfl⟩
    go_wp2_with (with_reducible refine h_A ?_)
    refine (number_any s.length 4 w' (by omega) (by omega) (by omega)).mono ?_
    rintro e w1 ⟨A1, rfl, ho1, hB1⟩
    go_wp2_with (with_reducible refine h_A ?_)
    refine unhold (wp_app_str slB Tryz.underlying9 rfl rfl rfl rfl ho1 (by omega) hB1.size ?_)
    intro A2 c2 w2 ho2 hg2
    have hB2 : Below w'.heap.size w' w2 := hB1.grown hg2 hB1.size (fun g hg => (ho1.blk_lt hg).1)
    rw [← List.map_append] at ho2
    go_wp2_with (with_reducible refine h_A ?_)
    refine (behind_any A n c l A2 (4 + s.length) c2 (be 4 s.length ++ s) w2 ((hb.below hB2).more hB2.size) ho2.rd (by omega)).mono ?_
    rintro e w3 ⟨A3, rfl, ho3, hB3⟩
    rw [← List.append_assoc] at ho3
    go_wp2_with (with_reducible refine h_A ?_)
    go_ret2
    rw [Nat.add_assoc]
    exact ⟨A3, _, rfl, ho3.base_le hB2.size, hB2.trans (hB3.mono hB2.size)⟩
   ·have he : textErr s.length 4 = 3 := by unfold textErr; simp; omega
    rw [he, putsText_err (by rw [he]; omega)]
    have hz : ((s.length : Int) / 4294967296 != 0) = true := by simp; omega
    go_enter Tryz.func64, Tryz.ntmps64
    go_wp2_with (with_reducible refine h_A ?_)
    refine (wide_any _ w).mono ?_
    rw [hw]
    rintro e w' ⟨rfl, rfl⟩
    go_wp2_with (with_reducible refine h_A ?_)
    go_ret2
    exact ⟨none, 0, rfl, Own.none_ _ _ _ _, Below.refl _ _⟩
 ·have hw' : wideB x = false := by simpa using hw
  rw [textErr_wide (.inr hw'), putsText_err (by rw [textErr_wide (.inr hw')]; omega)]
  go_enter Tryz.func64, Tryz.ntmps64
  go_wp2_with (with_reducible refine h_A ?_)
  refine (wide_any x w).mono ?_
  rw [hw']
  rintro e w' ⟨rfl, rfl⟩
  go_wp2_with (with_reducible refine h_A ?_)
  go_ret2
  exact ⟨none, 0, rfl, Own.none_ _ _ _ _, Below.refl _ _⟩
end Go.PH
end
section
/- The walk of the reference's Width. -/
namespace Go.PH
open Go.RowKit Go.Proofs

theorem rwidth_any (x : Int) (w : World) : Calls Tryz.prog 90 #[.int .i64 x] w fun e w' => e = .returned (.bool (wideB x)) ∧ w' = w := by
 by_cases h1 : x = 1
 ·subst h1
  go_enter Tryz.func90, Tryz.ntmps90
  go_wp2_with (with_reducible refine h_A ?_)
  go_ret
  exact ⟨rfl, rfl⟩
 by_cases h2 : x = 2
 ·subst h2
  go_enter Tryz.func90, Tryz.ntmps90
  go_wp2_with (with_reducible refine h_A ?_)
  go_ret
  exact ⟨rfl, rfl⟩
 by_cases h4 : x = 4
 ·subst h4
  go_enter Tryz.func90, Tryz.ntmps90
  go_wp2_with (with_reducible refine h_A ?_)
  go_ret
  exact ⟨rfl, rfl⟩
 by_cases h8 : x = 8
 ·subst h8
  go_enter Tryz.func90, Tryz.ntmps90
  go_wp2_with (with_reducible refine h_A ?_)
  go_ret
  exact ⟨rfl, rfl⟩
 have b1 : (x == 1) = false := by simpa using h1
 have b2 : (x == 2) = false := by simpa using h2
 have b4 : (x == 4) = false := by simpa using h4
 have b8 : (x == 8) = false := by simpa using h8
 rw [wideB_no h1 h2 h4 h8]
 go_enter Tryz.func90, Tryz.ntmps90
 go_wp2_with (with_reducible refine h_A ?_)
 go_ret
 exact ⟨by simp, rfl⟩

end Go.PH
end
section
/- The walks of octet's reader and of its reference's. -/
namespace Go.PH
open Go.RowKit Go.Proofs

theorem grownOf {w w' : World} (h : Below w.heap.size w w') (row : Option Nat) : w.grownBy w' row := ⟨h.os, h.tape, h.output, h.size, fun k hk _ => h.block k hk⟩
theorem grownDrew (w : World) (row : Option Nat) : w.grownBy w.drew row := ⟨rfl, rfl, rfl, Nat.le_refl _, fun _ _ _ => rfl⟩
theorem grownSet (w : World) (a : Addr) (u : Value) : w.grownBy (w.setCell a u) (some a.block) :=
 ⟨rfl, rfl, rfl, by simp, fun k _ hk => Below.heap_setCell _ _ _ k (fun e => hk (by rw [e]))⟩

/-- bytes.Clone: nil stays nil -/
theorem clone_any (A : Option Addr) (n c : Nat) (l : List UInt8) (w : World) (hb : RdB w w.heap.size A n c l) (hn : n ≤ 140737488351240) :
  Calls Tryz.prog 35 #[.slice A n c] w fun e w' => ∃ A2 c2, e = .returned (.slice A2 n c2) ∧ Own w' w.heap.size 5 1 A2 n c2 (l.map u8v) ∧ Below w.heap.size w w' := by
 have hl := hb.length
 have hnil := run_eql_slice_nil (P := Tryz.prog) w 22 _ A n c Tryz.underlying22
 rcases A with _ | ad
 ·have hn0 : n = 0 := by
   rcases Nat.eq_zero_or_pos n with h0 | h0
   ·exact h0
   ·obtain ⟨b, off, e, _⟩ := hb.at_ h0; cases e
  subst hn0
  obtain rfl := List.eq_nil_of_length_eq_zero hl
  go_enter Tryz.func35, Tryz.ntmps35
  go_wp2_with (with_reducible refine h_A ?_)
  go_ret
  exact ⟨none, 0, rfl, Own.none_ _ _ _ _, Below.refl _ _⟩
 ·go_enter Tryz.func35, Tryz.ntmps35
  go_wp2_with (with_reducible refine h_A ?_)
  have hlit := own_lit (w := w) w.heap.size #[] 5 0 (Nat.le_refl _) (by simp [maxLen]) rfl (size := 1) (by omega)
  have hB1 : Below w.heap.size w (w.alloc (.cells #[] 5)) := (Below.refl _ _).alloc (Nat.le_refl _) _
  refine unhold (wp_app (base := w.heap.size) slB rfl rfl rfl rfl hlit (hb.below hB1) (map_one l) (by omega) (by simp [maxLen]; omega) (by simp) ?_)
  intro A2 c2 w2 ho2 hg2 _
  have hB2 : Below w.heap.size w w2 := hB1.grown hg2 (by simp) (fun g hg => (hlit.blk_lt hg).1)
  simp only [Nat.zero_add, List.nil_append] at ho2
  go_wp2_with (with_reducible refine h_A ?_)
  go_ret
  exact ⟨A2, c2, by first | rfl | simp, ho2, hB2⟩

/-- a reader: none, one without a view, one with its view in block b -/
def Rdr (F : Nat → Prop) (w : World) (v : Value) (vb : Option Nat) (l : List UInt8) (bad : Bool) : Prop :=
 (v = .pointer none ∧ vb = none ∧ l = [] ∧ bad = true) ∨
 (∃ rb, v = .pointer (some ⟨rb, 0, none⟩) ∧ vb = none ∧ l = [] ∧ bad = true ∧ w.cell? ⟨rb, 0, none⟩ = some (.pointer none) ∧ F rb) ∨
 (∃ rb b A n c, v = .pointer (some ⟨rb, 0, none⟩) ∧ vb = some b ∧ rb ≠ b ∧ w.cell? ⟨rb, 0, none⟩ = some (.pointer (some ⟨b, 0, none⟩)) ∧ w.cell? ⟨b, 0, none⟩ = some (.slice A n c) ∧
  w.cell? ⟨b, 1, none⟩ = some (.bool true) ∧ w.cell? ⟨b, 2, none⟩ = some (.bool bad) ∧ w.frozen? ⟨b, 0, none⟩ = false ∧ w.frozen? ⟨b, 2, none⟩ = false ∧ RdB w w.heap.size A n c l ∧ blk A ≠ some b ∧ n ≤ 140737488351240 ∧ F rb ∧ F b ∧ ∀ g, blk A = some g → F g)

theorem vbad_none (w : World) : Calls Tryz.prog 39 #[.pointer none] w fun e w' => e = .returned (.bool true) ∧ w' = w := by
 go_enter Tryz.func39, Tryz.ntmps39
 go_wp2_with (with_reducible refine h_A ?_)
 go_ret
 exact ⟨rfl, rfl⟩
theorem vbad_some (w : World) (b : Nat) (bad : Bool) (h1 : w.cell? ⟨b, 1, none⟩ = some (.bool true)) (h2 : w.cell? ⟨b, 2, none⟩ = some (.bool bad)) :
  Calls Tryz.prog 39 #[.pointer (some ⟨b, 0, none⟩)] w fun e w' => e = .returned (.bool bad) ∧ w' = w := by
 cases bad
 all_goals
  go_enter Tryz.func39, Tryz.ntmps39
  go_wp2_with (with_reducible refine h_A ?_)
  go_ret
  exact ⟨rfl, rfl⟩
theorem vleft_none (w : World) : Calls Tryz.prog 107 #[.pointer none] w fun e w' => e = .returned (.int .i64 0) ∧ w' = w := by
 go_enter Tryz.func107, Tryz.ntmps107
 go_wp2_with (with_reducible refine h_A ?_)
 go_ret
 exact ⟨rfl, rfl⟩
theorem vleft_some (w : World) (b : Nat) {A : Option Addr} {n c : Nat} (h0 : w.cell? ⟨b, 0, none⟩ = some (.slice A n c)) :
  Calls Tryz.prog 107 #[.pointer (some ⟨b, 0, none⟩)] w fun e w' => e = .returned (.int .i64 n) ∧ w' = w := by
 go_enter Tryz.func107, Tryz.ntmps107
 go_wp2_with (with_reducible refine h_A ?_)
 go_ret
 exact ⟨rfl, rfl⟩

theorem Rdr.kept {F : Nat → Prop} {w w' : World} {v : Value} {vb : Option Nat} {l : List UInt8} {bad : Bool} {row : Option Nat} (h : Rdr F w v vb l bad) (hg : w.grownBy w' row) (hne : ∀ g, row = some g → ¬ F g) : Rdr F w' v vb l bad := by
 rcases h with h | ⟨rb, h1, h2, h3, h4, h5, hF⟩ | ⟨rb, b, A, n, c, h1, h2, h3, h4, h5, h6, h7, h8, h9, hr, h10, h11, hF1, hF2, hF3⟩
 ·exact .inl h
 ·exact .inr (.inl ⟨rb, h1, h2, h3, h4, hg.cell h5 (fun e => hne _ e.symm hF), hF⟩)
 ·have hb : b < w.heap.size := World.block_lt_of_cell? w _ h5
  refine .inr (.inr ⟨rb, b, A, n, c, h1, h2, h3, hg.cell h4 (fun e => hne _ e.symm hF1), hg.cell h5 (fun e => hne _ e.symm hF2), hg.cell h6 (fun e => hne _ e.symm hF2), hg.cell h7 (fun e => hne _ e.symm hF2),
   (hg.frozen_far ⟨b, 0, none⟩ hb (fun e => hne _ e.symm hF2)).trans h8, (hg.frozen_far ⟨b, 2, none⟩ hb (fun e => hne _ e.symm hF2)).trans h9, (hr.grown_ne hg (Nat.le_refl _) ?_).more hg.size, h10, h11, hF1, hF2, hF3⟩)
  rcases hA : blk A with _ | g
  ·exact .inl rfl
  ·exact .inr fun e => hne g e.symm (hF3 g hA)
theorem Rdr.below {F : Nat → Prop} {w w' : World} {v : Value} {vb : Option Nat} {l : List UInt8} {bad : Bool} (h : Rdr F w v vb l bad) (hB : Below w.heap.size w w') : Rdr F w' v vb l bad := h.kept (grownOf hB none) (by simp)
theorem Rdr.drew {F : Nat → Prop} {w : World} {v : Value} {vb : Option Nat} {l : List UInt8} {bad : Bool} (h : Rdr F w v vb l bad) : Rdr F w.drew v vb l bad := h.kept (grownDrew w none) (by simp)
theorem Rdr.inF {F : Nat → Prop} {w : World} {v : Value} {vb : Option Nat} {l : List UInt8} {bad : Bool} (h : Rdr F w v vb l bad) {g : Nat} (hg : vb = some g) : F g := by
 rcases h with ⟨_, rfl, _⟩ | ⟨_, _, rfl, _⟩ | ⟨rb, b, A, n, c, _, rfl, _, _, _, _, _, _, _, _, _, _, _, hF, _⟩
 ·cases hg
 ·cases hg
 ·cases hg; exact hF
theorem Rdr.len {F : Nat → Prop} {w : World} {v : Value} {vb : Option Nat} {l : List UInt8} {bad : Bool} (h : Rdr F w v vb l bad) : l.length ≤ 140737488351240 := by
 rcases h with ⟨_, _, rfl, _⟩ | ⟨_, _, _, rfl, _⟩ | ⟨rb, b, A, n, c, _, _, _, _, _, _, _, _, _, hr, _, hn, _⟩
 ·simp
 ·simp
 ·rw [hr.length]; exact hn
theorem rdbad_any {F : Nat → Prop} {w : World} {v : Value} {vb : Option Nat} {l : List UInt8} {bad : Bool} (h : Rdr F w v vb l bad) :
  Calls Tryz.prog 20 #[v] w fun e w' => e = .returned (.bool bad) ∧ w' = w := by
 rcases h with ⟨rfl, rfl, rfl, rfl⟩ | ⟨rb, rfl, rfl, rfl, rfl, hc, hF⟩ | ⟨rb, b, A, n, c, rfl, rfl, hne, hc, h0, h1, h2, _⟩
 ·go_enter Tryz.func20, Tryz.ntmps20
  go_wp2_with (with_reducible refine h_A ?_)
  go_ret
  exact ⟨rfl, rfl⟩
 ·go_enter Tryz.func20, Tryz.ntmps20
  go_wp2_with (with_reducible refine h_A ?_)
  refine (vbad_none w).mono ?_
  rintro e w' ⟨rfl, rfl⟩
  go_wp2_with (with_reducible refine h_A ?_)
  go_ret
  exact ⟨rfl, rfl⟩
 ·go_enter Tryz.func20, Tryz.ntmps20
  go_wp2_with (with_reducible refine h_A ?_)
  refine (vbad_some w b bad h1 h2).mono ?_
  rintro e w' ⟨rfl, rfl⟩
  go_wp2_with (with_reducible refine h_A ?_)
  go_ret
  exact ⟨rfl, rfl⟩
theorem rdleft_any {F : Nat → Prop} {w : World} {v : Value} {vb : Option Nat} {l : List UInt8} {bad : Bool} (h : Rdr F w v vb l bad) :
  Calls Tryz.prog 78 #[v] w fun e w' => e = .returned (.int .i64 l.length) ∧ w' = w := by
 rcases h with ⟨rfl, rfl, rfl, rfl⟩ | ⟨rb, rfl, rfl, rfl, rfl, hc, hF⟩ | ⟨rb, b, A, n, c, rfl, rfl, hne, hc, h0, h1, h2, _, _, hr, _⟩
 ·go_enter Tryz.func78, Tryz.ntmps78
  go_wp2_with (with_reducible refine h_A ?_)
  go_ret
  exact ⟨rfl, rfl⟩
 ·go_enter Tryz.func78, Tryz.ntmps78
  go_wp2_with (with_reducible refine h_A ?_)
  refine (vleft_none w).mono ?_
  rintro e w' ⟨rfl, rfl⟩
  go_wp2_with (with_reducible refine h_A ?_)
  go_ret
  exact ⟨rfl, rfl⟩
 ·have hl := hr.length
  go_enter Tryz.func78, Tryz.ntmps78
  go_wp2_with (with_reducible refine h_A ?_)
  refine (vleft_some w b h0).mono ?_
  rintro e w' ⟨rfl, rfl⟩
  go_wp2_with (with_reducible refine h_A ?_)
  go_ret
  rw [hl]
  exact ⟨rfl, rfl⟩
theorem rdspoil_any {F : Nat → Prop} {w : World} {v : Value} {vb : Option Nat} {l : List UInt8} {bad : Bool} (h : Rdr F w v vb l bad) :
  Calls Tryz.prog 37 #[v] w fun e w' => e = .returned (.tuple #[]) ∧ Rdr F w' v vb [] true ∧ w.grownBy w' vb := by
 rcases h with ⟨rfl, rfl, rfl, rfl⟩ | ⟨rb, rfl, rfl, rfl, rfl, hc, hF⟩ | ⟨rb, b, A, n, c, rfl, rfl, hne, hc, h0, h1, h2, hf0, hf2, hr, hA, hn, hF⟩
 ·go_enter Tryz.func37, Tryz.ntmps37
  go_wp2_with (with_reducible refine h_A ?_)
  go_end0
  exact ⟨rfl, .inl ⟨rfl, rfl, rfl, rfl⟩, World.grownBy.refl _ _⟩
 ·go_enter Tryz.func37, Tryz.ntmps37
  go_wp2_with (with_reducible refine h_A ?_)
  go_end0
  exact ⟨rfl, .inr (.inl ⟨rb, rfl, rfl, rfl, rfl, hc, hF⟩), World.grownBy.refl _ _⟩
 ·go_enter Tryz.func37, Tryz.ntmps37
  go_wp2_with (with_reducible refine h_A ?_)
  have hS : w.drew.cell? ⟨rb, 0, none⟩ = some (.pointer (some ⟨b, 0, none⟩)) := hc
  have hf0' : w.drew.frozen? ⟨b, 0, none⟩ = false := hf0
  have h0' : w.drew.cell? ⟨b, 0, none⟩ = some (.slice A n c) := h0
  refine rg_start (fun wx => wx.cell? ⟨rb, 0, none⟩ = some (.pointer (some ⟨b, 0, none⟩))) (by kernel_rfl) ?_
  refine rg_t 0 hS ?_
  simp only [List.getElem_toArray, List.getElem_cons_zero, Act.put, List.setIfInBounds_toArray, List.set_cons_zero, List.set_cons_succ]
  refine rg_t 1 hS ?_
  simp only [g_S, Act.put]
  refine rg_t 2 hS ?_
  simp only [g_S, Act.put]
  refine rg_t 3 hS ?_
  simp only [g_S, Act.put]
  refine rg_t 4 hS ?_
  simp only [g_S, Act.put]
  refine rg_t 5 hS ?_
  simp only [g_S, Act.put]
  refine rg_t 6 hS ?_
  simp only [g_S, Act.put]
  refine rg_t 7 hS ?_
  simp only [g_S, Act.put]
  refine rg_t 8 hS ?_
  simp only [g_S, Act.put]
  refine rg_t 9 hS ?_
  simp only [g_S, Act.put]
  refine rg_one 10 rfl (by kernel_rfl) rfl (fun K hK => ?_)
  go_simp
  have hS1 : (w.drew.setCell ⟨b, 0, none⟩ (.slice none 0 0)).cell? ⟨rb, 0, none⟩ = some (.pointer (some ⟨b, 0, none⟩)) := (World.cell?_setCell_far _ _ _ _ (fun e => hne e.symm)).trans hS
  have hf2' : (w.drew.setCell ⟨b, 0, none⟩ (.slice none 0 0)).frozen? ⟨b, 2, none⟩ = false := by simp [hf2]
  refine hK _ _ hS1 ?_; clear hK K
  refine rg_t 11 hS1 ?_
  simp only [g_S, Act.put]
  refine rg_t 12 hS1 ?_
  simp only [g_S, Act.put]
  refine rg_one 13 rfl (by kernel_rfl) rfl (fun K hK => ?_)
  go_simp
  refine hK _ _ ((World.cell?_setCell_far _ _ _ _ (fun e => hne e.symm)).trans hS1) ?_
  clear hK K
  refine rg_end (by kernel_rfl) ?_
  go_end0
  refine ⟨rfl, .inr (.inr ⟨rb, b, none, 0, 0, rfl, rfl, hne, ?_, ?_, ?_, ?_, ?_, ?_, Rd.nil _ _ _ _ (by simp [maxLen]) _, by simp [blk], by omega, hF.1, hF.2.1, by simp [blk]⟩), ?_⟩
  ·exact (World.cell?_setCell_far _ _ _ _ (fun e => hne e.symm)).trans hS1
  ·change World.cell? ((w.setCell ⟨b, 0, none⟩ (.slice none 0 0)).setCell ⟨b, 2, none⟩ (.bool true)) _ = _
   rw [World.cell?_setCell_other _ _ _ _ (by simp)]
   exact World.cell?_setCell_same _ _ _ h0
  ·change World.cell? ((w.setCell ⟨b, 0, none⟩ (.slice none 0 0)).setCell ⟨b, 2, none⟩ (.bool true)) _ = _
   rw [World.cell?_setCell_other _ _ _ _ (by simp), World.cell?_setCell_other _ _ _ _ (by simp)]
   exact h1
  ·change World.cell? ((w.setCell ⟨b, 0, none⟩ (.slice none 0 0)).setCell ⟨b, 2, none⟩ (.bool true)) _ = _
   refine World.cell?_setCell_same _ _ _ (u := .bool bad) ?_
   rw [World.cell?_setCell_other _ _ _ _ (by simp)]
   exact h2
  ·simp [hf0]
  ·simp [hf2]
  ·exact ((grownSet w ⟨b, 0, none⟩ (.slice none 0 0)).trans (grownSet _ ⟨b, 2, none⟩ (.bool true))).trans ⟨rfl, rfl, rfl, Nat.le_refl _, fun _ _ _ => rfl⟩

set_option maxHeartbeats 1000000 in
theorem rdtake_any {F : Nat → Prop} {w : World} {v : Value} {vb : Option Nat} {l : List UInt8} {bad : Bool} (h : Rdr F w v vb l bad) (x : Int) (hx : -9223372036854775808 ≤ x) (hx' : x ≤ 9223372036854775807) :
  Calls Tryz.prog 38 #[v, .int .i64 x] w fun e w' => ∃ A2 c2, e = .returned (.slice A2 (mtake l bad x).1.length c2) ∧ Own w' w.heap.size 5 1 A2 (mtake l bad x).1.length c2 ((mtake l bad x).1.map u8v) ∧
   Rdr F w' v vb (mtake l bad x).2.1 (mtake l bad x).2.2 ∧ w.grownBy w' vb := by
 by_cases hbad : bad = true
 ·subst hbad
  rw [mtake_no (.inl rfl)]
  go_enter Tryz.func38, Tryz.ntmps38
  go_wp2_with (with_reducible refine h_A ?_)
  refine (rdbad_any h).mono ?_
  rintro e w' ⟨rfl, rfl⟩
  go_wp2_with (with_reducible refine h_A ?_)
  refine (rdspoil_any h).mono ?_
  rintro e w1 ⟨rfl, h1, hg1⟩
  go_wp2_with (with_reducible refine h_A ?_)
  go_ret
  exact ⟨none, 0, rfl, Own.none_ _ _ _ _, h1, hg1⟩
 obtain rfl : bad = false := by simpa using hbad
 by_cases hneg : x < 0
 ·rw [mtake_no (.inr (.inl hneg))]
  go_enter Tryz.func38, Tryz.ntmps38
  go_wp2_with (with_reducible refine h_A ?_)
  refine (rdbad_any h).mono ?_
  rintro e w' ⟨rfl, rfl⟩
  go_wp2_with (with_reducible refine h_A ?_)
  refine (rdspoil_any h).mono ?_
  rintro e w1 ⟨rfl, h1, hg1⟩
  go_wp2_with (with_reducible refine h_A ?_)
  go_ret
  exact ⟨none, 0, rfl, Own.none_ _ _ _ _, h1, hg1⟩
 by_cases hlen : (l.length : Int) < x
 ·rw [mtake_no (.inr (.inr hlen))]
  go_enter Tryz.func38, Tryz.ntmps38
  go_wp2_with (with_reducible refine h_A ?_)
  refine (rdbad_any h).mono ?_
  rintro e w' ⟨rfl, rfl⟩
  go_wp2_with (with_reducible refine h_A ?_)
  refine (rdleft_any h).mono ?_
  rintro e w' ⟨rfl, rfl⟩
  go_wp2_with (with_reducible refine h_A ?_)
  refine (rdspoil_any h).mono ?_
  rintro e w1 ⟨rfl, h1, hg1⟩
  go_wp2_with (with_reducible refine h_A ?_)
  go_ret
  exact ⟨none, 0, rfl, Own.none_ _ _ _ _, h1, hg1⟩
 obtain ⟨m, rfl⟩ : ∃ m : Nat, x = m := ⟨x.toNat, by omega⟩
 have hm : m ≤ l.length := by omega
 rw [mtake_yes hm]
 have h' := h
 rcases h with ⟨_, _, _, hb⟩ | ⟨_, _, _, _, hb, _⟩ | ⟨rb, b, A, n, c, rfl, rfl, hne, hc, h0, h1, h2, hf0, hf2, hr, hA, hn, hF⟩
 ·cases hb
 ·cases hb
 have hl := hr.length
 have hcap := hr.cap
 go_enter Tryz.func38, Tryz.ntmps38
 go_wp2_with (with_reducible refine h_A ?_)
 refine (rdbad_any h').mono ?_
 rintro e w' ⟨rfl, rfl⟩
 go_wp2_with (with_reducible refine h_A ?_)
 refine (rdleft_any h').mono ?_
 rintro e w' ⟨rfl, rfl⟩
 go_wp2_with (with_reducible refine h_S ?_)
 refine unhold (wp_cut slB rfl rfl rfl hr 0 m c (.inl ⟨rfl, rfl⟩) (.inr ⟨_, _, rfl, rfl⟩) (.inl ⟨rfl, rfl⟩) (by intro h; cases h) (by omega) (by omega) (Nat.le_refl _) (by omega) ?_)
 intro A1 hr1
 simp only [Nat.zero_mul, Nat.mul_one, List.drop_zero, ← List.map_take, Nat.sub_zero] at hr1
 go_wp2_with (with_reducible refine h_S ?_)
 refine (clone_any A1 m c (l.take m) _ hr1 (by omega)).mono ?_
 rintro e w1 ⟨A2, c2, rfl, ho2, hB⟩
 go_wp2_with (with_reducible refine h_A ?_)
 have hbw : b < w'.heap.size := World.block_lt_of_cell? w' _ h0
 have hrw : rb < w'.heap.size := World.block_lt_of_cell? w' _ hc
 have hc1 : w1.drew.cell? ⟨rb, 0, none⟩ = some (.pointer (some ⟨b, 0, none⟩)) := (hB.cell hrw).trans hc
 have h01 : w1.drew.cell? ⟨b, 0, none⟩ = some (.slice A n c) := (hB.cell hbw).trans h0
 have h11 : w1.cell? ⟨b, 1, none⟩ = some (.bool true) := (hB.cell (p := ⟨b, 1, none⟩) hbw).trans h1
 have h21 : w1.cell? ⟨b, 2, none⟩ = some (.bool false) := (hB.cell (p := ⟨b, 2, none⟩) hbw).trans h2
 have hf01 : w1.drew.frozen? ⟨b, 0, none⟩ = false := (World.frozen?_of_block (w := w') (w' := w1.drew) (hB.block b hbw)).trans hf0
 have hf21 : w1.drew.frozen? ⟨b, 2, none⟩ = false := (World.frozen?_of_block (w := w') (w' := w1.drew) (hB.block b hbw)).trans hf2
 have hrr : RdB w1 w'.heap.size A n c l := hr.below hB
 have hcutA := fun wS : World => run_cutA (A := A) slB wS hr.max hr.cap (lo := some (.int .i64 (m : Int))) (hi := none) (mx := none) m n c (.inr ⟨_, _, rfl, rfl⟩) (.inl ⟨rfl, rfl⟩) (.inl ⟨rfl, rfl⟩) (by intro h; cases h) (by omega) (by omega) (Nat.le_refl _) (Nat.le_refl _)
 have hq := hcutA w1.drew
 refine rg_start (fun wx => wx.cell? ⟨rb, 0, none⟩ = some (.pointer (some ⟨b, 0, none⟩))) (by kernel_rfl) ?_
 refine rg_t 0 hc1 ?_
 simp only [List.getElem_toArray, List.getElem_cons_zero, Act.put, List.setIfInBounds_toArray, List.set_cons_zero, List.set_cons_succ]
 refine rg_t 1 hc1 ?_
 simp only [g_S, Act.put]
 refine rg_t 2 hc1 ?_
 simp only [g_S, Act.put]
 refine rg_t 3 hc1 ?_
 simp only [g_S, Act.put]
 refine rg_t 4 hc1 ?_
 simp only [g_S, Act.put]
 refine rg_t 5 hc1 ?_
 simp only [g_S, Act.put]
 refine rg_t 6 hc1 ?_
 simp only [g_S, Act.put]
 refine rg_t 7 hc1 ?_
 simp only [g_S, Act.put]
 refine rg_t 8 hc1 ?_
 simp only [g_S, Act.put]
 refine rg_t 9 hc1 ?_
 simp only [g_S, Act.put]
 refine rg_t 11 hc1 ?_
 simp only [g_S, Act.put]
 refine rg_one 10 rfl (by kernel_rfl) rfl (fun K hK => ?_)
 go_simp
 refine hK _ _ hc1 ?_; clear hK K
 refine rg_one 12 rfl (by kernel_rfl) rfl (fun K hK => ?_)
 go_simp
 refine hK _ _ hc1 ?_; clear hK K
 refine rg_t 13 hc1 ?_
 simp only [g_S, Act.put]
 refine rg_t 14 hc1 ?_
 simp only [g_S, Act.put]
 refine rg_one 15 rfl (by kernel_rfl) rfl (fun K hK => ?_)
 go_simp
 refine hK _ _ ((World.cell?_setCell_far _ _ _ _ (fun e => hne e.symm)).trans hc1) ?_
 clear hK K
 refine rg_end (by kernel_rfl) ?_
 go_wp2_with (with_reducible refine h_A ?_)
 go_ret
 have hge : ∀ g, blk A2 = some g → w'.heap.size ≤ g := fun g hg => (ho2.blk_lt hg).1
 have hg0 := (grownSet w1 ⟨b, 0, none⟩ (.slice (cutA A 1 m c) (n - m) (c - m))).trans (grownDrew _ _)
 refine ⟨A2, c2, by simp [Array.getD, Nat.min_eq_left hm], ?_, ?_, ?_⟩
 ·rw [List.length_take, Nat.min_eq_left hm]
  refine ho2.kept hg0 (.inr fun e => ?_)
  rw [ownBlock_eq] at e
  have : w'.heap.size ≤ b := hge _ e
  omega
 ·refine .inr (.inr ⟨rb, b, cutA A 1 m c, n - m, c - m, rfl, rfl, hne, ?_, ?_, ?_, ?_, ?_, ?_, ?_, ?_, by omega, hF.1, hF.2.1, fun g hg => hF.2.2 g (by rwa [cutA_blk] at hg)⟩)
  ·exact (World.cell?_setCell_far _ _ _ _ (fun e => hne e.symm)).trans hc1
  ·exact World.cell?_setCell_same _ _ _ h01
  ·exact (World.cell?_setCell_other _ _ _ _ (by simp)).trans h11
  ·exact (World.cell?_setCell_other _ _ _ _ (by simp)).trans h21
  ·simpa using hf01
  ·simpa using hf21
  ·have h3 := rd_cut hrr m n c (by omega) (by omega) (Nat.le_refl _) (Nat.le_refl _)
   have e3 : (((l.map u8v).take (n * 1)).drop (m * 1)) = (l.drop m).map u8v := by
    rw [Nat.mul_one, Nat.mul_one, List.take_of_length_le (by simp; omega), List.map_drop]
   rw [e3] at h3
   have h4 : RdB w1 w1.heap.size (cutA A 1 m c) (n - m) (c - m) (l.drop m) := h3.more hB.size
   exact (h4.grown_ne hg0 (Nat.le_refl _) (.inr (by rw [cutA_blk]; exact hA))).more hg0.size
  ·rw [cutA_blk]; exact hA
 ·exact (grownOf hB (some b)).trans hg0
end Go.PH
end

/- Texts laid together: GtBase, GtLtA, GtLtB, GtLtM. -/
import Derived.Shelf.SlicesQ.IndexFunc
import Derived.Lib.LazyBuf
import Derived.IntWalk
import Derived.Test.YtcfhnnbgghbjfaaMg01
import Derived.Test.YtcfhnnbgghbjfaaMg03
import Derived.Test.YtcfhnnbgghbjfaaMg04
import Derived.Test.YtcfhnnbgghbjfaaMg05
import Derived.Test.YtcfhnnbgghbjfaaMg06
import Derived.Test.YtcfhnnbgghbjfaaMg07
section
/- Parts and transactions as values; the walks of slices.Clone, Contains, ContainsFunc at parts, of within, some and plain. -/
set_option linter.all false
set_option linter.unusedSimpArgs false
set_option linter.unusedVariables false
namespace Go.PH
open Go.RowKit Go.Proofs

instance : Inhabited Pt := ⟨⟨0, xd0', 0⟩⟩
def ptC (p : Pt) : List Value := [.int .u8 (p.node : Int), .int .u32 (p.x.fmt : Int), .string (str p.x.glob), .string (str p.x.bran), .int .u8 (p.st : Int)]
def ptV (p : Pt) : Array Value := #[.int .u8 (p.node : Int), .int .u32 (p.x.fmt : Int), .string (str p.x.glob), .string (str p.x.bran), .int .u8 (p.st : Int)]
theorem ptShape : RecShape ptC 5 where
  len a := rfl
  one a u hu := by simp [ptC] at hu; rcases hu with rfl | rfl | rfl | rfl | rfl <;> rfl
  pos := by omega
theorem slP : SlT Try.prog 26 45 5 56 (.agg #[.int .u8 0, .int .u32 0, .string ⟨#[]⟩, .string ⟨#[]⟩, .int .u8 0]) := SlT.mk' Try.underlying26 (by kernel_rfl) rfl (by omega)
abbrev OwnP (w : World) (base : Nat) (A : Option Addr) (n c : Nat) (l : List Pt) : Prop := Own w base 45 5 A n c (rowC ptC l)
abbrev RdP (w : World) (B : Nat) (A : Option Addr) (n c : Nat) (l : List Pt) : Prop := Rd w B 5 A n c (rowC ptC l)
def glV (g : Gl) (A : Option Addr) (n c : Nat) : Array Value := #[.int .u32 (g.x.fmt : Int), .string (str g.x.glob), .string (str g.x.bran), .int .u8 (g.st : Int), .bool g.com, .slice A n c, .int .u32 (g.wait : Int), .int .u32 (g.tries : Int)]
def stv (s : Nat) : Value := .int .u8 (s : Int)
abbrev RdSt (w : World) (B : Nat) (A : Option Addr) (n c : Nat) (S : List Nat) : Prop := Rd w B 1 A n c (S.map stv)
def Try.hasPart_ren : Go.Shelf.Ren := ⟨fun | 6 => 40 | 8 => 67 | n => n, fun | 0 => 0 | 3 => 3 | 4 => 4 | 22 => 26 | 23 => 45 | 25 => 81 | n => n, fun | n => n⟩
theorem Try.hasPart : Go.Proofs.SlLaysH0.n8 Try.prog Try.hasPart_ren := {
  mixed := by kernel_rfl
  f6 := ⟨Try.f40.name, by decide, Try.func40.trans (congrArg some (by kernel_rfl))⟩
  f8 := ⟨Try.f67.name, by decide, Try.func67.trans (congrArg some (by kernel_rfl))⟩
  t0 := Try.underlying0
  a0 := Try.isAgg0
  z0 := Try.sizeOf0
  v0 := Try.zeroValue0
  t3 := Try.underlying3
  a3 := Try.isAgg3
  z3 := Try.sizeOf3
  v3 := Try.zeroValue3
  t4 := Try.underlying4
  a4 := Try.isAgg4
  z4 := Try.sizeOf4
  v4 := Try.zeroValue4
  t22 := Try.underlying26
  a22 := Try.isAgg26
  z22 := Try.sizeOf26
  v22 := Try.zeroValue26
  t25 := Try.underlying81
  a25 := Try.isAgg81
  z25 := Try.sizeOf81
  v25 := Try.zeroValue81 }
def Try.idxPart_ren : Go.Shelf.Ren := ⟨fun | 6 => 40 | n => n, fun | 0 => 0 | 3 => 3 | 4 => 4 | 22 => 26 | 23 => 45 | 25 => 81 | n => n, fun | n => n⟩
theorem Try.idxPart : Go.Proofs.SlLaysH0.n6 Try.prog Try.idxPart_ren := {
  mixed := by kernel_rfl
  f6 := ⟨Try.f40.name, by decide, Try.func40.trans (congrArg some (by kernel_rfl))⟩
  t0 := Try.underlying0
  a0 := Try.isAgg0
  z0 := Try.sizeOf0
  v0 := Try.zeroValue0
  t3 := Try.underlying3
  a3 := Try.isAgg3
  z3 := Try.sizeOf3
  v3 := Try.zeroValue3
  t4 := Try.underlying4
  a4 := Try.isAgg4
  z4 := Try.sizeOf4
  v4 := Try.zeroValue4
  t22 := Try.underlying26
  a22 := Try.isAgg26
  z22 := Try.sizeOf26
  v22 := Try.zeroValue26
  t25 := Try.underlying81
  a25 := Try.isAgg81
  z25 := Try.sizeOf81
  v25 := Try.zeroValue81 }

theorem clonep_any (A : Option Addr) (n c : Nat) (l : List Pt) (B : Nat) (w : World) (hb : RdP w B A n c l) (hn : n ≤ 1000000000) :
    Calls Try.prog 53 #[.slice A n c] w fun e w' => ∃ A2 c2, e = .returned (.slice A2 n c2) ∧ OwnP w' w.heap.size A2 n c2 l ∧ Below w.heap.size w w' := by
  have hl := rec_length ptShape hb
  have hnil := run_eql_slice_nil (P := Try.prog) w 26 _ A n c Try.underlying26
  have hbA : ∀ {W : World}, Below w.heap.size w W → RdP W W.heap.size A n c l := fun {W} hW => by
    rcases Nat.eq_zero_or_pos n with h0 | h0
    · subst h0
      obtain rfl := List.eq_nil_of_length_eq_zero hl
      exact Rd.nil _ _ _ _ hb.max _
    · obtain ⟨b, off, e, hbB, hc⟩ := hb.at_ h0
      obtain ⟨u, hu⟩ : ∃ u, (rowC ptC l)[0]? = some u := by
        have h5 := hb.len
        exact ⟨_, List.getElem?_eq_getElem (by omega)⟩
      have hlt := World.block_lt_of_cell? w _ (hc 0 u hu)
      refine ⟨hb.len, hb.cap, hb.max, fun _ => ⟨b, off, e, Nat.lt_of_lt_of_le hlt hW.size, fun j u hu => (hW.cell (p := ⟨b, off + j, none⟩) hlt).trans (hc j u hu)⟩⟩
  rcases A with _ | ad
  · have hn0 : n = 0 := by
      rcases Nat.eq_zero_or_pos n with h0 | h0
      · exact h0
      · obtain ⟨b, off, e, _⟩ := hb.at_ h0; cases e
    subst hn0
    obtain rfl := List.eq_nil_of_length_eq_zero hl
    clear hbA
    go_enter Try.func53, Try.ntmps53
    go_wp2_with (first | (with_reducible refine hold_append ?_) | (with_reducible refine hold_make ?_) | (with_reducible refine hold_copy ?_))
    go_ret
    exact ⟨none, 0, rfl, Own.none_ _ _ _ _, Below.refl _ _⟩
  · have hlit := own_lit (w := w) w.heap.size #[] 45 0 (Nat.le_refl _) (by simp [maxLen]) rfl (size := 5) (by omega)
    have hB1 : Below w.heap.size w (w.alloc (.cells #[] 45)) := (Below.refl _ _).alloc (Nat.le_refl _) _
    have hbB := hbA hB1
    clear hbA
    go_enter Try.func53, Try.ntmps53
    go_wp2_with (first | (with_reducible refine hold_append ?_) | (with_reducible refine hold_make ?_) | (with_reducible refine hold_copy ?_))
    refine unhold (wp_app (base := w.heap.size) slP rfl rfl rfl rfl hlit hbB (rowC_one ptShape l) (by omega) (by simp [maxLen]; omega) (by simp) ?_)
    intro A2 c2 w2 ho2 hg2 _
    have hB2 : Below w.heap.size w w2 := hB1.grown hg2 (by simp) (fun g hg => (hlit.blk_lt hg).1)
    simp only [Nat.zero_add, List.nil_append] at ho2
    go_wp2_with (first | (with_reducible refine hold_append ?_) | (with_reducible refine hold_make ?_) | (with_reducible refine hold_copy ?_))
    go_ret
    exact ⟨A2, c2, by first | rfl | simp, ho2, hB2⟩
theorem index_any (A : Option Addr) (n c : Nat) (S : List Nat) (v : Nat) (B : Nat) (w : World) (hr : RdSt w B A n c S) (hn : n ≤ 1000000000) :
    Calls Try.prog 76 #[.slice A n c, .int .u8 (v : Int)] w fun e w' => (∃ r : Int, e = .returned (.int .i64 r) ∧ decide (0 ≤ r) = S.contains v) ∧ w' = w := by
  have hl : S.length = n := by have := hr.len; simpa using this
  go_enter Try.func76, Try.ntmps76
  go_wp2_with (first | (with_reducible refine hold_append ?_) | (with_reducible refine hold_make ?_) | (with_reducible refine hold_copy ?_))
  go_loopw [8] (fun s wr => ∃ (k : Nat), k ≤ n ∧ s = .int .i64 k ∧ (∀ j, j < k → S[j]? ≠ some v) ∧ Hid (wr = w)) (fun s _ => n - (RowKit.intOf s).toNat)
  case atStart => exact ⟨0, by omega, rfl, fun j hj => by omega, Lib.hid rfl⟩
  case round =>
    obtain ⟨k, hk, rfl, hno, HW⟩ := hrel
    replace hr : RdSt wr B A n c S := by rw [HW.out]; exact hr
    have HNO := Lib.hid hno
    clear hno
    by_cases hlt : k < n
    · have hkn : (k : Int) < (n : Int) := by omega
      obtain ⟨b, off, u, rfl, hbB, hu, hc⟩ := Rd.at_k hr hlt
      have hkl : k < S.length := by omega
      rw [List.getElem?_map, List.getElem?_eq_getElem hkl] at hu
      injection hu with hu
      subst hu
      have HK : Hid (S[k]? = some S[k]) := Lib.hid (List.getElem?_eq_getElem hkl)
      have HM : Hid (S[k] ∈ S) := Lib.hid (List.getElem_mem hkl)
      generalize S[k] = s at *
      simp only [stv] at hc
      by_cases hvs : v = s
      · have hd : ((v : Int) == (s : Int)) = true := by simp [hvs]
        have hm : S.contains v = true := by rw [hvs]; simpa using HM.out
        clear hvs
        go_wp2_with (first | (with_reducible refine hold_append ?_) | (with_reducible refine hold_make ?_) | (with_reducible refine hold_copy ?_))
        go_ret
        exact ⟨⟨k, rfl, by rw [hm]; simp⟩, HW.out⟩
      · have hd : ((v : Int) == (s : Int)) = false := by simp; omega
        have hno : Hid (∀ j, j < k + 1 → S[j]? ≠ some v) := Lib.hid fun j hj => by
          by_cases hjk : j < k
          · exact HNO.out j hjk
          · obtain rfl : j = k := by omega
            rw [HK.out]; intro e; injection e with e; exact hvs e.symm
        clear hvs
        go_wp2_with (first | (with_reducible refine hold_append ?_) | (with_reducible refine hold_make ?_) | (with_reducible refine hold_copy ?_))
        exact ⟨⟨k + 1, by omega, by go_num, hno.out, HW⟩, by simp [RowKit.intOf]; omega⟩
    · obtain rfl : k = n := by omega
      have hm : S.contains v = false := by
        simp only [List.contains_eq_mem, decide_eq_false_iff_not]
        intro h
        obtain ⟨j, hj, e⟩ := List.mem_iff_getElem.1 h
        exact HNO.out j (by omega) (by rw [List.getElem?_eq_getElem hj, e])
      go_wp2_with (first | (with_reducible refine hold_append ?_) | (with_reducible refine hold_make ?_) | (with_reducible refine hold_copy ?_))
      go_ret
      exact ⟨⟨_, rfl, by rw [hm]; rfl⟩, HW.out⟩
theorem contains_any (A : Option Addr) (n c : Nat) (S : List Nat) (v : Nat) (B : Nat) (w : World) (hr : RdSt w B A n c S) (hn : n ≤ 1000000000) :
    Calls Try.prog 69 #[.slice A n c, .int .u8 (v : Int)] w fun e w' => e = .returned (.bool (S.contains v)) ∧ w' = w := by
  have hi := index_any A n c S v B w hr hn
  generalize S.contains v = r at *
  clear hr
  go_enter Try.func69, Try.ntmps69
  go_wp2_with (first | (with_reducible refine hold_append ?_) | (with_reducible refine hold_make ?_) | (with_reducible refine hold_copy ?_))
  refine hi.mono ?_
  rintro e w' ⟨⟨q, rfl, hq⟩, rfl⟩
  have HQ := Lib.hid hq
  clear hq
  go_wp2_with (first | (with_reducible refine hold_append ?_) | (with_reducible refine hold_make ?_) | (with_reducible refine hold_copy ?_))
  go_ret
  rw [← HQ.out]
  exact ⟨rfl, rfl⟩
set_option maxRecDepth 20000 in
theorem within1_any (p : Pt) (bx : Nat) (A : Option Addr) (n c : Nat) (S : List Nat) (B : Nat) (W : World) (hx : W.cell? ⟨bx, 0, none⟩ = some (.slice A n c)) (hr : RdSt W B A n c S) (hB : B ≤ W.heap.size) (hn : n ≤ 1000000000) :
    Calls Try.prog 68 #[.agg (ptV p), .pointer (some ⟨bx, 0, none⟩)] W fun e w' => e = .returned (.bool (!S.contains p.st)) ∧ Below W.heap.size W w' := by
  have hbx : bx < W.heap.size := World.block_lt_of_cell? W _ hx
  have hco := fun v W' (h : Below W.heap.size W W') => contains_any A n c S v B W' (hr.below' h hB) hn
  obtain ⟨pn, ⟨xf, xg, xh⟩, ps⟩ := p
  simp only [ptV]
  have hB1 := (Below.refl W.heap.size W).alloc (Nat.le_refl _) (.cells #[.int .u8 (pn : Int), .int .u32 (xf : Int), .string (str xg), .string (str xh), .int .u8 (ps : Int)] 45)
  have hb1 := Box.new W #[.int .u8 (pn : Int), .int .u32 (xf : Int), .string (str xg), .string (str xh), .int .u8 (ps : Int)] 45
  have hx1 := (hB1.cell (p := ⟨bx, 0, none⟩) hbx).trans hx
  have k4 := hb1.cell (j := 4) rfl
  have hcs := hco ps _ hB1
  generalize S.contains ps = r at hcs ⊢
  clear hco hr hx
  go_enter Try.func68, Try.ntmps68
  go_wp2_with (first | (with_reducible refine hold_append ?_) | (with_reducible refine hold_make ?_) | (with_reducible refine hold_copy ?_))
  refine hcs.mono ?_
  rintro e w' ⟨rfl, rfl⟩
  go_wp2_with (first | (with_reducible refine hold_append ?_) | (with_reducible refine hold_make ?_) | (with_reducible refine hold_copy ?_))
  go_ret
  exact ⟨rfl, hB1⟩
set_option maxRecDepth 20000 in
theorem some1_any (p : Pt) (bx : Nat) (A : Option Addr) (n c : Nat) (S : List Nat) (B : Nat) (W : World) (hx : W.cell? ⟨bx, 0, none⟩ = some (.slice A n c)) (hr : RdSt W B A n c S) (hB : B ≤ W.heap.size) (hn : n ≤ 1000000000) :
    Calls Try.prog 70 #[.agg (ptV p), .pointer (some ⟨bx, 0, none⟩)] W fun e w' => e = .returned (.bool (S.contains p.st)) ∧ Below W.heap.size W w' := by
  have hbx : bx < W.heap.size := World.block_lt_of_cell? W _ hx
  have hco := fun v W' (h : Below W.heap.size W W') => contains_any A n c S v B W' (hr.below' h hB) hn
  obtain ⟨pn, ⟨xf, xg, xh⟩, ps⟩ := p
  simp only [ptV]
  have hB1 := (Below.refl W.heap.size W).alloc (Nat.le_refl _) (.cells #[.int .u8 (pn : Int), .int .u32 (xf : Int), .string (str xg), .string (str xh), .int .u8 (ps : Int)] 45)
  have hb1 := Box.new W #[.int .u8 (pn : Int), .int .u32 (xf : Int), .string (str xg), .string (str xh), .int .u8 (ps : Int)] 45
  have hx1 := (hB1.cell (p := ⟨bx, 0, none⟩) hbx).trans hx
  have k4 := hb1.cell (j := 4) rfl
  have hcs := hco ps _ hB1
  generalize S.contains ps = r at hcs ⊢
  clear hco hr hx
  go_enter Try.func70, Try.ntmps70
  go_wp2_with (first | (with_reducible refine hold_append ?_) | (with_reducible refine hold_make ?_) | (with_reducible refine hold_copy ?_))
  refine hcs.mono ?_
  rintro e w' ⟨rfl, rfl⟩
  go_wp2_with (first | (with_reducible refine hold_append ?_) | (with_reducible refine hold_make ?_) | (with_reducible refine hold_copy ?_))
  go_ret
  exact ⟨rfl, hB1⟩
end Go.PH
end
section
/- Letters as values; the walks of letter's asks, of gtx's voted, ended, done. -/
set_option linter.all false
set_option linter.unusedSimpArgs false
set_option linter.unusedVariables false
namespace Go.PH
open Go.RowKit Go.Proofs

def ltV (l : Lt) (A : Option Addr) (n c : Nat) : Array Value := #[.int .u8 (l.kind : Int), .int .u32 (l.x.fmt : Int), .string (str l.x.glob), .string (str l.x.bran), .int .u8 (l.xa : Int), .int .u16 (l.no : Int), .slice A n c]
/-- what a letter asks, and whether it is an answer -/
def askP (k : Nat) : Nat × Bool := if 16 < k then (if 1 ≤ k - 16 ∧ k - 16 ≤ 5 then (k - 16, true) else (0, false)) else if 1 ≤ k ∧ k ≤ 5 then (k, false) else (0, false)
theorem askP_ans (m : Nat) (h0 : m ≠ 0) : askP (m + 16) = if 1 ≤ m ∧ m ≤ 5 then (m, true) else (0, false) := by
  unfold askP
  rw [if_pos (by omega)]
  simp
theorem askP_not {k : Nat} (h : ¬ 16 < k) : askP k = if 1 ≤ k ∧ k ≤ 5 then (k, false) else (0, false) := by
  unfold askP
  rw [if_neg h]
theorem asks_any (k : Nat) (w : World) (hk : k < 256) : Calls Try.prog 61 #[.int .u8 (k : Int)] w fun e w' => e = .returned (.tuple #[.int .u8 ((askP k).1 : Int), .bool (askP k).2]) ∧ w = w' := by
  obtain ⟨R, hR⟩ : ∃ R, R = askP k := ⟨_, rfl⟩
  rw [← hR]
  have HR := Lib.hid hR
  clear hR
  by_cases h1 : 16 < k
  · obtain ⟨m, rfl⟩ : ∃ m, k = m + 16 := ⟨k - 16, by omega⟩
    have HM := Lib.hid (askP_ans m (by omega))
    have d1 : decide ((16 : Int) < ((m + 16 : Nat) : Int)) = true := by simp; omega
    have hw : IntKind.u8.wrap (((m + 16 : Nat) : Int) - 16) = (m : Int) := by rw [IntWalk.u8_in _ ⟨by omega, by omega⟩]; omega
    have hw2 : ((m + 16 : Nat) : Int) - 16 = (m : Int) := by omega
    generalize (m + 16) = k at *
    by_cases h3 : 5 < m
    · have HE : Hid (R = (0, false)) := Lib.hid (by rw [HR.out, HM.out, if_neg (by omega)])
      have d2 : decide ((m : Int) < 1) = false := by simp; omega
      have d3 : decide ((5 : Int) < (m : Int)) = true := by simp; omega
      clear HR HM
      go_enter Try.func61, Try.ntmps61
      go_wp2_with (first | (with_reducible refine hold_append ?_) | (with_reducible refine hold_make ?_) | (with_reducible refine hold_copy ?_))
      go_ret2
      rw [HE.out]
      exact ⟨rfl, rfl⟩
    · have HE : Hid (R = (m, true)) := Lib.hid (by rw [HR.out, HM.out, if_pos (by omega)])
      have d2 : decide ((m : Int) < 1) = false := by simp; omega
      have d3 : decide ((5 : Int) < (m : Int)) = false := by simp; omega
      clear HR HM
      go_enter Try.func61, Try.ntmps61
      go_wp2_with (first | (with_reducible refine hold_append ?_) | (with_reducible refine hold_make ?_) | (with_reducible refine hold_copy ?_))
      go_ret2
      rw [HE.out]
      exact ⟨rfl, rfl⟩
  · have HM := Lib.hid (askP_not h1)
    have d1 : decide ((16 : Int) < (k : Int)) = false := by simp; omega
    by_cases h2 : k < 1
    · have HE : Hid (R = (0, false)) := Lib.hid (by rw [HR.out, HM.out, if_neg (by omega)])
      have d2 : decide ((k : Int) < 1) = true := by simp; omega
      clear HR HM h2
      go_enter Try.func61, Try.ntmps61
      go_wp2_with (first | (with_reducible refine hold_append ?_) | (with_reducible refine hold_make ?_) | (with_reducible refine hold_copy ?_))
      go_ret2
      rw [HE.out]
      exact ⟨rfl, rfl⟩
    · have d2 : decide ((k : Int) < 1) = false := by simp; omega
      by_cases h3 : 5 < k
      · have HE : Hid (R = (0, false)) := Lib.hid (by rw [HR.out, HM.out, if_neg (by omega)])
        have d3 : decide ((5 : Int) < (k : Int)) = true := by simp; omega
        clear HR HM
        go_enter Try.func61, Try.ntmps61
        go_wp2_with (first | (with_reducible refine hold_append ?_) | (with_reducible refine hold_make ?_) | (with_reducible refine hold_copy ?_))
        go_ret2
        rw [HE.out]
        exact ⟨rfl, rfl⟩
      · have HE : Hid (R = (k, false)) := Lib.hid (by rw [HR.out, HM.out, if_pos (by omega)])
        have d3 : decide ((5 : Int) < (k : Int)) = false := by simp; omega
        clear HR HM
        go_enter Try.func61, Try.ntmps61
        go_wp2_with (first | (with_reducible refine hold_append ?_) | (with_reducible refine hold_make ?_) | (with_reducible refine hold_copy ?_))
        go_ret2
        rw [HE.out]
        exact ⟨rfl, rfl⟩
theorem done_any (xa no : Nat) (w : World) : Calls Try.prog 74 #[.int .u8 (xa : Int), .int .u16 (no : Int)] w fun e w' => e = .returned (.bool (decide (xa = 0 ∧ (no = 0 ∨ no = 7)))) ∧ w = w' := by
  obtain ⟨R, hR⟩ : ∃ R, R = decide (xa = 0 ∧ (no = 0 ∨ no = 7)) := ⟨_, rfl⟩
  rw [← hR]
  have HR := Lib.hid hR
  clear hR
  by_cases h1 : xa = 0
  · have d1 : ((xa : Int) == 0) = true := by simp; omega
    by_cases h2 : no = 0
    · have d2 : ((no : Int) == 0) = true := by simp; omega
      have HE : Hid (R = true) := Lib.hid (by rw [HR.out]; simp [h1, h2])
      clear HR h1 h2
      go_enter Try.func74, Try.ntmps74
      go_wp2_with (first | (with_reducible refine hold_append ?_) | (with_reducible refine hold_make ?_) | (with_reducible refine hold_copy ?_))
      go_ret
      rw [HE.out]
      exact ⟨rfl, rfl⟩
    · have d2 : ((no : Int) == 0) = false := by simp; omega
      by_cases h3 : no = 7
      · have d3 : ((no : Int) == 7) = true := by simp; omega
        have HE : Hid (R = true) := Lib.hid (by rw [HR.out]; simp [h1, h3])
        clear HR h1 h2 h3
        go_enter Try.func74, Try.ntmps74
        go_wp2_with (first | (with_reducible refine hold_append ?_) | (with_reducible refine hold_make ?_) | (with_reducible refine hold_copy ?_))
        go_ret
        rw [HE.out]
        exact ⟨rfl, rfl⟩
      · have d3 : ((no : Int) == 7) = false := by simp; omega
        have HE : Hid (R = false) := Lib.hid (by rw [HR.out]; simp [h2, h3])
        clear HR h1 h2 h3
        go_enter Try.func74, Try.ntmps74
        go_wp2_with (first | (with_reducible refine hold_append ?_) | (with_reducible refine hold_make ?_) | (with_reducible refine hold_copy ?_))
        go_ret
        rw [HE.out]
        exact ⟨rfl, rfl⟩
  · have d1 : ((xa : Int) == 0) = false := by simp; omega
    have HE : Hid (R = false) := Lib.hid (by rw [HR.out]; simp [h1])
    clear HR h1
    go_enter Try.func74, Try.ntmps74
    go_wp2_with (first | (with_reducible refine hold_append ?_) | (with_reducible refine hold_make ?_) | (with_reducible refine hold_copy ?_))
    go_ret
    rw [HE.out]
    exact ⟨rfl, rfl⟩
theorem ended_any (xa no : Nat) (w : World) : Calls Try.prog 64 #[.int .u8 (xa : Int), .int .u16 (no : Int)] w fun e w' => e = .returned (.tuple #[.int .u8 ((ended xa no).1 : Int), .bool (ended xa no).2]) ∧ w = w' := by
  obtain ⟨R, hR⟩ : ∃ R, R = ended xa no := ⟨_, rfl⟩
  rw [← hR]
  have HR : Hid (R = if xa = 0 ∧ (no = 0 ∨ no = 7) then (2, true) else if xa = 4 then (3, true) else if xa = 5 then (4, true) else (0, false)) := Lib.hid (by rw [hR]; rfl)
  clear hR
  have hd := fun w => done_any xa no w
  by_cases h1 : xa = 0 ∧ (no = 0 ∨ no = 7)
  · have HE : Hid (R = (2, true)) := Lib.hid (by rw [HR.out, if_pos h1])
    rw [decide_eq_true h1] at hd
    clear HR h1
    go_enter Try.func64, Try.ntmps64
    go_wp2_with (first | (with_reducible refine hold_append ?_) | (with_reducible refine hold_make ?_) | (with_reducible refine hold_copy ?_))
    refine (hd _).mono ?_
    rintro e w' ⟨rfl, rfl⟩
    go_wp2_with (first | (with_reducible refine hold_append ?_) | (with_reducible refine hold_make ?_) | (with_reducible refine hold_copy ?_))
    go_ret2
    rw [HE.out]
    exact ⟨rfl, rfl⟩
  · rw [decide_eq_false h1] at hd
    by_cases h2 : xa = 4
    · have HE : Hid (R = (3, true)) := Lib.hid (by rw [HR.out, if_neg h1, if_pos h2])
      have d2 : ((xa : Int) == 4) = true := by simp; omega
      clear HR h1 h2
      go_enter Try.func64, Try.ntmps64
      go_wp2_with (first | (with_reducible refine hold_append ?_) | (with_reducible refine hold_make ?_) | (with_reducible refine hold_copy ?_))
      refine (hd _).mono ?_
      rintro e w' ⟨rfl, rfl⟩
      go_wp2_with (first | (with_reducible refine hold_append ?_) | (with_reducible refine hold_make ?_) | (with_reducible refine hold_copy ?_))
      go_ret2
      rw [HE.out]
      exact ⟨rfl, rfl⟩
    · have d2 : ((xa : Int) == 4) = false := by simp; omega
      by_cases h3 : xa = 5
      · have HE : Hid (R = (4, true)) := Lib.hid (by rw [HR.out, if_neg h1, if_neg h2, if_pos h3])
        have d3 : ((xa : Int) == 5) = true := by simp; omega
        clear HR h1 h2 h3
        go_enter Try.func64, Try.ntmps64
        go_wp2_with (first | (with_reducible refine hold_append ?_) | (with_reducible refine hold_make ?_) | (with_reducible refine hold_copy ?_))
        refine (hd _).mono ?_
        rintro e w' ⟨rfl, rfl⟩
        go_wp2_with (first | (with_reducible refine hold_append ?_) | (with_reducible refine hold_make ?_) | (with_reducible refine hold_copy ?_))
        go_ret2
        rw [HE.out]
        exact ⟨rfl, rfl⟩
      · have HE : Hid (R = (0, false)) := Lib.hid (by rw [HR.out, if_neg h1, if_neg h2, if_neg h3])
        have d3 : ((xa : Int) == 5) = false := by simp; omega
        clear HR h1 h2 h3
        go_enter Try.func64, Try.ntmps64
        go_wp2_with (first | (with_reducible refine hold_append ?_) | (with_reducible refine hold_make ?_) | (with_reducible refine hold_copy ?_))
        refine (hd _).mono ?_
        rintro e w' ⟨rfl, rfl⟩
        go_wp2_with (first | (with_reducible refine hold_append ?_) | (with_reducible refine hold_make ?_) | (with_reducible refine hold_copy ?_))
        go_ret2
        rw [HE.out]
        exact ⟨rfl, rfl⟩
theorem voted_any (xa no : Nat) (w : World) : Calls Try.prog 63 #[.int .u8 (xa : Int), .int .u16 (no : Int)] w fun e w' => e = .returned (.tuple #[.int .u8 ((voted xa no).1 : Int), .bool (voted xa no).2]) ∧ w = w' := by
  obtain ⟨R, hR⟩ : ∃ R, R = voted xa no := ⟨_, rfl⟩
  rw [← hR]
  have HR : Hid (R = if xa = 0 ∧ no = 0 then (1, true) else if xa ≠ 0 ∨ no = 7 then (2, true) else (0, false)) := Lib.hid (by rw [hR]; rfl)
  clear hR
  by_cases h1 : xa = 0
  · have d1 : ((xa : Int) == 0) = true := by simp; omega
    have d1' : ((xa : Int) != 0) = false := by simp; omega
    by_cases h2 : no = 0
    · have HE : Hid (R = (1, true)) := Lib.hid (by rw [HR.out, if_pos ⟨h1, h2⟩])
      have d2 : ((no : Int) == 0) = true := by simp; omega
      clear HR h1 h2
      go_enter Try.func63, Try.ntmps63
      go_wp2_with (first | (with_reducible refine hold_append ?_) | (with_reducible refine hold_make ?_) | (with_reducible refine hold_copy ?_))
      go_ret2
      rw [HE.out]
      exact ⟨rfl, rfl⟩
    · have d2 : ((no : Int) == 0) = false := by simp; omega
      by_cases h3 : no = 7
      · have HE : Hid (R = (2, true)) := Lib.hid (by rw [HR.out, if_neg (by omega), if_pos (by omega)])
        have d3 : ((no : Int) == 7) = true := by simp; omega
        clear HR h1 h2 h3
        go_enter Try.func63, Try.ntmps63
        go_wp2_with (first | (with_reducible refine hold_append ?_) | (with_reducible refine hold_make ?_) | (with_reducible refine hold_copy ?_))
        go_ret2
        rw [HE.out]
        exact ⟨rfl, rfl⟩
      · have HE : Hid (R = (0, false)) := Lib.hid (by rw [HR.out, if_neg (by omega), if_neg (by omega)])
        have d3 : ((no : Int) == 7) = false := by simp; omega
        clear HR h1 h2 h3
        go_enter Try.func63, Try.ntmps63
        go_wp2_with (first | (with_reducible refine hold_append ?_) | (with_reducible refine hold_make ?_) | (with_reducible refine hold_copy ?_))
        go_ret2
        rw [HE.out]
        exact ⟨rfl, rfl⟩
  · have HE : Hid (R = (2, true)) := Lib.hid (by rw [HR.out, if_neg (by omega), if_pos (by omega)])
    have d1 : ((xa : Int) == 0) = false := by simp; omega
    have d1' : ((xa : Int) != 0) = true := by simp; omega
    clear HR h1
    go_enter Try.func63, Try.ntmps63
    go_wp2_with (first | (with_reducible refine hold_append ?_) | (with_reducible refine hold_make ?_) | (with_reducible refine hold_copy ?_))
    go_ret2
    rw [HE.out]
    exact ⟨rfl, rfl⟩
end Go.PH
end
section
/- The walks of slices.Equal at names, of letter's names. -/
set_option linter.all false
set_option linter.unusedSimpArgs false
set_option linter.unusedVariables false
namespace Go.PH
open Go.RowKit Go.Proofs

set_option maxRecDepth 20000 in
set_option maxHeartbeats 1000000 in
theorem equalx_any (A : Option Addr) (n c : Nat) (l : List Xd) (A' : Option Addr) (n' c' : Nat) (l' : List Xd) (B : Nat) (w : World) (hr : RdX w B A n c l) (hr' : RdX w B A' n' c' l') (hB : B ≤ w.heap.size) (hn : n ≤ 140737488355328) (hn' : n' ≤ 9223372036854775807) :
    Calls Try.prog 72 #[.slice A n c, .slice A' n' c'] w fun e w' => e = .returned (.bool (decide (l = l'))) ∧ Below w.heap.size w w' := by
  have hl := rec_length xdShape hr
  have hl' := rec_length xdShape hr'
  by_cases hnn : n = n'
  · subst hnn
    have h0 : (((n : Nat) : Int) != ((n : Nat) : Int)) = false := by simp
    go_enter Try.func72, Try.ntmps72
    go_wp2_with (first | (with_reducible refine hold_append ?_) | (with_reducible refine hold_make ?_) | (with_reducible refine hold_copy ?_))
    go_loopw [13] (fun s wr => ∃ (k : Nat), k ≤ n ∧ s = .int .i64 k ∧ l.take k = l'.take k ∧ Below w.heap.size w wr) (fun s _ => n - (RowKit.intOf s).toNat)
    case atStart => exact ⟨0, by omega, rfl, by simp, Below.refl _ _⟩
    case round =>
      obtain ⟨k, hk, rfl, hrk, hBr⟩ := hrel
      by_cases hlt : k < n
      · obtain ⟨b, off, rfl, hbB, hkl, hc⟩ := rec_at xdShape (Rd.below hr (hBr.mono hB)) hlt
        obtain ⟨b', off', rfl, hbB', hkl', hc'⟩ := rec_at xdShape (Rd.below hr' (hBr.mono hB)) hlt
        have HT := Lib.hid (List.take_succ_eq_append_getElem hkl)
        have HT' := Lib.hid (List.take_succ_eq_append_getElem hkl')
        have HE : Hid (l = l' → l[k] = l'[k]) := Lib.hid (fun h => by subst h; rfl)
        have HK := Lib.hid hrk
        clear hrk
        generalize l[k] = x at *
        generalize l'[k] = x' at *
        have hneq := fun w => xid_neqC x x' w
        obtain ⟨xf, xg, xh⟩ := x
        obtain ⟨yf, yg, yh⟩ := x'
        simp only [xdV] at hneq
        have k0 := hc 0 _ rfl
        have k1 := hc 1 _ rfl
        have k2 := hc 2 _ rfl
        have j0 := hc' 0 _ rfl
        have j1 := hc' 1 _ rfl
        have j2 := hc' 2 _ rfl
        simp only [Nat.add_zero] at k0 j0
        have hkn : (k : Int) < (n : Int) := by omega
        clear hc hc'
        have hgd := fun x y => run_eqGuard_agg (P := Try.prog) wr .neq 24 x y #[.int .u32 (xf : Int), .string (str xg), .string (str xh)] #[.int .u32 (yf : Int), .string (str yg), .string (str yh)] xid_guard
        by_cases hxx : (⟨xf, xg, xh⟩ : Xd) = ⟨yf, yg, yh⟩
        · rw [decide_eq_true hxx] at hneq
          have hy : Hid (l.take (k + 1) = l'.take (k + 1)) := Lib.hid (by rw [HT.out, HT'.out, HK.out, hxx])
          clear hxx
          simp only [Bool.not_true] at hneq
          go_wp2_with (first | (with_reducible refine hold_append ?_) | (with_reducible refine hold_make ?_) | (with_reducible refine hold_copy ?_))
          go_quiet (fail)
          go_wp2_with (first | (with_reducible refine hold_append ?_) | (with_reducible refine hold_make ?_) | (with_reducible refine hold_copy ?_))
          exact ⟨⟨k + 1, by omega, by go_num, hy.out, below_drewN hBr _⟩, by simp [RowKit.intOf]; omega⟩
        · rw [decide_eq_false hxx] at hneq
          have hno : decide (l = l') = false := by
            have := HE.out
            simp only [decide_eq_false_iff_not]
            exact fun h => hxx (this h)
          clear hxx
          simp only [Bool.not_false] at hneq
          go_wp2_with (first | (with_reducible refine hold_append ?_) | (with_reducible refine hold_make ?_) | (with_reducible refine hold_copy ?_))
          go_quiet (fail)
          go_wp2_with (first | (with_reducible refine hold_append ?_) | (with_reducible refine hold_make ?_) | (with_reducible refine hold_copy ?_))
          go_ret
          rw [hno]
          exact ⟨rfl, below_drewN hBr _⟩
      · obtain rfl : k = n := by omega
        rw [← hl, List.take_length, hl, ← hl', List.take_length] at hrk
        subst hrk
        go_wp2_with (first | (with_reducible refine hold_append ?_) | (with_reducible refine hold_make ?_) | (with_reducible refine hold_copy ?_))
        go_ret
        exact ⟨by simp, hBr⟩
  · have h0 : (((n : Nat) : Int) != ((n' : Nat) : Int)) = true := by simp; omega
    have hne : decide (l = l') = false := by
      simp; rintro rfl; omega
    go_enter Try.func72, Try.ntmps72
    go_wp2_with (first | (with_reducible refine hold_append ?_) | (with_reducible refine hold_make ?_) | (with_reducible refine hold_copy ?_))
    go_ret
    rw [hne]
    exact ⟨rfl, Below.refl _ _⟩
theorem names_any (A : Option Addr) (n c : Nat) (l : List Xd) (B : Nat) (w : World) (hr : RdX w B A n c l) (hB : B ≤ w.heap.size) (hwf : ∀ x ∈ l, x.wf) (hn : n ≤ 1000000) :
    Calls Try.prog 62 #[.slice A n c] w fun e w' => e = .returned (.bool (decide (l.length ≤ 200) && decide (l = xdSort l))) ∧ Below w.heap.size w w' := by
  have hl := rec_length xdShape hr
  have hso := fun W hW => sorted_any A n c l B W (hr.below' hW hB) (Nat.le_trans hB hW.size) hwf hn
  have heq := fun (A' : Option Addr) (n' c' : Nat) (W : World) (hW : Below w.heap.size w W) (h : RdX W W.heap.size A' n' c' (xdSort l)) => equalx_any A n c l A' n' c' (xdSort l) W.heap.size W ((hr.below' hW hB).more (Nat.le_trans hB hW.size)) h (Nat.le_refl _) (by omega) (by have h1 := h.cap; have h2 := h.max; simp only [maxLen] at h2; omega)
  clear hr
  rw [hl]
  clear hl
  by_cases h1 : n ≤ 200
  · have d1 : decide ((n : Int) ≤ 200) = true := by simp; omega
    rw [decide_eq_true h1]
    generalize decide (l = xdSort l) = d at *
    go_enter Try.func62, Try.ntmps62
    go_wp2_with (first | (with_reducible refine hold_append ?_) | (with_reducible refine hold_make ?_) | (with_reducible refine hold_copy ?_))
    refine (hso _ (Below.refl _ _)).mono ?_
    rintro e w1 ⟨A2, c2, rfl, ho1, hB1⟩
    have heq1 := heq _ _ _ _ hB1 ho1.rd
    clear heq hso ho1
    generalize (xdSort l).length = m at *
    go_wp2_with (first | (with_reducible refine hold_append ?_) | (with_reducible refine hold_make ?_) | (with_reducible refine hold_copy ?_))
    refine heq1.mono ?_
    rintro e w2 ⟨rfl, hB2⟩
    go_wp2_with (first | (with_reducible refine hold_append ?_) | (with_reducible refine hold_make ?_) | (with_reducible refine hold_copy ?_))
    go_ret
    exact ⟨by simp, hB1.trans (hB2.mono hB1.size)⟩
  · have d1 : decide ((n : Int) ≤ 200) = false := by simp; omega
    rw [decide_eq_false h1]
    clear heq hso
    go_enter Try.func62, Try.ntmps62
    go_wp2_with (first | (with_reducible refine hold_append ?_) | (with_reducible refine hold_make ?_) | (with_reducible refine hold_copy ?_))
    go_ret
    exact ⟨by simp, Below.refl _ _⟩
end Go.PH
end
section
/- Letters' Check as mathematics, by what is asked. -/
set_option linter.all false
set_option linter.unusedSimpArgs false
set_option linter.unusedVariables false
namespace Go.PH

def lkErr (k : Nat) (an dx ok : Bool) (xa no n : Nat) (nok : Bool) : Nat :=
  if k = 0 then 250 else if (if k = 5 then dx else ok) = false then 250 else if 7 < xa ∨ 999 < no ∨ (xa ≠ 0 ∧ no ≠ 0) then 250 else if (an = false ∨ k = 5) ∧ (xa ≠ 0 ∨ no ≠ 0) then 250 else if 0 < n ∧ ¬ (k = 5 ∧ an = true) then 250 else if nok = false then 250 else 0
theorem ask_of (k : Nat) : askP k = (if decide (1 ≤ (if decide (16 < k) then k - 16 else k) ∧ (if decide (16 < k) then k - 16 else k) ≤ 5) then ((if decide (16 < k) then k - 16 else k), decide (16 < k)) else (0, false)) := by
  unfold askP
  by_cases h : 16 < k
  · simp [h]
  · simp [h]
theorem ltErr_asks (kd : Nat) (x : Xd) (xa no : Nat) (nm : List Xd) : ltErr ⟨kd, x, xa, no, nm⟩ = lkErr (askP kd).1 (askP kd).2 (decide (x = xd0')) x.ok xa no nm.length (decide (nm.length ≤ 200) && decide (nm = xdSort nm)) := by
  rw [ask_of]
  unfold ltErr ltOk
  simp only
  generalize decide (x = xd0') = dx
  generalize x.ok = ok
  have hd : decide (nm = []) = decide (nm.length = 0) := by rw [Bool.eq_iff_iff]; simp
  rw [hd]
  generalize nm.length = n
  generalize decide (nm = xdSort nm) = so
  generalize decide (16 < kd) = an
  generalize (if an = true then kd - 16 else kd) = k
  unfold lkErr
  by_cases h1 : 1 ≤ k ∧ k ≤ 5
  · rw [decide_eq_true h1]
    have h0 : k ≠ 0 := by omega
    simp only [if_true, Bool.true_and, h0, if_false]
    by_cases h5 : k = 5
    · subst h5
      by_cases a1 : xa ≤ 7 <;> by_cases a2 : no ≤ 999 <;> by_cases a3 : xa = 0 <;> by_cases a4 : no = 0 <;> by_cases a5 : n = 0 <;> by_cases a6 : n ≤ 200 <;> cases dx <;> cases so <;> cases an <;> simp [a1, a2, a3, a4, a5, a6] <;> omega
    · by_cases a1 : xa ≤ 7 <;> by_cases a2 : no ≤ 999 <;> by_cases a3 : xa = 0 <;> by_cases a4 : no = 0 <;> by_cases a5 : n = 0 <;> by_cases a6 : n ≤ 200 <;> cases ok <;> cases so <;> cases an <;> simp [a1, a2, a3, a4, a5, a6, h5] <;> omega
  · rw [decide_eq_false h1]
    simp
section
variable {k : Nat} {an dx ok : Bool} {xa no n : Nat} {nok : Bool}
theorem lk_bad (h : k = 0 ∨ (k = 5 ∧ dx = false) ∨ (k ≠ 5 ∧ ok = false) ∨ 7 < xa ∨ 999 < no ∨ (xa ≠ 0 ∧ no ≠ 0) ∨ ((an = false ∨ k = 5) ∧ (xa ≠ 0 ∨ no ≠ 0)) ∨ (0 < n ∧ ¬ (k = 5 ∧ an = true)) ∨ nok = false) : lkErr k an dx ok xa no n nok = 250 := by
  unfold lkErr
  by_cases h1 : k = 0
  · rw [if_pos h1]
  rw [if_neg h1]
  by_cases h2 : (if k = 5 then dx else ok) = false
  · rw [if_pos h2]
  rw [if_neg h2]
  by_cases h3 : 7 < xa ∨ 999 < no ∨ (xa ≠ 0 ∧ no ≠ 0)
  · rw [if_pos h3]
  rw [if_neg h3]
  by_cases h4 : (an = false ∨ k = 5) ∧ (xa ≠ 0 ∨ no ≠ 0)
  · rw [if_pos h4]
  rw [if_neg h4]
  by_cases h5 : 0 < n ∧ ¬ (k = 5 ∧ an = true)
  · rw [if_pos h5]
  rw [if_neg h5]
  by_cases h6 : nok = false
  · rw [if_pos h6]
  exfalso
  rcases h with h | h | h | h | h | h | h | h | h
  · exact h1 h
  · rw [if_pos h.1] at h2; exact h2 h.2
  · rw [if_neg h.1] at h2; exact h2 h.2
  · exact h3 (.inl h)
  · exact h3 (.inr (.inl h))
  · exact h3 (.inr (.inr h))
  · exact h4 h
  · exact h5 h
  · exact h6 h
theorem lk_A (h : k = 0) : lkErr k an dx ok xa no n nok = 250 := lk_bad (.inl h)
theorem lk_B (h : k = 5) : lkErr k an false ok xa no n nok = 250 := lk_bad (.inr (.inl ⟨h, rfl⟩))
theorem lk_C (h : k ≠ 5) : lkErr k an dx false xa no n nok = 250 := lk_bad (.inr (.inr (.inl ⟨h, rfl⟩)))
theorem lk_D (h : 7 < xa ∨ 999 < no ∨ (xa ≠ 0 ∧ no ≠ 0)) : lkErr k an dx ok xa no n nok = 250 := lk_bad (by rcases h with h | h | h <;> simp [h])
theorem lk_E (h : xa ≠ 0 ∨ no ≠ 0) : lkErr k false dx ok xa no n nok = 250 := lk_bad (by simp only [true_or, true_and]; exact .inr (.inr (.inr (.inr (.inr (.inr (.inl h)))))))
theorem lk_E5 (h5 : k = 5) (h : xa ≠ 0 ∨ no ≠ 0) : lkErr k an dx ok xa no n nok = 250 := lk_bad (.inr (.inr (.inr (.inr (.inr (.inr (.inl ⟨.inr h5, h⟩)))))))
theorem lk_F (h : 0 < n) : lkErr k false dx ok xa no n nok = 250 := lk_bad (.inr (.inr (.inr (.inr (.inr (.inr (.inr (.inl ⟨h, by simp⟩))))))))
theorem lk_F5 (h5 : k ≠ 5) (h : 0 < n) : lkErr k an dx ok xa no n nok = 250 := lk_bad (.inr (.inr (.inr (.inr (.inr (.inr (.inr (.inl ⟨h, fun e => h5 e.1⟩))))))))
theorem lk_G (h : nok = false) : lkErr k an dx ok xa no n nok = 250 := lk_bad (.inr (.inr (.inr (.inr (.inr (.inr (.inr (.inr h))))))))
theorem lk_ok (h1 : k ≠ 0) (h2 : (if k = 5 then dx else ok) = true) (h3 : ¬ (7 < xa ∨ 999 < no ∨ (xa ≠ 0 ∧ no ≠ 0))) (h4 : (an = true ∧ k ≠ 5) ∨ (xa = 0 ∧ no = 0)) (h5 : n = 0 ∨ (k = 5 ∧ an = true)) (h6 : nok = true) : lkErr k an dx ok xa no n nok = 0 := by
  unfold lkErr
  rw [if_neg h1, if_neg (by rw [h2]; simp), if_neg h3, if_neg, if_neg, if_neg (by rw [h6]; simp)]
  · rintro ⟨a, b⟩
    rcases h5 with h5 | h5
    · omega
    · exact b h5
  · rintro ⟨a, b⟩
    rcases h4 with ⟨c, d⟩ | h4
    · rcases a with a | a
      · rw [c] at a; cases a
      · exact d a
    · omega
end
end Go.PH
end

/- Texts laid together: MdRef, VlMath, VlMem, VlCount, VlDeep, VlPutMath. -/
import Derived.Test.YtidpbbleneekgaaGreatDoorProg
import Derived.Deep.Cut
import Derived.Test.YtidpbbleneekgaaGreatDoorMg02
import Derived.Test.YtidpbbleneekgaaGreatDoorMg08
section
/- The walks of the document's Find, Named. -/
set_option linter.all false
set_option linter.unusedSimpArgs false
set_option linter.unusedVariables false
namespace Go.PH
open Go.RowKit Go.Proofs

theorem rr_one {a b : Int} {g h : ByteArray} : ∀ u ∈ [Value.int .u8 a, .int .u8 b, .string g, .string h], u.oneCell' = true := by
  intro u hu
  simp at hu; rcases hu with rfl | rfl | rfl | rfl <;> rfl
def RFindR (w : World) (r : Option RRow) (e : Ending) (w' : World) : Prop := e = .returned (.tuple #[.agg (rrV (r.getD rr0)), .bool r.isSome]) ∧ Below w.heap.size w w'
theorem find_take {α : Type} {p : α → Bool} {l : List α} {j : Nat} (hj : j < l.length) (h : (l.take j).find? p = none) : (p l[j] = true → l.find? p = some l[j]) ∧ (p l[j] = false → (l.take (j + 1)).find? p = none) := by
  constructor
  · intro hp
    have e : l.find? p = (l.take j ++ l.drop j).find? p := by rw [List.take_append_drop]
    rw [e, List.find?_append, h, Option.none_or, List.drop_eq_getElem_cons hj, List.find?_cons, hp]
  · intro hp
    rw [List.take_succ_eq_append_getElem hj, List.find?_append, h]
    simp [hp]
set_option maxRecDepth 20000 in
set_option maxHeartbeats 2000000 in
theorem rfind_any (c k : Nat) (w : World) : Calls Tryz.prog 23 #[.int .u8 (c : Int), .int .u8 (k : Int)] w (RFindR w (refFind c k)) := by
  obtain ⟨RS, hRS⟩ : ∃ RS, RS = refFind c k := ⟨_, rfl⟩
  rw [← hRS]
  have HRS : Hid (RS = refTab.find? fun r => decide (r.cls = c ∧ r.code = k)) := Lib.hid hRS
  clear hRS
  have hB0 := ((Below.refl w.heap.size w).alloc (Nat.le_refl _) (.cells (rrV rr0) 68)).alloc (by simp) (.cells tabCells 68)
  have hz0 := (Box.new w (rrV rr0) 68).alloc (.cells tabCells 68)
  have hb0 := Box.new (w.alloc (.cells (rrV rr0) 68)) tabCells 68
  have htb := table_any (w.alloc (.cells (rrV rr0) 68))
  have hs1 : (w.alloc (.cells (rrV rr0) 68)).heap.size = w.heap.size + 1 := by simp
  have hl44 : refTab.length = 44 := by decide
  have HL := Lib.hid hl44
  clear hl44
  rw [hs1] at hb0 htb
  unfold rrV rr0 at hz0 htb hb0 hB0
  simp only at hz0 htb hb0 hB0
  clear hs1
  go_enter Tryz.func23, Tryz.ntmps23
  go_wp2_with (first | (with_reducible refine hold_append ?_) | (with_reducible refine hold_make ?_) | (with_reducible refine hold_copy ?_))
  refine htb.mono ?_
  rintro e w1 ⟨rfl, rfl⟩
  clear htb
  generalize ((w.alloc (.cells #[.int .u8 ((0 : Nat) : Int), .int .u8 ((0 : Nat) : Int), .string (str []), .string (str [])] 68)).alloc (.cells tabCells 68)) = w1 at *
  go_wp2_with (first | (with_reducible refine hold_append ?_) | (with_reducible refine hold_make ?_) | (with_reducible refine hold_copy ?_))
  go_loopw [7] (fun s wr => ∃ (j : Nat), j ≤ 44 ∧ s = .int .i64 j ∧ Hid ((refTab.take j).find? (fun r => decide (r.cls = c ∧ r.code = k)) = none) ∧ Box wr w.heap.size 68 #[.int .u8 ((0 : Nat) : Int), .int .u8 ((0 : Nat) : Int), .string (str []), .string (str [])] ∧ Box wr (w.heap.size + 1) 68 tabCells ∧ Below w.heap.size w wr) (fun s _ => 44 - (RowKit.intOf s).toNat)
  case atStart => exact ⟨0, by omega, rfl, Lib.hid rfl, hz0, hb0, hB0⟩
  case round =>
    obtain ⟨j, hj, rfl, HN, hz, hb, hB⟩ := hrel
    clear hz0 hb0 hB0
    by_cases hlt : j < 44
    · have hjl : j < refTab.length := by rw [HL.out]; exact hlt
      have hjn : (j : Int) < 44 := by omega
      have hc := tab_cell hb hjl
      have HT := Lib.hid (find_take hjl HN.out)
      have hsm := row_len _ (List.getElem_mem hjl)
      generalize refTab[j] = r at *
      obtain ⟨rc, rk, rn, rd⟩ := r
      have k0 : wr.cell? ⟨w.heap.size + 1, j * 4, none⟩ = _ := hc 0 _ rfl
      have k1 := hc 1 _ rfl
      have k2 := hc 2 _ rfl
      have k3 := hc 3 _ rfl
      clear hc hsm
      by_cases h1 : rc = c
      · subst h1
        by_cases h2 : rk = k
        · subst h2
          have HR : Hid (RS = some ⟨rc, rk, rn, rd⟩) := Lib.hid (by rw [HRS.out]; exact HT.out.1 (by simp))
          clear HT HN HRS
          go_wp2_with (first | (with_reducible refine hold_append ?_) | (with_reducible refine hold_make ?_) | (with_reducible refine hold_copy ?_) | (with_reducible refine hold_store ?_))
          refine unhold (wp_box (v := .agg #[.int .u8 (rc : Int), .int .u8 (rk : Int), .string (str rn), .string (str rd)]) (vs := [.int .u8 (rc : Int), .int .u8 (rk : Int), .string (str rn), .string (str rd)]) rfl rfl rfl rfl hz rfl (by kernel_rfl) (by simp) rr_one #[.int .u8 (rc : Int), .int .u8 (rk : Int), .string (str rn), .string (str rd)] (by simp) ?_)
          intro w5 hz5 hg5 _
          have hB5 := hB.grown hg5 hB.size (fun g hg => by injection hg with hg; omega)
          clear k0 k1 k2 k3 hz hb hB
          go_wp2_with (first | (with_reducible refine hold_append ?_) | (with_reducible refine hold_make ?_) | (with_reducible refine hold_copy ?_))
          refine ret_box_tmp rfl hz5 rfl rfl Tryz.underlying68 rfl (by kernel_rfl) rfl ?_
          rw [HR.out]
          exact ⟨rfl, hB5⟩
        · have HN2 : Hid ((refTab.take (j + 1)).find? (fun r => decide (r.cls = rc ∧ r.code = k)) = none) := Lib.hid (HT.out.2 (by simp [h2]))
          have e2 : ((rk : Int) == (k : Int)) = false := by simp; omega
          clear HT HN h2
          go_wp2_with (first | (with_reducible refine hold_append ?_) | (with_reducible refine hold_make ?_) | (with_reducible refine hold_copy ?_))
          exact ⟨⟨j + 1, by omega, by go_num, HN2, hz, hb, hB⟩, by simp [RowKit.intOf]; omega⟩
      · have HN2 : Hid ((refTab.take (j + 1)).find? (fun r => decide (r.cls = c ∧ r.code = k)) = none) := Lib.hid (HT.out.2 (by simp [h1]))
        have e1 : ((rc : Int) == (c : Int)) = false := by simp; omega
        clear HT HN h1
        go_wp2_with (first | (with_reducible refine hold_append ?_) | (with_reducible refine hold_make ?_) | (with_reducible refine hold_copy ?_))
        exact ⟨⟨j + 1, by omega, by go_num, HN2, hz, hb, hB⟩, by simp [RowKit.intOf]; omega⟩
    · obtain rfl : j = 44 := by omega
      have HR : Hid (RS = none) := Lib.hid (by
        rw [HRS.out]
        have := HN.out
        rwa [List.take_of_length_le (by rw [HL.out]; omega)] at this)
      clear HN HRS
      go_wp2_with (first | (with_reducible refine hold_append ?_) | (with_reducible refine hold_make ?_) | (with_reducible refine hold_copy ?_) | (with_reducible refine hold_store ?_))
      refine unhold (wp_box (v := .agg #[.int .u8 0, .int .u8 0, .string ⟨#[]⟩, .string ⟨#[]⟩]) (vs := [.int .u8 0, .int .u8 0, .string ⟨#[]⟩, .string ⟨#[]⟩]) rfl rfl rfl rfl hz rfl (by kernel_rfl) (by simp) rr_one #[.int .u8 0, .int .u8 0, .string ⟨#[]⟩, .string ⟨#[]⟩] (by simp) ?_)
      intro w5 hz5 hg5 _
      have hB5 := hB.grown hg5 hB.size (fun g hg => by injection hg with hg; omega)
      clear hz hb hB
      go_wp2_with (first | (with_reducible refine hold_append ?_) | (with_reducible refine hold_make ?_) | (with_reducible refine hold_copy ?_))
      refine ret_box_tmp rfl hz5 rfl rfl Tryz.underlying68 rfl (by kernel_rfl) rfl ?_
      rw [HR.out]
      exact ⟨rfl, hB5⟩
end Go.PH
end
section
/- Values of headers and replies as plain mathematics: trees; how deep, how many, which may be, their bytes. No program in sight. -/
set_option linter.all false
set_option linter.unusedSimpArgs false
set_option linter.unusedVariables false
namespace Go.PH

inductive Vl where
  | mk (kind n : Nat) (s : List UInt8) (keys : List (List UInt8)) (list : List Vl)
namespace Vl
def kind : Vl → Nat | mk k _ _ _ _ => k
def n : Vl → Nat | mk _ n _ _ _ => n
def s : Vl → List UInt8 | mk _ _ s _ _ => s
def keys : Vl → List (List UInt8) | mk _ _ _ k _ => k
def list : Vl → List Vl | mk _ _ _ _ l => l
theorem eta (v : Vl) : v = mk v.kind v.n v.s v.keys v.list := by cases v; rfl
theorem lt (v : Vl) {x : Vl} (h : x ∈ v.list) : SizeOf.sizeOf x < SizeOf.sizeOf v := by
  cases v with
  | mk k n s keys l =>
    have := List.sizeOf_lt_of_mem (show x ∈ l from h)
    simp only [mk.sizeOf_spec]
    omega
/-- what is so of a value if it is so of all that lie in it, is so of every value -/
theorem ind {P : Vl → Prop} (h : ∀ v, (∀ x ∈ v.list, P x) → P v) : ∀ v, P v := by
  have key : ∀ (m : Nat) (v : Vl), SizeOf.sizeOf v ≤ m → P v := by
    intro m
    induction m with
    | zero =>
      intro v hv
      refine h v fun x hx => ?_
      have := v.lt hx
      omega
    | succ m ih =>
      intro v hv
      refine h v fun x hx => ih x ?_
      have := v.lt hx
      omega
  exact fun v => key _ v (Nat.le_refl _)
end Vl
def vl0 : Vl := .mk 0 0 [] [] []
instance : Inhabited Vl := ⟨vl0⟩
/-- is it as deep as so, or deeper? -/
def deepV : Nat → Vl → Bool
  | 0, _ => true
  | m + 1, v => v.list.any (deepV m)
mutual
/-- how many values are left of so many -/
def cntV : Vl → Int → Int
  | .mk _ _ _ _ l, m => cntL l (m - 1)
def cntL : List Vl → Int → Int
  | [], m => m
  | x :: l, m => if m < 0 then m else cntL l (cntV x m)
end
theorem cntV_eq (v : Vl) (m : Int) : cntV v m = cntL v.list (m - 1) := by cases v; rw [cntV]; rfl
theorem cntL_neg (l : List Vl) {m : Int} (h : m < 0) : cntL l m = m := by
  cases l with
  | nil => rw [cntL]
  | cons x l => rw [cntL, if_pos h]
theorem cntL_pos (x : Vl) (l : List Vl) {m : Int} (h : ¬ m < 0) : cntL (x :: l) m = cntL l (cntV x m) := by rw [cntL, if_neg h]
mutual
theorem cntV_le : ∀ (v : Vl) (m : Int), cntV v m ≤ m - 1
  | .mk _ _ _ _ l, m => by rw [cntV]; exact cntL_le l (m - 1)
theorem cntL_le : ∀ (l : List Vl) (m : Int), cntL l m ≤ m
  | [], m => by rw [cntL]; omega
  | x :: l, m => by
    rw [cntL]
    split
    · omega
    · have h1 := cntV_le x m
      have h2 := cntL_le l (cntV x m)
      omega
end
mutual
theorem cntV_ge : ∀ (v : Vl) (m : Int), -1 ≤ m → (0 ≤ m → -1 ≤ cntV v m)
  | .mk _ _ _ _ l, m, h, h0 => by rw [cntV]; exact cntL_ge l (m - 1) (by omega)
theorem cntL_ge : ∀ (l : List Vl) (m : Int), -1 ≤ m → -1 ≤ cntL l m
  | [], m, h => by rw [cntL]; omega
  | x :: l, m, h => by
    rw [cntL]
    split
    · omega
    · exact cntL_ge l _ (cntV_ge x m h (by omega))
end
/-- keys that may be -/
def keysOk (l : List (List UInt8)) (plain : List UInt8 → Bool) : Bool := l.all (fun k => decide (1 ≤ k.length) && decide (k.length ≤ 255) && plain k) && decide l.Nodup
mutual
/-- may a value be, but for how deep and great it is? plain: which texts are -/
def mayV (plain : List UInt8 → Bool) : Vl → Bool
  | .mk k n s keys l =>
    (decide (k = 168) || keys.isEmpty) && (decide (k = 168) || decide (k = 169) || l.isEmpty) && (decide (k = 149) || decide (k = 160) || s.isEmpty) && decide (s.length ≤ 4096) &&
    (if k = 8 then decide (n ≤ 1) else if k = 2 then decide (n ≤ 255) else if k = 49 ∨ k = 50 then true
     else if k = 240 ∨ k = 160 then decide (n = 0)
     else if k = 149 then plain s && decide (n = 0)
     else if k = 168 then decide (keys.length = l.length) && keysOk keys plain && decide (n = 0)
     else if k = 169 then decide (n = 0) else false) && mayL plain l
def mayL (plain : List UInt8 → Bool) : List Vl → Bool
  | [] => true
  | x :: l => mayV plain x && mayL plain l
end
theorem mayL_all (plain : List UInt8 → Bool) (l : List Vl) : mayL plain l = l.all (mayV plain) := by
  induction l with
  | nil => rw [mayL]; rfl
  | cons x l ih => rw [mayL, ih]; rfl
mutual
/-- are two values the same? -/
def sameV : Vl → Vl → Bool
  | .mk k n s keys l, v => decide (k = v.kind) && decide (n = v.n) && decide (s = v.s) && decide (keys = v.keys) && sameL l v.list
def sameL : List Vl → List Vl → Bool
  | [], [] => true
  | x :: l, y :: m => sameV x y && sameL l m
  | _, _ => false
end
mutual
theorem sameV_iff : ∀ (v u : Vl), sameV v u = true ↔ v = u
  | .mk k n s keys l, .mk k' n' s' keys' l' => by
    rw [sameV]
    simp only [Vl.kind, Vl.n, Vl.s, Vl.keys, Vl.list, Bool.and_eq_true, sameL_iff l l', Vl.mk.injEq]
    constructor
    · rintro ⟨⟨⟨⟨a, b⟩, c⟩, d⟩, e⟩; exact ⟨of_decide_eq_true a, of_decide_eq_true b, of_decide_eq_true c, of_decide_eq_true d, e⟩
    · rintro ⟨a, b, c, d, e⟩; exact ⟨⟨⟨⟨decide_eq_true a, decide_eq_true b⟩, decide_eq_true c⟩, decide_eq_true d⟩, e⟩
theorem sameL_iff : ∀ (l m : List Vl), sameL l m = true ↔ l = m
  | [], [] => by simp [sameL]
  | [], y :: m => by simp [sameL]
  | x :: l, [] => by simp [sameL]
  | x :: l, y :: m => by
    rw [sameL, Bool.and_eq_true, sameV_iff x y, sameL_iff l m, List.cons.injEq]
end
instance : DecidableEq Vl := fun v u => if h : sameV v u = true then isTrue ((sameV_iff v u).1 h) else isFalse fun e => h ((sameV_iff v u).2 e)
end Go.PH
end
section
/- Values in memory: what it is that a value lies there; what keeps it. -/
set_option linter.all false
set_option linter.unusedSimpArgs false
set_option linter.unusedVariables false
namespace Go.PH
open Go.RowKit

/-- where a value's two rows lie -/
structure VH where
  A1 : Option Addr
  c1 : Nat
  A2 : Option Addr
  c2 : Nat
def txV (s : List UInt8) : Value := .string (str s)
def vlC (p : Vl × VH) : List Value := [.int .u8 (p.1.kind : Int), .int .u64 (p.1.n : Int), .string (str p.1.s), .slice p.2.A1 p.1.keys.length p.2.c1, .slice p.2.A2 p.1.list.length p.2.c2]
def vlV (v : Vl) (h : VH) : Array Value := #[.int .u8 (v.kind : Int), .int .u64 (v.n : Int), .string (str v.s), .slice h.A1 v.keys.length h.c1, .slice h.A2 v.list.length h.c2]
theorem vlV_toList (v : Vl) (h : VH) : (vlV v h).toList = vlC (v, h) := rfl
theorem vlShape : RecShape vlC 5 where
  len _ := rfl
  one a u hu := by simp [vlC] at hu; rcases hu with rfl | rfl | rfl | rfl | rfl <;> rfl
  pos := by omega
/-- a row that reads so, in blocks of F -/
def RdX (w : World) (F : Nat → Prop) (size : Nat) (A : Option Addr) (n c : Nat) (xs : List Value) : Prop := Rd w w.heap.size size A n c xs ∧ (0 < n → ∀ g, blk A = some g → F g)
theorem cell_keep {w w' : World} {p : Addr} (h : w'.heap[p.block]? = w.heap[p.block]?) : w'.cell? p = w.cell? p := by
  unfold World.cell?
  rw [h]
theorem RdX.keep {w w' : World} {F : Nat → Prop} {size n c : Nat} {A : Option Addr} {xs : List Value} (h : RdX w F size A n c xs) (hk : ∀ g, F g → w'.heap[g]? = w.heap[g]?) (hs : w.heap.size ≤ w'.heap.size) : RdX w' F size A n c xs := by
  obtain ⟨h1, h2⟩ := h
  refine ⟨⟨h1.len, h1.cap, h1.max, fun hn => ?_⟩, h2⟩
  obtain ⟨b, off, e, hb, hc⟩ := h1.at_ hn
  subst e
  exact ⟨b, off, rfl, Nat.lt_of_lt_of_le hb hs, fun j u hu => (cell_keep (hk b (h2 hn b rfl))).trans (hc j u hu)⟩
theorem RdX.mono {w : World} {F G : Nat → Prop} {size n c : Nat} {A : Option Addr} {xs : List Value} (h : RdX w F size A n c xs) (hF : ∀ g, F g → G g) : RdX w G size A n c xs := ⟨h.1, fun hn g hg => hF g (h.2 hn g hg)⟩
theorem RdX.nil (w : World) (F : Nat → Prop) (size c : Nat) (A : Option Addr) (hc : c ≤ maxLen) : RdX w F size A 0 c [] := ⟨Rd.nil _ _ _ _ hc _, fun h => absurd h (Nat.lt_irrefl 0)⟩
theorem RdX.of_own {w : World} {F : Nat → Prop} {base e size n c : Nat} {A : Option Addr} {xs : List Value} (h : Own w base e size A n c xs) (hF : ∀ g, blk A = some g → F g) : RdX w F size A n c xs := ⟨Rd.of_own h, fun _ => hF⟩
/-- the value v lies in blocks of F, its rows at h -/
inductive RV (w : World) (F : Nat → Prop) : Vl → VH → Prop
  | mk {v : Vl} {h : VH} (xs : List (Vl × VH)) (hk : v.kind < 256) (hn : v.n < 18446744073709551616) (hs : v.s.length ≤ 140737488351232) (hK : RdX w F 1 h.A1 v.keys.length h.c1 (v.keys.map txV)) (hkl : ∀ k ∈ v.keys, k.length ≤ 140737488351232)
      (h1 : v.keys.length ≤ 140737488351232) (h2 : v.list.length ≤ 140737488351232) (hL : RdX w F 5 h.A2 v.list.length h.c2 (rowC vlC xs)) (hx : xs.map (·.1) = v.list) (hE : ∀ p ∈ xs, RV w F p.1 p.2) : RV w F v h
theorem RV.keep {w w' : World} {F : Nat → Prop} {v : Vl} {h : VH} (hv : RV w F v h) (hk : ∀ g, F g → w'.heap[g]? = w.heap[g]?) (hs : w.heap.size ≤ w'.heap.size) : RV w' F v h := by
  induction hv with
  | mk xs a1 a2 a3 a4 a5 a6 a7 a8 a9 _ ih => exact ⟨xs, a1, a2, a3, a4.keep hk hs, a5, a6, a7, a8.keep hk hs, a9, ih⟩
theorem RV.mono {w : World} {F G : Nat → Prop} {v : Vl} {h : VH} (hv : RV w F v h) (hF : ∀ g, F g → G g) : RV w G v h := by
  induction hv with
  | mk xs a1 a2 a3 a4 a5 a6 a7 a8 a9 _ ih => exact ⟨xs, a1, a2, a3, a4.mono hF, a5, a6, a7, a8.mono hF, a9, ih⟩
theorem RV.under {w w' : World} {B : Nat} {v : Vl} {h : VH} (hv : RV w (fun g => g < B) v h) (hB : Below B w w') (_hs : B ≤ w.heap.size) : RV w' (fun g => g < B) v h := hv.keep (fun g hg => hB.block g hg) hB.size
theorem RV.zero (w : World) (F : Nat → Prop) : RV w F vl0 ⟨none, 0, none, 0⟩ :=
  ⟨[], by decide, by decide, by simp [vl0, Vl.s], RdX.nil _ _ _ _ _ (by simp [maxLen]), fun k hk => (by cases hk), by simp [vl0, Vl.keys], by simp [vl0, Vl.list], RdX.nil _ _ _ _ _ (by simp [maxLen]), rfl, fun p hp => by cases hp⟩
/-- a value's parts -/
theorem RV.parts {w : World} {F : Nat → Prop} {v : Vl} {h : VH} (hv : RV w F v h) : ∃ xs : List (Vl × VH), xs.map (·.1) = v.list ∧ RdX w F 5 h.A2 v.list.length h.c2 (rowC vlC xs) ∧ (∀ p ∈ xs, RV w F p.1 p.2) ∧ RdX w F 1 h.A1 v.keys.length h.c1 (v.keys.map txV) := by
  cases hv with
  | mk xs a1 a2 a3 a4 a5 a6 a7 a8 a9 a10 => exact ⟨xs, a9, a8, a10, a4⟩
theorem RV.bounds {w : World} {F : Nat → Prop} {v : Vl} {h : VH} (hv : RV w F v h) : v.kind < 256 ∧ v.n < 18446744073709551616 ∧ v.s.length ≤ 140737488351232 ∧ (∀ k ∈ v.keys, k.length ≤ 140737488351232) ∧ v.keys.length ≤ 140737488351232 ∧ v.list.length ≤ 140737488351232 := by
  cases hv with
  | mk xs a1 a2 a3 a4 a5 a6 a7 a8 a9 a10 => exact ⟨a1, a2, a3, a5, a6, a7⟩
/-- a value whose blocks are all there -/
abbrev RVw (w : World) (v : Vl) (h : VH) : Prop := RV w (fun g => g < w.heap.size) v h
theorem RV.up {w w' : World} {v : Vl} {h : VH} (hv : RVw w v h) (hB : Below w.heap.size w w') : RVw w' v h := (hv.keep (fun g hg => hB.block g hg) hB.size).mono (fun g hg => Nat.lt_of_lt_of_le hg hB.size)
/-- a value's i-th part -/
theorem RV.elem {w : World} {v : Vl} {h : VH} (hv : RVw w v h) {i : Nat} (hi : i < v.list.length) : ∃ b off hx, h.A2 = some ⟨b, off, none⟩ ∧ RVw w v.list[i] hx ∧ ∀ W, Below w.heap.size w W →
    W.cell? ⟨b, off + i * 5, none⟩ = some (.int .u8 (v.list[i].kind : Int)) ∧ W.cell? ⟨b, off + i * 5 + 1, none⟩ = some (.int .u64 (v.list[i].n : Int)) ∧ W.cell? ⟨b, off + i * 5 + 2, none⟩ = some (.string (str v.list[i].s)) ∧
    W.cell? ⟨b, off + i * 5 + 3, none⟩ = some (.slice hx.A1 v.list[i].keys.length hx.c1) ∧ W.cell? ⟨b, off + i * 5 + 4, none⟩ = some (.slice hx.A2 v.list[i].list.length hx.c2) := by
  obtain ⟨xs, e, h1, h2, _⟩ := hv.parts
  obtain ⟨b, off, hA, hb, hl, hc⟩ := rec_at vlShape h1.1 hi
  have hm : xs[i] ∈ xs := List.getElem_mem hl
  have hx : xs[i].1 = v.list[i] := by
    have : (xs.map (·.1))[i]'(by simpa using hl) = v.list[i] := by simp only [e]
    simpa using this
  refine ⟨b, off, xs[i].2, hA, hx ▸ h2 _ hm, fun W hW => ?_⟩
  rw [← hx]
  exact ⟨(hW.cell hb).trans (hc 0 _ rfl), (hW.cell hb).trans (hc 1 _ rfl), (hW.cell hb).trans (hc 2 _ rfl), (hW.cell hb).trans (hc 3 _ rfl), (hW.cell hb).trans (hc 4 _ rfl)⟩
theorem RV.key {w : World} {v : Vl} {h : VH} (hv : RVw w v h) {i : Nat} (hi : i < v.keys.length) : ∃ b off, h.A1 = some ⟨b, off, none⟩ ∧ ∀ W, Below w.heap.size w W → W.cell? ⟨b, off + i, none⟩ = some (.string (str v.keys[i])) := by
  obtain ⟨xs, _, _, _, h1⟩ := hv.parts
  obtain ⟨b, off, u, e, hb, hu, hc⟩ := h1.1.at_k hi
  refine ⟨b, off, e, fun W hW => ?_⟩
  rw [List.getElem?_map, List.getElem?_eq_getElem hi] at hu
  injection hu with hu
  rw [hW.cell (p := ⟨b, off + i, none⟩) hb, hc, ← hu]; rfl
theorem alloc_stepV (w : World) (cs : Array Value) (t : TypeId) : ∃ (b : Nat) (v : World), b = w.heap.size ∧ v = w.alloc (.cells cs t) ∧ Box v b t cs ∧ Below w.heap.size w v :=
  ⟨_, _, rfl, rfl, Box.new w cs t, (Below.refl _ _).alloc (Nat.le_refl _) _⟩
end Go.PH
end
section
/- How many values there are, how deep they lie: the walks of both programs. -/
set_option linter.all false
set_option linter.unusedSimpArgs false
set_option linter.unusedVariables false
namespace Go.PH
open Go.RowKit Go.Proofs

def CntR (w : World) (v : Vl) (m : Int) (e : Ending) (w' : World) : Prop := e = .returned (.int .i64 (cntV v m)) ∧ Below w.heap.size w w'
set_option maxRecDepth 20000 in
theorem count_any (v : Vl) : ∀ (h : VH) (m : Int) (w : World), RVw w v h → 0 ≤ m → m ≤ 1000000 → Calls Tryz.prog 113 #[.agg (vlV v h), .int .i64 m] w (CntR w v m) := by
  refine Vl.ind (P := fun v => ∀ (h : VH) (m : Int) (w : World), RVw w v h → 0 ≤ m → m ≤ 1000000 → Calls Tryz.prog 113 #[.agg (vlV v h), .int .i64 m] w (CntR w v m)) ?_ v
  intro v ih h m w hv hm0 hm1
  obtain ⟨K1, j1, K2, j2⟩ := h
  unfold vlV
  have hel := fun {i : Nat} (hi : i < v.list.length) => hv.elem hi
  simp only at hel ⊢
  obtain ⟨N, hN⟩ : ∃ N, N = v.list.length := ⟨_, rfl⟩
  have hNm : N ≤ 140737488351232 := by rw [hN]; exact hv.bounds.2.2.2.2.2
  have HV := Lib.hid hv
  have HE : Hid (cntV v m = cntL v.list (m - 1)) := Lib.hid (cntV_eq v m)
  unfold CntR
  rw [HE.out]
  rw [← hN]
  have HN := Lib.hid hN
  clear hN hv
  have IH := Lib.hid ih
  clear ih
  obtain ⟨xb, w1, hqb, hqv, hX, hB1⟩ := alloc_stepV w #[.int .u8 (v.kind : Int), .int .u64 (v.n : Int), .string (str v.s), .slice K1 v.keys.length j1, .slice K2 N j2] 50
  have c4 := hX.cell (j := 4) rfl
  go_enter Tryz.func113, Tryz.ntmps113
  go_upto_region 1 with fail
  rw [← hqb, ← hqv]
  clear hqb hqv
  go_wp2_with (first | (with_reducible refine hold_append ?_) | (with_reducible refine hold_make ?_) | (with_reducible refine hold_copy ?_))
  go_loopw [1, 12] (fun s1 s12 wr => ∃ (i : Nat) (q : Int), i ≤ N ∧ s12 = .int .i64 i ∧ s1 = .int .i64 q ∧ -1 ≤ q ∧ q ≤ 1000000 ∧ Hid (cntL (v.list.drop i) q = cntL v.list (m - 1)) ∧ Below w.heap.size w wr) (fun _ s12 _ => N - (RowKit.intOf s12).toNat)
  case atStart => exact ⟨0, m - 1, by omega, rfl, by first | rfl | go_num, by omega, by omega, Lib.hid rfl, hB1⟩
  case round =>
    obtain ⟨i, q, hi, rfl, rfl, hq0, hq1, HC, hB⟩ := hrel
    clear c4 hX
    by_cases hlt : i < N
    · have g1 : (i : Int) < (N : Int) := by omega
      have hil : i < v.list.length := by rw [← HN.out]; exact hlt
      obtain ⟨b, off, hx, rfl, hvx, HX⟩ := hel hil
      obtain ⟨k0, k1, k2, k3, k4⟩ := HX wr hB
      have HD : Hid (cntL (v.list.drop i) q = if q < 0 then q else cntL (v.list.drop (i + 1)) (cntV v.list[i] q)) := Lib.hid (by rw [List.drop_eq_getElem_cons hil, cntL])
      have hm : v.list[i] ∈ v.list := List.getElem_mem hil
      have hrec := fun (W : World) (hW : Below w.heap.size w W) (h0 : 0 ≤ q) => IH.out _ hm hx q W (hvx.up hW) h0 hq1
      clear HX hel hvx hm
      have hcl := fun h0 => cntV_ge v.list[i] q hq0 h0
      have hcu := cntV_le v.list[i] q
      generalize v.list[i] = x at *
      by_cases hqn : q < 0
      · have HQ : Hid (q = cntL v.list (m - 1)) := Lib.hid (by rw [← HC.out, HD.out, if_pos hqn])
        obtain ⟨zb, w2, hzb, hzv, hZ, hB2⟩ := alloc_stepV wr #[.int .u8 (x.kind : Int), .int .u64 (x.n : Int), .string (str x.s), .slice hx.A1 x.keys.length hx.c1, .slice hx.A2 x.list.length hx.c2] 50
        have hBx := hB.trans (hB2.mono hB.size)
        clear hrec hcl hcu
        go_upto_region 5 with fail
        rw [← hzb, ← hzv]
        clear hzb hzv
        go_wp2_with (first | (with_reducible refine hold_append ?_) | (with_reducible refine hold_make ?_) | (with_reducible refine hold_copy ?_))
        go_ret
        rw [← HQ.out]
        exact ⟨rfl, hBx⟩
      · obtain ⟨zb, w2, hzb, hzv, hZ, hB2⟩ := alloc_stepV wr #[.int .u8 (x.kind : Int), .int .u64 (x.n : Int), .string (str x.s), .slice hx.A1 x.keys.length hx.c1, .slice hx.A2 x.list.length hx.c2] 50
        have hBx := hB.trans (hB2.mono hB.size)
        have h1 := hrec w2 hBx (by omega)
        have HC2 : Hid (cntL (v.list.drop (i + 1)) (cntV x q) = cntL v.list (m - 1)) := Lib.hid (by rw [← HC.out, HD.out, if_neg hqn])
        have hcl := hcl (by omega)
        clear hrec
        unfold vlV at h1
        have c0 := hZ.cell (j := 0) rfl
        have c1 := hZ.cell (j := 1) rfl
        have c2 := hZ.cell (j := 2) rfl
        have c3 := hZ.cell (j := 3) rfl
        have c4 := hZ.cell (j := 4) rfl
        go_upto_region 5 with fail
        rw [← hzb, ← hzv]
        clear hzb hzv k0 k1 k2 k3 k4
        go_wp2_with (first | (with_reducible refine hold_append ?_) | (with_reducible refine hold_make ?_) | (with_reducible refine hold_copy ?_))
        refine h1.mono ?_
        rintro e w3 ⟨rfl, hB3⟩
        have hBy := hBx.trans (hB3.mono hBx.size)
        clear h1
        go_wp2_with (first | (with_reducible refine hold_append ?_) | (with_reducible refine hold_make ?_) | (with_reducible refine hold_copy ?_))
        exact ⟨⟨i + 1, cntV x q, by omega, by go_num, rfl, by omega, by omega, HC2, hBy⟩, by simp [RowKit.intOf]; omega⟩
    · have HQ : Hid (q = cntL v.list (m - 1)) := Lib.hid (by rw [← HC.out, List.drop_eq_nil_of_le (by rw [← HN.out]; omega), cntL])
      have g1 : ¬ (i : Int) < (N : Int) := by omega
      clear hel
      go_wp2_with (first | (with_reducible refine hold_append ?_) | (with_reducible refine hold_make ?_) | (with_reducible refine hold_copy ?_))
      go_ret
      rw [← HQ.out]
      exact ⟨rfl, hB⟩
end Go.PH
end
section
/- How deep values lie: the walk of the program. -/
set_option linter.all false
set_option linter.unusedSimpArgs false
set_option linter.unusedVariables false
namespace Go.PH
open Go.RowKit Go.Proofs

set_option maxRecDepth 20000 in
theorem idx_deep (p : Vl → Bool) (bx : Nat) (v : Vl) (h : VH) (w : World) (hv : RVw w v h) (hcl : ∀ x ∈ v.list, ∀ hx W, Below w.heap.size w W → RVw W x hx → Calls Tryz.prog 122 (#[.agg (vlV x hx)] ++ #[.pointer (some ⟨bx, 0, none⟩)]) W (fun e W' => e = .returned (.bool (p x)) ∧ Below W.heap.size W W')) :
    Calls Tryz.prog 130 #[.slice h.A2 v.list.length h.c2, .func (.func 122) #[] #[.pointer (some ⟨bx, 0, none⟩)]] w fun e w' => (∃ r : Int, e = .returned (.int .i64 r) ∧ decide (0 ≤ r) = v.list.any p) ∧ Below w.heap.size w w' := by
  obtain ⟨K1, j1, K2, j2⟩ := h
  have hel := fun {i : Nat} (hi : i < v.list.length) => hv.elem hi
  simp only at hel ⊢
  obtain ⟨N, hN⟩ : ∃ N, N = v.list.length := ⟨_, rfl⟩
  have hNm : N ≤ 140737488351232 := by rw [hN]; exact hv.bounds.2.2.2.2.2
  rw [← hN]
  have HN := Lib.hid hN
  clear hN hv
  have HCL := Lib.hid hcl
  clear hcl
  go_enter Tryz.func130, Tryz.ntmps130
  go_wp2_with (first | (with_reducible refine hold_append ?_) | (with_reducible refine hold_make ?_) | (with_reducible refine hold_copy ?_))
  go_loopw [8] (fun s8 wr => ∃ (i : Nat), i ≤ N ∧ s8 = .int .i64 i ∧ Hid ((v.list.drop i).any p = v.list.any p) ∧ Below w.heap.size w wr) (fun s8 _ => N - (RowKit.intOf s8).toNat)
  case atStart => exact ⟨0, by omega, rfl, Lib.hid rfl, Below.refl _ _⟩
  case round =>
    obtain ⟨i, hi, rfl, HC, hB⟩ := hrel
    by_cases hlt : i < N
    · have g1 : (i : Int) < (N : Int) := by omega
      have hil : i < v.list.length := by rw [← HN.out]; exact hlt
      obtain ⟨b, off, hx, rfl, hvx, HX⟩ := hel hil
      obtain ⟨k0, k1, k2, k3, k4⟩ := HX wr hB
      have HD : Hid ((v.list.drop i).any p = (p v.list[i] || (v.list.drop (i + 1)).any p)) := Lib.hid (by rw [List.drop_eq_getElem_cons hil, List.any_cons])
      have hrec := HCL.out _ (List.getElem_mem hil) hx wr hB (hvx.up hB)
      clear HX hel hvx
      generalize v.list[i] = x at *
      unfold vlV at hrec
      simp only [List.append_toArray, List.cons_append, List.nil_append] at hrec
      go_wp2_with (first | (with_reducible refine hold_append ?_) | (with_reducible refine hold_make ?_) | (with_reducible refine hold_copy ?_))
      refine hrec.mono ?_
      rintro e w2 ⟨rfl, hB2⟩
      have hBx := hB.trans (hB2.mono hB.size)
      clear hrec k0 k1 k2 k3 k4
      cases hp : p x
      · have HC2 : Hid ((v.list.drop (i + 1)).any p = v.list.any p) := Lib.hid (by rw [← HC.out, HD.out, hp]; simp)
        go_wp2_with (first | (with_reducible refine hold_append ?_) | (with_reducible refine hold_make ?_) | (with_reducible refine hold_copy ?_))
        exact ⟨⟨i + 1, by omega, by go_num, HC2, hBx⟩, by simp [RowKit.intOf]; omega⟩
      · have HC2 : Hid (v.list.any p = true) := Lib.hid (by rw [← HC.out, HD.out, hp]; simp)
        go_wp2_with (first | (with_reducible refine hold_append ?_) | (with_reducible refine hold_make ?_) | (with_reducible refine hold_copy ?_))
        go_ret
        exact ⟨⟨i, rfl, by rw [HC2.out]; simp⟩, hBx⟩
    · have HQ : Hid (v.list.any p = false) := Lib.hid (by rw [← HC.out, List.drop_eq_nil_of_le (by rw [← HN.out]; omega)]; rfl)
      have g1 : ¬ (i : Int) < (N : Int) := by omega
      clear hel
      go_wp2_with (first | (with_reducible refine hold_append ?_) | (with_reducible refine hold_make ?_) | (with_reducible refine hold_copy ?_))
      go_ret
      exact ⟨⟨_, rfl, by rw [HQ.out]; rfl⟩, hB⟩
set_option maxRecDepth 20000 in
theorem has_deep (p : Vl → Bool) (bx : Nat) (v : Vl) (h : VH) (w : World) (hv : RVw w v h) (hcl : ∀ x ∈ v.list, ∀ hx W, Below w.heap.size w W → RVw W x hx → Calls Tryz.prog 122 (#[.agg (vlV x hx)] ++ #[.pointer (some ⟨bx, 0, none⟩)]) W (fun e W' => e = .returned (.bool (p x)) ∧ Below W.heap.size W W')) :
    Calls Tryz.prog 121 #[.slice h.A2 v.list.length h.c2, .func (.func 122) #[] #[.pointer (some ⟨bx, 0, none⟩)]] w fun e w' => e = .returned (.bool (v.list.any p)) ∧ Below w.heap.size w w' := by
  have hi := idx_deep p bx v h w hv hcl
  generalize v.list.any p = r at *
  clear hcl
  go_enter Tryz.func121, Tryz.ntmps121
  go_wp2_with (first | (with_reducible refine hold_append ?_) | (with_reducible refine hold_make ?_) | (with_reducible refine hold_copy ?_))
  refine hi.mono ?_
  rintro e w' ⟨⟨q, rfl, hq⟩, hB⟩
  have HQ := Lib.hid hq
  clear hq
  go_wp2_with (first | (with_reducible refine hold_append ?_) | (with_reducible refine hold_make ?_) | (with_reducible refine hold_copy ?_))
  go_ret
  rw [← HQ.out]
  exact ⟨rfl, hB⟩
def DeepR (w : World) (v : Vl) (m : Nat) (e : Ending) (w' : World) : Prop := e = .returned (.bool (deepV m v)) ∧ Below w.heap.size w w'
set_option maxRecDepth 20000 in
theorem deep1_any (x : Vl) (hx : VH) (m bx : Nat) (W : World) (hb : W.cell? ⟨bx, 0, none⟩ = some (.int .i64 ((m + 1 : Nat) : Int))) (hv : RVw W x hx) (hm : m ≤ 1000) (hrec : ∀ W', Below W.heap.size W W' → Calls Tryz.prog 112 #[.agg (vlV x hx), .int .i64 (m : Int)] W' (DeepR W' x m)) :
    Calls Tryz.prog 122 #[.agg (vlV x hx), .pointer (some ⟨bx, 0, none⟩)] W (DeepR W x m) := by
  have hbx := World.block_lt_of_cell? W _ hb
  unfold vlV at hrec ⊢
  obtain ⟨xb, w1, hqb, hqv, hX, hB1⟩ := alloc_stepV W #[.int .u8 (x.kind : Int), .int .u64 (x.n : Int), .string (str x.s), .slice hx.A1 x.keys.length hx.c1, .slice hx.A2 x.list.length hx.c2] 50
  have hb1 : w1.cell? ⟨bx, 0, none⟩ = some (.int .i64 ((m + 1 : Nat) : Int)) := (hB1.cell (p := ⟨bx, 0, none⟩) hbx).trans hb
  have hw : IntKind.i64.wrap (((m + 1 : Nat) : Int) - 1) = (m : Int) := by rw [IntWalk.i64_in _ ⟨by omega, by omega⟩]; omega
  have hr1 := hrec w1 hB1
  have c0 := hX.cell (j := 0) rfl
  have c1 := hX.cell (j := 1) rfl
  have c2 := hX.cell (j := 2) rfl
  have c3 := hX.cell (j := 3) rfl
  have c4 := hX.cell (j := 4) rfl
  clear hrec hb
  obtain ⟨q, hq⟩ : ∃ q : Int, q = ((m + 1 : Nat) : Int) := ⟨_, rfl⟩
  rw [← hq] at hb1 hw
  have hq2 : q - 1 = (m : Int) := by omega
  have hq3 : 0 < q := by omega
  have hq4 : q ≤ 1001 := by omega
  clear hq
  unfold DeepR at hr1 ⊢
  generalize deepV m x = r at *
  go_enter Tryz.func122, Tryz.ntmps122
  go_upto_region 1 with fail
  rw [← hqb, ← hqv]
  clear hqb hqv
  go_wp2_with (first | (with_reducible refine hold_append ?_) | (with_reducible refine hold_make ?_) | (with_reducible refine hold_copy ?_))
  refine hr1.mono ?_
  rintro e w2 ⟨rfl, hB2⟩
  go_wp2_with (first | (with_reducible refine hold_append ?_) | (with_reducible refine hold_make ?_) | (with_reducible refine hold_copy ?_))
  go_ret
  exact ⟨rfl, hB1.trans (hB2.mono hB1.size)⟩
theorem deepV_succ (m : Nat) (v : Vl) : deepV (m + 1) v = v.list.any (deepV m) := rfl
set_option maxRecDepth 20000 in
theorem deep_any (v : Vl) : ∀ (h : VH) (m : Nat) (w : World), RVw w v h → m ≤ 1000 → Calls Tryz.prog 112 #[.agg (vlV v h), .int .i64 (m : Int)] w (DeepR w v m) := by
  refine Vl.ind (P := fun v => ∀ (h : VH) (m : Nat) (w : World), RVw w v h → m ≤ 1000 → Calls Tryz.prog 112 #[.agg (vlV v h), .int .i64 (m : Int)] w (DeepR w v m)) ?_ v
  intro v ih h m w hv hm
  unfold vlV
  obtain ⟨q, hq⟩ : ∃ q : Int, q = (m : Int) := ⟨_, rfl⟩
  rw [← hq]
  obtain ⟨xb, w1, hqb, hqv, hX, hB1⟩ := alloc_stepV w #[.int .u8 (v.kind : Int), .int .u64 (v.n : Int), .string (str v.s), .slice h.A1 v.keys.length h.c1, .slice h.A2 v.list.length h.c2] 50
  obtain ⟨yb, w2, hyb, hyv, hY, hB2⟩ := alloc_stepV w1 #[.int .i64 q] 3
  have hyb' : xb + 1 = yb := by rw [hyb, hqv, hqb]; simp
  clear hyb
  have hB := hB1.trans (hB2.mono hB1.size)
  have hX2 := hX.below hB2
  have c4 := hX2.cell (j := 4) rfl
  have y0 := hY.cell (j := 0) rfl
  have hv2 := hv.up hB
  unfold DeepR
  cases m with
  | zero =>
    have hd : deepV 0 v = true := rfl
    rw [hd]
    have hz : (q == 0) = true := by rw [hq]; rfl
    clear hq ih
    go_enter Tryz.func112, Tryz.ntmps112
    go_upto_region 1 with fail
    rw [← hqb, ← hqv, hyb', ← hyv]
    clear hqb hqv hyb' hyv
    go_wp2_with (first | (with_reducible refine hold_append ?_) | (with_reducible refine hold_make ?_) | (with_reducible refine hold_copy ?_))
    go_ret
    exact ⟨rfl, hB⟩
  | succ m =>
    have hcon := has_deep (deepV m) yb v h w2 hv2 (fun x hx hx' W hW hvx => by
      refine deep1_any x hx' m yb W ?_ hvx (by omega) (fun W' hW' => ih x hx hx' m W' (hvx.up hW') (by omega))
      rw [hW.cell (p := ⟨yb, 0, none⟩) hY.lt, ← hq]
      exact y0)
    rw [deepV_succ]
    generalize v.list.any (deepV m) = r at *
    have hz : (q == 0) = false := by simp; omega
    clear ih hq
    go_enter Tryz.func112, Tryz.ntmps112
    go_upto_region 1 with fail
    rw [← hqb, ← hqv, hyb', ← hyv]
    clear hqb hqv hyb' hyv
    have hmf : ∀ (fn : Fn) (first cap : Array Value) (w : World), (Instr.makeFunc fn first cap).run Tryz.prog w = .ok (.func fn first cap) w := fun _ _ _ _ => rfl
    go_wp2_with (first | (with_reducible refine hold_append ?_) | (with_reducible refine hold_make ?_) | (with_reducible refine hold_copy ?_))
    refine hcon.mono ?_
    rintro e w3 ⟨rfl, hB3⟩
    go_wp2_with (first | (with_reducible refine hold_append ?_) | (with_reducible refine hold_make ?_) | (with_reducible refine hold_copy ?_))
    go_ret
    exact ⟨rfl, hB.trans (hB3.mono hB.size)⟩
end Go.PH
end
section
/- A value's bytes, as plain mathematics. No program in sight. -/
set_option linter.all false
set_option linter.unusedSimpArgs false
set_option linter.unusedVariables false
namespace Go.PH
mutual
/-- a value's bytes -/
def vlB : Vl → List UInt8
  | .mk k n s keys l => UInt8.ofNat k :: (if k = 8 ∨ k = 2 then be 1 n else if k = 50 ∨ k = 49 then be 8 n else if k = 149 then be 2 s.length ++ s else if k = 160 then be 4 s.length ++ s
      else if k = 168 ∨ k = 169 then be 4 (be 4 l.length ++ manyB (decide (k = 168)) keys l).length ++ (be 4 l.length ++ manyB (decide (k = 168)) keys l) else [])
/-- the bytes of what lies in a value -/
def manyB (m : Bool) : List (List UInt8) → List Vl → List UInt8
  | _, [] => []
  | ks, x :: l => (if m then be 1 (ks.headD []).length ++ ks.headD [] else []) ++ vlB x ++ manyB m ks.tail l
end
/-- what lies behind the kind -/
def restB (k n : Nat) (s inn : List UInt8) : List UInt8 := if k = 8 ∨ k = 2 then be 1 n else if k = 50 ∨ k = 49 then be 8 n else if k = 149 then be 2 s.length ++ s else if k = 160 then be 4 s.length ++ s
      else if k = 168 ∨ k = 169 then be 4 inn.length ++ inn else []
def innB (v : Vl) : List UInt8 := be 4 v.list.length ++ manyB (decide (v.kind = 168)) v.keys v.list
theorem vlB_eq (v : Vl) : vlB v = UInt8.ofNat v.kind :: restB v.kind v.n v.s (innB v) := by
  cases v
  rw [vlB]
  rfl
theorem manyB_nil (m : Bool) (ks : List (List UInt8)) : manyB m ks [] = [] := by rw [manyB]
theorem manyB_cons (m : Bool) (ks : List (List UInt8)) (x : Vl) (l : List Vl) : manyB m ks (x :: l) = (if m then be 1 (ks.headD []).length ++ ks.headD [] else []) ++ vlB x ++ manyB m ks.tail l := by rw [manyB]
theorem manyB_map {v : Vl} {i : Nat} (hi : i < v.list.length) (hk : i < v.keys.length) : manyB true (v.keys.drop i) (v.list.drop i) = ((be 1 v.keys[i].length ++ v.keys[i]) ++ vlB v.list[i]) ++ manyB true (v.keys.drop (i + 1)) (v.list.drop (i + 1)) := by
  rw [List.drop_eq_getElem_cons hi, manyB_cons, List.drop_eq_getElem_cons hk]
  simp only [List.headD_cons, List.tail_cons, if_true, List.append_assoc]
theorem manyB_list {v : Vl} {i : Nat} (hi : i < v.list.length) (ks ks' : List (List UInt8)) : manyB false ks (v.list.drop i) = vlB v.list[i] ++ manyB false ks' (v.list.drop (i + 1)) := by
  have key : ∀ (l : List Vl) (a b : List (List UInt8)), manyB false a l = manyB false b l := by
    intro l
    induction l with
    | nil => intro a b; rw [manyB_nil, manyB_nil]
    | cons x l ih => intro a b; rw [manyB_cons, manyB_cons, ih a.tail b.tail]; simp
  rw [List.drop_eq_getElem_cons hi, manyB_cons, key _ ks.tail ks']
  simp
end Go.PH
end

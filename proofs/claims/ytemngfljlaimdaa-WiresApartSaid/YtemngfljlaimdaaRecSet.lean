/- Own rows of records: an element (or a part of it) stored, the tail cleared, the front kept. -/
import Derived.Test.YtemngfljlaimdaaRec
import Derived.Test.YtemngfljlaimdaaBox
import Derived.Test.YtemngfljlaimdaaMem2
set_option linter.all false
set_option linter.unusedSimpArgs false
set_option linter.unusedVariables false
namespace Go.PH
open Go.RowKit
section
variable {α : Type} {f : α → List Value} {sz : Nat} {P : Program} {w w' : World} {base e n c g m t bytes : Nat} {A : Option Addr} {l : List α} {z : Value}
theorem own_heap (ho : Own w base e sz (some ⟨g, 0, none⟩) n c (rowC f l)) : ∃ cur, base ≤ g ∧ w.heap[g]? = some (.cells cur e (0, 0)) ∧ n ≤ c ∧ c ≤ maxLen ∧ cur.size = c * sz ∧ cur.toList.take (n * sz) = rowC f l := by
  rcases ho.2 with ⟨hv, _⟩ | ⟨g', cap, cur, hv, h1, h2, h3, h4, h5, h6⟩
  · injection hv with h1; cases h1
  · injection hv with e1 e2 e3
    injection e1 with e1
    injection e1 with e1
    subst e1 e3
    exact ⟨cur, h1, h2, h3, h4, h5, h6⟩
theorem own_front (h : RecShape f sz) (ho : Own w base e sz A n c (rowC f l)) {k : Nat} (hk : k ≤ n) (h0 : A = none → k = 0) : Own w base e sz A k c (rowC f (l.take k)) := by
  have hn := own_len h ho
  refine ⟨by rw [rowC_len h, List.length_take, hn, Nat.min_eq_left hk], ?_⟩
  rcases ho.2 with ⟨hv, rfl⟩ | ⟨g, cap, cur, hv, h1, h2, h3, h4, h5, h6⟩
  · obtain rfl : k = 0 := by omega
    exact .inl ⟨hv, rfl⟩
  · injection hv with e1 e2 e3
    subst e1 e3
    refine .inr ⟨g, c, cur, rfl, h1, h2, by omega, h4, h5, ?_⟩
    rw [← rowC_take h, ← h6, List.take_take, Nat.min_eq_left (Nat.mul_le_mul_right _ hk)]
theorem own_some (ho : Own w base e sz A n c (rowC f l)) (hn : 0 < n) : ∃ g, A = some ⟨g, 0, none⟩ ∧ base ≤ g ∧ g < w.heap.size := by
  rcases ho.2 with ⟨hv, rfl⟩ | ⟨g, cap, cur, hv, h1, h2, _⟩
  · omega
  · injection hv with e1 e2 e3
    exact ⟨g, e1, h1, (Array.getElem?_eq_some_iff.1 h2).1⟩
theorem rowC_set (h : RecShape f sz) (r : α) : ∀ (l : List α) (k : Nat), k < l.length → rowC f (l.set k r) = rowC f (l.take k) ++ f r ++ rowC f (l.drop (k + 1))
  | a :: l, 0, _ => by simp [rowC]
  | a :: l, k + 1, hk => by
    rw [List.set_cons_succ, rowC_cons, rowC_set h r l k (by simpa using hk), List.take_succ_cons, rowC_cons, List.drop_succ_cons]
    simp
theorem rowC_split (f : α → List Value) (l : List α) (k : Nat) (hk : k < l.length) : rowC f l = rowC f (l.take k) ++ f l[k] ++ rowC f (l.drop (k + 1)) := by
  have e : l = l.take k ++ [l[k]] ++ l.drop (k + 1) := by simp
  have e2 : rowC f l = rowC f (l.take k ++ [l[k]] ++ l.drop (k + 1)) := by rw [← e]
  rw [e2, rowC_app, rowC_app]
  simp [rowC]
theorem own_put (h : RecShape f sz) (ho : Own w base e sz (some ⟨g, 0, none⟩) n c (rowC f l)) {cur : Array Value} (hb : w.heap[g]? = some (.cells cur e (0, 0))) {k i : Nat} {vs : List Value} {r : α} (hk : k < n) (hkl : k < l.length)
    (hf : f r = (f l[k]).take i ++ vs ++ (f l[k]).drop (i + vs.length)) (hi : i + vs.length ≤ sz) (hB : w'.heap[g]? = some (.cells (cur.toList.take (k * sz + i) ++ vs ++ cur.toList.drop (k * sz + i + vs.length)).toArray e (0, 0))) :
    Own w' base e sz (some ⟨g, 0, none⟩) n c (rowC f (l.set k r)) := by
  obtain ⟨cur', hbg, hb', hnc, hcm, hcs, ht⟩ := own_heap ho
  rw [hb] at hb'
  injection hb' with hb'
  injection hb' with hb'
  subst hb'
  have hn := own_len h ho
  have hks : k * sz + sz ≤ n * sz := by have := Nat.mul_le_mul_right sz (show k + 1 ≤ n by omega); rw [Nat.add_mul, Nat.one_mul] at this; exact this
  have hnz : n * sz ≤ c * sz := Nat.mul_le_mul_right _ hnc
  refine ⟨by rw [rowC_len h, List.length_set, hn], .inr ⟨g, c, _, rfl, hbg, hB, hnc, hcm, ?_, ?_⟩⟩
  · simp only [List.size_toArray, List.length_append, List.length_take, List.length_drop, Array.length_toList, hcs]
    omega
  · have hX : (cur.toList.take (k * sz + i) ++ vs ++ cur.toList.drop (k * sz + i + vs.length)).take (n * sz) = (rowC f l).take (k * sz + i) ++ vs ++ (rowC f l).drop (k * sz + i + vs.length) := by
      rw [← ht, List.take_append, List.take_append, List.take_take, List.take_take, List.length_append, List.length_take, Array.length_toList, hcs, List.drop_take]
      have e1 : min (n * sz) (k * sz + i) = k * sz + i := by omega
      have e2 : min (k * sz + i) (n * sz) = k * sz + i := by omega
      have e3 : min (k * sz + i) (c * sz) = k * sz + i := by omega
      rw [e1, e2, e3, List.take_of_length_le (show vs.length ≤ n * sz - (k * sz + i) by omega)]
      try congr 2
    have hrl : (rowC f (l.take k)).length = k * sz := by rw [rowC_len h, List.length_take, Nat.min_eq_left (by omega)]
    have hS := rowC_split f l k hkl
    have hfl := h.len l[k]
    rw [show (cur.toList.take (k * sz + i) ++ vs ++ cur.toList.drop (k * sz + i + vs.length)).toArray.toList = _ from rfl, hX, rowC_set h r l k hkl, hf, hS, List.append_assoc (rowC f (l.take k)) (f l[k])]
    have t1 : (rowC f (l.take k) ++ (f l[k] ++ rowC f (l.drop (k + 1)))).take (k * sz + i) = rowC f (l.take k) ++ (f l[k]).take i := by
      rw [List.take_append, hrl, Nat.add_sub_cancel_left, List.take_of_length_le (by omega), List.take_append_of_le_length (by omega)]
    have t2 : (rowC f (l.take k) ++ (f l[k] ++ rowC f (l.drop (k + 1)))).drop (k * sz + i + vs.length) = (f l[k]).drop (i + vs.length) ++ rowC f (l.drop (k + 1)) := by
      rw [List.drop_append, hrl, List.drop_of_length_le (by omega), Nat.add_assoc, Nat.add_sub_cancel_left, List.nil_append, List.drop_append_of_le_length (by omega)]
    rw [t1, t2]
    simp
/-- a store into an own row: an element, or a part of it -/
theorem op_recset {o : Oper} {a : Act} {K : Act → World → Prop} {Q : Exit → Act → World → Prop} {x y : Operand} {ty : TypeId} {v : Value} {k i j : Nat} {vs : List Value} (h : RecShape f sz) (ho : o.op = .store ty x y) (hx : a.eval x = .pointer (some ⟨g, j, none⟩)) (hy : a.eval y = v)
    (hown : Own w base e sz (some ⟨g, 0, none⟩) n c (rowC f l)) (hk : k < n) (hkl : k < l.length) (r : α) (hv : v.cells.toList = vs) (hi : (P.info? ty).map (·.size) = some vs.length) (hf : f r = (f l[k]).take i ++ vs ++ (f l[k]).drop (i + vs.length)) (hil : i + vs.length ≤ sz) (hj : j = k * sz + i)
    (hc : ∀ w', Own w' base e sz (some ⟨g, 0, none⟩) n c (rowC f (l.set k r)) → w.grownBy w' (some g) → w'.heap.size = w.heap.size → K (a.put o.dst undef) w') : o.wp P a w K Q := by
  subst hj
  obtain ⟨cur, hbg, hb, hnc, hcm, hcs, ht⟩ := own_heap hown
  have hks : k * sz + sz ≤ n * sz := by have := Nat.mul_le_mul_right sz (show k + 1 ≤ n by omega); rw [Nat.add_mul, Nat.one_mul] at this; exact this
  have hnz : n * sz ≤ c * sz := Nat.mul_le_mul_right _ hnc
  have h1 : ∀ u ∈ vs, u.oneCell' = true := fun u hu => h.one r u (by rw [hf]; simp [hu])
  exact op_box ho hx hy (show Box w g e cur from hb) hv hi (by omega) h1 _ rfl fun w' b1 b2 b3 => hc w' (own_put h hown hb hk hkl hf hil b1) b2 b3
theorem wp_recset {ops : Array Oper} {rest : List Oper} {o : Oper} {a : Act} {Q : Exit → Act → World → Prop} {x y : Operand} {ty : TypeId} {v : Value} {k i j : Nat} {vs : List Value} (h : RecShape f sz) (hw : Region.wanted o (yielded ops a.tmps) = true) (ho : o.op = .store ty x y) (hx : a.eval x = .pointer (some ⟨g, j, none⟩)) (hy : a.eval y = v)
    (hown : Own w base e sz (some ⟨g, 0, none⟩) n c (rowC f l)) (hk : k < n) (hkl : k < l.length) (r : α) (hv : v.cells.toList = vs) (hi : (P.info? ty).map (·.size) = some vs.length) (hf : f r = (f l[k]).take i ++ vs ++ (f l[k]).drop (i + vs.length)) (hil : i + vs.length ≤ sz) (hj : j = k * sz + i)
    (hc : ∀ w', Own w' base e sz (some ⟨g, 0, none⟩) n c (rowC f (l.set k r)) → w.grownBy w' (some g) → w'.heap.size = w.heap.size → wpList P ops Q rest (a.put o.dst undef) w') : wpList P ops Q (o :: rest) a w :=
  BigFrame.wpList_want hw fun K hK => op_recset h ho hx hy hown hk hkl r hv hi hf hil hj fun w' h1 h2 h3 => hK _ _ (hc w' h1 h2 h3)
/-- the tail cleared: the front stays -/
theorem wp_rectail {ops : Array Oper} {rest : List Oper} {o : Oper} {a : Act} {Q : Exit → Act → World → Prop} {x : Operand} {k c' : Nat} {zs : Array Value} (h : RecShape f sz) (hw : Region.wanted o (yielded ops a.tmps) = true) (ho : o.op = .call { callee := .builtin .clear, args := #[x], argTypes := #[t] })
    (hu : P.underlying t = some (.slice e)) (hz : ∀ w, (zeroValue e).run P w = .ok z w) (hzs : z.cells = zs) (hz1 : zs.size = sz) (hz2 : ∀ u ∈ zs.toList, u.oneCell' = true)
    (hown : Own w base e sz (some ⟨g, 0, none⟩) n c (rowC f l)) (hk : k < n) (hx : a.eval x = .slice (some ⟨g, k * sz, none⟩) (n - k) c')
    (hc : ∀ w', Own w' base e sz (some ⟨g, 0, none⟩) k c (rowC f (l.take k)) → w.grownBy w' (some g) → w'.heap.size = w.heap.size → wpList P ops Q rest (a.put o.dst (.tuple #[])) w') : wpList P ops Q (o :: rest) a w := by
  refine BigFrame.wpList_want hw fun K hK => ?_
  obtain ⟨cur, hbg, hb, hnc, hcm, hcs, ht⟩ := own_heap hown
  have hn := own_len h hown
  have hfront := own_front h hown (k := k) (by omega) (by intro h; cases h)
  obtain ⟨vs, hvs⟩ : ∃ vs, vs = (Builtin.zeroCells zs (n - k)).toList := ⟨_, rfl⟩
  have hvl : vs.length = (n - k) * sz := by rw [hvs]; simp [Builtin.zeroCells, hz1]
  have hsum : k * sz + (n - k) * sz = n * sz := by rw [← Nat.add_mul]; congr 1; omega
  have hnz : n * sz ≤ c * sz := Nat.mul_le_mul_right _ hnc
  have hv1 : ∀ u ∈ vs, u.oneCell' = true := by
    intro u hu
    rw [hvs] at hu
    simp only [Builtin.zeroCells, Array.toList_map, List.mem_map] at hu
    obtain ⟨i, _, rfl⟩ := hu
    have hi : i % zs.size < zs.size := Nat.mod_lt _ (by rw [hz1]; exact h.pos)
    rw [getElem!_pos zs _ hi]
    exact hz2 _ (by simp)
  have hst := run_storeCells_at (P := P) g (k * sz) e vs 0 cur w hb (by rw [hvl]; omega) hv1
  have hrun : (Builtin.clear_ #[t] o.type #[.slice (some ⟨g, k * sz, none⟩) (n - k) c']).run P w = .ok (.tuple #[]) (w.setRow g (cur.toList.take (k * sz) ++ vs ++ cur.toList.drop (k * sz + vs.length)).toArray) := by
    obtain ⟨q, hq⟩ : ∃ q, n - k = q + 1 := ⟨n - k - 1, by omega⟩
    rw [hq] at hvs ⊢
    simp [Builtin.clear_, run_underlying hu, hz, hzs, ← hvs, hst]
  unfold Oper.wp execOp
  simp only [ho, resolve, invoke, builtin, Sem.run_bind, Sem.run_pure, Result.andThen_ok, List.map_toArray, List.map_cons, List.map_nil, hx, hrun]
  refine hK _ _ (hc _ ?_ (grownRow _ _ _) (by simp [World.setRow]))
  refine ⟨hfront.1, .inr ⟨g, c, _, rfl, hbg, setRow_heap w g cur _ e _ hb, by omega, hcm, ?_, ?_⟩⟩
  · simp only [List.size_toArray, List.length_append, List.length_take, List.length_drop, Array.length_toList, hcs]
    omega
  · show (cur.toList.take (k * sz) ++ vs ++ cur.toList.drop (k * sz + vs.length)).take (k * sz) = _
    rw [List.append_assoc, List.take_append_of_le_length (by rw [List.length_take, Array.length_toList, hcs]; omega), List.take_take, Nat.min_self, ← rowC_take h, ← ht, List.take_take, Nat.min_eq_left (by omega)]
theorem wp_cutE {ops : Array Oper} {rest : List Oper} {o : Oper} {a : Act} {Q : Exit → Act → World → Prop} {size : Nat} {x : Operand} {lo hi mx : Option Operand} (hT : SlT P t e size bytes z) (hw : Region.wanted o (yielded ops a.tmps) = true)
    (ho : o.op = .slice t x lo hi mx) (hx : a.eval x = .slice A n c) (hmax : c ≤ maxLen) (hnc : n ≤ c) (l h m : Nat) (hlo : Bd (lo.map a.eval) 0 l) (hhi : Bd (hi.map a.eval) n h) (hmx : Bd (mx.map a.eval) c m) (hmh : mx.isSome = true → hi.isSome = true)
    (h1 : l ≤ h) (h2 : h ≤ m) (h3 : m ≤ c) (h4 : h ≤ n)
    (hk : wpList P ops Q rest (a.put o.dst (.slice (cutA A size l m) (h - l) (m - l))) w) :
    wpList P ops Q (o :: rest) a w := by
  refine BigFrame.wpList_want hw fun K hK => ?_
  have hrun := run_cutA (A := A) hT w hmax hnc l h m hlo hhi hmx (by simpa using hmh) h1 h2 h3 h4
  unfold Oper.wp execOp
  simp only [ho, hx, Sem.run_bind, Sem.run_pure, Result.andThen_ok, hrun]
  exact hK _ _ hk
theorem cutA_some (g o size l m : Nat) (h : l < m) : cutA (some ⟨g, o, none⟩) size l m = some ⟨g, o + l * size, none⟩ := by
  unfold cutA
  rw [if_neg (by omega)]
  simp only [Option.map_some, Addr.add]
  split <;> simp_all
theorem cutA_zero (A : Option Addr) (g : Nat) (hA : A = some ⟨g, 0, none⟩) (size m : Nat) : cutA A size 0 m = A := by
  subst hA
  unfold cutA
  split
  · rfl
  · simp [Addr.add]
theorem hold_clear {ops : Array Oper} {Q : Exit → Act → World → Prop} {rest : List Oper} {a : Act} {dst : Option Tmp} {ty : TypeId} {pos : String} {after : Array Edge} {guard : Option (Nat × Bool)} {xs : Array Operand} {ts : Array TypeId} (h : Hold (wpList P ops Q (⟨dst, .call ⟨.builtin .clear, xs, ts⟩, ty, pos, after, guard⟩ :: rest) a w)) :
    wpList P ops Q (⟨dst, .call ⟨.builtin .clear, xs, ts⟩, ty, pos, after, guard⟩ :: rest) a w := h
end
end Go.PH

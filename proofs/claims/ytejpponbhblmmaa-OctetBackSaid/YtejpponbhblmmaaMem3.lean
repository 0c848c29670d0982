/- append of a text to an own row near the form's reach: growslice's own test is what bounds it. -/
import Derived.Test.YtejpponbhblmmaaMem2
import Derived.Deep.DeepAppendWide
namespace Go.PH
open Go.RowKit
section
variable {P : Program} {w w' : World} {base e t n c : Nat} {A : Option Addr} {xs : List Value}
theorem own_grown_text (hl : xs.length = n) (l : List UInt8) (C : Nat) (hC : n + l.length ≤ C) (hm : C ≤ maxLen) (hbase : base ≤ w.heap.size) :
    Own (w.drew.alloc (.cells (xs.toArray ++ (l.map u8v).toArray ++ Builtin.zeroCells (Value.int .u8 0).cells (C - (n + l.length))) e)) base e 1 (some ⟨w.heap.size, 0, none⟩) (n + l.length) C (xs ++ l.map u8v) := by
  refine ⟨by simp [hl], .inr ⟨w.heap.size, C, _, rfl, hbase, heap_alloc_new w.drew _, hC, hm, ?_, ?_⟩⟩
  · have h1 : (Value.int IntKind.u8 0).cells.size = 1 := rfl
    simp only [Array.size_append, List.size_toArray, size_zeroCells, h1, hl, List.length_map]
    omega
  · rw [Array.toList_append, Array.toList_append, Nat.mul_one]
    simp only []
    rw [List.take_append_of_le_length (by simp [hl]), List.take_of_length_le (by simp [hl])]
theorem own_filled_text {g cap : Nat} {cur : Array Value} (hg : w.heap[g]? = some (.cells cur e (0, 0))) (hcs : cur.size = cap) (hx : cur.toList.take n = xs) (hn : xs.length = n) (l : List UInt8) (hroom : n + l.length ≤ cap) (hm : cap ≤ maxLen) (hb : base ≤ g) :
    Own (w.setRow g (cur.toList.take n ++ l.map u8v ++ cur.toList.drop (n + l.length)).toArray) base e 1 (some ⟨g, 0, none⟩) (n + l.length) cap (xs ++ l.map u8v) := by
  refine ⟨by simp [hn], .inr ⟨g, cap, _, rfl, hb, setRow_heap w g cur _ e _ hg, hroom, hm, ?_, ?_⟩⟩
  · simp; omega
  · rw [hx, Nat.mul_one]
    simp only []
    rw [List.take_append_of_le_length (by simp [hn]), List.take_of_length_le (by simp [hn])]

theorem wp_app_strW {ops : Array Oper} {rest : List Oper} {o : Oper} {a : Act} {Q : Exit → Act → World → Prop} {s x : Operand} {u : TypeId} (hT : SlT P t e 1 1 (.int .u8 0)) (hu : P.underlying u = some .string) (hw : Region.wanted o (yielded ops a.tmps) = true)
    (ho : o.op = .call { callee := .builtin .append, args := #[s, x], argTypes := #[t, u] }) (hs : a.eval s = .slice A n c) {l : List UInt8} (hx : a.eval x = .string (str l))
    (hown : Own w base e 1 A n c xs) (hl47 : l.length ≤ 140737488355328) (hsz : (n + l.length) + (n + l.length) / 4 + 192 ≤ 281474976710656) (hbase : base ≤ w.heap.size)
    (h : ∀ A2 c2 w', Own w' base e 1 A2 (n + l.length) c2 (xs ++ l.map u8v) → w.grownBy w' (blk A) → wpList P ops Q rest (a.put o.dst (.slice A2 (n + l.length) c2)) w') :
    wpList P ops Q (o :: rest) a w := by
  by_cases hsmall : n + l.length ≤ 140737488355328
  · exact wp_app_str hT hu hw ho hs hx hown hsmall hbase h
  obtain ⟨i, hi, hz, hs1, hby⟩ := hT.i
  have hxl : xs.length = n := by simpa using hown.1
  have e1 : Lib.strCells (str l) = l.map u8v := by
    unfold Lib.strCells
    simp [str, u8v]
  have hown' := hown
  rcases hown.2 with ⟨hv, rfl⟩ | ⟨g, cap, cur, hv, hbg, hg, hnc, hcm, hcs, htake⟩
  · omega
  injection hv with h1 h2 h3
  subst h1 h3
  rw [Nat.mul_one] at hcs htake
  refine BigFrame.wpList_want hw fun K hK => ?_
  by_cases hroom : n + l.length ≤ c
  · have hrun := Lib.run_append_room_string (P := P) w t u o.type e i hT.u hu hi hs1 g n c cur hg (str l) (by rw [str_size]; exact hroom) (by rw [str_size]; omega)
    rw [e1, str_size] at hrun
    unfold Oper.wp execOp
    simp only [ho, resolve, invoke, builtin, Sem.run_bind, Sem.run_pure, Result.andThen_ok, List.map_toArray, List.map_cons, List.map_nil, hs, hx, hrun]
    exact hK _ _ (h _ _ _ (own_filled_text hg hcs htake hxl l hroom hcm hbg) ⟨rfl, rfl, rfl, by simp, fun k _ hk => setRow_other w g k _ (fun e => hk (by simp [blk, e]))⟩)
  · have holds : ∀ j u, xs[j]? = some u → w.cell? ((⟨g, 0, none⟩ : Addr).add j) = some u := World.ownsRow.cells hown' (g := g) rfl
    have hrun := Lib.run_append_grow_string (P := P) w t u o.type e i (.int .u8 0) hT.u hu hi hz ⟨g, 0, none⟩ n c xs (by rw [hs1]; simpa using hxl) holds (str l) (by rw [str_size]; omega) (by rw [str_size]; omega)
      (by rw [hby, str_size]; exact growslice_fits_wide (by omega) (by omega))
    rw [e1, str_size] at hrun
    unfold Oper.wp execOp
    simp only [ho, resolve, invoke, builtin, Sem.run_bind, Sem.run_pure, Result.andThen_ok, List.map_toArray, List.map_cons, List.map_nil, hs, hx, hrun]
    exact hK _ _ (h _ _ _ (own_grown_text hxl l _ (grownCap_ge _ _ _ _) (grownCap_le_maxLen _ _ _ _ (by simp only [maxLen]; omega)) hbase) (World.grownBy.trans (b := w.drew) ⟨rfl, rfl, rfl, Nat.le_refl _, fun _ _ _ => rfl⟩ (World.grownBy_alloc w.drew _ _)))
end
end Go.PH

/- The walk of the reference's edges. -/
import Derived.Test.YtjlfjlafpgjhbaaSpMem
import Derived.Test.YtjlfjlafpgjhbaaSpMath4
import Derived.Test.YtjlfjlafpgjhbaaOctRead
namespace Go.PH
open Go.RowKit Go.Proofs

def n64 (x : Nat) : Value := .int .u64 (x : Int)
theorem n64_one (l : List Nat) : ∀ u ∈ l.map n64, u.oneCell' = true := by
  intro u hu
  obtain ⟨x, _, rfl⟩ := List.mem_map.1 hu
  rfl
theorem slU : SlT Try.prog 71 37 1 8 (.int .u64 0) := SlT.mk' Try.underlying71 (by kernel_rfl) rfl (by omega)
abbrev OwnU (w : World) (base : Nat) (A : Option Addr) (n c : Nat) (l : List Nat) : Prop := Own w base 37 1 A n c (l.map n64)
abbrev RdU (w : World) (B : Nat) (A : Option Addr) (n c : Nat) (l : List Nat) : Prop := Rd w B 1 A n c (l.map n64)
variable {w : World} {B n c : Nat} {A : Option Addr}
theorem RdU.at_k {l : List Nat} (h : RdU w B A n c l) {k : Nat} (hk : k < n) : ∃ b off, A = some ⟨b, off, none⟩ ∧ b < B ∧ ∃ hl : k < l.length, w.cell? ⟨b, off + k, none⟩ = some (.int .u64 (l[k] : Int)) := by
  obtain ⟨b, off, u, e, hb, hx, hc⟩ := Rd.at_k h hk
  have hl : k < l.length := by have := h.len; simp at this; omega
  refine ⟨b, off, e, hb, hl, ?_⟩
  rw [List.getElem?_map, List.getElem?_eq_getElem hl] at hx
  simp at hx
  rw [hc, ← hx]; rfl
theorem RdU.length {l : List Nat} (h : RdU w B A n c l) : l.length = n := by have := h.len; simpa using this
/-- where a number goes in -/
theorem insE_at (m : Nat) : ∀ (l : List Nat) (i : Nat), i ≤ l.length → (∀ j, j < i → l.getD j 0 < m) → (i < l.length → m ≤ l.getD i 0) →
    insE m l = if i < l.length ∧ l.getD i 0 = m then l else l.take i ++ [m] ++ l.drop i
  | [], 0, _, _, _ => by simp [insE]
  | x :: l, 0, _, _, h2 => by
    have := h2 (by simp)
    simp only [List.getD_cons_zero] at this
    rw [insE, if_neg (by omega)]
    by_cases he : x = m
    · simp [he]
    · simp [he]
  | x :: l, i + 1, hi, h1, h2 => by
    have h0 := h1 0 (by omega)
    simp only [List.getD_cons_zero] at h0
    rw [insE, if_pos h0, insE_at m l i (by simpa using hi) (fun j hj => by simpa using h1 (j + 1) (by omega)) (fun h => by simpa using h2 (by simpa using h))]
    simp only [List.length_cons, Nat.add_lt_add_iff_right, List.getD_cons_succ]
    split
    · rfl
    · simp
theorem insE_len (m : Nat) (l : List Nat) : (insE m l).length ≤ l.length + 1 := by
  induction l with
  | nil => simp [insE]
  | cons x l ih => rw [insE]; split <;> (try split) <;> simp <;> omega
def estep (a : Sp) (O : List Nat) : Nat → List Nat
  | 0 => O
  | 1 => insE a.1 O
  | _ => insE (a.2 + 1) (insE a.1 O)
def efold (l : List Sp) : List Nat := l.foldl (fun out a => insE (a.2 + 1) (insE a.1 out)) []
theorem efold_next {l : List Sp} {k : Nat} (hk : k < l.length) : efold (l.take (k + 1)) = estep l[k] (efold (l.take k)) 2 := by
  unfold efold; rw [List.take_succ_eq_append_getElem hk, List.foldl_append]; rfl

theorem own_keep {w w' : World} {base e size n c : Nat} {A : Option Addr} {xs : List Value} {row : Option Nat} (ho : Own w base e size A n c xs) (hg : w.grownBy w' row) (h : ∀ g, blk A = some g → row ≠ some g) : Own w' base e size A n c xs :=
  ho.kept hg (by
    rw [ownBlock_eq]
    cases hA : blk A with
    | none => exact .inl rfl
    | some g => exact .inr fun e => h g hA e.symm)
set_option maxRecDepth 20000 in
set_option maxHeartbeats 2000000 in
theorem edges_any (A : Option Addr) (n c : Nat) (l : List Sp) (w : World) (hr : RdS w w.heap.size A n c l) (hb : spOK 4294967296 l) (hn : n ≤ 1000000) :
    Calls Try.prog 45 #[.slice A n c] w fun e w' => ∃ A2 c2, e = .returned (.slice A2 (efold l).length c2) ∧ OwnU w' w.heap.size A2 (efold l).length c2 (efold l) ∧ Below w.heap.size w w' := by
  have hl := hr.length
  go_enter Try.func45, Try.ntmps45
  go_wp2_with (first | (with_reducible refine hold_append ?_) | (with_reducible refine hold_make ?_) | (with_reducible refine hold_copy ?_))
  go_loopw [4, 3] (fun s v wr => ∃ (k c2 : Nat) (A2 : Option Addr) (out : List Nat), k ≤ n ∧ s = .int .i64 k ∧ v = .slice A2 out.length c2 ∧ out = efold (l.take k) ∧ (∀ x ∈ out, x < 18446744073709551616) ∧ out.length ≤ 2 * k ∧ OwnU wr w.heap.size A2 out.length c2 out ∧ Below w.heap.size w wr) (fun s _ _ => n - (intOf s).toNat)
  case atStart => exact ⟨0, 0, none, [], by omega, rfl, rfl, by simp [efold], by simp, by simp, Own.none_ _ _ _ _, Below.refl _ _⟩
  case round =>
    obtain ⟨k, c2, A2, O, hk, rfl, rfl, hout, hall0, hol, ho0, hBr⟩ := hrel
    by_cases hlt : k < n
    · obtain ⟨b, off, rfl, hbB, hkl, hc0, hc1⟩ := RdS.at_k (hr.below hBr) hlt
      have hbk := hb l[k] (List.getElem_mem hkl)
      have hnx := efold_next hkl
      rw [← hout] at hnx
      have HN := Lib.hid hnx
      clear hnx hout
      obtain ⟨sf, st, he⟩ : ∃ sf st, l[k] = (sf, st) := ⟨_, _, rfl⟩
      rw [he] at hc0 hc1 hbk HN
      have HE := Lib.hid he
      clear he
      simp only at hc0 hc1 hbk
      go_wp2_with (first | (with_reducible refine hold_append ?_) | (with_reducible refine hold_make ?_) | (with_reducible refine hold_copy ?_))
      go_loopw [5, 3] (fun s v wr' => ∃ (q c3 : Nat) (A3 : Option Addr) (out : List Nat), q ≤ 2 ∧ s = .int .i64 q ∧ v = .slice A3 out.length c3 ∧ out = estep (sf, st) O q ∧ (∀ x ∈ out, x < 18446744073709551616) ∧ out.length ≤ 2 * k + q ∧ OwnU wr' w.heap.size A3 out.length c3 out ∧ Below w.heap.size w wr') (fun s _ _ => 2 - (intOf s).toNat)
      case atStart => exact ⟨0, c2, A2, O, by omega, rfl, rfl, rfl, hall0, by omega, ho0, hBr⟩
      case round =>
        clear ho0 hBr hc0 hc1
        obtain ⟨q, c3, A3, out, hq, rfl, rfl, hout, hall, hol3, ho, hBq⟩ := hrel
        obtain ⟨b', off', e', hbB', hkl', hc0, hc1⟩ := RdS.at_k (hr.below hBq) hlt
        obtain ⟨rfl, rfl⟩ : b = b' ∧ off = off' := by simpa using e'
        clear e'
        rw [HE.out] at hc0 hc1
        simp only at hc0 hc1
        rcases (by omega : q = 0 ∨ q = 1 ∨ q = 2) with rfl | rfl | rfl
        · have HN2 : Hid (estep (sf, st) O (0 + 1) = insE sf out) := Lib.hid (by rw [hout]; rfl)
          clear hout
          go_wp2_with (first | (with_reducible refine hold_append ?_) | (with_reducible refine hold_make ?_) | (with_reducible refine hold_copy ?_))
          go_loopw [7] (fun s w5 => ∃ (i : Nat), s = .int .i64 i ∧ i ≤ out.length ∧ (∀ j, j < i → out.getD j 0 < sf) ∧ w5 = wr) (fun s _ => out.length - (intOf s).toNat)
          case atStart => exact ⟨0, rfl, by omega, by intros; omega, rfl⟩
          case round =>
            obtain ⟨i, rfl, hi, hlow, hww⟩ := hrel
            subst hww
            have hinsat := insE_at sf out i hi hlow
            by_cases hlt2 : i < out.length
            · have hdl : (i : Int) < (out.length : Int) := by omega
              obtain ⟨bq, offq, hA, _, hkq, hcq⟩ := RdU.at_k ho.rd hlt2
              have hgd : out.getD i 0 = out[i] := by simp [List.getD, List.getElem?_eq_getElem hkq]
              have hbq : out[i] < 18446744073709551616 := hall _ (List.getElem_mem hkq)
              rw [← hgd] at hcq hbq
              have HL := Lib.hid hlow
              clear hlow hgd
              subst hA
              by_cases hx : out.getD i 0 < sf
              · have HX := Lib.hid hx
                clear hinsat
                generalize out.getD i 0 = y at hcq hbq hx
                have hdx : (y : Int) < ((sf : Nat) : Int) := by omega
                go_wp2_with (first | (with_reducible refine hold_append ?_) | (with_reducible refine hold_make ?_) | (with_reducible refine hold_copy ?_))
                exact ⟨⟨i + 1, by go_num, by omega, fun j hj => by
                  rcases Nat.lt_or_ge j i with h | h
                  · exact HL.out j h
                  · obtain rfl : j = i := by omega
                    exact HX.out, by first | trivial | rfl⟩, by simp [intOf]; omega⟩
              · have hins := hinsat (fun _ => Nat.le_of_not_lt hx)
                clear hinsat
                by_cases he : out.getD i 0 = sf
                · rw [if_pos ⟨hlt2, he⟩] at hins
                  have HX := Lib.hid hins
                  clear hins
                  generalize out.getD i 0 = y at hcq hbq hx he
                  have hdx : decide ((y : Int) < ((sf : Nat) : Int)) = false := by simp; omega
                  have hde : ((y : Int) == ((sf : Nat) : Int)) = true := by simp; omega
                  clear he
                  have HE9 : Hid (estep (sf, st) O (0 + 1) = out) := Lib.hid (by rw [HN2.out]; exact HX.out)
                  go_wp2_with (first | (with_reducible refine hold_append ?_) | (with_reducible refine hold_make ?_) | (with_reducible refine hold_copy ?_))
                  exact ⟨⟨0 + 1, c3, _, out, by omega, by go_num, rfl, HE9.out.symm, hall, by omega, ho, hBq⟩, by simp [intOf]; try omega⟩
                · rw [if_neg (fun h => he h.2)] at hins
                  have HX := Lib.hid hins
                  clear hins
                  generalize out.getD i 0 = y at hcq hbq hx he
                  have hdx : decide ((y : Int) < ((sf : Nat) : Int)) = false := by simp; omega
                  have hde : ((y : Int) == ((sf : Nat) : Int)) = false := by simp; omega
                  have hc3 := ho.rd.cap
                  have hszq := hBq.size
                  go_wp2_with (first | (with_reducible refine hold_append ?_) | (with_reducible refine hold_make ?_) | (with_reducible refine hold_copy ?_) | (with_reducible refine hold_slice ?_))
                  refine unhold (wp_cutB slU rfl rfl rfl ho.rd 0 i c3 (.inl ⟨rfl, rfl⟩) (.inr ⟨_, _, rfl, rfl⟩) (.inl ⟨rfl, rfl⟩) (by intro h; cases h) (by omega) (by omega) (Nat.le_refl _) (by omega) ?_)
                  intro A5 hr5 _
                  simp only [Nat.mul_one, Nat.zero_mul, List.drop_zero, ← List.map_take, Nat.sub_zero] at hr5 ⊢
                  go_wp2_with (first | (with_reducible refine hold_append ?_) | (with_reducible refine hold_make ?_) | (with_reducible refine hold_copy ?_))
                  refine unhold (wp_app slU rfl rfl rfl rfl (Own.none_ wr w.heap.size _ _) hr5 (n64_one _) (by omega) (by simp [maxLen]; omega) hszq ?_)
                  intro A6 c6 w6 ho6 hg6 hb6
                  have hblt : ∀ g, blk (some ⟨bq, offq, none⟩) = some g → g < wr.heap.size := fun g hg => (ho.blk_lt hg).2
                  have hB6 : Below w.heap.size w w6 := hBq.grown hg6 hszq (by simp [blk])
                  have hok6 := own_keep ho hg6 (by intro g _ e; simp [blk] at e)
                  have hne6 : ∀ g, blk (some ⟨bq, offq, none⟩) = some g → blk A6 ≠ some g := fun g hg e => by
                    rcases hb6 with h | h
                    · rw [e] at h; simp [blk] at h
                    · rw [e] at h; have := hblt g hg; injection h; omega
                  simp only [Nat.zero_add, List.nil_append] at ho6
                  have hsz6 := hB6.size
                  have hlit := own_lit (w := w6) w.heap.size #[.int .u64 ((sf : Nat) : Int)] 37 1 hsz6 (by simp [maxLen]) rfl (size := 1) (by omega)
                  have hB6l : Below w.heap.size w (w6.alloc (.cells #[.int .u64 ((sf : Nat) : Int)] 37)) := hB6.alloc hsz6 _
                  have ho6l : OwnU (w6.alloc (.cells #[.int .u64 ((sf : Nat) : Int)] 37)) w.heap.size A6 i c6 (out.take i) := ho6.alloc _
                  have hok6l : OwnU (w6.alloc (.cells #[.int .u64 ((sf : Nat) : Int)] 37)) w.heap.size (some ⟨bq, offq, none⟩) out.length c3 out := hok6.alloc _
                  clear hg6 hb6
                  go_wp2_with (first | (with_reducible refine hold_append ?_) | (with_reducible refine hold_make ?_) | (with_reducible refine hold_copy ?_))
                  refine unhold (wp_app slU rfl rfl rfl rfl ho6l hlit.rd (n64_one [sf]) (by omega) (by simp [maxLen]; omega) hB6l.size ?_)
                  intro A7 c7 w7 ho7 hg7 _
                  have hB7 := hB6l.grown hg7 hB6l.size (fun g hg => (ho6l.blk_lt hg).1)
                  have hok7 := own_keep hok6l hg7 hne6
                  rw [show (out.take i).map n64 ++ (#[.int .u64 ((sf : Nat) : Int)] : Array Value).toList = (out.take i ++ [sf]).map n64 by simp [n64]] at ho7
                  have hsz7 := hB7.size
                  clear hg7
                  go_wp2_with (first | (with_reducible refine hold_append ?_) | (with_reducible refine hold_make ?_) | (with_reducible refine hold_copy ?_) | (with_reducible refine hold_slice ?_))
                  refine unhold (wp_cutB slU rfl rfl rfl hok7.rd i out.length c3 (.inr ⟨_, _, rfl, rfl⟩) (.inl ⟨rfl, rfl⟩) (.inl ⟨rfl, rfl⟩) (by intro h; cases h) (by omega) (by omega) (Nat.le_refl _) (by omega) ?_)
                  intro A8 hr8 _
                  simp only [Nat.mul_one] at hr8
                  rw [List.take_of_length_le (by simp), ← List.map_drop] at hr8
                  go_wp2_with (first | (with_reducible refine hold_append ?_) | (with_reducible refine hold_make ?_) | (with_reducible refine hold_copy ?_))
                  refine unhold (wp_app slU rfl rfl rfl rfl ho7 hr8 (n64_one _) (by omega) (by simp [maxLen]; omega) hsz7 ?_)
                  intro A9 c9 w9 ho9 hg9 _
                  have hB9 := hB7.grown hg9 hsz7 (fun g hg => (ho7.blk_lt hg).1)
                  rw [← List.map_append] at ho9
                  have HE9 : Hid (estep (sf, st) O (0 + 1) = out.take i ++ [sf] ++ out.drop i) := Lib.hid (by rw [HN2.out]; exact HX.out)
                  have hlen9 : (out.take i ++ [sf] ++ out.drop i).length = i + 1 + (out.length - i) := by simp; omega
                  have hall9 : ∀ x ∈ out.take i ++ [sf] ++ out.drop i, x < 18446744073709551616 := by
                    intro x hx
                    simp only [List.mem_append, List.mem_singleton] at hx
                    rcases hx with (hx | rfl) | hx
                    · exact hall x (List.mem_of_mem_take hx)
                    · omega
                    · exact hall x (List.mem_of_mem_drop hx)
                  have hbd9 : i + 1 + (out.length - i) ≤ 2 * k + (0 + 1) := by omega
                  generalize out.take i ++ [sf] ++ out.drop i = o9 at *
                  go_wp2_with (first | (with_reducible refine hold_append ?_) | (with_reducible refine hold_make ?_) | (with_reducible refine hold_copy ?_))
                  exact ⟨⟨0 + 1, c9, A9, o9, by omega, by go_num, by rw [hlen9], HE9.out.symm, hall9, by omega, by rw [hlen9]; exact ho9, hB9⟩, by simp [intOf]; try omega⟩
            · have hdl : decide ((i : Int) < (out.length : Int)) = false := by simp; omega
              have hins := hinsat (fun h => absurd h hlt2)
              rw [if_neg (fun h => hlt2 h.1)] at hins
              have HX := Lib.hid hins
              clear hins hinsat hlow
              have hc3 := ho.rd.cap
              have hszq := hBq.size
              go_wp2_with (first | (with_reducible refine hold_append ?_) | (with_reducible refine hold_make ?_) | (with_reducible refine hold_copy ?_) | (with_reducible refine hold_slice ?_))
              refine unhold (wp_cutB slU rfl rfl rfl ho.rd 0 i c3 (.inl ⟨rfl, rfl⟩) (.inr ⟨_, _, rfl, rfl⟩) (.inl ⟨rfl, rfl⟩) (by intro h; cases h) (by omega) (by omega) (Nat.le_refl _) (by omega) ?_)
              intro A5 hr5 _
              simp only [Nat.mul_one, Nat.zero_mul, List.drop_zero, ← List.map_take, Nat.sub_zero] at hr5 ⊢
              go_wp2_with (first | (with_reducible refine hold_append ?_) | (with_reducible refine hold_make ?_) | (with_reducible refine hold_copy ?_))
              refine unhold (wp_app slU rfl rfl rfl rfl (Own.none_ wr w.heap.size _ _) hr5 (n64_one _) (by omega) (by simp [maxLen]; omega) hszq ?_)
              intro A6 c6 w6 ho6 hg6 hb6
              have hblt : ∀ g, blk A3 = some g → g < wr.heap.size := fun g hg => (ho.blk_lt hg).2
              have hB6 : Below w.heap.size w w6 := hBq.grown hg6 hszq (by simp [blk])
              have hok6 := own_keep ho hg6 (by intro g _ e; simp [blk] at e)
              have hne6 : ∀ g, blk A3 = some g → blk A6 ≠ some g := fun g hg e => by
                rcases hb6 with h | h
                · rw [e] at h; simp [blk] at h
                · rw [e] at h; have := hblt g hg; injection h; omega
              simp only [Nat.zero_add, List.nil_append] at ho6
              have hsz6 := hB6.size
              have hlit := own_lit (w := w6) w.heap.size #[.int .u64 ((sf : Nat) : Int)] 37 1 hsz6 (by simp [maxLen]) rfl (size := 1) (by omega)
              have hB6l : Below w.heap.size w (w6.alloc (.cells #[.int .u64 ((sf : Nat) : Int)] 37)) := hB6.alloc hsz6 _
              have ho6l : OwnU (w6.alloc (.cells #[.int .u64 ((sf : Nat) : Int)] 37)) w.heap.size A6 i c6 (out.take i) := ho6.alloc _
              have hok6l : OwnU (w6.alloc (.cells #[.int .u64 ((sf : Nat) : Int)] 37)) w.heap.size A3 out.length c3 out := hok6.alloc _
              clear hg6 hb6
              go_wp2_with (first | (with_reducible refine hold_append ?_) | (with_reducible refine hold_make ?_) | (with_reducible refine hold_copy ?_))
              refine unhold (wp_app slU rfl rfl rfl rfl ho6l hlit.rd (n64_one [sf]) (by omega) (by simp [maxLen]; omega) hB6l.size ?_)
              intro A7 c7 w7 ho7 hg7 _
              have hB7 := hB6l.grown hg7 hB6l.size (fun g hg => (ho6l.blk_lt hg).1)
              have hok7 := own_keep hok6l hg7 hne6
              rw [show (out.take i).map n64 ++ (#[.int .u64 ((sf : Nat) : Int)] : Array Value).toList = (out.take i ++ [sf]).map n64 by simp [n64]] at ho7
              have hsz7 := hB7.size
              clear hg7
              go_wp2_with (first | (with_reducible refine hold_append ?_) | (with_reducible refine hold_make ?_) | (with_reducible refine hold_copy ?_) | (with_reducible refine hold_slice ?_))
              refine unhold (wp_cutB slU rfl rfl rfl hok7.rd i out.length c3 (.inr ⟨_, _, rfl, rfl⟩) (.inl ⟨rfl, rfl⟩) (.inl ⟨rfl, rfl⟩) (by intro h; cases h) (by omega) (by omega) (Nat.le_refl _) (by omega) ?_)
              intro A8 hr8 _
              simp only [Nat.mul_one] at hr8
              rw [List.take_of_length_le (by simp), ← List.map_drop] at hr8
              go_wp2_with (first | (with_reducible refine hold_append ?_) | (with_reducible refine hold_make ?_) | (with_reducible refine hold_copy ?_))
              refine unhold (wp_app slU rfl rfl rfl rfl ho7 hr8 (n64_one _) (by omega) (by simp [maxLen]; omega) hsz7 ?_)
              intro A9 c9 w9 ho9 hg9 _
              have hB9 := hB7.grown hg9 hsz7 (fun g hg => (ho7.blk_lt hg).1)
              rw [← List.map_append] at ho9
              have HE9 : Hid (estep (sf, st) O (0 + 1) = out.take i ++ [sf] ++ out.drop i) := Lib.hid (by rw [HN2.out]; exact HX.out)
              have hlen9 : (out.take i ++ [sf] ++ out.drop i).length = i + 1 + (out.length - i) := by simp; omega
              have hall9 : ∀ x ∈ out.take i ++ [sf] ++ out.drop i, x < 18446744073709551616 := by
                intro x hx
                simp only [List.mem_append, List.mem_singleton] at hx
                rcases hx with (hx | rfl) | hx
                · exact hall x (List.mem_of_mem_take hx)
                · omega
                · exact hall x (List.mem_of_mem_drop hx)
              have hbd9 : i + 1 + (out.length - i) ≤ 2 * k + (0 + 1) := by omega
              generalize out.take i ++ [sf] ++ out.drop i = o9 at *
              go_wp2_with (first | (with_reducible refine hold_append ?_) | (with_reducible refine hold_make ?_) | (with_reducible refine hold_copy ?_))
              exact ⟨⟨0 + 1, c9, A9, o9, by omega, by go_num, by rw [hlen9], HE9.out.symm, hall9, by omega, by rw [hlen9]; exact ho9, hB9⟩, by simp [intOf]; try omega⟩
        · have HN2 : Hid (estep (sf, st) O (1 + 1) = insE (st + 1) out) := Lib.hid (by rw [hout]; rfl)
          clear hout
          go_wp2_with (first | (with_reducible refine hold_append ?_) | (with_reducible refine hold_make ?_) | (with_reducible refine hold_copy ?_))
          go_loopw [7] (fun s w5 => ∃ (i : Nat), s = .int .i64 i ∧ i ≤ out.length ∧ (∀ j, j < i → out.getD j 0 < (st + 1)) ∧ w5 = wr) (fun s _ => out.length - (intOf s).toNat)
          case atStart => exact ⟨0, rfl, by omega, by intros; omega, rfl⟩
          case round =>
            obtain ⟨i, rfl, hi, hlow, hww⟩ := hrel
            subst hww
            have hinsat := insE_at (st + 1) out i hi hlow
            by_cases hlt2 : i < out.length
            · have hdl : (i : Int) < (out.length : Int) := by omega
              obtain ⟨bq, offq, hA, _, hkq, hcq⟩ := RdU.at_k ho.rd hlt2
              have hgd : out.getD i 0 = out[i] := by simp [List.getD, List.getElem?_eq_getElem hkq]
              have hbq : out[i] < 18446744073709551616 := hall _ (List.getElem_mem hkq)
              rw [← hgd] at hcq hbq
              have HL := Lib.hid hlow
              clear hlow hgd
              subst hA
              by_cases hx : out.getD i 0 < (st + 1)
              · have HX := Lib.hid hx
                clear hinsat
                generalize out.getD i 0 = y at hcq hbq hx
                have hdx : (y : Int) < (((st + 1) : Nat) : Int) := by omega
                go_wp2_with (first | (with_reducible refine hold_append ?_) | (with_reducible refine hold_make ?_) | (with_reducible refine hold_copy ?_))
                exact ⟨⟨i + 1, by go_num, by omega, fun j hj => by
                  rcases Nat.lt_or_ge j i with h | h
                  · exact HL.out j h
                  · obtain rfl : j = i := by omega
                    exact HX.out, by first | trivial | rfl⟩, by simp [intOf]; omega⟩
              · have hins := hinsat (fun _ => Nat.le_of_not_lt hx)
                clear hinsat
                by_cases he : out.getD i 0 = (st + 1)
                · rw [if_pos ⟨hlt2, he⟩] at hins
                  have HX := Lib.hid hins
                  clear hins
                  generalize out.getD i 0 = y at hcq hbq hx he
                  have hdx : decide ((y : Int) < (((st + 1) : Nat) : Int)) = false := by simp; omega
                  have hde : ((y : Int) == (((st + 1) : Nat) : Int)) = true := by simp; omega
                  clear he
                  have HE9 : Hid (estep (sf, st) O (1 + 1) = out) := Lib.hid (by rw [HN2.out]; exact HX.out)
                  go_wp2_with (first | (with_reducible refine hold_append ?_) | (with_reducible refine hold_make ?_) | (with_reducible refine hold_copy ?_))
                  exact ⟨⟨1 + 1, c3, _, out, by omega, by go_num, rfl, HE9.out.symm, hall, by omega, ho, hBq⟩, by simp [intOf]; try omega⟩
                · rw [if_neg (fun h => he h.2)] at hins
                  have HX := Lib.hid hins
                  clear hins
                  generalize out.getD i 0 = y at hcq hbq hx he
                  have hdx : decide ((y : Int) < (((st + 1) : Nat) : Int)) = false := by simp; omega
                  have hde : ((y : Int) == (((st + 1) : Nat) : Int)) = false := by simp; omega
                  have hc3 := ho.rd.cap
                  have hszq := hBq.size
                  go_wp2_with (first | (with_reducible refine hold_append ?_) | (with_reducible refine hold_make ?_) | (with_reducible refine hold_copy ?_) | (with_reducible refine hold_slice ?_))
                  refine unhold (wp_cutB slU rfl rfl rfl ho.rd 0 i c3 (.inl ⟨rfl, rfl⟩) (.inr ⟨_, _, rfl, rfl⟩) (.inl ⟨rfl, rfl⟩) (by intro h; cases h) (by omega) (by omega) (Nat.le_refl _) (by omega) ?_)
                  intro A5 hr5 _
                  simp only [Nat.mul_one, Nat.zero_mul, List.drop_zero, ← List.map_take, Nat.sub_zero] at hr5 ⊢
                  go_wp2_with (first | (with_reducible refine hold_append ?_) | (with_reducible refine hold_make ?_) | (with_reducible refine hold_copy ?_))
                  refine unhold (wp_app slU rfl rfl rfl rfl (Own.none_ wr w.heap.size _ _) hr5 (n64_one _) (by omega) (by simp [maxLen]; omega) hszq ?_)
                  intro A6 c6 w6 ho6 hg6 hb6
                  have hblt : ∀ g, blk (some ⟨bq, offq, none⟩) = some g → g < wr.heap.size := fun g hg => (ho.blk_lt hg).2
                  have hB6 : Below w.heap.size w w6 := hBq.grown hg6 hszq (by simp [blk])
                  have hok6 := own_keep ho hg6 (by intro g _ e; simp [blk] at e)
                  have hne6 : ∀ g, blk (some ⟨bq, offq, none⟩) = some g → blk A6 ≠ some g := fun g hg e => by
                    rcases hb6 with h | h
                    · rw [e] at h; simp [blk] at h
                    · rw [e] at h; have := hblt g hg; injection h; omega
                  simp only [Nat.zero_add, List.nil_append] at ho6
                  have hsz6 := hB6.size
                  have hlit := own_lit (w := w6) w.heap.size #[.int .u64 (((st + 1) : Nat) : Int)] 37 1 hsz6 (by simp [maxLen]) rfl (size := 1) (by omega)
                  have hB6l : Below w.heap.size w (w6.alloc (.cells #[.int .u64 (((st + 1) : Nat) : Int)] 37)) := hB6.alloc hsz6 _
                  have ho6l : OwnU (w6.alloc (.cells #[.int .u64 (((st + 1) : Nat) : Int)] 37)) w.heap.size A6 i c6 (out.take i) := ho6.alloc _
                  have hok6l : OwnU (w6.alloc (.cells #[.int .u64 (((st + 1) : Nat) : Int)] 37)) w.heap.size (some ⟨bq, offq, none⟩) out.length c3 out := hok6.alloc _
                  clear hg6 hb6
                  go_wp2_with (first | (with_reducible refine hold_append ?_) | (with_reducible refine hold_make ?_) | (with_reducible refine hold_copy ?_))
                  refine unhold (wp_app slU rfl rfl rfl rfl ho6l hlit.rd (n64_one [(st + 1)]) (by omega) (by simp [maxLen]; omega) hB6l.size ?_)
                  intro A7 c7 w7 ho7 hg7 _
                  have hB7 := hB6l.grown hg7 hB6l.size (fun g hg => (ho6l.blk_lt hg).1)
                  have hok7 := own_keep hok6l hg7 hne6
                  rw [show (out.take i).map n64 ++ (#[.int .u64 (((st + 1) : Nat) : Int)] : Array Value).toList = (out.take i ++ [(st + 1)]).map n64 by simp [n64]] at ho7
                  have hsz7 := hB7.size
                  clear hg7
                  go_wp2_with (first | (with_reducible refine hold_append ?_) | (with_reducible refine hold_make ?_) | (with_reducible refine hold_copy ?_) | (with_reducible refine hold_slice ?_))
                  refine unhold (wp_cutB slU rfl rfl rfl hok7.rd i out.length c3 (.inr ⟨_, _, rfl, rfl⟩) (.inl ⟨rfl, rfl⟩) (.inl ⟨rfl, rfl⟩) (by intro h; cases h) (by omega) (by omega) (Nat.le_refl _) (by omega) ?_)
                  intro A8 hr8 _
                  simp only [Nat.mul_one] at hr8
                  rw [List.take_of_length_le (by simp), ← List.map_drop] at hr8
                  go_wp2_with (first | (with_reducible refine hold_append ?_) | (with_reducible refine hold_make ?_) | (with_reducible refine hold_copy ?_))
                  refine unhold (wp_app slU rfl rfl rfl rfl ho7 hr8 (n64_one _) (by omega) (by simp [maxLen]; omega) hsz7 ?_)
                  intro A9 c9 w9 ho9 hg9 _
                  have hB9 := hB7.grown hg9 hsz7 (fun g hg => (ho7.blk_lt hg).1)
                  rw [← List.map_append] at ho9
                  have HE9 : Hid (estep (sf, st) O (1 + 1) = out.take i ++ [(st + 1)] ++ out.drop i) := Lib.hid (by rw [HN2.out]; exact HX.out)
                  have hlen9 : (out.take i ++ [(st + 1)] ++ out.drop i).length = i + 1 + (out.length - i) := by simp; omega
                  have hall9 : ∀ x ∈ out.take i ++ [(st + 1)] ++ out.drop i, x < 18446744073709551616 := by
                    intro x hx
                    simp only [List.mem_append, List.mem_singleton] at hx
                    rcases hx with (hx | rfl) | hx
                    · exact hall x (List.mem_of_mem_take hx)
                    · omega
                    · exact hall x (List.mem_of_mem_drop hx)
                  have hbd9 : i + 1 + (out.length - i) ≤ 2 * k + (1 + 1) := by omega
                  generalize out.take i ++ [(st + 1)] ++ out.drop i = o9 at *
                  go_wp2_with (first | (with_reducible refine hold_append ?_) | (with_reducible refine hold_make ?_) | (with_reducible refine hold_copy ?_))
                  exact ⟨⟨1 + 1, c9, A9, o9, by omega, by go_num, by rw [hlen9], HE9.out.symm, hall9, by omega, by rw [hlen9]; exact ho9, hB9⟩, by simp [intOf]; try omega⟩
            · have hdl : decide ((i : Int) < (out.length : Int)) = false := by simp; omega
              have hins := hinsat (fun h => absurd h hlt2)
              rw [if_neg (fun h => hlt2 h.1)] at hins
              have HX := Lib.hid hins
              clear hins hinsat hlow
              have hc3 := ho.rd.cap
              have hszq := hBq.size
              go_wp2_with (first | (with_reducible refine hold_append ?_) | (with_reducible refine hold_make ?_) | (with_reducible refine hold_copy ?_) | (with_reducible refine hold_slice ?_))
              refine unhold (wp_cutB slU rfl rfl rfl ho.rd 0 i c3 (.inl ⟨rfl, rfl⟩) (.inr ⟨_, _, rfl, rfl⟩) (.inl ⟨rfl, rfl⟩) (by intro h; cases h) (by omega) (by omega) (Nat.le_refl _) (by omega) ?_)
              intro A5 hr5 _
              simp only [Nat.mul_one, Nat.zero_mul, List.drop_zero, ← List.map_take, Nat.sub_zero] at hr5 ⊢
              go_wp2_with (first | (with_reducible refine hold_append ?_) | (with_reducible refine hold_make ?_) | (with_reducible refine hold_copy ?_))
              refine unhold (wp_app slU rfl rfl rfl rfl (Own.none_ wr w.heap.size _ _) hr5 (n64_one _) (by omega) (by simp [maxLen]; omega) hszq ?_)
              intro A6 c6 w6 ho6 hg6 hb6
              have hblt : ∀ g, blk A3 = some g → g < wr.heap.size := fun g hg => (ho.blk_lt hg).2
              have hB6 : Below w.heap.size w w6 := hBq.grown hg6 hszq (by simp [blk])
              have hok6 := own_keep ho hg6 (by intro g _ e; simp [blk] at e)
              have hne6 : ∀ g, blk A3 = some g → blk A6 ≠ some g := fun g hg e => by
                rcases hb6 with h | h
                · rw [e] at h; simp [blk] at h
                · rw [e] at h; have := hblt g hg; injection h; omega
              simp only [Nat.zero_add, List.nil_append] at ho6
              have hsz6 := hB6.size
              have hlit := own_lit (w := w6) w.heap.size #[.int .u64 (((st + 1) : Nat) : Int)] 37 1 hsz6 (by simp [maxLen]) rfl (size := 1) (by omega)
              have hB6l : Below w.heap.size w (w6.alloc (.cells #[.int .u64 (((st + 1) : Nat) : Int)] 37)) := hB6.alloc hsz6 _
              have ho6l : OwnU (w6.alloc (.cells #[.int .u64 (((st + 1) : Nat) : Int)] 37)) w.heap.size A6 i c6 (out.take i) := ho6.alloc _
              have hok6l : OwnU (w6.alloc (.cells #[.int .u64 (((st + 1) : Nat) : Int)] 37)) w.heap.size A3 out.length c3 out := hok6.alloc _
              clear hg6 hb6
              go_wp2_with (first | (with_reducible refine hold_append ?_) | (with_reducible refine hold_make ?_) | (with_reducible refine hold_copy ?_))
              refine unhold (wp_app slU rfl rfl rfl rfl ho6l hlit.rd (n64_one [(st + 1)]) (by omega) (by simp [maxLen]; omega) hB6l.size ?_)
              intro A7 c7 w7 ho7 hg7 _
              have hB7 := hB6l.grown hg7 hB6l.size (fun g hg => (ho6l.blk_lt hg).1)
              have hok7 := own_keep hok6l hg7 hne6
              rw [show (out.take i).map n64 ++ (#[.int .u64 (((st + 1) : Nat) : Int)] : Array Value).toList = (out.take i ++ [(st + 1)]).map n64 by simp [n64]] at ho7
              have hsz7 := hB7.size
              clear hg7
              go_wp2_with (first | (with_reducible refine hold_append ?_) | (with_reducible refine hold_make ?_) | (with_reducible refine hold_copy ?_) | (with_reducible refine hold_slice ?_))
              refine unhold (wp_cutB slU rfl rfl rfl hok7.rd i out.length c3 (.inr ⟨_, _, rfl, rfl⟩) (.inl ⟨rfl, rfl⟩) (.inl ⟨rfl, rfl⟩) (by intro h; cases h) (by omega) (by omega) (Nat.le_refl _) (by omega) ?_)
              intro A8 hr8 _
              simp only [Nat.mul_one] at hr8
              rw [List.take_of_length_le (by simp), ← List.map_drop] at hr8
              go_wp2_with (first | (with_reducible refine hold_append ?_) | (with_reducible refine hold_make ?_) | (with_reducible refine hold_copy ?_))
              refine unhold (wp_app slU rfl rfl rfl rfl ho7 hr8 (n64_one _) (by omega) (by simp [maxLen]; omega) hsz7 ?_)
              intro A9 c9 w9 ho9 hg9 _
              have hB9 := hB7.grown hg9 hsz7 (fun g hg => (ho7.blk_lt hg).1)
              rw [← List.map_append] at ho9
              have HE9 : Hid (estep (sf, st) O (1 + 1) = out.take i ++ [(st + 1)] ++ out.drop i) := Lib.hid (by rw [HN2.out]; exact HX.out)
              have hlen9 : (out.take i ++ [(st + 1)] ++ out.drop i).length = i + 1 + (out.length - i) := by simp; omega
              have hall9 : ∀ x ∈ out.take i ++ [(st + 1)] ++ out.drop i, x < 18446744073709551616 := by
                intro x hx
                simp only [List.mem_append, List.mem_singleton] at hx
                rcases hx with (hx | rfl) | hx
                · exact hall x (List.mem_of_mem_take hx)
                · omega
                · exact hall x (List.mem_of_mem_drop hx)
              have hbd9 : i + 1 + (out.length - i) ≤ 2 * k + (1 + 1) := by omega
              generalize out.take i ++ [(st + 1)] ++ out.drop i = o9 at *
              go_wp2_with (first | (with_reducible refine hold_append ?_) | (with_reducible refine hold_make ?_) | (with_reducible refine hold_copy ?_))
              exact ⟨⟨1 + 1, c9, A9, o9, by omega, by go_num, by rw [hlen9], HE9.out.symm, hall9, by omega, by rw [hlen9]; exact ho9, hB9⟩, by simp [intOf]; try omega⟩
        · have HO : Hid (out = efold (l.take (k + 1))) := Lib.hid (by rw [HN.out, hout])
          clear hout
          go_wp2_with (first | (with_reducible refine hold_append ?_) | (with_reducible refine hold_make ?_) | (with_reducible refine hold_copy ?_))
          exact ⟨⟨k + 1, c3, A3, out, by omega, by go_num, rfl, HO.out, hall, by omega, ho, hBq⟩, by simp [intOf]; omega⟩
    · obtain rfl : k = n := by omega
      rw [← hl, List.take_length] at hout
      have HO := Lib.hid hout
      clear hout
      go_wp2_with (first | (with_reducible refine hold_append ?_) | (with_reducible refine hold_make ?_) | (with_reducible refine hold_copy ?_))
      go_ret
      rw [← HO.out]
      exact ⟨A2, c2, rfl, ho0, hBr⟩
end Go.PH

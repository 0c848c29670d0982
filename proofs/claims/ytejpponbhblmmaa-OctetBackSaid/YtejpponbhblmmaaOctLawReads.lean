/- OctetReads: for every input of the form's own reach the law returns true and writes nothing that was there. -/
import Derived.Test.YtejpponbhblmmaaOctHead
import Derived.Test.YtejpponbhblmmaaOctRef
import Derived.Deep.Cut
import Derived.Deep.CutRange
import Derived.Deep.CutBlock
namespace Go.PH
open Go.RowKit Go.Proofs

/-- a call of a reader, in cells -/
def RAsk (a : Nat × Int × Int) (cs : List Value) : Prop := cs = [.int .u8 (a.1 : Int), .int .i64 a.2.1, .int .i64 a.2.2] ∧ a.1 < 256 ∧ -9223372036854775808 ≤ a.2.1 ∧ a.2.1 ≤ 9223372036854775807 ∧ -9223372036854775808 ≤ a.2.2 ∧ a.2.2 ≤ 9223372036854775807
theorem asks_at {w : World} {B : Nat} {A : Option Addr} {n c : Nat} {xs : List Value} {L : List (Nat × Int × Int)} (hr : Rd w B 3 A n c xs) (hL : L.length = n) (hR : ∀ i (h : i < L.length), RAsk L[i] ((xs.drop (i * 3)).take 3)) {k : Nat} (hk : k < n) :
    ∃ b off y m1 m2, A = some ⟨b, off, none⟩ ∧ b < B ∧ w.cell? ⟨b, off + k * 3, none⟩ = some (.int .u8 (y : Nat)) ∧ w.cell? ⟨b, off + k * 3 + 1, none⟩ = some (.int .i64 m1) ∧ w.cell? ⟨b, off + k * 3 + 2, none⟩ = some (.int .i64 m2) ∧
      y < 256 ∧ -9223372036854775808 ≤ m1 ∧ m1 ≤ 9223372036854775807 ∧ -9223372036854775808 ≤ m2 ∧ m2 ≤ 9223372036854775807 := by
  obtain ⟨b, off, e, hb, hc⟩ := hr.at_ (by omega)
  obtain ⟨h1, h2, h3, h4, h5, h6⟩ := hR k (by omega)
  have h0 : xs[k * 3]? = some (.int .u8 (L[k].1 : Int)) := by
    have : ((xs.drop (k * 3)).take 3)[0]? = some (.int .u8 (L[k].1 : Int)) := by rw [h1]; rfl
    simpa using this
  have h01 : xs[k * 3 + 1]? = some (.int .i64 L[k].2.1) := by
    have : ((xs.drop (k * 3)).take 3)[1]? = some (.int .i64 L[k].2.1) := by rw [h1]; rfl
    simpa using this
  have h02 : xs[k * 3 + 2]? = some (.int .i64 L[k].2.2) := by
    have : ((xs.drop (k * 3)).take 3)[2]? = some (.int .i64 L[k].2.2) := by rw [h1]; rfl
    simpa using this
  exact ⟨b, off, L[k].1, L[k].2.1, L[k].2.2, e, hb, hc _ _ h0, hc _ _ h01, hc _ _ h02, h2, h3, h4, h5, h6⟩
theorem mtake_len (l : List UInt8) (bad : Bool) (x : Int) : (mtake l bad x).1.length ≤ l.length := by
  unfold mtake
  split
  · simp
  · simp only [List.length_take]; omega
theorem same_any (A : Option Addr) (n c : Nat) (l : List UInt8) (A' : Option Addr) (n' c' : Nat) (l' : List UInt8) (w : World) {B B' : Nat} (hb : RdB w B A n c l) (hb' : RdB w B' A' n' c' l') :
    Calls Try.prog 11 #[.slice A n c, .slice A' n' c'] w fun e w' => e = .returned (.bool (l == l')) ∧ w' = w := by
  have h1 := run_strB hb
  have h2 := run_strB hb'
  have e1 : (l == l') = ((str l).toList == (str l').toList) := by rw [str_toList, str_toList]
  rw [e1]
  go_enter Try.func11, Try.ntmps11
  go_wp2_with (first | (with_reducible refine hold_append ?_) | (with_reducible refine hold_make ?_) | (with_reducible refine hold_copy ?_))
  go_ret
  exact ⟨rfl, rfl⟩

set_option maxHeartbeats 2000000 in
set_option maxRecDepth 20000 in
theorem law_OctetReads (A : Option Addr) (n c : Nat) (l : List UInt8) (A' : Option Addr) (n' c' : Nat) (xs : List Value) (L : List (Nat × Int × Int)) (w : World) (hb : RdB w w.heap.size A n c l) (hr : Rd w w.heap.size 3 A' n' c' xs) (hL : L.length = n') (hR : ∀ i (h : i < L.length), RAsk L[i] ((xs.drop (i * 3)).take 3)) (hn : n ≤ 140737488351232) (hn' : n' ≤ 140737488351232) :
    Calls Try.prog 5 #[.slice A n c, .slice A' n' c'] w fun e w' => e = .returned (.bool true) ∧ Below w.heap.size w w' := by
  have hl := hb.length
  have hcap := hb.cap
  go_enter Try.func5, Try.ntmps5
  go_wp2_with (first | (with_reducible refine hold_append ?_) | (with_reducible refine hold_make ?_) | (with_reducible refine hold_copy ?_))
  refine unhold (wp_app slB rfl rfl rfl rfl (Own.none_ w w.heap.size _ _) hb (map_one _) (by omega) (by simp [maxLen]; omega) (Nat.le_refl _) ?_)
  intro A1 c1 w1 ho1 hg1 _
  have hB1 : Below w.heap.size w w1 := (Below.refl _ _).grown hg1 (Nat.le_refl _) (by simp [blk])
  have hz1 := hB1.size
  simp only [Nat.zero_add, List.nil_append] at ho1
  go_wp2_with (first | (with_reducible refine hold_append ?_) | (with_reducible refine hold_make ?_) | (with_reducible refine hold_copy ?_))
  refine (rdopen_any A1 n c1 l w1 ho1.rd (by omega)).mono ?_
  rintro e w2 ⟨rb, b, rfl, hrb, hbb, hR2, hB2⟩
  have hF1 : ∀ g, (fun g : Nat => w1.heap.size ≤ g ∧ g < w2.heap.size) g → w1.heap.size ≤ g ∧ g < w2.heap.size := fun g h => h
  generalize (fun g : Nat => w1.heap.size ≤ g ∧ g < w2.heap.size) = F1 at hR2 hF1
  have hz2 := hB2.size
  have hB12 := hB1.trans (hB2.mono hz1)
  have ho2 : Own w2 w.heap.size 5 1 A1 n c1 (l.map u8v) := ho1.kept (grownOf hB2 none) (by cases hv : (Value.slice A1 n c1).ownBlock <;> simp)
  go_wp2_with (first | (with_reducible refine hold_append ?_) | (with_reducible refine hold_make ?_) | (with_reducible refine hold_copy ?_))
  refine (qopen_any A n c l w2 ((hb.below hB12).more hB12.size) (by omega)).mono ?_
  rintro e w3 ⟨qb, rfl, hqb, hQ3, hB3⟩
  have hF2 : ∀ g, (fun g : Nat => w2.heap.size ≤ g ∧ g < w3.heap.size) g → w2.heap.size ≤ g ∧ g < w3.heap.size := fun g h => h
  generalize (fun g : Nat => w2.heap.size ≤ g ∧ g < w3.heap.size) = F2 at hQ3 hF2
  have hz3 := hB3.size
  have hB13 := hB12.trans (hB3.mono (by omega))
  have ho3 : Own w3 w.heap.size 5 1 A1 n c1 (l.map u8v) := ho2.kept (grownOf hB3 none) (by cases hv : (Value.slice A1 n c1).ownBlock <;> simp)
  have hR3 := hR2.below hB3
  have hA1 : ∀ g, blk A1 = some g → g < w1.heap.size := fun g hg => (ho1.blk_lt hg).2
  clear ho1 ho2 hR2 hg1
  go_wp2_with (first | (with_reducible refine hold_append ?_) | (with_reducible refine hold_make ?_) | (with_reducible refine hold_copy ?_))
  go_loopw [8] (fun i wr => ∃ (k : Nat) (l1 : List UInt8), k ≤ n ∧ i = .int .i64 k ∧ Own wr w.heap.size 5 1 A1 n c1 (l1.map u8v) ∧ Rdr F1 wr (.pointer (some ⟨rb, 0, none⟩)) (some b) l false ∧ Qrd F2 wr qb l false ∧ Below w.heap.size w wr ∧ w3.heap.size ≤ wr.heap.size) (fun i _ => n - (intOf i).toNat)
  case atStart => exact ⟨0, l, by omega, rfl, ho3, hR3, hQ3, hB13, Nat.le_refl _⟩
  case round =>
    obtain ⟨k, l1, hk, rfl, ho, hR4, hQ4, hB, hsz⟩ := hrel
    have hl1 := OwnB.length ho
    by_cases hlt : k < n
    · obtain ⟨g, rfl, hwg, hbg, hgl, hcell, hfz, hst⟩ := OwnB.at_k ho (k := k) hlt
      have hg1 := hA1 g rfl
      have hby := l1[k].toNat_lt
      have h1 := hst (l1[k] + 1)
      rw [u8v_add1] at h1
      go_wp2_with (first | (with_reducible refine hold_append ?_) | (with_reducible refine hold_make ?_) | (with_reducible refine hold_copy ?_))
      have hgs := grownSet wr ⟨g, k, none⟩ (.int .u8 (((l1[k].toNat : Int) + 1) % 256))
      exact ⟨⟨k + 1, _, by omega, by go_num, h1, hR4.kept hgs (by rintro g' ⟨rfl⟩ hF; have : w1.heap.size ≤ g := (hF1 g hF).1; omega), hQ4.kept hgs (by rintro g' ⟨rfl⟩ hF; have : w2.heap.size ≤ g := (hF2 g hF).1; omega), hB.setCell hwg _, by simpa using hsz⟩, by simp [intOf]; omega⟩
    · have hkn : k = n := by omega
      subst hkn
      go_wp2_with (first | (with_reducible refine hold_append ?_) | (with_reducible refine hold_make ?_) | (with_reducible refine hold_copy ?_))
      clear ho hcap
      go_loopw [9] (fun i wr => ∃ (k : Nat) (l1 : List UInt8) (bad : Bool), k ≤ n' ∧ k ≤ 200 ∧ i = .int .i64 k ∧ Rdr F1 wr (.pointer (some ⟨rb, 0, none⟩)) (some b) l1 bad ∧ Qrd F2 wr qb l1 bad ∧ Below w.heap.size w wr ∧ w3.heap.size ≤ wr.heap.size) (fun i _ => n' - (intOf i).toNat)
      case atStart => exact ⟨0, l, false, by omega, by omega, rfl, hR4, hQ4, hB, hsz⟩
      case round =>
        clear hR4 hQ4 hB hsz
        obtain ⟨k, l1, bad, hk, hk2, rfl, hR4, hQ4, hB, hsz⟩ := hrel
        by_cases hlt : k < n'
        · by_cases h200 : k < 200
          · obtain ⟨ab, aoff, y, m1, m2, rfl, hab, hc0, hc1, hc2, hy, hm1, hm1', hm2, hm2'⟩ := asks_at (hr.below hB) hL hR hlt
            go_upto_region 12 with fail
            have hB5 : Below w.heap.size w (wr.alloc (.cells #[.int .u8 (y : Int), .int .i64 m1, .int .i64 m2] 43)) := hB.alloc hB.size _
            have hR5 := hR4.below (Below.alloc (Below.refl wr.heap.size wr) (Nat.le_refl _) (.cells #[.int .u8 (y : Int), .int .i64 m1, .int .i64 m2] 43))
            have hQ5 := hQ4.below (Below.alloc (Below.refl wr.heap.size wr) (Nat.le_refl _) (.cells #[.int .u8 (y : Int), .int .i64 m1, .int .i64 m2] 43))
            have hx1 : (wr.alloc (.cells #[.int .u8 (y : Int), .int .i64 m1, .int .i64 m2] 43)).cell? ⟨wr.heap.size, 1, none⟩ = some (.int .i64 m1) := by simp
            have hx2 : (wr.alloc (.cells #[.int .u8 (y : Int), .int .i64 m1, .int .i64 m2] 43)).cell? ⟨wr.heap.size, 2, none⟩ = some (.int .i64 m2) := by simp
            have hx0 : (wr.alloc (.cells #[.int .u8 (y : Int), .int .i64 m1, .int .i64 m2] 43)).cell? ⟨wr.heap.size, 0, none⟩ = some (.int .u8 (y : Int)) := by simp
            have hsz5 : (wr.alloc (.cells #[.int .u8 (y : Int), .int .i64 m1, .int .i64 m2] 43)).heap.size = wr.heap.size + 1 := by simp
            generalize (wr.alloc (.cells #[.int .u8 (y : Int), .int .i64 m1, .int .i64 m2] 43)) = w5 at hB5 hR5 hQ5 hx0 hx1 hx2 hsz5 ⊢
            generalize wr.heap.size = xb at hx0 hx1 hx2 hsz5 hsz ⊢
            clear hR4 hQ4 hB hc0 hc1 hc2
            have hbx : w1.heap.size ≤ b ∧ b < w2.heap.size := hF1 b (hR5.inF rfl)
            have hqx : w2.heap.size ≤ qb ∧ qb < w3.heap.size := hF2 qb hQ5.inF
            have hbF2 : ¬ F2 b := fun h => by have := (hF2 b h).1; omega
            have hqF1 : ¬ F1 qb := fun h => by have := (hF1 qb h).2; omega
            go_upto_block 4 with fail
            go_cut [11] from 34 to 118 (fun s11 wz => s11 = .bool true ∧ ∃ (l2 : List UInt8) (bad2 : Bool), Rdr F1 wz (.pointer (some ⟨rb, 0, none⟩)) (some b) l2 bad2 ∧ Qrd F2 wz qb l2 bad2 ∧ Below w.heap.size w wz ∧ w3.heap.size ≤ wz.heap.size)
            case first =>
              rcases (show (y : Int) % 4 = 0 ∨ (y : Int) % 4 = 1 ∨ (y : Int) % 4 = 2 ∨ (y : Int) % 4 = 3 by omega) with hm4 | hm4 | hm4 | hm4
              · have hb0 : ((y : Int) % 4 == 0) = true := by simp; omega
                have hb1 : ((y : Int) % 4 == 1) = false := by simp; omega
                have hb2 : ((y : Int) % 4 == 2) = false := by simp; omega
                go_wp2_with (first | (with_reducible refine hold_append ?_) | (with_reducible refine hold_make ?_) | (with_reducible refine hold_copy ?_))
                have hS : w5.drew.cell? ⟨xb, 1, none⟩ = some (.int .i64 m1) := hx1
                refine rg_start (fun wx => wx.cell? ⟨xb, 1, none⟩ = some (.int .i64 m1)) (by kernel_rfl) ?_
                refine rg_take 0 (v := ?_) rfl (by kernel_rfl) (by kernel_rfl) (by kernel_rfl) hS rfl ?_ ?_
                rotate_left
                · intro wS hSw; go_simp; (with_reducible rfl)
                simp only [List.getElem_toArray, List.getElem_cons_zero, Act.put, List.setIfInBounds_toArray, List.set_cons_zero, List.set_cons_succ]
                refine rg_take 1 (v := ?_) rfl (by kernel_rfl) (by kernel_rfl) (by kernel_rfl) hS rfl ?_ ?_
                rotate_left
                · intro wS hSw; go_simp; (with_reducible rfl)
                simp only [List.getElem_toArray, List.getElem_cons_succ, List.getElem_cons_zero, Act.put, List.setIfInBounds_toArray, List.set_cons_zero, List.set_cons_succ]
                refine rg_take 2 (v := ?_) rfl (by kernel_rfl) (by kernel_rfl) (by kernel_rfl) hS rfl ?_ ?_
                rotate_left
                · intro wS hSw; go_simp; (with_reducible rfl)
                simp only [List.getElem_toArray, List.getElem_cons_succ, List.getElem_cons_zero, Act.put, List.setIfInBounds_toArray, List.set_cons_zero, List.set_cons_succ]
                refine rg_take 4 (v := ?_) rfl (by kernel_rfl) (by kernel_rfl) (by kernel_rfl) hS rfl ?_ ?_
                rotate_left
                · intro wS hSw; go_simp; (with_reducible rfl)
                simp only [List.getElem_toArray, List.getElem_cons_succ, List.getElem_cons_zero, Act.put, List.setIfInBounds_toArray, List.set_cons_zero, List.set_cons_succ]
                refine rg_take 5 (v := ?_) rfl (by kernel_rfl) (by kernel_rfl) (by kernel_rfl) hS rfl ?_ ?_
                rotate_left
                · intro wS hSw; go_simp; (with_reducible rfl)
                simp only [List.getElem_toArray, List.getElem_cons_succ, List.getElem_cons_zero, Act.put, List.setIfInBounds_toArray, List.set_cons_zero, List.set_cons_succ]
                refine rg_take 6 (v := ?_) rfl (by kernel_rfl) (by kernel_rfl) (by kernel_rfl) hS rfl ?_ ?_
                rotate_left
                · intro wS hSw; go_simp; (with_reducible rfl)
                simp only [List.getElem_toArray, List.getElem_cons_succ, List.getElem_cons_zero, Act.put, List.setIfInBounds_toArray, List.set_cons_zero, List.set_cons_succ]
                refine rg_one 3 rfl (by kernel_rfl) rfl (fun K hK => ?_)
                go_simp
                refine (rdnum_any hR5.drew m1 hm1 hm1').mono ?_
                rintro e w6 ⟨rfl, hR6, hg6⟩
                have hS6 : w6.cell? ⟨xb, 1, none⟩ = some (.int .i64 m1) := hg6.cell hS (by simp; omega)
                have hQ6 := hQ5.drew.kept hg6 (by rintro g ⟨rfl⟩ hF; exact hbF2 hF)
                refine hK _ _ hS6 ?_; clear hK K
                refine rg_one 7 rfl (by kernel_rfl) rfl (fun K hK => ?_)
                go_simp
                refine (qnum_any hQ6 m1 hm1 hm1').mono ?_
                rintro e w7 ⟨rfl, hQ7, hg7⟩
                have hS7 : w7.cell? ⟨xb, 1, none⟩ = some (.int .i64 m1) := hg7.cell hS6 (by simp; omega)
                have hR7 := hR6.kept hg7 (by rintro g ⟨rfl⟩ hF; exact hqF1 hF)
                refine hK _ _ hS7 ?_; clear hK K
                refine rg_take 8 (v := ?_) rfl (by kernel_rfl) (by kernel_rfl) (by kernel_rfl) hS7 rfl ?_ ?_
                rotate_left
                · intro wS hSw; go_simp; (with_reducible rfl)
                simp only [List.getElem_toArray, List.getElem_cons_succ, List.getElem_cons_zero, Act.put, List.setIfInBounds_toArray, List.set_cons_zero, List.set_cons_succ]
                refine rg_take 9 (v := ?_) rfl (by kernel_rfl) (by kernel_rfl) (by kernel_rfl) hS7 rfl ?_ ?_
                rotate_left
                · intro wS hSw; go_simp; (with_reducible rfl)
                simp only [List.getElem_toArray, List.getElem_cons_succ, List.getElem_cons_zero, Act.put, List.setIfInBounds_toArray, List.set_cons_zero, List.set_cons_succ]
                refine rg_end (by kernel_rfl) ?_
                have hB7 : Below w.heap.size w w7 := ((below_drewN hB5 1).grown hg6 (by simp; omega) (by rintro g ⟨rfl⟩; omega)).grown hg7 (by have := hg6.size; simp at this; omega) (by rintro g ⟨rfl⟩; omega)
                have hsz7 : w3.heap.size ≤ w7.heap.size := by have h1 := hg6.size; have h2 := hg7.size; simp at h1; omega
                generalize (mnum l1 bad m1).2.1 = l2 at hR7 hQ7
                generalize (mnum l1 bad m1).2.2 = bad2 at hR7 hQ7
                clear hR6 hQ6 hS hS6 hS7
                go_wp2_with (first | (with_reducible refine hold_append ?_) | (with_reducible refine hold_make ?_) | (with_reducible refine hold_copy ?_))
                go_meet
                case rel => exact ⟨rfl, l2, bad2, hR7, hQ7, hB7, hsz7⟩
              · have hb0 : ((y : Int) % 4 == 0) = false := by simp; omega
                have hb1 : ((y : Int) % 4 == 1) = true := by simp; omega
                have hb2 : ((y : Int) % 4 == 2) = false := by simp; omega
                go_wp2_with (first | (with_reducible refine hold_append ?_) | (with_reducible refine hold_make ?_) | (with_reducible refine hold_copy ?_))
                have hS : w5.drew.cell? ⟨xb, 1, none⟩ = some (.int .i64 m1) ∧ w5.drew.cell? ⟨xb, 2, none⟩ = some (.int .i64 m2) := ⟨hx1, hx2⟩
                refine rg_start (fun wx => wx.cell? ⟨xb, 1, none⟩ = some (.int .i64 m1) ∧ wx.cell? ⟨xb, 2, none⟩ = some (.int .i64 m2)) (by kernel_rfl) ?_
                refine rg_take 0 (v := ?_) rfl (by kernel_rfl) (by kernel_rfl) (by kernel_rfl) hS rfl ?_ ?_
                rotate_left
                · intro wS hSw; go_simp; (with_reducible rfl)
                simp only [List.getElem_toArray, List.getElem_cons_zero, Act.put, List.setIfInBounds_toArray, List.set_cons_zero, List.set_cons_succ]
                refine rg_take 1 (v := ?_) rfl (by kernel_rfl) (by kernel_rfl) (by kernel_rfl) hS rfl ?_ ?_
                rotate_left
                · intro wS hSw; go_simp; (with_reducible rfl)
                simp only [List.getElem_toArray, List.getElem_cons_succ, List.getElem_cons_zero, Act.put, List.setIfInBounds_toArray, List.set_cons_zero, List.set_cons_succ]
                refine rg_take 2 (v := ?_) rfl (by kernel_rfl) (by kernel_rfl) (by kernel_rfl) hS rfl ?_ ?_
                rotate_left
                · intro wS hSw; go_simp; (with_reducible rfl)
                simp only [List.getElem_toArray, List.getElem_cons_succ, List.getElem_cons_zero, Act.put, List.setIfInBounds_toArray, List.set_cons_zero, List.set_cons_succ]
                refine rg_take 3 (v := ?_) rfl (by kernel_rfl) (by kernel_rfl) (by kernel_rfl) hS rfl ?_ ?_
                rotate_left
                · intro wS hSw; go_simp; (with_reducible rfl)
                simp only [List.getElem_toArray, List.getElem_cons_succ, List.getElem_cons_zero, Act.put, List.setIfInBounds_toArray, List.set_cons_zero, List.set_cons_succ]
                refine rg_take 4 (v := ?_) rfl (by kernel_rfl) (by kernel_rfl) (by kernel_rfl) hS rfl ?_ ?_
                rotate_left
                · intro wS hSw; go_simp; (with_reducible rfl)
                simp only [List.getElem_toArray, List.getElem_cons_succ, List.getElem_cons_zero, Act.put, List.setIfInBounds_toArray, List.set_cons_zero, List.set_cons_succ]
                refine rg_take 6 (v := ?_) rfl (by kernel_rfl) (by kernel_rfl) (by kernel_rfl) hS rfl ?_ ?_
                rotate_left
                · intro wS hSw; go_simp; (with_reducible rfl)
                simp only [List.getElem_toArray, List.getElem_cons_succ, List.getElem_cons_zero, Act.put, List.setIfInBounds_toArray, List.set_cons_zero, List.set_cons_succ]
                refine rg_take 7 (v := ?_) rfl (by kernel_rfl) (by kernel_rfl) (by kernel_rfl) hS rfl ?_ ?_
                rotate_left
                · intro wS hSw; go_simp; (with_reducible rfl)
                simp only [List.getElem_toArray, List.getElem_cons_succ, List.getElem_cons_zero, Act.put, List.setIfInBounds_toArray, List.set_cons_zero, List.set_cons_succ]
                refine rg_take 8 (v := ?_) rfl (by kernel_rfl) (by kernel_rfl) (by kernel_rfl) hS rfl ?_ ?_
                rotate_left
                · intro wS hSw; go_simp; (with_reducible rfl)
                simp only [List.getElem_toArray, List.getElem_cons_succ, List.getElem_cons_zero, Act.put, List.setIfInBounds_toArray, List.set_cons_zero, List.set_cons_succ]
                refine rg_take 9 (v := ?_) rfl (by kernel_rfl) (by kernel_rfl) (by kernel_rfl) hS rfl ?_ ?_
                rotate_left
                · intro wS hSw; go_simp; (with_reducible rfl)
                simp only [List.getElem_toArray, List.getElem_cons_succ, List.getElem_cons_zero, Act.put, List.setIfInBounds_toArray, List.set_cons_zero, List.set_cons_succ]
                refine rg_take 10 (v := ?_) rfl (by kernel_rfl) (by kernel_rfl) (by kernel_rfl) hS rfl ?_ ?_
                rotate_left
                · intro wS hSw; go_simp; (with_reducible rfl)
                simp only [List.getElem_toArray, List.getElem_cons_succ, List.getElem_cons_zero, Act.put, List.setIfInBounds_toArray, List.set_cons_zero, List.set_cons_succ]
                refine rg_one 5 rfl (by kernel_rfl) rfl (fun K hK => ?_)
                go_simp
                refine (rdtext_any hR5.drew m1 m2 hm1 hm1' hm2 hm2').mono ?_
                rintro e w6 ⟨rfl, hR6, hg6⟩
                have hS6 : w6.cell? ⟨xb, 1, none⟩ = some (.int .i64 m1) ∧ w6.cell? ⟨xb, 2, none⟩ = some (.int .i64 m2) := ⟨hg6.cell hS.1 (by simp; omega), hg6.cell hS.2 (by simp; omega)⟩
                have hQ6 := hQ5.drew.kept hg6 (by rintro g ⟨rfl⟩ hF; exact hbF2 hF)
                refine hK _ _ hS6 ?_; clear hK K
                refine rg_one 11 rfl (by kernel_rfl) rfl (fun K hK => ?_)
                go_simp
                refine (qtext_any hQ6 m1 m2 hm1 hm1' hm2 hm2').mono ?_
                rintro e w7 ⟨rfl, hQ7, hg7⟩
                have hS7 : w7.cell? ⟨xb, 1, none⟩ = some (.int .i64 m1) ∧ w7.cell? ⟨xb, 2, none⟩ = some (.int .i64 m2) := ⟨hg7.cell hS6.1 (by simp; omega), hg7.cell hS6.2 (by simp; omega)⟩
                have hR7 := hR6.kept hg7 (by rintro g ⟨rfl⟩ hF; exact hqF1 hF)
                refine hK _ _ hS7 ?_; clear hK K
                refine rg_take 12 (v := ?_) rfl (by kernel_rfl) (by kernel_rfl) (by kernel_rfl) hS7 rfl ?_ ?_
                rotate_left
                · intro wS hSw; go_simp; (with_reducible rfl)
                simp only [List.getElem_toArray, List.getElem_cons_succ, List.getElem_cons_zero, Act.put, List.setIfInBounds_toArray, List.set_cons_zero, List.set_cons_succ]
                refine rg_take 13 (v := ?_) rfl (by kernel_rfl) (by kernel_rfl) (by kernel_rfl) hS7 rfl ?_ ?_
                rotate_left
                · intro wS hSw; go_simp; (with_reducible rfl)
                simp only [List.getElem_toArray, List.getElem_cons_succ, List.getElem_cons_zero, Act.put, List.setIfInBounds_toArray, List.set_cons_zero, List.set_cons_succ]
                refine rg_end (by kernel_rfl) ?_
                have hB7 : Below w.heap.size w w7 := ((below_drewN hB5 1).grown hg6 (by simp; omega) (by rintro g ⟨rfl⟩; omega)).grown hg7 (by have := hg6.size; simp at this; omega) (by rintro g ⟨rfl⟩; omega)
                have hsz7 : w3.heap.size ≤ w7.heap.size := by have h1 := hg6.size; have h2 := hg7.size; simp at h1; omega
                generalize (mtext l1 bad m1 m2).2.1 = l2 at hR7 hQ7
                generalize (mtext l1 bad m1 m2).2.2 = bad2 at hR7 hQ7
                clear hR6 hQ6 hS hS6 hS7
                go_wp2_with (first | (with_reducible refine hold_append ?_) | (with_reducible refine hold_make ?_) | (with_reducible refine hold_copy ?_))
                go_meet
                case rel => exact ⟨rfl, l2, bad2, hR7, hQ7, hB7, hsz7⟩
              · have hb0 : ((y : Int) % 4 == 0) = false := by simp; omega
                have hb1 : ((y : Int) % 4 == 1) = false := by simp; omega
                have hb2 : ((y : Int) % 4 == 2) = true := by simp; omega
                go_wp2_with (first | (with_reducible refine hold_append ?_) | (with_reducible refine hold_make ?_) | (with_reducible refine hold_copy ?_))
                refine (rdtake_any hR5 m1 hm1 hm1').mono ?_
                rintro e w6 ⟨A6, c6, rfl, ho6, hR6, hg6⟩
                have hS6 : w6.cell? ⟨xb, 1, none⟩ = some (.int .i64 m1) := hg6.cell hx1 (by simp; omega)
                have hQ6 := hQ5.kept hg6 (by rintro g ⟨rfl⟩ hF; exact hbF2 hF)
                go_wp2_with (first | (with_reducible refine hold_append ?_) | (with_reducible refine hold_make ?_) | (with_reducible refine hold_copy ?_))
                refine (qtake_any hQ6 m1 hm1 hm1').mono ?_
                rintro e w7 ⟨A7, c7, rfl, ho7, hQ7, hg7⟩
                have hR7 := hR6.kept hg7 (by rintro g ⟨rfl⟩ hF; exact hqF1 hF)
                have ho67 : Own w7 w5.heap.size 5 1 A6 (mtake l1 bad m1).1.length c6 ((mtake l1 bad m1).1.map u8v) := ho6.kept hg7 (.inr fun e => by rw [ownBlock_eq] at e; have : w5.heap.size ≤ qb := (ho6.blk_lt e).1; omega)
                go_wp2_with (first | (with_reducible refine hold_append ?_) | (with_reducible refine hold_make ?_) | (with_reducible refine hold_copy ?_))
                refine (same_any _ _ _ _ _ _ _ _ w7 ho67.rd ho7.rd).mono ?_
                rintro e w8 ⟨rfl, rfl⟩
                rw [beq_self_eq_true]
                generalize (mtake l1 bad m1).2.1 = l2 at hR7 hQ7
                generalize (mtake l1 bad m1).2.2 = bad2 at hR7 hQ7
                have hgl0 : (mtake l1 bad m1).1.length ≤ 140737488351240 := Nat.le_trans (mtake_len _ _ _) hR5.len
                generalize (mtake l1 bad m1).1 = got at ho67 hgl0
                clear hR6 hQ6 hS6 ho6 ho7
                have hB8 : Below w.heap.size w w8 := (hB5.grown hg6 (by omega) (by rintro g ⟨rfl⟩; omega)).grown hg7 (by have := hg6.size; omega) (by rintro g ⟨rfl⟩; omega)
                have hsz8 : w3.heap.size ≤ w8.heap.size := by have h1 := hg6.size; have h2 := hg7.size; omega
                have hw5s : w3.heap.size < w5.heap.size := by omega
                go_wp2_with (first | (with_reducible refine hold_append ?_) | (with_reducible refine hold_make ?_) | (with_reducible refine hold_copy ?_))
                go_loopw [13] (fun i wy => ∃ (j : Nat) (g1 : List UInt8), j ≤ got.length ∧ i = .int .i64 j ∧ Own wy w5.heap.size 5 1 A6 got.length c6 (g1.map u8v) ∧ Rdr F1 wy (.pointer (some ⟨rb, 0, none⟩)) (some b) l2 bad2 ∧ Qrd F2 wy qb l2 bad2 ∧ Below w.heap.size w wy ∧ w3.heap.size ≤ wy.heap.size) (fun i _ => got.length - (intOf i).toNat)
                case atStart => exact ⟨0, got, by omega, rfl, ho67, hR7, hQ7, hB8, hsz8⟩
                case round =>
                  clear ho67 hR7 hQ7 hB8 hsz8
                  obtain ⟨j, g1, hj, rfl, ho67, hR7, hQ7, hB8, hsz8⟩ := hrel
                  by_cases hjl : j < got.length
                  · obtain ⟨g, rfl, hwg, hbg, hgl, hcell, hfz, hst⟩ := OwnB.at_k ho67 (k := j) hjl
                    have h1 := hst 0
                    have hgs := grownSet wr ⟨g, j, none⟩ (.int .u8 0)
                    have hgs' : u8v 0 = .int .u8 0 := rfl
                    rw [hgs'] at h1
                    clear hst hgs'
                    go_wp2_with (first | (with_reducible refine hold_append ?_) | (with_reducible refine hold_make ?_) | (with_reducible refine hold_copy ?_))
                    exact ⟨⟨j + 1, _, by omega, by go_num, h1, hR7.kept hgs (by rintro g' ⟨rfl⟩ hF; have : g < w2.heap.size := (hF1 g hF).2; omega), hQ7.kept hgs (by rintro g' ⟨rfl⟩ hF; have : g < w3.heap.size := (hF2 g hF).2; omega), hB8.setCell (show w.heap.size ≤ g by omega) _, by simpa using hsz8⟩, by simp [intOf]; omega⟩
                  · obtain rfl : j = got.length := by omega
                    go_wp2_with (first | (with_reducible refine hold_append ?_) | (with_reducible refine hold_make ?_) | (with_reducible refine hold_copy ?_))
                    go_meet
                    case rel => exact ⟨rfl, l2, bad2, hR7, hQ7, hB8, hsz8⟩
              · have hb0 : ((y : Int) % 4 == 0) = false := by simp; omega
                have hb1 : ((y : Int) % 4 == 1) = false := by simp; omega
                have hb2 : ((y : Int) % 4 == 2) = false := by simp; omega
                go_wp2_with (first | (with_reducible refine hold_append ?_) | (with_reducible refine hold_make ?_) | (with_reducible refine hold_copy ?_))
                go_meet
                case rel => exact ⟨rfl, l1, bad, hR5, hQ5, hB5, by omega⟩
            case rest =>
              obtain ⟨rfl, l2, bad2, hR7, hQ7, hB7, hsz7⟩ := hcut
              generalize hwc : wc = w7 at *
              clear hwc
              go_wp2_with (first | (with_reducible refine hold_append ?_) | (with_reducible refine hold_make ?_) | (with_reducible refine hold_copy ?_))
              have hQ7' := hQ7
              obtain ⟨A9, n9, c9, q0, q1, qf0, qf1, qr, qA, qn, qF⟩ := hQ7'
              have hq9 := qr.length
              have hq9' : ((l2.length : Int) != (n9 : Int)) = false := by simp; omega
              have hS9 : w7.drew.cell? ⟨qb, 0, none⟩ = some (.slice A9 n9 c9) ∧ w7.drew.cell? ⟨qb, 1, none⟩ = some (.bool bad2) := ⟨q0, q1⟩
              clear hq9 q0 q1
              refine rg_start (fun wx => wx.cell? ⟨qb, 0, none⟩ = some (.slice A9 n9 c9) ∧ wx.cell? ⟨qb, 1, none⟩ = some (.bool bad2)) (by kernel_rfl) ?_
              refine rg_take 0 (v := ?_) rfl (by kernel_rfl) (by kernel_rfl) (by kernel_rfl) hS9 rfl ?_ ?_
              rotate_left
              · intro wS hSw; go_simp; (with_reducible rfl)
              simp only [List.getElem_toArray, List.getElem_cons_zero, Act.put, List.setIfInBounds_toArray, List.set_cons_zero, List.set_cons_succ]
              refine rg_take 1 (v := ?_) rfl (by kernel_rfl) (by kernel_rfl) (by kernel_rfl) hS9 rfl ?_ ?_
              rotate_left
              · intro wS hSw; go_simp; (with_reducible rfl)
              simp only [List.getElem_toArray, List.getElem_cons_succ, List.getElem_cons_zero, Act.put, List.setIfInBounds_toArray, List.set_cons_zero, List.set_cons_succ]
              refine rg_take 2 (v := ?_) rfl (by kernel_rfl) (by kernel_rfl) (by kernel_rfl) hS9 rfl ?_ ?_
              rotate_left
              · intro wS hSw; go_simp; (with_reducible rfl)
              simp only [List.getElem_toArray, List.getElem_cons_succ, List.getElem_cons_zero, Act.put, List.setIfInBounds_toArray, List.set_cons_zero, List.set_cons_succ]
              refine rg_take 3 (v := ?_) rfl (by kernel_rfl) (by kernel_rfl) (by kernel_rfl) hS9 rfl ?_ ?_
              rotate_left
              · intro wS hSw; go_simp; (with_reducible rfl)
              simp only [List.getElem_toArray, List.getElem_cons_succ, List.getElem_cons_zero, Act.put, List.setIfInBounds_toArray, List.set_cons_zero, List.set_cons_succ]
              refine rg_take 5 (v := ?_) rfl (by kernel_rfl) (by kernel_rfl) (by kernel_rfl) hS9 rfl ?_ ?_
              rotate_left
              · intro wS hSw; go_simp; (with_reducible rfl)
              simp only [List.getElem_toArray, List.getElem_cons_succ, List.getElem_cons_zero, Act.put, List.setIfInBounds_toArray, List.set_cons_zero, List.set_cons_succ]
              refine rg_take 6 (v := ?_) rfl (by kernel_rfl) (by kernel_rfl) (by kernel_rfl) hS9 rfl ?_ ?_
              rotate_left
              · intro wS hSw; go_simp; (with_reducible rfl)
              simp only [List.getElem_toArray, List.getElem_cons_succ, List.getElem_cons_zero, Act.put, List.setIfInBounds_toArray, List.set_cons_zero, List.set_cons_succ]
              refine rg_take 7 (v := ?_) rfl (by kernel_rfl) (by kernel_rfl) (by kernel_rfl) hS9 rfl ?_ ?_
              rotate_left
              · intro wS hSw; go_simp; (with_reducible rfl)
              simp only [List.getElem_toArray, List.getElem_cons_succ, List.getElem_cons_zero, Act.put, List.setIfInBounds_toArray, List.set_cons_zero, List.set_cons_succ]
              refine rg_take 8 (v := ?_) rfl (by kernel_rfl) (by kernel_rfl) (by kernel_rfl) hS9 rfl ?_ ?_
              rotate_left
              · intro wS hSw; go_simp; (with_reducible rfl)
              simp only [List.getElem_toArray, List.getElem_cons_succ, List.getElem_cons_zero, Act.put, List.setIfInBounds_toArray, List.set_cons_zero, List.set_cons_succ]
              refine rg_take 9 (v := ?_) rfl (by kernel_rfl) (by kernel_rfl) (by kernel_rfl) hS9 rfl ?_ ?_
              rotate_left
              · intro wS hSw; go_simp; (with_reducible rfl)
              simp only [List.getElem_toArray, List.getElem_cons_succ, List.getElem_cons_zero, Act.put, List.setIfInBounds_toArray, List.set_cons_zero, List.set_cons_succ]
              refine rg_one 4 rfl (by kernel_rfl) rfl (fun K hK => ?_)
              go_simp
              refine (rdleft_any hR7.drew).mono ?_
              rintro e w8 ⟨rfl, rfl⟩
              refine hK _ _ hS9 ?_; clear hK K
              refine rg_take 10 (v := ?_) rfl (by kernel_rfl) (by kernel_rfl) (by kernel_rfl) hS9 rfl ?_ ?_
              rotate_left
              · intro wS hSw; go_simp; (with_reducible rfl)
              simp only [List.getElem_toArray, List.getElem_cons_succ, List.getElem_cons_zero, Act.put, List.setIfInBounds_toArray, List.set_cons_zero, List.set_cons_succ]
              refine rg_take 11 (v := ?_) rfl (by kernel_rfl) (by kernel_rfl) (by kernel_rfl) hS9 rfl ?_ ?_
              rotate_left
              · intro wS hSw; go_simp; (with_reducible rfl)
              simp only [List.getElem_toArray, List.getElem_cons_succ, List.getElem_cons_zero, Act.put, List.setIfInBounds_toArray, List.set_cons_zero, List.set_cons_succ]
              refine rg_take 12 (v := ?_) rfl (by kernel_rfl) (by kernel_rfl) (by kernel_rfl) hS9 rfl ?_ ?_
              rotate_left
              · intro wS hSw; go_simp; (with_reducible rfl)
              simp only [List.getElem_toArray, List.getElem_cons_succ, List.getElem_cons_zero, Act.put, List.setIfInBounds_toArray, List.set_cons_zero, List.set_cons_succ]
              refine rg_take 13 (v := ?_) rfl (by kernel_rfl) (by kernel_rfl) (by kernel_rfl) hS9 rfl ?_ ?_
              rotate_left
              · intro wS hSw; go_simp; (with_reducible rfl)
              simp only [List.getElem_toArray, List.getElem_cons_succ, List.getElem_cons_zero, Act.put, List.setIfInBounds_toArray, List.set_cons_zero, List.set_cons_succ]
              refine rg_take 15 (v := ?_) rfl (by kernel_rfl) (by kernel_rfl) (by kernel_rfl) hS9 rfl ?_ ?_
              rotate_left
              · intro wS hSw; go_simp; (with_reducible rfl)
              simp only [List.getElem_toArray, List.getElem_cons_succ, List.getElem_cons_zero, Act.put, List.setIfInBounds_toArray, List.set_cons_zero, List.set_cons_succ]
              refine rg_take 16 (v := ?_) rfl (by kernel_rfl) (by kernel_rfl) (by kernel_rfl) hS9 rfl ?_ ?_
              rotate_left
              · intro wS hSw; go_simp; (with_reducible rfl)
              simp only [List.getElem_toArray, List.getElem_cons_succ, List.getElem_cons_zero, Act.put, List.setIfInBounds_toArray, List.set_cons_zero, List.set_cons_succ]
              refine rg_take 17 (v := ?_) rfl (by kernel_rfl) (by kernel_rfl) (by kernel_rfl) hS9 rfl ?_ ?_
              rotate_left
              · intro wS hSw; go_simp; (with_reducible rfl)
              simp only [List.getElem_toArray, List.getElem_cons_succ, List.getElem_cons_zero, Act.put, List.setIfInBounds_toArray, List.set_cons_zero, List.set_cons_succ]
              refine rg_take 18 (v := ?_) rfl (by kernel_rfl) (by kernel_rfl) (by kernel_rfl) hS9 rfl ?_ ?_
              rotate_left
              · intro wS hSw; go_simp; (with_reducible rfl)
              simp only [List.getElem_toArray, List.getElem_cons_succ, List.getElem_cons_zero, Act.put, List.setIfInBounds_toArray, List.set_cons_zero, List.set_cons_succ]
              refine rg_one 14 rfl (by kernel_rfl) rfl (fun K hK => ?_)
              go_simp
              refine (rdbad_any hR7.drew).mono ?_
              rintro e w8 ⟨rfl, rfl⟩
              refine hK _ _ hS9 ?_; clear hK K
              refine rg_take 19 (v := ?_) rfl (by kernel_rfl) (by kernel_rfl) (by kernel_rfl) hS9 rfl ?_ ?_
              rotate_left
              · intro wS hSw; go_simp; (with_reducible rfl)
              simp only [List.getElem_toArray, List.getElem_cons_succ, List.getElem_cons_zero, Act.put, List.setIfInBounds_toArray, List.set_cons_zero, List.set_cons_succ]
              refine rg_take 20 (v := ?_) rfl (by kernel_rfl) (by kernel_rfl) (by kernel_rfl) hS9 rfl ?_ ?_
              rotate_left
              · intro wS hSw; go_simp; (with_reducible rfl)
              simp only [List.getElem_toArray, List.getElem_cons_succ, List.getElem_cons_zero, Act.put, List.setIfInBounds_toArray, List.set_cons_zero, List.set_cons_succ]
              refine rg_end (by kernel_rfl) ?_
              have hR8 := hR7.drew
              have hQ8 := hQ7.drew
              have hB8 := below_drewN hB7 1
              have hsz8 : w3.heap.size ≤ w7.drew.heap.size := hsz7
              go_wp2_with (first | (with_reducible refine hold_append ?_) | (with_reducible refine hold_make ?_) | (with_reducible refine hold_copy ?_))
              exact ⟨⟨k + 1, l2, bad2, by omega, by omega, by go_num, hR8, hQ8, hB8, hsz8⟩, by simp [intOf]; omega⟩
          · obtain rfl : k = 200 := by omega
            go_wp2_with (first | (with_reducible refine hold_append ?_) | (with_reducible refine hold_make ?_) | (with_reducible refine hold_copy ?_))
            refine (head_any _).mono ?_
            rintro e w4 ⟨rfl, hB4⟩
            go_wp2_with (first | (with_reducible refine hold_append ?_) | (with_reducible refine hold_make ?_) | (with_reducible refine hold_copy ?_))
            go_ret
            exact ⟨rfl, hB.trans (hB4.mono hB.size)⟩
        · have hkn : ¬ (k : Int) < (n' : Int) := by omega
          go_wp2_with (first | (with_reducible refine hold_append ?_) | (with_reducible refine hold_make ?_) | (with_reducible refine hold_copy ?_))
          refine (head_any _).mono ?_
          rintro e w4 ⟨rfl, hB4⟩
          go_wp2_with (first | (with_reducible refine hold_append ?_) | (with_reducible refine hold_make ?_) | (with_reducible refine hold_copy ?_))
          go_ret
          exact ⟨rfl, hB.trans (hB4.mono hB.size)⟩
end Go.PH

/- OctetPuts: the statement: for every input that the form speaks of the law returns true, and the input reads as it did. -/
import Derived.Test.YtejpponbhblmmaaOctSee2
import Derived.Test.YtejpponbhblmmaaRow
import Derived.Test.YtejpponbhblmmaaRows
namespace Go.Proofs.Ytejpponbhblmmaa.octetPuts
open Go.PH Go.RowKit Go.ChangeShapes Go.WideShapes Go.ChangeAt
open Go.ChangeMaps (open_string shut_string)
theorem own : ownKnob Try.prog.godebug = none := by kernel_rfl
theorem laidOut : laidOutB Try.prog = true := by kernel_rfl

theorem contract (H : Type) (enc : TypeId × Value → H) (W : World) (base : Nat) (args : Array Value) (ds gs : List (DataW H)) (before : List MemPlace)
    (hval : ∀ (j : Nat) t v, Try.f3.params[j]? = some t → args[j]? = some v → Value.okWide Try.prog W .any base t v)
    (hW : DataW.Whole enc Try.prog Try.f3.params.toList Rows.octetPutsSpec.vars false W args.toList ds gs before)
    (hz : (DataW.weightsEach Try.prog (Try.f3.params.toList ++ (OpenSpec.ofChange Rows.octetPutsSpec).bare.plain.varTypes Try.prog) (ds ++ gs)).all (· ≤ reachBytes) = true) (hsh : W.ShapedOpen Try.prog) :
    Calls Try.prog 3 args W fun e W' => ∃ v, e = .returned v ∧ Rows.octetPutsSpec.post enc Try.prog Try.f3 false true false false W args v W' := by
  have hW' := hW
  obtain ⟨p, q, hA0, hV, rfl, hfz, hnd⟩ := hW
  have hA : DataW.TrodAll enc Try.prog W 0 (fun _ => true) true Try.f3.params.toList args.toList ds p := hA0
  rw [Try.params3] at hA hval hz
  obtain ⟨v0, vs0, d0, ds0, p0, q0, hargs, rfl, rfl, h0, r0⟩ := trodAll_cons hA
  obtain ⟨v1, vs1, d1, ds1, p1, q1, rfl, rfl, rfl, h1, r1⟩ := trodAll_cons r0
  obtain ⟨v2, vs2, d2, ds2, p2, q2, rfl, rfl, rfl, h2, r2⟩ := trodAll_cons r1
  obtain ⟨rfl, rfl, rfl⟩ := trodAll_nil r2
  obtain rfl : args = #[v0, v1, v2] := by cases args; simp_all
  obtain ⟨rfl, rfl⟩ := trodVars_none hV
  obtain ⟨A0, n0, c0, l0, rfl, hb0, hn0⟩ := see_bytes Try.underlying22 Try.underlying5 (by kernel_rfl) (by kernel_rfl) (hval 0 22 v0 rfl rfl) h0 (fun elems spare hd => sized_slice (j := 0) hz rfl (by simp [hd]) Try.underlying22)
  have hc0 := hb0.cap
  obtain ⟨x1, rfl, wf1⟩ := see_int Try.underlying23 (hval 1 23 v1 rfl rfl) h1
  have bd1 := bounds_u64 wf1
  obtain ⟨x2, s2, rfl, hx2, hx2', hs2⟩ := see_sized (hval 2 25 v2 rfl rfl) h2 (j := 2) hz rfl rfl
  have hwalk : Calls Try.prog 3 #[.slice A0 n0 c0, .int .u64 x1, .agg #[.int .i64 x2, .string (str s2)]] W fun e w' => e = .returned (.bool true) ∧ Below W.heap.size W w' := by
    have hx : x1 = ((x1.toNat : Nat) : Int) := by omega
    rw [hx]
    exact law_OctetPuts A0 n0 c0 l0 x1.toNat x2 s2 W hb0 (by omega) hx2 hx2' (by omega) hs2
  refine hwalk.mono fun e W' ⟨he, bel⟩ => ?_
  subst he
  refine ⟨_, rfl, law_post (bt := 4) rfl hW' laidOut (by kernel_rfl) (by kernel_rfl) Try.underlying4 (fun ds hds => ?_) bel⟩
  rw [Try.params3] at hds
  match ds, hds with
  | [e0, e1, e2], _ => rfl

theorem laid_met (os : Os) : laidMet Try.prog Rows.octetPutsRow.laid ((World.holding Try.prog os ⟨#[], #[], []⟩).forCall (fun _ _ => 0) ⟨#[], #[.slice none 0 0, .int .u64 0, .agg #[.int .i64 0, .string ⟨#[]⟩]], []⟩).memory := laidMet_of_run' 8 (by kernel_rfl) (by kernel_rfl)
theorem reads (os : Os) {H : Type} (enc : TypeId × Value → H) : ∃ places, DataW.whole enc Try.prog ((World.holding Try.prog os ⟨#[], #[], []⟩).forCall (fun _ _ => 0) ⟨#[], #[.slice none 0 0, .int .u64 0, .agg #[.int .i64 0, .string ⟨#[]⟩]], []⟩).memory Try.f3.params.toList Rows.octetPutsSpec.vars false (#[.slice none 0 0, .int .u64 0, .agg #[.int .i64 0, .string ⟨#[]⟩]] : Array Value).toList 8 = some ([.nil, .lit (.int .u64 0), .agg [.lit (.int .i64 0), .lit (.string [])]], [], places) :=
  ⟨[], by kernel_rfl⟩

set_option maxRecDepth 100000 in
theorem lifted (os : Os) (started : os.Started) (H : Type) (enc : TypeId × Value → H) (F : Stop.Interp) :
    ReturnsInHanded {} Try.checked os 3 .any ((OpenSpec.ofChange Rows.octetPutsSpec).preRow enc Try.prog Try.f3 Rows.octetPutsRow.domain false Rows.octetPutsRow.laid) (((OpenSpec.ofChange Rows.octetPutsSpec).at F).post enc Try.prog Try.f3 false true false false) := by
  obtain ⟨places, hx⟩ := reads os enc
  refine returnsInHanded_of_row (C := Try.checked) (s := OpenSpec.ofChange Rows.octetPutsSpec) own started (by kernel_rfl) Try.func3
    (witness_row_at (enc := enc) (C := Try.checked) false (World.holding Try.prog os ⟨#[], #[], []⟩) #[.slice none 0 0, .int .u64 0, .agg #[.int .i64 0, .string ⟨#[]⟩]] rfl (by kernel_rfl) (by kernel_rfl) (by kernel_rfl)
      (OpenSpec.preRow_of_cond 8 hx (by kernel_rfl) (fun k hk => by cases hk) (by kernel_rfl) (laid_met os))) ?_
  intro W base args ds gs before hval hW _ hcond hz hL hsh _
  exact contract H enc W base args ds gs before hval hW hz hsh

theorem said : Rows.OctetPutsSaid :=
  OpenClaim.holds_of_cond 3 Try.f3 rfl rfl rfl rfl rfl rfl rfl ⟨rfl, rfl, rfl, rfl, rfl⟩ rfl rfl rfl rfl rfl (by kernel_rfl) Try.func3 (by kernel_rfl)
    (of_decide_eq_true (by kernel_rfl)) (by unfold Func.isWrapper; first | (rw [if_pos (by decide +kernel)]; kernel_rfl) | (rw [if_neg (by decide +kernel)]; exact ⟨rfl, rfl⟩))
    (fun os started H enc _ F => by rw [OpenClaim.pre_eq_preRow]; exact lifted os started H enc F)
end Go.Proofs.Ytejpponbhblmmaa.octetPuts

/- FrameBack: the statement: for every input that the form speaks of the law returns true, and the input reads as it did. -/
import Derived.Test.YtgjdpgihehpecaaFrLawBack
import Derived.Test.YtgjdpgihehpecaaRow
import Derived.Test.YtgjdpgihehpecaaFrSee
import Derived.Test.YtgjdpgihehpecaaRows
namespace Go.Proofs.Ytgjdpgihehpecaa.frameBack
open Go.PH Go.RowKit Go.ChangeShapes Go.WideShapes Go.ChangeAt
open Go.ChangeMaps (open_string shut_string)
theorem own : ownKnob Try.prog.godebug = none := by kernel_rfl
theorem laidOut : laidOutB Try.prog = true := by kernel_rfl

theorem contract (H : Type) (enc : TypeId × Value → H) (W : World) (base : Nat) (args : Array Value) (ds gs : List (DataW H)) (before : List MemPlace)
    (hval : ∀ (j : Nat) t v, Try.f5.params[j]? = some t → args[j]? = some v → Value.okWide Try.prog W .any base t v)
    (hW : DataW.Whole enc Try.prog Try.f5.params.toList Rows.frameBackSpec.vars false W args.toList ds gs before)
    (hz : (DataW.weightsEach Try.prog (Try.f5.params.toList ++ (OpenSpec.ofChange Rows.frameBackSpec).bare.plain.varTypes Try.prog) (ds ++ gs)).all (· ≤ reachBytes) = true) (hsh : W.ShapedOpen Try.prog) :
    Calls Try.prog 5 args W fun e W' => ∃ v, e = .returned v ∧ Rows.frameBackSpec.post enc Try.prog Try.f5 false true false false W args v W' := by
  have hW' := hW
  obtain ⟨p, q, hA0, hV, rfl, hfz, hnd⟩ := hW
  have hA : DataW.TrodAll enc Try.prog W 0 (fun _ => true) true Try.f5.params.toList args.toList ds p := hA0
  rw [Try.params5] at hA hval hz
  obtain ⟨v0, vs0, d0, ds0, p0, q0, hargs, rfl, rfl, h0, r0⟩ := trodAll_cons hA
  obtain ⟨v1, vs1, d1, ds1, p1, q1, rfl, rfl, rfl, h1, r1⟩ := trodAll_cons r0
  obtain ⟨v2, vs2, d2, ds2, p2, q2, rfl, rfl, rfl, h2, r2⟩ := trodAll_cons r1
  obtain ⟨rfl, rfl, rfl⟩ := trodAll_nil r2
  obtain rfl : args = #[v0, v1, v2] := by cases args; simp_all
  obtain ⟨rfl, rfl⟩ := trodVars_none hV
  obtain ⟨A0, n0, c0, xs0, L0, rfl, hb0, hn0, hk0, hR0⟩ := see_rows (enc := enc) (W := W) (j := 0) Try.underlying34 (by kernel_rfl : Try.prog.cellsOf 24 = 8) (by kernel_rfl : Try.prog.bytesOf 24 = 24) (by omega) reader_frame (hval 0 34 v0 rfl rfl) h0 hz rfl rfl
  have hc0 := hb0.cap
  obtain ⟨f1, rfl, hw1, hl1⟩ := see_frame (hval 1 24 v1 rfl rfl) h1 (j := 1) hz rfl rfl
  obtain ⟨x2, rfl, wf2⟩ := see_int Try.underlying22 (hval 2 22 v2 rfl rfl) h2
  have bd2 := bounds_u16 wf2
  have hwalk : Calls Try.prog 5 #[.slice A0 n0 c0, .agg (frV f1), .int .u16 x2] W fun e w' => e = .returned (.bool true) ∧ Below W.heap.size W w' := by
    obtain ⟨hs0, hf0⟩ := RdF.of hb0 hn0 hR0
    have hx2 : x2 = ((x2.toNat : Nat) : Int) := by omega
    rw [hx2]
    exact law_FrameBack A0 n0 c0 L0 f1 x2.toNat W hs0 hf0 hw1 hl1 (by omega) (by omega)
  refine hwalk.mono fun e W' ⟨he, bel⟩ => ?_
  subst he
  refine ⟨_, rfl, law_post (bt := 4) rfl hW' laidOut (by kernel_rfl) (by kernel_rfl) Try.underlying4 (fun ds hds => ?_) bel⟩
  rw [Try.params5] at hds
  match ds, hds with
  | [e0, e1, e2], _ => rfl

theorem laid_met (os : Os) : laidMet Try.prog Rows.frameBackRow.laid ((World.holding Try.prog os ⟨#[], #[], []⟩).forCall (fun _ _ => 0) ⟨#[], #[.slice none 0 0, .agg #[.bool false, .bool false, .bool false, .bool false, .int .u8 0, .int .u8 0, .int .u16 0, .string ⟨#[]⟩], .int .u16 0], []⟩).memory := laidMet_of_run' 8 (by kernel_rfl) (by kernel_rfl)
theorem reads (os : Os) {H : Type} (enc : TypeId × Value → H) : ∃ places, DataW.whole enc Try.prog ((World.holding Try.prog os ⟨#[], #[], []⟩).forCall (fun _ _ => 0) ⟨#[], #[.slice none 0 0, .agg #[.bool false, .bool false, .bool false, .bool false, .int .u8 0, .int .u8 0, .int .u16 0, .string ⟨#[]⟩], .int .u16 0], []⟩).memory Try.f5.params.toList Rows.frameBackSpec.vars false (#[.slice none 0 0, .agg #[.bool false, .bool false, .bool false, .bool false, .int .u8 0, .int .u8 0, .int .u16 0, .string ⟨#[]⟩], .int .u16 0] : Array Value).toList 8 = some ([.nil, .agg [.lit (.bool false), .lit (.bool false), .lit (.bool false), .lit (.bool false), .lit (.int .u8 0), .lit (.int .u8 0), .lit (.int .u16 0), .lit (.string [])], .lit (.int .u16 0)], [], places) :=
  ⟨[], by kernel_rfl⟩

set_option maxRecDepth 100000 in
theorem lifted (os : Os) (started : os.Started) (H : Type) (enc : TypeId × Value → H) (F : Stop.Interp) :
    ReturnsInHanded {} Try.checked os 5 .any ((OpenSpec.ofChange Rows.frameBackSpec).preRow enc Try.prog Try.f5 Rows.frameBackRow.domain false Rows.frameBackRow.laid) (((OpenSpec.ofChange Rows.frameBackSpec).at F).post enc Try.prog Try.f5 false true false false) := by
  obtain ⟨places, hx⟩ := reads os enc
  refine returnsInHanded_of_row (C := Try.checked) (s := OpenSpec.ofChange Rows.frameBackSpec) own started (by kernel_rfl) Try.func5
    (witness_row_at (enc := enc) (C := Try.checked) false (World.holding Try.prog os ⟨#[], #[], []⟩) #[.slice none 0 0, .agg #[.bool false, .bool false, .bool false, .bool false, .int .u8 0, .int .u8 0, .int .u16 0, .string ⟨#[]⟩], .int .u16 0] rfl (by kernel_rfl) (by kernel_rfl) (by kernel_rfl)
      (OpenSpec.preRow_of_cond 8 hx (by kernel_rfl) (fun k hk => by cases hk) (by kernel_rfl) (laid_met os))) ?_
  intro W base args ds gs before hval hW _ hcond hz hL hsh _
  exact contract H enc W base args ds gs before hval hW hz hsh

theorem said : Rows.FrameBackSaid :=
  OpenClaim.holds_of_cond 5 Try.f5 rfl rfl rfl rfl rfl rfl rfl ⟨rfl, rfl, rfl, rfl, rfl⟩ rfl rfl rfl rfl rfl (by kernel_rfl) Try.func5 (by kernel_rfl)
    (of_decide_eq_true (by kernel_rfl)) (by unfold Func.isWrapper; first | (rw [if_pos (by decide +kernel)]; kernel_rfl) | (rw [if_neg (by decide +kernel)]; exact ⟨rfl, rfl⟩))
    (fun os started H enc _ F => by rw [OpenClaim.pre_eq_preRow]; exact lifted os started H enc F)
end Go.Proofs.Ytgjdpgihehpecaa.frameBack

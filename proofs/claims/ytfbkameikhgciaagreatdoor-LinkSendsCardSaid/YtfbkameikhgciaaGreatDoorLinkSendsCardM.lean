/- LinkSends: the statement: for every input that the form speaks of the law returns true, and the input reads as it did. The listed variable is tied to the text by the given card. -/
import Derived.Test.YtfbkameikhgciaaGreatDoorMh00
import Derived.Test.YtfbkameikhgciaaGreatDoorMh01
import Derived.Test.YtfbkameikhgciaaGreatDoorMh03
import Derived.Test.YtfbkameikhgciaaGreatDoorMh12
set_option linter.all false
set_option linter.unusedSimpArgs false
set_option linter.unusedVariables false
namespace Go.Proofs.YtfbkameikhgciaaGreatDoor.linkSends
open Go.PH Go.RowKit Go.ChangeShapes Go.WideShapes Go.ChangeAt
open Go.ChangeMaps (open_string shut_string)

set_option maxRecDepth 20000 in
theorem contract (H : Type) (enc : TypeId × Value → H) (W : World) (base : Nat) (args : Array Value) (ds gs : List (DataW H)) (before : List MemPlace)
    (hval : ∀ (j : Nat) t v, Tryz.f6.params[j]? = some t → args[j]? = some v → Value.okWide Tryz.prog W .any base t v)
    (hW : DataW.Whole enc Tryz.prog Tryz.f6.params.toList Rows.linkSendsSpec.vars false W args.toList ds gs before)
    (hz : (DataW.weightsEach Tryz.prog (Tryz.f6.params.toList ++ (OpenSpec.ofChange Rows.linkSendsSpec).bare.plain.varTypes Tryz.prog) (ds ++ gs)).all (· ≤ reachBytes) = true) (hL : laidMetH Tryz.prog Rows.linkSendsRow.laid W) (hsh : W.ShapedOpen Tryz.prog) :
    Calls Tryz.prog 6 args W fun e W' => ∃ v, e = .returned v ∧ Rows.linkSendsSpec.post enc Tryz.prog Tryz.f6 false true false false W args v W' := by
  have hW' := hW
  obtain ⟨p, q, hA0, hV, rfl, hfz, hnd⟩ := hW
  have hA : DataW.TrodAll enc Tryz.prog W 0 (fun _ => true) true Tryz.f6.params.toList args.toList ds p := hA0
  rw [Tryz.params6] at hA hval hz
  obtain ⟨v0, vs0, d0, ds0, p0, q0, hargs, rfl, rfl, h0, r0⟩ := trodAll_cons hA
  obtain ⟨v1, vs1, d1, ds1, p1, q1, rfl, rfl, rfl, h1, r1⟩ := trodAll_cons r0
  obtain ⟨v2, vs2, d2, ds2, p2, q2, rfl, rfl, rfl, h2, r2⟩ := trodAll_cons r1
  obtain ⟨rfl, rfl, rfl⟩ := trodAll_nil r2
  obtain rfl : args = #[v0, v1, v2] := by cases args; simp_all
  obtain ⟨rfl, rfl⟩ := trodVars_none hV
  obtain ⟨A0, n0, c0, xs0, L0, rfl, hb0, hn0, hk0, hR0⟩ := za0 (enc := enc) (W := W) (j := 0) Tryz.underlying22 (by kernel_rfl : Tryz.prog.cellsOf 9 = 1) (by kernel_rfl : Tryz.prog.bytesOf 9 = 16) (by omega) (Yd Tryz.underlying9) (hval 0 22 v0 rfl rfl) h0 hz rfl rfl
  have hc0 := hb0.cap
  obtain ⟨a1, A1, n1, c1, rfl, hw1, hl1, hr1, hn1⟩ := zdB (hval 1 42 v1 rfl rfl) h1 (j := 1) hz rfl rfl
  obtain ⟨s2, rfl, hd2, _, hs2⟩ := open_string Tryz.underlying9 (hval 2 9 v2 rfl rfl) h2
  have hr2 : s2.size ≤ 140737488351232 := by have := sized_string (j := 2) (bytes := s2.data.toList) hz rfl (by simp [hd2]); simpa [reachBytes] using this
  have he : MEnv W := env hL hsh
  have hwalk : Calls Tryz.prog 6 #[.slice A0 n0 c0, .agg (asV a1.chan a1.track A1 n1 c1), .string s2] W fun e w' => e = .returned (.bool true) ∧ Below W.heap.size W w' := by
    obtain ⟨t0, f0⟩ := zcm (by rw [hb0.len, hn0]) hR0
    subst t0
    have hx := YG A0 n0 c0 L0 a1 A1 n1 c1 s2.data.toList W he (utabs hL) hb0 f0 (by omega) hr1 hw1 hl1 hn1 (by simpa using hr2)
    rw [zc3] at hx
    exact hx
  refine hwalk.mono fun e W' ⟨he, bel⟩ => ?_
  subst he
  refine ⟨_, rfl, zaW (bt := 4) rfl hW' laidOut (by kernel_rfl) (by kernel_rfl) Tryz.underlying4 (fun ds hds => ?_) bel⟩
  rw [Tryz.params6] at hds
  match ds, hds with
  | [e0, e1, e2], _ => rfl

theorem laid_met (os : Os) : laidMet Tryz.prog Rows.linkSendsRow.laid ((wit os).forCall (fun _ _ => 0) ⟨#[], #[.slice none 0 0, .agg #[.int .u16 0, .int .u8 0, .slice none 0 0], .string ⟨#[]⟩], []⟩).memory := utf_met os _
theorem reads (os : Os) {H : Type} (enc : TypeId × Value → H) : ∃ places, DataW.whole enc Tryz.prog ((wit os).forCall (fun _ _ => 0) ⟨#[], #[.slice none 0 0, .agg #[.int .u16 0, .int .u8 0, .slice none 0 0], .string ⟨#[]⟩], []⟩).memory Tryz.f6.params.toList Rows.linkSendsSpec.vars false (#[.slice none 0 0, .agg #[.int .u16 0, .int .u8 0, .slice none 0 0], .string ⟨#[]⟩] : Array Value).toList 8 = some ([.nil, .agg [.lit (.int .u16 0), .lit (.int .u8 0), .nil], .lit (.string [])], [], places) :=
  ⟨[], by kernel_rfl⟩

set_option maxRecDepth 100000 in
theorem lifted (os : Os) (started : os.Started) (H : Type) (enc : TypeId × Value → H) (F : Stop.Interp) :
    ReturnsInHanded {} Tryz.checked os 6 .any ((OpenSpec.ofChange Rows.linkSendsSpec).preRow enc Tryz.prog Tryz.f6 Rows.linkSendsRow.domain false Rows.linkSendsRow.laid) (((OpenSpec.ofChange Rows.linkSendsSpec).at F).post enc Tryz.prog Tryz.f6 false true false false) := by
  obtain ⟨places, hx⟩ := reads os enc
  refine returnsInHanded_of_row (C := Tryz.checked) (s := OpenSpec.ofChange Rows.linkSendsSpec) own started (by kernel_rfl) Tryz.func6
    (witness_row_at (enc := enc) (C := Tryz.checked) false (wit os) #[.slice none 0 0, .agg #[.int .u16 0, .int .u8 0, .slice none 0 0], .string ⟨#[]⟩] rfl (by kernel_rfl) (by kernel_rfl) (by kernel_rfl)
      (OpenSpec.preRow_of_cond 8 hx (by kernel_rfl) (fun k hk => by cases hk) (by kernel_rfl) (laid_met os))) ?_
  intro W base args ds gs before hval hW _ hcond hz hL hsh _
  exact contract H enc W base args ds gs before hval hW hz hL hsh

theorem said : Rows.LinkSendsSaid :=
  OpenClaim.holds_of_cond 6 Tryz.f6 rfl rfl rfl rfl rfl rfl rfl ⟨rfl, rfl, rfl, rfl, rfl⟩ rfl rfl rfl rfl rfl (by kernel_rfl) Tryz.func6 (by kernel_rfl)
    (of_decide_eq_true (by kernel_rfl)) (by unfold Func.isWrapper; first | (rw [if_pos (by decide +kernel)]; kernel_rfl) | (rw [if_neg (by decide +kernel)]; exact ⟨rfl, rfl⟩))
    (fun os started H enc _ F => by rw [OpenClaim.pre_eq_preRow]; exact lifted os started H enc F)

theorem plain (f : FuncId) (fn : Func) (hf : Tryz.pinned.checked.prog.funcNamed "posthouse/posthouselaw22.LinkSends" = some f) (hfn : Tryz.pinned.checked.prog.funcs[f]? = some fn) :
    true = Tryz.pinned.checked.prog.looks [] ∧ ∀ (j : Nat) t, fn.params[j]? = some t → Tryz.pinned.checked.prog.wantsStandIn t = false := by
  obtain rfl : f = 6 := Option.some.inj ((show Tryz.prog.funcNamed "posthouse/posthouselaw22.LinkSends" = some 6 by kernel_rfl).symm.trans hf) |>.symm
  obtain rfl : fn = Tryz.f6 := (Option.some.inj (Tryz.func6.symm.trans hfn)).symm
  refine ⟨by kernel_rfl, fun j t ht => ?_⟩
  rw [Tryz.params6] at ht
  have hm := Array.mem_of_getElem? ht
  simp only [List.mem_toArray, List.mem_cons, List.not_mem_nil, or_false] at hm
  rcases hm with rfl | rfl | rfl
  · exact (show Tryz.prog.wantsStandIn 22 = false by kernel_rfl)
  · exact (show Tryz.prog.wantsStandIn 42 = false by kernel_rfl)
  · exact (show Tryz.prog.wantsStandIn 9 = false by kernel_rfl)
theorem card : Rows.LinkSendsCardSaid :=
  Claim7.holds_tied_plain_at .later [] _ _ _ _ said (fun _ h => by cases h) (by kernel_rfl) (fun _ h => by cases h) linkSends_row_tie rfl ⟨rfl, rfl⟩ (by kernel_rfl) rfl plain (by kernel_rfl)
end Go.Proofs.YtfbkameikhgciaaGreatDoor.linkSends


/- XidBackUpto: the statement: for every input that the form speaks of (of bulk at most what the second form says) the law returns true, and the input reads as it did. The listed variable is tied to the text by the given card. -/
import Derived.Test.YtokfnonjmacpgaaDoorXdLawBack
import Derived.Test.YtokfnonjmacpgaaDoorRow
import Derived.Test.YtokfnonjmacpgaaDoorXdSee
import Derived.Test.YtokfnonjmacpgaaDoorUptoBytes
import Derived.Test.YtokfnonjmacpgaaDoorXdTab
set_option linter.all false
set_option linter.unusedSimpArgs false
set_option linter.unusedVariables false
namespace Go.Proofs.YtokfnonjmacpgaaDoor.xidBackUpto
open Go.PH Go.RowKit Go.ChangeShapes Go.WideShapes Go.ChangeAt
open Go.ChangeMaps (open_string shut_string)

set_option maxRecDepth 20000 in
theorem contract (H : Type) (enc : TypeId × Value → H) (W : World) (base : Nat) (args : Array Value) (ds gs : List (DataW H)) (before : List MemPlace)
    (hval : ∀ (j : Nat) t v, Tryd.f9.params[j]? = some t → args[j]? = some v → Value.okWide Tryd.prog W .any base t v)
    (hW : DataW.Whole enc Tryd.prog Tryd.f9.params.toList Rows.xidBackSpec.vars false W args.toList ds gs before)
    (hk : Rows.uptoSmall H (ds ++ gs) = true)
    (hz : (DataW.weightsEach Tryd.prog (Tryd.f9.params.toList ++ (Rows.OpenSpec.upto Rows.xidBackSpec).bare.plain.varTypes Tryd.prog) (ds ++ gs)).all (· ≤ reachBytes) = true) (hL : laidMetH Tryd.prog Rows.xidBackUptoRow.laid W) (hsh : W.ShapedOpen Tryd.prog) :
    Calls Tryd.prog 9 args W fun e W' => ∃ v, e = .returned v ∧ Rows.xidBackSpec.post enc Tryd.prog Tryd.f9 false true false false W args v W' := by
  have hW' := hW
  obtain ⟨p, q, hA0, hV, rfl, hfz, hnd⟩ := hW
  have hA : DataW.TrodAll enc Tryd.prog W 0 (fun _ => true) true Tryd.f9.params.toList args.toList ds p := hA0
  rw [Tryd.params9] at hA hval hz
  obtain ⟨v0, vs0, d0, ds0, p0, q0, hargs, rfl, rfl, h0, r0⟩ := trodAll_cons hA
  obtain ⟨v1, vs1, d1, ds1, p1, q1, rfl, rfl, rfl, h1, r1⟩ := trodAll_cons r0
  obtain ⟨v2, vs2, d2, ds2, p2, q2, rfl, rfl, rfl, h2, r2⟩ := trodAll_cons r1
  obtain ⟨rfl, rfl, rfl⟩ := trodAll_nil r2
  obtain rfl : args = #[v0, v1, v2] := by cases args; simp_all
  obtain ⟨rfl, rfl⟩ := trodVars_none hV
  obtain ⟨x0, rfl, hx0⟩ := see_xid (hval 0 24 v0 rfl rfl) h0 (j := 0) hz rfl rfl
  obtain ⟨A1, n1, c1, l1, rfl, hb1, hn1⟩ := see_bytes Tryd.underlying37 Tryd.underlying5 (by kernel_rfl) (by kernel_rfl) (hval 1 37 v1 rfl rfl) h1 (fun elems spare hd => sized_slice (j := 1) hz rfl (by simp [hd]) Tryd.underlying37)
  have hc1 := hb1.cap
  obtain ⟨s2, rfl, hd2, _, hs2⟩ := open_string Tryd.underlying9 (hval 2 9 v2 rfl rfl) h2
  have hr2 : s2.size ≤ 140737488351232 := by have := sized_string (j := 2) (bytes := s2.data.toList) hz rfl (by simp [hd2]); simpa [reachBytes] using this
  have he : XEnv W := env hL hsh
  have hwalk : Calls Tryd.prog 9 #[.agg (xdV x0), .slice A1 n1 c1, .string s2] W fun e w' => e = .returned (.bool true) ∧ Below W.heap.size W w' := by
    simp only [Rows.uptoSmall, Rows.uptoBulkAll, List.append_nil, decide_eq_true_eq] at hk
    have hlb := bulk_bytes Tryd.underlying37 Tryd.underlying5 (by kernel_rfl) h1
    have hsm : s2.data.toList.length + 1 ≤ Rows.uptoBulk d2 := by rw [hd2]; simp [Rows.uptoBulk]
    have hx := law_XidBack x0 A1 n1 c1 l1 s2.data.toList W hx0 hb1 (by omega) (by omega) he
    rw [str_of] at hx
    exact hx
  refine hwalk.mono fun e W' ⟨he, bel⟩ => ?_
  subst he
  refine ⟨_, rfl, law_post (bt := 4) rfl hW' laidOut (by kernel_rfl) (by kernel_rfl) Tryd.underlying4 (fun ds hds => ?_) bel⟩
  rw [Tryd.params9] at hds
  match ds, hds with
  | [e0, e1, e2], _ => rfl

theorem laid_met (os : Os) : laidMet Tryd.prog Rows.xidBackUptoRow.laid ((wit os).forCall (fun _ _ => 0) ⟨#[], #[.agg #[.int .u32 0, .string ⟨#[]⟩, .string ⟨#[]⟩], .slice none 0 0, .string ⟨#[]⟩], []⟩).memory := names_met os _
theorem reads (os : Os) {H : Type} (enc : TypeId × Value → H) : ∃ places, DataW.whole enc Tryd.prog ((wit os).forCall (fun _ _ => 0) ⟨#[], #[.agg #[.int .u32 0, .string ⟨#[]⟩, .string ⟨#[]⟩], .slice none 0 0, .string ⟨#[]⟩], []⟩).memory Tryd.f9.params.toList Rows.xidBackSpec.vars false (#[.agg #[.int .u32 0, .string ⟨#[]⟩, .string ⟨#[]⟩], .slice none 0 0, .string ⟨#[]⟩] : Array Value).toList 8 = some ([.agg [.lit (.int .u32 0), .lit (.string []), .lit (.string [])], .nil, .lit (.string [])], [], places) :=
  ⟨[], by kernel_rfl⟩

set_option maxRecDepth 100000 in
theorem lifted (os : Os) (started : os.Started) (H : Type) (enc : TypeId × Value → H) (F : Stop.Interp) :
    ReturnsInHanded {} Tryd.checked os 9 .any ((Rows.OpenSpec.upto Rows.xidBackSpec).preRow enc Tryd.prog Tryd.f9 Rows.xidBackUptoRow.domain false Rows.xidBackUptoRow.laid) (((Rows.OpenSpec.upto Rows.xidBackSpec).at F).post enc Tryd.prog Tryd.f9 false true false false) := by
  obtain ⟨places, hx⟩ := reads os enc
  refine returnsInHanded_of_row (C := Tryd.checked) (s := Rows.OpenSpec.upto Rows.xidBackSpec) own started (by kernel_rfl) Tryd.func9
    (witness_row_at (enc := enc) (C := Tryd.checked) false (wit os) #[.agg #[.int .u32 0, .string ⟨#[]⟩, .string ⟨#[]⟩], .slice none 0 0, .string ⟨#[]⟩] rfl (by kernel_rfl) (by kernel_rfl) (by kernel_rfl)
      (OpenSpec.preRow_of_cond 8 hx (by kernel_rfl) (fun k hk => by cases hk; kernel_rfl) (by kernel_rfl) (laid_met os))) ?_
  intro W base args ds gs before hval hW _ hcond hz hL hsh _
  exact contract H enc W base args ds gs before hval hW (hcond _ rfl) hz hL hsh

theorem said : Rows.XidBackUptoSaid :=
  OpenClaim.holds_of_cond 9 Tryd.f9 rfl rfl rfl rfl rfl rfl rfl ⟨rfl, rfl, rfl, rfl, rfl⟩ rfl rfl rfl rfl rfl (by kernel_rfl) Tryd.func9 (by kernel_rfl)
    (of_decide_eq_true (by kernel_rfl)) (by unfold Func.isWrapper; first | (rw [if_pos (by decide +kernel)]; kernel_rfl) | (rw [if_neg (by decide +kernel)]; exact ⟨rfl, rfl⟩))
    (fun os started H enc _ F => by rw [OpenClaim.pre_eq_preRow]; exact lifted os started H enc F)

theorem plain (f : FuncId) (fn : Func) (hf : Tryd.pinned.checked.prog.funcNamed "posthouse/posthouselaw04.XidBack" = some f) (hfn : Tryd.pinned.checked.prog.funcs[f]? = some fn) :
    true = Tryd.pinned.checked.prog.looks [] ∧ ∀ (j : Nat) t, fn.params[j]? = some t → Tryd.pinned.checked.prog.wantsStandIn t = false := by
  obtain rfl : f = 9 := Option.some.inj ((show Tryd.prog.funcNamed "posthouse/posthouselaw04.XidBack" = some 9 by kernel_rfl).symm.trans hf) |>.symm
  obtain rfl : fn = Tryd.f9 := (Option.some.inj (Tryd.func9.symm.trans hfn)).symm
  refine ⟨by kernel_rfl, fun j t ht => ?_⟩
  rw [Tryd.params9] at ht
  have hm := Array.mem_of_getElem? ht
  simp only [List.mem_toArray, List.mem_cons, List.not_mem_nil, or_false] at hm
  rcases hm with rfl | rfl | rfl
  · exact (show Tryd.prog.wantsStandIn 24 = false by kernel_rfl)
  · exact (show Tryd.prog.wantsStandIn 37 = false by kernel_rfl)
  · exact (show Tryd.prog.wantsStandIn 9 = false by kernel_rfl)
theorem card : Rows.XidBackUptoCardSaid :=
  Claim7.holds_tied_plain_at .later [] _ _ _ _ said (fun _ h => by cases h) (by kernel_rfl) (fun _ h => by cases h) xidBackUpto_row_tie rfl ⟨rfl, rfl⟩ (by kernel_rfl) rfl plain (by kernel_rfl)
end Go.Proofs.YtokfnonjmacpgaaDoor.xidBackUpto

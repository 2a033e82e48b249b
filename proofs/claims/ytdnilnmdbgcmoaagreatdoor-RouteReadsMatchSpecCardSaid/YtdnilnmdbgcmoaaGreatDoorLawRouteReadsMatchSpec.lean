/- Chapter texts of ours, as far as the claim needs them. -/
import Derived.Test.YtdnilnmdbgcmoaaGreatDoorCards
import Derived.Test.YtdnilnmdbgcmoaaGreatDoorTie
import Derived.Test.YtdnilnmdbgcmoaaGreatDoorBulk
import Derived.Test.YtdnilnmdbgcmoaaGreatDoorRxC
import Derived.Deep.DeepHandedRow
import Derived.Deep.DeepWitnessRowRef
import Derived.Lib.LaidTab
import Derived.Lay
namespace Go.Proofs.YtdnilnmdbgcmoaaGreatDoor
open Go Go.RowKit Go.ChangeShapes Go.WideShapes Go.ChangeAt
set_option linter.unusedVariables false
set_option linter.unusedSectionVars false
set_option linter.unusedSimpArgs false
theorem own_law_RouteReads : ownKnob Tryz.prog.godebug = none := by kernel_rfl
theorem met_law_RouteReads (os : Os) : laidMet Tryz.prog Rows.routeReadsMatchSpecRow.laid ((World.laidAll Tryz.prog os Rows.routeReadsMatchSpecRow.laid).forCall (fun _ _ => 0) ⟨#[], #[.string ⟨#[]⟩], []⟩).memory := laidMet_laidAll _ (by kernel_rfl) (by kernel_rfl)
theorem reads_law_RouteReads (os : Os) {H : Type} (enc : TypeId × Value → H) : ∃ places, DataW.whole enc Tryz.prog ((World.laidAll Tryz.prog os Rows.routeReadsMatchSpecRow.laid).forCall (fun _ _ => 0) ⟨#[], #[.string ⟨#[]⟩], []⟩).memory Tryz.f9.params.toList Rows.routeReadsMatchSpecSpec.vars false ((#[.string ⟨#[]⟩] : Array Value).toList) 8 = some ([.lit (.string [])], [], places) :=
  ⟨[], by kernel_rfl⟩
set_option maxRecDepth 100000 in
set_option maxHeartbeats 1000000 in
theorem lifted_law_RouteReads (os : Os) (started : os.Started) (H : Type) (enc : TypeId × Value → H) (F : Stop.Interp) :
    ReturnsInHanded {} Tryz.checked os 9 .any ((OpenSpec.ofChange Rows.routeReadsMatchSpecSpec).preRow enc Tryz.prog Tryz.f9 Rows.routeReadsMatchSpecRow.domain false Rows.routeReadsMatchSpecRow.laid) (((OpenSpec.ofChange Rows.routeReadsMatchSpecSpec).at F).post enc Tryz.prog Tryz.f9 false true false false) := by
  obtain ⟨places, hx⟩ := reads_law_RouteReads os enc
  refine returnsInHanded_of_row (C := Tryz.checked) (s := (OpenSpec.ofChange Rows.routeReadsMatchSpecSpec)) own_law_RouteReads started (by kernel_rfl) Tryz.func9
    (witness_row_atRef (enc := enc) (C := Tryz.checked) false (World.laidAll Tryz.prog os Rows.routeReadsMatchSpecRow.laid) #[.string ⟨#[]⟩] (World.laidAll_os _ _ _) (by kernel_rfl) (by kernel_rfl) (by kernel_rfl)
      (OpenSpec.preRow_of_cond 8 hx (by kernel_rfl) (fun k hk => by cases hk) (by kernel_rfl) (met_law_RouteReads os))) ?_
  intro W base args ds gs before hval0 hW hcnd0 hcond hreach0 _ _ _
  clear hcnd0
  have hval : ∀ (j : Nat) t v, Tryz.f9.params[j]? = some t → args[j]? = some v → Value.okWide Tryz.prog W .any base t v := hval0
  have hW' := hW
  obtain ⟨p, q, hA0, hV, hpq, hfz, hnd⟩ := hW
  have hA : DataW.TrodAll enc Tryz.prog W 0 (fun _ => true) true Tryz.f9.params.toList args.toList ds p := hA0
  have hA1 := hA
  rw [Tryz.params9] at hA hval
  obtain ⟨v0, vs0, d0, ds0, p0, q0, hargs, rfl, hp0, h0, r0⟩ := trodAll_cons hA
  obtain ⟨rfl, rfl, hq1⟩ := trodAll_nil r0
  obtain rfl : args = #[v0] := by cases args; simp_all
  obtain ⟨rfl, rfl⟩ := trodVars_none hV
  obtain ⟨fuel0, hf0⟩ := h0
  obtain ⟨y0, e0, f0, b0⟩ := (datB_str Tryz.underlying9) hf0
  obtain ⟨s0, rfl, _, _, w0⟩ := Go.ChangeMaps.open_string Tryz.underlying9 (hval 0 9 v0 rfl rfl) ⟨fuel0, hf0⟩
  have e0' : (Value.cells (.string s0)).toList = [.string (ba y0)] := e0
  obtain rfl : s0 = ba y0 := by have h := congrArg (fun l => l[0]?) e0'; simpa [Value.cells] using h
  refine Calls.mono (R_law_RouteReads y0 W  _ (law_RouteReads_true y0 )) ?_
  rintro e W' ⟨v, rfl, r, rfl, hr, hs⟩
  subst hr
  exact ⟨_, rfl, law_post (s := Rows.routeReadsMatchSpecSpec) (tb := 4) (by kernel_rfl) (by rw [Tryz.params9]; intro t ht; simp only [List.mem_cons, List.not_mem_nil, or_false] at ht; subst ht <;> exact ⟨by kernel_rfl, by decide⟩) hW' hA1 (by rw [hpq, List.append_nil]) rfl rfl rfl rfl rfl (by kernel_rfl) Tryz.underlying4 hs⟩
theorem said_law_RouteReads : Rows.RouteReadsMatchSpecSaid :=
  OpenClaim.holds_of_cond 9 Tryz.f9 rfl rfl rfl rfl rfl rfl rfl ⟨rfl, rfl, rfl, rfl, rfl⟩ rfl rfl rfl rfl rfl (by kernel_rfl) Tryz.func9 (by kernel_rfl)
    (of_decide_eq_true (by kernel_rfl)) (by unfold Func.isWrapper; first | (rw [if_pos (by decide +kernel)]; kernel_rfl) | (rw [if_neg (by decide +kernel)]; exact ⟨rfl, rfl⟩))
    (fun os started H enc _ F => by rw [OpenClaim.pre_eq_preRow]; exact lifted_law_RouteReads os started H enc F)
theorem plain_law_RouteReads (f : FuncId) (fn : Func) (hf : Tryz.pinned.checked.prog.funcNamed "etchhouse/etchhouselaw7.RouteReadsMatchSpec" = some f) (hfn : Tryz.pinned.checked.prog.funcs[f]? = some fn) :
    true = Tryz.pinned.checked.prog.looks [] ∧ ∀ (j : Nat) t, fn.params[j]? = some t → Tryz.pinned.checked.prog.wantsStandIn t = false := by
  obtain rfl : f = 9 := Option.some.inj ((show Tryz.prog.funcNamed "etchhouse/etchhouselaw7.RouteReadsMatchSpec" = some 9 by kernel_rfl).symm.trans hf) |>.symm
  obtain rfl : fn = Tryz.f9 := (Option.some.inj (Tryz.func9.symm.trans hfn)).symm
  refine ⟨by kernel_rfl, fun j t ht => ?_⟩
  rw [Tryz.params9] at ht
  have hm := Array.mem_of_getElem? ht
  simp only [List.mem_toArray, List.mem_cons, List.not_mem_nil, or_false] at hm
  subst hm
  · exact (show Tryz.prog.wantsStandIn 9 = false by kernel_rfl)
theorem proved_law_RouteReads : Rows.RouteReadsMatchSpecCardSaid :=
  Claim7.holds_tied_plain_at .later [] _ _ _ _ said_law_RouteReads (fun _ h => by cases h) (by kernel_rfl) (fun _ h => by cases h) routeReadsMatchSpec_row_tie rfl ⟨rfl, rfl⟩ (by kernel_rfl) rfl plain_law_RouteReads (by kernel_rfl)
end Go.Proofs.YtdnilnmdbgcmoaaGreatDoor

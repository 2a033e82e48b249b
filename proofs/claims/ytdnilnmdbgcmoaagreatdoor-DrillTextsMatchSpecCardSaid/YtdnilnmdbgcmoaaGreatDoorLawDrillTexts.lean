/- The text of jobs is as specified, with all errors, and is read as them: the row and the card. For every input that can be read as data; no condition. -/
import Derived.Test.YtdnilnmdbgcmoaaGreatDoorLawDrillTextsA
import Derived.Test.YtdnilnmdbgcmoaaGreatDoorLawDrillTextsB
import Derived.Test.YtdnilnmdbgcmoaaGreatDoorCards
import Derived.Test.YtdnilnmdbgcmoaaGreatDoorTie
import Derived.Lay
namespace Go.Proofs.YtdnilnmdbgcmoaaGreatDoor
open Go Go.RowKit Go.ChangeShapes Go.WideShapes Go.ChangeAt
set_option linter.unusedVariables false

theorem said_law_DrillTexts : Rows.DrillTextsMatchSpecSaid :=
  OpenClaim.holds_of_cond 7 Tryz.f7 rfl rfl rfl rfl rfl rfl rfl ⟨rfl, rfl, rfl, rfl, rfl⟩ rfl rfl rfl rfl rfl (by kernel_rfl) Tryz.func7 closed_law_DrillTexts
    (of_decide_eq_true (by kernel_rfl)) (by unfold Func.isWrapper; first | (rw [if_pos (by decide +kernel)]; kernel_rfl) | (rw [if_neg (by decide +kernel)]; exact ⟨rfl, rfl⟩))
    (fun os started H enc _ F => by rw [OpenClaim.pre_eq_preRow]; exact lifted_law_DrillTexts os started H enc F)
theorem plain_law_DrillTexts (f : FuncId) (fn : Func) (hf : Tryz.pinned.checked.prog.funcNamed "etchhouse/etchhouselaw8.DrillTextsMatchSpec" = some f) (hfn : Tryz.pinned.checked.prog.funcs[f]? = some fn) :
    true = Tryz.pinned.checked.prog.looks [] ∧ ∀ (j : Nat) t, fn.params[j]? = some t → Tryz.pinned.checked.prog.wantsStandIn t = false := by
  obtain rfl : f = 7 := Option.some.inj ((show Tryz.prog.funcNamed "etchhouse/etchhouselaw8.DrillTextsMatchSpec" = some 7 by kernel_rfl).symm.trans hf) |>.symm
  obtain rfl : fn = Tryz.f7 := (Option.some.inj (Tryz.func7.symm.trans hfn)).symm
  refine ⟨by kernel_rfl, fun j t ht => ?_⟩
  rw [Tryz.params7] at ht
  have hm := Array.mem_of_getElem? ht
  simp only [List.mem_toArray, List.mem_cons, List.not_mem_nil, or_false] at hm
  rcases hm with rfl | rfl
  · exact (show Tryz.prog.wantsStandIn 35 = false by kernel_rfl)
  · exact (show Tryz.prog.wantsStandIn 36 = false by kernel_rfl)
theorem proved_law_DrillTexts : Rows.DrillTextsMatchSpecCardSaid :=
  Claim7.holds_tied_plain_at .later [] _ _ _ _ said_law_DrillTexts (fun _ h => by cases h) (by kernel_rfl) (fun _ h => by cases h) drillTextsMatchSpec_row_tie rfl ⟨rfl, rfl⟩ (by kernel_rfl) rfl plain_law_DrillTexts (by kernel_rfl)
end Go.Proofs.YtdnilnmdbgcmoaaGreatDoor

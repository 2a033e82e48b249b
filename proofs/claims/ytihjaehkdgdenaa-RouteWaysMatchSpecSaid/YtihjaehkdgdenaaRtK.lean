/- Chapter 7: the law on the checks of ways: plain law. -/
import Derived.Test.YtihjaehkdgdenaaRtJ
import Derived.Test.YtihjaehkdgdenaaRtL
namespace Go.Proofs.Ytihjaehkdgdenaa
open Go Go.RowKit
set_option linter.unusedVariables false

theorem law_ways (g : Grid) (c : Costs) (w : List Cell) : M_law_Ways g c w (· = true) := by
  unfold M_law_Ways
  refine S_CostOf (S_ref_CostOf (S_CheckGrid (S_ref_CheckGrid ?_)))
  rw [show (gridF g == gridF g) = true from beq_self_eq_true _]; simp only [cnd_true]
  refine S_CheckCosts (S_ref_CheckCosts ?_)
  rw [show (costsF c == costsF c) = true from beq_self_eq_true _]; simp only [cnd_true]
  refine S_CheckWay (S_ref_CheckWay ?_)
  simp only [beq_self_eq_true, cnd_true]
  exact S_awake rfl
end Go.Proofs.Ytihjaehkdgdenaa

/- Chapter 7: the least tree: the plain law. -/
import Derived.Test.YtihjaehkdgdenaaRtZ2
import Derived.Test.YtihjaehkdgdenaaRtX3
import Derived.Test.YtihjaehkdgdenaaRtJ
namespace Go.Proofs.Ytihjaehkdgdenaa
open Go Go.RowKit
set_option linter.unusedVariables false

theorem law_leastTree (g : Grid) (c : Costs) (pins : List Cell) : M_law_LeastTree g c pins (· = true) := by
  unfold M_law_LeastTree
  have fin : ∀ (n : Int) (is : Bool) (f : Int), cnd (f == f) (cnd (n == n) (cnd (is == is) (M_route_awake fun y7 => y7 = true) (false = true)) (false = true)) (false = true) := fun n is f => by
    simp only [beq_self_eq_true, cnd_true]; exact S_awake rfl
  refine S_route_LeastTree (fun e => S_ref_LeastTree (fun _ => fin _ _ _) (fun e2 => absurd e2 e)) (fun e T hD hT d hd => ⟨fun h1 => ?_, fun h1 => ?_⟩)
  · refine S_ref_LeastTree (fun e2 => absurd e e2) (fun _ T' hD' hT' d' hd' => ?_)
    have hne : 0 < pins.length := by
      unfold leastTF at e
      split at e
      · rename_i e9; exact absurd e e9
      · exact (pinsF_zero e).1
    have hK : 1 < 2 ^ pins.length := Nat.one_lt_two_pow (by omega)
    rw [← hD.eq hD' (2 ^ pins.length - 1) (by omega) (by omega), hd] at hd'
    injection hd' with hd'; subst hd'
    exact ⟨fun _ => fin _ _ _, fun h2 => by omega⟩
  · refine S_ref_LeastTree (fun e2 => absurd e e2) (fun _ T' hD' hT' d' hd' => ?_)
    have hne : 0 < pins.length := by
      unfold leastTF at e
      split at e
      · rename_i e9; exact absurd e e9
      · exact (pinsF_zero e).1
    have hK : 1 < 2 ^ pins.length := Nat.one_lt_two_pow (by omega)
    rw [← hD.eq hD' (2 ^ pins.length - 1) (by omega) (by omega), hd] at hd'
    injection hd' with hd'; subst hd'
    exact ⟨fun h2 => by omega, fun _ => fin _ _ _⟩
end Go.Proofs.Ytihjaehkdgdenaa

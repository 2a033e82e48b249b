/- Chapter 7: the least way: the plain law. -/
import Derived.Test.YtihjaehkdgdenaaRtT2
import Derived.Test.YtihjaehkdgdenaaRtU2
import Derived.Test.YtihjaehkdgdenaaRtJ
namespace Go.Proofs.Ytihjaehkdgdenaa
open Go Go.RowKit
set_option linter.unusedVariables false
set_option linter.unusedSimpArgs false

theorem S_equal_cell {l : List Cell} {Q : Bool → Prop} (h : Q true) : M_equal_cell l l Q := by
  unfold M_equal_cell
  rw [show (((l.length : Int)) != (l.length : Int)) = false from bne_self_eq_false _]
  simp only [cnd_false]
  refine forIn0 (fun _ _ => True) trivial (fun k x s hx _ next hn => ?_) (fun _ _ => h)
  unfold M_equal_cell_L1
  refine idx_nat hx ?_
  simp only [decide_true, Bool.not_true, cnd_false]
  exact hn _ trivial
theorem law_way (g : Grid) (c : Costs) (a b : Cell) : M_law_Way g c a b (· = true) := by
  unfold M_law_Way
  have fin : ∀ (l : List Cell) (is : Bool) (f : Int), cnd (f == f) (cnd (is == is) (M_equal_cell l l fun y7 => cnd y7 (M_route_awake fun y8 => y8 = true) (false = true)) (false = true)) (false = true) := fun l is f => by
    simp only [beq_self_eq_true, cnd_true]
    refine S_equal_cell ?_
    simp only [cnd_true]; exact S_awake rfl
  refine S_Way (fun e => ?_) (fun e out hT d hd => ⟨fun hneg => ?_, fun hpos l hl => ?_⟩)
  · exact S_ref_Way (fun _ => fin _ _ _) (fun e2 => absurd e2 e)
  · refine S_ref_Way (fun e2 => absurd e e2) (fun _ out' hT' d' hd' => ⟨fun _ => fin _ _ _, fun h2 => ?_⟩)
    have := hT.least.uniq hT'.least
    subst this
    rw [hd] at hd'; injection hd' with hd'; omega
  · refine S_ref_Way (fun e2 => absurd e e2) (fun _ out' hT' d' hd' => ⟨fun h2 => ?_, fun _ l' hl' => ?_⟩)
    · have := hT.least.uniq hT'.least
      subst this
      rw [hd] at hd'; injection hd' with hd'; omega
    · have := hT.least.uniq hT'.least
      subst this
      have := hl.det hl'
      subst this
      exact fin _ _ _
end Go.Proofs.Ytihjaehkdgdenaa

/- Chapter 7: from one cell to another one it costs what it costs back: plain law. -/
import Derived.Test.YtihjaehkdgdenaaRtJ
import Derived.Test.YtihjaehkdgdenaaRtL
import Derived.Test.YtihjaehkdgdenaaWalks
namespace Go.Proofs.Ytihjaehkdgdenaa
open Go Go.RowKit
set_option linter.unusedVariables false

theorem findF_swap (g : Grid) (c : Costs) (a b : Cell) : findF g c [a, b] = findF g c [b, a] := by
  unfold findF
  simp only [List.any_cons, List.any_nil, Bool.or_false]
  rw [Bool.or_comm (!inG g a), Bool.or_comm (decide (a ∈ g.Blocked))]
theorem grC_free {g : Grid} {c : Costs} (hg : GOk g) {a : Cell} (ha : inG g a = true ∧ a ∉ g.Blocked) : numN g a < (grC g c).N ∧ (grC g c).no (numN g a) = false := by
  refine ⟨numN_lt hg.sz ha.1, ?_⟩
  show (noOf g).getD (numN g a) true = false
  rw [List.getD_eq_getElem?_getD, noOf_cell hg ha.1]
  simp [ha.2]
theorem law_both (g : Grid) (c : Costs) (a b : Cell) : M_law_BothWays g c a b (· = true) := by
  unfold M_law_BothWays
  have same : ∀ (x : Int) (y : Bool) (z : Int), cnd (z == z) (cnd (x == x) (cnd (y == y) (M_route_awake fun y7 => y7 = true) (false = true)) (false = true)) (false = true) := fun x y z => by
    simp only [beq_self_eq_true, cnd_true]
    exact S_awake rfl
  refine S_Least (fun e => ?_) (fun e out d hout hd => ?_)
  · refine S_Least (fun e2 => ?_) (fun e2 => absurd e2 (by rw [← findF_swap]; exact e))
    rw [findF_swap g c b a]
    exact same _ _ _
  · refine S_Least (fun e2 => absurd e (by rw [findF_swap]; exact e2)) (fun e2 out' d' hout' hd' => ?_)
    obtain ⟨hg, hc, hl⟩ := findF_zero e
    obtain ⟨na, fa⟩ := grC_free (c := c) hg (hl a (by simp))
    obtain ⟨nb, fb⟩ := grC_free (c := c) hg (hl b (by simp))
    have ed : d = d' := hout.eq hout' (fun k n => by
      rw [Gr.back_iff nb fb, Gr.back_iff na fa]; exact ⟨Gr.Way.rev, Gr.Way.rev⟩) hd hd'
    subst ed
    exact same _ _ _
end Go.Proofs.Ytihjaehkdgdenaa

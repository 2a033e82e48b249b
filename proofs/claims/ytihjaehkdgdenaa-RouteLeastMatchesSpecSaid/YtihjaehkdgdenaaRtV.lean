/- Chapter 7: least costs: the plain law. -/
import Derived.Test.YtihjaehkdgdenaaRtT
import Derived.Test.YtihjaehkdgdenaaRtR2
import Derived.Test.YtihjaehkdgdenaaRtJ
namespace Go.Proofs.Ytihjaehkdgdenaa
open Go Go.RowKit
set_option linter.unusedVariables false
set_option linter.unusedSimpArgs false

theorem findF_one {g : Grid} {c : Costs} {a : Cell} {most : Int} (h : reachF g c a most = 0) : findF g c [a] = 0 := by
  unfold reachF at h
  split at h
  · rename_i e; exact absurd h e
  · rename_i e; simpa using e
theorem law_least (g : Grid) (c : Costs) (a b : Cell) (most : Int) : M_law_Least g c a b most (· = true) := by
  have second : M_law_Least_k1 g c a most (· = true) false := by
    unfold M_law_Least_k1
    simp only [cnd_false]
    refine S_Reach (fun e => ?_) (fun e out hF => ?_)
    · refine S_ref_Reach (fun e2 => ?_) (fun e2 => absurd e2 e)
      simp only [beq_self_eq_true, cnd_true]; exact S_awake rfl
    · refine S_ref_Reach (fun e2 => absurd e e2) (fun e2 best hf => ?_)
      obtain ⟨hg, hc, hl⟩ := findF_zero (findF_one e)
      rw [reachN_congr (fun i hi => reach_same hg hc (hl a (by simp)) hF hf hi)]
      simp only [beq_self_eq_true, cnd_true]; exact S_awake rfl
  unfold M_law_Least
  have fin : ∀ (n : Int) (is : Bool) (f : Int), cnd (f != f) (M_law_Least_k1 g c a most (· = true) true) (cnd (n != n) (M_law_Least_k1 g c a most (· = true) true) (M_law_Least_k1 g c a most (· = true) (!(is == is)))) := fun n is f => by
    simp only [bne_self_eq_false, cnd_false, beq_self_eq_true, Bool.not_true]; exact second
  refine S_Least (fun e => ?_) (fun e out d hout hd => ?_)
  · exact S_ref_Least (fun _ => fin _ _ _) (fun e2 => absurd e2 e)
  · refine S_ref_Least (fun e2 => absurd e e2) (fun _ out' d' hout' hd' => ?_)
    have := hout.uniq hout'
    subst this
    rw [hd] at hd'; injection hd' with hd'; subst hd'
    exact fin _ _ _
end Go.Proofs.Ytihjaehkdgdenaa

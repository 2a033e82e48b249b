/- Chapter texts of ours, as far as the claim needs them. -/
import Derived.Test.YtbegofbmbcghdaaGreatDoorFind
import Derived.Test.YtbegofbmbcghdaaGreatDoorOwn
namespace Go.Proofs.YtbegofbmbcghdaaGreatDoor
open Go Go.RowKit
set_option linter.unusedVariables false
set_option linter.unusedSectionVars false
set_option linter.unusedSimpArgs false
theorem IV {α : Type} {xs : List α} {b : Nat} (hr : room xs.length b) {Q : List α → Prop} (h : Q xs) : RY xs fun b1 => cnd b1 (Q ([] : List α)) (must (room (([] : List α) ++ xs).length b) (Q (([] : List α) ++ xs))) := by
  intro b1 hb
  cases b1
  · rw [jI]; exact ⟨hr, h⟩
  · rw [rD, ← hb rfl]; exact h
end Go.Proofs.YtbegofbmbcghdaaGreatDoor

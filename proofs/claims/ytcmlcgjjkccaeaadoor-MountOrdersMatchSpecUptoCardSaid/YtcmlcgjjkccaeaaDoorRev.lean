/- Chapter texts of ours, as far as the claim needs them. -/
import Derived.Test.YtcmlcgjjkccaeaaDoorFind
import Derived.Test.YtcmlcgjjkccaeaaDoorOwn
namespace Go.Proofs.YtcmlcgjjkccaeaaDoor
open Go Go.RowKit
set_option linter.unusedVariables false
set_option linter.unusedSimpArgs false
theorem clone_step {α : Type} {xs : List α} {b : Nat} (hr : room xs.length b) {Q : List α → Prop} (h : Q xs) : nilq xs fun b1 => cnd b1 (Q ([] : List α)) (must (room (([] : List α) ++ xs).length b) (Q (([] : List α) ++ xs))) := by
  intro b1 hb
  cases b1
  · rw [cnd_false]; exact ⟨hr, h⟩
  · rw [cnd_true, ← hb rfl]; exact h
end Go.Proofs.YtcmlcgjjkccaeaaDoor

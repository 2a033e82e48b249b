/- Chapter texts of ours, as far as the claim needs them. -/
import Derived.Test.YtcmlcgjjkccaeaaDoorPtrs
namespace Go.Proofs.YtcmlcgjjkccaeaaDoor
open Go Go.RowKit
set_option linter.unusedVariables false
set_option linter.unusedSimpArgs false
abbrev Dp := Option Addr × Nat × List (Option Addr × Nat)
class Row2 (α : Type) (β T : outParam Type) [Rep α] [Rep β] [Flat T] where
  inner : α → List β
  sh : α → Option Addr → Nat → T
  rep : ∀ {w F A C z}, View w F A C (inner z) → Rep.rd w F (Flat.enc (sh z A C)) z
  same : Rep.sz α = Flat.sz T
instance instRow2List {β : Type} [Rep β] : Row2 (List β) β Sl := ⟨fun x => x, fun x A C => ⟨A, x.length, C⟩, fun h => ⟨_, _, rfl, h⟩, rfl⟩
end Go.Proofs.YtcmlcgjjkccaeaaDoor

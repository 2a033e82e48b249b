/- The closed facts of the row on the texts of jobs. -/
import Derived.Test.YtdnilnmdbgcmoaaGreatDoorRows
import Derived.JoinedCond
namespace Go.Proofs.YtdnilnmdbgcmoaaGreatDoor
open Go
set_option linter.unusedVariables false

theorem closed_law_DrillTexts : joinedFacts Tryz.pinned.checked.prog 7 Tryz.f7 (OpenSpec.ofChange Rows.drillTextsMatchSpecSpec).bare Rows.drillTextsMatchSpecRow = true := by kernel_rfl

end Go.Proofs.YtdnilnmdbgcmoaaGreatDoor

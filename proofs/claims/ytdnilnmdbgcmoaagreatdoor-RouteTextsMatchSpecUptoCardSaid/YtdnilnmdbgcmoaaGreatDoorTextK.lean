/- Chapter texts of ours, as far as the claim needs them. -/
import Derived.Test.YtdnilnmdbgcmoaaGreatDoorRows
import Derived.Test.YtdnilnmdbgcmoaaGreatDoorBytes
import Derived.LaidSub
import Derived.MakeChecks
namespace Go.Proofs.YtdnilnmdbgcmoaaGreatDoor
open Go Go.RowKit
set_option linter.unusedVariables false
set_option linter.unusedSectionVars false
set_option linter.unusedSimpArgs false
theorem tabIn_of_laid {W : World} {laid : List (String × DataW Unit)} (h : laidMetH Tryz.prog laid W) (e : laid.filter (fun x => x.1 == "internal/strconv.uint64pow10") = [("internal/strconv.uint64pow10", Lib.tabData .u64 Lib.pow10Tab)]) : TabIn Tryz.prog W (old W none_) := by
  have h1 := h.filter (fun x => x.1 == "internal/strconv.uint64pow10")
  rw [e, MakeChecks.laidMetH_plain _ _ _ (by kernel_rfl)] at h1
  exact TabIn.of (Lib.tabIs_of_head (rest := []) (g := 1) (t := 268) (e := 236) (n := 20) (by kernel_rfl) (by kernel_rfl) Tryz.underlying268 Tryz.underlying236 (by kernel_rfl) (by kernel_rfl) h1)
end Go.Proofs.YtdnilnmdbgcmoaaGreatDoor

/- Chapter texts of ours, as far as the claim needs them. -/
import Derived.Test.YtdnilnmdbgcmoaaGreatDoorTextT
import Derived.Shelf.Strings.Builder2
import Derived.Ground.NamesProg
import Derived.Test.YtdnilnmdbgcmoaaGreatDoorProg
import Derived.Test.YtdnilnmdbgcmoaaGreatDoorTextR
namespace Go.Proofs.YtdnilnmdbgcmoaaGreatDoor
open Go Go.RowKit Go.Proofs Go.Shelf
set_option linter.unusedVariables false
set_option linter.unusedSectionVars false
set_option linter.unusedSimpArgs false
def joinS : List Str → Str
  | [] => []
  | x :: r => x ++ r.flatMap (fun y => 32 :: y)
end Go.Proofs.YtdnilnmdbgcmoaaGreatDoor

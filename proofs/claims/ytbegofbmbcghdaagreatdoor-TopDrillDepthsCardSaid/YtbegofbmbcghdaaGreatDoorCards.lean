/-
  DERIVED. GIVEN WITH THE SEED: THE CARDS: each row of YtbegofbmbcghdaaGreatDoorRows.lean that lists a variable, with what it lists TIED to the program's text (the seventh form; the later family's looks); each row that meets fmt, with fmt's text TOLD by the authors' own Lean function (tested against real Go, not proved from fmt's source: count such statements apart). THE CARD IS WHAT COUNTS. Prove the row's statement (the work); the ties are given (YtbegofbmbcghdaaGreatDoorTie.lean); close each card by the builder's one call (the guide's Derived/Test/ToyasCard.lean, 'card_holds'). Laid BY PROGRAM, IN A SANDBOX (cutbox-door.mjs). By AI agents, Wed Nov 11 2026. No macro, syntax, notation, axiom, sorry.
-/
import Derived.Test.YtbegofbmbcghdaaGreatDoorRows
import GoSem.ClaimSeven
namespace Go.Proofs.YtbegofbmbcghdaaGreatDoor
namespace Rows

/-- THE TIED CARD OF 'etchhousetop.TopAllBoresDrilled'. -/
def topAllBoresDrilledCard : Claim7 := { stood := { row := topAllBoresDrilledRow, standIns := [], harness := (true, "7b8a189438eed13257907608d1895edaaf16482a2855c9c4430d97bf534c9384"), looks := false }, kinds := [], alts := [], laidByText := true, laidKinds := [.data, .data, .data, .data, .pinned], laidTests := true, laidLooks := .later }
def TopAllBoresDrilledCardSaid : Prop := Claim7.holds Tryz.pinned (.plain (OpenSpec.ofChange topAllBoresDrilledSpec)) topAllBoresDrilledCard

/-- THE TIED CARD OF 'etchhousetop.TopDrillDepths'. -/
def topDrillDepthsCard : Claim7 := { stood := { row := topDrillDepthsRow, standIns := [], harness := (true, "7b8a189438eed13257907608d1895edaaf16482a2855c9c4430d97bf534c9384"), looks := false }, kinds := [], alts := [], laidByText := true, laidKinds := [.data, .data, .data, .data, .pinned], laidTests := true, laidLooks := .later }
def TopDrillDepthsCardSaid : Prop := Claim7.holds Tryz.pinned (.plain (OpenSpec.ofChange topDrillDepthsSpec)) topDrillDepthsCard

/-- THE SECOND FORM's CARD OF 'etchhousetop.TopAllBoresDrilled'. -/
def topAllBoresDrilledUptoCard : Claim7 := { stood := { row := topAllBoresDrilledUptoRow, standIns := [], harness := (true, "7b8a189438eed13257907608d1895edaaf16482a2855c9c4430d97bf534c9384"), looks := false }, kinds := [], alts := [], laidByText := true, laidKinds := [.data, .data, .data, .data, .pinned], laidTests := true, laidLooks := .later }
def TopAllBoresDrilledUptoCardSaid : Prop := Claim7.holds Tryz.pinned (.plain (OpenSpec.upto topAllBoresDrilledSpec)) topAllBoresDrilledUptoCard

/-- THE SECOND FORM's CARD OF 'etchhousetop.TopDrillDepths'. -/
def topDrillDepthsUptoCard : Claim7 := { stood := { row := topDrillDepthsUptoRow, standIns := [], harness := (true, "7b8a189438eed13257907608d1895edaaf16482a2855c9c4430d97bf534c9384"), looks := false }, kinds := [], alts := [], laidByText := true, laidKinds := [.data, .data, .data, .data, .pinned], laidTests := true, laidLooks := .later }
def TopDrillDepthsUptoCardSaid : Prop := Claim7.holds Tryz.pinned (.plain (OpenSpec.upto topDrillDepthsSpec)) topDrillDepthsUptoCard
end Rows
end Go.Proofs.YtbegofbmbcghdaaGreatDoor

/-
  DERIVED. GIVEN WITH THE SEED: THE CARDS: each row of YtfjcgoiedlimdaaGreatDoorRows.lean that lists a variable, with what it lists TIED to the program's text (the seventh form; the later family's looks); each row that meets fmt, with fmt's text TOLD by the authors' own Lean function (tested against real Go, not proved from fmt's source: count such statements apart). THE CARD IS WHAT COUNTS. Prove the row's statement (the work); the ties are given (YtfjcgoiedlimdaaGreatDoorTie.lean); close each card by the builder's one call (the guide's Derived/Test/ToyasCard.lean, 'card_holds'). Laid BY PROGRAM, IN A SANDBOX (cutbox-door.mjs). By AI agents, Wed Nov 11 2026. No macro, syntax, notation, axiom, sorry.
-/
import Derived.Test.YtfjcgoiedlimdaaGreatDoorRows
import GoSem.ClaimSeven
namespace Go.Proofs.YtfjcgoiedlimdaaGreatDoor
namespace Rows

/-- THE TIED CARD OF 'etchhouselaw7.RouteRoutesMatchSpec'. -/
def routeRoutesMatchSpecCard : Claim7 := { stood := { row := routeRoutesMatchSpecRow, standIns := [], harness := (true, "328fc1af882186ff870307690906717251808d4c1cf6da4ecafedfda023eacde"), looks := true }, kinds := [], alts := [], laidByText := true, laidKinds := [.data, .pinned], laidTests := true, laidLooks := .later }
def RouteRoutesMatchSpecCardSaid : Prop := Claim7.holds Tryz.pinned (.plain (OpenSpec.ofChange routeRoutesMatchSpecSpec)) routeRoutesMatchSpecCard

/-- THE SECOND FORM's CARD OF 'etchhouselaw7.RouteRoutesMatchSpec'. -/
def routeRoutesMatchSpecUptoCard : Claim7 := { stood := { row := routeRoutesMatchSpecUptoRow, standIns := [], harness := (true, "328fc1af882186ff870307690906717251808d4c1cf6da4ecafedfda023eacde"), looks := true }, kinds := [], alts := [], laidByText := true, laidKinds := [.data, .pinned], laidTests := true, laidLooks := .later }
def RouteRoutesMatchSpecUptoCardSaid : Prop := Claim7.holds Tryz.pinned (.plain (OpenSpec.upto routeRoutesMatchSpecSpec)) routeRoutesMatchSpecUptoCard
end Rows
end Go.Proofs.YtfjcgoiedlimdaaGreatDoor

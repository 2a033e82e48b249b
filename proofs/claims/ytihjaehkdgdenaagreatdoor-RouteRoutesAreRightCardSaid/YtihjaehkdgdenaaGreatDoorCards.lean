/-
  DERIVED. GIVEN WITH THE SEED: THE CARDS: each row of YtihjaehkdgdenaaGreatDoorRows.lean that lists a variable, with what it lists TIED to the program's text (the seventh form; the later family's looks); each row that meets fmt, with fmt's text TOLD by the authors' own Lean function (tested against real Go, not proved from fmt's source: count such statements apart). THE CARD IS WHAT COUNTS. Prove the row's statement (the work); the ties are given (YtihjaehkdgdenaaGreatDoorTie.lean); close each card by the builder's one call (the guide's Derived/Test/ToyasCard.lean, 'card_holds'). Laid BY PROGRAM, IN A SANDBOX (cutbox-door.mjs). By AI agents, Wed Nov 11 2026. No macro, syntax, notation, axiom, sorry.
-/
import Derived.Test.YtihjaehkdgdenaaGreatDoorRows
import GoSem.ClaimSeven
namespace Go.Proofs.YtihjaehkdgdenaaGreatDoor
namespace Rows

/-- THE TIED CARD OF 'etchhouselaw7.RouteRoutedMatchesSpec'. -/
def routeRoutedMatchesSpecCard : Claim7 := { stood := { row := routeRoutedMatchesSpecRow, standIns := [], harness := (true, "f55c046e0a4ff91beb545acaf11d367395100836a12aec35b1b39f223ba90850"), looks := true }, kinds := [], alts := [], laidByText := true, laidKinds := [.data, .pinned], laidTests := true, laidLooks := .later }
def RouteRoutedMatchesSpecCardSaid : Prop := Claim7.holds Tryz.pinned (.plain (OpenSpec.ofChange routeRoutedMatchesSpecSpec)) routeRoutedMatchesSpecCard

/-- THE TIED CARD OF 'etchhouselaw7.RouteRoutesMatchSpec'. -/
def routeRoutesMatchSpecCard : Claim7 := { stood := { row := routeRoutesMatchSpecRow, standIns := [], harness := (true, "f55c046e0a4ff91beb545acaf11d367395100836a12aec35b1b39f223ba90850"), looks := true }, kinds := [], alts := [], laidByText := true, laidKinds := [.data, .pinned], laidTests := true, laidLooks := .later }
def RouteRoutesMatchSpecCardSaid : Prop := Claim7.holds Tryz.pinned (.plain (OpenSpec.ofChange routeRoutesMatchSpecSpec)) routeRoutesMatchSpecCard

/-- THE TIED CARD OF 'etchhouselaw7.RouteRoutesAreRight'. -/
def routeRoutesAreRightCard : Claim7 := { stood := { row := routeRoutesAreRightRow, standIns := [], harness := (true, "f55c046e0a4ff91beb545acaf11d367395100836a12aec35b1b39f223ba90850"), looks := true }, kinds := [], alts := [], laidByText := true, laidKinds := [.data, .pinned], laidTests := true, laidLooks := .later }
def RouteRoutesAreRightCardSaid : Prop := Claim7.holds Tryz.pinned (.plain (OpenSpec.ofChange routeRoutesAreRightSpec)) routeRoutesAreRightCard

/-- THE SECOND FORM's CARD OF 'etchhouselaw7.RouteRoutedMatchesSpec'. -/
def routeRoutedMatchesSpecUptoCard : Claim7 := { stood := { row := routeRoutedMatchesSpecUptoRow, standIns := [], harness := (true, "f55c046e0a4ff91beb545acaf11d367395100836a12aec35b1b39f223ba90850"), looks := true }, kinds := [], alts := [], laidByText := true, laidKinds := [.data, .pinned], laidTests := true, laidLooks := .later }
def RouteRoutedMatchesSpecUptoCardSaid : Prop := Claim7.holds Tryz.pinned (.plain (OpenSpec.upto routeRoutedMatchesSpecSpec)) routeRoutedMatchesSpecUptoCard

/-- THE SECOND FORM's CARD OF 'etchhouselaw7.RouteRoutesMatchSpec'. -/
def routeRoutesMatchSpecUptoCard : Claim7 := { stood := { row := routeRoutesMatchSpecUptoRow, standIns := [], harness := (true, "f55c046e0a4ff91beb545acaf11d367395100836a12aec35b1b39f223ba90850"), looks := true }, kinds := [], alts := [], laidByText := true, laidKinds := [.data, .pinned], laidTests := true, laidLooks := .later }
def RouteRoutesMatchSpecUptoCardSaid : Prop := Claim7.holds Tryz.pinned (.plain (OpenSpec.upto routeRoutesMatchSpecSpec)) routeRoutesMatchSpecUptoCard

/-- THE SECOND FORM's CARD OF 'etchhouselaw7.RouteRoutesAreRight'. -/
def routeRoutesAreRightUptoCard : Claim7 := { stood := { row := routeRoutesAreRightUptoRow, standIns := [], harness := (true, "f55c046e0a4ff91beb545acaf11d367395100836a12aec35b1b39f223ba90850"), looks := true }, kinds := [], alts := [], laidByText := true, laidKinds := [.data, .pinned], laidTests := true, laidLooks := .later }
def RouteRoutesAreRightUptoCardSaid : Prop := Claim7.holds Tryz.pinned (.plain (OpenSpec.upto routeRoutesAreRightSpec)) routeRoutesAreRightUptoCard
end Rows
end Go.Proofs.YtihjaehkdgdenaaGreatDoor

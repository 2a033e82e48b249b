/-
  DERIVED. GIVEN WITH THE SEED: THE CARDS: each row of YtihjaehkdgdenaaDoorRows.lean that lists a variable, with what it lists TIED to the program's text (the seventh form; the later family's looks); each row that meets fmt, with fmt's text TOLD by the authors' own Lean function (tested against real Go, not proved from fmt's source: count such statements apart). THE CARD IS WHAT COUNTS. Prove the row's statement (the work); the ties are given (YtihjaehkdgdenaaDoorTie.lean); close each card by the builder's one call (the guide's Derived/Test/ToyasCard.lean, 'card_holds'). Laid BY PROGRAM, IN A SANDBOX (cutbox-door.mjs). By AI agents, Wed Nov 11 2026. No macro, syntax, notation, axiom, sorry.
-/
import Derived.Test.YtihjaehkdgdenaaDoorRows
import GoSem.ClaimSeven
namespace Go.Proofs.YtihjaehkdgdenaaDoor
namespace Rows

/-- THE TIED CARD OF 'etchhouselaw7.RouteBlockedKeepsOut'. -/
def routeBlockedKeepsOutCard : Claim7 := { stood := { row := routeBlockedKeepsOutRow, standIns := [], harness := (true, "dfba8d69dd4070efa1b46e25973d51ba5dced1160620b699f373beb7892a4fc2"), looks := true }, kinds := [], alts := [], laidByText := true, laidKinds := [.data, .pinned], laidTests := true, laidLooks := .later }
def RouteBlockedKeepsOutCardSaid : Prop := Claim7.holds Tryd.pinned (.plain (OpenSpec.ofChange routeBlockedKeepsOutSpec)) routeBlockedKeepsOutCard

/-- THE SECOND FORM's CARD OF 'etchhouselaw7.RouteBlockedKeepsOut'. -/
def routeBlockedKeepsOutUptoCard : Claim7 := { stood := { row := routeBlockedKeepsOutUptoRow, standIns := [], harness := (true, "dfba8d69dd4070efa1b46e25973d51ba5dced1160620b699f373beb7892a4fc2"), looks := true }, kinds := [], alts := [], laidByText := true, laidKinds := [.data, .pinned], laidTests := true, laidLooks := .later }
def RouteBlockedKeepsOutUptoCardSaid : Prop := Claim7.holds Tryd.pinned (.plain (OpenSpec.upto routeBlockedKeepsOutSpec)) routeBlockedKeepsOutUptoCard
end Rows
end Go.Proofs.YtihjaehkdgdenaaDoor

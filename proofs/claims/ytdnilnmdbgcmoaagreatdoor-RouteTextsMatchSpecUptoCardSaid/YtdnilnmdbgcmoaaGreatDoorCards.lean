/-
  DERIVED. GIVEN WITH THE SEED: THE CARDS: each row of YtdnilnmdbgcmoaaGreatDoorRows.lean that lists a variable, with what it lists TIED to the program's text (the seventh form; the later family's looks); each row that meets fmt, with fmt's text TOLD by the authors' own Lean function (tested against real Go, not proved from fmt's source: count such statements apart). THE CARD IS WHAT COUNTS. Prove the row's statement (the work); the ties are given (YtdnilnmdbgcmoaaGreatDoorTie.lean); close each card by the builder's one call (the guide's Derived/Test/ToyasCard.lean, 'card_holds'). Laid BY PROGRAM, IN A SANDBOX (cutbox-door.mjs). By AI agents, Wed Nov 11 2026. No macro, syntax, notation, axiom, sorry.
-/
import Derived.Test.YtdnilnmdbgcmoaaGreatDoorRows
import GoSem.ClaimSeven
namespace Go.Proofs.YtdnilnmdbgcmoaaGreatDoor
namespace Rows

/-- THE TIED CARD OF 'etchhouselaw4.StackReadsMatchSpec'. -/
def stackReadsMatchSpecCard : Claim7 := { stood := { row := stackReadsMatchSpecRow, standIns := [], harness := (true, "ceab874328e1f99c906f6570b5cdf1d4903bcb2a457fc62fc11887ea59560ca9"), looks := true }, kinds := [], alts := [], laidByText := true, laidKinds := [.data, .data, .data, .data, .sentinel, .sentinel, .pinned], laidTests := true, laidLooks := .later }
def StackReadsMatchSpecCardSaid : Prop := Claim7.holds Tryz.pinned (.plain (OpenSpec.ofChange stackReadsMatchSpecSpec)) stackReadsMatchSpecCard

/-- THE TIED CARD OF 'etchhouselaw8.DrillReadsMatchSpec'. -/
def drillReadsMatchSpecCard : Claim7 := { stood := { row := drillReadsMatchSpecRow, standIns := [], harness := (true, "ceab874328e1f99c906f6570b5cdf1d4903bcb2a457fc62fc11887ea59560ca9"), looks := true }, kinds := [], alts := [], laidByText := true, laidKinds := [.data, .data, .data, .data, .sentinel, .sentinel, .pinned], laidTests := true, laidLooks := .later }
def DrillReadsMatchSpecCardSaid : Prop := Claim7.holds Tryz.pinned (.plain (OpenSpec.ofChange drillReadsMatchSpecSpec)) drillReadsMatchSpecCard

/-- THE TIED CARD OF 'etchhouselaw4.StackTextsMatchSpec'. -/
def stackTextsMatchSpecCard : Claim7 := { stood := { row := stackTextsMatchSpecRow, standIns := [], harness := (true, "ceab874328e1f99c906f6570b5cdf1d4903bcb2a457fc62fc11887ea59560ca9"), looks := true }, kinds := [], alts := [], laidByText := true, laidKinds := [.data, .data, .data, .data, .sentinel, .sentinel, .pinned], laidTests := true, laidLooks := .later }
def StackTextsMatchSpecCardSaid : Prop := Claim7.holds Tryz.pinned (.plain (OpenSpec.ofChange stackTextsMatchSpecSpec)) stackTextsMatchSpecCard

/-- THE TIED CARD OF 'etchhouselaw10.MountReadsMatchSpec'. -/
def mountReadsMatchSpecCard : Claim7 := { stood := { row := mountReadsMatchSpecRow, standIns := [], harness := (true, "ceab874328e1f99c906f6570b5cdf1d4903bcb2a457fc62fc11887ea59560ca9"), looks := true }, kinds := [], alts := [], laidByText := true, laidKinds := [.data, .data, .data, .data, .sentinel, .sentinel, .pinned], laidTests := true, laidLooks := .later }
def MountReadsMatchSpecCardSaid : Prop := Claim7.holds Tryz.pinned (.plain (OpenSpec.ofChange mountReadsMatchSpecSpec)) mountReadsMatchSpecCard

/-- THE TIED CARD OF 'etchhouselaw8.DrillTextsMatchSpec'. -/
def drillTextsMatchSpecCard : Claim7 := { stood := { row := drillTextsMatchSpecRow, standIns := [], harness := (true, "ceab874328e1f99c906f6570b5cdf1d4903bcb2a457fc62fc11887ea59560ca9"), looks := true }, kinds := [], alts := [], laidByText := true, laidKinds := [.data, .data, .data, .data, .sentinel, .sentinel, .pinned], laidTests := true, laidLooks := .later }
def DrillTextsMatchSpecCardSaid : Prop := Claim7.holds Tryz.pinned (.plain (OpenSpec.ofChange drillTextsMatchSpecSpec)) drillTextsMatchSpecCard

/-- THE TIED CARD OF 'etchhouselaw10.MountTextsMatchSpec'. -/
def mountTextsMatchSpecCard : Claim7 := { stood := { row := mountTextsMatchSpecRow, standIns := [], harness := (true, "ceab874328e1f99c906f6570b5cdf1d4903bcb2a457fc62fc11887ea59560ca9"), looks := true }, kinds := [], alts := [], laidByText := true, laidKinds := [.data, .data, .data, .data, .sentinel, .sentinel, .pinned], laidTests := true, laidLooks := .later }
def MountTextsMatchSpecCardSaid : Prop := Claim7.holds Tryz.pinned (.plain (OpenSpec.ofChange mountTextsMatchSpecSpec)) mountTextsMatchSpecCard

/-- THE TIED CARD OF 'etchhouselaw7.RouteReadsMatchSpec'. -/
def routeReadsMatchSpecCard : Claim7 := { stood := { row := routeReadsMatchSpecRow, standIns := [], harness := (true, "ceab874328e1f99c906f6570b5cdf1d4903bcb2a457fc62fc11887ea59560ca9"), looks := true }, kinds := [], alts := [], laidByText := true, laidKinds := [.data, .data, .data, .data, .sentinel, .sentinel, .pinned], laidTests := true, laidLooks := .later }
def RouteReadsMatchSpecCardSaid : Prop := Claim7.holds Tryz.pinned (.plain (OpenSpec.ofChange routeReadsMatchSpecSpec)) routeReadsMatchSpecCard

/-- THE TIED CARD OF 'etchhouselaw7.RouteTextsMatchSpec'. -/
def routeTextsMatchSpecCard : Claim7 := { stood := { row := routeTextsMatchSpecRow, standIns := [], harness := (true, "ceab874328e1f99c906f6570b5cdf1d4903bcb2a457fc62fc11887ea59560ca9"), looks := true }, kinds := [], alts := [], laidByText := true, laidKinds := [.data, .data, .data, .data, .sentinel, .sentinel, .pinned], laidTests := true, laidLooks := .later }
def RouteTextsMatchSpecCardSaid : Prop := Claim7.holds Tryz.pinned (.plain (OpenSpec.ofChange routeTextsMatchSpecSpec)) routeTextsMatchSpecCard

/-- THE SECOND FORM's CARD OF 'etchhouselaw4.StackReadsMatchSpec'. -/
def stackReadsMatchSpecUptoCard : Claim7 := { stood := { row := stackReadsMatchSpecUptoRow, standIns := [], harness := (true, "ceab874328e1f99c906f6570b5cdf1d4903bcb2a457fc62fc11887ea59560ca9"), looks := true }, kinds := [], alts := [], laidByText := true, laidKinds := [.data, .data, .data, .data, .sentinel, .sentinel, .pinned], laidTests := true, laidLooks := .later }
def StackReadsMatchSpecUptoCardSaid : Prop := Claim7.holds Tryz.pinned (.plain (OpenSpec.upto stackReadsMatchSpecSpec)) stackReadsMatchSpecUptoCard

/-- THE SECOND FORM's CARD OF 'etchhouselaw8.DrillReadsMatchSpec'. -/
def drillReadsMatchSpecUptoCard : Claim7 := { stood := { row := drillReadsMatchSpecUptoRow, standIns := [], harness := (true, "ceab874328e1f99c906f6570b5cdf1d4903bcb2a457fc62fc11887ea59560ca9"), looks := true }, kinds := [], alts := [], laidByText := true, laidKinds := [.data, .data, .data, .data, .sentinel, .sentinel, .pinned], laidTests := true, laidLooks := .later }
def DrillReadsMatchSpecUptoCardSaid : Prop := Claim7.holds Tryz.pinned (.plain (OpenSpec.upto drillReadsMatchSpecSpec)) drillReadsMatchSpecUptoCard

/-- THE SECOND FORM's CARD OF 'etchhouselaw4.StackTextsMatchSpec'. -/
def stackTextsMatchSpecUptoCard : Claim7 := { stood := { row := stackTextsMatchSpecUptoRow, standIns := [], harness := (true, "ceab874328e1f99c906f6570b5cdf1d4903bcb2a457fc62fc11887ea59560ca9"), looks := true }, kinds := [], alts := [], laidByText := true, laidKinds := [.data, .data, .data, .data, .sentinel, .sentinel, .pinned], laidTests := true, laidLooks := .later }
def StackTextsMatchSpecUptoCardSaid : Prop := Claim7.holds Tryz.pinned (.plain (OpenSpec.upto stackTextsMatchSpecSpec)) stackTextsMatchSpecUptoCard

/-- THE SECOND FORM's CARD OF 'etchhouselaw10.MountReadsMatchSpec'. -/
def mountReadsMatchSpecUptoCard : Claim7 := { stood := { row := mountReadsMatchSpecUptoRow, standIns := [], harness := (true, "ceab874328e1f99c906f6570b5cdf1d4903bcb2a457fc62fc11887ea59560ca9"), looks := true }, kinds := [], alts := [], laidByText := true, laidKinds := [.data, .data, .data, .data, .sentinel, .sentinel, .pinned], laidTests := true, laidLooks := .later }
def MountReadsMatchSpecUptoCardSaid : Prop := Claim7.holds Tryz.pinned (.plain (OpenSpec.upto mountReadsMatchSpecSpec)) mountReadsMatchSpecUptoCard

/-- THE SECOND FORM's CARD OF 'etchhouselaw8.DrillTextsMatchSpec'. -/
def drillTextsMatchSpecUptoCard : Claim7 := { stood := { row := drillTextsMatchSpecUptoRow, standIns := [], harness := (true, "ceab874328e1f99c906f6570b5cdf1d4903bcb2a457fc62fc11887ea59560ca9"), looks := true }, kinds := [], alts := [], laidByText := true, laidKinds := [.data, .data, .data, .data, .sentinel, .sentinel, .pinned], laidTests := true, laidLooks := .later }
def DrillTextsMatchSpecUptoCardSaid : Prop := Claim7.holds Tryz.pinned (.plain (OpenSpec.upto drillTextsMatchSpecSpec)) drillTextsMatchSpecUptoCard

/-- THE SECOND FORM's CARD OF 'etchhouselaw10.MountTextsMatchSpec'. -/
def mountTextsMatchSpecUptoCard : Claim7 := { stood := { row := mountTextsMatchSpecUptoRow, standIns := [], harness := (true, "ceab874328e1f99c906f6570b5cdf1d4903bcb2a457fc62fc11887ea59560ca9"), looks := true }, kinds := [], alts := [], laidByText := true, laidKinds := [.data, .data, .data, .data, .sentinel, .sentinel, .pinned], laidTests := true, laidLooks := .later }
def MountTextsMatchSpecUptoCardSaid : Prop := Claim7.holds Tryz.pinned (.plain (OpenSpec.upto mountTextsMatchSpecSpec)) mountTextsMatchSpecUptoCard

/-- THE SECOND FORM's CARD OF 'etchhouselaw7.RouteReadsMatchSpec'. -/
def routeReadsMatchSpecUptoCard : Claim7 := { stood := { row := routeReadsMatchSpecUptoRow, standIns := [], harness := (true, "ceab874328e1f99c906f6570b5cdf1d4903bcb2a457fc62fc11887ea59560ca9"), looks := true }, kinds := [], alts := [], laidByText := true, laidKinds := [.data, .data, .data, .data, .sentinel, .sentinel, .pinned], laidTests := true, laidLooks := .later }
def RouteReadsMatchSpecUptoCardSaid : Prop := Claim7.holds Tryz.pinned (.plain (OpenSpec.upto routeReadsMatchSpecSpec)) routeReadsMatchSpecUptoCard

/-- THE SECOND FORM's CARD OF 'etchhouselaw7.RouteTextsMatchSpec'. -/
def routeTextsMatchSpecUptoCard : Claim7 := { stood := { row := routeTextsMatchSpecUptoRow, standIns := [], harness := (true, "ceab874328e1f99c906f6570b5cdf1d4903bcb2a457fc62fc11887ea59560ca9"), looks := true }, kinds := [], alts := [], laidByText := true, laidKinds := [.data, .data, .data, .data, .sentinel, .sentinel, .pinned], laidTests := true, laidLooks := .later }
def RouteTextsMatchSpecUptoCardSaid : Prop := Claim7.holds Tryz.pinned (.plain (OpenSpec.upto routeTextsMatchSpecSpec)) routeTextsMatchSpecUptoCard
end Rows
end Go.Proofs.YtdnilnmdbgcmoaaGreatDoor

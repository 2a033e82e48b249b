/-
  No cell of these rows narrows 'for every input' (looked for: loops, veiled, ifaces, maps, wideKeys, modest, calm, conditions, laid).
  DERIVED. THE GIVEN ROWS OF THIS SEAT. 9 by the template 'for every input the law returns true; each argument reads behind the call as it read before'; 0 by the template 'total and deterministic' (their statements: YtihjaehkdgdenaaTotals.lean).
  GIVEN WITH THE SEED: the statements are not yours to turn. If you find one false, say at which input.
  Laid BY PROGRAM, IN A SANDBOX (cutbox-rows.mjs): the forced cells as the released guide's own fill.sh prints them over the translation 31b1003d52626361… (all of the seat's roots in one cut). By AI agents, Wed Nov 11 2026. No macro, syntax, notation, axiom, sorry.
-/
import Derived.Test.YtihjaehkdgdenaaChecked
import GoSem.Claim
import GoSem.ClaimJoined
import GoSem.ClaimMapViews
import Derived.JoinedTies
import Derived.KernelRfl
namespace Go.Proofs.Ytihjaehkdgdenaa
/- THE CELL 'sum', in the pinned program and in every row, IS THE sha256 OF THE DUMP (.gsa) THAT YtihjaehkdgdenaaProg.lean LOADS. Nothing in Lean hashes anything: it is a label: what it is worth is what the hold of that sum in a sandbox is worth. -/
noncomputable def Try.pinned : Pinned := { name := "ytihjaehkdgdenaa", sum := "31b1003d52626361273cd58d1037fd91601f543fbbfa07c0e88c3da88ceaec19", checked := Try.checked }
namespace Rows
def none {H : Type} : Left H := { results := [], args := [] }

/-- 'etchhouselaw7.RouteLeastBothWays': WHATEVER THE INPUT: true; the input reads as it did. -/
def routeLeastBothWaysSpec : ChangeSpec := { name := "routeLeastBothWays", fn := fun _ => fun
  | [d1, d2, d3, d4] => { results := [.lit (.bool true)], args := [d1, d2, d3, d4] }
  | _ => none }
def routeLeastBothWaysRow : OpenClaim := { program := "ytihjaehkdgdenaa", sum := "31b1003d52626361273cd58d1037fd91601f543fbbfa07c0e88c3da88ceaec19", func := "etchhouse/etchhouselaw7.RouteLeastBothWays", spec := "routeLeastBothWays", unfollowed := true, recurses := true, plainKeys := false, apart := false }
def RouteLeastBothWaysSaid : Prop := routeLeastBothWaysRow.holds Try.pinned (OpenSpec.ofChange routeLeastBothWaysSpec)

/-- ITS FALSE NEIGHBOUR: 'it returns false'. Refute it at one input. -/
def routeLeastBothWaysWrong : ChangeSpec := { name := "routeLeastBothWays", fn := fun _ => fun
  | [d1, d2, d3, d4] => { results := [.lit (.bool false)], args := [d1, d2, d3, d4] }
  | _ => none }
def RouteLeastBothWaysWrongFalsely : Prop := routeLeastBothWaysRow.holds Try.pinned (OpenSpec.ofChange routeLeastBothWaysWrong)

/-- 'etchhouselaw7.RouteLeastMatchesSpec': WHATEVER THE INPUT: true; the input reads as it did. -/
def routeLeastMatchesSpecSpec : ChangeSpec := { name := "routeLeastMatchesSpec", fn := fun _ => fun
  | [d1, d2, d3, d4, d5] => { results := [.lit (.bool true)], args := [d1, d2, d3, d4, d5] }
  | _ => none }
def routeLeastMatchesSpecRow : OpenClaim := { program := "ytihjaehkdgdenaa", sum := "31b1003d52626361273cd58d1037fd91601f543fbbfa07c0e88c3da88ceaec19", func := "etchhouse/etchhouselaw7.RouteLeastMatchesSpec", spec := "routeLeastMatchesSpec", unfollowed := true, recurses := true, plainKeys := false, apart := false }
def RouteLeastMatchesSpecSaid : Prop := routeLeastMatchesSpecRow.holds Try.pinned (OpenSpec.ofChange routeLeastMatchesSpecSpec)

/-- ITS FALSE NEIGHBOUR: 'it returns false'. Refute it at one input. -/
def routeLeastMatchesSpecWrong : ChangeSpec := { name := "routeLeastMatchesSpec", fn := fun _ => fun
  | [d1, d2, d3, d4, d5] => { results := [.lit (.bool false)], args := [d1, d2, d3, d4, d5] }
  | _ => none }
def RouteLeastMatchesSpecWrongFalsely : Prop := routeLeastMatchesSpecRow.holds Try.pinned (OpenSpec.ofChange routeLeastMatchesSpecWrong)

/-- 'etchhouselaw7.RouteWayMatchesSpec': WHATEVER THE INPUT: true; the input reads as it did. -/
def routeWayMatchesSpecSpec : ChangeSpec := { name := "routeWayMatchesSpec", fn := fun _ => fun
  | [d1, d2, d3, d4] => { results := [.lit (.bool true)], args := [d1, d2, d3, d4] }
  | _ => none }
def routeWayMatchesSpecRow : OpenClaim := { program := "ytihjaehkdgdenaa", sum := "31b1003d52626361273cd58d1037fd91601f543fbbfa07c0e88c3da88ceaec19", func := "etchhouse/etchhouselaw7.RouteWayMatchesSpec", spec := "routeWayMatchesSpec", unfollowed := true, recurses := true, plainKeys := false, apart := false }
def RouteWayMatchesSpecSaid : Prop := routeWayMatchesSpecRow.holds Try.pinned (OpenSpec.ofChange routeWayMatchesSpecSpec)

/-- ITS FALSE NEIGHBOUR: 'it returns false'. Refute it at one input. -/
def routeWayMatchesSpecWrong : ChangeSpec := { name := "routeWayMatchesSpec", fn := fun _ => fun
  | [d1, d2, d3, d4] => { results := [.lit (.bool false)], args := [d1, d2, d3, d4] }
  | _ => none }
def RouteWayMatchesSpecWrongFalsely : Prop := routeWayMatchesSpecRow.holds Try.pinned (OpenSpec.ofChange routeWayMatchesSpecWrong)

/-- 'etchhouselaw7.RouteWaysMatchSpec': WHATEVER THE INPUT: true; the input reads as it did. -/
def routeWaysMatchSpecSpec : ChangeSpec := { name := "routeWaysMatchSpec", fn := fun _ => fun
  | [d1, d2, d3] => { results := [.lit (.bool true)], args := [d1, d2, d3] }
  | _ => none }
def routeWaysMatchSpecRow : OpenClaim := { program := "ytihjaehkdgdenaa", sum := "31b1003d52626361273cd58d1037fd91601f543fbbfa07c0e88c3da88ceaec19", func := "etchhouse/etchhouselaw7.RouteWaysMatchSpec", spec := "routeWaysMatchSpec", unfollowed := true, recurses := true, plainKeys := false, apart := false }
def RouteWaysMatchSpecSaid : Prop := routeWaysMatchSpecRow.holds Try.pinned (OpenSpec.ofChange routeWaysMatchSpecSpec)

/-- ITS FALSE NEIGHBOUR: 'it returns false'. Refute it at one input. -/
def routeWaysMatchSpecWrong : ChangeSpec := { name := "routeWaysMatchSpec", fn := fun _ => fun
  | [d1, d2, d3] => { results := [.lit (.bool false)], args := [d1, d2, d3] }
  | _ => none }
def RouteWaysMatchSpecWrongFalsely : Prop := routeWaysMatchSpecRow.holds Try.pinned (OpenSpec.ofChange routeWaysMatchSpecWrong)

/-- 'etchhouselaw7.RouteWayCostsLeast': WHATEVER THE INPUT: true; the input reads as it did. -/
def routeWayCostsLeastSpec : ChangeSpec := { name := "routeWayCostsLeast", fn := fun _ => fun
  | [d1, d2, d3, d4, d5] => { results := [.lit (.bool true)], args := [d1, d2, d3, d4, d5] }
  | _ => none }
def routeWayCostsLeastRow : OpenClaim := { program := "ytihjaehkdgdenaa", sum := "31b1003d52626361273cd58d1037fd91601f543fbbfa07c0e88c3da88ceaec19", func := "etchhouse/etchhouselaw7.RouteWayCostsLeast", spec := "routeWayCostsLeast", unfollowed := true, recurses := true, plainKeys := false, apart := false }
def RouteWayCostsLeastSaid : Prop := routeWayCostsLeastRow.holds Try.pinned (OpenSpec.ofChange routeWayCostsLeastSpec)

/-- ITS FALSE NEIGHBOUR: 'it returns false'. Refute it at one input. -/
def routeWayCostsLeastWrong : ChangeSpec := { name := "routeWayCostsLeast", fn := fun _ => fun
  | [d1, d2, d3, d4, d5] => { results := [.lit (.bool false)], args := [d1, d2, d3, d4, d5] }
  | _ => none }
def RouteWayCostsLeastWrongFalsely : Prop := routeWayCostsLeastRow.holds Try.pinned (OpenSpec.ofChange routeWayCostsLeastWrong)

/-- 'etchhouselaw7.RouteLeastTreeMatchesSpec': WHATEVER THE INPUT: true; the input reads as it did. -/
def routeLeastTreeMatchesSpecSpec : ChangeSpec := { name := "routeLeastTreeMatchesSpec", fn := fun _ => fun
  | [d1, d2, d3] => { results := [.lit (.bool true)], args := [d1, d2, d3] }
  | _ => none }
def routeLeastTreeMatchesSpecRow : OpenClaim := { program := "ytihjaehkdgdenaa", sum := "31b1003d52626361273cd58d1037fd91601f543fbbfa07c0e88c3da88ceaec19", func := "etchhouse/etchhouselaw7.RouteLeastTreeMatchesSpec", spec := "routeLeastTreeMatchesSpec", unfollowed := true, recurses := true, plainKeys := false, apart := false }
def RouteLeastTreeMatchesSpecSaid : Prop := routeLeastTreeMatchesSpecRow.holds Try.pinned (OpenSpec.ofChange routeLeastTreeMatchesSpecSpec)

/-- ITS FALSE NEIGHBOUR: 'it returns false'. Refute it at one input. -/
def routeLeastTreeMatchesSpecWrong : ChangeSpec := { name := "routeLeastTreeMatchesSpec", fn := fun _ => fun
  | [d1, d2, d3] => { results := [.lit (.bool false)], args := [d1, d2, d3] }
  | _ => none }
def RouteLeastTreeMatchesSpecWrongFalsely : Prop := routeLeastTreeMatchesSpecRow.holds Try.pinned (OpenSpec.ofChange routeLeastTreeMatchesSpecWrong)

/-- 'etchhouselaw7.RouteTreesMatchSpec': WHATEVER THE INPUT: true; the input reads as it did. -/
def routeTreesMatchSpecSpec : ChangeSpec := { name := "routeTreesMatchSpec", fn := fun _ => fun
  | [d1, d2, d3] => { results := [.lit (.bool true)], args := [d1, d2, d3] }
  | _ => none }
def routeTreesMatchSpecRow : OpenClaim := { program := "ytihjaehkdgdenaa", sum := "31b1003d52626361273cd58d1037fd91601f543fbbfa07c0e88c3da88ceaec19", func := "etchhouse/etchhouselaw7.RouteTreesMatchSpec", spec := "routeTreesMatchSpec", unfollowed := true, recurses := true, plainKeys := false, apart := false }
def RouteTreesMatchSpecSaid : Prop := routeTreesMatchSpecRow.holds Try.pinned (OpenSpec.ofChange routeTreesMatchSpecSpec)

/-- ITS FALSE NEIGHBOUR: 'it returns false'. Refute it at one input. -/
def routeTreesMatchSpecWrong : ChangeSpec := { name := "routeTreesMatchSpec", fn := fun _ => fun
  | [d1, d2, d3] => { results := [.lit (.bool false)], args := [d1, d2, d3] }
  | _ => none }
def RouteTreesMatchSpecWrongFalsely : Prop := routeTreesMatchSpecRow.holds Try.pinned (OpenSpec.ofChange routeTreesMatchSpecWrong)

/-- 'etchhouselaw7.RouteTreesJoin': WHATEVER THE INPUT: true; the input reads as it did. -/
def routeTreesJoinSpec : ChangeSpec := { name := "routeTreesJoin", fn := fun _ => fun
  | [d1, d2, d3] => { results := [.lit (.bool true)], args := [d1, d2, d3] }
  | _ => none }
def routeTreesJoinRow : OpenClaim := { program := "ytihjaehkdgdenaa", sum := "31b1003d52626361273cd58d1037fd91601f543fbbfa07c0e88c3da88ceaec19", func := "etchhouse/etchhouselaw7.RouteTreesJoin", spec := "routeTreesJoin", unfollowed := true, recurses := true, plainKeys := false, apart := false }
def RouteTreesJoinSaid : Prop := routeTreesJoinRow.holds Try.pinned (OpenSpec.ofChange routeTreesJoinSpec)

/-- ITS FALSE NEIGHBOUR: 'it returns false'. Refute it at one input. -/
def routeTreesJoinWrong : ChangeSpec := { name := "routeTreesJoin", fn := fun _ => fun
  | [d1, d2, d3] => { results := [.lit (.bool false)], args := [d1, d2, d3] }
  | _ => none }
def RouteTreesJoinWrongFalsely : Prop := routeTreesJoinRow.holds Try.pinned (OpenSpec.ofChange routeTreesJoinWrong)

/-- 'etchhouselaw7.RouteLeastTreeIsLeast': WHATEVER THE INPUT: true; the input reads as it did. -/
def routeLeastTreeIsLeastSpec : ChangeSpec := { name := "routeLeastTreeIsLeast", fn := fun _ => fun
  | [d1, d2, d3] => { results := [.lit (.bool true)], args := [d1, d2, d3] }
  | _ => none }
def routeLeastTreeIsLeastRow : OpenClaim := { program := "ytihjaehkdgdenaa", sum := "31b1003d52626361273cd58d1037fd91601f543fbbfa07c0e88c3da88ceaec19", func := "etchhouse/etchhouselaw7.RouteLeastTreeIsLeast", spec := "routeLeastTreeIsLeast", unfollowed := true, recurses := true, plainKeys := false, apart := false }
def RouteLeastTreeIsLeastSaid : Prop := routeLeastTreeIsLeastRow.holds Try.pinned (OpenSpec.ofChange routeLeastTreeIsLeastSpec)

/-- ITS FALSE NEIGHBOUR: 'it returns false'. Refute it at one input. -/
def routeLeastTreeIsLeastWrong : ChangeSpec := { name := "routeLeastTreeIsLeast", fn := fun _ => fun
  | [d1, d2, d3] => { results := [.lit (.bool false)], args := [d1, d2, d3] }
  | _ => none }
def RouteLeastTreeIsLeastWrongFalsely : Prop := routeLeastTreeIsLeastRow.holds Try.pinned (OpenSpec.ofChange routeLeastTreeIsLeastWrong)

/- THE SECOND FORM. 'bulk': how many values and letters a reading holds, each counted each time it is reached (what is shared counts as often as it is met; a slice's spare places count too). A statement '..UptoSaid' is the law's where the arguments, and the package variables that the reading takes, are together of bulk at most 1048576: NARROWER than '..Said'. Prove '..Said' where nothing that the law and all that it calls make is longer than what came in: it says more and counts as full. Else prove '..UptoSaid'. A law counts once. -/
mutual
def uptoBulk {H : Type} : DataW H → Nat
  | .lit (.string bytes) => bytes.length + 1
  | .lit _ => 1
  | .nil => 1
  | .ptr d => uptoBulk d + 1
  | .slice elems spare => uptoBulkAll elems + uptoBulkAll spare + 1
  | .agg parts => uptoBulkAll parts + 1
  | .iface _ d => uptoBulk d + 1
  | .map entries => uptoBulkEntries entries + 1
  | .held _ => 1
def uptoBulkAll {H : Type} : List (DataW H) → Nat
  | [] => 0
  | d :: r => uptoBulk d + uptoBulkAll r
def uptoBulkEntries {H : Type} : List (Lit × DataW H) → Nat
  | [] => 0
  | x :: r => uptoBulkEntry x + uptoBulkEntries r
def uptoBulkEntry {H : Type} : Lit × DataW H → Nat
  | (.string bytes, d) => bytes.length + uptoBulk d + 1
  | (_, d) => uptoBulk d + 1
 end
def uptoSmall : (H : Type) → List (DataW H) → Bool := fun _ ds => decide (uptoBulkAll ds ≤ 1048576)
def OpenSpec.upto (s : _root_.Go.ChangeSpec) : _root_.Go.OpenSpec := { _root_.Go.OpenSpec.ofChange s with cond := some uptoSmall }

/-- 'etchhouselaw7.RouteLeastBothWays', WHERE WHAT IT READS IS OF BULK AT MOST 1048576: true; the input reads as it did. -/
def routeLeastBothWaysUptoRow : OpenClaim := { program := "ytihjaehkdgdenaa", sum := "31b1003d52626361273cd58d1037fd91601f543fbbfa07c0e88c3da88ceaec19", func := "etchhouse/etchhouselaw7.RouteLeastBothWays", spec := "routeLeastBothWays", unfollowed := true, recurses := true, plainKeys := false, apart := false, narrowed := true }
def RouteLeastBothWaysUptoSaid : Prop := routeLeastBothWaysUptoRow.holds Try.pinned (OpenSpec.upto routeLeastBothWaysSpec)

/-- 'etchhouselaw7.RouteLeastMatchesSpec', WHERE WHAT IT READS IS OF BULK AT MOST 1048576: true; the input reads as it did. -/
def routeLeastMatchesSpecUptoRow : OpenClaim := { program := "ytihjaehkdgdenaa", sum := "31b1003d52626361273cd58d1037fd91601f543fbbfa07c0e88c3da88ceaec19", func := "etchhouse/etchhouselaw7.RouteLeastMatchesSpec", spec := "routeLeastMatchesSpec", unfollowed := true, recurses := true, plainKeys := false, apart := false, narrowed := true }
def RouteLeastMatchesSpecUptoSaid : Prop := routeLeastMatchesSpecUptoRow.holds Try.pinned (OpenSpec.upto routeLeastMatchesSpecSpec)

/-- 'etchhouselaw7.RouteWayMatchesSpec', WHERE WHAT IT READS IS OF BULK AT MOST 1048576: true; the input reads as it did. -/
def routeWayMatchesSpecUptoRow : OpenClaim := { program := "ytihjaehkdgdenaa", sum := "31b1003d52626361273cd58d1037fd91601f543fbbfa07c0e88c3da88ceaec19", func := "etchhouse/etchhouselaw7.RouteWayMatchesSpec", spec := "routeWayMatchesSpec", unfollowed := true, recurses := true, plainKeys := false, apart := false, narrowed := true }
def RouteWayMatchesSpecUptoSaid : Prop := routeWayMatchesSpecUptoRow.holds Try.pinned (OpenSpec.upto routeWayMatchesSpecSpec)

/-- 'etchhouselaw7.RouteWaysMatchSpec', WHERE WHAT IT READS IS OF BULK AT MOST 1048576: true; the input reads as it did. -/
def routeWaysMatchSpecUptoRow : OpenClaim := { program := "ytihjaehkdgdenaa", sum := "31b1003d52626361273cd58d1037fd91601f543fbbfa07c0e88c3da88ceaec19", func := "etchhouse/etchhouselaw7.RouteWaysMatchSpec", spec := "routeWaysMatchSpec", unfollowed := true, recurses := true, plainKeys := false, apart := false, narrowed := true }
def RouteWaysMatchSpecUptoSaid : Prop := routeWaysMatchSpecUptoRow.holds Try.pinned (OpenSpec.upto routeWaysMatchSpecSpec)

/-- 'etchhouselaw7.RouteWayCostsLeast', WHERE WHAT IT READS IS OF BULK AT MOST 1048576: true; the input reads as it did. -/
def routeWayCostsLeastUptoRow : OpenClaim := { program := "ytihjaehkdgdenaa", sum := "31b1003d52626361273cd58d1037fd91601f543fbbfa07c0e88c3da88ceaec19", func := "etchhouse/etchhouselaw7.RouteWayCostsLeast", spec := "routeWayCostsLeast", unfollowed := true, recurses := true, plainKeys := false, apart := false, narrowed := true }
def RouteWayCostsLeastUptoSaid : Prop := routeWayCostsLeastUptoRow.holds Try.pinned (OpenSpec.upto routeWayCostsLeastSpec)

/-- 'etchhouselaw7.RouteLeastTreeMatchesSpec', WHERE WHAT IT READS IS OF BULK AT MOST 1048576: true; the input reads as it did. -/
def routeLeastTreeMatchesSpecUptoRow : OpenClaim := { program := "ytihjaehkdgdenaa", sum := "31b1003d52626361273cd58d1037fd91601f543fbbfa07c0e88c3da88ceaec19", func := "etchhouse/etchhouselaw7.RouteLeastTreeMatchesSpec", spec := "routeLeastTreeMatchesSpec", unfollowed := true, recurses := true, plainKeys := false, apart := false, narrowed := true }
def RouteLeastTreeMatchesSpecUptoSaid : Prop := routeLeastTreeMatchesSpecUptoRow.holds Try.pinned (OpenSpec.upto routeLeastTreeMatchesSpecSpec)

/-- 'etchhouselaw7.RouteTreesMatchSpec', WHERE WHAT IT READS IS OF BULK AT MOST 1048576: true; the input reads as it did. -/
def routeTreesMatchSpecUptoRow : OpenClaim := { program := "ytihjaehkdgdenaa", sum := "31b1003d52626361273cd58d1037fd91601f543fbbfa07c0e88c3da88ceaec19", func := "etchhouse/etchhouselaw7.RouteTreesMatchSpec", spec := "routeTreesMatchSpec", unfollowed := true, recurses := true, plainKeys := false, apart := false, narrowed := true }
def RouteTreesMatchSpecUptoSaid : Prop := routeTreesMatchSpecUptoRow.holds Try.pinned (OpenSpec.upto routeTreesMatchSpecSpec)

/-- 'etchhouselaw7.RouteTreesJoin', WHERE WHAT IT READS IS OF BULK AT MOST 1048576: true; the input reads as it did. -/
def routeTreesJoinUptoRow : OpenClaim := { program := "ytihjaehkdgdenaa", sum := "31b1003d52626361273cd58d1037fd91601f543fbbfa07c0e88c3da88ceaec19", func := "etchhouse/etchhouselaw7.RouteTreesJoin", spec := "routeTreesJoin", unfollowed := true, recurses := true, plainKeys := false, apart := false, narrowed := true }
def RouteTreesJoinUptoSaid : Prop := routeTreesJoinUptoRow.holds Try.pinned (OpenSpec.upto routeTreesJoinSpec)

/-- 'etchhouselaw7.RouteLeastTreeIsLeast', WHERE WHAT IT READS IS OF BULK AT MOST 1048576: true; the input reads as it did. -/
def routeLeastTreeIsLeastUptoRow : OpenClaim := { program := "ytihjaehkdgdenaa", sum := "31b1003d52626361273cd58d1037fd91601f543fbbfa07c0e88c3da88ceaec19", func := "etchhouse/etchhouselaw7.RouteLeastTreeIsLeast", spec := "routeLeastTreeIsLeast", unfollowed := true, recurses := true, plainKeys := false, apart := false, narrowed := true }
def RouteLeastTreeIsLeastUptoSaid : Prop := routeLeastTreeIsLeastUptoRow.holds Try.pinned (OpenSpec.upto routeLeastTreeIsLeastSpec)

end Rows
end Go.Proofs.Ytihjaehkdgdenaa

/-
  NARROWER THAN 'FOR EVERY INPUT', by the rows' own cells (each row's printed sentence says how): MountMovedTogether: laid · MountTakenMatchesSpec: laid · MountPicksTakeWhatThereIs: laid · MountPicksMatchSpec: laid · MountOrderIsOne: laid · MountChecksMatchSpec: laid · MountOrdersMatchSpec: laid · MountShortMatchesSpec: laid · MountNothingShort: laid.
  DERIVED. THE GIVEN ROWS OF THIS SEAT. 9 by the template 'for every input the law returns true; each argument reads behind the call as it read before'; 0 by the template 'total and deterministic' (their statements: YtcmlcgjjkccaeaaDoorTotals.lean).
  GIVEN WITH THE SEED: the statements are not yours to turn. If you find one false, say at which input.
  Laid BY PROGRAM, IN A SANDBOX (cutbox-rows.mjs): the forced cells as the released guide's own fill.sh prints them over the translation 0738f30cff9a0a44… (all of the seat's roots in one cut). By AI agents, Wed Nov 11 2026. No macro, syntax, notation, axiom, sorry.
-/
import Derived.Test.YtcmlcgjjkccaeaaDoorChecked
import GoSem.PinnedTables
import GoSem.Claim
import GoSem.ClaimJoined
import GoSem.ClaimMapViews
import Derived.JoinedTies
import Derived.KernelRfl
namespace Go.Proofs.YtcmlcgjjkccaeaaDoor
/- THE CELL 'sum', in the pinned program and in every row, IS THE sha256 OF THE DUMP (.gsa) THAT YtcmlcgjjkccaeaaDoorProg.lean LOADS. Nothing in Lean hashes anything: it is a label: what it is worth is what the hold of that sum in a sandbox is worth. -/
noncomputable def Tryd.pinned : Pinned := { name := "ytcmlcgjjkccaeaadoor", sum := "0738f30cff9a0a44b265aacdcea5a7a34e52c101ddbc9976f24cd35f321bf020", checked := Tryd.checked }
namespace Rows
def none {H : Type} : Left H := { results := [], args := [] }

/- WHAT THE LISTED PACKAGE-LEVEL VARIABLES READ AS WHEN THE CALL BEGINS. Each datum BY PROGRAM (the guide's laid-datum.mjs) off the statement by which the dump's own 'gosem.cut.vars' lays the variable. In a bare row this is a premise. The card (YtcmlcgjjkccaeaaDoorCards.lean) ties it to the program's text. -/
def laid_unicode_utf8_acceptRanges {H : Type} : DataW H := .agg [.agg [.lit (.int .u8 128), .lit (.int .u8 191)], .agg [.lit (.int .u8 160), .lit (.int .u8 191)], .agg [.lit (.int .u8 128), .lit (.int .u8 159)], .agg [.lit (.int .u8 144), .lit (.int .u8 191)], .agg [.lit (.int .u8 128), .lit (.int .u8 143)], .agg [.lit (.int .u8 0), .lit (.int .u8 0)], .agg [.lit (.int .u8 0), .lit (.int .u8 0)], .agg [.lit (.int .u8 0), .lit (.int .u8 0)], .agg [.lit (.int .u8 0), .lit (.int .u8 0)], .agg [.lit (.int .u8 0), .lit (.int .u8 0)], .agg [.lit (.int .u8 0), .lit (.int .u8 0)], .agg [.lit (.int .u8 0), .lit (.int .u8 0)], .agg [.lit (.int .u8 0), .lit (.int .u8 0)], .agg [.lit (.int .u8 0), .lit (.int .u8 0)], .agg [.lit (.int .u8 0), .lit (.int .u8 0)], .agg [.lit (.int .u8 0), .lit (.int .u8 0)]]
/-- One of Go's own tables, pinned by name: the form's constant. -/
def laid_unicode_utf8_first : DataW Unit := Go.Pinned.utf8First

/-- 'etchhouselaw10.MountMovedTogether': WHATEVER THE INPUT: true; the input reads as it did. -/
def mountMovedTogetherSpec : ChangeSpec := { name := "mountMovedTogether", fn := fun _ => fun
  | [d1, d2, d3, d4] => { results := [.lit (.bool true)], args := [d1, d2, d3, d4] }
  | _ => none }
def mountMovedTogetherRow : OpenClaim := { program := "ytcmlcgjjkccaeaadoor", sum := "0738f30cff9a0a44b265aacdcea5a7a34e52c101ddbc9976f24cd35f321bf020", func := "etchhouse/etchhouselaw10.MountMovedTogether", spec := "mountMovedTogether", inPlace := ["internal/bytealg.IndexByteString", "internal/bytealg.abigen_runtime_cmpstring", "internal/bytealg.CountString", "internal/bytealg.IndexString"], unfollowed := true, recurses := true, named := ["unicode/utf8.first", "unicode/utf8.acceptRanges", "internal/bytealg.MaxLen"], apart := false, laid := [("unicode/utf8.acceptRanges", laid_unicode_utf8_acceptRanges), ("unicode/utf8.first", laid_unicode_utf8_first)] }
def MountMovedTogetherSaid : Prop := mountMovedTogetherRow.holds Tryd.pinned (OpenSpec.ofChange mountMovedTogetherSpec)

/-- ITS FALSE NEIGHBOUR: 'it returns false'. Refute it at one input. -/
def mountMovedTogetherWrong : ChangeSpec := { name := "mountMovedTogether", fn := fun _ => fun
  | [d1, d2, d3, d4] => { results := [.lit (.bool false)], args := [d1, d2, d3, d4] }
  | _ => none }
def MountMovedTogetherWrongFalsely : Prop := mountMovedTogetherRow.holds Tryd.pinned (OpenSpec.ofChange mountMovedTogetherWrong)

/-- 'etchhouselaw10.MountTakenMatchesSpec': WHATEVER THE INPUT: true; the input reads as it did. -/
def mountTakenMatchesSpecSpec : ChangeSpec := { name := "mountTakenMatchesSpec", fn := fun _ => fun
  | [d1, d2, d3, d4] => { results := [.lit (.bool true)], args := [d1, d2, d3, d4] }
  | _ => none }
def mountTakenMatchesSpecRow : OpenClaim := { program := "ytcmlcgjjkccaeaadoor", sum := "0738f30cff9a0a44b265aacdcea5a7a34e52c101ddbc9976f24cd35f321bf020", func := "etchhouse/etchhouselaw10.MountTakenMatchesSpec", spec := "mountTakenMatchesSpec", inPlace := ["internal/bytealg.IndexByteString", "internal/bytealg.abigen_runtime_cmpstring", "internal/bytealg.CountString", "internal/bytealg.IndexString"], unfollowed := true, recurses := true, named := ["unicode/utf8.first", "unicode/utf8.acceptRanges", "internal/bytealg.MaxLen"], apart := false, laid := [("unicode/utf8.acceptRanges", laid_unicode_utf8_acceptRanges), ("unicode/utf8.first", laid_unicode_utf8_first)] }
def MountTakenMatchesSpecSaid : Prop := mountTakenMatchesSpecRow.holds Tryd.pinned (OpenSpec.ofChange mountTakenMatchesSpecSpec)

/-- ITS FALSE NEIGHBOUR: 'it returns false'. Refute it at one input. -/
def mountTakenMatchesSpecWrong : ChangeSpec := { name := "mountTakenMatchesSpec", fn := fun _ => fun
  | [d1, d2, d3, d4] => { results := [.lit (.bool false)], args := [d1, d2, d3, d4] }
  | _ => none }
def MountTakenMatchesSpecWrongFalsely : Prop := mountTakenMatchesSpecRow.holds Tryd.pinned (OpenSpec.ofChange mountTakenMatchesSpecWrong)

/-- 'etchhouselaw10.MountPicksTakeWhatThereIs': WHATEVER THE INPUT: true; the input reads as it did. -/
def mountPicksTakeWhatThereIsSpec : ChangeSpec := { name := "mountPicksTakeWhatThereIs", fn := fun _ => fun
  | [d1, d2, d3, d4, d5] => { results := [.lit (.bool true)], args := [d1, d2, d3, d4, d5] }
  | _ => none }
def mountPicksTakeWhatThereIsRow : OpenClaim := { program := "ytcmlcgjjkccaeaadoor", sum := "0738f30cff9a0a44b265aacdcea5a7a34e52c101ddbc9976f24cd35f321bf020", func := "etchhouse/etchhouselaw10.MountPicksTakeWhatThereIs", spec := "mountPicksTakeWhatThereIs", inPlace := ["internal/bytealg.IndexByteString", "internal/bytealg.abigen_runtime_cmpstring", "internal/bytealg.CountString", "internal/bytealg.IndexString"], unfollowed := true, recurses := true, named := ["unicode/utf8.first", "unicode/utf8.acceptRanges", "internal/bytealg.MaxLen"], apart := false, laid := [("unicode/utf8.acceptRanges", laid_unicode_utf8_acceptRanges), ("unicode/utf8.first", laid_unicode_utf8_first)] }
def MountPicksTakeWhatThereIsSaid : Prop := mountPicksTakeWhatThereIsRow.holds Tryd.pinned (OpenSpec.ofChange mountPicksTakeWhatThereIsSpec)

/-- ITS FALSE NEIGHBOUR: 'it returns false'. Refute it at one input. -/
def mountPicksTakeWhatThereIsWrong : ChangeSpec := { name := "mountPicksTakeWhatThereIs", fn := fun _ => fun
  | [d1, d2, d3, d4, d5] => { results := [.lit (.bool false)], args := [d1, d2, d3, d4, d5] }
  | _ => none }
def MountPicksTakeWhatThereIsWrongFalsely : Prop := mountPicksTakeWhatThereIsRow.holds Tryd.pinned (OpenSpec.ofChange mountPicksTakeWhatThereIsWrong)

/-- 'etchhouselaw10.MountPicksMatchSpec': WHATEVER THE INPUT: true; the input reads as it did. -/
def mountPicksMatchSpecSpec : ChangeSpec := { name := "mountPicksMatchSpec", fn := fun _ => fun
  | [d1, d2, d3, d4, d5] => { results := [.lit (.bool true)], args := [d1, d2, d3, d4, d5] }
  | _ => none }
def mountPicksMatchSpecRow : OpenClaim := { program := "ytcmlcgjjkccaeaadoor", sum := "0738f30cff9a0a44b265aacdcea5a7a34e52c101ddbc9976f24cd35f321bf020", func := "etchhouse/etchhouselaw10.MountPicksMatchSpec", spec := "mountPicksMatchSpec", inPlace := ["internal/bytealg.IndexByteString", "internal/bytealg.abigen_runtime_cmpstring", "internal/bytealg.CountString", "internal/bytealg.IndexString"], unfollowed := true, recurses := true, named := ["unicode/utf8.first", "unicode/utf8.acceptRanges", "internal/bytealg.MaxLen"], apart := false, laid := [("unicode/utf8.acceptRanges", laid_unicode_utf8_acceptRanges), ("unicode/utf8.first", laid_unicode_utf8_first)] }
def MountPicksMatchSpecSaid : Prop := mountPicksMatchSpecRow.holds Tryd.pinned (OpenSpec.ofChange mountPicksMatchSpecSpec)

/-- ITS FALSE NEIGHBOUR: 'it returns false'. Refute it at one input. -/
def mountPicksMatchSpecWrong : ChangeSpec := { name := "mountPicksMatchSpec", fn := fun _ => fun
  | [d1, d2, d3, d4, d5] => { results := [.lit (.bool false)], args := [d1, d2, d3, d4, d5] }
  | _ => none }
def MountPicksMatchSpecWrongFalsely : Prop := mountPicksMatchSpecRow.holds Tryd.pinned (OpenSpec.ofChange mountPicksMatchSpecWrong)

/-- 'etchhouselaw10.MountOrderIsOne': WHATEVER THE INPUT: true; the input reads as it did. -/
def mountOrderIsOneSpec : ChangeSpec := { name := "mountOrderIsOne", fn := fun _ => fun
  | [d1, d2, d3] => { results := [.lit (.bool true)], args := [d1, d2, d3] }
  | _ => none }
def mountOrderIsOneRow : OpenClaim := { program := "ytcmlcgjjkccaeaadoor", sum := "0738f30cff9a0a44b265aacdcea5a7a34e52c101ddbc9976f24cd35f321bf020", func := "etchhouse/etchhouselaw10.MountOrderIsOne", spec := "mountOrderIsOne", inPlace := ["internal/bytealg.IndexByteString", "internal/bytealg.abigen_runtime_cmpstring", "internal/bytealg.CountString", "internal/bytealg.IndexString"], unfollowed := true, recurses := true, named := ["unicode/utf8.first", "unicode/utf8.acceptRanges", "internal/bytealg.MaxLen"], apart := false, laid := [("unicode/utf8.acceptRanges", laid_unicode_utf8_acceptRanges), ("unicode/utf8.first", laid_unicode_utf8_first)] }
def MountOrderIsOneSaid : Prop := mountOrderIsOneRow.holds Tryd.pinned (OpenSpec.ofChange mountOrderIsOneSpec)

/-- ITS FALSE NEIGHBOUR: 'it returns false'. Refute it at one input. -/
def mountOrderIsOneWrong : ChangeSpec := { name := "mountOrderIsOne", fn := fun _ => fun
  | [d1, d2, d3] => { results := [.lit (.bool false)], args := [d1, d2, d3] }
  | _ => none }
def MountOrderIsOneWrongFalsely : Prop := mountOrderIsOneRow.holds Tryd.pinned (OpenSpec.ofChange mountOrderIsOneWrong)

/-- 'etchhouselaw10.MountChecksMatchSpec': WHATEVER THE INPUT: true; the input reads as it did. -/
def mountChecksMatchSpecSpec : ChangeSpec := { name := "mountChecksMatchSpec", fn := fun _ => fun
  | [d1, d2, d3] => { results := [.lit (.bool true)], args := [d1, d2, d3] }
  | _ => none }
def mountChecksMatchSpecRow : OpenClaim := { program := "ytcmlcgjjkccaeaadoor", sum := "0738f30cff9a0a44b265aacdcea5a7a34e52c101ddbc9976f24cd35f321bf020", func := "etchhouse/etchhouselaw10.MountChecksMatchSpec", spec := "mountChecksMatchSpec", inPlace := ["internal/bytealg.IndexByteString", "internal/bytealg.abigen_runtime_cmpstring", "internal/bytealg.CountString", "internal/bytealg.IndexString"], unfollowed := true, recurses := true, named := ["unicode/utf8.first", "unicode/utf8.acceptRanges", "internal/bytealg.MaxLen"], apart := false, laid := [("unicode/utf8.acceptRanges", laid_unicode_utf8_acceptRanges), ("unicode/utf8.first", laid_unicode_utf8_first)] }
def MountChecksMatchSpecSaid : Prop := mountChecksMatchSpecRow.holds Tryd.pinned (OpenSpec.ofChange mountChecksMatchSpecSpec)

/-- ITS FALSE NEIGHBOUR: 'it returns false'. Refute it at one input. -/
def mountChecksMatchSpecWrong : ChangeSpec := { name := "mountChecksMatchSpec", fn := fun _ => fun
  | [d1, d2, d3] => { results := [.lit (.bool false)], args := [d1, d2, d3] }
  | _ => none }
def MountChecksMatchSpecWrongFalsely : Prop := mountChecksMatchSpecRow.holds Tryd.pinned (OpenSpec.ofChange mountChecksMatchSpecWrong)

/-- 'etchhouselaw10.MountOrdersMatchSpec': WHATEVER THE INPUT: true; the input reads as it did. -/
def mountOrdersMatchSpecSpec : ChangeSpec := { name := "mountOrdersMatchSpec", fn := fun _ => fun
  | [d1, d2, d3, d4, d5] => { results := [.lit (.bool true)], args := [d1, d2, d3, d4, d5] }
  | _ => none }
def mountOrdersMatchSpecRow : OpenClaim := { program := "ytcmlcgjjkccaeaadoor", sum := "0738f30cff9a0a44b265aacdcea5a7a34e52c101ddbc9976f24cd35f321bf020", func := "etchhouse/etchhouselaw10.MountOrdersMatchSpec", spec := "mountOrdersMatchSpec", inPlace := ["internal/bytealg.IndexByteString", "internal/bytealg.abigen_runtime_cmpstring", "internal/bytealg.CountString", "internal/bytealg.IndexString", "slices.overlaps[int]"], unfollowed := true, recurses := true, named := ["unicode/utf8.first", "unicode/utf8.acceptRanges", "internal/bytealg.MaxLen"], apart := false, laid := [("unicode/utf8.acceptRanges", laid_unicode_utf8_acceptRanges), ("unicode/utf8.first", laid_unicode_utf8_first)] }
def MountOrdersMatchSpecSaid : Prop := mountOrdersMatchSpecRow.holds Tryd.pinned (OpenSpec.ofChange mountOrdersMatchSpecSpec)

/-- ITS FALSE NEIGHBOUR: 'it returns false'. Refute it at one input. -/
def mountOrdersMatchSpecWrong : ChangeSpec := { name := "mountOrdersMatchSpec", fn := fun _ => fun
  | [d1, d2, d3, d4, d5] => { results := [.lit (.bool false)], args := [d1, d2, d3, d4, d5] }
  | _ => none }
def MountOrdersMatchSpecWrongFalsely : Prop := mountOrdersMatchSpecRow.holds Tryd.pinned (OpenSpec.ofChange mountOrdersMatchSpecWrong)

/-- 'etchhouselaw10.MountShortMatchesSpec': WHATEVER THE INPUT: true; the input reads as it did. -/
def mountShortMatchesSpecSpec : ChangeSpec := { name := "mountShortMatchesSpec", fn := fun _ => fun
  | [d1, d2, d3, d4] => { results := [.lit (.bool true)], args := [d1, d2, d3, d4] }
  | _ => none }
def mountShortMatchesSpecRow : OpenClaim := { program := "ytcmlcgjjkccaeaadoor", sum := "0738f30cff9a0a44b265aacdcea5a7a34e52c101ddbc9976f24cd35f321bf020", func := "etchhouse/etchhouselaw10.MountShortMatchesSpec", spec := "mountShortMatchesSpec", inPlace := ["internal/bytealg.IndexByteString", "internal/bytealg.abigen_runtime_cmpstring", "internal/bytealg.CountString", "internal/bytealg.IndexString"], unfollowed := true, recurses := true, named := ["unicode/utf8.first", "unicode/utf8.acceptRanges", "internal/bytealg.MaxLen"], apart := false, laid := [("unicode/utf8.acceptRanges", laid_unicode_utf8_acceptRanges), ("unicode/utf8.first", laid_unicode_utf8_first)] }
def MountShortMatchesSpecSaid : Prop := mountShortMatchesSpecRow.holds Tryd.pinned (OpenSpec.ofChange mountShortMatchesSpecSpec)

/-- ITS FALSE NEIGHBOUR: 'it returns false'. Refute it at one input. -/
def mountShortMatchesSpecWrong : ChangeSpec := { name := "mountShortMatchesSpec", fn := fun _ => fun
  | [d1, d2, d3, d4] => { results := [.lit (.bool false)], args := [d1, d2, d3, d4] }
  | _ => none }
def MountShortMatchesSpecWrongFalsely : Prop := mountShortMatchesSpecRow.holds Tryd.pinned (OpenSpec.ofChange mountShortMatchesSpecWrong)

/-- 'etchhouselaw10.MountNothingShort': WHATEVER THE INPUT: true; the input reads as it did. -/
def mountNothingShortSpec : ChangeSpec := { name := "mountNothingShort", fn := fun _ => fun
  | [d1, d2, d3, d4] => { results := [.lit (.bool true)], args := [d1, d2, d3, d4] }
  | _ => none }
def mountNothingShortRow : OpenClaim := { program := "ytcmlcgjjkccaeaadoor", sum := "0738f30cff9a0a44b265aacdcea5a7a34e52c101ddbc9976f24cd35f321bf020", func := "etchhouse/etchhouselaw10.MountNothingShort", spec := "mountNothingShort", inPlace := ["internal/bytealg.IndexByteString", "internal/bytealg.abigen_runtime_cmpstring", "internal/bytealg.CountString", "internal/bytealg.IndexString"], unfollowed := true, recurses := true, named := ["unicode/utf8.first", "unicode/utf8.acceptRanges", "internal/bytealg.MaxLen"], apart := false, laid := [("unicode/utf8.acceptRanges", laid_unicode_utf8_acceptRanges), ("unicode/utf8.first", laid_unicode_utf8_first)] }
def MountNothingShortSaid : Prop := mountNothingShortRow.holds Tryd.pinned (OpenSpec.ofChange mountNothingShortSpec)

/-- ITS FALSE NEIGHBOUR: 'it returns false'. Refute it at one input. -/
def mountNothingShortWrong : ChangeSpec := { name := "mountNothingShort", fn := fun _ => fun
  | [d1, d2, d3, d4] => { results := [.lit (.bool false)], args := [d1, d2, d3, d4] }
  | _ => none }
def MountNothingShortWrongFalsely : Prop := mountNothingShortRow.holds Tryd.pinned (OpenSpec.ofChange mountNothingShortWrong)

/- THE SECOND FORM. 'bulk': how many values and letters a reading holds, each counted each time it is reached (what is shared counts as often as it is met; a slice's spare places count too). A statement '..UptoSaid' is the law's where the arguments, and the package variables that the reading takes, are together of bulk at most 1048576: NARROWER than '..Said'. Prove '..Said' where nothing that the law and all that it calls make is longer than what came in: it says more and counts as full. Else prove '..UptoSaid'. A law counts once. -/
mutual
def uptoBulk {H : Type} : DataW H → Nat
  | .lit (.string bytes) => bytes.length + 1
  | .lit _ => 1
  | .nil => 1
  | .ptr d => uptoBulk d + 1
  | .slice elems spare => uptoBulkAll elems + uptoBulkAll spare + 1
  | .agg parts => uptoBulkAll parts + 1
  | .iface _ d => uptoBulk d + 1
  | .map entries => uptoBulkEntries entries + 1
  | .held _ => 1
def uptoBulkAll {H : Type} : List (DataW H) → Nat
  | [] => 0
  | d :: r => uptoBulk d + uptoBulkAll r
def uptoBulkEntries {H : Type} : List (Lit × DataW H) → Nat
  | [] => 0
  | x :: r => uptoBulkEntry x + uptoBulkEntries r
def uptoBulkEntry {H : Type} : Lit × DataW H → Nat
  | (.string bytes, d) => bytes.length + uptoBulk d + 1
  | (_, d) => uptoBulk d + 1
 end
def uptoSmall : (H : Type) → List (DataW H) → Bool := fun _ ds => decide (uptoBulkAll ds ≤ 1048576)
def OpenSpec.upto (s : _root_.Go.ChangeSpec) : _root_.Go.OpenSpec := { _root_.Go.OpenSpec.ofChange s with cond := some uptoSmall }

/-- 'etchhouselaw10.MountMovedTogether', WHERE WHAT IT READS IS OF BULK AT MOST 1048576: true; the input reads as it did. -/
def mountMovedTogetherUptoRow : OpenClaim := { program := "ytcmlcgjjkccaeaadoor", sum := "0738f30cff9a0a44b265aacdcea5a7a34e52c101ddbc9976f24cd35f321bf020", func := "etchhouse/etchhouselaw10.MountMovedTogether", spec := "mountMovedTogether", inPlace := ["internal/bytealg.IndexByteString", "internal/bytealg.abigen_runtime_cmpstring", "internal/bytealg.CountString", "internal/bytealg.IndexString"], unfollowed := true, recurses := true, named := ["unicode/utf8.first", "unicode/utf8.acceptRanges", "internal/bytealg.MaxLen"], apart := false, laid := [("unicode/utf8.acceptRanges", laid_unicode_utf8_acceptRanges), ("unicode/utf8.first", laid_unicode_utf8_first)], narrowed := true }
def MountMovedTogetherUptoSaid : Prop := mountMovedTogetherUptoRow.holds Tryd.pinned (OpenSpec.upto mountMovedTogetherSpec)

/-- 'etchhouselaw10.MountTakenMatchesSpec', WHERE WHAT IT READS IS OF BULK AT MOST 1048576: true; the input reads as it did. -/
def mountTakenMatchesSpecUptoRow : OpenClaim := { program := "ytcmlcgjjkccaeaadoor", sum := "0738f30cff9a0a44b265aacdcea5a7a34e52c101ddbc9976f24cd35f321bf020", func := "etchhouse/etchhouselaw10.MountTakenMatchesSpec", spec := "mountTakenMatchesSpec", inPlace := ["internal/bytealg.IndexByteString", "internal/bytealg.abigen_runtime_cmpstring", "internal/bytealg.CountString", "internal/bytealg.IndexString"], unfollowed := true, recurses := true, named := ["unicode/utf8.first", "unicode/utf8.acceptRanges", "internal/bytealg.MaxLen"], apart := false, laid := [("unicode/utf8.acceptRanges", laid_unicode_utf8_acceptRanges), ("unicode/utf8.first", laid_unicode_utf8_first)], narrowed := true }
def MountTakenMatchesSpecUptoSaid : Prop := mountTakenMatchesSpecUptoRow.holds Tryd.pinned (OpenSpec.upto mountTakenMatchesSpecSpec)

/-- 'etchhouselaw10.MountPicksTakeWhatThereIs', WHERE WHAT IT READS IS OF BULK AT MOST 1048576: true; the input reads as it did. -/
def mountPicksTakeWhatThereIsUptoRow : OpenClaim := { program := "ytcmlcgjjkccaeaadoor", sum := "0738f30cff9a0a44b265aacdcea5a7a34e52c101ddbc9976f24cd35f321bf020", func := "etchhouse/etchhouselaw10.MountPicksTakeWhatThereIs", spec := "mountPicksTakeWhatThereIs", inPlace := ["internal/bytealg.IndexByteString", "internal/bytealg.abigen_runtime_cmpstring", "internal/bytealg.CountString", "internal/bytealg.IndexString"], unfollowed := true, recurses := true, named := ["unicode/utf8.first", "unicode/utf8.acceptRanges", "internal/bytealg.MaxLen"], apart := false, laid := [("unicode/utf8.acceptRanges", laid_unicode_utf8_acceptRanges), ("unicode/utf8.first", laid_unicode_utf8_first)], narrowed := true }
def MountPicksTakeWhatThereIsUptoSaid : Prop := mountPicksTakeWhatThereIsUptoRow.holds Tryd.pinned (OpenSpec.upto mountPicksTakeWhatThereIsSpec)

/-- 'etchhouselaw10.MountPicksMatchSpec', WHERE WHAT IT READS IS OF BULK AT MOST 1048576: true; the input reads as it did. -/
def mountPicksMatchSpecUptoRow : OpenClaim := { program := "ytcmlcgjjkccaeaadoor", sum := "0738f30cff9a0a44b265aacdcea5a7a34e52c101ddbc9976f24cd35f321bf020", func := "etchhouse/etchhouselaw10.MountPicksMatchSpec", spec := "mountPicksMatchSpec", inPlace := ["internal/bytealg.IndexByteString", "internal/bytealg.abigen_runtime_cmpstring", "internal/bytealg.CountString", "internal/bytealg.IndexString"], unfollowed := true, recurses := true, named := ["unicode/utf8.first", "unicode/utf8.acceptRanges", "internal/bytealg.MaxLen"], apart := false, laid := [("unicode/utf8.acceptRanges", laid_unicode_utf8_acceptRanges), ("unicode/utf8.first", laid_unicode_utf8_first)], narrowed := true }
def MountPicksMatchSpecUptoSaid : Prop := mountPicksMatchSpecUptoRow.holds Tryd.pinned (OpenSpec.upto mountPicksMatchSpecSpec)

/-- 'etchhouselaw10.MountOrderIsOne', WHERE WHAT IT READS IS OF BULK AT MOST 1048576: true; the input reads as it did. -/
def mountOrderIsOneUptoRow : OpenClaim := { program := "ytcmlcgjjkccaeaadoor", sum := "0738f30cff9a0a44b265aacdcea5a7a34e52c101ddbc9976f24cd35f321bf020", func := "etchhouse/etchhouselaw10.MountOrderIsOne", spec := "mountOrderIsOne", inPlace := ["internal/bytealg.IndexByteString", "internal/bytealg.abigen_runtime_cmpstring", "internal/bytealg.CountString", "internal/bytealg.IndexString"], unfollowed := true, recurses := true, named := ["unicode/utf8.first", "unicode/utf8.acceptRanges", "internal/bytealg.MaxLen"], apart := false, laid := [("unicode/utf8.acceptRanges", laid_unicode_utf8_acceptRanges), ("unicode/utf8.first", laid_unicode_utf8_first)], narrowed := true }
def MountOrderIsOneUptoSaid : Prop := mountOrderIsOneUptoRow.holds Tryd.pinned (OpenSpec.upto mountOrderIsOneSpec)

/-- 'etchhouselaw10.MountChecksMatchSpec', WHERE WHAT IT READS IS OF BULK AT MOST 1048576: true; the input reads as it did. -/
def mountChecksMatchSpecUptoRow : OpenClaim := { program := "ytcmlcgjjkccaeaadoor", sum := "0738f30cff9a0a44b265aacdcea5a7a34e52c101ddbc9976f24cd35f321bf020", func := "etchhouse/etchhouselaw10.MountChecksMatchSpec", spec := "mountChecksMatchSpec", inPlace := ["internal/bytealg.IndexByteString", "internal/bytealg.abigen_runtime_cmpstring", "internal/bytealg.CountString", "internal/bytealg.IndexString"], unfollowed := true, recurses := true, named := ["unicode/utf8.first", "unicode/utf8.acceptRanges", "internal/bytealg.MaxLen"], apart := false, laid := [("unicode/utf8.acceptRanges", laid_unicode_utf8_acceptRanges), ("unicode/utf8.first", laid_unicode_utf8_first)], narrowed := true }
def MountChecksMatchSpecUptoSaid : Prop := mountChecksMatchSpecUptoRow.holds Tryd.pinned (OpenSpec.upto mountChecksMatchSpecSpec)

/-- 'etchhouselaw10.MountOrdersMatchSpec', WHERE WHAT IT READS IS OF BULK AT MOST 1048576: true; the input reads as it did. -/
def mountOrdersMatchSpecUptoRow : OpenClaim := { program := "ytcmlcgjjkccaeaadoor", sum := "0738f30cff9a0a44b265aacdcea5a7a34e52c101ddbc9976f24cd35f321bf020", func := "etchhouse/etchhouselaw10.MountOrdersMatchSpec", spec := "mountOrdersMatchSpec", inPlace := ["internal/bytealg.IndexByteString", "internal/bytealg.abigen_runtime_cmpstring", "internal/bytealg.CountString", "internal/bytealg.IndexString", "slices.overlaps[int]"], unfollowed := true, recurses := true, named := ["unicode/utf8.first", "unicode/utf8.acceptRanges", "internal/bytealg.MaxLen"], apart := false, laid := [("unicode/utf8.acceptRanges", laid_unicode_utf8_acceptRanges), ("unicode/utf8.first", laid_unicode_utf8_first)], narrowed := true }
def MountOrdersMatchSpecUptoSaid : Prop := mountOrdersMatchSpecUptoRow.holds Tryd.pinned (OpenSpec.upto mountOrdersMatchSpecSpec)

/-- 'etchhouselaw10.MountShortMatchesSpec', WHERE WHAT IT READS IS OF BULK AT MOST 1048576: true; the input reads as it did. -/
def mountShortMatchesSpecUptoRow : OpenClaim := { program := "ytcmlcgjjkccaeaadoor", sum := "0738f30cff9a0a44b265aacdcea5a7a34e52c101ddbc9976f24cd35f321bf020", func := "etchhouse/etchhouselaw10.MountShortMatchesSpec", spec := "mountShortMatchesSpec", inPlace := ["internal/bytealg.IndexByteString", "internal/bytealg.abigen_runtime_cmpstring", "internal/bytealg.CountString", "internal/bytealg.IndexString"], unfollowed := true, recurses := true, named := ["unicode/utf8.first", "unicode/utf8.acceptRanges", "internal/bytealg.MaxLen"], apart := false, laid := [("unicode/utf8.acceptRanges", laid_unicode_utf8_acceptRanges), ("unicode/utf8.first", laid_unicode_utf8_first)], narrowed := true }
def MountShortMatchesSpecUptoSaid : Prop := mountShortMatchesSpecUptoRow.holds Tryd.pinned (OpenSpec.upto mountShortMatchesSpecSpec)

/-- 'etchhouselaw10.MountNothingShort', WHERE WHAT IT READS IS OF BULK AT MOST 1048576: true; the input reads as it did. -/
def mountNothingShortUptoRow : OpenClaim := { program := "ytcmlcgjjkccaeaadoor", sum := "0738f30cff9a0a44b265aacdcea5a7a34e52c101ddbc9976f24cd35f321bf020", func := "etchhouse/etchhouselaw10.MountNothingShort", spec := "mountNothingShort", inPlace := ["internal/bytealg.IndexByteString", "internal/bytealg.abigen_runtime_cmpstring", "internal/bytealg.CountString", "internal/bytealg.IndexString"], unfollowed := true, recurses := true, named := ["unicode/utf8.first", "unicode/utf8.acceptRanges", "internal/bytealg.MaxLen"], apart := false, laid := [("unicode/utf8.acceptRanges", laid_unicode_utf8_acceptRanges), ("unicode/utf8.first", laid_unicode_utf8_first)], narrowed := true }
def MountNothingShortUptoSaid : Prop := mountNothingShortUptoRow.holds Tryd.pinned (OpenSpec.upto mountNothingShortSpec)

end Rows
end Go.Proofs.YtcmlcgjjkccaeaaDoor

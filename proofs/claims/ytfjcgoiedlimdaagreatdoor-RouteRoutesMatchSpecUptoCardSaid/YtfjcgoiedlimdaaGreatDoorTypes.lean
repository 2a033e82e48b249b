/- Chapter texts of ours, as far as the claim needs them. -/
import Derived.Test.YtfjcgoiedlimdaaGreatDoorStrs
import Derived.Test.YtfjcgoiedlimdaaGreatDoorDeep
import Derived.Test.YtfjcgoiedlimdaaGreatDoorProg
import Derived.KernelRfl
namespace Go.Proofs.YtfjcgoiedlimdaaGreatDoor
open Go Go.RowKit
set_option linter.unusedVariables false
set_option linter.unusedSectionVars false
set_option linter.unusedSimpArgs false
structure Cell where
  X : Int
  Y : Int
  Layer : Int
instance : DecidableEq Cell := fun a b => decidable_of_iff (a.X = b.X ∧ a.Y = b.Y ∧ a.Layer = b.Layer) (by cases a; cases b; simp)
instance : Inhabited Cell := ⟨⟨default, default, default⟩⟩
instance : Fits Cell := ⟨fun x => Fits.fits x.X ∧ Fits.fits x.Y ∧ Fits.fits x.Layer⟩
instance : Bulk Cell := ⟨fun x => Bulk.bk x.X + (Bulk.bk x.Y + (Bulk.bk x.Layer + 1)), fun x => by first | exact Nat.le_add_left _ _ | omega⟩
instance : Flat Cell := ⟨3, by decide, fun x => [.int .i64 x.X, .int .i64 x.Y, .int .i64 x.Layer], fun _ => rfl, fun _ v hv => by simp only [List.mem_cons, List.not_mem_nil, or_false] at hv; rcases hv with rfl | rfl | rfl <;> rfl⟩
structure Grid where
  W : Int
  H : Int
  Layers : Int
  Blocked : (List Cell)
instance : DecidableEq Grid := fun a b => decidable_of_iff (a.W = b.W ∧ a.H = b.H ∧ a.Layers = b.Layers ∧ a.Blocked = b.Blocked) (by cases a; cases b; simp)
instance : Inhabited Grid := ⟨⟨default, default, default, default⟩⟩
instance : Fits Grid := ⟨fun x => Fits.fits x.W ∧ Fits.fits x.H ∧ Fits.fits x.Layers ∧ Fits.fits x.Blocked⟩
instance : Bulk Grid := ⟨fun x => Bulk.bk x.W + (Bulk.bk x.H + (Bulk.bk x.Layers + (Bulk.bk x.Blocked + 1))), fun x => by first | exact Nat.le_add_left _ _ | omega⟩
instance : Rep Grid := ⟨4, by decide, fun w F cs x => ∃ (uBlockedA : Option Addr) (uBlockedC : Nat), cs = [.int .i64 x.W, .int .i64 x.H, .int .i64 x.Layers, .slice uBlockedA x.Blocked.length uBlockedC] ∧ View w F uBlockedA uBlockedC x.Blocked,
  fun ⟨_, _, h, _⟩ => by rw [h]; rfl, fun ⟨uBlockedA, uBlockedC, h, h0⟩ hF => ⟨uBlockedA, uBlockedC, h, h0.mono hF⟩⟩
structure gy where
  Step : Int
  Via : Int
  Turn : Int
  Against : Int
instance : DecidableEq gy := fun a b => decidable_of_iff (a.Step = b.Step ∧ a.Via = b.Via ∧ a.Turn = b.Turn ∧ a.Against = b.Against) (by cases a; cases b; simp)
instance : Inhabited gy := ⟨⟨default, default, default, default⟩⟩
instance : Fits gy := ⟨fun x => Fits.fits x.Step ∧ Fits.fits x.Via ∧ Fits.fits x.Turn ∧ Fits.fits x.Against⟩
instance : Bulk gy := ⟨fun x => Bulk.bk x.Step + (Bulk.bk x.Via + (Bulk.bk x.Turn + (Bulk.bk x.Against + 1))), fun x => by first | exact Nat.le_add_left _ _ | omega⟩
instance : Flat gy := ⟨4, by decide, fun x => [.int .i64 x.Step, .int .i64 x.Via, .int .i64 x.Turn, .int .i64 x.Against], fun _ => rfl, fun _ v hv => by simp only [List.mem_cons, List.not_mem_nil, or_false] at hv; rcases hv with rfl | rfl | rfl | rfl <;> rfl⟩
structure Task where
  Net : Str
  Pins : (List Cell)
instance : DecidableEq Task := fun a b => decidable_of_iff (a.Net = b.Net ∧ a.Pins = b.Pins) (by cases a; cases b; simp)
instance : Inhabited Task := ⟨⟨default, default⟩⟩
instance : Fits Task := ⟨fun x => Fits.fits x.Net ∧ Fits.fits x.Pins⟩
instance : Bulk Task := ⟨fun x => Bulk.bk x.Net + (Bulk.bk x.Pins + 1), fun x => by first | exact Nat.le_add_left _ _ | omega⟩
instance : Rep Task := ⟨2, by decide, fun w F cs x => ∃ (uPinsA : Option Addr) (uPinsC : Nat), cs = [.string (ba x.Net), .slice uPinsA x.Pins.length uPinsC] ∧ View w F uPinsA uPinsC x.Pins,
  fun ⟨_, _, h, _⟩ => by rw [h]; rfl, fun ⟨uPinsA, uPinsC, h, h0⟩ hF => ⟨uPinsA, uPinsC, h, h0.mono hF⟩⟩
structure fK where
  Net : Str
  Ways : (List (List Cell))
instance : DecidableEq fK := fun a b => decidable_of_iff (a.Net = b.Net ∧ a.Ways = b.Ways) (by cases a; cases b; simp)
instance : Inhabited fK := ⟨⟨default, default⟩⟩
instance : Fits fK := ⟨fun x => Fits.fits x.Net ∧ Fits.fits x.Ways⟩
instance : Bulk fK := ⟨fun x => Bulk.bk x.Net + (Bulk.bk x.Ways + 1), fun x => by first | exact Nat.le_add_left _ _ | omega⟩
instance : Rep fK := ⟨2, by decide, fun w F cs x => ∃ (uWaysA : Option Addr) (uWaysC : Nat), cs = [.string (ba x.Net), .slice uWaysA x.Ways.length uWaysC] ∧ View w F uWaysA uWaysC x.Ways,
  fun ⟨_, _, h, _⟩ => by rw [h]; rfl, fun ⟨uWaysA, uWaysC, h, h0⟩ hF => ⟨uWaysA, uWaysC, h, h0.mono hF⟩⟩
structure uz where
  Net : Str
  Ways : Sl
instance : Flat uz := ⟨2, by decide, fun x => [.string (ba x.Net), .slice x.Ways.a x.Ways.n x.Ways.c], fun _ => rfl, fun _ v hv => by simp only [List.mem_cons, List.not_mem_nil, or_false] at hv; rcases hv with rfl | rfl <;> rfl⟩
instance : qY fK (List Cell) uz := ⟨fun x => x.Ways, fun x A C => ⟨x.Net, ⟨A, x.Ways.length, C⟩⟩, fun h => ⟨_, _, rfl, h⟩, rfl⟩
structure eX where
  g : Grid
  c : gy
  no : (List Bool)
instance : DecidableEq eX := fun a b => decidable_of_iff (a.g = b.g ∧ a.c = b.c ∧ a.no = b.no) (by cases a; cases b; simp)
instance : Inhabited eX := ⟨⟨default, default, default⟩⟩
instance : Fits eX := ⟨fun x => Fits.fits x.g ∧ Fits.fits x.c ∧ Fits.fits x.no⟩
instance : Bulk eX := ⟨fun x => Bulk.bk x.g + (Bulk.bk x.c + (Bulk.bk x.no + 1)), fun x => by first | exact Nat.le_add_left _ _ | omega⟩
instance : Rep eX := ⟨9, by decide, fun w F cs x => ∃ (ug_BlockedA : Option Addr) (ug_BlockedC : Nat) (unoA : Option Addr) (unoC : Nat), cs = [.int .i64 x.g.W, .int .i64 x.g.H, .int .i64 x.g.Layers, .slice ug_BlockedA x.g.Blocked.length ug_BlockedC, .int .i64 x.c.Step, .int .i64 x.c.Via, .int .i64 x.c.Turn, .int .i64 x.c.Against, .slice unoA x.no.length unoC] ∧ View w F ug_BlockedA ug_BlockedC x.g.Blocked ∧ View w F unoA unoC x.no,
  fun ⟨_, _, _, _, h, _, _⟩ => by rw [h]; rfl, fun ⟨ug_BlockedA, ug_BlockedC, unoA, unoC, h, h0, h1⟩ hF => ⟨ug_BlockedA, ug_BlockedC, unoA, unoC, h, h0.mono hF, h1.mono hF⟩⟩
structure fC where
  cost : Int
  cells : Int
instance : DecidableEq fC := fun a b => decidable_of_iff (a.cost = b.cost ∧ a.cells = b.cells) (by cases a; cases b; simp)
instance : Inhabited fC := ⟨⟨default, default⟩⟩
instance : Fits fC := ⟨fun x => Fits.fits x.cost ∧ Fits.fits x.cells⟩
instance : Bulk fC := ⟨fun x => Bulk.bk x.cost + (Bulk.bk x.cells + 1), fun x => by first | exact Nat.le_add_left _ _ | omega⟩
instance : Flat fC := ⟨2, by decide, fun x => [.int .i64 x.cost, .int .i64 x.cells], fun _ => rfl, fun _ v hv => by simp only [List.mem_cons, List.not_mem_nil, or_false] at hv; rcases hv with rfl | rfl <;> rfl⟩
structure iE where
  g : Grid
  c : gy
  blocked : (List Bool)
  best : (List fC)
instance : DecidableEq iE := fun a b => decidable_of_iff (a.g = b.g ∧ a.c = b.c ∧ a.blocked = b.blocked ∧ a.best = b.best) (by cases a; cases b; simp)
instance : Inhabited iE := ⟨⟨default, default, default, default⟩⟩
instance : Fits iE := ⟨fun x => Fits.fits x.g ∧ Fits.fits x.c ∧ Fits.fits x.blocked ∧ Fits.fits x.best⟩
instance : Bulk iE := ⟨fun x => Bulk.bk x.g + (Bulk.bk x.c + (Bulk.bk x.blocked + (Bulk.bk x.best + 1))), fun x => by first | exact Nat.le_add_left _ _ | omega⟩
instance : Rep iE := ⟨10, by decide, fun w F cs x => ∃ (ug_BlockedA : Option Addr) (ug_BlockedC : Nat) (ublockedA : Option Addr) (ublockedC : Nat) (ubestA : Option Addr) (ubestC : Nat), cs = [.int .i64 x.g.W, .int .i64 x.g.H, .int .i64 x.g.Layers, .slice ug_BlockedA x.g.Blocked.length ug_BlockedC, .int .i64 x.c.Step, .int .i64 x.c.Via, .int .i64 x.c.Turn, .int .i64 x.c.Against, .slice ublockedA x.blocked.length ublockedC, .slice ubestA x.best.length ubestC] ∧ View w F ug_BlockedA ug_BlockedC x.g.Blocked ∧ View w F ublockedA ublockedC x.blocked ∧ View w F ubestA ubestC x.best,
  fun ⟨_, _, _, _, _, _, h, _, _, _⟩ => by rw [h]; rfl, fun ⟨ug_BlockedA, ug_BlockedC, ublockedA, ublockedC, ubestA, ubestC, h, h0, h1, h2⟩ hF => ⟨ug_BlockedA, ug_BlockedC, ublockedA, ublockedC, ubestA, ubestC, h, h0.mono hF, h1.mono hF, h2.mono hF⟩⟩
structure eY where
  worth : fC
  state : Int
instance : DecidableEq eY := fun a b => decidable_of_iff (a.worth = b.worth ∧ a.state = b.state) (by cases a; cases b; simp)
instance : Inhabited eY := ⟨⟨default, default⟩⟩
instance : Fits eY := ⟨fun x => Fits.fits x.worth ∧ Fits.fits x.state⟩
instance : Bulk eY := ⟨fun x => Bulk.bk x.worth + (Bulk.bk x.state + 1), fun x => by first | exact Nat.le_add_left _ _ | omega⟩
instance : Flat eY := ⟨3, by decide, fun x => [.int .i64 x.worth.cost, .int .i64 x.worth.cells, .int .i64 x.state], fun _ => rfl, fun _ v hv => by simp only [List.mem_cons, List.not_mem_nil, or_false] at hv; rcases hv with rfl | rfl | rfl <;> rfl⟩
structure iK where
  l : (List eY)
instance : DecidableEq iK := fun a b => decidable_of_iff (a.l = b.l) (by cases a; cases b; simp)
instance : Inhabited iK := ⟨⟨default⟩⟩
instance : Fits iK := ⟨fun x => Fits.fits x.l⟩
instance : Bulk iK := ⟨fun x => Bulk.bk x.l + 1, fun x => by first | exact Nat.le_add_left _ _ | omega⟩
instance : Rep iK := ⟨1, by decide, fun w F cs x => ∃ (ulA : Option Addr) (ulC : Nat), cs = [.slice ulA x.l.length ulC] ∧ View w F ulA ulC x.l,
  fun ⟨_, _, h, _⟩ => by rw [h]; rfl, fun ⟨ulA, ulC, h, h0⟩ hF => ⟨ulA, ulC, h, h0.mono hF⟩⟩
structure dW where
  key : Int
  state : Int
instance : DecidableEq dW := fun a b => decidable_of_iff (a.key = b.key ∧ a.state = b.state) (by cases a; cases b; simp)
instance : Inhabited dW := ⟨⟨default, default⟩⟩
instance : Fits dW := ⟨fun x => Fits.fits x.key ∧ Fits.fits x.state⟩
instance : Bulk dW := ⟨fun x => Bulk.bk x.key + (Bulk.bk x.state + 1), fun x => by first | exact Nat.le_add_left _ _ | omega⟩
instance : Flat dW := ⟨2, by decide, fun x => [.int .i64 x.key, .int .i64 x.state], fun _ => rfl, fun _ v hv => by simp only [List.mem_cons, List.not_mem_nil, or_false] at hv; rcases hv with rfl | rfl <;> rfl⟩
theorem LH (x y : Cell) {d : Nat} (w : World) : (Op.equalIn (d + 2) 63 (.agg #[.int .i64 x.X, .int .i64 x.Y, .int .i64 x.Layer]) (.agg #[.int .i64 y.X, .int .i64 y.Y, .int .i64 y.Layer])).run Tryz.prog w = .ok (decide (x = y)) w :=
  NE Tryz.underlying63 (by kernel_rfl) (FC (by decide) (qR Tryz.isAgg3 rfl) (qR Tryz.isAgg3 rfl) (eq_int Tryz.runUnderlying3 _ _) (FC (by decide) (qR Tryz.isAgg3 rfl) (qR Tryz.isAgg3 rfl) (eq_int Tryz.runUnderlying3 _ _) (FC (by decide) (qR Tryz.isAgg3 rfl) (qR Tryz.isAgg3 rfl) (eq_int Tryz.runUnderlying3 _ _) OL))) (by rw [Bool.eq_iff_iff]; cases x; cases y; simp [and_assoc])
theorem mo : Tryz.prog.follows .mixedOrders = true := by kernel_rfl
theorem info3 : pX Tryz.prog 3 1 8 [.int .i64 0] := ⟨⟨Tryz.t3, _, by kernel_rfl, rfl, rfl, rfl, rfl⟩⟩
theorem info4 : pX Tryz.prog 4 1 1 [.bool false] := ⟨⟨Tryz.t4, _, by kernel_rfl, rfl, rfl, rfl, rfl⟩⟩
theorem info22 : pX Tryz.prog 22 1 24 [.slice none 0 0] := ⟨⟨Tryz.t22, _, by kernel_rfl, rfl, rfl, rfl, rfl⟩⟩
theorem KW : pX Tryz.prog 48 1 24 [.slice none 0 0] := ⟨⟨Tryz.t48, _, by kernel_rfl, rfl, rfl, rfl, rfl⟩⟩
theorem Ip : pX Tryz.prog 50 2 40 [.string (ba []), .slice none 0 0] := ⟨⟨Tryz.t50, _, by kernel_rfl, rfl, rfl, rfl, rfl⟩⟩
theorem uP : pX Tryz.prog 63 3 24 [.int .i64 0, .int .i64 0, .int .i64 0] := ⟨⟨Tryz.t63, _, by kernel_rfl, rfl, rfl, rfl, rfl⟩⟩
theorem PV : pX Tryz.prog 99 1 8 [.pointer none] := ⟨⟨Tryz.t99, _, by kernel_rfl, rfl, rfl, rfl, rfl⟩⟩
theorem Ll : pX Tryz.prog 104 2 16 [.int .i64 0, .int .i64 0] := ⟨⟨Tryz.t104, _, by kernel_rfl, rfl, rfl, rfl, rfl⟩⟩
theorem OW : pX Tryz.prog 129 3 24 [.int .i64 0, .int .i64 0, .int .i64 0] := ⟨⟨Tryz.t129, _, by kernel_rfl, rfl, rfl, rfl, rfl⟩⟩
theorem Mc : pX Tryz.prog 141 2 16 [.int .i64 0, .int .i64 0] := ⟨⟨Tryz.t141, _, by kernel_rfl, rfl, rfl, rfl, rfl⟩⟩
abbrev ek4 : Bool → Value := fun x => .bool x
abbrev BJ : Cell → Value := fun x => .agg #[.int .i64 x.X, .int .i64 x.Y, .int .i64 x.Layer]
theorem Oq {d : Nat} (x : Cell) : Df Tryz.prog (d + 2) 63 (.agg #[.int .i64 x.X, .int .i64 x.Y, .int .i64 x.Layer]) :=
  I9 Tryz.runUnderlying63 (fun f hf => by
    simp only [List.mem_cons, List.not_mem_nil, or_false] at hf
    rcases hf with rfl | rfl | rfl
    · exact ⟨_, fun w => (qR Tryz.isAgg3 rfl), (DT Tryz.runUnderlying3 _)⟩
    · exact ⟨_, fun w => (qR Tryz.isAgg3 rfl), (DT Tryz.runUnderlying3 _)⟩
    · exact ⟨_, fun w => (qR Tryz.isAgg3 rfl), (DT Tryz.runUnderlying3 _)⟩)
theorem PE : L9 Tryz.prog 63 BJ := KC (K := Cell) Tryz.runUnderlying63 (fun x => Oq x) (fun x y w => LH x y w) (fun x => by simp [Instr.sameBits])
abbrev gB (g : Grid) (A : Option Addr) (C : Nat) : List Value := [.int .i64 g.W, .int .i64 g.H, .int .i64 g.Layers, .slice A g.Blocked.length C]
abbrev iO (g : Grid) (A : Option Addr) (C : Nat) : Value := .agg #[.int .i64 g.W, .int .i64 g.H, .int .i64 g.Layers, .slice A g.Blocked.length C]
abbrev iw (c : gy) : List Value := [.int .i64 c.Step, .int .i64 c.Via, .int .i64 c.Turn, .int .i64 c.Against]
abbrev lq (c : gy) : Value := .agg #[.int .i64 c.Step, .int .i64 c.Via, .int .i64 c.Turn, .int .i64 c.Against]
abbrev fH (b : Cell) : List Value := [.int .i64 b.X, .int .i64 b.Y, .int .i64 b.Layer]
abbrev fP (b : Cell) : Value := .agg #[.int .i64 b.X, .int .i64 b.Y, .int .i64 b.Layer]
abbrev kT (b : eY) : List Value := [.int .i64 b.worth.cost, .int .i64 b.worth.cells, .int .i64 b.state]
abbrev Bo (b : eY) : Value := .agg #[.int .i64 b.worth.cost, .int .i64 b.worth.cells, .int .i64 b.state]
abbrev mY (b : fC) : List Value := [.int .i64 b.cost, .int .i64 b.cells]
abbrev wL (b : fC) : Value := .agg #[.int .i64 b.cost, .int .i64 b.cells]
abbrev wH (b : dW) : List Value := [.int .i64 b.key, .int .i64 b.state]
abbrev yu (b : dW) : Value := .agg #[.int .i64 b.key, .int .i64 b.state]
abbrev aa := @Tryz.sizeOf3
abbrev ab := @Tryz.isAgg3
abbrev ac := @Tryz.sizeOf63
abbrev ae := @Tryz.isAgg63
abbrev af := @Tryz.runUnderlying22
abbrev ah := @Tryz.sizeOf24
abbrev ai := @Tryz.runUnderlying38
abbrev aj := @Tryz.runUnderlying24
abbrev ak := @Tryz.runUnderlying63
abbrev am := @Tryz.sizeOf4
abbrev an := @Tryz.sizeOf22
abbrev ao := @Tryz.zeroValue63
abbrev aq := @Tryz.sizeOf104
abbrev ar := @Tryz.sizeOf124
abbrev au := @Tryz.isAgg24
abbrev av := @Tryz.sizeOf26
abbrev aw := @Tryz.runUnderlying75
abbrev aA := @Tryz.sizeOf129
abbrev aB := @Tryz.runUnderlying104
abbrev aC := @Tryz.sizeOf46
abbrev aD := @Tryz.sizeOf9
abbrev aE := @Tryz.runUnderlying27
abbrev aF := @Tryz.runUnderlying51
abbrev aG := @Tryz.runUnderlying121
abbrev aH := @Tryz.isAgg26
abbrev aI := @Tryz.isAgg22
abbrev aJ := @Tryz.runUnderlying126
abbrev aK := @Tryz.runUnderlying129
abbrev aL := @Tryz.sizeOf51
abbrev aM := @Tryz.isAgg124
abbrev aN := @Tryz.runUnderlying124
abbrev aO := @Tryz.zeroValue3
abbrev aP := @Tryz.underlying22
abbrev aQ := @Tryz.runUnderlying46
abbrev aR := @Tryz.runUnderlying181
abbrev aS := @Tryz.sizeOf119
abbrev aT := @Tryz.sizeOf48
abbrev aU := @Tryz.sizeOf72
abbrev aV := @Tryz.runUnderlying26
abbrev aW := @Tryz.underlying38
abbrev aX := @Tryz.sizeOf141
abbrev aY := @Tryz.isAgg104
abbrev aZ := @Tryz.isAgg4
abbrev bb := @Tryz.sizeOf139
abbrev bc := @Tryz.isAgg72
abbrev bd := @Tryz.call72
abbrev bf := @Tryz.call83
abbrev bg := @Tryz.runUnderlying139
abbrev bh := @Tryz.zeroValue181
abbrev bi := @Tryz.isAgg9
abbrev bj := @Tryz.isAgg139
abbrev bl := @Tryz.sizeOf38
abbrev bm := @Tryz.runUnderlying48
abbrev bn := @Tryz.runUnderlying141
abbrev bo := @Tryz.isAgg38
abbrev bp := @Tryz.zeroValue104
abbrev bq := @Tryz.runUnderlying119
abbrev br := @Tryz.underlying143
abbrev bs := @Tryz.call35
abbrev bt := @Tryz.call11
abbrev bu := @Tryz.call18
abbrev bv := @Tryz.isAgg129
abbrev bw := @Tryz.runUnderlying28
abbrev bB := @Tryz.results56
abbrev bD := @Tryz.underlying51
abbrev bE := @Tryz.isAgg51
abbrev bF := @Tryz.zeroValue129
abbrev bG := @Tryz.isAgg119
abbrev bH := @Tryz.runUnderlying9
abbrev bI := @Tryz.isAgg46
abbrev bJ := @Tryz.zeroValue46
abbrev bK := @Tryz.results113
abbrev bL := @Tryz.sizeOf181
abbrev bM := @Tryz.sizeOf99
abbrev bN := @Tryz.zeroValue50
abbrev bO := @Tryz.runUnderlying50
abbrev bP := @Tryz.sizeOf50
abbrev bQ := @Tryz.results6
abbrev bR := @Tryz.results7
abbrev bS := @Tryz.zeroValue141
abbrev bT := @Tryz.sizeOf117
abbrev bU := @Tryz.results50
abbrev bV := @Tryz.results25
abbrev bW := @Tryz.results30
abbrev bX := @Tryz.runUnderlying39
abbrev bY := @Tryz.runUnderlying182
abbrev bZ := @Tryz.runUnderlying98
abbrev b6 := @Tryz.runUnderlying86
abbrev b7 := @Tryz.runUnderlying143
end Go.Proofs.YtfjcgoiedlimdaaGreatDoor

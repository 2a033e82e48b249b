/- Chapter texts of ours, as far as the claim needs them. -/
import Derived.Test.YtihjaehkdgdenaaGreatDoorStrs
import Derived.Test.YtihjaehkdgdenaaGreatDoorDeep
import Derived.Test.YtihjaehkdgdenaaGreatDoorProg
import Derived.KernelRfl
namespace Go.Proofs.YtihjaehkdgdenaaGreatDoor
open Go Go.RowKit
set_option linter.unusedVariables false
set_option linter.unusedSectionVars false
set_option linter.unusedSimpArgs false
structure Cell where
  X : Int
  Y : Int
  Layer : Int
instance : DecidableEq Cell := fun a b => decidable_of_iff (a.X = b.X ∧ a.Y = b.Y ∧ a.Layer = b.Layer) (by cases a; cases b; simp)
instance : Inhabited Cell := ⟨⟨default, default, default⟩⟩
instance : Fits Cell := ⟨fun x => Fits.fits x.X ∧ Fits.fits x.Y ∧ Fits.fits x.Layer⟩
instance : Bulk Cell := ⟨fun x => Bulk.bk x.X + (Bulk.bk x.Y + (Bulk.bk x.Layer + 1)), fun x => by first | exact Nat.le_add_left _ _ | omega⟩
instance : Flat Cell := ⟨3, by decide, fun x => [.int .i64 x.X, .int .i64 x.Y, .int .i64 x.Layer], fun _ => rfl, fun _ v hv => by simp only [List.mem_cons, List.not_mem_nil, or_false] at hv; rcases hv with rfl | rfl | rfl <;> rfl⟩
structure Grid where
  W : Int
  H : Int
  Layers : Int
  Blocked : (List Cell)
instance : DecidableEq Grid := fun a b => decidable_of_iff (a.W = b.W ∧ a.H = b.H ∧ a.Layers = b.Layers ∧ a.Blocked = b.Blocked) (by cases a; cases b; simp)
instance : Inhabited Grid := ⟨⟨default, default, default, default⟩⟩
instance : Fits Grid := ⟨fun x => Fits.fits x.W ∧ Fits.fits x.H ∧ Fits.fits x.Layers ∧ Fits.fits x.Blocked⟩
instance : Bulk Grid := ⟨fun x => Bulk.bk x.W + (Bulk.bk x.H + (Bulk.bk x.Layers + (Bulk.bk x.Blocked + 1))), fun x => by first | exact Nat.le_add_left _ _ | omega⟩
instance : Rep Grid := ⟨4, by decide, fun w F cs x => ∃ (uBlockedA : Option Addr) (uBlockedC : Nat), cs = [.int .i64 x.W, .int .i64 x.H, .int .i64 x.Layers, .slice uBlockedA x.Blocked.length uBlockedC] ∧ View w F uBlockedA uBlockedC x.Blocked,
  fun ⟨_, _, h, _⟩ => by rw [h]; rfl, fun ⟨uBlockedA, uBlockedC, h, h0⟩ hF => ⟨uBlockedA, uBlockedC, h, h0.mono hF⟩⟩
structure Costs where
  Step : Int
  Via : Int
  Turn : Int
  Against : Int
instance : DecidableEq Costs := fun a b => decidable_of_iff (a.Step = b.Step ∧ a.Via = b.Via ∧ a.Turn = b.Turn ∧ a.Against = b.Against) (by cases a; cases b; simp)
instance : Inhabited Costs := ⟨⟨default, default, default, default⟩⟩
instance : Fits Costs := ⟨fun x => Fits.fits x.Step ∧ Fits.fits x.Via ∧ Fits.fits x.Turn ∧ Fits.fits x.Against⟩
instance : Bulk Costs := ⟨fun x => Bulk.bk x.Step + (Bulk.bk x.Via + (Bulk.bk x.Turn + (Bulk.bk x.Against + 1))), fun x => by first | exact Nat.le_add_left _ _ | omega⟩
instance : Flat Costs := ⟨4, by decide, fun x => [.int .i64 x.Step, .int .i64 x.Via, .int .i64 x.Turn, .int .i64 x.Against], fun _ => rfl, fun _ v hv => by simp only [List.mem_cons, List.not_mem_nil, or_false] at hv; rcases hv with rfl | rfl | rfl | rfl <;> rfl⟩
structure Routed where
  Net : Str
  Ways : (List (List Cell))
instance : DecidableEq Routed := fun a b => decidable_of_iff (a.Net = b.Net ∧ a.Ways = b.Ways) (by cases a; cases b; simp)
instance : Inhabited Routed := ⟨⟨default, default⟩⟩
instance : Fits Routed := ⟨fun x => Fits.fits x.Net ∧ Fits.fits x.Ways⟩
instance : Bulk Routed := ⟨fun x => Bulk.bk x.Net + (Bulk.bk x.Ways + 1), fun x => by first | exact Nat.le_add_left _ _ | omega⟩
instance : Rep Routed := ⟨2, by decide, fun w F cs x => ∃ (uWaysA : Option Addr) (uWaysC : Nat), cs = [.string (ba x.Net), .slice uWaysA x.Ways.length uWaysC] ∧ View w F uWaysA uWaysC x.Ways,
  fun ⟨_, _, h, _⟩ => by rw [h]; rfl, fun ⟨uWaysA, uWaysC, h, h0⟩ hF => ⟨uWaysA, uWaysC, h, h0.mono hF⟩⟩
structure RoutedSh where
  Net : Str
  Ways : Sl
instance : Flat RoutedSh := ⟨2, by decide, fun x => [.string (ba x.Net), .slice x.Ways.a x.Ways.n x.Ways.c], fun _ => rfl, fun _ v hv => by simp only [List.mem_cons, List.not_mem_nil, or_false] at hv; rcases hv with rfl | rfl <;> rfl⟩
instance : Row2 Routed (List Cell) RoutedSh := ⟨fun x => x.Ways, fun x A C => ⟨x.Net, ⟨A, x.Ways.length, C⟩⟩, fun h => ⟨_, _, rfl, h⟩, rfl⟩
structure Task where
  Net : Str
  Pins : (List Cell)
instance : DecidableEq Task := fun a b => decidable_of_iff (a.Net = b.Net ∧ a.Pins = b.Pins) (by cases a; cases b; simp)
instance : Inhabited Task := ⟨⟨default, default⟩⟩
instance : Fits Task := ⟨fun x => Fits.fits x.Net ∧ Fits.fits x.Pins⟩
instance : Bulk Task := ⟨fun x => Bulk.bk x.Net + (Bulk.bk x.Pins + 1), fun x => by first | exact Nat.le_add_left _ _ | omega⟩
instance : Rep Task := ⟨2, by decide, fun w F cs x => ∃ (uPinsA : Option Addr) (uPinsC : Nat), cs = [.string (ba x.Net), .slice uPinsA x.Pins.length uPinsC] ∧ View w F uPinsA uPinsC x.Pins,
  fun ⟨_, _, h, _⟩ => by rw [h]; rfl, fun ⟨uPinsA, uPinsC, h, h0⟩ hF => ⟨uPinsA, uPinsC, h, h0.mono hF⟩⟩
structure Arr2 where
  e0 : Int
  e1 : Int
instance : DecidableEq Arr2 := fun a b => decidable_of_iff (a.e0 = b.e0 ∧ a.e1 = b.e1) (by cases a; cases b; simp)
instance : Inhabited Arr2 := ⟨⟨default, default⟩⟩
instance : Fits Arr2 := ⟨fun x => Fits.fits x.e0 ∧ Fits.fits x.e1⟩
instance : Bulk Arr2 := ⟨fun x => Bulk.bk x.e0 + (Bulk.bk x.e1 + 1), fun x => by first | exact Nat.le_add_left _ _ | omega⟩
instance : Flat Arr2 := ⟨2, by decide, fun x => [.int .i64 x.e0, .int .i64 x.e1], fun _ => rfl, fun _ v hv => by simp only [List.mem_cons, List.not_mem_nil, or_false] at hv; rcases hv with rfl | rfl <;> rfl⟩
structure RouteFinder where
  g : Grid
  c : Costs
  no : (List Bool)
instance : DecidableEq RouteFinder := fun a b => decidable_of_iff (a.g = b.g ∧ a.c = b.c ∧ a.no = b.no) (by cases a; cases b; simp)
instance : Inhabited RouteFinder := ⟨⟨default, default, default⟩⟩
instance : Fits RouteFinder := ⟨fun x => Fits.fits x.g ∧ Fits.fits x.c ∧ Fits.fits x.no⟩
instance : Bulk RouteFinder := ⟨fun x => Bulk.bk x.g + (Bulk.bk x.c + (Bulk.bk x.no + 1)), fun x => by first | exact Nat.le_add_left _ _ | omega⟩
instance : Rep RouteFinder := ⟨9, by decide, fun w F cs x => ∃ (ug_BlockedA : Option Addr) (ug_BlockedC : Nat) (unoA : Option Addr) (unoC : Nat), cs = [.int .i64 x.g.W, .int .i64 x.g.H, .int .i64 x.g.Layers, .slice ug_BlockedA x.g.Blocked.length ug_BlockedC, .int .i64 x.c.Step, .int .i64 x.c.Via, .int .i64 x.c.Turn, .int .i64 x.c.Against, .slice unoA x.no.length unoC] ∧ View w F ug_BlockedA ug_BlockedC x.g.Blocked ∧ View w F unoA unoC x.no,
  fun ⟨_, _, _, _, h, _, _⟩ => by rw [h]; rfl, fun ⟨ug_BlockedA, ug_BlockedC, unoA, unoC, h, h0, h1⟩ hF => ⟨ug_BlockedA, ug_BlockedC, unoA, unoC, h, h0.mono hF, h1.mono hF⟩⟩
structure NetlistUnion where
  up : (List Int)
instance : DecidableEq NetlistUnion := fun a b => decidable_of_iff (a.up = b.up) (by cases a; cases b; simp)
instance : Inhabited NetlistUnion := ⟨⟨default⟩⟩
instance : Fits NetlistUnion := ⟨fun x => Fits.fits x.up⟩
instance : Bulk NetlistUnion := ⟨fun x => Bulk.bk x.up + 1, fun x => by first | exact Nat.le_add_left _ _ | omega⟩
instance : Rep NetlistUnion := ⟨1, by decide, fun w F cs x => ∃ (uupA : Option Addr) (uupC : Nat), cs = [.slice uupA x.up.length uupC] ∧ View w F uupA uupC x.up,
  fun ⟨_, _, h, _⟩ => by rw [h]; rfl, fun ⟨uupA, uupC, h, h0⟩ hF => ⟨uupA, uupC, h, h0.mono hF⟩⟩
structure R7Worth where
  cost : Int
  cells : Int
instance : DecidableEq R7Worth := fun a b => decidable_of_iff (a.cost = b.cost ∧ a.cells = b.cells) (by cases a; cases b; simp)
instance : Inhabited R7Worth := ⟨⟨default, default⟩⟩
instance : Fits R7Worth := ⟨fun x => Fits.fits x.cost ∧ Fits.fits x.cells⟩
instance : Bulk R7Worth := ⟨fun x => Bulk.bk x.cost + (Bulk.bk x.cells + 1), fun x => by first | exact Nat.le_add_left _ _ | omega⟩
instance : Flat R7Worth := ⟨2, by decide, fun x => [.int .i64 x.cost, .int .i64 x.cells], fun _ => rfl, fun _ v hv => by simp only [List.mem_cons, List.not_mem_nil, or_false] at hv; rcases hv with rfl | rfl <;> rfl⟩
structure RouteItem where
  key : Int
  state : Int
instance : DecidableEq RouteItem := fun a b => decidable_of_iff (a.key = b.key ∧ a.state = b.state) (by cases a; cases b; simp)
instance : Inhabited RouteItem := ⟨⟨default, default⟩⟩
instance : Fits RouteItem := ⟨fun x => Fits.fits x.key ∧ Fits.fits x.state⟩
instance : Bulk RouteItem := ⟨fun x => Bulk.bk x.key + (Bulk.bk x.state + 1), fun x => by first | exact Nat.le_add_left _ _ | omega⟩
instance : Flat RouteItem := ⟨2, by decide, fun x => [.int .i64 x.key, .int .i64 x.state], fun _ => rfl, fun _ v hv => by simp only [List.mem_cons, List.not_mem_nil, or_false] at hv; rcases hv with rfl | rfl <;> rfl⟩
structure R7Field where
  g : Grid
  c : Costs
  blocked : (List Bool)
  best : (List R7Worth)
instance : DecidableEq R7Field := fun a b => decidable_of_iff (a.g = b.g ∧ a.c = b.c ∧ a.blocked = b.blocked ∧ a.best = b.best) (by cases a; cases b; simp)
instance : Inhabited R7Field := ⟨⟨default, default, default, default⟩⟩
instance : Fits R7Field := ⟨fun x => Fits.fits x.g ∧ Fits.fits x.c ∧ Fits.fits x.blocked ∧ Fits.fits x.best⟩
instance : Bulk R7Field := ⟨fun x => Bulk.bk x.g + (Bulk.bk x.c + (Bulk.bk x.blocked + (Bulk.bk x.best + 1))), fun x => by first | exact Nat.le_add_left _ _ | omega⟩
instance : Rep R7Field := ⟨10, by decide, fun w F cs x => ∃ (ug_BlockedA : Option Addr) (ug_BlockedC : Nat) (ublockedA : Option Addr) (ublockedC : Nat) (ubestA : Option Addr) (ubestC : Nat), cs = [.int .i64 x.g.W, .int .i64 x.g.H, .int .i64 x.g.Layers, .slice ug_BlockedA x.g.Blocked.length ug_BlockedC, .int .i64 x.c.Step, .int .i64 x.c.Via, .int .i64 x.c.Turn, .int .i64 x.c.Against, .slice ublockedA x.blocked.length ublockedC, .slice ubestA x.best.length ubestC] ∧ View w F ug_BlockedA ug_BlockedC x.g.Blocked ∧ View w F ublockedA ublockedC x.blocked ∧ View w F ubestA ubestC x.best,
  fun ⟨_, _, _, _, _, _, h, _, _, _⟩ => by rw [h]; rfl, fun ⟨ug_BlockedA, ug_BlockedC, ublockedA, ublockedC, ubestA, ubestC, h, h0, h1, h2⟩ hF => ⟨ug_BlockedA, ug_BlockedC, ublockedA, ublockedC, ubestA, ubestC, h, h0.mono hF, h1.mono hF, h2.mono hF⟩⟩
structure R7Entry where
  worth : R7Worth
  state : Int
instance : DecidableEq R7Entry := fun a b => decidable_of_iff (a.worth = b.worth ∧ a.state = b.state) (by cases a; cases b; simp)
instance : Inhabited R7Entry := ⟨⟨default, default⟩⟩
instance : Fits R7Entry := ⟨fun x => Fits.fits x.worth ∧ Fits.fits x.state⟩
instance : Bulk R7Entry := ⟨fun x => Bulk.bk x.worth + (Bulk.bk x.state + 1), fun x => by first | exact Nat.le_add_left _ _ | omega⟩
instance : Flat R7Entry := ⟨3, by decide, fun x => [.int .i64 x.worth.cost, .int .i64 x.worth.cells, .int .i64 x.state], fun _ => rfl, fun _ v hv => by simp only [List.mem_cons, List.not_mem_nil, or_false] at hv; rcases hv with rfl | rfl | rfl <;> rfl⟩
theorem eqS55 (x y : Cell) {d : Nat} (w : World) : (Op.equalIn (d + 2) 55 (.agg #[.int .i64 x.X, .int .i64 x.Y, .int .i64 x.Layer]) (.agg #[.int .i64 y.X, .int .i64 y.Y, .int .i64 y.Layer])).run Tryz.prog w = .ok (decide (x = y)) w :=
  eqStruct Tryz.underlying55 (by kernel_rfl) (eqF_cons (by decide) (part_leaf Tryz.isAgg3 rfl) (part_leaf Tryz.isAgg3 rfl) (eq_int Tryz.runUnderlying3 _ _) (eqF_cons (by decide) (part_leaf Tryz.isAgg3 rfl) (part_leaf Tryz.isAgg3 rfl) (eq_int Tryz.runUnderlying3 _ _) (eqF_cons (by decide) (part_leaf Tryz.isAgg3 rfl) (part_leaf Tryz.isAgg3 rfl) (eq_int Tryz.runUnderlying3 _ _) eqF_nil))) (by rw [Bool.eq_iff_iff]; cases x; cases y; simp [and_assoc])
theorem mo : Tryz.prog.follows .mixedOrders = true := by kernel_rfl
theorem info3 : TyInfo Tryz.prog 3 1 8 [.int .i64 0] := ⟨⟨Tryz.t3, _, by kernel_rfl, rfl, rfl, rfl, rfl⟩⟩
theorem info4 : TyInfo Tryz.prog 4 1 1 [.bool false] := ⟨⟨Tryz.t4, _, by kernel_rfl, rfl, rfl, rfl, rfl⟩⟩
theorem info22 : TyInfo Tryz.prog 22 1 24 [.slice none 0 0] := ⟨⟨Tryz.t22, _, by kernel_rfl, rfl, rfl, rfl, rfl⟩⟩
theorem info45 : TyInfo Tryz.prog 45 1 24 [.slice none 0 0] := ⟨⟨Tryz.t45, _, by kernel_rfl, rfl, rfl, rfl, rfl⟩⟩
theorem info47 : TyInfo Tryz.prog 47 2 40 [.string (ba []), .slice none 0 0] := ⟨⟨Tryz.t47, _, by kernel_rfl, rfl, rfl, rfl, rfl⟩⟩
theorem info55 : TyInfo Tryz.prog 55 3 24 [.int .i64 0, .int .i64 0, .int .i64 0] := ⟨⟨Tryz.t55, _, by kernel_rfl, rfl, rfl, rfl, rfl⟩⟩
theorem info72 : TyInfo Tryz.prog 72 1 24 [.slice none 0 0] := ⟨⟨Tryz.t72, _, by kernel_rfl, rfl, rfl, rfl, rfl⟩⟩
theorem info104 : TyInfo Tryz.prog 104 2 16 [.int .i64 0, .int .i64 0] := ⟨⟨Tryz.t104, _, by kernel_rfl, rfl, rfl, rfl, rfl⟩⟩
theorem info158 : TyInfo Tryz.prog 158 2 16 [.int .i64 0, .int .i64 0] := ⟨⟨Tryz.t158, _, by kernel_rfl, rfl, rfl, rfl, rfl⟩⟩
abbrev ek3 : Int → Value := fun x => .int .i64 x
abbrev ek4 : Bool → Value := fun x => .bool x
abbrev ek55 : Cell → Value := fun x => .agg #[.int .i64 x.X, .int .i64 x.Y, .int .i64 x.Layer]
theorem key3 : KeyOk Tryz.prog 3 ek3 := key_int Tryz.runUnderlying3
theorem checkS55 {d : Nat} (x : Cell) : CheckOk Tryz.prog (d + 2) 55 (.agg #[.int .i64 x.X, .int .i64 x.Y, .int .i64 x.Layer]) :=
  check_struct Tryz.runUnderlying55 (fun f hf => by
    simp only [List.mem_cons, List.not_mem_nil, or_false] at hf
    rcases hf with rfl | rfl | rfl
    · exact ⟨_, fun w => (part_leaf Tryz.isAgg3 rfl), (check_int Tryz.runUnderlying3 _)⟩
    · exact ⟨_, fun w => (part_leaf Tryz.isAgg3 rfl), (check_int Tryz.runUnderlying3 _)⟩
    · exact ⟨_, fun w => (part_leaf Tryz.isAgg3 rfl), (check_int Tryz.runUnderlying3 _)⟩)
theorem key55 : KeyOk Tryz.prog 55 ek55 := key_struct (K := Cell) Tryz.runUnderlying55 (fun x => checkS55 x) (fun x y w => eqS55 x y w) (fun x => by simp [Instr.sameBits])
end Go.Proofs.YtihjaehkdgdenaaGreatDoor

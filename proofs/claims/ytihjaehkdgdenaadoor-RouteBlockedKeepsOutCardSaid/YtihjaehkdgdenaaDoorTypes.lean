/- Chapter texts of ours, as far as the claim needs them. -/
import Derived.Test.YtihjaehkdgdenaaDoorStrs
import Derived.Test.YtihjaehkdgdenaaDoorDeep
import Derived.Test.YtihjaehkdgdenaaDoorProg
import Derived.KernelRfl
namespace Go.Proofs.YtihjaehkdgdenaaDoor
open Go Go.RowKit
set_option linter.unusedVariables false
set_option linter.unusedSectionVars false
set_option linter.unusedSimpArgs false
structure Cell where
  X : Int
  Y : Int
  Layer : Int
instance : DecidableEq Cell := fun a b => decidable_of_iff (a.X = b.X ∧ a.Y = b.Y ∧ a.Layer = b.Layer) (by cases a; cases b; simp)
instance : Inhabited Cell := ⟨⟨default, default, default⟩⟩
instance : Fits Cell := ⟨fun x => Fits.fits x.X ∧ Fits.fits x.Y ∧ Fits.fits x.Layer⟩
instance : Bulk Cell := ⟨fun x => Bulk.bk x.X + (Bulk.bk x.Y + (Bulk.bk x.Layer + 1)), fun x => by first | exact Nat.le_add_left _ _ | omega⟩
instance : Flat Cell := ⟨3, by decide, fun x => [.int .i64 x.X, .int .i64 x.Y, .int .i64 x.Layer], fun _ => rfl, fun _ v hv => by simp only [List.mem_cons, List.not_mem_nil, or_false] at hv; rcases hv with rfl | rfl | rfl <;> rfl⟩
structure Grid where
  W : Int
  H : Int
  Layers : Int
  Blocked : (List Cell)
instance : DecidableEq Grid := fun a b => decidable_of_iff (a.W = b.W ∧ a.H = b.H ∧ a.Layers = b.Layers ∧ a.Blocked = b.Blocked) (by cases a; cases b; simp)
instance : Inhabited Grid := ⟨⟨default, default, default, default⟩⟩
instance : Fits Grid := ⟨fun x => Fits.fits x.W ∧ Fits.fits x.H ∧ Fits.fits x.Layers ∧ Fits.fits x.Blocked⟩
instance : Bulk Grid := ⟨fun x => Bulk.bk x.W + (Bulk.bk x.H + (Bulk.bk x.Layers + (Bulk.bk x.Blocked + 1))), fun x => by first | exact Nat.le_add_left _ _ | omega⟩
instance : Rep Grid := ⟨4, by decide, fun w F cs x => ∃ (uBlockedA : Option Addr) (uBlockedC : Nat), cs = [.int .i64 x.W, .int .i64 x.H, .int .i64 x.Layers, .slice uBlockedA x.Blocked.length uBlockedC] ∧ View w F uBlockedA uBlockedC x.Blocked,
  fun ⟨_, _, h, _⟩ => by rw [h]; rfl, fun ⟨uBlockedA, uBlockedC, h, h0⟩ hF => ⟨uBlockedA, uBlockedC, h, h0.mono hF⟩⟩
structure Costs where
  Step : Int
  Via : Int
  Turn : Int
  Against : Int
instance : DecidableEq Costs := fun a b => decidable_of_iff (a.Step = b.Step ∧ a.Via = b.Via ∧ a.Turn = b.Turn ∧ a.Against = b.Against) (by cases a; cases b; simp)
instance : Inhabited Costs := ⟨⟨default, default, default, default⟩⟩
instance : Fits Costs := ⟨fun x => Fits.fits x.Step ∧ Fits.fits x.Via ∧ Fits.fits x.Turn ∧ Fits.fits x.Against⟩
instance : Bulk Costs := ⟨fun x => Bulk.bk x.Step + (Bulk.bk x.Via + (Bulk.bk x.Turn + (Bulk.bk x.Against + 1))), fun x => by first | exact Nat.le_add_left _ _ | omega⟩
instance : Flat Costs := ⟨4, by decide, fun x => [.int .i64 x.Step, .int .i64 x.Via, .int .i64 x.Turn, .int .i64 x.Against], fun _ => rfl, fun _ v hv => by simp only [List.mem_cons, List.not_mem_nil, or_false] at hv; rcases hv with rfl | rfl | rfl | rfl <;> rfl⟩
structure Routed where
  Net : Str
  Ways : (List (List Cell))
instance : DecidableEq Routed := fun a b => decidable_of_iff (a.Net = b.Net ∧ a.Ways = b.Ways) (by cases a; cases b; simp)
instance : Inhabited Routed := ⟨⟨default, default⟩⟩
instance : Fits Routed := ⟨fun x => Fits.fits x.Net ∧ Fits.fits x.Ways⟩
instance : Bulk Routed := ⟨fun x => Bulk.bk x.Net + (Bulk.bk x.Ways + 1), fun x => by first | exact Nat.le_add_left _ _ | omega⟩
instance : Rep Routed := ⟨2, by decide, fun w F cs x => ∃ (uWaysA : Option Addr) (uWaysC : Nat), cs = [.string (ba x.Net), .slice uWaysA x.Ways.length uWaysC] ∧ View w F uWaysA uWaysC x.Ways,
  fun ⟨_, _, h, _⟩ => by rw [h]; rfl, fun ⟨uWaysA, uWaysC, h, h0⟩ hF => ⟨uWaysA, uWaysC, h, h0.mono hF⟩⟩
structure Task where
  Net : Str
  Pins : (List Cell)
instance : DecidableEq Task := fun a b => decidable_of_iff (a.Net = b.Net ∧ a.Pins = b.Pins) (by cases a; cases b; simp)
instance : Inhabited Task := ⟨⟨default, default⟩⟩
instance : Fits Task := ⟨fun x => Fits.fits x.Net ∧ Fits.fits x.Pins⟩
instance : Bulk Task := ⟨fun x => Bulk.bk x.Net + (Bulk.bk x.Pins + 1), fun x => by first | exact Nat.le_add_left _ _ | omega⟩
instance : Rep Task := ⟨2, by decide, fun w F cs x => ∃ (uPinsA : Option Addr) (uPinsC : Nat), cs = [.string (ba x.Net), .slice uPinsA x.Pins.length uPinsC] ∧ View w F uPinsA uPinsC x.Pins,
  fun ⟨_, _, h, _⟩ => by rw [h]; rfl, fun ⟨uPinsA, uPinsC, h, h0⟩ hF => ⟨uPinsA, uPinsC, h, h0.mono hF⟩⟩
structure RouteFinder where
  g : Grid
  c : Costs
  no : (List Bool)
instance : DecidableEq RouteFinder := fun a b => decidable_of_iff (a.g = b.g ∧ a.c = b.c ∧ a.no = b.no) (by cases a; cases b; simp)
instance : Inhabited RouteFinder := ⟨⟨default, default, default⟩⟩
instance : Fits RouteFinder := ⟨fun x => Fits.fits x.g ∧ Fits.fits x.c ∧ Fits.fits x.no⟩
instance : Bulk RouteFinder := ⟨fun x => Bulk.bk x.g + (Bulk.bk x.c + (Bulk.bk x.no + 1)), fun x => by first | exact Nat.le_add_left _ _ | omega⟩
instance : Rep RouteFinder := ⟨9, by decide, fun w F cs x => ∃ (ug_BlockedA : Option Addr) (ug_BlockedC : Nat) (unoA : Option Addr) (unoC : Nat), cs = [.int .i64 x.g.W, .int .i64 x.g.H, .int .i64 x.g.Layers, .slice ug_BlockedA x.g.Blocked.length ug_BlockedC, .int .i64 x.c.Step, .int .i64 x.c.Via, .int .i64 x.c.Turn, .int .i64 x.c.Against, .slice unoA x.no.length unoC] ∧ View w F ug_BlockedA ug_BlockedC x.g.Blocked ∧ View w F unoA unoC x.no,
  fun ⟨_, _, _, _, h, _, _⟩ => by rw [h]; rfl, fun ⟨ug_BlockedA, ug_BlockedC, unoA, unoC, h, h0, h1⟩ hF => ⟨ug_BlockedA, ug_BlockedC, unoA, unoC, h, h0.mono hF, h1.mono hF⟩⟩
structure Arr2 where
  e0 : Int
  e1 : Int
instance : DecidableEq Arr2 := fun a b => decidable_of_iff (a.e0 = b.e0 ∧ a.e1 = b.e1) (by cases a; cases b; simp)
instance : Inhabited Arr2 := ⟨⟨default, default⟩⟩
instance : Fits Arr2 := ⟨fun x => Fits.fits x.e0 ∧ Fits.fits x.e1⟩
instance : Bulk Arr2 := ⟨fun x => Bulk.bk x.e0 + (Bulk.bk x.e1 + 1), fun x => by first | exact Nat.le_add_left _ _ | omega⟩
instance : Flat Arr2 := ⟨2, by decide, fun x => [.int .i64 x.e0, .int .i64 x.e1], fun _ => rfl, fun _ v hv => by simp only [List.mem_cons, List.not_mem_nil, or_false] at hv; rcases hv with rfl | rfl <;> rfl⟩
structure RouteItem where
  key : Int
  state : Int
instance : DecidableEq RouteItem := fun a b => decidable_of_iff (a.key = b.key ∧ a.state = b.state) (by cases a; cases b; simp)
instance : Inhabited RouteItem := ⟨⟨default, default⟩⟩
instance : Fits RouteItem := ⟨fun x => Fits.fits x.key ∧ Fits.fits x.state⟩
instance : Bulk RouteItem := ⟨fun x => Bulk.bk x.key + (Bulk.bk x.state + 1), fun x => by first | exact Nat.le_add_left _ _ | omega⟩
instance : Flat RouteItem := ⟨2, by decide, fun x => [.int .i64 x.key, .int .i64 x.state], fun _ => rfl, fun _ v hv => by simp only [List.mem_cons, List.not_mem_nil, or_false] at hv; rcases hv with rfl | rfl <;> rfl⟩
structure NetlistUnion where
  up : (List Int)
instance : DecidableEq NetlistUnion := fun a b => decidable_of_iff (a.up = b.up) (by cases a; cases b; simp)
instance : Inhabited NetlistUnion := ⟨⟨default⟩⟩
instance : Fits NetlistUnion := ⟨fun x => Fits.fits x.up⟩
instance : Bulk NetlistUnion := ⟨fun x => Bulk.bk x.up + 1, fun x => by first | exact Nat.le_add_left _ _ | omega⟩
instance : Rep NetlistUnion := ⟨1, by decide, fun w F cs x => ∃ (uupA : Option Addr) (uupC : Nat), cs = [.slice uupA x.up.length uupC] ∧ View w F uupA uupC x.up,
  fun ⟨_, _, h, _⟩ => by rw [h]; rfl, fun ⟨uupA, uupC, h, h0⟩ hF => ⟨uupA, uupC, h, h0.mono hF⟩⟩
theorem eqS30 (x y : Cell) {d : Nat} (w : World) : (Op.equalIn (d + 2) 30 (.agg #[.int .i64 x.X, .int .i64 x.Y, .int .i64 x.Layer]) (.agg #[.int .i64 y.X, .int .i64 y.Y, .int .i64 y.Layer])).run Tryd.prog w = .ok (decide (x = y)) w :=
  eqStruct Tryd.underlying30 (by kernel_rfl) (eqF_cons (by decide) (part_leaf Tryd.isAgg3 rfl) (part_leaf Tryd.isAgg3 rfl) (eq_int Tryd.runUnderlying3 _ _) (eqF_cons (by decide) (part_leaf Tryd.isAgg3 rfl) (part_leaf Tryd.isAgg3 rfl) (eq_int Tryd.runUnderlying3 _ _) (eqF_cons (by decide) (part_leaf Tryd.isAgg3 rfl) (part_leaf Tryd.isAgg3 rfl) (eq_int Tryd.runUnderlying3 _ _) eqF_nil))) (by rw [Bool.eq_iff_iff]; cases x; cases y; simp [and_assoc])
theorem mo : Tryd.prog.follows .mixedOrders = true := by kernel_rfl
theorem info3 : TyInfo Tryd.prog 3 1 8 [.int .i64 0] := ⟨⟨Tryd.t3, _, by kernel_rfl, rfl, rfl, rfl, rfl⟩⟩
theorem info4 : TyInfo Tryd.prog 4 1 1 [.bool false] := ⟨⟨Tryd.t4, _, by kernel_rfl, rfl, rfl, rfl, rfl⟩⟩
theorem info22 : TyInfo Tryd.prog 22 1 24 [.slice none 0 0] := ⟨⟨Tryd.t22, _, by kernel_rfl, rfl, rfl, rfl, rfl⟩⟩
theorem info30 : TyInfo Tryd.prog 30 3 24 [.int .i64 0, .int .i64 0, .int .i64 0] := ⟨⟨Tryd.t30, _, by kernel_rfl, rfl, rfl, rfl, rfl⟩⟩
theorem info57 : TyInfo Tryd.prog 57 1 24 [.slice none 0 0] := ⟨⟨Tryd.t57, _, by kernel_rfl, rfl, rfl, rfl, rfl⟩⟩
theorem info86 : TyInfo Tryd.prog 86 2 16 [.int .i64 0, .int .i64 0] := ⟨⟨Tryd.t86, _, by kernel_rfl, rfl, rfl, rfl, rfl⟩⟩
theorem info97 : TyInfo Tryd.prog 97 2 16 [.int .i64 0, .int .i64 0] := ⟨⟨Tryd.t97, _, by kernel_rfl, rfl, rfl, rfl, rfl⟩⟩
abbrev ek3 : Int → Value := fun x => .int .i64 x
abbrev ek4 : Bool → Value := fun x => .bool x
abbrev ek30 : Cell → Value := fun x => .agg #[.int .i64 x.X, .int .i64 x.Y, .int .i64 x.Layer]
theorem key3 : KeyOk Tryd.prog 3 ek3 := key_int Tryd.runUnderlying3
theorem checkS30 {d : Nat} (x : Cell) : CheckOk Tryd.prog (d + 2) 30 (.agg #[.int .i64 x.X, .int .i64 x.Y, .int .i64 x.Layer]) :=
  check_struct Tryd.runUnderlying30 (fun f hf => by
    simp only [List.mem_cons, List.not_mem_nil, or_false] at hf
    rcases hf with rfl | rfl | rfl
    · exact ⟨_, fun w => (part_leaf Tryd.isAgg3 rfl), (check_int Tryd.runUnderlying3 _)⟩
    · exact ⟨_, fun w => (part_leaf Tryd.isAgg3 rfl), (check_int Tryd.runUnderlying3 _)⟩
    · exact ⟨_, fun w => (part_leaf Tryd.isAgg3 rfl), (check_int Tryd.runUnderlying3 _)⟩)
theorem key30 : KeyOk Tryd.prog 30 ek30 := key_struct (K := Cell) Tryd.runUnderlying30 (fun x => checkS30 x) (fun x y w => eqS30 x y w) (fun x => by simp [Instr.sameBits])
end Go.Proofs.YtihjaehkdgdenaaDoor

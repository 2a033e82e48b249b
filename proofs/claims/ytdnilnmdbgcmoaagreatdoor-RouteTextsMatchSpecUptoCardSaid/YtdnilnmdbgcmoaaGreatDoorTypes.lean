/- Chapter texts of ours, as far as the claim needs them. -/
import Derived.Test.YtdnilnmdbgcmoaaGreatDoorStrs
import Derived.Test.YtdnilnmdbgcmoaaGreatDoorDeep
import Derived.Test.YtdnilnmdbgcmoaaGreatDoorProg
import Derived.KernelRfl
namespace Go.Proofs.YtdnilnmdbgcmoaaGreatDoor
open Go Go.RowKit
set_option linter.unusedVariables false
set_option linter.unusedSectionVars false
set_option linter.unusedSimpArgs false
structure Material where
  Name : Str
  Kind : Int
  Thick : Int
  Grow : Int
instance : DecidableEq Material := fun a b => decidable_of_iff (a.Name = b.Name ∧ a.Kind = b.Kind ∧ a.Thick = b.Thick ∧ a.Grow = b.Grow) (by cases a; cases b; simp)
instance : Inhabited Material := ⟨⟨default, default, default, default⟩⟩
instance : Fits Material := ⟨fun x => Fits.fits x.Name ∧ Fits.fits x.Kind ∧ Fits.fits x.Thick ∧ Fits.fits x.Grow⟩
instance : Bulk Material := ⟨fun x => Bulk.bk x.Name + (Bulk.bk x.Kind + (Bulk.bk x.Thick + (Bulk.bk x.Grow + 1))), fun x => by first | exact Nat.le_add_left _ _ | omega⟩
instance : Flat Material := ⟨4, by decide, fun x => [.string (ba x.Name), .int .i64 x.Kind, .int .i64 x.Thick, .int .i64 x.Grow], fun _ => rfl, fun _ v hv => by simp only [List.mem_cons, List.not_mem_nil, or_false] at hv; rcases hv with rfl | rfl | rfl | rfl <;> rfl⟩
structure Layer where
  Name : Str
  Material : Str
instance : DecidableEq Layer := fun a b => decidable_of_iff (a.Name = b.Name ∧ a.Material = b.Material) (by cases a; cases b; simp)
instance : Inhabited Layer := ⟨⟨default, default⟩⟩
instance : Fits Layer := ⟨fun x => Fits.fits x.Name ∧ Fits.fits x.Material⟩
instance : Bulk Layer := ⟨fun x => Bulk.bk x.Name + (Bulk.bk x.Material + 1), fun x => by first | exact Nat.le_add_left _ _ | omega⟩
instance : Flat Layer := ⟨2, by decide, fun x => [.string (ba x.Name), .string (ba x.Material)], fun _ => rfl, fun _ v hv => by simp only [List.mem_cons, List.not_mem_nil, or_false] at hv; rcases hv with rfl | rfl <;> rfl⟩
structure Point where
  X : Int
  Y : Int
instance : DecidableEq Point := fun a b => decidable_of_iff (a.X = b.X ∧ a.Y = b.Y) (by cases a; cases b; simp)
instance : Inhabited Point := ⟨⟨default, default⟩⟩
instance : Fits Point := ⟨fun x => Fits.fits x.X ∧ Fits.fits x.Y⟩
instance : Bulk Point := ⟨fun x => Bulk.bk x.X + (Bulk.bk x.Y + 1), fun x => by first | exact Nat.le_add_left _ _ | omega⟩
instance : Flat Point := ⟨2, by decide, fun x => [.int .i64 x.X, .int .i64 x.Y], fun _ => rfl, fun _ v hv => by simp only [List.mem_cons, List.not_mem_nil, or_false] at hv; rcases hv with rfl | rfl <;> rfl⟩
structure Place where
  Part : Str
  Typ : Str
  At : Point
  Quarters : Int
  Below : Bool
instance : DecidableEq Place := fun a b => decidable_of_iff (a.Part = b.Part ∧ a.Typ = b.Typ ∧ a.At = b.At ∧ a.Quarters = b.Quarters ∧ a.Below = b.Below) (by cases a; cases b; simp)
instance : Inhabited Place := ⟨⟨default, default, default, default, default⟩⟩
instance : Fits Place := ⟨fun x => Fits.fits x.Part ∧ Fits.fits x.Typ ∧ Fits.fits x.At ∧ Fits.fits x.Quarters ∧ Fits.fits x.Below⟩
instance : Bulk Place := ⟨fun x => Bulk.bk x.Part + (Bulk.bk x.Typ + (Bulk.bk x.At + (Bulk.bk x.Quarters + (Bulk.bk x.Below + 1)))), fun x => by first | exact Nat.le_add_left _ _ | omega⟩
instance : Flat Place := ⟨6, by decide, fun x => [.string (ba x.Part), .string (ba x.Typ), .int .i64 x.At.X, .int .i64 x.At.Y, .int .i64 x.Quarters, .bool x.Below], fun _ => rfl, fun _ v hv => by simp only [List.mem_cons, List.not_mem_nil, or_false] at hv; rcases hv with rfl | rfl | rfl | rfl | rfl | rfl <;> rfl⟩
structure Cell where
  X : Int
  Y : Int
  Layer : Int
instance : DecidableEq Cell := fun a b => decidable_of_iff (a.X = b.X ∧ a.Y = b.Y ∧ a.Layer = b.Layer) (by cases a; cases b; simp)
instance : Inhabited Cell := ⟨⟨default, default, default⟩⟩
instance : Fits Cell := ⟨fun x => Fits.fits x.X ∧ Fits.fits x.Y ∧ Fits.fits x.Layer⟩
instance : Bulk Cell := ⟨fun x => Bulk.bk x.X + (Bulk.bk x.Y + (Bulk.bk x.Layer + 1)), fun x => by first | exact Nat.le_add_left _ _ | omega⟩
instance : Flat Cell := ⟨3, by decide, fun x => [.int .i64 x.X, .int .i64 x.Y, .int .i64 x.Layer], fun _ => rfl, fun _ v hv => by simp only [List.mem_cons, List.not_mem_nil, or_false] at hv; rcases hv with rfl | rfl | rfl <;> rfl⟩
structure Routed where
  Net : Str
  Ways : (List (List Cell))
instance : DecidableEq Routed := fun a b => decidable_of_iff (a.Net = b.Net ∧ a.Ways = b.Ways) (by cases a; cases b; simp)
instance : Inhabited Routed := ⟨⟨default, default⟩⟩
instance : Fits Routed := ⟨fun x => Fits.fits x.Net ∧ Fits.fits x.Ways⟩
instance : Bulk Routed := ⟨fun x => Bulk.bk x.Net + (Bulk.bk x.Ways + 1), fun x => by first | exact Nat.le_add_left _ _ | omega⟩
instance : Rep Routed := ⟨2, by decide, fun w F cs x => ∃ (uWaysA : Option Addr) (uWaysC : Nat), cs = [.string (ba x.Net), .slice uWaysA x.Ways.length uWaysC] ∧ View w F uWaysA uWaysC x.Ways,
  fun ⟨_, _, h, _⟩ => by rw [h]; rfl, fun ⟨uWaysA, uWaysC, h, h0⟩ hF => ⟨uWaysA, uWaysC, h, h0.mono hF⟩⟩
structure RoutedSh where
  Net : Str
  Ways : Sl
instance : Flat RoutedSh := ⟨2, by decide, fun x => [.string (ba x.Net), .slice x.Ways.a x.Ways.n x.Ways.c], fun _ => rfl, fun _ v hv => by simp only [List.mem_cons, List.not_mem_nil, or_false] at hv; rcases hv with rfl | rfl <;> rfl⟩
instance : Row2 Routed (List Cell) RoutedSh := ⟨fun x => x.Ways, fun x A C => ⟨x.Net, ⟨A, x.Ways.length, C⟩⟩, fun h => ⟨_, _, rfl, h⟩, rfl⟩
structure Grid where
  W : Int
  H : Int
  Layers : Int
  Blocked : (List Cell)
instance : DecidableEq Grid := fun a b => decidable_of_iff (a.W = b.W ∧ a.H = b.H ∧ a.Layers = b.Layers ∧ a.Blocked = b.Blocked) (by cases a; cases b; simp)
instance : Inhabited Grid := ⟨⟨default, default, default, default⟩⟩
instance : Fits Grid := ⟨fun x => Fits.fits x.W ∧ Fits.fits x.H ∧ Fits.fits x.Layers ∧ Fits.fits x.Blocked⟩
instance : Bulk Grid := ⟨fun x => Bulk.bk x.W + (Bulk.bk x.H + (Bulk.bk x.Layers + (Bulk.bk x.Blocked + 1))), fun x => by first | exact Nat.le_add_left _ _ | omega⟩
instance : Rep Grid := ⟨4, by decide, fun w F cs x => ∃ (uBlockedA : Option Addr) (uBlockedC : Nat), cs = [.int .i64 x.W, .int .i64 x.H, .int .i64 x.Layers, .slice uBlockedA x.Blocked.length uBlockedC] ∧ View w F uBlockedA uBlockedC x.Blocked,
  fun ⟨_, _, h, _⟩ => by rw [h]; rfl, fun ⟨uBlockedA, uBlockedC, h, h0⟩ hF => ⟨uBlockedA, uBlockedC, h, h0.mono hF⟩⟩
structure Costs where
  Step : Int
  Via : Int
  Turn : Int
  Against : Int
instance : DecidableEq Costs := fun a b => decidable_of_iff (a.Step = b.Step ∧ a.Via = b.Via ∧ a.Turn = b.Turn ∧ a.Against = b.Against) (by cases a; cases b; simp)
instance : Inhabited Costs := ⟨⟨default, default, default, default⟩⟩
instance : Fits Costs := ⟨fun x => Fits.fits x.Step ∧ Fits.fits x.Via ∧ Fits.fits x.Turn ∧ Fits.fits x.Against⟩
instance : Bulk Costs := ⟨fun x => Bulk.bk x.Step + (Bulk.bk x.Via + (Bulk.bk x.Turn + (Bulk.bk x.Against + 1))), fun x => by first | exact Nat.le_add_left _ _ | omega⟩
instance : Flat Costs := ⟨4, by decide, fun x => [.int .i64 x.Step, .int .i64 x.Via, .int .i64 x.Turn, .int .i64 x.Against], fun _ => rfl, fun _ v hv => by simp only [List.mem_cons, List.not_mem_nil, or_false] at hv; rcases hv with rfl | rfl | rfl | rfl <;> rfl⟩
structure RouteFinder where
  g : Grid
  c : Costs
  no : (List Bool)
instance : DecidableEq RouteFinder := fun a b => decidable_of_iff (a.g = b.g ∧ a.c = b.c ∧ a.no = b.no) (by cases a; cases b; simp)
instance : Inhabited RouteFinder := ⟨⟨default, default, default⟩⟩
instance : Fits RouteFinder := ⟨fun x => Fits.fits x.g ∧ Fits.fits x.c ∧ Fits.fits x.no⟩
instance : Bulk RouteFinder := ⟨fun x => Bulk.bk x.g + (Bulk.bk x.c + (Bulk.bk x.no + 1)), fun x => by first | exact Nat.le_add_left _ _ | omega⟩
instance : Rep RouteFinder := ⟨9, by decide, fun w F cs x => ∃ (ug_BlockedA : Option Addr) (ug_BlockedC : Nat) (unoA : Option Addr) (unoC : Nat), cs = [.int .i64 x.g.W, .int .i64 x.g.H, .int .i64 x.g.Layers, .slice ug_BlockedA x.g.Blocked.length ug_BlockedC, .int .i64 x.c.Step, .int .i64 x.c.Via, .int .i64 x.c.Turn, .int .i64 x.c.Against, .slice unoA x.no.length unoC] ∧ View w F ug_BlockedA ug_BlockedC x.g.Blocked ∧ View w F unoA unoC x.no,
  fun ⟨_, _, _, _, h, _, _⟩ => by rw [h]; rfl, fun ⟨ug_BlockedA, ug_BlockedC, unoA, unoC, h, h0, h1⟩ hF => ⟨ug_BlockedA, ug_BlockedC, unoA, unoC, h, h0.mono hF, h1.mono hF⟩⟩
structure RouteItem where
  key : Int
  state : Int
instance : DecidableEq RouteItem := fun a b => decidable_of_iff (a.key = b.key ∧ a.state = b.state) (by cases a; cases b; simp)
instance : Inhabited RouteItem := ⟨⟨default, default⟩⟩
instance : Fits RouteItem := ⟨fun x => Fits.fits x.key ∧ Fits.fits x.state⟩
instance : Bulk RouteItem := ⟨fun x => Bulk.bk x.key + (Bulk.bk x.state + 1), fun x => by first | exact Nat.le_add_left _ _ | omega⟩
instance : Flat RouteItem := ⟨2, by decide, fun x => [.int .i64 x.key, .int .i64 x.state], fun _ => rfl, fun _ v hv => by simp only [List.mem_cons, List.not_mem_nil, or_false] at hv; rcases hv with rfl | rfl <;> rfl⟩
theorem eqS142 (x y : Cell) {d : Nat} (w : World) : (Op.equalIn (d + 2) 142 (.agg #[.int .i64 x.X, .int .i64 x.Y, .int .i64 x.Layer]) (.agg #[.int .i64 y.X, .int .i64 y.Y, .int .i64 y.Layer])).run Tryz.prog w = .ok (decide (x = y)) w :=
  eqStruct Tryz.underlying142 (by kernel_rfl) (eqF_cons (by decide) (part_leaf Tryz.isAgg3 rfl) (part_leaf Tryz.isAgg3 rfl) (eq_int Tryz.runUnderlying3 _ _) (eqF_cons (by decide) (part_leaf Tryz.isAgg3 rfl) (part_leaf Tryz.isAgg3 rfl) (eq_int Tryz.runUnderlying3 _ _) (eqF_cons (by decide) (part_leaf Tryz.isAgg3 rfl) (part_leaf Tryz.isAgg3 rfl) (eq_int Tryz.runUnderlying3 _ _) eqF_nil))) (by rw [Bool.eq_iff_iff]; cases x; cases y; simp [and_assoc])
theorem mo : Tryz.prog.follows .mixedOrders = true := by kernel_rfl
theorem info3 : TyInfo Tryz.prog 3 1 8 [.int .i64 0] := ⟨⟨Tryz.t3, _, by kernel_rfl, rfl, rfl, rfl, rfl⟩⟩
theorem info4 : TyInfo Tryz.prog 4 1 1 [.bool false] := ⟨⟨Tryz.t4, _, by kernel_rfl, rfl, rfl, rfl, rfl⟩⟩
theorem info130 : TyInfo Tryz.prog 130 2 40 [.string (ba []), .slice none 0 0] := ⟨⟨Tryz.t130, _, by kernel_rfl, rfl, rfl, rfl, rfl⟩⟩
theorem info131 : TyInfo Tryz.prog 131 1 24 [.slice none 0 0] := ⟨⟨Tryz.t131, _, by kernel_rfl, rfl, rfl, rfl, rfl⟩⟩
theorem info142 : TyInfo Tryz.prog 142 3 24 [.int .i64 0, .int .i64 0, .int .i64 0] := ⟨⟨Tryz.t142, _, by kernel_rfl, rfl, rfl, rfl, rfl⟩⟩
theorem info248 : TyInfo Tryz.prog 248 2 16 [.int .i64 0, .int .i64 0] := ⟨⟨Tryz.t248, _, by kernel_rfl, rfl, rfl, rfl, rfl⟩⟩
end Go.Proofs.YtdnilnmdbgcmoaaGreatDoor

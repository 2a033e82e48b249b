/- Chapter texts of ours, as far as the claim needs them. -/
import Derived.Test.YtihjaehkdgdenaaMark
import Derived.Test.YtihjaehkdgdenaaProg
import Derived.KernelRfl
namespace Go.Proofs.Ytihjaehkdgdenaa
open Go Go.RowKit
set_option linter.unusedVariables false
structure Cell where
  X : Int
  Y : Int
  Layer : Int
instance : DecidableEq Cell := fun a b => decidable_of_iff (a.X = b.X ∧ a.Y = b.Y ∧ a.Layer = b.Layer) (by cases a; cases b; simp)
instance : Inhabited Cell := ⟨⟨default, default, default⟩⟩
instance : Fits Cell := ⟨fun x => Fits.fits x.X ∧ Fits.fits x.Y ∧ Fits.fits x.Layer⟩
instance : Flat Cell := ⟨3, by decide, fun x => [.int .i64 x.X, .int .i64 x.Y, .int .i64 x.Layer], fun _ => rfl, fun _ v hv => by simp only [List.mem_cons, List.not_mem_nil, or_false] at hv; rcases hv with rfl | rfl | rfl <;> rfl⟩
structure Grid where
  W : Int
  H : Int
  Layers : Int
  Blocked : (List Cell)
instance : DecidableEq Grid := fun a b => decidable_of_iff (a.W = b.W ∧ a.H = b.H ∧ a.Layers = b.Layers ∧ a.Blocked = b.Blocked) (by cases a; cases b; simp)
instance : Inhabited Grid := ⟨⟨default, default, default, default⟩⟩
instance : Fits Grid := ⟨fun x => Fits.fits x.W ∧ Fits.fits x.H ∧ Fits.fits x.Layers ∧ Fits.fits x.Blocked⟩
instance : Rep Grid := ⟨4, by decide, fun w F cs x => ∃ (uBlockedA : Option Addr) (uBlockedC : Nat), cs = [.int .i64 x.W, .int .i64 x.H, .int .i64 x.Layers, .slice uBlockedA x.Blocked.length uBlockedC] ∧ View w F uBlockedA uBlockedC x.Blocked,
  fun ⟨_, _, h, _⟩ => by rw [h]; rfl, fun ⟨uBlockedA, uBlockedC, h, h0⟩ hF => ⟨uBlockedA, uBlockedC, h, h0.mono hF⟩⟩
structure Costs where
  Step : Int
  Via : Int
  Turn : Int
  Against : Int
instance : DecidableEq Costs := fun a b => decidable_of_iff (a.Step = b.Step ∧ a.Via = b.Via ∧ a.Turn = b.Turn ∧ a.Against = b.Against) (by cases a; cases b; simp)
instance : Inhabited Costs := ⟨⟨default, default, default, default⟩⟩
instance : Fits Costs := ⟨fun x => Fits.fits x.Step ∧ Fits.fits x.Via ∧ Fits.fits x.Turn ∧ Fits.fits x.Against⟩
instance : Flat Costs := ⟨4, by decide, fun x => [.int .i64 x.Step, .int .i64 x.Via, .int .i64 x.Turn, .int .i64 x.Against], fun _ => rfl, fun _ v hv => by simp only [List.mem_cons, List.not_mem_nil, or_false] at hv; rcases hv with rfl | rfl | rfl | rfl <;> rfl⟩
structure R7Worth where
  cost : Int
  cells : Int
instance : DecidableEq R7Worth := fun a b => decidable_of_iff (a.cost = b.cost ∧ a.cells = b.cells) (by cases a; cases b; simp)
instance : Inhabited R7Worth := ⟨⟨default, default⟩⟩
instance : Fits R7Worth := ⟨fun x => Fits.fits x.cost ∧ Fits.fits x.cells⟩
instance : Flat R7Worth := ⟨2, by decide, fun x => [.int .i64 x.cost, .int .i64 x.cells], fun _ => rfl, fun _ v hv => by simp only [List.mem_cons, List.not_mem_nil, or_false] at hv; rcases hv with rfl | rfl <;> rfl⟩
structure RouteFinder where
  g : Grid
  c : Costs
  no : (List Bool)
instance : DecidableEq RouteFinder := fun a b => decidable_of_iff (a.g = b.g ∧ a.c = b.c ∧ a.no = b.no) (by cases a; cases b; simp)
instance : Inhabited RouteFinder := ⟨⟨default, default, default⟩⟩
instance : Fits RouteFinder := ⟨fun x => Fits.fits x.g ∧ Fits.fits x.c ∧ Fits.fits x.no⟩
instance : Rep RouteFinder := ⟨9, by decide, fun w F cs x => ∃ (ug_BlockedA : Option Addr) (ug_BlockedC : Nat) (unoA : Option Addr) (unoC : Nat), cs = [.int .i64 x.g.W, .int .i64 x.g.H, .int .i64 x.g.Layers, .slice ug_BlockedA x.g.Blocked.length ug_BlockedC, .int .i64 x.c.Step, .int .i64 x.c.Via, .int .i64 x.c.Turn, .int .i64 x.c.Against, .slice unoA x.no.length unoC] ∧ View w F ug_BlockedA ug_BlockedC x.g.Blocked ∧ View w F unoA unoC x.no,
  fun ⟨_, _, _, _, h, _, _⟩ => by rw [h]; rfl, fun ⟨ug_BlockedA, ug_BlockedC, unoA, unoC, h, h0, h1⟩ hF => ⟨ug_BlockedA, ug_BlockedC, unoA, unoC, h, h0.mono hF, h1.mono hF⟩⟩
structure R7Field where
  g : Grid
  c : Costs
  blocked : (List Bool)
  best : (List R7Worth)
instance : DecidableEq R7Field := fun a b => decidable_of_iff (a.g = b.g ∧ a.c = b.c ∧ a.blocked = b.blocked ∧ a.best = b.best) (by cases a; cases b; simp)
instance : Inhabited R7Field := ⟨⟨default, default, default, default⟩⟩
instance : Fits R7Field := ⟨fun x => Fits.fits x.g ∧ Fits.fits x.c ∧ Fits.fits x.blocked ∧ Fits.fits x.best⟩
instance : Rep R7Field := ⟨10, by decide, fun w F cs x => ∃ (ug_BlockedA : Option Addr) (ug_BlockedC : Nat) (ublockedA : Option Addr) (ublockedC : Nat) (ubestA : Option Addr) (ubestC : Nat), cs = [.int .i64 x.g.W, .int .i64 x.g.H, .int .i64 x.g.Layers, .slice ug_BlockedA x.g.Blocked.length ug_BlockedC, .int .i64 x.c.Step, .int .i64 x.c.Via, .int .i64 x.c.Turn, .int .i64 x.c.Against, .slice ublockedA x.blocked.length ublockedC, .slice ubestA x.best.length ubestC] ∧ View w F ug_BlockedA ug_BlockedC x.g.Blocked ∧ View w F ublockedA ublockedC x.blocked ∧ View w F ubestA ubestC x.best,
  fun ⟨_, _, _, _, _, _, h, _, _, _⟩ => by rw [h]; rfl, fun ⟨ug_BlockedA, ug_BlockedC, ublockedA, ublockedC, ubestA, ubestC, h, h0, h1, h2⟩ hF => ⟨ug_BlockedA, ug_BlockedC, ublockedA, ublockedC, ubestA, ubestC, h, h0.mono hF, h1.mono hF, h2.mono hF⟩⟩
structure R7Entry where
  worth : R7Worth
  state : Int
instance : DecidableEq R7Entry := fun a b => decidable_of_iff (a.worth = b.worth ∧ a.state = b.state) (by cases a; cases b; simp)
instance : Inhabited R7Entry := ⟨⟨default, default⟩⟩
instance : Fits R7Entry := ⟨fun x => Fits.fits x.worth ∧ Fits.fits x.state⟩
instance : Flat R7Entry := ⟨3, by decide, fun x => [.int .i64 x.worth.cost, .int .i64 x.worth.cells, .int .i64 x.state], fun _ => rfl, fun _ v hv => by simp only [List.mem_cons, List.not_mem_nil, or_false] at hv; rcases hv with rfl | rfl | rfl <;> rfl⟩
structure R7Heap where
  l : (List R7Entry)
instance : DecidableEq R7Heap := fun a b => decidable_of_iff (a.l = b.l) (by cases a; cases b; simp)
instance : Inhabited R7Heap := ⟨⟨default⟩⟩
instance : Fits R7Heap := ⟨fun x => Fits.fits x.l⟩
instance : Rep R7Heap := ⟨1, by decide, fun w F cs x => ∃ (ulA : Option Addr) (ulC : Nat), cs = [.slice ulA x.l.length ulC] ∧ View w F ulA ulC x.l,
  fun ⟨_, _, h, _⟩ => by rw [h]; rfl, fun ⟨ulA, ulC, h, h0⟩ hF => ⟨ulA, ulC, h, h0.mono hF⟩⟩
structure RouteItem where
  key : Int
  state : Int
instance : DecidableEq RouteItem := fun a b => decidable_of_iff (a.key = b.key ∧ a.state = b.state) (by cases a; cases b; simp)
instance : Inhabited RouteItem := ⟨⟨default, default⟩⟩
instance : Fits RouteItem := ⟨fun x => Fits.fits x.key ∧ Fits.fits x.state⟩
instance : Flat RouteItem := ⟨2, by decide, fun x => [.int .i64 x.key, .int .i64 x.state], fun _ => rfl, fun _ v hv => by simp only [List.mem_cons, List.not_mem_nil, or_false] at hv; rcases hv with rfl | rfl <;> rfl⟩
theorem eqS28 (x y : Cell) {d : Nat} (w : World) : (Op.equalIn (d + 2) 28 (.agg #[.int .i64 x.X, .int .i64 x.Y, .int .i64 x.Layer]) (.agg #[.int .i64 y.X, .int .i64 y.Y, .int .i64 y.Layer])).run Try.prog w = .ok (decide (x = y)) w :=
  eqStruct Try.underlying28 (by kernel_rfl) (eqF_cons (by decide) (part_leaf Try.isAgg3 rfl) (part_leaf Try.isAgg3 rfl) (eq_int Try.runUnderlying3 _ _) (eqF_cons (by decide) (part_leaf Try.isAgg3 rfl) (part_leaf Try.isAgg3 rfl) (eq_int Try.runUnderlying3 _ _) (eqF_cons (by decide) (part_leaf Try.isAgg3 rfl) (part_leaf Try.isAgg3 rfl) (eq_int Try.runUnderlying3 _ _) eqF_nil))) (by rw [Bool.eq_iff_iff]; cases x; cases y; simp [and_assoc])
theorem mo : Try.prog.follows .mixedOrders = true := by kernel_rfl
theorem info3 : TyInfo Try.prog 3 1 8 [.int .i64 0] := ⟨⟨Try.t3, _, by kernel_rfl, rfl, rfl, rfl, rfl⟩⟩
theorem info4 : TyInfo Try.prog 4 1 1 [.bool false] := ⟨⟨Try.t4, _, by kernel_rfl, rfl, rfl, rfl, rfl⟩⟩
theorem info22 : TyInfo Try.prog 22 1 24 [.slice none 0 0] := ⟨⟨Try.t22, _, by kernel_rfl, rfl, rfl, rfl, rfl⟩⟩
theorem info28 : TyInfo Try.prog 28 3 24 [.int .i64 0, .int .i64 0, .int .i64 0] := ⟨⟨Try.t28, _, by kernel_rfl, rfl, rfl, rfl, rfl⟩⟩
theorem info60 : TyInfo Try.prog 60 2 16 [.int .i64 0, .int .i64 0] := ⟨⟨Try.t60, _, by kernel_rfl, rfl, rfl, rfl, rfl⟩⟩
theorem info61 : TyInfo Try.prog 61 1 8 [.pointer none] := ⟨⟨Try.t61, _, by kernel_rfl, rfl, rfl, rfl, rfl⟩⟩
theorem info102 : TyInfo Try.prog 102 3 24 [.int .i64 0, .int .i64 0, .int .i64 0] := ⟨⟨Try.t102, _, by kernel_rfl, rfl, rfl, rfl, rfl⟩⟩
theorem info122 : TyInfo Try.prog 122 2 16 [.int .i64 0, .int .i64 0] := ⟨⟨Try.t122, _, by kernel_rfl, rfl, rfl, rfl, rfl⟩⟩
end Go.Proofs.Ytihjaehkdgdenaa

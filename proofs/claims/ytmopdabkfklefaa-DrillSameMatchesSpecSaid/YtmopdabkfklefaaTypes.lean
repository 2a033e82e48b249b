/- The data of this seat's functions, and how they lie in cells. -/
import Derived.Test.YtmopdabkfklefaaStrs
import Derived.Test.YtmopdabkfklefaaProg
import Derived.KernelRfl
namespace Go.Proofs.Ytmopdabkfklefaa
open Go Go.RowKit
set_option linter.unusedVariables false

structure Point where
  X : Int
  Y : Int
instance : DecidableEq Point := fun a b => decidable_of_iff (a.X = b.X ∧ a.Y = b.Y) (by cases a; cases b; simp)
instance : Inhabited Point := ⟨⟨default, default⟩⟩
instance : Fits Point := ⟨fun x => Fits.fits x.X ∧ Fits.fits x.Y⟩
instance : Bulk Point := ⟨fun x => Bulk.bk x.X + (Bulk.bk x.Y + 1), fun x => by first | exact Nat.le_add_left _ _ | omega⟩
instance : Flat Point := ⟨2, by decide, fun x => [.int .i64 x.X, .int .i64 x.Y], fun _ => rfl, fun _ v hv => by simp only [List.mem_cons, List.not_mem_nil, or_false] at hv; rcases hv with rfl | rfl <;> rfl⟩
structure Pair where
  A : Int
  B : Int
  Distance : Int
instance : DecidableEq Pair := fun a b => decidable_of_iff (a.A = b.A ∧ a.B = b.B ∧ a.Distance = b.Distance) (by cases a; cases b; simp)
instance : Inhabited Pair := ⟨⟨default, default, default⟩⟩
instance : Fits Pair := ⟨fun x => Fits.fits x.A ∧ Fits.fits x.B ∧ Fits.fits x.Distance⟩
instance : Bulk Pair := ⟨fun x => Bulk.bk x.A + (Bulk.bk x.B + (Bulk.bk x.Distance + 1)), fun x => by first | exact Nat.le_add_left _ _ | omega⟩
instance : Flat Pair := ⟨3, by decide, fun x => [.int .i64 x.A, .int .i64 x.B, .int .i64 x.Distance], fun _ => rfl, fun _ v hv => by simp only [List.mem_cons, List.not_mem_nil, or_false] at hv; rcases hv with rfl | rfl | rfl <;> rfl⟩
structure Hole where
  At : Point
  Size : Int
  Depth : Int
  Plated : Bool
instance : DecidableEq Hole := fun a b => decidable_of_iff (a.At = b.At ∧ a.Size = b.Size ∧ a.Depth = b.Depth ∧ a.Plated = b.Plated) (by cases a; cases b; simp)
instance : Inhabited Hole := ⟨⟨default, default, default, default⟩⟩
instance : Fits Hole := ⟨fun x => Fits.fits x.At ∧ Fits.fits x.Size ∧ Fits.fits x.Depth ∧ Fits.fits x.Plated⟩
instance : Bulk Hole := ⟨fun x => Bulk.bk x.At + (Bulk.bk x.Size + (Bulk.bk x.Depth + (Bulk.bk x.Plated + 1))), fun x => by first | exact Nat.le_add_left _ _ | omega⟩
instance : Flat Hole := ⟨5, by decide, fun x => [.int .i64 x.At.X, .int .i64 x.At.Y, .int .i64 x.Size, .int .i64 x.Depth, .bool x.Plated], fun _ => rfl, fun _ v hv => by simp only [List.mem_cons, List.not_mem_nil, or_false] at hv; rcases hv with rfl | rfl | rfl | rfl | rfl <;> rfl⟩
structure Job where
  Tool : Str
  Holes : (List Hole)
instance : DecidableEq Job := fun a b => decidable_of_iff (a.Tool = b.Tool ∧ a.Holes = b.Holes) (by cases a; cases b; simp)
instance : Inhabited Job := ⟨⟨default, default⟩⟩
instance : Fits Job := ⟨fun x => Fits.fits x.Tool ∧ Fits.fits x.Holes⟩
instance : Bulk Job := ⟨fun x => Bulk.bk x.Tool + (Bulk.bk x.Holes + 1), fun x => by first | exact Nat.le_add_left _ _ | omega⟩
instance : Rep Job := ⟨2, by decide, fun w F cs x => ∃ (uHolesA : Option Addr) (uHolesC : Nat), cs = [.string (ba x.Tool), .slice uHolesA x.Holes.length uHolesC] ∧ View w F uHolesA uHolesC x.Holes,
  fun ⟨_, _, h, _⟩ => by rw [h]; rfl, fun ⟨uHolesA, uHolesC, h, h0⟩ hF => ⟨uHolesA, uHolesC, h, h0.mono hF⟩⟩
structure JobSh where
  Tool : Str
  Holes : Sl
instance : Flat JobSh := ⟨2, by decide, fun x => [.string (ba x.Tool), .slice x.Holes.a x.Holes.n x.Holes.c], fun _ => rfl, fun _ v hv => by simp only [List.mem_cons, List.not_mem_nil, or_false] at hv; rcases hv with rfl | rfl <;> rfl⟩
instance : Row1 Job Hole JobSh := ⟨fun x => x.Holes, fun x A C => ⟨x.Tool, ⟨A, x.Holes.length, C⟩⟩, fun h => ⟨_, _, rfl, h⟩, rfl⟩
structure Bit where
  Name : Str
  Size : Int
  Life : Int
  Stack : Int
instance : DecidableEq Bit := fun a b => decidable_of_iff (a.Name = b.Name ∧ a.Size = b.Size ∧ a.Life = b.Life ∧ a.Stack = b.Stack) (by cases a; cases b; simp)
instance : Inhabited Bit := ⟨⟨default, default, default, default⟩⟩
instance : Fits Bit := ⟨fun x => Fits.fits x.Name ∧ Fits.fits x.Size ∧ Fits.fits x.Life ∧ Fits.fits x.Stack⟩
instance : Bulk Bit := ⟨fun x => Bulk.bk x.Name + (Bulk.bk x.Size + (Bulk.bk x.Life + (Bulk.bk x.Stack + 1))), fun x => by first | exact Nat.le_add_left _ _ | omega⟩
instance : Flat Bit := ⟨4, by decide, fun x => [.string (ba x.Name), .int .i64 x.Size, .int .i64 x.Life, .int .i64 x.Stack], fun _ => rfl, fun _ v hv => by simp only [List.mem_cons, List.not_mem_nil, or_false] at hv; rcases hv with rfl | rfl | rfl | rfl <;> rfl⟩
structure Change where
  Tool : Str
  Job : Int
  Hole : Int
instance : DecidableEq Change := fun a b => decidable_of_iff (a.Tool = b.Tool ∧ a.Job = b.Job ∧ a.Hole = b.Hole) (by cases a; cases b; simp)
instance : Inhabited Change := ⟨⟨default, default, default⟩⟩
instance : Fits Change := ⟨fun x => Fits.fits x.Tool ∧ Fits.fits x.Job ∧ Fits.fits x.Hole⟩
instance : Bulk Change := ⟨fun x => Bulk.bk x.Tool + (Bulk.bk x.Job + (Bulk.bk x.Hole + 1)), fun x => by first | exact Nat.le_add_left _ _ | omega⟩
instance : Flat Change := ⟨3, by decide, fun x => [.string (ba x.Tool), .int .i64 x.Job, .int .i64 x.Hole], fun _ => rfl, fun _ v hv => by simp only [List.mem_cons, List.not_mem_nil, or_false] at hv; rcases hv with rfl | rfl | rfl <;> rfl⟩
structure R8Search where
  l : (List Point)
  used : (List Bool)
  now : (List Int)
  best : (List Int)
  most : Int
instance : DecidableEq R8Search := fun a b => decidable_of_iff (a.l = b.l ∧ a.used = b.used ∧ a.now = b.now ∧ a.best = b.best ∧ a.most = b.most) (by cases a; cases b; simp)
instance : Inhabited R8Search := ⟨⟨default, default, default, default, default⟩⟩
instance : Fits R8Search := ⟨fun x => Fits.fits x.l ∧ Fits.fits x.used ∧ Fits.fits x.now ∧ Fits.fits x.best ∧ Fits.fits x.most⟩
instance : Bulk R8Search := ⟨fun x => Bulk.bk x.l + (Bulk.bk x.used + (Bulk.bk x.now + (Bulk.bk x.best + (Bulk.bk x.most + 1)))), fun x => by first | exact Nat.le_add_left _ _ | omega⟩
instance : Rep R8Search := ⟨5, by decide, fun w F cs x => ∃ (ulA : Option Addr) (ulC : Nat) (uusedA : Option Addr) (uusedC : Nat) (unowA : Option Addr) (unowC : Nat) (ubestA : Option Addr) (ubestC : Nat), cs = [.slice ulA x.l.length ulC, .slice uusedA x.used.length uusedC, .slice unowA x.now.length unowC, .slice ubestA x.best.length ubestC, .int .i64 x.most] ∧ View w F ulA ulC x.l ∧ View w F uusedA uusedC x.used ∧ View w F unowA unowC x.now ∧ View w F ubestA ubestC x.best,
  fun ⟨_, _, _, _, _, _, _, _, h, _, _, _, _⟩ => by rw [h]; rfl, fun ⟨ulA, ulC, uusedA, uusedC, unowA, unowC, ubestA, ubestC, h, h0, h1, h2, h3⟩ hF => ⟨ulA, ulC, uusedA, uusedC, unowA, unowC, ubestA, ubestC, h, h0.mono hF, h1.mono hF, h2.mono hF, h3.mono hF⟩⟩
structure DrillDrilled where
  tool : Str
  hole : Hole
instance : DecidableEq DrillDrilled := fun a b => decidable_of_iff (a.tool = b.tool ∧ a.hole = b.hole) (by cases a; cases b; simp)
instance : Inhabited DrillDrilled := ⟨⟨default, default⟩⟩
instance : Fits DrillDrilled := ⟨fun x => Fits.fits x.tool ∧ Fits.fits x.hole⟩
instance : Bulk DrillDrilled := ⟨fun x => Bulk.bk x.tool + (Bulk.bk x.hole + 1), fun x => by first | exact Nat.le_add_left _ _ | omega⟩
instance : Flat DrillDrilled := ⟨6, by decide, fun x => [.string (ba x.tool), .int .i64 x.hole.At.X, .int .i64 x.hole.At.Y, .int .i64 x.hole.Size, .int .i64 x.hole.Depth, .bool x.hole.Plated], fun _ => rfl, fun _ v hv => by simp only [List.mem_cons, List.not_mem_nil, or_false] at hv; rcases hv with rfl | rfl | rfl | rfl | rfl | rfl <;> rfl⟩
theorem eqS24 (x y : Point) {d : Nat} (w : World) : (Op.equalIn (d + 2) 24 (.agg #[.int .i64 x.X, .int .i64 x.Y]) (.agg #[.int .i64 y.X, .int .i64 y.Y])).run Try.prog w = .ok (decide (x = y)) w :=
  eqStruct Try.underlying24 (by kernel_rfl) (eqF_cons (by decide) (part_leaf Try.isAgg3 rfl) (part_leaf Try.isAgg3 rfl) (eq_int Try.runUnderlying3 _ _) (eqF_cons (by decide) (part_leaf Try.isAgg3 rfl) (part_leaf Try.isAgg3 rfl) (eq_int Try.runUnderlying3 _ _) eqF_nil)) (by rw [Bool.eq_iff_iff]; cases x; cases y; simp [and_assoc])
theorem eqS39 (x y : Pair) {d : Nat} (w : World) : (Op.equalIn (d + 2) 39 (.agg #[.int .i64 x.A, .int .i64 x.B, .int .i64 x.Distance]) (.agg #[.int .i64 y.A, .int .i64 y.B, .int .i64 y.Distance])).run Try.prog w = .ok (decide (x = y)) w :=
  eqStruct Try.underlying39 (by kernel_rfl) (eqF_cons (by decide) (part_leaf Try.isAgg3 rfl) (part_leaf Try.isAgg3 rfl) (eq_int Try.runUnderlying3 _ _) (eqF_cons (by decide) (part_leaf Try.isAgg3 rfl) (part_leaf Try.isAgg3 rfl) (eq_int Try.runUnderlying3 _ _) (eqF_cons (by decide) (part_leaf Try.isAgg3 rfl) (part_leaf Try.isAgg3 rfl) (eq_int Try.runUnderlying3 _ _) eqF_nil))) (by rw [Bool.eq_iff_iff]; cases x; cases y; simp [and_assoc])
theorem eqS56 (x y : Bit) {d : Nat} (w : World) : (Op.equalIn (d + 2) 56 (.agg #[.string (ba x.Name), .int .i64 x.Size, .int .i64 x.Life, .int .i64 x.Stack]) (.agg #[.string (ba y.Name), .int .i64 y.Size, .int .i64 y.Life, .int .i64 y.Stack])).run Try.prog w = .ok (decide (x = y)) w :=
  eqStruct Try.underlying56 (by kernel_rfl) (eqF_cons (by decide) (part_leaf Try.isAgg9 rfl) (part_leaf Try.isAgg9 rfl) (eq_str Try.runUnderlying9 _ _) (eqF_cons (by decide) (part_leaf Try.isAgg3 rfl) (part_leaf Try.isAgg3 rfl) (eq_int Try.runUnderlying3 _ _) (eqF_cons (by decide) (part_leaf Try.isAgg3 rfl) (part_leaf Try.isAgg3 rfl) (eq_int Try.runUnderlying3 _ _) (eqF_cons (by decide) (part_leaf Try.isAgg3 rfl) (part_leaf Try.isAgg3 rfl) (eq_int Try.runUnderlying3 _ _) eqF_nil)))) (by rw [Bool.eq_iff_iff]; cases x; cases y; simp [and_assoc])
theorem eqS58 (x y : Change) {d : Nat} (w : World) : (Op.equalIn (d + 2) 58 (.agg #[.string (ba x.Tool), .int .i64 x.Job, .int .i64 x.Hole]) (.agg #[.string (ba y.Tool), .int .i64 y.Job, .int .i64 y.Hole])).run Try.prog w = .ok (decide (x = y)) w :=
  eqStruct Try.underlying58 (by kernel_rfl) (eqF_cons (by decide) (part_leaf Try.isAgg9 rfl) (part_leaf Try.isAgg9 rfl) (eq_str Try.runUnderlying9 _ _) (eqF_cons (by decide) (part_leaf Try.isAgg3 rfl) (part_leaf Try.isAgg3 rfl) (eq_int Try.runUnderlying3 _ _) (eqF_cons (by decide) (part_leaf Try.isAgg3 rfl) (part_leaf Try.isAgg3 rfl) (eq_int Try.runUnderlying3 _ _) eqF_nil))) (by rw [Bool.eq_iff_iff]; cases x; cases y; simp [and_assoc])
theorem eqS76 (x y : Hole) {d : Nat} (w : World) : (Op.equalIn (d + 3) 76 (.agg #[.int .i64 x.At.X, .int .i64 x.At.Y, .int .i64 x.Size, .int .i64 x.Depth, .bool x.Plated]) (.agg #[.int .i64 y.At.X, .int .i64 y.At.Y, .int .i64 y.Size, .int .i64 y.Depth, .bool y.Plated])).run Try.prog w = .ok (decide (x = y)) w :=
  eqStruct Try.underlying76 (by kernel_rfl) (eqF_cons (by decide) (part_agg Try.isAgg24 Try.sizeOf24 rfl) (part_agg Try.isAgg24 Try.sizeOf24 rfl) (eqS24 _ _ _) (eqF_cons (by decide) (part_leaf Try.isAgg3 rfl) (part_leaf Try.isAgg3 rfl) (eq_int Try.runUnderlying3 _ _) (eqF_cons (by decide) (part_leaf Try.isAgg3 rfl) (part_leaf Try.isAgg3 rfl) (eq_int Try.runUnderlying3 _ _) (eqF_cons (by decide) (part_leaf Try.isAgg4 rfl) (part_leaf Try.isAgg4 rfl) (eq_bool Try.runUnderlying4 _ _) eqF_nil)))) (by rw [Bool.eq_iff_iff]; cases x; cases y; simp [and_assoc])
theorem eqS104 (x y : DrillDrilled) {d : Nat} (w : World) : (Op.equalIn (d + 4) 104 (.agg #[.string (ba x.tool), .int .i64 x.hole.At.X, .int .i64 x.hole.At.Y, .int .i64 x.hole.Size, .int .i64 x.hole.Depth, .bool x.hole.Plated]) (.agg #[.string (ba y.tool), .int .i64 y.hole.At.X, .int .i64 y.hole.At.Y, .int .i64 y.hole.Size, .int .i64 y.hole.Depth, .bool y.hole.Plated])).run Try.prog w = .ok (decide (x = y)) w :=
  eqStruct Try.underlying104 (by kernel_rfl) (eqF_cons (by decide) (part_leaf Try.isAgg9 rfl) (part_leaf Try.isAgg9 rfl) (eq_str Try.runUnderlying9 _ _) (eqF_cons (by decide) (part_agg Try.isAgg76 Try.sizeOf76 rfl) (part_agg Try.isAgg76 Try.sizeOf76 rfl) (eqS76 _ _ _) eqF_nil)) (by rw [Bool.eq_iff_iff]; cases x; cases y; simp [and_assoc])
theorem mo : Try.prog.follows .mixedOrders = true := by kernel_rfl
theorem info3 : TyInfo Try.prog 3 1 8 [.int .i64 0] := ⟨⟨Try.t3, _, by kernel_rfl, rfl, rfl, rfl, rfl⟩⟩
theorem info4 : TyInfo Try.prog 4 1 1 [.bool false] := ⟨⟨Try.t4, _, by kernel_rfl, rfl, rfl, rfl, rfl⟩⟩
theorem info24 : TyInfo Try.prog 24 2 16 [.int .i64 0, .int .i64 0] := ⟨⟨Try.t24, _, by kernel_rfl, rfl, rfl, rfl, rfl⟩⟩
theorem info28 : TyInfo Try.prog 28 1 24 [.slice none 0 0] := ⟨⟨Try.t28, _, by kernel_rfl, rfl, rfl, rfl, rfl⟩⟩
theorem info34 : TyInfo Try.prog 34 1 24 [.slice none 0 0] := ⟨⟨Try.t34, _, by kernel_rfl, rfl, rfl, rfl, rfl⟩⟩
theorem info39 : TyInfo Try.prog 39 3 24 [.int .i64 0, .int .i64 0, .int .i64 0] := ⟨⟨Try.t39, _, by kernel_rfl, rfl, rfl, rfl, rfl⟩⟩
theorem info54 : TyInfo Try.prog 54 2 40 [.string (ba []), .slice none 0 0] := ⟨⟨Try.t54, _, by kernel_rfl, rfl, rfl, rfl, rfl⟩⟩
theorem info56 : TyInfo Try.prog 56 4 40 [.string (ba []), .int .i64 0, .int .i64 0, .int .i64 0] := ⟨⟨Try.t56, _, by kernel_rfl, rfl, rfl, rfl, rfl⟩⟩
theorem info58 : TyInfo Try.prog 58 3 32 [.string (ba []), .int .i64 0, .int .i64 0] := ⟨⟨Try.t58, _, by kernel_rfl, rfl, rfl, rfl, rfl⟩⟩
theorem info76 : TyInfo Try.prog 76 5 40 [.int .i64 0, .int .i64 0, .int .i64 0, .int .i64 0, .bool false] := ⟨⟨Try.t76, _, by kernel_rfl, rfl, rfl, rfl, rfl⟩⟩
abbrev ek3 : Int → Value := fun x => .int .i64 x
abbrev ek4 : Bool → Value := fun x => .bool x
abbrev ek24 : Point → Value := fun x => .agg #[.int .i64 x.X, .int .i64 x.Y]
abbrev ek104 : DrillDrilled → Value := fun x => .agg #[.string (ba x.tool), .int .i64 x.hole.At.X, .int .i64 x.hole.At.Y, .int .i64 x.hole.Size, .int .i64 x.hole.Depth, .bool x.hole.Plated]
theorem checkS24 {d : Nat} (x : Point) : CheckOk Try.prog (d + 2) 24 (.agg #[.int .i64 x.X, .int .i64 x.Y]) :=
  check_struct Try.runUnderlying24 (fun f hf => by
    simp only [List.mem_cons, List.not_mem_nil, or_false] at hf
    rcases hf with rfl | rfl
    · exact ⟨_, fun w => (part_leaf Try.isAgg3 rfl), (check_int Try.runUnderlying3 _)⟩
    · exact ⟨_, fun w => (part_leaf Try.isAgg3 rfl), (check_int Try.runUnderlying3 _)⟩)
theorem key24 : KeyOk Try.prog 24 ek24 := key_struct (K := Point) Try.runUnderlying24 (fun x => checkS24 x) (fun x y w => eqS24 x y w) (fun x => by simp [Instr.sameBits])
theorem checkS76 {d : Nat} (x : Hole) : CheckOk Try.prog (d + 3) 76 (.agg #[.int .i64 x.At.X, .int .i64 x.At.Y, .int .i64 x.Size, .int .i64 x.Depth, .bool x.Plated]) :=
  check_struct Try.runUnderlying76 (fun f hf => by
    simp only [List.mem_cons, List.not_mem_nil, or_false] at hf
    rcases hf with rfl | rfl | rfl | rfl
    · exact ⟨_, fun w => (part_agg Try.isAgg24 Try.sizeOf24 rfl), (checkS24 _)⟩
    · exact ⟨_, fun w => (part_leaf Try.isAgg3 rfl), (check_int Try.runUnderlying3 _)⟩
    · exact ⟨_, fun w => (part_leaf Try.isAgg3 rfl), (check_int Try.runUnderlying3 _)⟩
    · exact ⟨_, fun w => (part_leaf Try.isAgg4 rfl), (check_bool Try.runUnderlying4 _)⟩)
theorem checkS104 {d : Nat} (x : DrillDrilled) : CheckOk Try.prog (d + 4) 104 (.agg #[.string (ba x.tool), .int .i64 x.hole.At.X, .int .i64 x.hole.At.Y, .int .i64 x.hole.Size, .int .i64 x.hole.Depth, .bool x.hole.Plated]) :=
  check_struct Try.runUnderlying104 (fun f hf => by
    simp only [List.mem_cons, List.not_mem_nil, or_false] at hf
    rcases hf with rfl | rfl
    · exact ⟨_, fun w => (part_leaf Try.isAgg9 rfl), (check_str Try.runUnderlying9 _)⟩
    · exact ⟨_, fun w => (part_agg Try.isAgg76 Try.sizeOf76 rfl), (checkS76 _)⟩)
theorem key104 : KeyOk Try.prog 104 ek104 := key_struct (K := DrillDrilled) Try.runUnderlying104 (fun x => checkS104 x) (fun x y w => eqS104 x y w) (fun x => by simp [Instr.sameBits, ba_self])
end Go.Proofs.Ytmopdabkfklefaa

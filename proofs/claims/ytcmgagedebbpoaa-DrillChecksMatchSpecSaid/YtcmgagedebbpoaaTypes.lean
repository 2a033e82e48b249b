/- The data of this seat's functions, and how they lie in cells. -/
import Derived.Test.YtcmgagedebbpoaaStrs
import Derived.Test.YtcmgagedebbpoaaProg
import Derived.KernelRfl
namespace Go.Proofs.Ytcmgagedebbpoaa
open Go Go.RowKit
set_option linter.unusedVariables false

structure Point where
  X : Int
  Y : Int
instance : DecidableEq Point := fun a b => decidable_of_iff (a.X = b.X ∧ a.Y = b.Y) (by cases a; cases b; simp)
instance : Inhabited Point := ⟨⟨default, default⟩⟩
instance : Fits Point := ⟨fun x => Fits.fits x.X ∧ Fits.fits x.Y⟩
instance : Bulk Point := ⟨fun x => Bulk.bk x.X + (Bulk.bk x.Y + 1), fun x => by first | exact Nat.le_add_left _ _ | omega⟩
instance : Flat Point := ⟨2, by decide, fun x => [.int .i64 x.X, .int .i64 x.Y], fun _ => rfl, fun _ v hv => by simp only [List.mem_cons, List.not_mem_nil, or_false] at hv; rcases hv with rfl | rfl <;> rfl⟩
structure Hole where
  At : Point
  Size : Int
  Depth : Int
  Plated : Bool
instance : DecidableEq Hole := fun a b => decidable_of_iff (a.At = b.At ∧ a.Size = b.Size ∧ a.Depth = b.Depth ∧ a.Plated = b.Plated) (by cases a; cases b; simp)
instance : Inhabited Hole := ⟨⟨default, default, default, default⟩⟩
instance : Fits Hole := ⟨fun x => Fits.fits x.At ∧ Fits.fits x.Size ∧ Fits.fits x.Depth ∧ Fits.fits x.Plated⟩
instance : Bulk Hole := ⟨fun x => Bulk.bk x.At + (Bulk.bk x.Size + (Bulk.bk x.Depth + (Bulk.bk x.Plated + 1))), fun x => by first | exact Nat.le_add_left _ _ | omega⟩
instance : Flat Hole := ⟨5, by decide, fun x => [.int .i64 x.At.X, .int .i64 x.At.Y, .int .i64 x.Size, .int .i64 x.Depth, .bool x.Plated], fun _ => rfl, fun _ v hv => by simp only [List.mem_cons, List.not_mem_nil, or_false] at hv; rcases hv with rfl | rfl | rfl | rfl | rfl <;> rfl⟩
structure Bit where
  Name : Str
  Size : Int
  Life : Int
  Stack : Int
instance : DecidableEq Bit := fun a b => decidable_of_iff (a.Name = b.Name ∧ a.Size = b.Size ∧ a.Life = b.Life ∧ a.Stack = b.Stack) (by cases a; cases b; simp)
instance : Inhabited Bit := ⟨⟨default, default, default, default⟩⟩
instance : Fits Bit := ⟨fun x => Fits.fits x.Name ∧ Fits.fits x.Size ∧ Fits.fits x.Life ∧ Fits.fits x.Stack⟩
instance : Bulk Bit := ⟨fun x => Bulk.bk x.Name + (Bulk.bk x.Size + (Bulk.bk x.Life + (Bulk.bk x.Stack + 1))), fun x => by first | exact Nat.le_add_left _ _ | omega⟩
instance : Flat Bit := ⟨4, by decide, fun x => [.string (ba x.Name), .int .i64 x.Size, .int .i64 x.Life, .int .i64 x.Stack], fun _ => rfl, fun _ v hv => by simp only [List.mem_cons, List.not_mem_nil, or_false] at hv; rcases hv with rfl | rfl | rfl | rfl <;> rfl⟩
theorem eqS34 (x y : Point) {d : Nat} (w : World) : (Op.equalIn (d + 2) 34 (.agg #[.int .i64 x.X, .int .i64 x.Y]) (.agg #[.int .i64 y.X, .int .i64 y.Y])).run Try.prog w = .ok (decide (x = y)) w :=
  eqStruct Try.underlying34 (by kernel_rfl) (eqF_cons (by decide) (part_leaf Try.isAgg3 rfl) (part_leaf Try.isAgg3 rfl) (eq_int Try.runUnderlying3 _ _) (eqF_cons (by decide) (part_leaf Try.isAgg3 rfl) (part_leaf Try.isAgg3 rfl) (eq_int Try.runUnderlying3 _ _) eqF_nil)) (by rw [Bool.eq_iff_iff]; cases x; cases y; simp [and_assoc])
theorem eqS36 (x y : Hole) {d : Nat} (w : World) : (Op.equalIn (d + 3) 36 (.agg #[.int .i64 x.At.X, .int .i64 x.At.Y, .int .i64 x.Size, .int .i64 x.Depth, .bool x.Plated]) (.agg #[.int .i64 y.At.X, .int .i64 y.At.Y, .int .i64 y.Size, .int .i64 y.Depth, .bool y.Plated])).run Try.prog w = .ok (decide (x = y)) w :=
  eqStruct Try.underlying36 (by kernel_rfl) (eqF_cons (by decide) (part_agg Try.isAgg34 Try.sizeOf34 rfl) (part_agg Try.isAgg34 Try.sizeOf34 rfl) (eqS34 _ _ _) (eqF_cons (by decide) (part_leaf Try.isAgg3 rfl) (part_leaf Try.isAgg3 rfl) (eq_int Try.runUnderlying3 _ _) (eqF_cons (by decide) (part_leaf Try.isAgg3 rfl) (part_leaf Try.isAgg3 rfl) (eq_int Try.runUnderlying3 _ _) (eqF_cons (by decide) (part_leaf Try.isAgg4 rfl) (part_leaf Try.isAgg4 rfl) (eq_bool Try.runUnderlying4 _ _) eqF_nil)))) (by rw [Bool.eq_iff_iff]; cases x; cases y; simp [and_assoc])
theorem eqS42 (x y : Bit) {d : Nat} (w : World) : (Op.equalIn (d + 2) 42 (.agg #[.string (ba x.Name), .int .i64 x.Size, .int .i64 x.Life, .int .i64 x.Stack]) (.agg #[.string (ba y.Name), .int .i64 y.Size, .int .i64 y.Life, .int .i64 y.Stack])).run Try.prog w = .ok (decide (x = y)) w :=
  eqStruct Try.underlying42 (by kernel_rfl) (eqF_cons (by decide) (part_leaf Try.isAgg9 rfl) (part_leaf Try.isAgg9 rfl) (eq_str Try.runUnderlying9 _ _) (eqF_cons (by decide) (part_leaf Try.isAgg3 rfl) (part_leaf Try.isAgg3 rfl) (eq_int Try.runUnderlying3 _ _) (eqF_cons (by decide) (part_leaf Try.isAgg3 rfl) (part_leaf Try.isAgg3 rfl) (eq_int Try.runUnderlying3 _ _) (eqF_cons (by decide) (part_leaf Try.isAgg3 rfl) (part_leaf Try.isAgg3 rfl) (eq_int Try.runUnderlying3 _ _) eqF_nil)))) (by rw [Bool.eq_iff_iff]; cases x; cases y; simp [and_assoc])
theorem mo : Try.prog.follows .mixedOrders = true := by kernel_rfl
theorem info3 : TyInfo Try.prog 3 1 8 [.int .i64 0] := ⟨⟨Try.t3, _, by kernel_rfl, rfl, rfl, rfl, rfl⟩⟩
theorem info34 : TyInfo Try.prog 34 2 16 [.int .i64 0, .int .i64 0] := ⟨⟨Try.t34, _, by kernel_rfl, rfl, rfl, rfl, rfl⟩⟩
theorem info36 : TyInfo Try.prog 36 5 40 [.int .i64 0, .int .i64 0, .int .i64 0, .int .i64 0, .bool false] := ⟨⟨Try.t36, _, by kernel_rfl, rfl, rfl, rfl, rfl⟩⟩
theorem info42 : TyInfo Try.prog 42 4 40 [.string (ba []), .int .i64 0, .int .i64 0, .int .i64 0] := ⟨⟨Try.t42, _, by kernel_rfl, rfl, rfl, rfl, rfl⟩⟩
end Go.Proofs.Ytcmgagedebbpoaa

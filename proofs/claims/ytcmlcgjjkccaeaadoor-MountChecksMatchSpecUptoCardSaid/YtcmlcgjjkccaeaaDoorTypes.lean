/- The data of this seat's functions, and how they lie in cells. -/
import Derived.Test.YtcmlcgjjkccaeaaDoorStrs
import Derived.Test.YtcmlcgjjkccaeaaDoorProg
import Derived.KernelRfl
namespace Go.Proofs.YtcmlcgjjkccaeaaDoor
open Go Go.RowKit
set_option linter.unusedVariables false

structure Point where
  X : Int
  Y : Int
instance : DecidableEq Point := fun a b => decidable_of_iff (a.X = b.X ∧ a.Y = b.Y) (by cases a; cases b; simp)
instance : Inhabited Point := ⟨⟨default, default⟩⟩
instance : Fits Point := ⟨fun x => Fits.fits x.X ∧ Fits.fits x.Y⟩
instance : Bulk Point := ⟨fun x => Bulk.bk x.X + (Bulk.bk x.Y + 1), fun x => by first | exact Nat.le_add_left _ _ | omega⟩
instance : Flat Point := ⟨2, by decide, fun x => [.int .i64 x.X, .int .i64 x.Y], fun _ => rfl, fun _ v hv => by simp only [List.mem_cons, List.not_mem_nil, or_false] at hv; rcases hv with rfl | rfl <;> rfl⟩
structure Place where
  Part : Str
  Typ : Str
  At : Point
  Quarters : Int
  Below : Bool
instance : DecidableEq Place := fun a b => decidable_of_iff (a.Part = b.Part ∧ a.Typ = b.Typ ∧ a.At = b.At ∧ a.Quarters = b.Quarters ∧ a.Below = b.Below) (by cases a; cases b; simp)
instance : Inhabited Place := ⟨⟨default, default, default, default, default⟩⟩
instance : Fits Place := ⟨fun x => Fits.fits x.Part ∧ Fits.fits x.Typ ∧ Fits.fits x.At ∧ Fits.fits x.Quarters ∧ Fits.fits x.Below⟩
instance : Bulk Place := ⟨fun x => Bulk.bk x.Part + (Bulk.bk x.Typ + (Bulk.bk x.At + (Bulk.bk x.Quarters + (Bulk.bk x.Below + 1)))), fun x => by first | exact Nat.le_add_left _ _ | omega⟩
instance : Flat Place := ⟨6, by decide, fun x => [.string (ba x.Part), .string (ba x.Typ), .int .i64 x.At.X, .int .i64 x.At.Y, .int .i64 x.Quarters, .bool x.Below], fun _ => rfl, fun _ v hv => by simp only [List.mem_cons, List.not_mem_nil, or_false] at hv; rcases hv with rfl | rfl | rfl | rfl | rfl | rfl <;> rfl⟩
structure Pair where
  A : Int
  B : Int
  Distance : Int
instance : DecidableEq Pair := fun a b => decidable_of_iff (a.A = b.A ∧ a.B = b.B ∧ a.Distance = b.Distance) (by cases a; cases b; simp)
instance : Inhabited Pair := ⟨⟨default, default, default⟩⟩
instance : Fits Pair := ⟨fun x => Fits.fits x.A ∧ Fits.fits x.B ∧ Fits.fits x.Distance⟩
instance : Bulk Pair := ⟨fun x => Bulk.bk x.A + (Bulk.bk x.B + (Bulk.bk x.Distance + 1)), fun x => by first | exact Nat.le_add_left _ _ | omega⟩
instance : Flat Pair := ⟨3, by decide, fun x => [.int .i64 x.A, .int .i64 x.B, .int .i64 x.Distance], fun _ => rfl, fun _ v hv => by simp only [List.mem_cons, List.not_mem_nil, or_false] at hv; rcases hv with rfl | rfl | rfl <;> rfl⟩
structure Rect where
  X0 : Int
  Y0 : Int
  X1 : Int
  Y1 : Int
instance : DecidableEq Rect := fun a b => decidable_of_iff (a.X0 = b.X0 ∧ a.Y0 = b.Y0 ∧ a.X1 = b.X1 ∧ a.Y1 = b.Y1) (by cases a; cases b; simp)
instance : Inhabited Rect := ⟨⟨default, default, default, default⟩⟩
instance : Fits Rect := ⟨fun x => Fits.fits x.X0 ∧ Fits.fits x.Y0 ∧ Fits.fits x.X1 ∧ Fits.fits x.Y1⟩
instance : Bulk Rect := ⟨fun x => Bulk.bk x.X0 + (Bulk.bk x.Y0 + (Bulk.bk x.X1 + (Bulk.bk x.Y1 + 1))), fun x => by first | exact Nat.le_add_left _ _ | omega⟩
instance : Flat Rect := ⟨4, by decide, fun x => [.int .i64 x.X0, .int .i64 x.Y0, .int .i64 x.X1, .int .i64 x.Y1], fun _ => rfl, fun _ v hv => by simp only [List.mem_cons, List.not_mem_nil, or_false] at hv; rcases hv with rfl | rfl | rfl | rfl <;> rfl⟩
structure Pick where
  Board : Int
  Part : Str
  Typ : Str
  Slot : Int
instance : DecidableEq Pick := fun a b => decidable_of_iff (a.Board = b.Board ∧ a.Part = b.Part ∧ a.Typ = b.Typ ∧ a.Slot = b.Slot) (by cases a; cases b; simp)
instance : Inhabited Pick := ⟨⟨default, default, default, default⟩⟩
instance : Fits Pick := ⟨fun x => Fits.fits x.Board ∧ Fits.fits x.Part ∧ Fits.fits x.Typ ∧ Fits.fits x.Slot⟩
instance : Bulk Pick := ⟨fun x => Bulk.bk x.Board + (Bulk.bk x.Part + (Bulk.bk x.Typ + (Bulk.bk x.Slot + 1))), fun x => by first | exact Nat.le_add_left _ _ | omega⟩
instance : Flat Pick := ⟨4, by decide, fun x => [.int .i64 x.Board, .string (ba x.Part), .string (ba x.Typ), .int .i64 x.Slot], fun _ => rfl, fun _ v hv => by simp only [List.mem_cons, List.not_mem_nil, or_false] at hv; rcases hv with rfl | rfl | rfl | rfl <;> rfl⟩
structure Reel where
  Slot : Int
  Typ : Str
  Left : Int
instance : DecidableEq Reel := fun a b => decidable_of_iff (a.Slot = b.Slot ∧ a.Typ = b.Typ ∧ a.Left = b.Left) (by cases a; cases b; simp)
instance : Inhabited Reel := ⟨⟨default, default, default⟩⟩
instance : Fits Reel := ⟨fun x => Fits.fits x.Slot ∧ Fits.fits x.Typ ∧ Fits.fits x.Left⟩
instance : Bulk Reel := ⟨fun x => Bulk.bk x.Slot + (Bulk.bk x.Typ + (Bulk.bk x.Left + 1)), fun x => by first | exact Nat.le_add_left _ _ | omega⟩
instance : Flat Reel := ⟨3, by decide, fun x => [.int .i64 x.Slot, .string (ba x.Typ), .int .i64 x.Left], fun _ => rfl, fun _ v hv => by simp only [List.mem_cons, List.not_mem_nil, or_false] at hv; rcases hv with rfl | rfl | rfl <;> rfl⟩
structure Count where
  Typ : Str
  Many : Int
instance : DecidableEq Count := fun a b => decidable_of_iff (a.Typ = b.Typ ∧ a.Many = b.Many) (by cases a; cases b; simp)
instance : Inhabited Count := ⟨⟨default, default⟩⟩
instance : Fits Count := ⟨fun x => Fits.fits x.Typ ∧ Fits.fits x.Many⟩
instance : Bulk Count := ⟨fun x => Bulk.bk x.Typ + (Bulk.bk x.Many + 1), fun x => by first | exact Nat.le_add_left _ _ | omega⟩
instance : Flat Count := ⟨2, by decide, fun x => [.string (ba x.Typ), .int .i64 x.Many], fun _ => rfl, fun _ v hv => by simp only [List.mem_cons, List.not_mem_nil, or_false] at hv; rcases hv with rfl | rfl <;> rfl⟩
structure Body where
  Typ : Str
  W : Int
  H : Int
  Tall : Int
  Nozzle : Str
instance : DecidableEq Body := fun a b => decidable_of_iff (a.Typ = b.Typ ∧ a.W = b.W ∧ a.H = b.H ∧ a.Tall = b.Tall ∧ a.Nozzle = b.Nozzle) (by cases a; cases b; simp)
instance : Inhabited Body := ⟨⟨default, default, default, default, default⟩⟩
instance : Fits Body := ⟨fun x => Fits.fits x.Typ ∧ Fits.fits x.W ∧ Fits.fits x.H ∧ Fits.fits x.Tall ∧ Fits.fits x.Nozzle⟩
instance : Bulk Body := ⟨fun x => Bulk.bk x.Typ + (Bulk.bk x.W + (Bulk.bk x.H + (Bulk.bk x.Tall + (Bulk.bk x.Nozzle + 1)))), fun x => by first | exact Nat.le_add_left _ _ | omega⟩
instance : Flat Body := ⟨5, by decide, fun x => [.string (ba x.Typ), .int .i64 x.W, .int .i64 x.H, .int .i64 x.Tall, .string (ba x.Nozzle)], fun _ => rfl, fun _ v hv => by simp only [List.mem_cons, List.not_mem_nil, or_false] at hv; rcases hv with rfl | rfl | rfl | rfl | rfl <;> rfl⟩
structure Instead where
  Typ : Str
  By : Str
instance : DecidableEq Instead := fun a b => decidable_of_iff (a.Typ = b.Typ ∧ a.By = b.By) (by cases a; cases b; simp)
instance : Inhabited Instead := ⟨⟨default, default⟩⟩
instance : Fits Instead := ⟨fun x => Fits.fits x.Typ ∧ Fits.fits x.By⟩
instance : Bulk Instead := ⟨fun x => Bulk.bk x.Typ + (Bulk.bk x.By + 1), fun x => by first | exact Nat.le_add_left _ _ | omega⟩
instance : Flat Instead := ⟨2, by decide, fun x => [.string (ba x.Typ), .string (ba x.By)], fun _ => rfl, fun _ v hv => by simp only [List.mem_cons, List.not_mem_nil, or_false] at hv; rcases hv with rfl | rfl <;> rfl⟩
theorem eqS25 (x y : Point) {d : Nat} (w : World) : (Op.equalIn (d + 2) 25 (.agg #[.int .i64 x.X, .int .i64 x.Y]) (.agg #[.int .i64 y.X, .int .i64 y.Y])).run Tryd.prog w = .ok (decide (x = y)) w :=
  eqStruct Tryd.underlying25 (by kernel_rfl) (eqF_cons (by decide) (part_leaf Tryd.isAgg3 rfl) (part_leaf Tryd.isAgg3 rfl) (eq_int Tryd.runUnderlying3 _ _) (eqF_cons (by decide) (part_leaf Tryd.isAgg3 rfl) (part_leaf Tryd.isAgg3 rfl) (eq_int Tryd.runUnderlying3 _ _) eqF_nil)) (by rw [Bool.eq_iff_iff]; cases x; cases y; simp [and_assoc])
theorem eqS28 (x y : Place) {d : Nat} (w : World) : (Op.equalIn (d + 3) 28 (.agg #[.string (ba x.Part), .string (ba x.Typ), .int .i64 x.At.X, .int .i64 x.At.Y, .int .i64 x.Quarters, .bool x.Below]) (.agg #[.string (ba y.Part), .string (ba y.Typ), .int .i64 y.At.X, .int .i64 y.At.Y, .int .i64 y.Quarters, .bool y.Below])).run Tryd.prog w = .ok (decide (x = y)) w :=
  eqStruct Tryd.underlying28 (by kernel_rfl) (eqF_cons (by decide) (part_leaf Tryd.isAgg9 rfl) (part_leaf Tryd.isAgg9 rfl) (eq_str Tryd.runUnderlying9 _ _) (eqF_cons (by decide) (part_leaf Tryd.isAgg9 rfl) (part_leaf Tryd.isAgg9 rfl) (eq_str Tryd.runUnderlying9 _ _) (eqF_cons (by decide) (part_agg Tryd.isAgg25 Tryd.sizeOf25 rfl) (part_agg Tryd.isAgg25 Tryd.sizeOf25 rfl) (eqS25 _ _ _) (eqF_cons (by decide) (part_leaf Tryd.isAgg3 rfl) (part_leaf Tryd.isAgg3 rfl) (eq_int Tryd.runUnderlying3 _ _) (eqF_cons (by decide) (part_leaf Tryd.isAgg4 rfl) (part_leaf Tryd.isAgg4 rfl) (eq_bool Tryd.runUnderlying4 _ _) eqF_nil))))) (by rw [Bool.eq_iff_iff]; cases x; cases y; simp [and_assoc])
theorem eqS36 (x y : Pair) {d : Nat} (w : World) : (Op.equalIn (d + 2) 36 (.agg #[.int .i64 x.A, .int .i64 x.B, .int .i64 x.Distance]) (.agg #[.int .i64 y.A, .int .i64 y.B, .int .i64 y.Distance])).run Tryd.prog w = .ok (decide (x = y)) w :=
  eqStruct Tryd.underlying36 (by kernel_rfl) (eqF_cons (by decide) (part_leaf Tryd.isAgg3 rfl) (part_leaf Tryd.isAgg3 rfl) (eq_int Tryd.runUnderlying3 _ _) (eqF_cons (by decide) (part_leaf Tryd.isAgg3 rfl) (part_leaf Tryd.isAgg3 rfl) (eq_int Tryd.runUnderlying3 _ _) (eqF_cons (by decide) (part_leaf Tryd.isAgg3 rfl) (part_leaf Tryd.isAgg3 rfl) (eq_int Tryd.runUnderlying3 _ _) eqF_nil))) (by rw [Bool.eq_iff_iff]; cases x; cases y; simp [and_assoc])
theorem eqS39 (x y : Rect) {d : Nat} (w : World) : (Op.equalIn (d + 2) 39 (.agg #[.int .i64 x.X0, .int .i64 x.Y0, .int .i64 x.X1, .int .i64 x.Y1]) (.agg #[.int .i64 y.X0, .int .i64 y.Y0, .int .i64 y.X1, .int .i64 y.Y1])).run Tryd.prog w = .ok (decide (x = y)) w :=
  eqStruct Tryd.underlying39 (by kernel_rfl) (eqF_cons (by decide) (part_leaf Tryd.isAgg3 rfl) (part_leaf Tryd.isAgg3 rfl) (eq_int Tryd.runUnderlying3 _ _) (eqF_cons (by decide) (part_leaf Tryd.isAgg3 rfl) (part_leaf Tryd.isAgg3 rfl) (eq_int Tryd.runUnderlying3 _ _) (eqF_cons (by decide) (part_leaf Tryd.isAgg3 rfl) (part_leaf Tryd.isAgg3 rfl) (eq_int Tryd.runUnderlying3 _ _) (eqF_cons (by decide) (part_leaf Tryd.isAgg3 rfl) (part_leaf Tryd.isAgg3 rfl) (eq_int Tryd.runUnderlying3 _ _) eqF_nil)))) (by rw [Bool.eq_iff_iff]; cases x; cases y; simp [and_assoc])
theorem eqS50 (x y : Pick) {d : Nat} (w : World) : (Op.equalIn (d + 2) 50 (.agg #[.int .i64 x.Board, .string (ba x.Part), .string (ba x.Typ), .int .i64 x.Slot]) (.agg #[.int .i64 y.Board, .string (ba y.Part), .string (ba y.Typ), .int .i64 y.Slot])).run Tryd.prog w = .ok (decide (x = y)) w :=
  eqStruct Tryd.underlying50 (by kernel_rfl) (eqF_cons (by decide) (part_leaf Tryd.isAgg3 rfl) (part_leaf Tryd.isAgg3 rfl) (eq_int Tryd.runUnderlying3 _ _) (eqF_cons (by decide) (part_leaf Tryd.isAgg9 rfl) (part_leaf Tryd.isAgg9 rfl) (eq_str Tryd.runUnderlying9 _ _) (eqF_cons (by decide) (part_leaf Tryd.isAgg9 rfl) (part_leaf Tryd.isAgg9 rfl) (eq_str Tryd.runUnderlying9 _ _) (eqF_cons (by decide) (part_leaf Tryd.isAgg3 rfl) (part_leaf Tryd.isAgg3 rfl) (eq_int Tryd.runUnderlying3 _ _) eqF_nil)))) (by rw [Bool.eq_iff_iff]; cases x; cases y; simp [and_assoc])
theorem eqS52 (x y : Reel) {d : Nat} (w : World) : (Op.equalIn (d + 2) 52 (.agg #[.int .i64 x.Slot, .string (ba x.Typ), .int .i64 x.Left]) (.agg #[.int .i64 y.Slot, .string (ba y.Typ), .int .i64 y.Left])).run Tryd.prog w = .ok (decide (x = y)) w :=
  eqStruct Tryd.underlying52 (by kernel_rfl) (eqF_cons (by decide) (part_leaf Tryd.isAgg3 rfl) (part_leaf Tryd.isAgg3 rfl) (eq_int Tryd.runUnderlying3 _ _) (eqF_cons (by decide) (part_leaf Tryd.isAgg9 rfl) (part_leaf Tryd.isAgg9 rfl) (eq_str Tryd.runUnderlying9 _ _) (eqF_cons (by decide) (part_leaf Tryd.isAgg3 rfl) (part_leaf Tryd.isAgg3 rfl) (eq_int Tryd.runUnderlying3 _ _) eqF_nil))) (by rw [Bool.eq_iff_iff]; cases x; cases y; simp [and_assoc])
theorem eqS76 (x y : Count) {d : Nat} (w : World) : (Op.equalIn (d + 2) 76 (.agg #[.string (ba x.Typ), .int .i64 x.Many]) (.agg #[.string (ba y.Typ), .int .i64 y.Many])).run Tryd.prog w = .ok (decide (x = y)) w :=
  eqStruct Tryd.underlying76 (by kernel_rfl) (eqF_cons (by decide) (part_leaf Tryd.isAgg9 rfl) (part_leaf Tryd.isAgg9 rfl) (eq_str Tryd.runUnderlying9 _ _) (eqF_cons (by decide) (part_leaf Tryd.isAgg3 rfl) (part_leaf Tryd.isAgg3 rfl) (eq_int Tryd.runUnderlying3 _ _) eqF_nil)) (by rw [Bool.eq_iff_iff]; cases x; cases y; simp [and_assoc])
theorem eqS95 (x y : Body) {d : Nat} (w : World) : (Op.equalIn (d + 2) 95 (.agg #[.string (ba x.Typ), .int .i64 x.W, .int .i64 x.H, .int .i64 x.Tall, .string (ba x.Nozzle)]) (.agg #[.string (ba y.Typ), .int .i64 y.W, .int .i64 y.H, .int .i64 y.Tall, .string (ba y.Nozzle)])).run Tryd.prog w = .ok (decide (x = y)) w :=
  eqStruct Tryd.underlying95 (by kernel_rfl) (eqF_cons (by decide) (part_leaf Tryd.isAgg9 rfl) (part_leaf Tryd.isAgg9 rfl) (eq_str Tryd.runUnderlying9 _ _) (eqF_cons (by decide) (part_leaf Tryd.isAgg3 rfl) (part_leaf Tryd.isAgg3 rfl) (eq_int Tryd.runUnderlying3 _ _) (eqF_cons (by decide) (part_leaf Tryd.isAgg3 rfl) (part_leaf Tryd.isAgg3 rfl) (eq_int Tryd.runUnderlying3 _ _) (eqF_cons (by decide) (part_leaf Tryd.isAgg3 rfl) (part_leaf Tryd.isAgg3 rfl) (eq_int Tryd.runUnderlying3 _ _) (eqF_cons (by decide) (part_leaf Tryd.isAgg9 rfl) (part_leaf Tryd.isAgg9 rfl) (eq_str Tryd.runUnderlying9 _ _) eqF_nil))))) (by rw [Bool.eq_iff_iff]; cases x; cases y; simp [and_assoc])
theorem eqS121 (x y : Instead) {d : Nat} (w : World) : (Op.equalIn (d + 2) 121 (.agg #[.string (ba x.Typ), .string (ba x.By)]) (.agg #[.string (ba y.Typ), .string (ba y.By)])).run Tryd.prog w = .ok (decide (x = y)) w :=
  eqStruct Tryd.underlying121 (by kernel_rfl) (eqF_cons (by decide) (part_leaf Tryd.isAgg9 rfl) (part_leaf Tryd.isAgg9 rfl) (eq_str Tryd.runUnderlying9 _ _) (eqF_cons (by decide) (part_leaf Tryd.isAgg9 rfl) (part_leaf Tryd.isAgg9 rfl) (eq_str Tryd.runUnderlying9 _ _) eqF_nil)) (by rw [Bool.eq_iff_iff]; cases x; cases y; simp [and_assoc])
theorem mo : Tryd.prog.follows .mixedOrders = true := by kernel_rfl
theorem info3 : TyInfo Tryd.prog 3 1 8 [.int .i64 0] := ⟨⟨Tryd.t3, _, by kernel_rfl, rfl, rfl, rfl, rfl⟩⟩
theorem info4 : TyInfo Tryd.prog 4 1 1 [.bool false] := ⟨⟨Tryd.t4, _, by kernel_rfl, rfl, rfl, rfl, rfl⟩⟩
theorem info9 : TyInfo Tryd.prog 9 1 16 [.string (ba [])] := ⟨⟨Tryd.t9, _, by kernel_rfl, rfl, rfl, rfl, rfl⟩⟩
theorem info28 : TyInfo Tryd.prog 28 6 64 [.string (ba []), .string (ba []), .int .i64 0, .int .i64 0, .int .i64 0, .bool false] := ⟨⟨Tryd.t28, _, by kernel_rfl, rfl, rfl, rfl, rfl⟩⟩
theorem info36 : TyInfo Tryd.prog 36 3 24 [.int .i64 0, .int .i64 0, .int .i64 0] := ⟨⟨Tryd.t36, _, by kernel_rfl, rfl, rfl, rfl, rfl⟩⟩
theorem info48 : TyInfo Tryd.prog 48 1 24 [.slice none 0 0] := ⟨⟨Tryd.t48, _, by kernel_rfl, rfl, rfl, rfl, rfl⟩⟩
theorem info50 : TyInfo Tryd.prog 50 4 48 [.int .i64 0, .string (ba []), .string (ba []), .int .i64 0] := ⟨⟨Tryd.t50, _, by kernel_rfl, rfl, rfl, rfl, rfl⟩⟩
theorem info52 : TyInfo Tryd.prog 52 3 32 [.int .i64 0, .string (ba []), .int .i64 0] := ⟨⟨Tryd.t52, _, by kernel_rfl, rfl, rfl, rfl, rfl⟩⟩
theorem info76 : TyInfo Tryd.prog 76 2 24 [.string (ba []), .int .i64 0] := ⟨⟨Tryd.t76, _, by kernel_rfl, rfl, rfl, rfl, rfl⟩⟩
theorem info95 : TyInfo Tryd.prog 95 5 56 [.string (ba []), .int .i64 0, .int .i64 0, .int .i64 0, .string (ba [])] := ⟨⟨Tryd.t95, _, by kernel_rfl, rfl, rfl, rfl, rfl⟩⟩
theorem info102 : TyInfo Tryd.prog 102 1 24 [.slice none 0 0] := ⟨⟨Tryd.t102, _, by kernel_rfl, rfl, rfl, rfl, rfl⟩⟩
theorem info121 : TyInfo Tryd.prog 121 2 32 [.string (ba []), .string (ba [])] := ⟨⟨Tryd.t121, _, by kernel_rfl, rfl, rfl, rfl, rfl⟩⟩
abbrev ek3 : Int → Value := fun x => .int .i64 x
abbrev ek9 : Str → Value := fun x => .string (ba x)
theorem key9 : KeyOk Tryd.prog 9 ek9 := key_str Tryd.runUnderlying9
end Go.Proofs.YtcmlcgjjkccaeaaDoor

/- Chapter texts of ours, as far as the claim needs them. -/
import Derived.Test.YtcmlcgjjkccaeaaDoorStrs
import Derived.Test.YtcmlcgjjkccaeaaDoorDeep
import Derived.Test.YtcmlcgjjkccaeaaDoorProg
import Derived.KernelRfl
namespace Go.Proofs.YtcmlcgjjkccaeaaDoor
open Go Go.RowKit
set_option linter.unusedVariables false
set_option linter.unusedSimpArgs false
structure Point where
  X : Int
  Y : Int
instance : DecidableEq Point := fun a b => decidable_of_iff (a.X = b.X ∧ a.Y = b.Y) (by cases a; cases b; simp)
instance : Inhabited Point := ⟨⟨default, default⟩⟩
instance : Fits Point := ⟨fun x => Fits.fits x.X ∧ Fits.fits x.Y⟩
instance : Bulk Point := ⟨fun x => Bulk.bk x.X + (Bulk.bk x.Y + 1), fun x => by first | exact Nat.le_add_left _ _ | omega⟩
instance : Flat Point := ⟨2, by decide, fun x => [.int .i64 x.X, .int .i64 x.Y], fun _ => rfl, fun _ v hv => by simp only [List.mem_cons, List.not_mem_nil, or_false] at hv; rcases hv with rfl | rfl <;> rfl⟩
structure Place where
  Part : Str
  Typ : Str
  At : Point
  Quarters : Int
  Below : Bool
instance : DecidableEq Place := fun a b => decidable_of_iff (a.Part = b.Part ∧ a.Typ = b.Typ ∧ a.At = b.At ∧ a.Quarters = b.Quarters ∧ a.Below = b.Below) (by cases a; cases b; simp)
instance : Inhabited Place := ⟨⟨default, default, default, default, default⟩⟩
instance : Fits Place := ⟨fun x => Fits.fits x.Part ∧ Fits.fits x.Typ ∧ Fits.fits x.At ∧ Fits.fits x.Quarters ∧ Fits.fits x.Below⟩
instance : Bulk Place := ⟨fun x => Bulk.bk x.Part + (Bulk.bk x.Typ + (Bulk.bk x.At + (Bulk.bk x.Quarters + (Bulk.bk x.Below + 1)))), fun x => by first | exact Nat.le_add_left _ _ | omega⟩
instance : Flat Place := ⟨6, by decide, fun x => [.string (ba x.Part), .string (ba x.Typ), .int .i64 x.At.X, .int .i64 x.At.Y, .int .i64 x.Quarters, .bool x.Below], fun _ => rfl, fun _ v hv => by simp only [List.mem_cons, List.not_mem_nil, or_false] at hv; rcases hv with rfl | rfl | rfl | rfl | rfl | rfl <;> rfl⟩
structure Body where
  Typ : Str
  W : Int
  H : Int
  Tall : Int
  Nozzle : Str
instance : DecidableEq Body := fun a b => decidable_of_iff (a.Typ = b.Typ ∧ a.W = b.W ∧ a.H = b.H ∧ a.Tall = b.Tall ∧ a.Nozzle = b.Nozzle) (by cases a; cases b; simp)
instance : Inhabited Body := ⟨⟨default, default, default, default, default⟩⟩
instance : Fits Body := ⟨fun x => Fits.fits x.Typ ∧ Fits.fits x.W ∧ Fits.fits x.H ∧ Fits.fits x.Tall ∧ Fits.fits x.Nozzle⟩
instance : Bulk Body := ⟨fun x => Bulk.bk x.Typ + (Bulk.bk x.W + (Bulk.bk x.H + (Bulk.bk x.Tall + (Bulk.bk x.Nozzle + 1)))), fun x => by first | exact Nat.le_add_left _ _ | omega⟩
instance : Flat Body := ⟨5, by decide, fun x => [.string (ba x.Typ), .int .i64 x.W, .int .i64 x.H, .int .i64 x.Tall, .string (ba x.Nozzle)], fun _ => rfl, fun _ v hv => by simp only [List.mem_cons, List.not_mem_nil, or_false] at hv; rcases hv with rfl | rfl | rfl | rfl | rfl <;> rfl⟩
theorem mo : Tryd.prog.follows .mixedOrders = true := by kernel_rfl
theorem info3 : TyInfo Tryd.prog 3 1 8 [.int .i64 0] := ⟨⟨Tryd.t3, _, by kernel_rfl, rfl, rfl, rfl, rfl⟩⟩
theorem info4 : TyInfo Tryd.prog 4 1 1 [.bool false] := ⟨⟨Tryd.t4, _, by kernel_rfl, rfl, rfl, rfl, rfl⟩⟩
theorem info9 : TyInfo Tryd.prog 9 1 16 [.string (ba [])] := ⟨⟨Tryd.t9, _, by kernel_rfl, rfl, rfl, rfl, rfl⟩⟩
theorem info48 : TyInfo Tryd.prog 48 1 24 [.slice none 0 0] := ⟨⟨Tryd.t48, _, by kernel_rfl, rfl, rfl, rfl, rfl⟩⟩
theorem info102 : TyInfo Tryd.prog 102 1 24 [.slice none 0 0] := ⟨⟨Tryd.t102, _, by kernel_rfl, rfl, rfl, rfl, rfl⟩⟩
end Go.Proofs.YtcmlcgjjkccaeaaDoor

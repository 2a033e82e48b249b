/- The data of this seat's functions, and how they lie in cells. -/
import Derived.Test.YtjkkefhfbcgahaaStrs
import Derived.Test.YtjkkefhfbcgahaaProg
import Derived.KernelRfl
namespace Go.Proofs.Ytjkkefhfbcgahaa
open Go Go.RowKit
set_option linter.unusedVariables false

structure Layer where
  Name : Str
  Material : Str
instance : DecidableEq Layer := fun a b => decidable_of_iff (a.Name = b.Name ∧ a.Material = b.Material) (by cases a; cases b; simp)
instance : Inhabited Layer := ⟨⟨default, default⟩⟩
instance : Fits Layer := ⟨fun x => Fits.fits x.Name ∧ Fits.fits x.Material⟩
instance : Bulk Layer := ⟨fun x => Bulk.bk x.Name + (Bulk.bk x.Material + 1), fun x => by first | exact Nat.le_add_left _ _ | omega⟩
instance : Flat Layer := ⟨2, by decide, fun x => [.string (ba x.Name), .string (ba x.Material)], fun _ => rfl, fun _ v hv => by simp only [List.mem_cons, List.not_mem_nil, or_false] at hv; rcases hv with rfl | rfl <;> rfl⟩
structure Material where
  Name : Str
  Kind : Int
  Thick : Int
  Grow : Int
instance : DecidableEq Material := fun a b => decidable_of_iff (a.Name = b.Name ∧ a.Kind = b.Kind ∧ a.Thick = b.Thick ∧ a.Grow = b.Grow) (by cases a; cases b; simp)
instance : Inhabited Material := ⟨⟨default, default, default, default⟩⟩
instance : Fits Material := ⟨fun x => Fits.fits x.Name ∧ Fits.fits x.Kind ∧ Fits.fits x.Thick ∧ Fits.fits x.Grow⟩
instance : Bulk Material := ⟨fun x => Bulk.bk x.Name + (Bulk.bk x.Kind + (Bulk.bk x.Thick + (Bulk.bk x.Grow + 1))), fun x => by first | exact Nat.le_add_left _ _ | omega⟩
instance : Flat Material := ⟨4, by decide, fun x => [.string (ba x.Name), .int .i64 x.Kind, .int .i64 x.Thick, .int .i64 x.Grow], fun _ => rfl, fun _ v hv => by simp only [List.mem_cons, List.not_mem_nil, or_false] at hv; rcases hv with rfl | rfl | rfl | rfl <;> rfl⟩
structure Press where
  From : Int
  To : Int
  Core : Bool
  Holes : (List Int)
instance : DecidableEq Press := fun a b => decidable_of_iff (a.From = b.From ∧ a.To = b.To ∧ a.Core = b.Core ∧ a.Holes = b.Holes) (by cases a; cases b; simp)
instance : Inhabited Press := ⟨⟨default, default, default, default⟩⟩
instance : Fits Press := ⟨fun x => Fits.fits x.From ∧ Fits.fits x.To ∧ Fits.fits x.Core ∧ Fits.fits x.Holes⟩
instance : Bulk Press := ⟨fun x => Bulk.bk x.From + (Bulk.bk x.To + (Bulk.bk x.Core + (Bulk.bk x.Holes + 1))), fun x => by first | exact Nat.le_add_left _ _ | omega⟩
instance : Rep Press := ⟨4, by decide, fun w F cs x => ∃ (uHolesA : Option Addr) (uHolesC : Nat), cs = [.int .i64 x.From, .int .i64 x.To, .bool x.Core, .slice uHolesA x.Holes.length uHolesC] ∧ View w F uHolesA uHolesC x.Holes,
  fun ⟨_, _, h, _⟩ => by rw [h]; rfl, fun ⟨uHolesA, uHolesC, h, h0⟩ hF => ⟨uHolesA, uHolesC, h, h0.mono hF⟩⟩
structure PressSh where
  From : Int
  To : Int
  Core : Bool
  Holes : Sl
instance : Flat PressSh := ⟨4, by decide, fun x => [.int .i64 x.From, .int .i64 x.To, .bool x.Core, .slice x.Holes.a x.Holes.n x.Holes.c], fun _ => rfl, fun _ v hv => by simp only [List.mem_cons, List.not_mem_nil, or_false] at hv; rcases hv with rfl | rfl | rfl | rfl <;> rfl⟩
instance : Row1 Press Int PressSh := ⟨fun x => x.Holes, fun x A C => ⟨x.From, x.To, x.Core, ⟨A, x.Holes.length, C⟩⟩, fun h => ⟨_, _, rfl, h⟩, rfl⟩
structure Through where
  From : Int
  To : Int
instance : DecidableEq Through := fun a b => decidable_of_iff (a.From = b.From ∧ a.To = b.To) (by cases a; cases b; simp)
instance : Inhabited Through := ⟨⟨default, default⟩⟩
instance : Fits Through := ⟨fun x => Fits.fits x.From ∧ Fits.fits x.To⟩
instance : Bulk Through := ⟨fun x => Bulk.bk x.From + (Bulk.bk x.To + 1), fun x => by first | exact Nat.le_add_left _ _ | omega⟩
instance : Flat Through := ⟨2, by decide, fun x => [.int .i64 x.From, .int .i64 x.To], fun _ => rfl, fun _ v hv => by simp only [List.mem_cons, List.not_mem_nil, or_false] at hv; rcases hv with rfl | rfl <;> rfl⟩
structure R4Sub where
  Through : Through
  core : Bool
instance : DecidableEq R4Sub := fun a b => decidable_of_iff (a.Through = b.Through ∧ a.core = b.core) (by cases a; cases b; simp)
instance : Inhabited R4Sub := ⟨⟨default, default⟩⟩
instance : Fits R4Sub := ⟨fun x => Fits.fits x.Through ∧ Fits.fits x.core⟩
instance : Bulk R4Sub := ⟨fun x => Bulk.bk x.Through + (Bulk.bk x.core + 1), fun x => by first | exact Nat.le_add_left _ _ | omega⟩
instance : Flat R4Sub := ⟨3, by decide, fun x => [.int .i64 x.Through.From, .int .i64 x.Through.To, .bool x.core], fun _ => rfl, fun _ v hv => by simp only [List.mem_cons, List.not_mem_nil, or_false] at hv; rcases hv with rfl | rfl | rfl <;> rfl⟩
theorem eqS35 (x y : Layer) {d : Nat} (w : World) : (Op.equalIn (d + 2) 35 (.agg #[.string (ba x.Name), .string (ba x.Material)]) (.agg #[.string (ba y.Name), .string (ba y.Material)])).run Try.prog w = .ok (decide (x = y)) w :=
  eqStruct Try.underlying35 (by kernel_rfl) (eqF_cons (by decide) (part_leaf Try.isAgg9 rfl) (part_leaf Try.isAgg9 rfl) (eq_str Try.runUnderlying9 _ _) (eqF_cons (by decide) (part_leaf Try.isAgg9 rfl) (part_leaf Try.isAgg9 rfl) (eq_str Try.runUnderlying9 _ _) eqF_nil)) (by rw [Bool.eq_iff_iff]; cases x; cases y; simp [and_assoc])
theorem eqS37 (x y : Material) {d : Nat} (w : World) : (Op.equalIn (d + 2) 37 (.agg #[.string (ba x.Name), .int .i64 x.Kind, .int .i64 x.Thick, .int .i64 x.Grow]) (.agg #[.string (ba y.Name), .int .i64 y.Kind, .int .i64 y.Thick, .int .i64 y.Grow])).run Try.prog w = .ok (decide (x = y)) w :=
  eqStruct Try.underlying37 (by kernel_rfl) (eqF_cons (by decide) (part_leaf Try.isAgg9 rfl) (part_leaf Try.isAgg9 rfl) (eq_str Try.runUnderlying9 _ _) (eqF_cons (by decide) (part_leaf Try.isAgg3 rfl) (part_leaf Try.isAgg3 rfl) (eq_int Try.runUnderlying3 _ _) (eqF_cons (by decide) (part_leaf Try.isAgg3 rfl) (part_leaf Try.isAgg3 rfl) (eq_int Try.runUnderlying3 _ _) (eqF_cons (by decide) (part_leaf Try.isAgg3 rfl) (part_leaf Try.isAgg3 rfl) (eq_int Try.runUnderlying3 _ _) eqF_nil)))) (by rw [Bool.eq_iff_iff]; cases x; cases y; simp [and_assoc])
theorem eqS59 (x y : Through) {d : Nat} (w : World) : (Op.equalIn (d + 2) 59 (.agg #[.int .i64 x.From, .int .i64 x.To]) (.agg #[.int .i64 y.From, .int .i64 y.To])).run Try.prog w = .ok (decide (x = y)) w :=
  eqStruct Try.underlying59 (by kernel_rfl) (eqF_cons (by decide) (part_leaf Try.isAgg3 rfl) (part_leaf Try.isAgg3 rfl) (eq_int Try.runUnderlying3 _ _) (eqF_cons (by decide) (part_leaf Try.isAgg3 rfl) (part_leaf Try.isAgg3 rfl) (eq_int Try.runUnderlying3 _ _) eqF_nil)) (by rw [Bool.eq_iff_iff]; cases x; cases y; simp [and_assoc])
theorem eqS113 (x y : R4Sub) {d : Nat} (w : World) : (Op.equalIn (d + 3) 113 (.agg #[.int .i64 x.Through.From, .int .i64 x.Through.To, .bool x.core]) (.agg #[.int .i64 y.Through.From, .int .i64 y.Through.To, .bool y.core])).run Try.prog w = .ok (decide (x = y)) w :=
  eqStruct Try.underlying113 (by kernel_rfl) (eqF_cons (by decide) (part_agg Try.isAgg59 Try.sizeOf59 rfl) (part_agg Try.isAgg59 Try.sizeOf59 rfl) (eqS59 _ _ _) (eqF_cons (by decide) (part_leaf Try.isAgg4 rfl) (part_leaf Try.isAgg4 rfl) (eq_bool Try.runUnderlying4 _ _) eqF_nil)) (by rw [Bool.eq_iff_iff]; cases x; cases y; simp [and_assoc])
theorem mo : Try.prog.follows .mixedOrders = true := by kernel_rfl
theorem info3 : TyInfo Try.prog 3 1 8 [.int .i64 0] := ⟨⟨Try.t3, _, by kernel_rfl, rfl, rfl, rfl, rfl⟩⟩
theorem info4 : TyInfo Try.prog 4 1 1 [.bool false] := ⟨⟨Try.t4, _, by kernel_rfl, rfl, rfl, rfl, rfl⟩⟩
theorem info9 : TyInfo Try.prog 9 1 16 [.string (ba [])] := ⟨⟨Try.t9, _, by kernel_rfl, rfl, rfl, rfl, rfl⟩⟩
theorem info35 : TyInfo Try.prog 35 2 32 [.string (ba []), .string (ba [])] := ⟨⟨Try.t35, _, by kernel_rfl, rfl, rfl, rfl, rfl⟩⟩
theorem info37 : TyInfo Try.prog 37 4 40 [.string (ba []), .int .i64 0, .int .i64 0, .int .i64 0] := ⟨⟨Try.t37, _, by kernel_rfl, rfl, rfl, rfl, rfl⟩⟩
theorem info43 : TyInfo Try.prog 43 1 24 [.slice none 0 0] := ⟨⟨Try.t43, _, by kernel_rfl, rfl, rfl, rfl, rfl⟩⟩
theorem info52 : TyInfo Try.prog 52 1 24 [.slice none 0 0] := ⟨⟨Try.t52, _, by kernel_rfl, rfl, rfl, rfl, rfl⟩⟩
theorem info57 : TyInfo Try.prog 57 4 48 [.int .i64 0, .int .i64 0, .bool false, .slice none 0 0] := ⟨⟨Try.t57, _, by kernel_rfl, rfl, rfl, rfl, rfl⟩⟩
theorem info59 : TyInfo Try.prog 59 2 16 [.int .i64 0, .int .i64 0] := ⟨⟨Try.t59, _, by kernel_rfl, rfl, rfl, rfl, rfl⟩⟩
theorem info93 : TyInfo Try.prog 93 1 24 [.slice none 0 0] := ⟨⟨Try.t93, _, by kernel_rfl, rfl, rfl, rfl, rfl⟩⟩
theorem info94 : TyInfo Try.prog 94 1 2 [.int .i16 0] := ⟨⟨Try.t94, _, by kernel_rfl, rfl, rfl, rfl, rfl⟩⟩
theorem info113 : TyInfo Try.prog 113 3 24 [.int .i64 0, .int .i64 0, .bool false] := ⟨⟨Try.t113, _, by kernel_rfl, rfl, rfl, rfl, rfl⟩⟩
abbrev ek4 : Bool → Value := fun x => .bool x
abbrev ek9 : Str → Value := fun x => .string (ba x)
theorem key9 : KeyOk Try.prog 9 ek9 := key_str Try.runUnderlying9
end Go.Proofs.Ytjkkefhfbcgahaa

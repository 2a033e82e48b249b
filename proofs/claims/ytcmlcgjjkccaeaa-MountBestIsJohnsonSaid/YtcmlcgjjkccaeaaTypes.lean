/- The data of this seat's functions, and how they lie in cells. -/
import Derived.Test.YtcmlcgjjkccaeaaStrs
import Derived.Test.YtcmlcgjjkccaeaaProg
import Derived.KernelRfl
namespace Go.Proofs.Ytcmlcgjjkccaeaa
open Go Go.RowKit
set_option linter.unusedVariables false

structure Batch where
  Name : Str
  A : Int
  B : Int
instance : DecidableEq Batch := fun a b => decidable_of_iff (a.Name = b.Name ∧ a.A = b.A ∧ a.B = b.B) (by cases a; cases b; simp)
instance : Inhabited Batch := ⟨⟨default, default, default⟩⟩
instance : Fits Batch := ⟨fun x => Fits.fits x.Name ∧ Fits.fits x.A ∧ Fits.fits x.B⟩
instance : Bulk Batch := ⟨fun x => Bulk.bk x.Name + (Bulk.bk x.A + (Bulk.bk x.B + 1)), fun x => by first | exact Nat.le_add_left _ _ | omega⟩
instance : Flat Batch := ⟨3, by decide, fun x => [.string (ba x.Name), .int .i64 x.A, .int .i64 x.B], fun _ => rfl, fun _ v hv => by simp only [List.mem_cons, List.not_mem_nil, or_false] at hv; rcases hv with rfl | rfl | rfl <;> rfl⟩
structure R10Search where
  l : (List Batch)
  now : (List Int)
  best : (List Int)
  most : Int
instance : DecidableEq R10Search := fun a b => decidable_of_iff (a.l = b.l ∧ a.now = b.now ∧ a.best = b.best ∧ a.most = b.most) (by cases a; cases b; simp)
instance : Inhabited R10Search := ⟨⟨default, default, default, default⟩⟩
instance : Fits R10Search := ⟨fun x => Fits.fits x.l ∧ Fits.fits x.now ∧ Fits.fits x.best ∧ Fits.fits x.most⟩
instance : Bulk R10Search := ⟨fun x => Bulk.bk x.l + (Bulk.bk x.now + (Bulk.bk x.best + (Bulk.bk x.most + 1))), fun x => by first | exact Nat.le_add_left _ _ | omega⟩
instance : Rep R10Search := ⟨4, by decide, fun w F cs x => ∃ (ulA : Option Addr) (ulC : Nat) (unowA : Option Addr) (unowC : Nat) (ubestA : Option Addr) (ubestC : Nat), cs = [.slice ulA x.l.length ulC, .slice unowA x.now.length unowC, .slice ubestA x.best.length ubestC, .int .i64 x.most] ∧ View w F ulA ulC x.l ∧ View w F unowA unowC x.now ∧ View w F ubestA ubestC x.best,
  fun ⟨_, _, _, _, _, _, h, _, _, _⟩ => by rw [h]; rfl, fun ⟨ulA, ulC, unowA, unowC, ubestA, ubestC, h, h0, h1, h2⟩ hF => ⟨ulA, ulC, unowA, unowC, ubestA, ubestC, h, h0.mono hF, h1.mono hF, h2.mono hF⟩⟩
theorem eqS54 (x y : Batch) {d : Nat} (w : World) : (Op.equalIn (d + 2) 54 (.agg #[.string (ba x.Name), .int .i64 x.A, .int .i64 x.B]) (.agg #[.string (ba y.Name), .int .i64 y.A, .int .i64 y.B])).run Try.prog w = .ok (decide (x = y)) w :=
  eqStruct Try.underlying54 (by kernel_rfl) (eqF_cons (by decide) (part_leaf Try.isAgg9 rfl) (part_leaf Try.isAgg9 rfl) (eq_str Try.runUnderlying9 _ _) (eqF_cons (by decide) (part_leaf Try.isAgg3 rfl) (part_leaf Try.isAgg3 rfl) (eq_int Try.runUnderlying3 _ _) (eqF_cons (by decide) (part_leaf Try.isAgg3 rfl) (part_leaf Try.isAgg3 rfl) (eq_int Try.runUnderlying3 _ _) eqF_nil))) (by rw [Bool.eq_iff_iff]; cases x; cases y; simp [and_assoc])
theorem mo : Try.prog.follows .mixedOrders = true := by kernel_rfl
theorem info3 : TyInfo Try.prog 3 1 8 [.int .i64 0] := ⟨⟨Try.t3, _, by kernel_rfl, rfl, rfl, rfl, rfl⟩⟩
theorem info4 : TyInfo Try.prog 4 1 1 [.bool false] := ⟨⟨Try.t4, _, by kernel_rfl, rfl, rfl, rfl, rfl⟩⟩
theorem info29 : TyInfo Try.prog 29 1 24 [.slice none 0 0] := ⟨⟨Try.t29, _, by kernel_rfl, rfl, rfl, rfl, rfl⟩⟩
theorem info54 : TyInfo Try.prog 54 3 32 [.string (ba []), .int .i64 0, .int .i64 0] := ⟨⟨Try.t54, _, by kernel_rfl, rfl, rfl, rfl, rfl⟩⟩
abbrev ek4 : Bool → Value := fun x => .bool x
abbrev ek9 : Str → Value := fun x => .string (ba x)
theorem key9 : KeyOk Try.prog 9 ek9 := key_str Try.runUnderlying9
end Go.Proofs.Ytcmlcgjjkccaeaa

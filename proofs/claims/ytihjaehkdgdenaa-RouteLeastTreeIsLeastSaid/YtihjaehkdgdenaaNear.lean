/- Small ints in rows; pointers into rows that are held. Plain lemmas over any program. -/
import Derived.Test.YtihjaehkdgdenaaStrs
namespace Go.Proofs.Ytihjaehkdgdenaa
open Go Go.RowKit
set_option linter.unusedVariables false

/-- an int16 in a cell -/
structure I16 where
  v : Int
instance : DecidableEq I16 := fun a b => decidable_of_iff (a.v = b.v) (by cases a; cases b; simp)
instance : Inhabited I16 := ⟨⟨0⟩⟩
instance : Flat I16 := ⟨1, Nat.one_pos, fun x => [.int .i16 x.v], fun _ => rfl, fun _ v hv => by simp at hv; subst hv; rfl⟩
section
variable {P : Program} {n : Nat} {fs : Fr} {a : Act} {o : Oper} {v : Value} {ops : Array Oper} {rest : List Oper} {Q : Exit → Act → World → Prop} {w w0 : World} {M : Nat → Prop} {σ : List HProp}
theorem V.nilCheckEl {x : Operand} {A : Option Addr} {k : Nat} (ho : o.op = .nilCheck x) (hx : ev fs x = some (elemPtr A k)) (hA : A.isSome = true) :
    ∀ a w, FrOk n fs a → Sat w0 M σ w → RunV P o a w (elemPtr A k) := fun a w hf _ => by
  have e1 := hf.ev_ok hx
  obtain ⟨ad, rfl⟩ := Option.isSome_iff_exists.1 hA
  unfold RunV execOp
  simp only [ho, e1, elemPtr]
  rfl
end
end Go.Proofs.Ytihjaehkdgdenaa

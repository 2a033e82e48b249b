/- Chapter texts of ours, as far as the claim needs them. -/
import Derived.Test.YtdnilnmdbgcmoaaGreatDoorStrs
namespace Go.Proofs.YtdnilnmdbgcmoaaGreatDoor
open Go Go.RowKit
set_option linter.unusedVariables false
set_option linter.unusedSectionVars false
set_option linter.unusedSimpArgs false
section
variable {P : Program} {n : Nat} {fs : Fr} {a : Act} {o : Oper} {v : Value} {ops : Array Oper} {rest : List Oper} {Q : Exit → Act → World → Prop} {w w0 : World} {M : Nat → Prop} {σ : List HProp}
theorem V.nilCheckEl {x : Operand} {A : Option Addr} {k : Nat} (ho : o.op = .nilCheck x) (hx : ev fs x = some (elemPtr A k)) (hA : A.isSome = true) :
    ∀ a w, FrOk n fs a → Sat w0 M σ w → RunV P o a w (elemPtr A k) := fun a w hf _ => by
  have e1 := hf.ev_ok hx
  obtain ⟨ad, rfl⟩ := Option.isSome_iff_exists.1 hA
  unfold RunV execOp
  simp only [ho, e1, elemPtr]
  rfl
end
end Go.Proofs.YtdnilnmdbgcmoaaGreatDoor

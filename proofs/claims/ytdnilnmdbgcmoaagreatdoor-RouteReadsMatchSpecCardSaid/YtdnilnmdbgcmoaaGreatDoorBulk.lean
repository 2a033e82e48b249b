/- Chapter texts of ours, as far as the claim needs them. -/
import Derived.Test.YtdnilnmdbgcmoaaGreatDoorClaim
import Derived.Test.YtdnilnmdbgcmoaaGreatDoorStrs
import Derived.Test.YtdnilnmdbgcmoaaGreatDoorRows
namespace Go.Proofs.YtdnilnmdbgcmoaaGreatDoor
open Go Go.RowKit Go.ChangeShapes Go.WideShapes
set_option linter.unusedVariables false
set_option linter.unusedSectionVars false
set_option linter.unusedSimpArgs false
def DatB (P : Program) (t : TypeId) (α : Type) [Rep α] [Fits α] [Bulk α] : Prop :=
  ∀ {H : Type} {enc : TypeId × Value → H} {w : World} {base : Nat} {spare : Nat → Bool} {held : Bool} {fuel : Nat} {cs : List Value} {x : DataW H × List MemPlace},
    DataW.trod enc P w base spare held fuel t cs = some x → ∃ y : α, Rep.rd w (below w) cs y ∧ Fits.fits y ∧ Bulk.bk y ≤ Rows.uptoBulk x.1
section
variable {P : Program}
theorem datB_str {t : TypeId} (ht : P.underlying t = some .string) : DatB P t Str := fun h => by
  obtain ⟨s, hc, hx, hsz⟩ := DataW.trod_string ht h
  refine ⟨s.data.toList, hc.trans ?_, ?_, by rw [hx]; simp [Rows.uptoBulk, Bulk.bk]⟩
  rotate_left
  · unfold maxLen at hsz
    show s.data.toList.length ≤ 9223372036854775807
    have h3 : s.data.toList.length = s.size := Array.length_toList
    omega
  show [Value.string s] = [.string (ba s.data.toList)]
  simp [ba]
end
end Go.Proofs.YtdnilnmdbgcmoaaGreatDoor

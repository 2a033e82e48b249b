/- Chapter texts of ours, as far as the claim needs them. -/
import Derived.Test.YtihjaehkdgdenaaDoorMark
namespace Go.Proofs.YtihjaehkdgdenaaDoor
open Go Go.RowKit
set_option linter.unusedVariables false
set_option linter.unusedSectionVars false
set_option linter.unusedSimpArgs false
class Bulk (α : Type) where
  bk : α → Nat
  one : ∀ x, 1 ≤ bk x
instance instBulkInt : Bulk Int := ⟨fun _ => 1, fun _ => Nat.le_refl _⟩
instance instBulkBool : Bulk Bool := ⟨fun _ => 1, fun _ => Nat.le_refl _⟩
instance instBulkStr : Bulk Str := ⟨fun s => s.length + 1, fun _ => Nat.le_add_left _ _⟩
instance instBulkList {α : Type} [Bulk α] : Bulk (List α) := ⟨fun l => (l.map Bulk.bk).sum + 1, fun _ => Nat.le_add_left _ _⟩
def countB (s : Str) (c : Int) : Int := (s.count c.toNat.toUInt8 : Nat)
end Go.Proofs.YtihjaehkdgdenaaDoor

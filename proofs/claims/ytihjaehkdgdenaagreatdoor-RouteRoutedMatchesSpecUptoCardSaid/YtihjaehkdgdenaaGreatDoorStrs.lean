/- Chapter texts of ours, as far as the claim needs them. -/
import Derived.Test.YtihjaehkdgdenaaGreatDoorMark
namespace Go.Proofs.YtihjaehkdgdenaaGreatDoor
open Go Go.RowKit
set_option linter.unusedVariables false
set_option linter.unusedSectionVars false
set_option linter.unusedSimpArgs false
class Bulk (α : Type) where
  bk : α → Nat
  one : ∀ x, 1 ≤ bk x
instance instBulkInt : Bulk Int := ⟨fun _ => 1, fun _ => Nat.le_refl _⟩
instance instBulkBool : Bulk Bool := ⟨fun _ => 1, fun _ => Nat.le_refl _⟩
instance instBulkStr : Bulk Str := ⟨fun s => s.length + 1, fun _ => Nat.le_add_left _ _⟩
instance instBulkList {α : Type} [Bulk α] : Bulk (List α) := ⟨fun l => (l.map Bulk.bk).sum + 1, fun _ => Nat.le_add_left _ _⟩
theorem bulk_mem {α : Type} [Bulk α] {l : List α} {x : α} (h : x ∈ l) : Bulk.bk x < Bulk.bk l := by
  show Bulk.bk x < (l.map Bulk.bk).sum + 1
  have : ∀ (l : List α), x ∈ l → Bulk.bk x ≤ (l.map Bulk.bk).sum := by
    intro l
    induction l with
    | nil => intro h; cases h
    | cons y r ih =>
      intro h
      simp only [List.map_cons, List.sum_cons]
      rcases List.mem_cons.1 h with h | h
      · subst h; omega
      · have := ih h; omega
  have := this l h
  omega
def countB (s : Str) (c : Int) : Int := (s.count c.toNat.toUInt8 : Nat)
end Go.Proofs.YtihjaehkdgdenaaGreatDoor

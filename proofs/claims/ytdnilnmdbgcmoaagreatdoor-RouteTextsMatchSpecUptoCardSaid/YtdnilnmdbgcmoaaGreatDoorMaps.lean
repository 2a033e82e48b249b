/- Chapter texts of ours, as far as the claim needs them. -/
import Derived.Test.YtdnilnmdbgcmoaaGreatDoorWord
namespace Go.Proofs.YtdnilnmdbgcmoaaGreatDoor
open Go Go.RowKit
set_option linter.unusedVariables false
set_option linter.unusedSectionVars false
set_option linter.unusedSimpArgs false
section
variable {P : Program}
structure MapIs {K V : Type} (ek : K → Value) (ev : V → Value) (m : List (K × V)) (es : Array MapEntry) (clock : Nat) : Prop where
  pairs : es.toList.map (fun e => (e.key, e.val)) = m.map (fun p => (ek p.1, ev p.2))
  once : ∀ (i j : Nat) (e e' : MapEntry), es[i]? = some e → es[j]? = some e' → e.born = e'.born → i = j
  born : ∀ e ∈ es.toList, e.born < clock
def hmap {K V : Type} (g : Nat) (ek : K → Value) (ev : V → Value) (m : List (K × V)) : HProp :=
  ⟨fun w F => (∃ es clock, w.heap[g]? = some (.map es clock) ∧ MapIs ek ev m es clock) ∧ ∀ b, F b ↔ b = g,
    fun ⟨⟨es, c, h, he⟩, hF⟩ hb => ⟨⟨es, c, (hb g ((hF g).2 rfl)).trans h, he⟩, hF⟩⟩
theorem Keeps.setObj (w : World) (g : Nat) (o : Obj) {M : Nat → Prop} (h : M g) : Keeps w M { w with heap := w.heap.setIfInBounds g o } :=
  ⟨rfl, rfl, rfl, by simp, fun b _ hm => by
    have : g ≠ b := fun e => hm (e ▸ h)
    simp [this], fun _ => Nat.le_refl _⟩
end
end Go.Proofs.YtdnilnmdbgcmoaaGreatDoor

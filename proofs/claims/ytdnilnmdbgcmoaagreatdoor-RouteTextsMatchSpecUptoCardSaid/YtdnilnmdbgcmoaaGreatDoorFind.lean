/- Chapter texts of ours, as far as the claim needs them. -/
import Derived.Test.YtdnilnmdbgcmoaaGreatDoorPlain
import Derived.Test.YtdnilnmdbgcmoaaGreatDoorWord
namespace Go.Proofs.YtdnilnmdbgcmoaaGreatDoor
open Go Go.RowKit
set_option linter.unusedVariables false
set_option linter.unusedSectionVars false
set_option linter.unusedSimpArgs false
section
variable {α : Type} {key : α → Str} {t : List α}
theorem firstBad_at {f : Nat → α → Int} : ∀ (t : List α) (k i : Nat) (x : α), (∀ j y, j < i → t[j]? = some y → f (k + j) y = 0) → t[i]? = some x → f (k + i) x ≠ 0 → firstBad f t k = f (k + i) x
  | [], _, _, _, _, hx, _ => by simp at hx
  | y :: r, k, 0, x, _, hx, hne => by simp at hx; subst hx; unfold firstBad; rw [if_pos (by simpa using hne)]; simp
  | y :: r, k, i + 1, x, hj, hx, hne => by
    have h0 : f k y = 0 := hj 0 y (by omega) rfl
    unfold firstBad
    rw [if_neg (by simpa using h0)]
    have := firstBad_at r (k + 1) i x (fun j z hji hz => by have := hj (j + 1) z (by omega) (by simpa using hz); rwa [show k + (j + 1) = k + 1 + j by omega] at this) (by simpa using hx) (by rwa [show k + 1 + i = k + (i + 1) by omega])
    rw [this, show k + 1 + i = k + (i + 1) by omega]
theorem firstBad_none {f : Nat → α → Int} : ∀ (t : List α) (k : Nat), (∀ j y, t[j]? = some y → f (k + j) y = 0) → firstBad f t k = 0
  | [], _, _ => rfl
  | y :: r, k, hj => by
    have h0 : f k y = 0 := hj 0 y rfl
    unfold firstBad
    rw [if_neg (by simpa using h0)]
    exact firstBad_none r (k + 1) (fun j z hz => by have := hj (j + 1) z (by simpa using hz); rwa [show k + (j + 1) = k + 1 + j by omega] at this)
theorem forIn_checkP {body : Nat → α → Unit → (Unit → Prop) → Prop} {Q : Int → Prop} {D : Prop} (f : Nat → α → Int)
    (hb : ∀ i x next, t[i]? = some x → (∀ j y, j < i → t[j]? = some y → f j y = 0) → (f i x ≠ 0 → Q (f i x)) → (f i x = 0 → next ()) → body i x () next) (h : if firstBad f t 0 = 0 then D else Q (firstBad f t 0)) : forIn' body (fun _ => D) t 0 () := by
  refine forIn0 (fun k _ => ∀ j y, j < k → t[j]? = some y → f j y = 0) (fun j y hj => by omega) (fun k x s hx hI next hn => ?_) (fun s hI => ?_)
  · refine hb k x next hx hI (fun hne => ?_) (fun h0 => hn _ (fun j y hj hy => ?_))
    · have h2 := firstBad_at (f := f) t 0 k x (fun j y hj hy => by rw [Nat.zero_add]; exact hI j y hj hy) hx (by rw [Nat.zero_add]; exact hne)
      rw [Nat.zero_add] at h2
      rw [h2, if_neg hne] at h
      exact h
    · rcases Nat.lt_or_ge j k with hlt | hge
      · exact hI j y hlt hy
      · have : j = k := by omega
        subst this; rw [hx] at hy; injection hy with hy; subst hy; exact h0
  · have := firstBad_none t 0 (f := f) (fun j y hy => by rw [Nat.zero_add]; exact hI j y (lt_of_get hy) hy)
    rw [if_pos this] at h
    exact h
end
end Go.Proofs.YtdnilnmdbgcmoaaGreatDoor

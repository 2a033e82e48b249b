/- Plain laws on loops: a search for a first one, a counted loop. -/
import Derived.Test.YtmopdabkfklefaaPure
namespace Go.Proofs.Ytmopdabkfklefaa
open Go Go.RowKit
set_option linter.unusedVariables false

/-- a loop that ends at the first one of a kind -/
theorem forIn_any {α : Type} {body : Nat → α → Unit → (Unit → Prop) → Prop} {done : Unit → Prop} {A : Prop} (p : α → Bool)
    (hb : ∀ k x next, (if p x = true then A else next ()) → body k x () next) :
    ∀ (l : List α) (k : Nat), (if l.any p = true then A else done ()) → forIn' body done l k ()
  | [], _, h => by show done (); simpa using h
  | x :: r, k, h => by
    refine hb k x _ ?_
    by_cases hp : p x = true
    · rw [if_pos hp]; rw [if_pos (by simp [hp])] at h; exact h
    · rw [if_neg hp]
      refine forIn_any p hb r (k + 1) ?_
      have : (x :: r).any p = r.any p := by simp [hp]
      rw [this] at h; exact h
/-- a loop that looks for the first one of a kind, and tells its number -/
theorem forIn_find {α : Type} {body : Nat → α → Unit → (Unit → Prop) → Prop} {done : Unit → Prop} {A : Nat → Prop} (p : α → Bool)
    (hb : ∀ k x next, (if p x = true then A k else next ()) → body k x () next) :
    ∀ (l : List α) (k : Nat), (match l.findIdx? p with | some i => A (k + i) | none => done ()) → forIn' body done l k ()
  | [], _, h => by show done (); simpa using h
  | x :: r, k, h => by
    refine hb k x _ ?_
    by_cases hp : p x = true
    · rw [if_pos hp]; simp [List.findIdx?_cons, hp] at h; exact h
    · rw [if_neg hp]
      refine forIn_find p hb r (k + 1) ?_
      simp only [List.findIdx?_cons, hp, Bool.false_eq_true, if_false] at h
      cases hr : r.findIdx? p with
      | none => simpa [hr] using h
      | some i =>
        simp only [hr, Option.map_some] at h
        show A (k + 1 + i); rw [show k + 1 + i = k + (i + 1) by omega]; exact h
/-- a loop that counts up to an end -/
theorem lp_upto {σ : Type} {F : (σ → Prop) → σ → Prop} (S : Nat → σ) (n : Nat) {s : σ} (hs : s = S 0)
    (step : ∀ (X : σ → Prop) m, m < n → X (S (m + 1)) → F X (S m)) (done : ∀ X : σ → Prop, F X (S n)) : lp F s := by
  subst hs
  have key : ∀ d m, m + d = n → iterF F (d + 1) (S m) := by
    intro d
    induction d with
    | zero => intro m h; obtain rfl : m = n := by omega
              exact done _
    | succ d ih => intro m h; exact step _ m (by omega) (ih (m + 1) (by omega))
  exact ⟨_, key n 0 (by omega)⟩
theorem zipIdx_any {α : Type} (p : α → Bool) : ∀ (l : List α) (k : Nat), (l.zipIdx k).any (fun q => p q.1) = l.any p
  | [], _ => rfl
  | x :: r, k => by simp [List.zipIdx_cons, zipIdx_any p r (k + 1)]
end Go.Proofs.Ytmopdabkfklefaa

/- Chapter texts of ours, as far as the claim needs them. -/
import Derived.Test.YtihjaehkdgdenaaDoorPure
namespace Go.Proofs.YtihjaehkdgdenaaDoor
open Go Go.RowKit
set_option linter.unusedVariables false
set_option linter.unusedSectionVars false
set_option linter.unusedSimpArgs false
theorem forIn_any {α : Type} {body : Nat → α → Unit → (Unit → Prop) → Prop} {done : Unit → Prop} {A : Prop} (p : α → Bool)
    (hb : ∀ k x next, (if p x = true then A else next ()) → body k x () next) :
    ∀ (l : List α) (k : Nat), (if l.any p = true then A else done ()) → forIn' body done l k ()
  | [], _, h => by show done (); simpa using h
  | x :: r, k, h => by
    refine hb k x _ ?_
    by_cases hp : p x = true
    · rw [if_pos hp]; rw [if_pos (by simp [hp])] at h; exact h
    · rw [if_neg hp]
      refine forIn_any p hb r (k + 1) ?_
      have : (x :: r).any p = r.any p := by simp [hp]
      rw [this] at h; exact h
def firstBad {α : Type} (f : Nat → α → Int) : List α → Nat → Int
  | [], _ => 0
  | x :: r, k => if f k x ≠ 0 then f k x else firstBad f r (k + 1)
theorem firstBad_zero {α : Type} {f : Nat → α → Int} : ∀ {l : List α} {k : Nat}, firstBad f l k = 0 → ∀ i x, l[i]? = some x → f (k + i) x = 0
  | [], _, _, i, x, hx => by simp at hx
  | y :: r, k, h, i, x, hx => by
    unfold firstBad at h
    split at h
    · rename_i hn; exact absurd h hn
    · rename_i hn
      cases i with
      | zero => simp at hx; subst hx; exact Decidable.not_not.1 hn
      | succ i => have := firstBad_zero h i x (by simpa using hx); rw [show k + (i + 1) = k + 1 + i by omega]; exact this
theorem forIn_firstS' {α σ : Type} {body : Nat → α → σ → (σ → Prop) → Prop} {done : σ → Prop} {A : Int → Prop} (f : Nat → α → Int) (g : Nat → σ) :
    ∀ (l : List α) (k : Nat), (∀ i x next, l[i]? = some x → f (k + i) x ≠ 0 → A (f (k + i) x) → body (k + i) x (g (k + i)) next) →
      (∀ i x next, l[i]? = some x → f (k + i) x = 0 → (∀ j y, j < i → l[j]? = some y → f (k + j) y = 0) → next (g (k + i + 1)) → body (k + i) x (g (k + i)) next) →
      (firstBad f l k ≠ 0 → A (firstBad f l k)) → (firstBad f l k = 0 → done (g (k + l.length))) → forIn' body done l k (g k)
  | [], k, _, _, _, hd => hd rfl
  | x :: r, k, h1, h2, ha, hd => by
    by_cases h0 : f k x = 0
    · refine h2 0 x _ rfl h0 (fun j y hj => by omega) ?_
      have e : firstBad f (x :: r) k = firstBad f r (k + 1) := by simp [firstBad, h0]
      rw [e] at ha hd
      refine forIn_firstS' f g r (k + 1) (fun i y next hy => ?_) (fun i y next hy hf hj hn => ?_) ha (fun h => ?_)
      · have := h1 (i + 1) y next (by simpa using hy)
        rw [show k + 1 + i = k + (i + 1) by omega]; exact this
      · have := h2 (i + 1) y next (by simpa using hy)
        rw [show k + 1 + i = k + (i + 1) by omega] at hf hn ⊢
        refine this hf (fun j z hjl hz => ?_) hn
        cases j with
        | zero => simp at hz; subst hz; exact h0
        | succ j => have := hj j z (by omega) (by simpa using hz); rw [show k + (j + 1) = k + 1 + j by omega]; exact this
      · have := hd h; simp only [List.length_cons] at this; rw [show k + 1 + r.length = k + (r.length + 1) by omega]; exact this
    · refine h1 0 x _ rfl h0 ?_
      have e : firstBad f (x :: r) k = f k x := by simp [firstBad, h0]
      rw [e] at ha; exact ha h0
theorem forIn_firstS {α σ : Type} {body : Nat → α → σ → (σ → Prop) → Prop} {done : σ → Prop} {A : Int → Prop} (f : Nat → α → Int) (g : Nat → σ) {l : List α} {s : σ} (hs : s = g 0)
    (h1 : ∀ i x next, l[i]? = some x → f i x ≠ 0 → A (f i x) → body i x (g i) next)
    (h2 : ∀ i x next, l[i]? = some x → f i x = 0 → (∀ j y, j < i → l[j]? = some y → f j y = 0) → next (g (i + 1)) → body i x (g i) next)
    (ha : firstBad f l 0 ≠ 0 → A (firstBad f l 0)) (hd : firstBad f l 0 = 0 → done (g l.length)) : forIn' body done l 0 s := by
  subst hs
  refine forIn_firstS' f g l 0 (fun i x next => ?_) (fun i x next => ?_) ha (fun h => ?_)
  · rw [Nat.zero_add]; exact h1 i x next
  · rw [Nat.zero_add]; intro hx hf hj hn; exact h2 i x next hx hf (fun j y hjl hy => by have := hj j y hjl hy; rwa [Nat.zero_add] at this) hn
  · rw [Nat.zero_add]; exact hd h
theorem lp_scan {α : Type} {F : (Int → Prop) → Int → Prop} {xs : List α} (hlen : xs.length ≤ 9223372036854775807) (bad : α → Bool) {A done : Prop}
    (hF : ∀ X n, cnd (decide (n < (xs.length : Int))) (idx xs n fun x => cnd (bad x) A (X (w64 (n + 1)))) done → F X n) (h : if xs.any bad = true then A else done) : lp F 0 := by
  have key : ∀ d (k : Nat), k + d = xs.length → (∀ i x, i < k → xs[i]? = some x → bad x = false) → iterF F (d + 1) (k : Int) := by
    intro d
    induction d with
    | zero =>
      intro k hk hb
      refine hF _ _ (cnd_of (fun e => ?_) (fun _ => ?_))
      · simp at e; omega
      · have : xs.any bad = false := by
          rw [List.any_eq_false]; intro x hx
          obtain ⟨i, hi⟩ := List.getElem?_of_mem hx
          have := hb i x (by have := lt_of_get hi; omega) hi
          simp [this]
        rw [this] at h; simpa using h
    | succ d ih =>
      intro k hk hb
      refine hF _ _ (cnd_of (fun e => ?_) (fun e => ?_))
      · have hlt : k < xs.length := by omega
        refine idx_nat (List.getElem?_eq_getElem hlt) (cnd_of (fun eb => ?_) (fun eb => ?_))
        · have : xs.any bad = true := List.any_eq_true.2 ⟨_, List.getElem_mem hlt, eb⟩
          rw [this] at h; simpa using h
        · have hw : w64 ((k : Int) + 1) = ((k + 1 : Nat) : Int) := by rw [w64_id] <;> omega
          rw [hw]
          refine ih (k + 1) (by omega) (fun i x hi hx => ?_)
          rcases Nat.lt_or_ge i k with h1 | h1
          · exact hb i x h1 hx
          · obtain rfl : i = k := by omega
            rw [List.getElem?_eq_getElem hlt] at hx; injection hx with hx; subst hx; exact eb
      · simp at e; omega
  exact ⟨_, key xs.length 0 (by omega) (fun i x hi => by omega)⟩
end Go.Proofs.YtihjaehkdgdenaaDoor

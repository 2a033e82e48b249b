/- Lists turned around in place. Plain lemmas. -/
import Derived.Test.YtdnilnmdbgcmoaaGreatDoorFind
import Derived.Test.YtdnilnmdbgcmoaaGreatDoorOwn
namespace Go.Proofs.YtdnilnmdbgcmoaaGreatDoor
open Go Go.RowKit
set_option linter.unusedVariables false

/-- after k swaps of n elements from lo on -/
def swapped {α : Type} (xs : List α) (lo n k p : Nat) : Option α := if lo ≤ p ∧ p < lo + n ∧ (p - lo < k ∨ n - 1 - (p - lo) < k) then xs[lo + (n - 1 - (p - lo))]? else xs[p]?
theorem rev_loop {α : Type} {xs : List α} {lo n : Nat} (hn : lo + n ≤ xs.length) (hlen : xs.length ≤ 9223372036854775807) {F : (List α × Int × Int → Prop) → List α × Int × Int → Prop} {Q : List α → Prop}
    (hF : ∀ X (l : List α) (i j : Nat), l.length = xs.length → i < j → j < n → (∀ x1 x2, l[lo + j]? = some x1 → l[lo + i]? = some x2 → X ((l.set (lo + i) x1).set (lo + j) x2, ((i + 1 : Nat) : Int), ((j - 1 : Nat) : Int))) → F X (l, (i : Int), (j : Int)))
    (hQ : ∀ X (l : List α) (i j : Int), l.length = xs.length → ¬ i < j → Q l → F X (l, i, j))
    (h : Q (xs.take lo ++ ((xs.drop lo).take n).reverse ++ xs.drop (lo + n))) : lp F (xs, 0, (n : Int) - 1) := by
  refine lp_intro (fun s => s.1.length = xs.length ∧ ∃ k : Nat, s.2.1 = (k : Int) ∧ s.2.2 = (n : Int) - 1 - k ∧ (2 * k ≤ n + 1) ∧ ∀ p, s.1[p]? = swapped xs lo n k p) (fun s => (s.2.2 - s.2.1 + 1).toNat) ⟨rfl, 0, rfl, by simp, by omega, fun p => by unfold swapped; rw [if_neg (by omega)]⟩ ?_
  rintro X ⟨l, i, j⟩ ⟨hl, k, hi, hj, hk, hp⟩ hX
  dsimp only at hl hi hj hp hX
  subst hi hj
  by_cases hlt : (k : Int) < (n : Int) - 1 - k
  · have e : (n : Int) - 1 - k = ((n - 1 - k : Nat) : Int) := by omega
    rw [e] at hX ⊢
    refine hF X l k (n - 1 - k) hl (by omega) (by omega) (fun x1 x2 h1 h2 => hX _ ⟨by simp [hl], k + 1, rfl, by show ((n - 1 - k - 1 : Nat) : Int) = _; omega, by omega, fun p => ?_⟩ (by simp only; omega))
    rw [hp] at h1 h2
    have g1 : xs[lo + (n - 1 - k)]? = some x1 := by unfold swapped at h1; rw [if_neg (by omega)] at h1; exact h1
    have g2 : xs[lo + k]? = some x2 := by unfold swapped at h2; rw [if_neg (by omega)] at h2; exact h2
    rw [List.getElem?_set, List.getElem?_set, hp]
    unfold swapped
    by_cases c1 : lo + (n - 1 - k) = p
    · subst c1
      rw [if_pos rfl, if_pos (by simp [hl]; omega), if_pos (by omega), ← g2]
      congr 1; omega
    · rw [if_neg c1]
      by_cases c2 : lo + k = p
      · subst c2
        rw [if_pos rfl, if_pos (by omega), if_pos (by omega), ← g1]
        congr 1; omega
      · rw [if_neg c2]
        by_cases c3 : lo ≤ p ∧ p < lo + n ∧ (p - lo < k ∨ n - 1 - (p - lo) < k)
        · rw [if_pos c3, if_pos (by omega)]
        · rw [if_neg c3, if_neg (by omega)]
  · refine hQ X l _ _ hl hlt ?_
    have : l = xs.take lo ++ ((xs.drop lo).take n).reverse ++ xs.drop (lo + n) := by
      apply List.ext_getElem?
      intro p
      rw [hp]
      unfold swapped
      have hrl : ((xs.drop lo).take n).reverse.length = n := by simp; omega
      have htl : (xs.take lo).length = lo := by simp; omega
      rcases Nat.lt_or_ge p lo with c | c
      · rw [if_neg (by omega), List.getElem?_append_left (by simp; omega), List.getElem?_append_left (by omega), List.getElem?_take, if_pos c]
      · rcases Nat.lt_or_ge p (lo + n) with c2 | c2
        · have hm : ((xs.drop lo).take n).length = n := by simp; omega
          have hr : (xs.take lo ++ ((xs.drop lo).take n).reverse ++ xs.drop (lo + n))[p]? = xs[lo + (n - 1 - (p - lo))]? := by
            rw [List.getElem?_append_left (by simp only [List.length_append, hrl, htl]; omega), List.getElem?_append_right (by omega), htl, List.getElem?_reverse (by rw [hm]; omega), hm, List.getElem?_take, if_pos (by omega), List.getElem?_drop]
          rw [hr]
          by_cases c3 : p - lo < k ∨ n - 1 - (p - lo) < k
          · rw [if_pos ⟨c, c2, c3⟩]
          · rw [if_neg (fun e => c3 e.2.2)]
            congr 1; omega
        · rw [if_neg (by omega), List.getElem?_append_right (by simp only [List.length_append, hrl, htl]; omega), List.getElem?_drop]
          simp only [List.length_append, hrl, htl]
          congr 1; omega
    rw [this]; exact h
/-- a copy -/
theorem clone_step {α : Type} {xs : List α} {b : Nat} (hr : room xs.length b) {Q : List α → Prop} (h : Q xs) : nilq xs fun b1 => cnd b1 (Q ([] : List α)) (must (room (([] : List α) ++ xs).length b) (Q (([] : List α) ++ xs))) := by
  intro b1 hb
  cases b1
  · rw [cnd_false]; exact ⟨hr, h⟩
  · rw [cnd_true, ← hb rfl]; exact h
end Go.Proofs.YtdnilnmdbgcmoaaGreatDoor

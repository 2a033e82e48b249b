/- Chapter texts of ours, as far as the claim needs them. -/
import Derived.Test.YtihjaehkdgdenaaDoorPlain
namespace Go.Proofs.YtihjaehkdgdenaaDoor
open Go Go.RowKit
set_option linter.unusedVariables false
set_option linter.unusedSectionVars false
set_option linter.unusedSimpArgs false
def rkAt {α : Type} (r : α → Int) (l : List α) (k : Nat) : Int := ((l[k]?).map r).getD 0
def swapL {α : Type} (l : List α) (i j : Nat) (x y : α) : List α := (l.set i y).set j x
section
variable {α : Type} {r : α → Int} {l : List α} {i j : Nat} {x y : α}
theorem rkAt_eq (h : l[i]? = some x) : rkAt r l i = r x := by unfold rkAt; rw [h]; rfl
theorem swapL_perm (hi : l[i]? = some x) (hj : l[j]? = some y) : (swapL l i j x y).Perm l := by
  obtain ⟨h1, e1⟩ := List.getElem?_eq_some_iff.1 hi
  obtain ⟨h2, e2⟩ := List.getElem?_eq_some_iff.1 hj
  unfold swapL
  rw [← e1, ← e2]
  exact List.set_set_perm h1 h2
theorem swapL_len : (swapL l i j x y).length = l.length := by unfold swapL; simp
theorem swapL_rk (hi : l[i]? = some x) (hj : l[j]? = some y) (k : Nat) : rkAt r (swapL l i j x y) k = if k = i then rkAt r l j else if k = j then rkAt r l i else rkAt r l k := by
  have h1 := (List.getElem?_eq_some_iff.1 hi).1
  have h2 := (List.getElem?_eq_some_iff.1 hj).1
  rw [rkAt_eq hi, rkAt_eq hj]
  unfold rkAt swapL
  simp only [List.getElem?_set, List.length_set]
  by_cases h3 : k = i
  · subst h3
    by_cases h4 : j = k
    · subst h4; rw [hi] at hj; injection hj with hj; subst hj; simp [h1]
    · simp [h1, h4]
  · by_cases h4 : j = k
    · subst h4; simp [h2, h3]
    · have h5 : ¬ k = j := fun e => h4 e.symm
      have h6 : ¬ i = k := fun e => h3 e.symm
      simp only [h4, if_false, h3, h5, h6]
end
def HpF (g : Nat → Int) (n b : Nat) : Prop := ∀ k, 0 < k → k < n → b ≤ (k - 1) / 2 → g ((k - 1) / 2) ≤ g k
def UpI (g : Nat → Int) (n j : Nat) : Prop := (∀ k, 0 < k → k < n → k ≠ j → g ((k - 1) / 2) ≤ g k) ∧ ∀ k, 0 < k → k < n → (k - 1) / 2 = j → 0 < j → g ((j - 1) / 2) ≤ g k
def DnI (g : Nat → Int) (n b i : Nat) : Prop := (∀ k, 0 < k → k < n → b ≤ (k - 1) / 2 → (k - 1) / 2 ≠ i → g ((k - 1) / 2) ≤ g k) ∧ ∀ k, 0 < k → k < n → (k - 1) / 2 = i → 0 < i → b ≤ (i - 1) / 2 → g ((i - 1) / 2) ≤ g k
section
variable {g g' : Nat → Int} {n b i j : Nat}
theorem UpI.step (h : UpI g n j) (hj : 0 < j) (hjn : j < n) (hlt : g j < g ((j - 1) / 2)) (hs : ∀ k, g' k = if k = (j - 1) / 2 then g j else if k = j then g ((j - 1) / 2) else g k) : UpI g' n ((j - 1) / 2) := by
  obtain ⟨h1, h2⟩ := h
  refine ⟨fun k hk hkn hne => ?_, fun k hk hkn hp hi => ?_⟩
  · rw [hs, hs]
    by_cases e1 : k = j
    · subst e1
      rw [if_pos rfl, if_neg (by omega), if_pos rfl]; omega
    · by_cases e2 : (k - 1) / 2 = j
      · rw [if_neg (by omega), if_pos e2, if_neg hne, if_neg e1]; exact h2 k hk hkn e2 hj
      · by_cases e3 : (k - 1) / 2 = (j - 1) / 2
        · rw [if_pos e3, if_neg hne, if_neg e1]; have := h1 k hk hkn e1; rw [e3] at this; omega
        · rw [if_neg e3, if_neg e2, if_neg hne, if_neg e1]; exact h1 k hk hkn e1
  · rw [hs, hs]
    have h3 := h1 ((j - 1) / 2) hi (by omega) (by omega)
    by_cases e1 : k = j
    · subst e1
      rw [if_neg (by omega), if_neg (by omega), if_neg (by omega), if_pos rfl]; exact h3
    · rw [if_neg (by omega), if_neg (by omega), if_neg (by omega), if_neg e1]
      have := h1 k hk hkn e1; rw [hp] at this; omega
theorem UpI.stop (h : UpI g n j) (hd : 0 < j → g ((j - 1) / 2) ≤ g j) : HpF g n 0 := fun k hk hkn _ => by
  by_cases e : k = j
  · subst e; exact hd hk
  · exact h.1 k hk hkn e
theorem UpI.last (h : HpF g n 0) : UpI g (n + 1) n := ⟨fun k hk hkn hne => h k hk (by omega) (Nat.zero_le _), fun k hk hkn hp _ => by omega⟩
theorem DnI.step (h : DnI g n b i) (hb : b ≤ i) (hj : j < n) (hji : 0 < j ∧ (j - 1) / 2 = i) (hmin : ∀ k, 0 < k → k < n → (k - 1) / 2 = i → g j ≤ g k) (hlt : g j < g i) (hs : ∀ k, g' k = if k = i then g j else if k = j then g i else g k) : DnI g' n b j := by
  obtain ⟨h1, h2⟩ := h
  refine ⟨fun k hk hkn hbk hne => ?_, fun k hk hkn hp hj0 hbj => ?_⟩
  · rw [hs, hs]
    by_cases e1 : k = j
    · subst e1; rw [if_pos hji.2, if_neg (by omega), if_pos rfl]; omega
    · by_cases e2 : k = i
      · subst e2
        rw [if_neg (by omega), if_neg (by omega), if_pos rfl]
        exact h2 j hji.1 hj hji.2 hk hbk
      · by_cases e3 : (k - 1) / 2 = i
        · rw [if_pos e3, if_neg e2, if_neg e1]; exact hmin k hk hkn e3
        · rw [if_neg e3, if_neg hne, if_neg e2, if_neg e1]; exact h1 k hk hkn hbk e3
  · rw [hs, hs, if_pos hji.2, if_neg (by omega), if_neg (by omega)]
    have := h1 k hk hkn (by omega) (by omega)
    rw [hp] at this; exact this
theorem DnI.stop (h : DnI g n b i) (hd : ∀ k, 0 < k → k < n → (k - 1) / 2 = i → g i ≤ g k) : HpF g n b := fun k hk hkn hb => by
  by_cases e : (k - 1) / 2 = i
  · rw [e]; exact hd k hk hkn e
  · exact h.1 k hk hkn hb e
theorem DnI.first (h : HpF g n (b + 1)) : DnI g n b b := ⟨fun k hk hkn hb hne => h k hk hkn (by omega), fun k hk hkn hp hi hbi => by omega⟩
theorem HpF.min (h : HpF g n 0) : ∀ k, k < n → g 0 ≤ g k := by
  intro k
  induction k using Nat.strongRecOn with
  | _ k ih =>
    intro hk
    rcases Nat.eq_zero_or_pos k with h0 | h0
    · subst h0; exact Int.le_refl _
    · exact Int.le_trans (ih ((k - 1) / 2) (by omega) (by omega)) (h k h0 hk (Nat.zero_le _))
theorem HpF.congr (h : HpF g n b) {m : Nat} (hm : m ≤ n) (he : ∀ k, k < m → g' k = g k) : HpF g' m b := fun k hk hkn hb => by
  rw [he k hkn, he _ (by omega)]; exact h k hk (by omega) hb
theorem DnI.pop (h : HpF g n 0) {m : Nat} (hm : m ≤ n) (he : ∀ k, 0 < k → k < m → g' k = g k) : DnI g' m 0 0 :=
  ⟨fun k hk hkn _ hne => by rw [he k hk hkn, he _ (by omega) (by omega)]; exact h k hk (by omega) (Nat.zero_le _), fun k hk hkn hp hi _ => by omega⟩
end
theorem lp_measN {σ : Type} {F : (σ → Prop) → σ → Prop} (I : Nat → σ → Prop) {n : Nat} {s : σ} (h : I n s) (step : ∀ n s (X : σ → Prop), I n s → (∀ m s', m < n → I m s' → X s') → F X s) : lp F s := by
  have key : ∀ k n s, n < k → I n s → iterF F k s := by
    intro k
    induction k with
    | zero => intro n s h; omega
    | succ k ih => intro n s h hI; exact step n s _ hI (fun m s' hm hI' => ih m s' (by omega) hI')
  exact ⟨n + 1, key (n + 1) n s (by omega) h⟩
end Go.Proofs.YtihjaehkdgdenaaDoor

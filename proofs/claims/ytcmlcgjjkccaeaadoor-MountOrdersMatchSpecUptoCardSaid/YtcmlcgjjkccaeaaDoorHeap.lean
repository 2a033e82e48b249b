/- Chapter texts of ours, as far as the claim needs them. -/
import Derived.Test.YtcmlcgjjkccaeaaDoorPlain
namespace Go.Proofs.YtcmlcgjjkccaeaaDoor
open Go Go.RowKit
set_option linter.unusedVariables false
set_option linter.unusedSimpArgs false
def HpF (g : Nat → Int) (n b : Nat) : Prop := ∀ k, 0 < k → k < n → b ≤ (k - 1) / 2 → g ((k - 1) / 2) ≤ g k
def UpI (g : Nat → Int) (n j : Nat) : Prop := (∀ k, 0 < k → k < n → k ≠ j → g ((k - 1) / 2) ≤ g k) ∧ ∀ k, 0 < k → k < n → (k - 1) / 2 = j → 0 < j → g ((j - 1) / 2) ≤ g k
def DnI (g : Nat → Int) (n b i : Nat) : Prop := (∀ k, 0 < k → k < n → b ≤ (k - 1) / 2 → (k - 1) / 2 ≠ i → g ((k - 1) / 2) ≤ g k) ∧ ∀ k, 0 < k → k < n → (k - 1) / 2 = i → 0 < i → b ≤ (i - 1) / 2 → g ((i - 1) / 2) ≤ g k
section
variable {g g' : Nat → Int} {n b i j : Nat}
theorem UpI.step (h : UpI g n j) (hj : 0 < j) (hjn : j < n) (hlt : g j < g ((j - 1) / 2)) (hs : ∀ k, g' k = if k = (j - 1) / 2 then g j else if k = j then g ((j - 1) / 2) else g k) : UpI g' n ((j - 1) / 2) := by
  obtain ⟨h1, h2⟩ := h
  refine ⟨fun k hk hkn hne => ?_, fun k hk hkn hp hi => ?_⟩
  · rw [hs, hs]
    by_cases e1 : k = j
    · subst e1
      rw [if_pos rfl, if_neg (by omega), if_pos rfl]; omega
    · by_cases e2 : (k - 1) / 2 = j
      · rw [if_neg (by omega), if_pos e2, if_neg hne, if_neg e1]; exact h2 k hk hkn e2 hj
      · by_cases e3 : (k - 1) / 2 = (j - 1) / 2
        · rw [if_pos e3, if_neg hne, if_neg e1]; have := h1 k hk hkn e1; rw [e3] at this; omega
        · rw [if_neg e3, if_neg e2, if_neg hne, if_neg e1]; exact h1 k hk hkn e1
  · rw [hs, hs]
    have h3 := h1 ((j - 1) / 2) hi (by omega) (by omega)
    by_cases e1 : k = j
    · subst e1
      rw [if_neg (by omega), if_neg (by omega), if_neg (by omega), if_pos rfl]; exact h3
    · rw [if_neg (by omega), if_neg (by omega), if_neg (by omega), if_neg e1]
      have := h1 k hk hkn e1; rw [hp] at this; omega
theorem UpI.last (h : HpF g n 0) : UpI g (n + 1) n := ⟨fun k hk hkn hne => h k hk (by omega) (Nat.zero_le _), fun k hk hkn hp _ => by omega⟩
theorem DnI.step (h : DnI g n b i) (hb : b ≤ i) (hj : j < n) (hji : 0 < j ∧ (j - 1) / 2 = i) (hmin : ∀ k, 0 < k → k < n → (k - 1) / 2 = i → g j ≤ g k) (hlt : g j < g i) (hs : ∀ k, g' k = if k = i then g j else if k = j then g i else g k) : DnI g' n b j := by
  obtain ⟨h1, h2⟩ := h
  refine ⟨fun k hk hkn hbk hne => ?_, fun k hk hkn hp hj0 hbj => ?_⟩
  · rw [hs, hs]
    by_cases e1 : k = j
    · subst e1; rw [if_pos hji.2, if_neg (by omega), if_pos rfl]; omega
    · by_cases e2 : k = i
      · subst e2
        rw [if_neg (by omega), if_neg (by omega), if_pos rfl]
        exact h2 j hji.1 hj hji.2 hk hbk
      · by_cases e3 : (k - 1) / 2 = i
        · rw [if_pos e3, if_neg e2, if_neg e1]; exact hmin k hk hkn e3
        · rw [if_neg e3, if_neg hne, if_neg e2, if_neg e1]; exact h1 k hk hkn hbk e3
  · rw [hs, hs, if_pos hji.2, if_neg (by omega), if_neg (by omega)]
    have := h1 k hk hkn (by omega) (by omega)
    rw [hp] at this; exact this
theorem DnI.first (h : HpF g n (b + 1)) : DnI g n b b := ⟨fun k hk hkn hb hne => h k hk hkn (by omega), fun k hk hkn hp hi hbi => by omega⟩
theorem HpF.min (h : HpF g n 0) : ∀ k, k < n → g 0 ≤ g k := by
  intro k
  induction k using Nat.strongRecOn with
  | _ k ih =>
    intro hk
    rcases Nat.eq_zero_or_pos k with h0 | h0
    · subst h0; exact Int.le_refl _
    · exact Int.le_trans (ih ((k - 1) / 2) (by omega) (by omega)) (h k h0 hk (Nat.zero_le _))
theorem HpF.congr (h : HpF g n b) {m : Nat} (hm : m ≤ n) (he : ∀ k, k < m → g' k = g k) : HpF g' m b := fun k hk hkn hb => by
  rw [he k hkn, he _ (by omega)]; exact h k hk (by omega) hb
end
theorem lp_measN {σ : Type} {F : (σ → Prop) → σ → Prop} (I : Nat → σ → Prop) {n : Nat} {s : σ} (h : I n s) (step : ∀ n s (X : σ → Prop), I n s → (∀ m s', m < n → I m s' → X s') → F X s) : lp F s := by
  have key : ∀ k n s, n < k → I n s → iterF F k s := by
    intro k
    induction k with
    | zero => intro n s h; omega
    | succ k ih => intro n s h hI; exact step n s _ hI (fun m s' hm hI' => ih m s' (by omega) hI')
  exact ⟨n + 1, key (n + 1) n s (by omega) h⟩
end Go.Proofs.YtcmlcgjjkccaeaaDoor

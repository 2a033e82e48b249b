/- Chapter texts of ours, as far as the claim needs them. -/
import Derived.Test.YtbegofbmbcghdaaGreatDoorStackI
import Derived.Test.YtbegofbmbcghdaaGreatDoorCells
namespace Go.Proofs.YtbegofbmbcghdaaGreatDoor
open Go Go.RowKit
set_option linter.unusedVariables false
set_option linter.unusedSectionVars false
set_option linter.unusedSimpArgs false
theorem Je {o : List Int} {j : Nat} {x : Int} (h : o[j]? = some x) : o.getD j 0 = x := by rw [List.getD_eq_getElem?_getD, h]; rfl
def part (o : List Int) (x : Through) : List Int := (o.take x.To.toNat).drop (x.From - 1).toNat
def P7 (n : Nat) (x : Through) : Prop := 1 ≤ x.From ∧ x.From < x.To ∧ x.To ≤ n
theorem J9 {m : List eY} {s : List Layer} {y : Int} : ∀ {k : Nat}, y ∈ kR m s k ↔ ∃ i : Nat, i < k ∧ y = (i : Int) ∧ jc m (s.getD i default) = 1
  | 0 => by simp [kR]
  | k + 1 => by
    rw [kR, List.mem_append, J9]
    constructor
    · rintro (⟨i, h1, h2, h3⟩ | h)
      · exact ⟨i, by omega, h2, h3⟩
      · split at h
        · rename_i hk; simp at h; exact ⟨k, by omega, h, hk⟩
        · simp at h
    · rintro ⟨i, h1, h2, h3⟩
      rcases Nat.lt_or_ge i k with h | h
      · exact .inl ⟨i, h, h2, h3⟩
      · obtain rfl : i = k := by omega
        exact .inr (by rw [if_pos h3]; simp [h2])
theorem EG {m : List eY} {s : List Layer} {l : List Through} (h : lu m s l = 0) : lG m s = 0 ∧ l.length ≤ 200 ∧ ∀ x ∈ l, P7 (sW m s).length x := by
  unfold lu at h
  split at h; · rename_i hn; exact absurd h hn
  rename_i h1
  have h1 : lG m s = 0 := Decidable.not_not.1 h1
  obtain ⟨_, hsl, _⟩ := wu h1
  have hcp := yS m s
  split at h; · cases h
  rename_i h2
  split at h; · rename_i hn; exact absurd h hn
  rename_i h3
  exact ⟨h1, by omega, fun x hx => L6 (by omega) (Decidable.not_not.1 h3) x hx⟩
def Eo (m : List eY) (s : List Layer) (i : Nat) : Prop := (sW m s).getD i 0 - (sW m s).getD (i - 1) 0 = 2 ∧ jc m (s.getD ((sW m s).getD i 0 - 1).toNat default) = 2
instance (m : List eY) (s : List Layer) (i : Nat) : Decidable (Eo m s i) := inferInstanceAs (Decidable (_ ∧ _))
def BB (m : List eY) (s : List Layer) : Nat → List Through
  | 0 => []
  | i + 1 => BB m s i ++ (if 1 ≤ i ∧ Eo m s i then [⟨(i : Int), (i : Int) + 1⟩] else [])
theorem I9 (m : List eY) (s : List Layer) (k : Nat) : ∀ d, kR m s k <+: kR m s (k + d)
  | 0 => List.prefix_refl _
  | d + 1 => (I9 m s k d).trans (by rw [show k + (d + 1) = k + d + 1 by omega, kR]; exact List.prefix_append _ _)
theorem KP {m : List eY} {s : List Layer} {k : Nat} (hk : k < s.length) (h1 : jc m (s.getD k default) = 1) : (sW m s)[(kR m s k).length]? = some (k : Int) := by
  have hp := I9 m s (k + 1) (s.length - (k + 1))
  rw [show k + 1 + (s.length - (k + 1)) = s.length by omega] at hp
  obtain ⟨t, ht⟩ := hp
  unfold sW
  rw [← ht, List.getElem?_append_left (by rw [kR, if_pos h1]; simp), kR, if_pos h1]
  simp
theorem LH {m : List eY} {s : List Layer} (h0 : jc m (s.getD 0 default) = 1) (hb : ∀ i x, s[i]? = some x → qJ m s i x = 0) {k : Nat} (hk : k < s.length) (h2 : jc m (s.getD k default) = 2) : 1 ≤ k ∧ jc m (s.getD (k - 1) default) = 1 := by
  have hk0 : k ≠ 0 := fun e => by subst e; omega
  have hx : s[k]? = some (s.getD k default) := by rw [List.getD_eq_getElem?_getD, List.getElem?_eq_getElem hk]; rfl
  have hx' : s[k - 1]? = some (s.getD (k - 1) default) := by rw [List.getD_eq_getElem?_getD, List.getElem?_eq_getElem (by omega)]; rfl
  have h3 := AZ.1 (hb _ _ hx)
  have h4 := (AZ.1 (hb _ _ hx')).1
  have hn := h3.2.2.2.2
  unfold jB at hn
  rw [if_neg hk0] at hn
  exact ⟨by omega, Decidable.byContradiction (fun hc => hn (.inr (.inl ⟨h2, h4, hc⟩)))⟩
theorem NM {m : List eY} {s : List Layer} (hb : ∀ i x, s[i]? = some x → qJ m s i x = 0) {k : Nat} (hk : k < s.length) (h1 : 1 ≤ k) (h2 : jc m (s.getD (k - 1) default) = 2) : jc m (s.getD k default) = 1 := by
  have hx : s[k]? = some (s.getD k default) := by rw [List.getD_eq_getElem?_getD, List.getElem?_eq_getElem hk]; rfl
  have hn := (AZ.1 (hb _ _ hx)).2.2.2.2
  unfold jB at hn
  rw [if_neg (by omega)] at hn
  exact Decidable.byContradiction (fun hc => hn (.inr (.inr ⟨h2, hc⟩)))
theorem Qh {m : List eY} {s : List Layer} (h0 : jc m (s.getD 0 default) = 1) (hb : ∀ i x, s[i]? = some x → qJ m s i x = 0) {k : Nat} (hk : k < s.length) (h1 : jc m (s.getD k default) = 1) :
    (1 ≤ (kR m s k).length ∧ Eo m s (kR m s k).length) ↔ (1 ≤ k ∧ jc m (s.getD (k - 1) default) = 2) := by
  have hg := Je (KP hk h1)
  unfold Eo
  rw [hg]
  constructor
  · rintro ⟨h3, h4, h5⟩
    have hlt : (kR m s k).length - 1 < (sW m s).length := by have := TL (KP hk h1); omega
    obtain ⟨i, hi, hie, _⟩ := J9.1 (List.getElem_mem hlt : (sW m s)[(kR m s k).length - 1] ∈ kR m s s.length)
    rw [Je (List.getElem?_eq_getElem hlt), hie] at h4
    refine ⟨by omega, ?_⟩
    rw [show ((k : Int) - 1).toNat = k - 1 by omega] at h5
    exact h5
  · rintro ⟨h3, h4⟩
    obtain ⟨h5, h6⟩ := LH h0 hb (by omega) h4
    have e1 : kR m s k = kR m s (k - 1) := by
      conv => lhs; rw [show k = k - 1 + 1 by omega]
      rw [kR, if_neg (by omega), List.append_nil]
    have e2 : kR m s (k - 1) = kR m s (k - 1 - 1) ++ [((k - 1 - 1 : Nat) : Int)] := by
      conv => lhs; rw [show k - 1 = k - 1 - 1 + 1 by omega]
      rw [kR, if_pos h6]
    have h7 := Je (KP (k := k - 1 - 1) (by omega) h6)
    have e3 : (kR m s k).length = (kR m s (k - 1 - 1)).length + 1 := by rw [e1, e2]; simp
    rw [e3, Nat.add_sub_cancel, h7]
    refine ⟨by omega, by omega, ?_⟩
    rw [show ((k : Int) - 1).toNat = k - 1 by omega]
    exact h4
theorem MB {m : List eY} {s : List Layer} (h0 : jc m (s.getD 0 default) = 1) (hb : ∀ i x, s[i]? = some x → qJ m s i x = 0) : ∀ k, k ≤ s.length →
    (s.take k).foldl (oL m) ([], 0) = (BB m s (kR m s k).length ++ (if 1 ≤ k ∧ jc m (s.getD (k - 1) default) = 2 then [⟨((kR m s k).length : Int), ((kR m s k).length : Int) + 1⟩] else []), ((kR m s k).length : Int))
  | 0, _ => by simp [kR, BB]
  | k + 1, hk => by
    have ih := MB h0 hb k (by omega)
    have hx : s[k]? = some (s.getD k default) := by rw [List.getD_eq_getElem?_getD, List.getElem?_eq_getElem (by omega)]; rfl
    rw [yA (oL m) ([], 0) s k _ hx, ih]
    unfold oL
    dsimp only
    rw [Nat.add_sub_cancel]
    by_cases h1 : jc m (s.getD k default) = 1
    · have hc := Qh h0 hb (by omega) h1
      have hl : (kR m s (k + 1)).length = (kR m s k).length + 1 := by rw [kR, if_pos h1]; simp
      rw [if_pos h1, hl, BB, if_neg (c := 1 ≤ k + 1 ∧ _) (by omega), List.append_nil]
      refine Prod.ext ?_ (by dsimp only; omega)
      dsimp only
      by_cases h2 : 1 ≤ k ∧ jc m (s.getD (k - 1) default) = 2
      · rw [if_pos h2, if_pos (hc.2 h2)]
      · rw [if_neg h2, if_neg (fun h => h2 (hc.1 h))]
    · have hl : kR m s (k + 1) = kR m s k := by rw [kR, if_neg h1, List.append_nil]
      have hno : ¬ (1 ≤ k ∧ jc m (s.getD (k - 1) default) = 2) := fun h => h1 (NM hb (by omega) h.1 h.2)
      rw [if_neg h1, hl, if_neg hno, List.append_nil]
      by_cases h2 : jc m (s.getD k default) = 2
      · rw [if_pos h2, if_pos ⟨by omega, h2⟩]
      · rw [if_neg h2, if_neg (fun h => h2 h.2), List.append_nil]
theorem OY {m : List eY} {s : List Layer} (h : lG m s = 0) : jl m s = BB m s (sW m s).length := by
  obtain ⟨_, hsl, h2, h0, h1, hb⟩ := wu h
  unfold jl
  have := MB h0 hb s.length (Nat.le_refl _)
  rw [List.take_length, if_neg (fun h => by omega), List.append_nil] at this
  rw [this]; rfl
def before (a b : Through) : Prop := ¬ rJ b a < 0
end Go.Proofs.YtbegofbmbcghdaaGreatDoor

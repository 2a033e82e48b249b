/- Chapter 4: the fewest sheets: plain. -/
import Derived.Test.YtjkkefhfbcgahaaStackF
namespace Go.Proofs.Ytjkkefhfbcgahaa
open Go Go.RowKit
set_option linter.unusedVariables false

/-! ### the table of fewest sheets -/
def cellStep (now : List Int) (t : Nat) (v : Int) : List Int := if now.getD t 0 < 0 ∨ v < now.getD t 0 then now.set t v else now
def cellsTo (g k : Nat) (a : Int) (now : List Int) : Nat → List Int
  | 0 => now
  | j + 1 => cellStep (cellsTo g k a now j) (k + (j + 1) * g) (a + ((j + 1 : Nat) : Int))
def rowUp (g M : Nat) (after : List Int) : Nat → List Int
  | 0 => List.replicate (after.length + M * g) (-1)
  | k + 1 => if after.getD k 0 < 0 then rowUp g M after k else cellsTo g k (after.getD k 0) (rowUp g M after k) M
def rowOf (g M : Nat) (after : List Int) : List Int := rowUp g M after after.length
def fewL (M : Nat) : List Int → List Int
  | [] => [0]
  | g :: r => rowOf g.toNat M (fewL M r)
theorem cellStep_len (now : List Int) (t : Nat) (v : Int) : (cellStep now t v).length = now.length := by unfold cellStep; split <;> simp
theorem cellsTo_len (g k : Nat) (a : Int) (now : List Int) : ∀ j, (cellsTo g k a now j).length = now.length
  | 0 => rfl
  | j + 1 => by rw [cellsTo, cellStep_len, cellsTo_len]
theorem rowUp_len (g M : Nat) (after : List Int) : ∀ k, (rowUp g M after k).length = after.length + M * g
  | 0 => by simp [rowUp]
  | k + 1 => by rw [rowUp]; split; exact rowUp_len g M after k; rw [cellsTo_len]; exact rowUp_len g M after k
structure GoodRow (g M : Nat) (after : List Int) (S : Nat → Nat → Prop) (now : List Int) : Prop where
  len : now.length = after.length + M * g
  from_ : ∀ (t : Nat) (v : Int), now[t]? = some v → v = -1 ∨ ∃ (k n : Nat) (a : Int), 1 ≤ n ∧ n ≤ M ∧ after[k]? = some a ∧ 0 ≤ a ∧ t = k + n * g ∧ v = a + (n : Int)
  has : ∀ (k n : Nat) (a : Int), S k n → after[k]? = some a → 0 ≤ a → ∃ v, now[k + n * g]? = some v ∧ 0 ≤ v ∧ v ≤ a + (n : Int)
theorem GoodRow.mono {g M : Nat} {after now : List Int} {S S' : Nat → Nat → Prop} (h : GoodRow g M after S now) (hs : ∀ k n, S' k n → S k n) : GoodRow g M after S' now := ⟨h.len, h.from_, fun k n a hS => h.has k n a (hs k n hS)⟩
theorem good_step {g M : Nat} {after now : List Int} {S : Nat → Nat → Prop} (h : GoodRow g M after S now) {k n : Nat} {a : Int} (hk : after[k]? = some a) (ha : 0 ≤ a) (h1 : 1 ≤ n) (h2 : n ≤ M) : GoodRow g M after (fun k' n' => S k' n' ∨ (k' = k ∧ n' = n)) (cellStep now (k + n * g) (a + (n : Int))) := by
  have hkl := lt_of_get hk
  have hmul : n * g ≤ M * g := Nat.mul_le_mul_right _ h2
  have hlt : k + n * g < now.length := by rw [h.len]; omega
  have hget : now[k + n * g]? = some (now.getD (k + n * g) 0) := by rw [List.getD_eq_getElem?_getD, List.getElem?_eq_getElem hlt]; rfl
  unfold cellStep
  split
  · rename_i hc
    refine ⟨by rw [List.length_set]; exact h.len, fun t v hv => ?_, fun k' n' a' hS hk' ha' => ?_⟩
    · rw [List.getElem?_set] at hv
      split at hv
      · rename_i e
        first
        | (injection hv with hv; exact .inr ⟨k, n, a, h1, h2, hk, ha, e.symm, hv.symm⟩)
        | (rw [if_pos (by omega)] at hv; injection hv with hv; exact .inr ⟨k, n, a, h1, h2, hk, ha, e.symm, hv.symm⟩)
      · exact h.from_ t v hv
    · rw [List.getElem?_set]
      by_cases e : k + n * g = k' + n' * g
      · rw [if_pos e, if_pos (by omega)]
        rcases hS with hS | ⟨rfl, rfl⟩
        · obtain ⟨v, q1, q2, q3⟩ := h.has k' n' a' hS hk' ha'
          rw [← e, hget] at q1; injection q1 with q1
          exact ⟨_, rfl, by omega, by omega⟩
        · rw [hk] at hk'; injection hk' with hk'; exact ⟨_, rfl, by omega, by omega⟩
      · rw [if_neg e]
        rcases hS with hS | ⟨rfl, rfl⟩
        · exact h.has k' n' a' hS hk' ha'
        · exact absurd rfl e
  · rename_i hc
    refine ⟨h.len, h.from_, fun k' n' a' hS hk' ha' => ?_⟩
    rcases hS with hS | ⟨rfl, rfl⟩
    · exact h.has k' n' a' hS hk' ha'
    · rw [hk] at hk'; injection hk' with hk'; exact ⟨_, hget, by omega, by omega⟩
theorem good_cells {g M : Nat} {after now : List Int} {S : Nat → Nat → Prop} (h : GoodRow g M after S now) {k : Nat} {a : Int} (hk : after[k]? = some a) (ha : 0 ≤ a) : ∀ j, j ≤ M → GoodRow g M after (fun k' n' => S k' n' ∨ (k' = k ∧ 1 ≤ n' ∧ n' ≤ j)) (cellsTo g k a now j)
  | 0, _ => h.mono (fun k' n' hS => by rcases hS with hS | ⟨_, h1, h2⟩; exact hS; omega)
  | j + 1, hj => (good_step (good_cells h hk ha j (by omega)) hk ha (by omega : 1 ≤ j + 1) hj).mono (fun k' n' hS => by
      rcases hS with hS | ⟨h1, h2, h3⟩
      · exact .inl (.inl hS)
      · by_cases e : n' = j + 1
        · exact .inr ⟨h1, e⟩
        · exact .inl (.inr ⟨h1, h2, by omega⟩))
theorem good_up {g M : Nat} {after : List Int} : ∀ k, k ≤ after.length → GoodRow g M after (fun k' n' => k' < k ∧ 1 ≤ n' ∧ n' ≤ M) (rowUp g M after k)
  | 0, _ => by
    refine ⟨by simp [rowUp], fun t v hv => ?_, fun k n a hS => by omega⟩
    rw [rowUp, List.getElem?_replicate] at hv
    split at hv
    · injection hv with hv; exact .inl hv.symm
    · cases hv
  | k + 1, hk => by
    have ih := good_up (g := g) (M := M) (after := after) k (by omega)
    have hg : after[k]? = some (after.getD k 0) := by rw [List.getD_eq_getElem?_getD, List.getElem?_eq_getElem (by omega)]; rfl
    rw [rowUp]
    split
    · rename_i hc
      refine ⟨ih.len, ih.from_, fun k' n' a' hS hk' ha' => ?_⟩
      by_cases e : k' = k
      · subst e; rw [hg] at hk'; injection hk' with hk'; omega
      · exact ih.has k' n' a' ⟨by omega, hS.2⟩ hk' ha'
    · rename_i hc
      refine (good_cells ih hg (by omega) M (Nat.le_refl _)).mono (fun k' n' hS => ?_)
      by_cases e : k' = k
      · exact .inr ⟨e, hS.2⟩
      · exact .inl ⟨by omega, hS.2⟩
theorem good_row (g M : Nat) (after : List Int) : GoodRow g M after (fun k' n' => k' < after.length ∧ 1 ≤ n' ∧ n' ≤ M) (rowOf g M after) := good_up after.length (Nat.le_refl _)
theorem few_range {M : Nat} : ∀ (G : List Int) (t : Nat) (v : Int), (fewL M G)[t]? = some v → -1 ≤ v ∧ v ≤ ((M * G.length : Nat) : Int)
  | [], t, v, h => by
    have := List.mem_of_getElem? h
    simp [fewL] at this
    subst this; simp
  | g :: r, t, v, h => by
    rcases (good_row g.toNat M (fewL M r)).from_ t v h with e | ⟨k, n, a, h1, h2, h3, h4, _, h5⟩
    · subst e; constructor <;> omega
    · have := few_range r k a h3
      rw [List.length_cons, Nat.mul_add, Nat.mul_one]
      constructor <;> omega
theorem few_len {M : Nat} : ∀ (G : List Int), (∀ g ∈ G, 1 ≤ g ∧ g ≤ 2000) → (fewL M G).length ≤ 1 + M * 2000 * G.length
  | [], _ => by simp [fewL]
  | g :: r, h => by
    have ih := few_len (M := M) r (fun x hx => h x (List.mem_cons_of_mem _ hx))
    have hg := h g (List.mem_cons_self ..)
    have h1 : (fewL M (g :: r)).length = (fewL M r).length + M * g.toNat := rowUp_len _ _ _ _
    have h2 : M * g.toNat ≤ M * 2000 := Nat.mul_le_mul_left _ (by omega)
    rw [h1, List.length_cons, Nat.mul_add, Nat.mul_one]
    omega
/-- a choice of sheets is in the table -/
def sumOf : List Int → List Int → Int
  | g :: G, k :: K => g * k + sumOf G K
  | _, _ => 0
theorem few_has {M : Nat} : ∀ (G K : List Int), (∀ g ∈ G, 1 ≤ g ∧ g ≤ 2000) → G.length = K.length → (∀ k ∈ K, 1 ≤ k ∧ k ≤ (M : Int)) → ∃ v, 0 ≤ sumOf G K ∧ (fewL M G)[(sumOf G K).toNat]? = some v ∧ 0 ≤ v
  | [], [], _, _, _ => ⟨0, by simp [sumOf], by simp [sumOf, fewL], by omega⟩
  | g :: G, k :: K, hg, hl, hk => by
    obtain ⟨v, h0, h1, h2⟩ := few_has G K (fun x hx => hg x (List.mem_cons_of_mem _ hx)) (by simpa using hl) (fun x hx => hk x (List.mem_cons_of_mem _ hx))
    have hg1 := hg g (List.mem_cons_self ..)
    have hk1 := hk k (List.mem_cons_self ..)
    obtain ⟨u, q1, q2, _⟩ := (good_row g.toNat M (fewL M G)).has (sumOf G K).toNat k.toNat v ⟨lt_of_get h1, by omega, by omega⟩ h1 h2
    have hm : 0 ≤ g * k := Int.mul_nonneg (by omega) (by omega)
    have hmn : (g * k).toNat = k.toNat * g.toNat := by
      rw [Nat.mul_comm]; exact Int.toNat_mul (by omega) (by omega)
    refine ⟨u, by rw [sumOf]; omega, ?_, q2⟩
    rw [sumOf, Int.toNat_add hm h0, hmn, Nat.add_comm]
    exact q1
/-! ### the sheets of one sum -/
def okSheet (now after : List Int) (g left n : Nat) : Bool := decide (n * g ≤ left) && decide (left - n * g < after.length) && decide (0 ≤ after.getD (left - n * g) 0) && decide (after.getD (left - n * g) 0 + (n : Int) = now.getD left 0)
def firstN (c : Nat → Bool) : Nat → Nat → Nat
  | 0, n => n
  | f + 1, n => if c n = true then n else firstN c f (n + 1)
theorem firstN_spec {c : Nat → Bool} : ∀ (f n : Nat), (∃ i, n ≤ i ∧ i < n + f ∧ c i = true) → c (firstN c f n) = true ∧ n ≤ firstN c f n ∧ firstN c f n < n + f ∧ ∀ i, n ≤ i → i < firstN c f n → c i = false
  | 0, n, ⟨i, h1, h2, _⟩ => by omega
  | f + 1, n, ⟨i, h1, h2, h3⟩ => by
    unfold firstN
    split
    · rename_i e; exact ⟨e, by omega, by omega, fun j hj hj2 => by omega⟩
    · rename_i e
      have hi : i ≠ n := fun hh => e (hh ▸ h3)
      obtain ⟨q1, q2, q3, q4⟩ := firstN_spec f (n + 1) ⟨i, by omega, by omega, h3⟩
      refine ⟨q1, by omega, by omega, fun j hj hj2 => ?_⟩
      by_cases ej : j = n
      · rw [ej]; simpa using e
      · exact q4 j (by omega) hj2
def sheetN (M : Nat) (g : Int) (r : List Int) (left : Nat) : Nat := firstN (okSheet (fewL M (g :: r)) (fewL M r) g.toNat left) M 1
theorem sheet_spec {M : Nat} {g : Int} {r : List Int} {left : Nat} {v : Int} (hv : (fewL M (g :: r))[left]? = some v) (h0 : 0 ≤ v) :
    1 ≤ sheetN M g r left ∧ sheetN M g r left ≤ M ∧ sheetN M g r left * g.toNat ≤ left ∧ (∃ a, (fewL M r)[left - sheetN M g r left * g.toNat]? = some a ∧ 0 ≤ a ∧ a + (sheetN M g r left : Int) = v) ∧
    ∀ n, 1 ≤ n → n < sheetN M g r left → ¬ (n * g.toNat ≤ left ∧ ∃ a, (fewL M r)[left - n * g.toNat]? = some a ∧ a = v - (n : Int)) := by
  have hgd : ∀ (l : List Int) (t : Nat) (x : Int), l[t]? = some x → l.getD t 0 = x := fun l t x h => by rw [List.getD_eq_getElem?_getD, h]; rfl
  rcases (good_row g.toNat M (fewL M r)).from_ left v hv with e | ⟨k, n, a, h1, h2, h3, h4, h5, h6⟩
  · omega
  have hc : okSheet (fewL M (g :: r)) (fewL M r) g.toNat left n = true := by
    have hk : left - n * g.toNat = k := by omega
    unfold okSheet
    rw [hk, hgd _ _ _ h3, hgd _ _ _ hv]
    have := lt_of_get h3
    simp only [Bool.and_eq_true, decide_eq_true_eq]
    omega
  obtain ⟨q1, q2, q3, q4⟩ := firstN_spec (c := okSheet (fewL M (g :: r)) (fewL M r) g.toNat left) M 1 ⟨n, h1, by omega, hc⟩
  have q1' : okSheet (fewL M (g :: r)) (fewL M r) g.toNat left (sheetN M g r left) = true := q1
  unfold okSheet at q1'
  simp only [Bool.and_eq_true, decide_eq_true_eq] at q1'
  obtain ⟨⟨⟨p1, p2⟩, p3⟩, p4⟩ := q1'
  rw [hgd _ _ _ hv] at p4
  refine ⟨q2, by show firstN _ _ _ ≤ M; omega, p1, ⟨_, by rw [List.getElem?_eq_getElem p2], by rw [List.getD_eq_getElem?_getD, List.getElem?_eq_getElem p2] at p3; exact p3, by rw [List.getD_eq_getElem?_getD, List.getElem?_eq_getElem p2] at p4; exact p4⟩, fun i hi1 hi2 hbad => ?_⟩
  obtain ⟨b1, b, b2, b3⟩ := hbad
  have hf := q4 i hi1 hi2
  have hr := few_range r _ _ b2
  have hin : i < n := by
    have : sheetN M g r left ≤ n := by
      rcases Nat.lt_or_ge n (sheetN M g r left) with hh | hh
      · have := q4 n h1 hh; rw [hc] at this; cases this
      · exact hh
    omega
  unfold okSheet at hf
  rw [hgd _ _ _ b2, hgd _ _ _ hv] at hf
  have := lt_of_get b2
  simp only [Bool.and_eq_false_iff, decide_eq_false_iff_not] at hf
  omega
def sheetsOf (M : Nat) : List Int → Nat → List Int
  | [], _ => []
  | g :: r, left => (sheetN M g r left : Int) :: sheetsOf M r (left - sheetN M g r left * g.toNat)
theorem sheets_len (M : Nat) : ∀ (G : List Int) (left : Nat), (sheetsOf M G left).length = G.length
  | [], _ => rfl
  | g :: r, left => by rw [sheetsOf, List.length_cons, List.length_cons, sheets_len]
theorem sheets_sum {M : Nat} : ∀ (G : List Int) (left : Nat) (v : Int), (∀ g ∈ G, 1 ≤ g ∧ g ≤ 2000) → (fewL M G)[left]? = some v → 0 ≤ v → sumOf G (sheetsOf M G left) = (left : Int)
  | [], left, v, _, h, _ => by
    have := lt_of_get h
    simp [fewL] at this
    simp [sumOf, sheetsOf, this]
  | g :: r, left, v, hg, h, h0 => by
    obtain ⟨h1, h2, h3, ⟨a, h4, h5, h6⟩, _⟩ := sheet_spec h h0
    have ih := sheets_sum r _ a (fun x hx => hg x (List.mem_cons_of_mem _ hx)) h4 h5
    have hg1 := hg g (List.mem_cons_self ..)
    rw [sheetsOf, sumOf, ih]
    have hm : g * (sheetN M g r left : Int) = ((sheetN M g r left * g.toNat : Nat) : Int) := by
      rw [Int.natCast_mul, Int.mul_comm]; congr 1; omega
    rw [hm]; omega
end Go.Proofs.Ytjkkefhfbcgahaa

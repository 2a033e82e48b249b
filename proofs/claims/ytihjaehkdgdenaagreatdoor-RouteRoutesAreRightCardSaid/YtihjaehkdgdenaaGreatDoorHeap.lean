/- Chapter texts of ours, as far as the claim needs them. -/
import Derived.Test.YtihjaehkdgdenaaGreatDoorPure
namespace Go.Proofs.YtihjaehkdgdenaaGreatDoor
open Go Go.RowKit
set_option linter.unusedVariables false
set_option linter.unusedSectionVars false
set_option linter.unusedSimpArgs false
theorem forIn_any {α : Type} {body : Nat → α → Unit → (Unit → Prop) → Prop} {done : Unit → Prop} {A : Prop} (p : α → Bool)
    (hb : ∀ k x next, (if p x = true then A else next ()) → body k x () next) :
    ∀ (l : List α) (k : Nat), (if l.any p = true then A else done ()) → forIn' body done l k ()
  | [], _, h => by show done (); simpa using h
  | x :: r, k, h => by
    refine hb k x _ ?_
    by_cases hp : p x = true
    · rw [if_pos hp]; rw [if_pos (by simp [hp])] at h; exact h
    · rw [if_neg hp]
      refine forIn_any p hb r (k + 1) ?_
      have : (x :: r).any p = r.any p := by simp [hp]
      rw [this] at h; exact h
theorem forIn_find {α : Type} {body : Nat → α → Unit → (Unit → Prop) → Prop} {done : Unit → Prop} {A : Nat → Prop} (p : α → Bool)
    (hb : ∀ k x next, (if p x = true then A k else next ()) → body k x () next) :
    ∀ (l : List α) (k : Nat), (match l.findIdx? p with | some i => A (k + i) | none => done ()) → forIn' body done l k ()
  | [], _, h => by show done (); simpa using h
  | x :: r, k, h => by
    refine hb k x _ ?_
    by_cases hp : p x = true
    · rw [if_pos hp]; simp [List.findIdx?_cons, hp] at h; exact h
    · rw [if_neg hp]
      refine forIn_find p hb r (k + 1) ?_
      simp only [List.findIdx?_cons, hp, Bool.false_eq_true, if_false] at h
      cases hr : r.findIdx? p with
      | none => simpa [hr] using h
      | some i =>
        simp only [hr, Option.map_some] at h
        show A (k + 1 + i); rw [show k + 1 + i = k + (i + 1) by omega]; exact h
def firstBad {α : Type} (f : Nat → α → Int) : List α → Nat → Int
  | [], _ => 0
  | x :: r, k => if f k x ≠ 0 then f k x else firstBad f r (k + 1)
theorem firstBad_zero {α : Type} {f : Nat → α → Int} : ∀ {l : List α} {k : Nat}, firstBad f l k = 0 → ∀ i x, l[i]? = some x → f (k + i) x = 0
  | [], _, _, i, x, hx => by simp at hx
  | y :: r, k, h, i, x, hx => by
    unfold firstBad at h
    split at h
    · rename_i hn; exact absurd h hn
    · rename_i hn
      cases i with
      | zero => simp at hx; subst hx; exact Decidable.not_not.1 hn
      | succ i => have := firstBad_zero h i x (by simpa using hx); rw [show k + (i + 1) = k + 1 + i by omega]; exact this
theorem forIn_firstS' {α σ : Type} {body : Nat → α → σ → (σ → Prop) → Prop} {done : σ → Prop} {A : Int → Prop} (f : Nat → α → Int) (g : Nat → σ) :
    ∀ (l : List α) (k : Nat), (∀ i x next, l[i]? = some x → f (k + i) x ≠ 0 → A (f (k + i) x) → body (k + i) x (g (k + i)) next) →
      (∀ i x next, l[i]? = some x → f (k + i) x = 0 → (∀ j y, j < i → l[j]? = some y → f (k + j) y = 0) → next (g (k + i + 1)) → body (k + i) x (g (k + i)) next) →
      (firstBad f l k ≠ 0 → A (firstBad f l k)) → (firstBad f l k = 0 → done (g (k + l.length))) → forIn' body done l k (g k)
  | [], k, _, _, _, hd => hd rfl
  | x :: r, k, h1, h2, ha, hd => by
    by_cases h0 : f k x = 0
    · refine h2 0 x _ rfl h0 (fun j y hj => by omega) ?_
      have e : firstBad f (x :: r) k = firstBad f r (k + 1) := by simp [firstBad, h0]
      rw [e] at ha hd
      refine forIn_firstS' f g r (k + 1) (fun i y next hy => ?_) (fun i y next hy hf hj hn => ?_) ha (fun h => ?_)
      · have := h1 (i + 1) y next (by simpa using hy)
        rw [show k + 1 + i = k + (i + 1) by omega]; exact this
      · have := h2 (i + 1) y next (by simpa using hy)
        rw [show k + 1 + i = k + (i + 1) by omega] at hf hn ⊢
        refine this hf (fun j z hjl hz => ?_) hn
        cases j with
        | zero => simp at hz; subst hz; exact h0
        | succ j => have := hj j z (by omega) (by simpa using hz); rw [show k + (j + 1) = k + 1 + j by omega]; exact this
      · have := hd h; simp only [List.length_cons] at this; rw [show k + 1 + r.length = k + (r.length + 1) by omega]; exact this
    · refine h1 0 x _ rfl h0 ?_
      have e : firstBad f (x :: r) k = f k x := by simp [firstBad, h0]
      rw [e] at ha; exact ha h0
theorem forIn_firstS {α σ : Type} {body : Nat → α → σ → (σ → Prop) → Prop} {done : σ → Prop} {A : Int → Prop} (f : Nat → α → Int) (g : Nat → σ) {l : List α} {s : σ} (hs : s = g 0)
    (h1 : ∀ i x next, l[i]? = some x → f i x ≠ 0 → A (f i x) → body i x (g i) next)
    (h2 : ∀ i x next, l[i]? = some x → f i x = 0 → (∀ j y, j < i → l[j]? = some y → f j y = 0) → next (g (i + 1)) → body i x (g i) next)
    (ha : firstBad f l 0 ≠ 0 → A (firstBad f l 0)) (hd : firstBad f l 0 = 0 → done (g l.length)) : forIn' body done l 0 s := by
  subst hs
  refine forIn_firstS' f g l 0 (fun i x next => ?_) (fun i x next => ?_) ha (fun h => ?_)
  · rw [Nat.zero_add]; exact h1 i x next
  · rw [Nat.zero_add]; intro hx hf hj hn; exact h2 i x next hx hf (fun j y hjl hy => by have := hj j y hjl hy; rwa [Nat.zero_add] at this) hn
  · rw [Nat.zero_add]; exact hd h
theorem lp_scan {α : Type} {F : (Int → Prop) → Int → Prop} {xs : List α} (hlen : xs.length ≤ 9223372036854775807) (bad : α → Bool) {A done : Prop}
    (hF : ∀ X n, cnd (decide (n < (xs.length : Int))) (idx xs n fun x => cnd (bad x) A (X (w64 (n + 1)))) done → F X n) (h : if xs.any bad = true then A else done) : lp F 0 := by
  have key : ∀ d (k : Nat), k + d = xs.length → (∀ i x, i < k → xs[i]? = some x → bad x = false) → iterF F (d + 1) (k : Int) := by
    intro d
    induction d with
    | zero =>
      intro k hk hb
      refine hF _ _ (cnd_of (fun e => ?_) (fun _ => ?_))
      · simp at e; omega
      · have : xs.any bad = false := by
          rw [List.any_eq_false]; intro x hx
          obtain ⟨i, hi⟩ := List.getElem?_of_mem hx
          have := hb i x (by have := lt_of_get hi; omega) hi
          simp [this]
        rw [this] at h; simpa using h
    | succ d ih =>
      intro k hk hb
      refine hF _ _ (cnd_of (fun e => ?_) (fun e => ?_))
      · have hlt : k < xs.length := by omega
        refine idx_nat (List.getElem?_eq_getElem hlt) (cnd_of (fun eb => ?_) (fun eb => ?_))
        · have : xs.any bad = true := List.any_eq_true.2 ⟨_, List.getElem_mem hlt, eb⟩
          rw [this] at h; simpa using h
        · have hw : w64 ((k : Int) + 1) = ((k + 1 : Nat) : Int) := by rw [w64_id] <;> omega
          rw [hw]
          refine ih (k + 1) (by omega) (fun i x hi hx => ?_)
          rcases Nat.lt_or_ge i k with h1 | h1
          · exact hb i x h1 hx
          · obtain rfl : i = k := by omega
            rw [List.getElem?_eq_getElem hlt] at hx; injection hx with hx; subst hx; exact eb
      · simp at e; omega
  exact ⟨_, key xs.length 0 (by omega) (fun i x hi => by omega)⟩
end Go.Proofs.YtihjaehkdgdenaaGreatDoor
namespace Go.Proofs.YtihjaehkdgdenaaGreatDoor
open Go Go.RowKit
set_option linter.unusedVariables false
set_option linter.unusedSectionVars false
set_option linter.unusedSimpArgs false
def rkAt {α : Type} (r : α → Int) (l : List α) (k : Nat) : Int := ((l[k]?).map r).getD 0
def swapL {α : Type} (l : List α) (i j : Nat) (x y : α) : List α := (l.set i y).set j x
section
variable {α : Type} {r : α → Int} {l : List α} {i j : Nat} {x y : α}
theorem rkAt_eq (h : l[i]? = some x) : rkAt r l i = r x := by unfold rkAt; rw [h]; rfl
theorem swapL_perm (hi : l[i]? = some x) (hj : l[j]? = some y) : (swapL l i j x y).Perm l := by
  obtain ⟨h1, e1⟩ := List.getElem?_eq_some_iff.1 hi
  obtain ⟨h2, e2⟩ := List.getElem?_eq_some_iff.1 hj
  unfold swapL
  rw [← e1, ← e2]
  exact List.set_set_perm h1 h2
theorem swapL_len : (swapL l i j x y).length = l.length := by unfold swapL; simp
theorem swapL_rk (hi : l[i]? = some x) (hj : l[j]? = some y) (k : Nat) : rkAt r (swapL l i j x y) k = if k = i then rkAt r l j else if k = j then rkAt r l i else rkAt r l k := by
  have h1 := (List.getElem?_eq_some_iff.1 hi).1
  have h2 := (List.getElem?_eq_some_iff.1 hj).1
  rw [rkAt_eq hi, rkAt_eq hj]
  unfold rkAt swapL
  simp only [List.getElem?_set, List.length_set]
  by_cases h3 : k = i
  · subst h3
    by_cases h4 : j = k
    · subst h4; rw [hi] at hj; injection hj with hj; subst hj; simp [h1]
    · simp [h1, h4]
  · by_cases h4 : j = k
    · subst h4; simp [h2, h3]
    · have h5 : ¬ k = j := fun e => h4 e.symm
      have h6 : ¬ i = k := fun e => h3 e.symm
      simp only [h4, if_false, h3, h5, h6]
end
def HpF (g : Nat → Int) (n b : Nat) : Prop := ∀ k, 0 < k → k < n → b ≤ (k - 1) / 2 → g ((k - 1) / 2) ≤ g k
def UpI (g : Nat → Int) (n j : Nat) : Prop := (∀ k, 0 < k → k < n → k ≠ j → g ((k - 1) / 2) ≤ g k) ∧ ∀ k, 0 < k → k < n → (k - 1) / 2 = j → 0 < j → g ((j - 1) / 2) ≤ g k
def DnI (g : Nat → Int) (n b i : Nat) : Prop := (∀ k, 0 < k → k < n → b ≤ (k - 1) / 2 → (k - 1) / 2 ≠ i → g ((k - 1) / 2) ≤ g k) ∧ ∀ k, 0 < k → k < n → (k - 1) / 2 = i → 0 < i → b ≤ (i - 1) / 2 → g ((i - 1) / 2) ≤ g k
section
variable {g g' : Nat → Int} {n b i j : Nat}
theorem UpI.step (h : UpI g n j) (hj : 0 < j) (hjn : j < n) (hlt : g j < g ((j - 1) / 2)) (hs : ∀ k, g' k = if k = (j - 1) / 2 then g j else if k = j then g ((j - 1) / 2) else g k) : UpI g' n ((j - 1) / 2) := by
  obtain ⟨h1, h2⟩ := h
  refine ⟨fun k hk hkn hne => ?_, fun k hk hkn hp hi => ?_⟩
  · rw [hs, hs]
    by_cases e1 : k = j
    · subst e1
      rw [if_pos rfl, if_neg (by omega), if_pos rfl]; omega
    · by_cases e2 : (k - 1) / 2 = j
      · rw [if_neg (by omega), if_pos e2, if_neg hne, if_neg e1]; exact h2 k hk hkn e2 hj
      · by_cases e3 : (k - 1) / 2 = (j - 1) / 2
        · rw [if_pos e3, if_neg hne, if_neg e1]; have := h1 k hk hkn e1; rw [e3] at this; omega
        · rw [if_neg e3, if_neg e2, if_neg hne, if_neg e1]; exact h1 k hk hkn e1
  · rw [hs, hs]
    have h3 := h1 ((j - 1) / 2) hi (by omega) (by omega)
    by_cases e1 : k = j
    · subst e1
      rw [if_neg (by omega), if_neg (by omega), if_neg (by omega), if_pos rfl]; exact h3
    · rw [if_neg (by omega), if_neg (by omega), if_neg (by omega), if_neg e1]
      have := h1 k hk hkn e1; rw [hp] at this; omega
theorem UpI.stop (h : UpI g n j) (hd : 0 < j → g ((j - 1) / 2) ≤ g j) : HpF g n 0 := fun k hk hkn _ => by
  by_cases e : k = j
  · subst e; exact hd hk
  · exact h.1 k hk hkn e
theorem UpI.last (h : HpF g n 0) : UpI g (n + 1) n := ⟨fun k hk hkn hne => h k hk (by omega) (Nat.zero_le _), fun k hk hkn hp _ => by omega⟩
theorem DnI.step (h : DnI g n b i) (hb : b ≤ i) (hj : j < n) (hji : 0 < j ∧ (j - 1) / 2 = i) (hmin : ∀ k, 0 < k → k < n → (k - 1) / 2 = i → g j ≤ g k) (hlt : g j < g i) (hs : ∀ k, g' k = if k = i then g j else if k = j then g i else g k) : DnI g' n b j := by
  obtain ⟨h1, h2⟩ := h
  refine ⟨fun k hk hkn hbk hne => ?_, fun k hk hkn hp hj0 hbj => ?_⟩
  · rw [hs, hs]
    by_cases e1 : k = j
    · subst e1; rw [if_pos hji.2, if_neg (by omega), if_pos rfl]; omega
    · by_cases e2 : k = i
      · subst e2
        rw [if_neg (by omega), if_neg (by omega), if_pos rfl]
        exact h2 j hji.1 hj hji.2 hk hbk
      · by_cases e3 : (k - 1) / 2 = i
        · rw [if_pos e3, if_neg e2, if_neg e1]; exact hmin k hk hkn e3
        · rw [if_neg e3, if_neg hne, if_neg e2, if_neg e1]; exact h1 k hk hkn hbk e3
  · rw [hs, hs, if_pos hji.2, if_neg (by omega), if_neg (by omega)]
    have := h1 k hk hkn (by omega) (by omega)
    rw [hp] at this; exact this
theorem DnI.stop (h : DnI g n b i) (hd : ∀ k, 0 < k → k < n → (k - 1) / 2 = i → g i ≤ g k) : HpF g n b := fun k hk hkn hb => by
  by_cases e : (k - 1) / 2 = i
  · rw [e]; exact hd k hk hkn e
  · exact h.1 k hk hkn hb e
theorem DnI.first (h : HpF g n (b + 1)) : DnI g n b b := ⟨fun k hk hkn hb hne => h k hk hkn (by omega), fun k hk hkn hp hi hbi => by omega⟩
theorem HpF.min (h : HpF g n 0) : ∀ k, k < n → g 0 ≤ g k := by
  intro k
  induction k using Nat.strongRecOn with
  | _ k ih =>
    intro hk
    rcases Nat.eq_zero_or_pos k with h0 | h0
    · subst h0; exact Int.le_refl _
    · exact Int.le_trans (ih ((k - 1) / 2) (by omega) (by omega)) (h k h0 hk (Nat.zero_le _))
theorem HpF.congr (h : HpF g n b) {m : Nat} (hm : m ≤ n) (he : ∀ k, k < m → g' k = g k) : HpF g' m b := fun k hk hkn hb => by
  rw [he k hkn, he _ (by omega)]; exact h k hk (by omega) hb
theorem DnI.pop (h : HpF g n 0) {m : Nat} (hm : m ≤ n) (he : ∀ k, 0 < k → k < m → g' k = g k) : DnI g' m 0 0 :=
  ⟨fun k hk hkn _ hne => by rw [he k hk hkn, he _ (by omega) (by omega)]; exact h k hk (by omega) (Nat.zero_le _), fun k hk hkn hp hi _ => by omega⟩
end
theorem lp_measN {σ : Type} {F : (σ → Prop) → σ → Prop} (I : Nat → σ → Prop) {n : Nat} {s : σ} (h : I n s) (step : ∀ n s (X : σ → Prop), I n s → (∀ m s', m < n → I m s' → X s') → F X s) : lp F s := by
  have key : ∀ k n s, n < k → I n s → iterF F k s := by
    intro k
    induction k with
    | zero => intro n s h; omega
    | succ k ih => intro n s h hI; exact step n s _ hI (fun m s' hm hI' => ih m s' (by omega) hI')
  exact ⟨n + 1, key (n + 1) n s (by omega) h⟩
end Go.Proofs.YtihjaehkdgdenaaGreatDoor

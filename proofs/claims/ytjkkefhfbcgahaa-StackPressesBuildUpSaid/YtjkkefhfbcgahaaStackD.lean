/- Chapter 4: how deep coppers lie, and how far apart. -/
import Derived.Test.YtjkkefhfbcgahaaStackC
import Derived.Test.YtjkkefhfbcgahaaStackB
namespace Go.Proofs.Ytjkkefhfbcgahaa
open Go Go.RowKit
set_option linter.unusedVariables false

/-- the place of a copper -/
def placeOf (s : List Layer) (name : Str) : Option Nat := s.findIdx? (fun l => !(name == []) && l.Name == name)
def placeNum (s : List Layer) (name : Str) : Int := match placeOf s name with | some i => (i : Int) | none => -1
theorem S_stack_find {s : List Layer} {name : Str} {Q : Int → Prop} (h : Q (placeNum s name)) : M_stack_find s name Q := by
  unfold M_stack_find M_index_layer
  refine forIn_find (fun l => !(name == []) && l.Name == name) (fun k x next hx => ?_) s 0 (A := fun i => Q (i : Int)) ?_
  · unfold M_index_layer_L1 M_find1
    cases hn : (name == []) <;> simp only [hn, Bool.not_true, Bool.not_false, Bool.true_and, Bool.false_and, Bool.false_eq_true, if_false, cnd_true, cnd_false] at hx ⊢
    · exact cnd_iff.2 hx
    · exact hx
  · unfold placeNum placeOf at h
    cases hf : s.findIdx? (fun l => !(name == []) && l.Name == name) <;> simp only [hf] at h ⊢
    · exact h
    · simpa using h
theorem findIdx_congr {α : Type} {p q : α → Bool} : ∀ {l : List α}, (∀ x ∈ l, p x = q x) → l.findIdx? p = l.findIdx? q
  | [], _ => rfl
  | x :: r, h => by
    rw [List.findIdx?_cons, List.findIdx?_cons, h x (List.mem_cons_self ..), findIdx_congr (fun y hy => h y (List.mem_cons_of_mem _ hy))]
theorem name_kind {m : List Material} {s : List Layer} {k : Nat} {x : Layer} (h : layerBad m s k x = 0) : (kindAt m x = 1 → isWord x.Name = true ∧ x.Name ≠ []) ∧ (kindAt m x ≠ 1 → x.Name = []) := by
  unfold layerBad at h
  split at h; · omega
  split at h; · omega
  rename_i hn
  simp only [not_or, not_and, Bool.not_eq_false, ne_eq, Decidable.not_not] at hn
  refine ⟨fun e => ⟨hn.1 e, fun e2 => ?_⟩, hn.2⟩
  have := hn.1 e
  rw [e2] at this
  cases this
theorem S_ref4_placeOf {m : List Material} {s : List Layer} (hb : ∀ i x, s[i]? = some x → layerBad m s i x = 0) {name : Str} {Q : Int → Prop} (h : Q (placeNum s name)) : M_ref4_placeOf m s name Q := by
  unfold M_ref4_placeOf
  refine forIn_find (fun l => l.Name == name && kindAt m l == 1) (fun k x next hx => ?_) s 0 (A := fun i => Q (i : Int)) ?_
  · unfold M_ref4_placeOf_L1 M_ref4_placeOf_k2
    cases hn : (x.Name == name) <;> simp only [hn, Bool.true_and, Bool.false_and, Bool.false_eq_true, if_false, cnd_true, cnd_false] at hx ⊢
    · exact hx
    · exact S_ref4_isCopper (cnd_iff.2 hx)
  · have e : s.findIdx? (fun l => l.Name == name && kindAt m l == 1) = placeOf s name := by
      refine findIdx_congr (fun x hx => ?_)
      obtain ⟨i, hi⟩ := List.getElem?_of_mem hx
      obtain ⟨h1, h2⟩ := name_kind (hb i x hi)
      by_cases hk : kindAt m x = 1
      · have := (h1 hk).2
        by_cases hn : x.Name = name
        · subst hn; simp [hk, this]
        · have e : (x.Name == name) = false := by simpa using hn
          rw [e]; simp
      · have := h2 hk
        by_cases hn : x.Name = name
        · rw [this] at hn; subst hn; simp [hk]
        · have e : (x.Name == name) = false := by simpa using hn
          rw [e]; simp
    unfold placeNum at h
    rw [e]
    cases hf : placeOf s name <;> simp only [hf] at h ⊢
    · exact h
    · simpa using h
theorem place_lt {s : List Layer} {name : Str} : placeNum s name < s.length ∧ -1 ≤ placeNum s name := by
  unfold placeNum
  cases hf : placeOf s name with
  | none => simp; omega
  | some i =>
    have := (List.findIdx?_eq_some_iff_getElem.1 hf).1
    simp; omega
theorem seg_len_le {α : Type} (s : List α) (a b : Int) : (seg s a b).length ≤ s.length := by
  simp only [seg, List.length_drop, List.length_take]; omega
theorem place_some {s : List Layer} {name : Str} {i : Nat} (h : placeNum s name = (i : Int)) : name ≠ [] ∧ (∃ x, s[i]? = some x ∧ x.Name = name) ∧ ∀ j x, j < i → s[j]? = some x → x.Name ≠ name := by
  unfold placeNum at h
  cases hf : placeOf s name with
  | none => rw [hf] at h; simp at h
  | some j =>
    rw [hf] at h
    have : j = i := by have h' : (j : Int) = (i : Int) := h
                       omega
    subst this
    obtain ⟨h1, h2, h3⟩ := List.findIdx?_eq_some_iff_getElem.1 hf
    simp only [Bool.and_eq_true, Bool.not_eq_true', beq_eq_false_iff_ne, ne_eq, beq_iff_eq] at h2
    refine ⟨h2.1, ⟨_, List.getElem?_eq_getElem h1, h2.2⟩, fun k x hk hx he => ?_⟩
    have := h3 k hk
    rw [(List.getElem?_eq_some_iff.1 hx).2] at this
    simp [h2.1, he] at this
theorem stack_names {m : List Material} {s : List Layer} (hb : ∀ i x, s[i]? = some x → layerBad m s i x = 0) {i j : Nat} {x y : Layer} (hx : s[i]? = some x) (hy : s[j]? = some y) (he : x.Name = y.Name) (hne : x.Name ≠ []) : i = j := by
  have key : ∀ (i j : Nat) (x y : Layer), s[i]? = some x → s[j]? = some y → x.Name = y.Name → x.Name ≠ [] → i < j → False := by
    intro i j x y hx hy he hne hij
    have h := hb j y hy
    obtain ⟨_, h2⟩ := name_kind h
    have hk : kindAt m y = 1 := Decidable.not_not.1 fun e => hne (he.trans (h2 e))
    unfold layerBad at h
    split at h; · omega
    split at h; · omega
    split at h; · omega
    rename_i hn
    refine hn ⟨hk, List.any_eq_true.2 ⟨x, ?_, by simpa using he⟩⟩
    exact List.mem_of_getElem? (i := i) (by rw [List.getElem?_take, if_pos hij]; exact hx)
  rcases Nat.lt_trichotomy i j with h | h | h
  · exact (key i j x y hx hy he hne h).elim
  · exact h
  · exact (key j i y x hy hx he.symm (he ▸ hne) h).elim
theorem layerBad_iff {m : List Material} {s : List Layer} {k : Nat} {x : Layer} : layerBad m s k x = 0 ↔ kindAt m x ≠ 0 ∧ (kindAt m x = 1 → isWord x.Name = true) ∧ (kindAt m x ≠ 1 → x.Name = []) ∧ (kindAt m x = 1 → ¬ (s.take k).any (fun y => y.Name == x.Name) = true) ∧
    ¬ ((kindAt m x = 1 ∧ kindBefore m s k = 1) ∨ (kindAt m x = 2 ∧ kindBefore m s k ≠ 0 ∧ kindBefore m s k ≠ 1) ∨ (kindBefore m s k = 2 ∧ kindAt m x ≠ 1)) := by
  unfold layerBad
  generalize kindAt m x = kd
  generalize kindBefore m s k = bf
  generalize (s.take k).any (fun y => y.Name == x.Name) = an
  grind
end Go.Proofs.Ytjkkefhfbcgahaa

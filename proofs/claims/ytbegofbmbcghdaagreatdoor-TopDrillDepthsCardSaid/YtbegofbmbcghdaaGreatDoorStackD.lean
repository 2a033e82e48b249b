/- Chapter texts of ours, as far as the claim needs them. -/
import Derived.Test.YtbegofbmbcghdaaGreatDoorPlain
import Derived.Test.YtbegofbmbcghdaaGreatDoorStackB
namespace Go.Proofs.YtbegofbmbcghdaaGreatDoor
open Go Go.RowKit
set_option linter.unusedVariables false
set_option linter.unusedSectionVars false
set_option linter.unusedSimpArgs false
def placeOf (s : List Layer) (name : Str) : Option Nat := s.findIdx? (fun l => !(name == []) && l.Name == name)
def Ud (s : List Layer) (name : Str) : Int := match placeOf s name with | some i => (i : Int) | none => -1
theorem UK {s : List Layer} {name : Str} {Q : Int → Prop} (h : Q (Ud s name)) : Uf s name Q := by
  unfold Uf Ug
  refine UD (fun l => !(name == []) && l.Name == name) (fun k x next hx => ?_) s 0 (A := fun i => Q (i : Int)) ?_
  · unfold TW UA
    cases hn : (name == []) <;> simp only [hn, Bool.not_true, Bool.not_false, Bool.true_and, Bool.false_and, Bool.false_eq_true, if_false, rD, jI] at hx ⊢
    · exact zG.2 hx
    · exact hx
  · unfold Ud placeOf at h
    cases hf : s.findIdx? (fun l => !(name == []) && l.Name == name) <;> simp only [hf] at h ⊢
    · exact h
    · simpa using h
theorem Uk {m : List eY} {s : List Layer} {k : Nat} {x : Layer} (h : qJ m s k x = 0) : (jc m x = 1 → isWord x.Name = true ∧ x.Name ≠ []) ∧ (jc m x ≠ 1 → x.Name = []) := by
  unfold qJ at h
  split at h; · omega
  split at h; · omega
  rename_i hn
  simp only [not_or, not_and, Bool.not_eq_false, ne_eq, Decidable.not_not] at hn
  refine ⟨fun e => ⟨hn.1 e, fun e2 => ?_⟩, hn.2⟩
  have := hn.1 e
  rw [e2] at this
  cases this
theorem U1 {s : List Layer} {name : Str} : Ud s name < s.length ∧ -1 ≤ Ud s name := by
  unfold Ud
  cases hf : placeOf s name with
  | none => simp; omega
  | some i =>
    have := (List.findIdx?_eq_some_iff_getElem.1 hf).1
    simp; omega
theorem UR {α : Type} (s : List α) (a b : Int) : (seg s a b).length ≤ s.length := by
  simp only [seg, List.length_drop, List.length_take]; omega
theorem UN {m : List eY} {s : List Layer} (hb : ∀ i x, s[i]? = some x → qJ m s i x = 0) {i j : Nat} {x y : Layer} (hx : s[i]? = some x) (hy : s[j]? = some y) (he : x.Name = y.Name) (hne : x.Name ≠ []) : i = j := by
  have key : ∀ (i j : Nat) (x y : Layer), s[i]? = some x → s[j]? = some y → x.Name = y.Name → x.Name ≠ [] → i < j → False := by
    intro i j x y hx hy he hne hij
    have h := hb j y hy
    obtain ⟨_, h2⟩ := Uk h
    have hk : jc m y = 1 := Decidable.not_not.1 fun e => hne (he.trans (h2 e))
    unfold qJ at h
    split at h; · omega
    split at h; · omega
    split at h; · omega
    rename_i hn
    refine hn ⟨hk, List.any_eq_true.2 ⟨x, ?_, by simpa using he⟩⟩
    exact List.mem_of_getElem? (i := i) (by rw [List.getElem?_take, if_pos hij]; exact hx)
  rcases Nat.lt_trichotomy i j with h | h | h
  · exact (key i j x y hx hy he hne h).elim
  · exact h
  · exact (key j i y x hy hx he.symm (he ▸ hne) h).elim
theorem AZ {m : List eY} {s : List Layer} {k : Nat} {x : Layer} : qJ m s k x = 0 ↔ jc m x ≠ 0 ∧ (jc m x = 1 → isWord x.Name = true) ∧ (jc m x ≠ 1 → x.Name = []) ∧ (jc m x = 1 → ¬ (s.take k).any (fun y => y.Name == x.Name) = true) ∧
    ¬ ((jc m x = 1 ∧ jB m s k = 1) ∨ (jc m x = 2 ∧ jB m s k ≠ 0 ∧ jB m s k ≠ 1) ∨ (jB m s k = 2 ∧ jc m x ≠ 1)) := by
  unfold qJ
  generalize jc m x = kd
  generalize jB m s k = bf
  generalize (s.take k).any (fun y => y.Name == x.Name) = an
  grind
end Go.Proofs.YtbegofbmbcghdaaGreatDoor

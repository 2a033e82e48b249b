/- Chapter texts of ours, as far as the claim needs them. -/
import Derived.Test.YtcmlcgjjkccaeaaDoorBase
namespace Go.Proofs.YtcmlcgjjkccaeaaDoor
open Go Go.RowKit
set_option linter.unusedVariables false
set_option linter.unusedSimpArgs false
structure Lo (lt : Int → Int → Bool) (P : Int → Prop) : Prop where
  irr : ∀ x, P x → lt x x = false
  tra : ∀ x y z, P x → P y → P z → lt y x = false → lt z y = false → lt z x = false
  asy : ∀ x y, P x → P y → lt x y = true → lt y x = false
def Srt (lt : Int → Int → Bool) (L : List Int) : Prop := L.Pairwise (fun x y => lt y x = false)
theorem Srt.append {lt : Int → Int → Bool} {A B : List Int} : Srt lt (A ++ B) ↔ Srt lt A ∧ Srt lt B ∧ ∀ x ∈ A, ∀ y ∈ B, lt y x = false := List.pairwise_append
theorem Srt.get {lt : Int → Int → Bool} {P : Int → Prop} (hlo : Lo lt P) {L : List Int} (h : Srt lt L) (hP : ∀ x ∈ L, P x) {i j : Nat} {x y : Int} (hi : L[i]? = some x) (hj : L[j]? = some y) (hij : i ≤ j) : lt y x = false := by
  rcases Nat.lt_or_eq_of_le hij with h1 | h1
  · obtain ⟨hl1, e1⟩ := List.getElem?_eq_some_iff.1 hi
    obtain ⟨hl2, e2⟩ := List.getElem?_eq_some_iff.1 hj
    have := List.pairwise_iff_getElem.1 h i j hl1 hl2 h1
    rw [e1, e2] at this; exact this
  · subst h1; rw [hi] at hj; injection hj with hj; subst hj; exact hlo.irr _ (hP _ (List.mem_of_getElem? hi))
theorem Srt.merge {lt : Int → Int → Bool} {A1 A2 B1 B2 C1 C2 : List Int} (hA : Srt lt (A1 ++ A2)) (hB : Srt lt (B1 ++ B2)) (h1 : ∀ x ∈ A1, ∀ y ∈ B2, lt y x = false) (h2 : ∀ x ∈ B1, ∀ y ∈ A2, lt y x = false)
    (s1 : Srt lt C1) (s2 : Srt lt C2) (p1 : C1.Perm (A1 ++ B1)) (p2 : C2.Perm (A2 ++ B2)) : Srt lt (C1 ++ C2) ∧ (C1 ++ C2).Perm ((A1 ++ A2) ++ (B1 ++ B2)) := by
  refine ⟨Srt.append.2 ⟨s1, s2, fun x hx y hy => ?_⟩, (p1.append p2).trans ?_⟩
  · have hx' := List.mem_append.1 (p1.mem_iff.1 hx)
    have hy' := List.mem_append.1 (p2.mem_iff.1 hy)
    rcases hx' with hx' | hx' <;> rcases hy' with hy' | hy'
    · exact (Srt.append.1 hA).2.2 x hx' y hy'
    · exact h1 x hx' y hy'
    · exact h2 x hx' y hy'
    · exact (Srt.append.1 hB).2.2 x hx' y hy'
  · rw [List.append_assoc, List.append_assoc]
    refine List.Perm.append_left A1 ?_
    rw [← List.append_assoc, ← List.append_assoc]
    exact List.perm_append_comm.append_right B2
theorem Srt.eq {lt : Int → Int → Bool} {P : Int → Prop} (hlo : Lo lt P) (tot : ∀ x y, P x → P y → lt x y = false → lt y x = false → x = y) : ∀ {A B : List Int}, Srt lt A → Srt lt B → A.Perm B → (∀ x ∈ A, P x) → A = B := by
  intro A
  induction A with
  | nil => intro B _ _ hp _; exact (List.Perm.nil_eq hp)
  | cons a r ih =>
    intro B hA hB hp hP
    cases B with
    | nil => exact absurd hp.length_eq (by simp)
    | cons b s =>
      have hPB : ∀ x ∈ b :: s, P x := fun x hx => hP x (hp.mem_iff.2 hx)
      have hab : a = b := by
        have ha : a ∈ b :: s := hp.mem_iff.1 List.mem_cons_self
        have hb : b ∈ a :: r := hp.mem_iff.2 List.mem_cons_self
        have h1 : lt a b = false := by
          rcases List.mem_cons.1 ha with h | h
          · subst h; exact hlo.irr _ (hPB _ List.mem_cons_self)
          · exact (List.pairwise_cons.1 hB).1 a h
        have h2 : lt b a = false := by
          rcases List.mem_cons.1 hb with h | h
          · subst h; exact hlo.irr _ (hP _ List.mem_cons_self)
          · exact (List.pairwise_cons.1 hA).1 b h
        exact tot a b (hP a List.mem_cons_self) (hPB b List.mem_cons_self) h1 h2
      subst hab
      rw [ih (List.pairwise_cons.1 hA).2 (List.pairwise_cons.1 hB).2 (List.Perm.cons_inv hp) (fun x hx => hP x (List.mem_cons_of_mem _ hx))]
theorem get_mid {X A Z : List Int} {i : Nat} (h : i < A.length) : (X ++ (A ++ Z))[X.length + i]? = A[i]? := by
  rw [List.getElem?_append_right (by omega), show X.length + i - X.length = i by omega, List.getElem?_append_left h]
end Go.Proofs.YtcmlcgjjkccaeaaDoor

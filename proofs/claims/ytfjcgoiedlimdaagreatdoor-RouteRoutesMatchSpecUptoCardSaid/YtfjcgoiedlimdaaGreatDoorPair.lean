/- Chapter texts of ours, as far as the claim needs them. -/
import Derived.Test.YtfjcgoiedlimdaaGreatDoorCut
namespace Go.Proofs.YtfjcgoiedlimdaaGreatDoor
open Go Go.RowKit
set_option linter.unusedVariables false
set_option linter.unusedSectionVars false
set_option linter.unusedSimpArgs false
def hor (p q : gW) : gW := ⟨fun w F => p.holds w F ∨ q.holds w F, fun h hb => h.imp (fun h => p.loc h hb) (fun h => q.loc h hb)⟩
section
variable {w w0 : World} {M : Nat → Prop} {σ : List gW} {p q : gW}
theorem Sat.Qe (h : Sat w0 M (hor p q :: σ) w) : Sat w0 M (p :: σ) w ∨ Sat w0 M (q :: σ) w := by
  obtain ⟨F, hp, hF, hr⟩ := h.sat
  rcases hp with hp | hp
  · exact .inl ⟨h.keeps, F, hp, hF, hr⟩
  · exact .inr ⟨h.keeps, F, hp, hF, hr⟩
theorem Sat.orL (h : Sat w0 M (p :: σ) w) : Sat w0 M (hor p q :: σ) w := by
  obtain ⟨F, hp, hF, hr⟩ := h.sat
  exact ⟨h.keeps, F, .inl hp, hF, hr⟩
theorem Sat.orR (h : Sat w0 M (q :: σ) w) : Sat w0 M (hor p q :: σ) w := by
  obtain ⟨F, hp, hF, hr⟩ := h.sat
  exact ⟨h.keeps, F, .inr hp, hF, hr⟩
end
section
variable {α : Type} [Flat α] {w w0 : World} {M : Nat → Prop} {σ : List gW} {e : TypeId} {A B : Option Addr} {C D : Nat} {xs ys : List α}
def LY (e : TypeId) (A : Option Addr) (C : Nat) (xs : List α) (B : Option Addr) (D : Nat) (ys : List α) : gW :=
  hor (hall [hown e A C xs, hown e B D ys]) (hall [hfact (A = B ∧ C = D ∧ xs = ys), hown e A C xs])
theorem Sat.Ob (h : Sat w0 M (LY e A C xs B D ys :: σ) w) : Sat w0 M (hown e A C xs :: hown e B D ys :: σ) w ∨ (A = B ∧ C = D ∧ xs = ys ∧ Sat w0 M (hown e A C xs :: σ) w) := by
  rcases Sat.Qe h with h | h
  · exact .inl h.Ic
  · have h2 : Sat w0 M (hfact (A = B ∧ C = D ∧ xs = ys) :: hown e A C xs :: σ) w := h.Ic
    obtain ⟨h3, h4, h5⟩ := h2.fact
    exact .inr ⟨h3, h4, h5, h2.drop⟩
theorem Sat.LU (h : Sat w0 M (hown e A C xs :: hown e B D ys :: σ) w) : Sat w0 M (LY e A C xs B D ys :: σ) w := Sat.orL (Sat.Eg h)
theorem Sat.Gg (h : Sat w0 M (hown e A C xs :: σ) w) : Sat w0 M (LY e A C xs A C xs :: σ) w := Sat.orR (Sat.Eg (Sat.Dc ⟨rfl, rfl, rfl⟩ h))
end
end Go.Proofs.YtfjcgoiedlimdaaGreatDoor

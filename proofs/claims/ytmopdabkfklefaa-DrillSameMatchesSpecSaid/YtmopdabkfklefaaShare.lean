/- Elements whose rows are views that are known at the call's beginning: an owned row of them, copied or turned. Plain lemmas over any program. -/
import Derived.Test.YtmopdabkfklefaaEntry
namespace Go.Proofs.Ytmopdabkfklefaa
open Go Go.RowKit
set_option linter.unusedVariables false

structure Shared (α β T : Type) [Rep α] [Flat β] [Flat T] [Row1 α β T] (w0 : World) (F : Nat → Prop) where
  z : α
  A : Option Addr
  C : Nat
  hv : View w0 F A C (Row1.inner z)
section
variable {α β T : Type} [Rep α] [Flat β] [Flat T] [Row1 α β T]
instance instFlatShared {w0 : World} {F : Nat → Prop} : Flat (Shared α β T w0 F) := ⟨Flat.sz T, Flat.pos, fun x => Flat.enc (Row1.sh x.z x.A x.C), fun _ => Flat.len _, fun _ v hv => Flat.one _ v hv⟩
theorem list_of_each {X Y : Type} (f : Y → X) : ∀ (zs : List X) (P : Nat → Y → Prop), (∀ i z, zs[i]? = some z → ∃ y, f y = z ∧ P i y) → ∃ ys : List Y, ys.map f = zs ∧ ∀ i y, ys[i]? = some y → P i y
  | [], P, _ => ⟨[], rfl, fun i y h => by simp at h⟩
  | z :: zs, P, h => by
    obtain ⟨y, h1, h2⟩ := h 0 z rfl
    obtain ⟨ys, h3, h4⟩ := list_of_each f zs (fun i => P (i + 1)) (fun i z hz => h (i + 1) z (by simpa using hz))
    refine ⟨y :: ys, by rw [List.map_cons, h1, h3], fun i u hu => ?_⟩
    match i, hu with
    | 0, hu => simp at hu; subst hu; exact h2
    | i + 1, hu => exact h4 i u (by simpa using hu)
/-- a view of elements, told with where their rows lie -/
theorem viewShared {w : World} {F : Nat → Prop} {A : Option Addr} {C : Nat} {zs : List α} (hrd : ∀ (cs : List Value) (z : α), Rep.rd w F cs z → ∃ (B : Option Addr) (D : Nat), cs = Flat.enc (Row1.sh z B D) ∧ View w F B D (Row1.inner z)) (hv : View w F A C zs) :
    ∃ xs : List (Shared α β T w F), xs.map (·.z) = zs ∧ View w F A C xs := by
  obtain ⟨xs, h1, h2⟩ := list_of_each (fun y : Shared α β T w F => y.z) zs (fun i y => ElemAt w F A (i * Flat.sz T) (Flat.enc (Row1.sh y.z y.A y.C))) (fun i z hz => by
    obtain ⟨cs, h3, h4⟩ := hv.at_ i z hz
    obtain ⟨B, D, h5, h6⟩ := hrd cs z h4
    subst h5
    rw [Row1.same] at h3
    exact ⟨⟨z, B, D, h6⟩, rfl, h3⟩)
  have hl : xs.length = zs.length := by rw [← h1, List.length_map]
  exact ⟨xs, h1, by rw [hl]; exact hv.cap, hv.most, fun i y hy => ⟨_, h2 i y hy, rfl⟩⟩
/-- an owned row of such elements is a view of what they are -/
theorem Sat.sharedView {w w0 : World} {M : Nat → Prop} {σ : List HProp} {e : TypeId} {A : Option Addr} {C : Nat} {xs : List (Shared α β T w0 (old w0 M))} (hs : Sat w0 M σ w) (q : Nat) (hq : σ[q]? = some (hown e A C xs)) : View w (old w none_) A C (xs.map (·.z)) := by
  have hv := hs.ownView q hq
  refine ⟨by rw [List.length_map]; exact hv.cap, hv.most, fun i z hz => ?_⟩
  rw [List.getElem?_map] at hz
  cases hx : xs[i]? with
  | none => rw [hx] at hz; cases hz
  | some x =>
    rw [hx] at hz
    injection hz with hz
    subst hz
    exact ⟨_, by rw [Row1.same (α := α)]; exact hv.flat hx, Row1.rep ((Ag.args _ _ _).view x.hv hs)⟩
end
end Go.Proofs.Ytmopdabkfklefaa

/- Chapter texts of ours, as far as the claim needs them. -/
import Derived.Test.YtihjaehkdgdenaaDoorIter
namespace Go.Proofs.YtihjaehkdgdenaaDoor
open Go Go.RowKit
set_option linter.unusedVariables false
set_option linter.unusedSectionVars false
set_option linter.unusedSimpArgs false
theorem room_eq {n m b : Nat} (h : room n b) (e : m = n) : room m b := e ▸ h
structure Shared (α β T : Type) [Rep α] [Flat β] [Flat T] [Row1 α β T] (w0 : World) (F : Nat → Prop) where
  z : α
  A : Option Addr
  C : Nat
  hv : View w0 F A C (Row1.inner z)
section
variable {α β T : Type} [Rep α] [Flat β] [Flat T] [Row1 α β T]
instance instFlatShared {w0 : World} {F : Nat → Prop} : Flat (Shared α β T w0 F) := ⟨Flat.sz T, Flat.pos, fun x => Flat.enc (Row1.sh x.z x.A x.C), fun _ => Flat.len _, fun _ v hv => Flat.one _ v hv⟩
theorem list_of_each {X Y : Type} (f : Y → X) : ∀ (zs : List X) (P : Nat → Y → Prop), (∀ i z, zs[i]? = some z → ∃ y, f y = z ∧ P i y) → ∃ ys : List Y, ys.map f = zs ∧ ∀ i y, ys[i]? = some y → P i y
  | [], P, _ => ⟨[], rfl, fun i y h => by simp at h⟩
  | z :: zs, P, h => by
    obtain ⟨y, h1, h2⟩ := h 0 z rfl
    obtain ⟨ys, h3, h4⟩ := list_of_each f zs (fun i => P (i + 1)) (fun i z hz => h (i + 1) z (by simpa using hz))
    refine ⟨y :: ys, by rw [List.map_cons, h1, h3], fun i u hu => ?_⟩
    match i, hu with
    | 0, hu => simp at hu; subst hu; exact h2
    | i + 1, hu => exact h4 i u (by simpa using hu)
theorem viewShared {w : World} {F : Nat → Prop} {A : Option Addr} {C : Nat} {zs : List α} (hrd : ∀ (cs : List Value) (z : α), Rep.rd w F cs z → ∃ (B : Option Addr) (D : Nat), cs = Flat.enc (Row1.sh z B D) ∧ View w F B D (Row1.inner z)) (hv : View w F A C zs) :
    ∃ xs : List (Shared α β T w F), xs.map (·.z) = zs ∧ View w F A C xs := by
  obtain ⟨xs, h1, h2⟩ := list_of_each (fun y : Shared α β T w F => y.z) zs (fun i y => ElemAt w F A (i * Flat.sz T) (Flat.enc (Row1.sh y.z y.A y.C))) (fun i z hz => by
    obtain ⟨cs, h3, h4⟩ := hv.at_ i z hz
    obtain ⟨B, D, h5, h6⟩ := hrd cs z h4
    subst h5
    rw [Row1.same] at h3
    exact ⟨⟨z, B, D, h6⟩, rfl, h3⟩)
  have hl : xs.length = zs.length := by rw [← h1, List.length_map]
  exact ⟨xs, h1, by rw [hl]; exact hv.cap, hv.most, fun i y hy => ⟨_, h2 i y hy, rfl⟩⟩
theorem Sat.sharedView {w w0 : World} {M : Nat → Prop} {σ : List HProp} {e : TypeId} {A : Option Addr} {C : Nat} {xs : List (Shared α β T w0 (old w0 M))} (hs : Sat w0 M σ w) (q : Nat) (hq : σ[q]? = some (hown e A C xs)) : View w (old w none_) A C (xs.map (·.z)) := by
  have hv := hs.ownView q hq
  refine ⟨by rw [List.length_map]; exact hv.cap, hv.most, fun i z hz => ?_⟩
  rw [List.getElem?_map] at hz
  cases hx : xs[i]? with
  | none => rw [hx] at hz; cases hz
  | some x =>
    rw [hx] at hz
    injection hz with hz
    subst hz
    exact ⟨_, by rw [Row1.same (α := α)]; exact hv.flat hx, Row1.rep ((Ag.args _ _ _).view x.hv hs)⟩
theorem Sat.sharedView2 {w w0 : World} {M : Nat → Prop} {σ : List HProp} {e : TypeId} {A : Option Addr} {C : Nat} {xs : List (Shared α β T w0 (old w0 M))} (hs : Sat w0 M σ w) (q : Nat) (hq : σ[q]? = some (hown e A C xs)) {zs : List α} (h : zs = xs.map (·.z)) : View w (old w none_) A C zs := by
  subst h; exact hs.sharedView q hq
end
theorem shared_at {α β : Type} {f : α → β} {ys : List α} {zs : List β} (h : zs = ys.map f) {k : Nat} {x : β} (hx : zs[k]? = some x) : ∃ s, ys[k]? = some s ∧ f s = x := by
  rw [h, List.getElem?_map] at hx
  cases hy : ys[k]? with
  | none => rw [hy] at hx; cases hx
  | some s => rw [hy] at hx; injection hx with hx; exact ⟨s, rfl, hx⟩
section
variable {P : Program} {w0 w : World} {M : Nat → Prop} {σ : List HProp} {n : Nat} {fs : Fr} {o : Oper}
theorem V.loadShared (q : Nat) {β : Type} [Flat β] {e : TypeId} {A : Option Addr} {C : Nat} {w1 : World} {F1 : Nat → Prop} {xs : List (Shared (List β) β Sl w1 F1)} (hq : σ[q]? = some (hown e A C xs)) {i k' : Nat} {y : Shared (List β) β Sl w1 F1} (hy : xs[i]? = some y) {z : List β} (hz : y.z = z) {t : TypeId} {x : Operand} (ho : o.op = .load t x) (hx : ev fs x = some (elemPtr A k'))
    (hk : k' = i * 1) (hag : ∀ w, (isAgg t).run P w = .ok false w) (hsz : ∀ w, (Go.sizeOf t).run P w = .ok 1 w) : ∀ a w, FrOk n fs a → Sat w0 M σ w → RunV P o a w (.slice y.A z.length y.C) := by
  subst hz
  exact V.loadOwn (off := 0) q hq hy ho hx hk hag hsz rfl rfl
end
end Go.Proofs.YtihjaehkdgdenaaDoor

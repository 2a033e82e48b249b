/- Chapter texts of ours, as far as the claim needs them. -/
import Derived.Test.YtdnilnmdbgcmoaaGreatDoorNest
namespace Go.Proofs.YtdnilnmdbgcmoaaGreatDoor
open Go Go.RowKit
set_option linter.unusedVariables false
set_option linter.unusedSectionVars false
set_option linter.unusedSimpArgs false
structure Pt where
  q : Option Nat
  A0 : Option Addr
  C0 : Nat
  A1 : Option Addr
  C1 : Nat
instance : Flat Pt := ⟨1, Nat.one_pos, fun s => [.pointer (s.q.map fun g => ⟨g, 0, none⟩)], fun _ => rfl, fun _ v hv => by simp at hv; subst hv; rfl⟩
structure PBox (X β0 β1 : Type) where
  t : TypeId
  e0 : TypeId
  e1 : TypeId
  cells : Pt → X → List Value
  r0 : X → List β0
  r1 : X → List β1
def hall (L : List HProp) : HProp := ⟨fun w F => SatU w F L (fun _ => False), fun h hb => SatU.mono h (fun _ h => h) (fun _ _ h => h) (fun b hz _ => hb b hz)⟩
def hfact (p : Prop) : HProp := ⟨fun _ _ => p, fun h _ => h⟩
section
variable {w w0 : World} {M : Nat → Prop} {σ L : List HProp} {p : Prop}
theorem Sat.hOpen (h : Sat w0 M (hall L :: σ) w) : Sat w0 M (L ++ σ) w := by
  obtain ⟨F, hp, hF, hr⟩ := h.sat
  exact ⟨h.keeps, SatU.append (F := F) hp (fun b hb => (hF b hb).1) (fun _ _ hn => hn) hr⟩
theorem Sat.hClose (h : Sat w0 M (L ++ σ) w) : Sat w0 M (hall L :: σ) w := by
  obtain ⟨F, hF, hL, hσ⟩ := SatU.parts h.sat
  exact ⟨h.keeps, F, hL, hF, hσ⟩
theorem Sat.fact (h : Sat w0 M (hfact p :: σ) w) : p := by
  obtain ⟨F, hp, _, _⟩ := h.sat
  exact hp
theorem Sat.addFact (hp : p) (h : Sat w0 M σ w) : Sat w0 M (hfact p :: σ) w :=
  ⟨h.keeps, fun _ => False, hp, fun _ e => e.elim, SatU.mono h.sat (fun _ h => h) (fun b _ hn e => e.elim hn (fun e => e)) (fun _ _ _ => rfl)⟩
end
end Go.Proofs.YtdnilnmdbgcmoaaGreatDoor

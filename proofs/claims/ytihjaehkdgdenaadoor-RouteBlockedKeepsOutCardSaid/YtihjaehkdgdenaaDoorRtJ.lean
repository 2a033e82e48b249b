/- Chapter texts of ours, as far as the claim needs them. -/
import Derived.Test.YtihjaehkdgdenaaDoorRtH
namespace Go.Proofs.YtihjaehkdgdenaaDoor
open Go Go.RowKit
set_option linter.unusedVariables false
set_option linter.unusedSectionVars false
set_option linter.unusedSimpArgs false
def g0 : Grid := ⟨3, 1, 1, []⟩
def c0 : Costs := ⟨2, 1, 0, 0⟩
theorem edges0 : ∀ s < 9, ∀ e ∈ (grC g0 c0).E true s, e.1 < 9 ∧ s / 3 ≤ e.1 / 3 + 1 ∧ e.2 = 2 := by decide +kernel
theorem edge_a : ((4 : Nat), (2 : Int)) ∈ (grC g0 c0).E true 7 := by decide +kernel
theorem edge_b : ((0 : Nat), (2 : Int)) ∈ (grC g0 c0).E true 4 := by decide +kernel
theorem walk0 {s : Nat} {c : Int} {n : Nat} (h : Wk ((grC g0 c0).E true) [6, 7, 8] s c n) : s < 9 ∧ 4 - 2 * ((s / 3 : Nat) : Int) ≤ c := by
  induction h with
  | start hs => simp at hs; rcases hs with rfl | rfl | rfl <;> decide
  | step w he ih =>
    obtain ⟨h1, h2, h3⟩ := edges0 _ ih.1 _ he
    simp only at h1 h2 h3
    exact ⟨h1, by omega⟩
theorem S_awake {Q : Bool → Prop} (h : Q true) : M_route_awake Q := by
  unfold M_route_awake
  have e0 : findF g0 c0 [⟨0, 0, 0⟩, ⟨2, 0, 0⟩] = 0 := by decide +kernel
  refine S_Least (g := g0) (c := c0) (fun e => absurd e0 e) (fun _ out d hout hd => ?_)
  have eb : numN g0 ⟨2, 0, 0⟩ = 2 := by decide
  have ea : numN g0 ⟨0, 0, 0⟩ = 0 := by decide
  rw [eb] at hout
  rw [ea] at hd
  simp only [Nat.mul_zero, Nat.reduceMul, Nat.reduceAdd] at hout hd
  have hkB : kB = 1048576 := rfl
  obtain ⟨d', h1, h2, h3⟩ := hout.min 0 (0 + 2 + 2) 2 ((Wk.start (by simp)).step edge_a |>.step edge_b)
  rw [hd] at h1; injection h1 with h1; subst h1
  obtain ⟨c, n, w, e, p, b⟩ := hout.way 0 d hd h2
  have := (walk0 w).2
  have e4 : d / kB = 4 := by rw [hkB] at *; omega
  unfold leastQ
  rw [if_neg (by omega)]
  show cnd ((0 : Int) == 0) _ _
  rw [e4]
  simpa using h
end Go.Proofs.YtihjaehkdgdenaaDoor

/- Chapter 7: ways in a grid by their states. -/
import Derived.Test.YtihjaehkdgdenaaRtQ0
import Derived.Test.YtihjaehkdgdenaaWays
namespace Go.Proofs.Ytihjaehkdgdenaa
open Go Go.RowKit
set_option linter.unusedVariables false
set_option linter.unusedSimpArgs false

section
variable {g : Grid} {c : Costs}
theorem nb_axC (hs : Sz g) {a b : Cell} (ha : inG g a = true) (hb : inG g b = true) (h : axC a b ≠ 0) : (grG g).Nb (numN g a) (numN g b) (axC a b) := by
  obtain ⟨a1, a2, a3⟩ := numN_xyz hs ha
  obtain ⟨b1, b2, b3⟩ := numN_xyz hs hb
  obtain ⟨hx, hy, hz⟩ := inG_iff.1 ha
  obtain ⟨ix, iy, iz⟩ := inG_iff.1 hb
  refine ⟨numN_lt hs ha, numN_lt hs hb, ?_⟩
  rw [a1, a2, a3, b1, b2, b3]
  unfold axC df at h ⊢
  split
  · exact .inl ⟨rfl, by omega, by omega, by omega⟩
  · rename_i h1
    rw [if_neg h1] at h
    split
    · exact .inr (.inl ⟨rfl, by omega, by omega, by omega⟩)
    · rename_i h2
      rw [if_neg h2] at h
      split
      · exact .inr (.inr ⟨rfl, by omega, by omega, by omega⟩)
      · rename_i h3
        rw [if_neg h3] at h; exact absurd rfl h
theorem step_cost (hg : GOk g) (hc : COk c) {s t : Nat} {k : Int} (hs : s < 3 * (grG g).N) (h : (t, k) ∈ (grC g c).E false s) :
    axC (cellN g (s / 3)) (cellN g (t / 3)) ≠ 0 ∧ stepC c (cellN g (t / 3)).Layer ((s % 3 : Nat) : Int) (axC (cellN g (s / 3)) (cellN g (t / 3))) = (k, ((t % 3 : Nat) : Int)) := by
  obtain ⟨al, hnb, hm, h1, h2⟩ := Gr.E_on (G := grC g c) hs h
  have hax := Gr.Nb.ax hnb
  have ea : axC (cellN g (s / 3)) (cellN g (t / 3)) = al := axC_nb hnb
  rw [ea]
  refine ⟨by omega, ?_⟩
  by_cases h3 : al = 3
  · rw [if_pos h3] at h1 h2
    unfold stepC
    rw [if_pos h3, h1, h2]; rfl
  · rw [if_neg h3] at h1 h2
    have := stepC_gr (goodF_of hg hc) (n := t / 3) (last := ((s % 3 : Nat) : Int)) h3
    show stepC c ((grC g c).Z (t / 3) : Int) _ _ = _
    rw [show stepC c ((grC g c).Z (t / 3) : Int) ((s % 3 : Nat) : Int) al = _ from this, h1, h2]
    refine Prod.ext rfl ?_
    simp only; omega
/-- the cells of states -/
def cellsS (g : Grid) (l : List Nat) : List Cell := l.map (fun s => cellN g (s / 3))
theorem steps_chain {G : Gr} {s e : Nat} {l : List Nat} {k : Int} (h : G.Steps s l k e) : ∀ (i x y : Nat), (s :: l)[i]? = some x → (s :: l)[i + 1]? = some y → ∃ k, (y, k) ∈ G.E false x := by
  induction h with
  | nil => intro i x y hx hy; simp at hy
  | @cons s t k l k2 e he hr ih =>
    intro i x y hx hy
    cases i with
    | zero => simp at hx hy; subst hx; subst hy; exact ⟨k, he⟩
    | succ i => simp at hx hy; exact ih i x y (by simpa using hx) (by simpa using hy)
end
end Go.Proofs.Ytihjaehkdgdenaa

/- Chapter texts of ours, as far as the claim needs them. -/
import Derived.Test.YtihjaehkdgdenaaDoorPaths
namespace Go.Proofs.YtihjaehkdgdenaaDoor
open Go Go.RowKit
set_option linter.unusedVariables false
set_option linter.unusedSectionVars false
set_option linter.unusedSimpArgs false
namespace Gr
variable {G : Gr}
theorem Nb.ax {n m : Nat} {al : Int} (h : G.Nb n m al) : al = 1 ∨ al = 2 ∨ al = 3 := by have := h.2.2; omega
end Gr
theorem Least.eq {E E' : Nat → List (Nat × Int)} {S S' : List Nat} {N : Nat} {out out' : List Int} (h : Least E S N out) (h' : Least E' S' N out') {s s' : Nat} (hw : ∀ c n, Wk E S s c n ↔ Wk E' S' s' c n) {d d' : Int} (hd : out[s]? = some d) (hd' : out'[s']? = some d') : d = d' := by
  have one : ∀ {E E' : Nat → List (Nat × Int)} {S S' : List Nat} {out out' : List Int} (h : Least E S N out) (h' : Least E' S' N out') {s s' : Nat} (hw : ∀ c n, Wk E S s c n → Wk E' S' s' c n) {d d' : Int} (hd : out[s]? = some d) (hd' : out'[s']? = some d'), 0 ≤ d → 0 ≤ d' ∧ d' ≤ d := by
    intro E E' S S' out out' h h' s s' hw d d' hd hd' h0
    obtain ⟨c, n, w, e, _, _⟩ := h.way s d hd h0
    obtain ⟨d2, h2, h3, h4⟩ := h'.min s' c n (hw c n w)
    rw [hd'] at h2; injection h2 with h2; subst h2
    exact ⟨h3, by omega⟩
  have l1 := h.low s d hd
  have l2 := h'.low s' d' hd'
  by_cases h0 : 0 ≤ d
  · have a1 := one h h' (fun c n => (hw c n).1) hd hd' h0
    have a2 := one h' h (fun c n => (hw c n).2) hd' hd a1.1
    omega
  · by_cases h1 : 0 ≤ d'
    · have a2 := one h' h (fun c n => (hw c n).2) hd' hd h1
      omega
    · omega
end Go.Proofs.YtihjaehkdgdenaaDoor

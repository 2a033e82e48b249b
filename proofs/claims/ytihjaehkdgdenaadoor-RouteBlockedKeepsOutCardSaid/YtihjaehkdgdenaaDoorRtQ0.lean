/- Chapter texts of ours, as far as the claim needs them. -/
import Derived.Test.YtihjaehkdgdenaaDoorWalks
import Derived.Test.YtihjaehkdgdenaaDoorRtH
namespace Go.Proofs.YtihjaehkdgdenaaDoor
open Go Go.RowKit
set_option linter.unusedVariables false
set_option linter.unusedSectionVars false
set_option linter.unusedSimpArgs false
namespace Gr
variable {G : Gr}
variable {b : Nat} {out : List Int}
def pick (out : List Int) (d : Int) (l : List (Nat × Int)) : Option (Nat × Int) := l.find? (fun e => decide (0 ≤ out.getD e.1 (-1)) && decide (out.getD e.1 (-1) + (e.2 * kB + 1) = d))
theorem getD_some {l : List Int} {n : Nat} {x d : Int} (h : l[n]? = some x) : l.getD n d = x := by rw [List.getD_eq_getElem?_getD, h]; rfl
def lk (b k : Int) : Int := if 0 ≤ k ∧ (b < 0 ∨ k < b) then k else b
end Gr
end Go.Proofs.YtihjaehkdgdenaaDoor
namespace Go.Proofs.YtihjaehkdgdenaaDoor
open Go Go.RowKit
set_option linter.unusedVariables false
set_option linter.unusedSectionVars false
set_option linter.unusedSimpArgs false
def cellN (g : Grid) (n : Nat) : Cell := ⟨((grG g).X n : Int), ((grG g).Y n : Int), ((grG g).Z n : Int)⟩
section
variable {g : Grid} {c : Costs} {n m : Nat}
theorem grG_w (hs : Sz g) : g.W = ((grG g).W : Int) := by have := hs.W; simp only [grG]; omega
theorem grG_h (hs : Sz g) : g.H = ((grG g).H : Int) := by have := hs.H; simp only [grG]; omega
theorem grG_l (hs : Sz g) : g.Layers = ((grG g).L : Int) := by have := hs.L; simp only [grG]; omega
theorem cellN_in (hs : Sz g) (hn : n < (grG g).N) : inG g (cellN g n) = true := by
  have hx := (grG g).X_lt hn
  have hy := (grG g).Y_lt hn
  have hz := (grG g).Z_lt hn
  refine inG_iff.2 ?_
  rw [grG_w hs, grG_h hs, grG_l hs]
  unfold cellN; simp only; omega
theorem numN_cellN (g : Grid) (n : Nat) : numN g (cellN g n) = n := by
  unfold numN cellN; simp only [Int.toNat_natCast]; exact (grG g).num_self n
theorem cellN_numN (hs : Sz g) {a : Cell} (ha : inG g a = true) : cellN g (numN g a) = a := by
  obtain ⟨a1, a2, a3⟩ := numN_xyz hs ha
  obtain ⟨hx, hy, hz⟩ := inG_iff.1 ha
  unfold cellN
  rw [a1, a2, a3, Int.toNat_of_nonneg hx.1, Int.toNat_of_nonneg hy.1, Int.toNat_of_nonneg hz.1]
theorem S_cell_at (hs : Sz g) (hn : n < (grG g).N) {Q : Cell → Prop} (h : Q (cellN g n)) : M_route_cell g (n : Int) Q := by
  have hW := hs.W; have hH := hs.H
  have hN := NN_le hs
  have hw := grG_w hs; have hh := grG_h hs
  have e0 : w64 ((n : Int).tdiv g.W) = ((n / (grG g).W : Nat) : Int) := by
    rw [hw, ← Int.ofNat_tdiv]; exact w64_nat (Nat.le_trans (Nat.div_le_self _ _) (by omega))
  unfold M_route_cell
  refine ⟨by omega, by omega, by omega, by omega, by omega, ?_⟩
  have e1 : (n : Int).tmod g.W = ((grG g).X n : Int) := by rw [hw, ← Int.ofNat_tmod]; rfl
  have e2 : (w64 ((n : Int).tdiv g.W)).tmod g.H = ((grG g).Y n : Int) := by rw [e0, hh, ← Int.ofNat_tmod]; rfl
  have e3 : w64 ((w64 ((n : Int).tdiv g.W)).tdiv g.H) = ((grG g).Z n : Int) := by
    rw [e0, hh, ← Int.ofNat_tdiv]; exact w64_nat (Nat.le_trans (Nat.div_le_self _ _) (Nat.le_trans (Nat.div_le_self _ _) (by omega)))
  rw [e1, e2, e3]; exact h
end
theorem Least.uniq {E : Nat → List (Nat × Int)} {S : List Nat} {N : Nat} {out out' : List Int} (h : Least E S N out) (h' : Least E S N out') : out = out' := by
  apply List.ext_getElem?
  intro i
  rcases Nat.lt_or_ge i N with hi | hi
  · have e1 : out[i]? = some (out[i]'(by rw [h.len]; exact hi)) := List.getElem?_eq_getElem _
    have e2 : out'[i]? = some (out'[i]'(by rw [h'.len]; exact hi)) := List.getElem?_eq_getElem _
    rw [e1, e2, h.eq h' (fun c n => Iff.rfl) e1 e2]
  · rw [List.getElem?_eq_none (by rw [h.len]; exact hi), List.getElem?_eq_none (by rw [h'.len]; exact hi)]
end Go.Proofs.YtihjaehkdgdenaaDoor

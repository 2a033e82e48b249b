/- Chapter texts of ours, as far as the claim needs them. -/
import Derived.Test.YtihjaehkdgdenaaGreatDoorWalks
import Derived.Test.YtihjaehkdgdenaaGreatDoorRtH
import Derived.Test.YtihjaehkdgdenaaGreatDoorRtW
import Derived.Test.YtihjaehkdgdenaaGreatDoorRtX2a
import Derived.Test.YtihjaehkdgdenaaGreatDoorRtG
import Derived.Test.YtihjaehkdgdenaaGreatDoorSearch
namespace Go.Proofs.YtihjaehkdgdenaaGreatDoor
open Go Go.RowKit
set_option linter.unusedVariables false
set_option linter.unusedSectionVars false
set_option linter.unusedSimpArgs false
namespace Gr
variable {G : Gr}
variable {b : Nat} {out : List Int}
def pick (out : List Int) (d : Int) (l : List (Nat × Int)) : Option (Nat × Int) := l.find? (fun e => decide (0 ≤ out.getD e.1 (-1)) && decide (out.getD e.1 (-1) + (e.2 * kB + 1) = d))
theorem getD_some {l : List Int} {n : Nat} {x d : Int} (h : l[n]? = some x) : l.getD n d = x := by rw [List.getD_eq_getElem?_getD, h]; rfl
def lk (b k : Int) : Int := if 0 ≤ k ∧ (b < 0 ∨ k < b) then k else b
end Gr
end Go.Proofs.YtihjaehkdgdenaaGreatDoor
namespace Go.Proofs.YtihjaehkdgdenaaGreatDoor
open Go Go.RowKit
set_option linter.unusedVariables false
set_option linter.unusedSectionVars false
set_option linter.unusedSimpArgs false
def cellN (g : Grid) (n : Nat) : Cell := ⟨((grG g).X n : Int), ((grG g).Y n : Int), ((grG g).Z n : Int)⟩
section
variable {g : Grid} {c : Costs} {n m : Nat}
theorem grG_w (hs : Sz g) : g.W = ((grG g).W : Int) := by have := hs.W; simp only [grG]; omega
theorem grG_h (hs : Sz g) : g.H = ((grG g).H : Int) := by have := hs.H; simp only [grG]; omega
theorem grG_l (hs : Sz g) : g.Layers = ((grG g).L : Int) := by have := hs.L; simp only [grG]; omega
theorem cellN_in (hs : Sz g) (hn : n < (grG g).N) : inG g (cellN g n) = true := by
  have hx := (grG g).X_lt hn
  have hy := (grG g).Y_lt hn
  have hz := (grG g).Z_lt hn
  refine inG_iff.2 ?_
  rw [grG_w hs, grG_h hs, grG_l hs]
  unfold cellN; simp only; omega
theorem numN_cellN (g : Grid) (n : Nat) : numN g (cellN g n) = n := by
  unfold numN cellN; simp only [Int.toNat_natCast]; exact (grG g).num_self n
theorem cellN_numN (hs : Sz g) {a : Cell} (ha : inG g a = true) : cellN g (numN g a) = a := by
  obtain ⟨a1, a2, a3⟩ := numN_xyz hs ha
  obtain ⟨hx, hy, hz⟩ := inG_iff.1 ha
  unfold cellN
  rw [a1, a2, a3, Int.toNat_of_nonneg hx.1, Int.toNat_of_nonneg hy.1, Int.toNat_of_nonneg hz.1]
theorem S_cell_at (hs : Sz g) (hn : n < (grG g).N) {Q : Cell → Prop} (h : Q (cellN g n)) : M_route_cell g (n : Int) Q := by
  have hW := hs.W; have hH := hs.H
  have hN := NN_le hs
  have hw := grG_w hs; have hh := grG_h hs
  have e0 : w64 ((n : Int).tdiv g.W) = ((n / (grG g).W : Nat) : Int) := by
    rw [hw, ← Int.ofNat_tdiv]; exact w64_nat (Nat.le_trans (Nat.div_le_self _ _) (by omega))
  unfold M_route_cell
  refine ⟨by omega, by omega, by omega, by omega, by omega, ?_⟩
  have e1 : (n : Int).tmod g.W = ((grG g).X n : Int) := by rw [hw, ← Int.ofNat_tmod]; rfl
  have e2 : (w64 ((n : Int).tdiv g.W)).tmod g.H = ((grG g).Y n : Int) := by rw [e0, hh, ← Int.ofNat_tmod]; rfl
  have e3 : w64 ((w64 ((n : Int).tdiv g.W)).tdiv g.H) = ((grG g).Z n : Int) := by
    rw [e0, hh, ← Int.ofNat_tdiv]; exact w64_nat (Nat.le_trans (Nat.div_le_self _ _) (Nat.le_trans (Nat.div_le_self _ _) (by omega)))
  rw [e1, e2, e3]; exact h
end
theorem Least.uniq {E : Nat → List (Nat × Int)} {S : List Nat} {N : Nat} {out out' : List Int} (h : Least E S N out) (h' : Least E S N out') : out = out' := by
  apply List.ext_getElem?
  intro i
  rcases Nat.lt_or_ge i N with hi | hi
  · have e1 : out[i]? = some (out[i]'(by rw [h.len]; exact hi)) := List.getElem?_eq_getElem _
    have e2 : out'[i]? = some (out'[i]'(by rw [h'.len]; exact hi)) := List.getElem?_eq_getElem _
    rw [e1, e2, h.eq h' (fun c n => Iff.rfl) e1 e2]
  · rw [List.getElem?_eq_none (by rw [h.len]; exact hi), List.getElem?_eq_none (by rw [h'.len]; exact hi)]
end Go.Proofs.YtihjaehkdgdenaaGreatDoor
namespace Go.Proofs.YtihjaehkdgdenaaGreatDoor
open Go Go.RowKit
set_option linter.unusedVariables false
set_option linter.unusedSectionVars false
set_option linter.unusedSimpArgs false
theorem S_ref_checkPins {g : Grid} (hg : GOk g) {pins : List Cell} {most : Int} {Q : Int → Prop} (h : Q (pinsF g pins most)) : M_ref7_checkPins g pins most Q := by
  unfold M_ref7_checkPins
  unfold pinsF at h
  refine cnd_of (fun e => ?_) (fun e => cnd_of (fun e2 => ?_) (fun e2 => ?_))
  · rw [if_pos (by simpa using e)] at h; exact h
  · rw [if_neg (by simpa using e), if_pos (by simpa using e2)] at h; exact h
  · rw [if_neg (by simpa using e), if_neg (by simpa using e2)] at h
    refine forIn_checkP (Q := Q) (pinBad g pins) (fun k x next hx hI hne h0 => ?_) (by
      split
      · rename_i e9; rw [e9] at h; exact h
      · exact h)
    have hlt := lt_of_get hx
    unfold M_ref7_checkPins_L1
    refine S_ref_isCell hg.sz ?_
    unfold pinBad at hne h0
    cases e6 : inG g x with
    | false => simp only [Bool.not_false, cnd_true]; rw [if_pos e6] at hne; exact hne (by decide)
    | true =>
      simp only [Bool.not_true, cnd_false]
      rw [if_neg (by simp [e6])] at hne h0
      refine S_contains_cell ?_
      refine cnd_of (fun e7 => ?_) (fun e7 => ?_)
      · rw [if_pos (by simpa using e7)] at hne; exact hne (by decide)
      · rw [if_neg (by simpa using e7)] at hne h0
        refine ⟨⟨Int.le_refl _, by omega, by omega⟩, S_contains_cell ?_⟩
        have hseg : seg pins 0 (k : Int) = pins.take k := by unfold seg; simp
        rw [hseg]
        refine cnd_of (fun e8 => ?_) (fun e8 => ?_)
        · rw [if_pos (by simpa using e8)] at hne; exact hne (by decide)
        · rw [if_neg (by simpa using e8)] at h0; exact h0 rfl
end Go.Proofs.YtihjaehkdgdenaaGreatDoor

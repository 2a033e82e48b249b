/- Chapter texts of ours, as far as the claim needs them. -/
import Derived.Test.YtihjaehkdgdenaaRtH
import Derived.Test.YtihjaehkdgdenaaRuG
import Derived.Test.YtihjaehkdgdenaaRuH
namespace Go.Proofs.Ytihjaehkdgdenaa
open Go Go.RowKit
set_option linter.unusedVariables false
set_option linter.unusedSimpArgs false
def g0 : Grid := ⟨3, 1, 1, []⟩
def c0 : Costs := ⟨2, 1, 0, 0⟩
theorem edges0 : ∀ s < 9, ∀ e ∈ (grC g0 c0).E true s, e.1 < 9 ∧ s / 3 ≤ e.1 / 3 + 1 ∧ e.2 = 2 := by decide +kernel
theorem edge_a : ((4 : Nat), (2 : Int)) ∈ (grC g0 c0).E true 7 := by decide +kernel
theorem edge_b : ((0 : Nat), (2 : Int)) ∈ (grC g0 c0).E true 4 := by decide +kernel
theorem walk0 {s : Nat} {c : Int} {n : Nat} (h : Wk ((grC g0 c0).E true) [6, 7, 8] s c n) : s < 9 ∧ 4 - 2 * ((s / 3 : Nat) : Int) ≤ c := by
  induction h with
  | start hs => simp at hs; rcases hs with rfl | rfl | rfl <;> decide
  | step w he ih =>
    obtain ⟨h1, h2, h3⟩ := edges0 _ ih.1 _ he
    simp only at h1 h2 h3
    exact ⟨h1, by omega⟩
theorem S_awake {Q : Bool → Prop} (h : Q true) : M_route_awake Q := by
  unfold M_route_awake
  have e0 : findF g0 c0 [⟨0, 0, 0⟩, ⟨2, 0, 0⟩] = 0 := by decide +kernel
  refine S_Least (g := g0) (c := c0) (fun e => absurd e0 e) (fun _ out d hout hd => ?_)
  have eb : numN g0 ⟨2, 0, 0⟩ = 2 := by decide
  have ea : numN g0 ⟨0, 0, 0⟩ = 0 := by decide
  rw [eb] at hout
  rw [ea] at hd
  simp only [Nat.mul_zero, Nat.reduceMul, Nat.reduceAdd] at hout hd
  have hkB : kB = 1048576 := rfl
  obtain ⟨d', h1, h2, h3⟩ := hout.min 0 (0 + 2 + 2) 2 ((Wk.start (by simp)).step edge_a |>.step edge_b)
  rw [hd] at h1; injection h1 with h1; subst h1
  obtain ⟨c, n, w, e, p, b⟩ := hout.way 0 d hd h2
  have := (walk0 w).2
  have e4 : d / kB = 4 := by rw [hkB] at *; omega
  unfold leastQ
  rw [if_neg (by omega)]
  show cnd ((0 : Int) == 0) _ _
  rw [e4]
  simpa using h
end Go.Proofs.Ytihjaehkdgdenaa
namespace Go.Proofs.Ytihjaehkdgdenaa
open Go Go.RowKit
set_option linter.unusedVariables false
set_option linter.unusedSimpArgs false
theorem S_equal_cell {l : List Cell} {Q : Bool → Prop} (h : Q true) : M_equal_cell l l Q := by
  unfold M_equal_cell
  rw [show (((l.length : Int)) != (l.length : Int)) = false from bne_self_eq_false _]
  simp only [cnd_false]
  refine forIn0 (fun _ _ => True) trivial (fun k x s hx _ next hn => ?_) (fun _ _ => h)
  unfold M_equal_cell_L1
  refine idx_nat hx ?_
  simp only [decide_true, Bool.not_true, cnd_false]
  exact hn _ trivial
theorem S_SameWays {l : List (List Cell)} {Q : Bool → Prop} (h : Q true) : M_ref7_SameWays l l Q := by
  unfold M_ref7_SameWays
  rw [show (((l.length : Int)) != (l.length : Int)) = false from bne_self_eq_false _]
  simp only [cnd_false]
  refine forIn0 (fun _ _ => True) trivial (fun k x s hx _ next hn => ?_) (fun _ _ => h)
  unfold M_ref7_SameWays_L1
  refine idx_nat hx (S_equal_cell ?_)
  simp only [Bool.not_true, cnd_false]
  exact hn _ trivial
theorem law_trees (g : Grid) (c : Costs) (pins : List Cell) : M_law_Trees g c pins (· = true) := by
  unfold M_law_Trees
  have fin : ∀ (l : List (List Cell)) (is : Bool) (f : Int), cnd (f == f) (cnd (is == is) (M_ref7_SameWays l l fun y7 => cnd y7 (M_route_awake fun y8 => y8 = true) (false = true)) (false = true)) (false = true) := fun l is f => by
    simp only [beq_self_eq_true, cnd_true]
    refine S_SameWays ?_
    simp only [cnd_true]; exact S_awake rfl
  refine S_route_Tree (fun e => ?_) (fun e W ok hr => ?_)
  · exact S_ref_Tree (fun _ => fin _ _ _) (fun e2 => absurd e2 e) (fun e2 => absurd e2 e)
  · refine S_ref_Tree (fun e2 => absurd e e2) (fun _ W' hr' => ?_) (fun _ hx => ?_)
    · obtain ⟨e1, e2⟩ := hr.det hr' (fun _ => Iff.rfl)
      subst e1; subst e2
      exact fin _ _ _
    · obtain ⟨_, hg, hc, a1, a2, a3, a4⟩ := treeF_zero e
      have hm : pins[0]? = some (pins.getD 0 default) := by rw [List.getD_eq_getElem?_getD, List.getElem?_eq_getElem a1]; rfl
      have hfr := free_cell (c := c) hg (a4 _ (List.mem_of_getElem? hm))
      have hself : Conn (grC g c) (numN g (pins.getD 0 default)) (numN g (pins.getD 0 default)) := ⟨_, _, _, _, .nil hfr.1 hfr.2, rfl⟩
      have hok : ok = false := by
        cases ok with
        | false => rfl
        | true =>
          obtain ⟨p, hp, hn⟩ := hx
          exact absurd (hr.conn hg (fun n hn => by simp at hn; subst hn; exact ⟨hfr.1, hself⟩) rfl p hp) hn
      subst hok
      exact fin _ _ _
end Go.Proofs.Ytihjaehkdgdenaa

/- Chapter texts of ours, as far as the claim needs them. -/
import Derived.Test.YtbegofbmbcghdaaGreatDoorClaim
import Derived.Test.YtbegofbmbcghdaaGreatDoorStrs
import Derived.Test.YtbegofbmbcghdaaGreatDoorRows
namespace Go.Proofs.YtbegofbmbcghdaaGreatDoor
open Go Go.RowKit Go.ChangeShapes Go.WideShapes
set_option linter.unusedVariables false
set_option linter.unusedSectionVars false
set_option linter.unusedSimpArgs false
def xA (P : Program) (t : TypeId) (α : Type) [Rep α] [Fits α] [Bulk α] : Prop :=
  ∀ {H : Type} {enc : TypeId × Value → H} {w : World} {base : Nat} {spare : Nat → Bool} {held : Bool} {fuel : Nat} {cs : List Value} {x : DataW H × List MemPlace},
    DataW.trod enc P w base spare held fuel t cs = some x → ∃ y : α, Rep.rd w (below w) cs y ∧ Fits.fits y ∧ Bulk.bk y ≤ Rows.uptoBulk x.1
section
variable {P : Program}
theorem iE {t : TypeId} (ht : P.underlying t = some (.int .i64)) : xA P t Int := fun h => by
  obtain ⟨n, hc, hx, _⟩ := DataW.trod_int ht h
  exact ⟨n, hc, trivial, by rw [hx]; simp [Rows.uptoBulk, Bulk.bk]⟩
theorem JS {t : TypeId} (ht : P.underlying t = some .bool) : xA P t Bool := fun h => by
  obtain ⟨n, hc, hx⟩ := DataW.trod_bool ht h
  exact ⟨n, hc, trivial, by rw [hx]; simp [Rows.uptoBulk, Bulk.bk]⟩
theorem jO {t : TypeId} (ht : P.underlying t = some .string) : xA P t Str := fun h => by
  obtain ⟨s, hc, hx, hsz⟩ := DataW.trod_string ht h
  refine ⟨s.data.toList, hc.trans ?_, ?_, by rw [hx]; simp [Rows.uptoBulk, Bulk.bk]⟩
  rotate_left
  · unfold maxLen at hsz
    show s.data.toList.length ≤ 9223372036854775807
    have h3 : s.data.toList.length = s.size := Array.length_toList
    omega
  show [Value.string s] = [.string (ba s.data.toList)]
  simp [ba]
theorem iI {t e : TypeId} {α : Type} [Rep α] [Fits α] [Bulk α] (ht : P.underlying t = some (.slice e)) (hC : P.cellsOf e = Rep.sz α) (he : xA P e α) : xA P t (List α) := fun {H enc w base spare held fuel cs x} h => by
  rcases Go.Deep.open_slice ht h with ⟨hcs, hx⟩ | ⟨a, len, cap, m, n, D, Pl, hcs, hb, hl, hm, hmm, hx, hi⟩
  · exact ⟨[], ⟨none, 0, hcs, View.nil _ _⟩, fun x hx => by simp at hx, by rw [hx]; simp [Rows.uptoBulk, Bulk.bk]⟩
  · have hlm : len ≤ m := by rw [hmm]; split <;> omega
    have each : ∀ i, i < len → ∃ y : α, ∃ cs', (∀ j v, cs'[j]? = some v → w.cell? (a.add (i * Rep.sz α + j)) = some v) ∧ Rep.rd w (below w) cs' y ∧ cs'.length = Rep.sz α ∧ Fits.fits y ∧ Bulk.bk y ≤ Rows.uptoBulk (D i) := fun i hil => by
      obtain ⟨cs', hc, ht'⟩ := hi i (by omega)
      obtain ⟨y, hy, hfy, hby⟩ := he ht'
      obtain ⟨_, hlen, hat⟩ := World.cells?_some hc
      refine ⟨y, cs', fun j v hv => ?_, hy, by rw [hlen, hC], hfy, hby⟩
      have hj : j < P.cellsOf e := by rw [← hlen]; exact (List.getElem?_eq_some_iff.1 hv).1
      have := hat j hj
      rw [add_add', hC] at this
      rw [this, hv]
    have pick : ∀ k, k ≤ len → ∃ ys : List α, ys.length = k ∧ (ys.map Bulk.bk).sum ≤ Rows.uptoBulkAll ((List.range k).map D) ∧ ∀ i y, ys[i]? = some y → ∃ cs', (∀ j v, cs'[j]? = some v → w.cell? (a.add (i * Rep.sz α + j)) = some v) ∧ Rep.rd w (below w) cs' y ∧ cs'.length = Rep.sz α ∧ Fits.fits y := by
      have app : ∀ (l r : List (DataW H)), Rows.uptoBulkAll (l ++ r) = Rows.uptoBulkAll l + Rows.uptoBulkAll r := by
        intro l r
        induction l with
        | nil => simp [Rows.uptoBulkAll]
        | cons x l ih => simp only [List.cons_append, Rows.uptoBulkAll, ih]; omega
      intro k
      induction k with
      | zero => exact fun _ => ⟨[], rfl, by simp, fun i y h => by simp at h⟩
      | succ k ih =>
        intro hk
        obtain ⟨ys, hl, hs, hys⟩ := ih (by omega)
        obtain ⟨y, cs', h1, h2, h3, h4, h5⟩ := each k (by omega)
        refine ⟨ys ++ [y], by simp [hl], ?_, fun i z hz => ?_⟩
        · rw [List.range_succ, List.map_append, List.map_append, app, List.sum_append]
          simp only [List.map_cons, List.map_nil, List.sum_cons, List.sum_nil, Rows.uptoBulkAll]
          omega
        rcases Nat.lt_or_ge i ys.length with hlt | hge
        · rw [List.getElem?_append_left hlt] at hz; exact hys i z hz
        · rw [List.getElem?_append_right hge] at hz
          have : i - ys.length = 0 := by have := TL hz; simp at this; omega
          rw [this] at hz; simp at hz; subst hz
          have : i = k := by omega
          subst this; exact ⟨cs', h1, h2, h3, h4⟩
    obtain ⟨ys, hyl, hsum, hys⟩ := pick len (Nat.le_refl _)
    refine ⟨ys, ⟨some a, cap, by rw [hyl]; exact hcs, by rw [hyl]; exact hl, hm, fun i y hy => ?_⟩, fun y hy => ?_, ?_⟩
    rotate_left
    · obtain ⟨i, hi⟩ := List.getElem?_of_mem hy
      obtain ⟨_, _, _, _, hf⟩ := hys i y hi
      exact hf
    · rw [hx]
      show (ys.map Bulk.bk).sum + 1 ≤ _
      simp only [Rows.uptoBulk]
      omega
    obtain ⟨cs', hcell, hrd, hlen, _⟩ := hys i y hy
    have hpos : 0 < Rep.sz α := Rep.pos
    obtain ⟨v, hv⟩ : ∃ v, cs'[0]? = some v := ⟨cs'[0]'(by omega), List.getElem?_eq_getElem (by omega)⟩
    have hblk := World.block_lt_of_cell? w _ (hcell 0 v hv)
    rw [block_add] at hblk
    exact ⟨cs', ⟨a, rfl, hblk, hcell⟩, hrd⟩
end
end Go.Proofs.YtbegofbmbcghdaaGreatDoor

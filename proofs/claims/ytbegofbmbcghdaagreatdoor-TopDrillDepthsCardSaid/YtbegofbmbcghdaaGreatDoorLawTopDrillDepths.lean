/- Chapter texts of ours, as far as the claim needs them. -/
import Derived.Test.YtbegofbmbcghdaaGreatDoorCards
import Derived.Test.YtbegofbmbcghdaaGreatDoorTie
import Derived.Test.YtbegofbmbcghdaaGreatDoorBulk
import Derived.Test.YtbegofbmbcghdaaGreatDoorHoW
import Derived.Test.YtbegofbmbcghdaaGreatDoorHoK
import Derived.Deep.DeepHandedRow
import Derived.Deep.DeepWitnessRowRef
import Derived.Lib.LaidTab
import Derived.Lay
namespace Go.Proofs.YtbegofbmbcghdaaGreatDoor
open Go Go.RowKit Go.ChangeShapes Go.WideShapes Go.ChangeAt
set_option linter.unusedVariables false
set_option linter.unusedSectionVars false
set_option linter.unusedSimpArgs false
set_option maxHeartbeats 1000000
theorem Jr {P : Program} {H : Type} {enc : TypeId × Value → H} {w : World} {base : Nat} {spare : Nat → Bool} {held : Bool} {m : Nat} {cs : List Value} {x : DataW H × List MemPlace} {t e : TypeId} {α : Type} [Rep α] (ht : P.underlying t = some (.slice e)) (hC : P.cellsOf e = Rep.sz α) (h : DataW.trod enc P w base spare held m t cs = some x)
    (he : ∀ (n : Nat) cs x, n + 1 = m → DataW.trod enc P w base spare held n e cs = some x → ∃ y : α, Rep.rd w (below w) cs y) : ∃ (ys : List α) (A : Option Addr) (C : Nat), cs = [.slice A ys.length C] ∧ View w (below w) A C ys := by
  rcases DataW.trod_slice ht h with ⟨hcs, hx⟩ | ⟨a, len, cap, elems, rest, n, hn, hcs, hx, hb, hl, hm, hlen, hel, _, _⟩
  · exact ⟨[], none, 0, hcs, View.nil _ _⟩
  · have each : ∀ i, i < len → ∃ y : α, ∃ cs', (∀ j v, cs'[j]? = some v → w.cell? (a.add (i * Rep.sz α + j)) = some v) ∧ Rep.rd w (below w) cs' y ∧ cs'.length = Rep.sz α := fun i hil => by
      have hi := hel i hil
      rw [List.getElem?_eq_getElem (by omega)] at hi
      obtain ⟨cs', hc, ht'⟩ := Option.bind_eq_some_iff.1 hi
      obtain ⟨y, hy⟩ := he n _ _ hn.symm ht'
      obtain ⟨_, hlen', hat⟩ := World.cells?_some hc
      refine ⟨y, cs', fun j v hv => ?_, hy, by rw [hlen', hC]⟩
      have hj : j < P.cellsOf e := by rw [← hlen']; exact (List.getElem?_eq_some_iff.1 hv).1
      have := hat j hj
      rw [add_add', hC] at this
      rw [this, hv]
    have pick : ∀ k, k ≤ len → ∃ ys : List α, ys.length = k ∧ ∀ i y, ys[i]? = some y → ∃ cs', (∀ j v, cs'[j]? = some v → w.cell? (a.add (i * Rep.sz α + j)) = some v) ∧ Rep.rd w (below w) cs' y ∧ cs'.length = Rep.sz α := by
      intro k
      induction k with
      | zero => exact fun _ => ⟨[], rfl, fun i y h => by simp at h⟩
      | succ k ih =>
        intro hk
        obtain ⟨ys, hl, hys⟩ := ih (by omega)
        obtain ⟨y, cs', h1, h2, h3⟩ := each k (by omega)
        refine ⟨ys ++ [y], by simp [hl], fun i z hz => ?_⟩
        rcases Nat.lt_or_ge i ys.length with hlt | hge
        · rw [List.getElem?_append_left hlt] at hz; exact hys i z hz
        · rw [List.getElem?_append_right hge] at hz
          have : i - ys.length = 0 := by have := TL hz; simp at this; omega
          rw [this] at hz; simp at hz; subst hz
          have : i = k := by omega
          subst this; exact ⟨cs', h1, h2, h3⟩
    obtain ⟨ys, hyl, hys⟩ := pick len (Nat.le_refl _)
    refine ⟨ys, some a, cap, by rw [hyl]; exact hcs, by rw [hyl]; exact hl, hm, fun i y hy => ?_⟩
    obtain ⟨cs', hcell, hrd, hlen'⟩ := hys i y hy
    have hpos : 0 < Rep.sz α := Rep.pos
    obtain ⟨v, hv⟩ : ∃ v, cs'[0]? = some v := ⟨cs'[0]'(by omega), List.getElem?_eq_getElem (by omega)⟩
    have hblk := World.block_lt_of_cell? w _ (hcell 0 v hv)
    rw [block_add] at hblk
    exact ⟨cs', ⟨a, rfl, hblk, hcell⟩, hrd⟩
theorem QH : xA Tryz.prog 210 iC := fun {H enc w base spare held fuel cs x} h => by
  obtain ⟨xs, m, _, hx, hlen, hxl, hg⟩ := DataW.trod_struct Tryz.underlying210 h
  have hc : Tryz.prog.cellsOf 210 = 3 := by kernel_rfl
  have hxs : xs.length = 3 := hxl
  rw [hc] at hlen
  rcases xs with _ | ⟨x0, xs⟩
  · simp at hxs
  rcases xs with _ | ⟨x1, xs⟩
  · simp at hxs
  rcases xs with _ | ⟨x2, xs⟩
  · simp at hxs
  rcases xs with _ | ⟨_, _⟩
  rotate_left
  · simp at hxs
  have hc0 : Tryz.prog.cellsOf 9 = 1 := by kernel_rfl
  obtain ⟨y0, h0, f0, b0⟩ := (jO Tryz.underlying9) (hg 0 _ rfl)
  have e0 : (cs.drop 0).take (Tryz.prog.cellsOf 9) = Flat.enc y0 := h0
  rw [hc0] at e0
  have hc1 : Tryz.prog.cellsOf 3 = 1 := by kernel_rfl
  obtain ⟨y1, h1, f1, b1⟩ := (iE Tryz.underlying3) (hg 1 _ rfl)
  have e1 : (cs.drop 1).take (Tryz.prog.cellsOf 3) = Flat.enc y1 := h1
  rw [hc1] at e1
  have hc2 : Tryz.prog.cellsOf 3 = 1 := by kernel_rfl
  obtain ⟨y2, h2, f2, b2⟩ := (iE Tryz.underlying3) (hg 2 _ rfl)
  have e2 : (cs.drop 2).take (Tryz.prog.cellsOf 3) = Flat.enc y2 := h2
  rw [hc2] at e2
  have hall := (fM (fM e0 e1) e2)
  rw [List.drop_zero, List.take_of_length_le (Nat.le_of_eq hlen)] at hall
  have hbk : Bulk.bk y0 + (Bulk.bk y1 + (Bulk.bk y2 + 1)) ≤ Rows.uptoBulk x.1 := by
    rw [hx]; simp only [Rows.uptoBulk, Rows.uptoBulkAll, List.map_cons, List.map_nil]; omega
  exact ⟨⟨y0, y1, y2⟩, hall, ⟨f0, f1, f2⟩, hbk⟩
theorem Q8 : xA Tryz.prog 169 gK := fun {H enc w base spare held fuel cs x} h => by
  obtain ⟨xs, m, _, hx, hlen, hxl, hg⟩ := DataW.trod_struct Tryz.underlying169 h
  have hc : Tryz.prog.cellsOf 169 = 2 := by kernel_rfl
  have hxs : xs.length = 2 := hxl
  rw [hc] at hlen
  rcases xs with _ | ⟨x0, xs⟩
  · simp at hxs
  rcases xs with _ | ⟨x1, xs⟩
  · simp at hxs
  rcases xs with _ | ⟨_, _⟩
  rotate_left
  · simp at hxs
  have hc0 : Tryz.prog.cellsOf 9 = 1 := by kernel_rfl
  obtain ⟨y0, h0, f0, b0⟩ := (jO Tryz.underlying9) (hg 0 _ rfl)
  have e0 : (cs.drop 0).take (Tryz.prog.cellsOf 9) = Flat.enc y0 := h0
  rw [hc0] at e0
  have hc1 : Tryz.prog.cellsOf 167 = 1 := by kernel_rfl
  obtain ⟨y1, h1, f1, b1⟩ := (iI Tryz.underlying167 (by kernel_rfl) QH) (hg 1 _ rfl)
  obtain ⟨A1, C1, e1, v1⟩ := h1
  replace e1 : (cs.drop 1).take (Tryz.prog.cellsOf 167) = [.slice A1 y1.length C1] := e1
  rw [hc1] at e1
  have hall := (fM e0 e1)
  rw [List.drop_zero, List.take_of_length_le (Nat.le_of_eq hlen)] at hall
  have hbk : Bulk.bk y0 + (Bulk.bk y1 + 1) ≤ Rows.uptoBulk x.1 := by
    rw [hx]; simp only [Rows.uptoBulk, Rows.uptoBulkAll, List.map_cons, List.map_nil]; omega
  exact ⟨⟨y0, y1⟩, ⟨A1, C1, hall, v1⟩, ⟨f0, f1⟩, hbk⟩
theorem QY : xA Tryz.prog 196 Part := fun {H enc w base spare held fuel cs x} h => by
  obtain ⟨xs, m, _, hx, hlen, hxl, hg⟩ := DataW.trod_struct Tryz.underlying196 h
  have hc : Tryz.prog.cellsOf 196 = 2 := by kernel_rfl
  have hxs : xs.length = 2 := hxl
  rw [hc] at hlen
  rcases xs with _ | ⟨x0, xs⟩
  · simp at hxs
  rcases xs with _ | ⟨x1, xs⟩
  · simp at hxs
  rcases xs with _ | ⟨_, _⟩
  rotate_left
  · simp at hxs
  have hc0 : Tryz.prog.cellsOf 9 = 1 := by kernel_rfl
  obtain ⟨y0, h0, f0, b0⟩ := (jO Tryz.underlying9) (hg 0 _ rfl)
  have e0 : (cs.drop 0).take (Tryz.prog.cellsOf 9) = Flat.enc y0 := h0
  rw [hc0] at e0
  have hc1 : Tryz.prog.cellsOf 9 = 1 := by kernel_rfl
  obtain ⟨y1, h1, f1, b1⟩ := (jO Tryz.underlying9) (hg 1 _ rfl)
  have e1 : (cs.drop 1).take (Tryz.prog.cellsOf 9) = Flat.enc y1 := h1
  rw [hc1] at e1
  have hall := (fM e0 e1)
  rw [List.drop_zero, List.take_of_length_le (Nat.le_of_eq hlen)] at hall
  have hbk : Bulk.bk y0 + (Bulk.bk y1 + 1) ≤ Rows.uptoBulk x.1 := by
    rw [hx]; simp only [Rows.uptoBulk, Rows.uptoBulkAll, List.map_cons, List.map_nil]; omega
  exact ⟨⟨y0, y1⟩, hall, ⟨f0, f1⟩, hbk⟩
theorem Rh : xA Tryz.prog 146 Pin := fun {H enc w base spare held fuel cs x} h => by
  obtain ⟨xs, m, _, hx, hlen, hxl, hg⟩ := DataW.trod_struct Tryz.underlying146 h
  have hc : Tryz.prog.cellsOf 146 = 2 := by kernel_rfl
  have hxs : xs.length = 2 := hxl
  rw [hc] at hlen
  rcases xs with _ | ⟨x0, xs⟩
  · simp at hxs
  rcases xs with _ | ⟨x1, xs⟩
  · simp at hxs
  rcases xs with _ | ⟨_, _⟩
  rotate_left
  · simp at hxs
  have hc0 : Tryz.prog.cellsOf 9 = 1 := by kernel_rfl
  obtain ⟨y0, h0, f0, b0⟩ := (jO Tryz.underlying9) (hg 0 _ rfl)
  have e0 : (cs.drop 0).take (Tryz.prog.cellsOf 9) = Flat.enc y0 := h0
  rw [hc0] at e0
  have hc1 : Tryz.prog.cellsOf 9 = 1 := by kernel_rfl
  obtain ⟨y1, h1, f1, b1⟩ := (jO Tryz.underlying9) (hg 1 _ rfl)
  have e1 : (cs.drop 1).take (Tryz.prog.cellsOf 9) = Flat.enc y1 := h1
  rw [hc1] at e1
  have hall := (fM e0 e1)
  rw [List.drop_zero, List.take_of_length_le (Nat.le_of_eq hlen)] at hall
  have hbk : Bulk.bk y0 + (Bulk.bk y1 + 1) ≤ Rows.uptoBulk x.1 := by
    rw [hx]; simp only [Rows.uptoBulk, Rows.uptoBulkAll, List.map_cons, List.map_nil]; omega
  exact ⟨⟨y0, y1⟩, hall, ⟨f0, f1⟩, hbk⟩
theorem Qw : xA Tryz.prog 143 Net := fun {H enc w base spare held fuel cs x} h => by
  obtain ⟨xs, m, _, hx, hlen, hxl, hg⟩ := DataW.trod_struct Tryz.underlying143 h
  have hc : Tryz.prog.cellsOf 143 = 3 := by kernel_rfl
  have hxs : xs.length = 3 := hxl
  rw [hc] at hlen
  rcases xs with _ | ⟨x0, xs⟩
  · simp at hxs
  rcases xs with _ | ⟨x1, xs⟩
  · simp at hxs
  rcases xs with _ | ⟨x2, xs⟩
  · simp at hxs
  rcases xs with _ | ⟨_, _⟩
  rotate_left
  · simp at hxs
  have hc0 : Tryz.prog.cellsOf 9 = 1 := by kernel_rfl
  obtain ⟨y0, h0, f0, b0⟩ := (jO Tryz.underlying9) (hg 0 _ rfl)
  have e0 : (cs.drop 0).take (Tryz.prog.cellsOf 9) = Flat.enc y0 := h0
  rw [hc0] at e0
  have hc1 : Tryz.prog.cellsOf 141 = 1 := by kernel_rfl
  obtain ⟨y1, h1, f1, b1⟩ := (iI Tryz.underlying141 (by kernel_rfl) Rh) (hg 1 _ rfl)
  obtain ⟨A1, C1, e1, v1⟩ := h1
  replace e1 : (cs.drop 1).take (Tryz.prog.cellsOf 141) = [.slice A1 y1.length C1] := e1
  rw [hc1] at e1
  have hc2 : Tryz.prog.cellsOf 66 = 1 := by kernel_rfl
  obtain ⟨y2, h2, f2, b2⟩ := (iI Tryz.underlying66 (by kernel_rfl) (jO Tryz.underlying9)) (hg 2 _ rfl)
  obtain ⟨A2, C2, e2, v2⟩ := h2
  replace e2 : (cs.drop 2).take (Tryz.prog.cellsOf 66) = [.slice A2 y2.length C2] := e2
  rw [hc2] at e2
  have hall := (fM (fM e0 e1) e2)
  rw [List.drop_zero, List.take_of_length_le (Nat.le_of_eq hlen)] at hall
  have hbk : Bulk.bk y0 + (Bulk.bk y1 + (Bulk.bk y2 + 1)) ≤ Rows.uptoBulk x.1 := by
    rw [hx]; simp only [Rows.uptoBulk, Rows.uptoBulkAll, List.map_cons, List.map_nil]; omega
  exact ⟨⟨y0, y1, y2⟩, ⟨A1, C1, A2, C2, hall, v1, v2⟩, ⟨f0, f1, f2⟩, hbk⟩
theorem SB : xA Tryz.prog 26 qH := fun {H enc w base spare held fuel cs x} h => by
  obtain ⟨xs, m, _, hx, hlen, hxl, hg⟩ := DataW.trod_struct Tryz.underlying26 h
  have hc : Tryz.prog.cellsOf 26 = 2 := by kernel_rfl
  have hxs : xs.length = 2 := hxl
  rw [hc] at hlen
  rcases xs with _ | ⟨x0, xs⟩
  · simp at hxs
  rcases xs with _ | ⟨x1, xs⟩
  · simp at hxs
  rcases xs with _ | ⟨_, _⟩
  rotate_left
  · simp at hxs
  have hc0 : Tryz.prog.cellsOf 23 = 1 := by kernel_rfl
  obtain ⟨y0, h0, f0, b0⟩ := (iI Tryz.underlying23 (by kernel_rfl) QY) (hg 0 _ rfl)
  obtain ⟨A0, C0, e0, v0⟩ := h0
  replace e0 : (cs.drop 0).take (Tryz.prog.cellsOf 23) = [.slice A0 y0.length C0] := e0
  rw [hc0] at e0
  have hc1 : Tryz.prog.cellsOf 24 = 1 := by kernel_rfl
  obtain ⟨y1, h1, f1, b1⟩ := (iI Tryz.underlying24 (by kernel_rfl) Qw) (hg 1 _ rfl)
  obtain ⟨A1, C1, e1, v1⟩ := h1
  replace e1 : (cs.drop 1).take (Tryz.prog.cellsOf 24) = [.slice A1 y1.length C1] := e1
  rw [hc1] at e1
  have hall := (fM e0 e1)
  rw [List.drop_zero, List.take_of_length_le (Nat.le_of_eq hlen)] at hall
  have hbk : Bulk.bk y0 + (Bulk.bk y1 + 1) ≤ Rows.uptoBulk x.1 := by
    rw [hx]; simp only [Rows.uptoBulk, Rows.uptoBulkAll, List.map_cons, List.map_nil]; omega
  exact ⟨⟨y0, y1⟩, ⟨A0, C0, A1, C1, hall, v0, v1⟩, ⟨f0, f1⟩, hbk⟩
theorem Rn : xA Tryz.prog 130 eY := fun {H enc w base spare held fuel cs x} h => by
  obtain ⟨xs, m, _, hx, hlen, hxl, hg⟩ := DataW.trod_struct Tryz.underlying130 h
  have hc : Tryz.prog.cellsOf 130 = 4 := by kernel_rfl
  have hxs : xs.length = 4 := hxl
  rw [hc] at hlen
  rcases xs with _ | ⟨x0, xs⟩
  · simp at hxs
  rcases xs with _ | ⟨x1, xs⟩
  · simp at hxs
  rcases xs with _ | ⟨x2, xs⟩
  · simp at hxs
  rcases xs with _ | ⟨x3, xs⟩
  · simp at hxs
  rcases xs with _ | ⟨_, _⟩
  rotate_left
  · simp at hxs
  have hc0 : Tryz.prog.cellsOf 9 = 1 := by kernel_rfl
  obtain ⟨y0, h0, f0, b0⟩ := (jO Tryz.underlying9) (hg 0 _ rfl)
  have e0 : (cs.drop 0).take (Tryz.prog.cellsOf 9) = Flat.enc y0 := h0
  rw [hc0] at e0
  have hc1 : Tryz.prog.cellsOf 3 = 1 := by kernel_rfl
  obtain ⟨y1, h1, f1, b1⟩ := (iE Tryz.underlying3) (hg 1 _ rfl)
  have e1 : (cs.drop 1).take (Tryz.prog.cellsOf 3) = Flat.enc y1 := h1
  rw [hc1] at e1
  have hc2 : Tryz.prog.cellsOf 3 = 1 := by kernel_rfl
  obtain ⟨y2, h2, f2, b2⟩ := (iE Tryz.underlying3) (hg 2 _ rfl)
  have e2 : (cs.drop 2).take (Tryz.prog.cellsOf 3) = Flat.enc y2 := h2
  rw [hc2] at e2
  have hc3 : Tryz.prog.cellsOf 3 = 1 := by kernel_rfl
  obtain ⟨y3, h3, f3, b3⟩ := (iE Tryz.underlying3) (hg 3 _ rfl)
  have e3 : (cs.drop 3).take (Tryz.prog.cellsOf 3) = Flat.enc y3 := h3
  rw [hc3] at e3
  have hall := (fM (fM (fM e0 e1) e2) e3)
  rw [List.drop_zero, List.take_of_length_le (Nat.le_of_eq hlen)] at hall
  have hbk : Bulk.bk y0 + (Bulk.bk y1 + (Bulk.bk y2 + (Bulk.bk y3 + 1))) ≤ Rows.uptoBulk x.1 := by
    rw [hx]; simp only [Rows.uptoBulk, Rows.uptoBulkAll, List.map_cons, List.map_nil]; omega
  exact ⟨⟨y0, y1, y2, y3⟩, hall, ⟨f0, f1, f2, f3⟩, hbk⟩
theorem SC : xA Tryz.prog 68 Layer := fun {H enc w base spare held fuel cs x} h => by
  obtain ⟨xs, m, _, hx, hlen, hxl, hg⟩ := DataW.trod_struct Tryz.underlying68 h
  have hc : Tryz.prog.cellsOf 68 = 2 := by kernel_rfl
  have hxs : xs.length = 2 := hxl
  rw [hc] at hlen
  rcases xs with _ | ⟨x0, xs⟩
  · simp at hxs
  rcases xs with _ | ⟨x1, xs⟩
  · simp at hxs
  rcases xs with _ | ⟨_, _⟩
  rotate_left
  · simp at hxs
  have hc0 : Tryz.prog.cellsOf 9 = 1 := by kernel_rfl
  obtain ⟨y0, h0, f0, b0⟩ := (jO Tryz.underlying9) (hg 0 _ rfl)
  have e0 : (cs.drop 0).take (Tryz.prog.cellsOf 9) = Flat.enc y0 := h0
  rw [hc0] at e0
  have hc1 : Tryz.prog.cellsOf 9 = 1 := by kernel_rfl
  obtain ⟨y1, h1, f1, b1⟩ := (jO Tryz.underlying9) (hg 1 _ rfl)
  have e1 : (cs.drop 1).take (Tryz.prog.cellsOf 9) = Flat.enc y1 := h1
  rw [hc1] at e1
  have hall := (fM e0 e1)
  rw [List.drop_zero, List.take_of_length_le (Nat.le_of_eq hlen)] at hall
  have hbk : Bulk.bk y0 + (Bulk.bk y1 + 1) ≤ Rows.uptoBulk x.1 := by
    rw [hx]; simp only [Rows.uptoBulk, Rows.uptoBulkAll, List.map_cons, List.map_nil]; omega
  exact ⟨⟨y0, y1⟩, hall, ⟨f0, f1⟩, hbk⟩
theorem Ov : xA Tryz.prog 122 gm := fun {H enc w base spare held fuel cs x} h => by
  obtain ⟨xs, m, _, hx, hlen, hxl, hg⟩ := DataW.trod_struct Tryz.underlying122 h
  have hc : Tryz.prog.cellsOf 122 = 4 := by kernel_rfl
  have hxs : xs.length = 4 := hxl
  rw [hc] at hlen
  rcases xs with _ | ⟨x0, xs⟩
  · simp at hxs
  rcases xs with _ | ⟨x1, xs⟩
  · simp at hxs
  rcases xs with _ | ⟨x2, xs⟩
  · simp at hxs
  rcases xs with _ | ⟨x3, xs⟩
  · simp at hxs
  rcases xs with _ | ⟨_, _⟩
  rotate_left
  · simp at hxs
  have hc0 : Tryz.prog.cellsOf 3 = 1 := by kernel_rfl
  obtain ⟨y0, h0, f0, b0⟩ := (iE Tryz.underlying3) (hg 0 _ rfl)
  have e0 : (cs.drop 0).take (Tryz.prog.cellsOf 3) = Flat.enc y0 := h0
  rw [hc0] at e0
  have hc1 : Tryz.prog.cellsOf 3 = 1 := by kernel_rfl
  obtain ⟨y1, h1, f1, b1⟩ := (iE Tryz.underlying3) (hg 1 _ rfl)
  have e1 : (cs.drop 1).take (Tryz.prog.cellsOf 3) = Flat.enc y1 := h1
  rw [hc1] at e1
  have hc2 : Tryz.prog.cellsOf 3 = 1 := by kernel_rfl
  obtain ⟨y2, h2, f2, b2⟩ := (iE Tryz.underlying3) (hg 2 _ rfl)
  have e2 : (cs.drop 2).take (Tryz.prog.cellsOf 3) = Flat.enc y2 := h2
  rw [hc2] at e2
  have hc3 : Tryz.prog.cellsOf 3 = 1 := by kernel_rfl
  obtain ⟨y3, h3, f3, b3⟩ := (iE Tryz.underlying3) (hg 3 _ rfl)
  have e3 : (cs.drop 3).take (Tryz.prog.cellsOf 3) = Flat.enc y3 := h3
  rw [hc3] at e3
  have hall := (fM (fM (fM e0 e1) e2) e3)
  rw [List.drop_zero, List.take_of_length_le (Nat.le_of_eq hlen)] at hall
  have hbk : Bulk.bk y0 + (Bulk.bk y1 + (Bulk.bk y2 + (Bulk.bk y3 + 1))) ≤ Rows.uptoBulk x.1 := by
    rw [hx]; simp only [Rows.uptoBulk, Rows.uptoBulkAll, List.map_cons, List.map_nil]; omega
  exact ⟨⟨y0, y1, y2, y3⟩, hall, ⟨f0, f1, f2, f3⟩, hbk⟩
theorem QE : xA Tryz.prog 120 jC := fun {H enc w base spare held fuel cs x} h => by
  obtain ⟨xs, m, _, hx, hlen, hxl, hg⟩ := DataW.trod_struct Tryz.underlying120 h
  have hc : Tryz.prog.cellsOf 120 = 2 := by kernel_rfl
  have hxs : xs.length = 2 := hxl
  rw [hc] at hlen
  rcases xs with _ | ⟨x0, xs⟩
  · simp at hxs
  rcases xs with _ | ⟨x1, xs⟩
  · simp at hxs
  rcases xs with _ | ⟨_, _⟩
  rotate_left
  · simp at hxs
  have hc0 : Tryz.prog.cellsOf 9 = 1 := by kernel_rfl
  obtain ⟨y0, h0, f0, b0⟩ := (jO Tryz.underlying9) (hg 0 _ rfl)
  have e0 : (cs.drop 0).take (Tryz.prog.cellsOf 9) = Flat.enc y0 := h0
  rw [hc0] at e0
  have hc1 : Tryz.prog.cellsOf 118 = 1 := by kernel_rfl
  obtain ⟨y1, h1, f1, b1⟩ := (iI Tryz.underlying118 (by kernel_rfl) Ov) (hg 1 _ rfl)
  obtain ⟨A1, C1, e1, v1⟩ := h1
  replace e1 : (cs.drop 1).take (Tryz.prog.cellsOf 118) = [.slice A1 y1.length C1] := e1
  rw [hc1] at e1
  have hall := (fM e0 e1)
  rw [List.drop_zero, List.take_of_length_le (Nat.le_of_eq hlen)] at hall
  have hbk : Bulk.bk y0 + (Bulk.bk y1 + 1) ≤ Rows.uptoBulk x.1 := by
    rw [hx]; simp only [Rows.uptoBulk, Rows.uptoBulkAll, List.map_cons, List.map_nil]; omega
  exact ⟨⟨y0, y1⟩, ⟨A1, C1, hall, v1⟩, ⟨f0, f1⟩, hbk⟩
theorem Iq : xA Tryz.prog 60 Point := fun {H enc w base spare held fuel cs x} h => by
  obtain ⟨xs, m, _, hx, hlen, hxl, hg⟩ := DataW.trod_struct Tryz.underlying60 h
  have hc : Tryz.prog.cellsOf 60 = 2 := by kernel_rfl
  have hxs : xs.length = 2 := hxl
  rw [hc] at hlen
  rcases xs with _ | ⟨x0, xs⟩
  · simp at hxs
  rcases xs with _ | ⟨x1, xs⟩
  · simp at hxs
  rcases xs with _ | ⟨_, _⟩
  rotate_left
  · simp at hxs
  have hc0 : Tryz.prog.cellsOf 3 = 1 := by kernel_rfl
  obtain ⟨y0, h0, f0, b0⟩ := (iE Tryz.underlying3) (hg 0 _ rfl)
  have e0 : (cs.drop 0).take (Tryz.prog.cellsOf 3) = Flat.enc y0 := h0
  rw [hc0] at e0
  have hc1 : Tryz.prog.cellsOf 3 = 1 := by kernel_rfl
  obtain ⟨y1, h1, f1, b1⟩ := (iE Tryz.underlying3) (hg 1 _ rfl)
  have e1 : (cs.drop 1).take (Tryz.prog.cellsOf 3) = Flat.enc y1 := h1
  rw [hc1] at e1
  have hall := (fM e0 e1)
  rw [List.drop_zero, List.take_of_length_le (Nat.le_of_eq hlen)] at hall
  have hbk : Bulk.bk y0 + (Bulk.bk y1 + 1) ≤ Rows.uptoBulk x.1 := by
    rw [hx]; simp only [Rows.uptoBulk, Rows.uptoBulkAll, List.map_cons, List.map_nil]; omega
  exact ⟨⟨y0, y1⟩, hall, ⟨f0, f1⟩, hbk⟩
theorem MJ {w : World} {F : Nat → Prop} {x : fK} {uPointsA : Option Addr} {uPointsC : Nat} (huPoints : View w F uPointsA uPointsC x.Points) {uStepsA : Option Addr} {uStepsC : Nat} (huSteps : View w F uStepsA uStepsC x.Steps) : Rep.rd w F [.int .i64 x.Kind, .string (ba x.Name), .int .i64 x.At.X, .int .i64 x.At.Y, .slice uPointsA x.Points.length uPointsC, .int .i64 x.NX, .int .i64 x.NY, .slice uStepsA x.Steps.length uStepsC] x := by
  obtain ⟨guSteps1, guSteps2, guSteps3⟩ := huSteps
  have guSteps : ∀ i : Nat, ∃ cs : List Value, ∀ y : fK, x.Steps[i]? = some y → iW w F uStepsA (i * 8) cs ∧ Rep.rd w F cs y := fun i => by
    cases hi : x.Steps[i]? with
    | none => exact ⟨[], fun y hy => by cases hy⟩
    | some z =>
      obtain ⟨cs, h1, h2⟩ := guSteps3 i z hi
      exact ⟨cs, fun y hy => by cases hy; exact ⟨h1, h2⟩⟩
  exact fK.Rd.mk x _ _ _ _ huPoints guSteps1 guSteps2 (fun i => Classical.choose (guSteps i)) (fun i y hy => (Classical.choose_spec (guSteps i) y hy).1) (fun i y hy => (Classical.choose_spec (guSteps i) y hy).2)
theorem QG (k : Nat) : ∀ {H : Type} {enc : TypeId × Value → H} {w : World} {base : Nat} {spare : Nat → Bool} {held : Bool} {fuel : Nat} {cs : List Value} {x : DataW H × List MemPlace}, fuel ≤ k → DataW.trod enc Tryz.prog w base spare held fuel 188 cs = some x → ∃ y : fK, Rep.rd w (below w) cs y := by
  induction k with
  | zero =>
    intro H enc w base spare held fuel cs x hk h
    obtain ⟨xs, m, hm, _⟩ := DataW.trod_struct Tryz.underlying188 h
    omega
  | succ k ih =>
  intro H enc w base spare held fuel cs x hk h
  obtain ⟨xs, m, hm, hx, hlen, hxl, hg⟩ := DataW.trod_struct Tryz.underlying188 h
  have hc : Tryz.prog.cellsOf 188 = 8 := by kernel_rfl
  have hxs : xs.length = 7 := hxl
  rw [hc] at hlen
  rcases xs with _ | ⟨x0, xs⟩
  · simp at hxs
  rcases xs with _ | ⟨x1, xs⟩
  · simp at hxs
  rcases xs with _ | ⟨x2, xs⟩
  · simp at hxs
  rcases xs with _ | ⟨x3, xs⟩
  · simp at hxs
  rcases xs with _ | ⟨x4, xs⟩
  · simp at hxs
  rcases xs with _ | ⟨x5, xs⟩
  · simp at hxs
  rcases xs with _ | ⟨x6, xs⟩
  · simp at hxs
  rcases xs with _ | ⟨_, _⟩
  rotate_left
  · simp at hxs
  have hc0 : Tryz.prog.cellsOf 3 = 1 := by kernel_rfl
  obtain ⟨y0, h0, f0, b0⟩ := (iE Tryz.underlying3) (hg 0 _ rfl)
  have e0 : (cs.drop 0).take (Tryz.prog.cellsOf 3) = Flat.enc y0 := h0
  rw [hc0] at e0
  have hc1 : Tryz.prog.cellsOf 9 = 1 := by kernel_rfl
  obtain ⟨y1, h1, f1, b1⟩ := (jO Tryz.underlying9) (hg 1 _ rfl)
  have e1 : (cs.drop 1).take (Tryz.prog.cellsOf 9) = Flat.enc y1 := h1
  rw [hc1] at e1
  have hc2 : Tryz.prog.cellsOf 60 = 2 := by kernel_rfl
  obtain ⟨y2, h2, f2, b2⟩ := Iq (hg 2 _ rfl)
  have e2 : (cs.drop 2).take (Tryz.prog.cellsOf 60) = Flat.enc y2 := h2
  rw [hc2] at e2
  have hc3 : Tryz.prog.cellsOf 186 = 1 := by kernel_rfl
  obtain ⟨y3, h3, f3, b3⟩ := (iI Tryz.underlying186 (by kernel_rfl) Iq) (hg 3 _ rfl)
  obtain ⟨A3, C3, e3, v3⟩ := h3
  replace e3 : (cs.drop 4).take (Tryz.prog.cellsOf 186) = [.slice A3 y3.length C3] := e3
  rw [hc3] at e3
  have hc4 : Tryz.prog.cellsOf 3 = 1 := by kernel_rfl
  obtain ⟨y4, h4, f4, b4⟩ := (iE Tryz.underlying3) (hg 4 _ rfl)
  have e4 : (cs.drop 5).take (Tryz.prog.cellsOf 3) = Flat.enc y4 := h4
  rw [hc4] at e4
  have hc5 : Tryz.prog.cellsOf 3 = 1 := by kernel_rfl
  obtain ⟨y5, h5, f5, b5⟩ := (iE Tryz.underlying3) (hg 5 _ rfl)
  have e5 : (cs.drop 6).take (Tryz.prog.cellsOf 3) = Flat.enc y5 := h5
  rw [hc5] at e5
  have hc6 : Tryz.prog.cellsOf 31 = 1 := by kernel_rfl
  obtain ⟨y6, A6, C6, e6, v6⟩ := Jr (α := fK) Tryz.underlying31 (by kernel_rfl) (hg 6 _ rfl) (fun n cs x hn h => ih (by omega) h)
  replace e6 : (cs.drop 7).take (Tryz.prog.cellsOf 31) = [.slice A6 y6.length C6] := e6
  rw [hc6] at e6
  have hall := (fM (fM (fM (fM (fM (fM e0 e1) e2) e3) e4) e5) e6)
  rw [List.drop_zero, List.take_of_length_le (Nat.le_of_eq hlen)] at hall
  have hy := MJ (x := ⟨y0, y1, y2, y3, y4, y5, y6⟩) v3 v6
  exact ⟨_, by rw [hall]; exact hy⟩
theorem QI : xA Tryz.prog 188 fK := fun {H enc w base spare held fuel cs x} h => by
  obtain ⟨xs, m, _, hx, _⟩ := DataW.trod_struct Tryz.underlying188 h
  obtain ⟨y, hy⟩ := QG _ (Nat.le_refl _) h
  exact ⟨y, hy, trivial, by rw [hx]; exact Nat.le_add_left _ _⟩
theorem Qm : xA Tryz.prog 33 qG := fun {H enc w base spare held fuel cs x} h => by
  obtain ⟨xs, m, _, hx, hlen, hxl, hg⟩ := DataW.trod_struct Tryz.underlying33 h
  have hc : Tryz.prog.cellsOf 33 = 3 := by kernel_rfl
  have hxs : xs.length = 3 := hxl
  rw [hc] at hlen
  rcases xs with _ | ⟨x0, xs⟩
  · simp at hxs
  rcases xs with _ | ⟨x1, xs⟩
  · simp at hxs
  rcases xs with _ | ⟨x2, xs⟩
  · simp at hxs
  rcases xs with _ | ⟨_, _⟩
  rotate_left
  · simp at hxs
  have hc0 : Tryz.prog.cellsOf 3 = 1 := by kernel_rfl
  obtain ⟨y0, h0, f0, b0⟩ := (iE Tryz.underlying3) (hg 0 _ rfl)
  have e0 : (cs.drop 0).take (Tryz.prog.cellsOf 3) = Flat.enc y0 := h0
  rw [hc0] at e0
  have hc1 : Tryz.prog.cellsOf 30 = 1 := by kernel_rfl
  obtain ⟨y1, h1, f1, b1⟩ := (iI Tryz.underlying30 (by kernel_rfl) QE) (hg 1 _ rfl)
  obtain ⟨A1, C1, e1, v1⟩ := h1
  replace e1 : (cs.drop 1).take (Tryz.prog.cellsOf 30) = [.slice A1 y1.length C1] := e1
  rw [hc1] at e1
  have hc2 : Tryz.prog.cellsOf 31 = 1 := by kernel_rfl
  obtain ⟨y2, h2, f2, b2⟩ := (iI Tryz.underlying31 (by kernel_rfl) QI) (hg 2 _ rfl)
  obtain ⟨A2, C2, e2, v2⟩ := h2
  replace e2 : (cs.drop 2).take (Tryz.prog.cellsOf 31) = [.slice A2 y2.length C2] := e2
  rw [hc2] at e2
  have hall := (fM (fM e0 e1) e2)
  rw [List.drop_zero, List.take_of_length_le (Nat.le_of_eq hlen)] at hall
  have hbk : Bulk.bk y0 + (Bulk.bk y1 + (Bulk.bk y2 + 1)) ≤ Rows.uptoBulk x.1 := by
    rw [hx]; simp only [Rows.uptoBulk, Rows.uptoBulkAll, List.map_cons, List.map_nil]; omega
  exact ⟨⟨y0, y1, y2⟩, ⟨A1, C1, A2, C2, hall, v1, v2⟩, ⟨f0, f1, f2⟩, hbk⟩
theorem Sj : xA Tryz.prog 62 zT := fun {H enc w base spare held fuel cs x} h => by
  obtain ⟨xs, m, _, hx, hlen, hxl, hg⟩ := DataW.trod_struct Tryz.underlying62 h
  have hc : Tryz.prog.cellsOf 62 = 6 := by kernel_rfl
  have hxs : xs.length = 5 := hxl
  rw [hc] at hlen
  rcases xs with _ | ⟨x0, xs⟩
  · simp at hxs
  rcases xs with _ | ⟨x1, xs⟩
  · simp at hxs
  rcases xs with _ | ⟨x2, xs⟩
  · simp at hxs
  rcases xs with _ | ⟨x3, xs⟩
  · simp at hxs
  rcases xs with _ | ⟨x4, xs⟩
  · simp at hxs
  rcases xs with _ | ⟨_, _⟩
  rotate_left
  · simp at hxs
  have hc0 : Tryz.prog.cellsOf 60 = 2 := by kernel_rfl
  obtain ⟨y0, h0, f0, b0⟩ := Iq (hg 0 _ rfl)
  have e0 : (cs.drop 0).take (Tryz.prog.cellsOf 60) = Flat.enc y0 := h0
  rw [hc0] at e0
  have hc1 : Tryz.prog.cellsOf 3 = 1 := by kernel_rfl
  obtain ⟨y1, h1, f1, b1⟩ := (iE Tryz.underlying3) (hg 1 _ rfl)
  have e1 : (cs.drop 2).take (Tryz.prog.cellsOf 3) = Flat.enc y1 := h1
  rw [hc1] at e1
  have hc2 : Tryz.prog.cellsOf 3 = 1 := by kernel_rfl
  obtain ⟨y2, h2, f2, b2⟩ := (iE Tryz.underlying3) (hg 2 _ rfl)
  have e2 : (cs.drop 3).take (Tryz.prog.cellsOf 3) = Flat.enc y2 := h2
  rw [hc2] at e2
  have hc3 : Tryz.prog.cellsOf 3 = 1 := by kernel_rfl
  obtain ⟨y3, h3, f3, b3⟩ := (iE Tryz.underlying3) (hg 3 _ rfl)
  have e3 : (cs.drop 4).take (Tryz.prog.cellsOf 3) = Flat.enc y3 := h3
  rw [hc3] at e3
  have hc4 : Tryz.prog.cellsOf 4 = 1 := by kernel_rfl
  obtain ⟨y4, h4, f4, b4⟩ := (JS Tryz.underlying4) (hg 4 _ rfl)
  have e4 : (cs.drop 5).take (Tryz.prog.cellsOf 4) = Flat.enc y4 := h4
  rw [hc4] at e4
  have hall := (fM (fM (fM (fM e0 e1) e2) e3) e4)
  rw [List.drop_zero, List.take_of_length_le (Nat.le_of_eq hlen)] at hall
  have hbk : Bulk.bk y0 + (Bulk.bk y1 + (Bulk.bk y2 + (Bulk.bk y3 + (Bulk.bk y4 + 1)))) ≤ Rows.uptoBulk x.1 := by
    rw [hx]; simp only [Rows.uptoBulk, Rows.uptoBulkAll, List.map_cons, List.map_nil]; omega
  exact ⟨⟨y0, y1, y2, y3, y4⟩, hall, ⟨f0, f1, f2, f3, f4⟩, hbk⟩
theorem QO : xA Tryz.prog 156 Body := fun {H enc w base spare held fuel cs x} h => by
  obtain ⟨xs, m, _, hx, hlen, hxl, hg⟩ := DataW.trod_struct Tryz.underlying156 h
  have hc : Tryz.prog.cellsOf 156 = 5 := by kernel_rfl
  have hxs : xs.length = 5 := hxl
  rw [hc] at hlen
  rcases xs with _ | ⟨x0, xs⟩
  · simp at hxs
  rcases xs with _ | ⟨x1, xs⟩
  · simp at hxs
  rcases xs with _ | ⟨x2, xs⟩
  · simp at hxs
  rcases xs with _ | ⟨x3, xs⟩
  · simp at hxs
  rcases xs with _ | ⟨x4, xs⟩
  · simp at hxs
  rcases xs with _ | ⟨_, _⟩
  rotate_left
  · simp at hxs
  have hc0 : Tryz.prog.cellsOf 9 = 1 := by kernel_rfl
  obtain ⟨y0, h0, f0, b0⟩ := (jO Tryz.underlying9) (hg 0 _ rfl)
  have e0 : (cs.drop 0).take (Tryz.prog.cellsOf 9) = Flat.enc y0 := h0
  rw [hc0] at e0
  have hc1 : Tryz.prog.cellsOf 3 = 1 := by kernel_rfl
  obtain ⟨y1, h1, f1, b1⟩ := (iE Tryz.underlying3) (hg 1 _ rfl)
  have e1 : (cs.drop 1).take (Tryz.prog.cellsOf 3) = Flat.enc y1 := h1
  rw [hc1] at e1
  have hc2 : Tryz.prog.cellsOf 3 = 1 := by kernel_rfl
  obtain ⟨y2, h2, f2, b2⟩ := (iE Tryz.underlying3) (hg 2 _ rfl)
  have e2 : (cs.drop 2).take (Tryz.prog.cellsOf 3) = Flat.enc y2 := h2
  rw [hc2] at e2
  have hc3 : Tryz.prog.cellsOf 3 = 1 := by kernel_rfl
  obtain ⟨y3, h3, f3, b3⟩ := (iE Tryz.underlying3) (hg 3 _ rfl)
  have e3 : (cs.drop 3).take (Tryz.prog.cellsOf 3) = Flat.enc y3 := h3
  rw [hc3] at e3
  have hc4 : Tryz.prog.cellsOf 9 = 1 := by kernel_rfl
  obtain ⟨y4, h4, f4, b4⟩ := (jO Tryz.underlying9) (hg 4 _ rfl)
  have e4 : (cs.drop 4).take (Tryz.prog.cellsOf 9) = Flat.enc y4 := h4
  rw [hc4] at e4
  have hall := (fM (fM (fM (fM e0 e1) e2) e3) e4)
  rw [List.drop_zero, List.take_of_length_le (Nat.le_of_eq hlen)] at hall
  have hbk : Bulk.bk y0 + (Bulk.bk y1 + (Bulk.bk y2 + (Bulk.bk y3 + (Bulk.bk y4 + 1)))) ≤ Rows.uptoBulk x.1 := by
    rw [hx]; simp only [Rows.uptoBulk, Rows.uptoBulkAll, List.map_cons, List.map_nil]; omega
  exact ⟨⟨y0, y1, y2, y3, y4⟩, hall, ⟨f0, f1, f2, f3, f4⟩, hbk⟩
theorem QC : xA Tryz.prog 154 Place := fun {H enc w base spare held fuel cs x} h => by
  obtain ⟨xs, m, _, hx, hlen, hxl, hg⟩ := DataW.trod_struct Tryz.underlying154 h
  have hc : Tryz.prog.cellsOf 154 = 6 := by kernel_rfl
  have hxs : xs.length = 5 := hxl
  rw [hc] at hlen
  rcases xs with _ | ⟨x0, xs⟩
  · simp at hxs
  rcases xs with _ | ⟨x1, xs⟩
  · simp at hxs
  rcases xs with _ | ⟨x2, xs⟩
  · simp at hxs
  rcases xs with _ | ⟨x3, xs⟩
  · simp at hxs
  rcases xs with _ | ⟨x4, xs⟩
  · simp at hxs
  rcases xs with _ | ⟨_, _⟩
  rotate_left
  · simp at hxs
  have hc0 : Tryz.prog.cellsOf 9 = 1 := by kernel_rfl
  obtain ⟨y0, h0, f0, b0⟩ := (jO Tryz.underlying9) (hg 0 _ rfl)
  have e0 : (cs.drop 0).take (Tryz.prog.cellsOf 9) = Flat.enc y0 := h0
  rw [hc0] at e0
  have hc1 : Tryz.prog.cellsOf 9 = 1 := by kernel_rfl
  obtain ⟨y1, h1, f1, b1⟩ := (jO Tryz.underlying9) (hg 1 _ rfl)
  have e1 : (cs.drop 1).take (Tryz.prog.cellsOf 9) = Flat.enc y1 := h1
  rw [hc1] at e1
  have hc2 : Tryz.prog.cellsOf 60 = 2 := by kernel_rfl
  obtain ⟨y2, h2, f2, b2⟩ := Iq (hg 2 _ rfl)
  have e2 : (cs.drop 2).take (Tryz.prog.cellsOf 60) = Flat.enc y2 := h2
  rw [hc2] at e2
  have hc3 : Tryz.prog.cellsOf 3 = 1 := by kernel_rfl
  obtain ⟨y3, h3, f3, b3⟩ := (iE Tryz.underlying3) (hg 3 _ rfl)
  have e3 : (cs.drop 4).take (Tryz.prog.cellsOf 3) = Flat.enc y3 := h3
  rw [hc3] at e3
  have hc4 : Tryz.prog.cellsOf 4 = 1 := by kernel_rfl
  obtain ⟨y4, h4, f4, b4⟩ := (JS Tryz.underlying4) (hg 4 _ rfl)
  have e4 : (cs.drop 5).take (Tryz.prog.cellsOf 4) = Flat.enc y4 := h4
  rw [hc4] at e4
  have hall := (fM (fM (fM (fM e0 e1) e2) e3) e4)
  rw [List.drop_zero, List.take_of_length_le (Nat.le_of_eq hlen)] at hall
  have hbk : Bulk.bk y0 + (Bulk.bk y1 + (Bulk.bk y2 + (Bulk.bk y3 + (Bulk.bk y4 + 1)))) ≤ Rows.uptoBulk x.1 := by
    rw [hx]; simp only [Rows.uptoBulk, Rows.uptoBulkAll, List.map_cons, List.map_nil]; omega
  exact ⟨⟨y0, y1, y2, y3, y4⟩, hall, ⟨f0, f1, f2, f3, f4⟩, hbk⟩
theorem Qx : xA Tryz.prog 165 IU := fun {H enc w base spare held fuel cs x} h => by
  obtain ⟨xs, m, _, hx, hlen, hxl, hg⟩ := DataW.trod_struct Tryz.underlying165 h
  have hc : Tryz.prog.cellsOf 165 = 3 := by kernel_rfl
  have hxs : xs.length = 2 := hxl
  rw [hc] at hlen
  rcases xs with _ | ⟨x0, xs⟩
  · simp at hxs
  rcases xs with _ | ⟨x1, xs⟩
  · simp at hxs
  rcases xs with _ | ⟨_, _⟩
  rotate_left
  · simp at hxs
  have hc0 : Tryz.prog.cellsOf 9 = 1 := by kernel_rfl
  obtain ⟨y0, h0, f0, b0⟩ := (jO Tryz.underlying9) (hg 0 _ rfl)
  have e0 : (cs.drop 0).take (Tryz.prog.cellsOf 9) = Flat.enc y0 := h0
  rw [hc0] at e0
  have hc1 : Tryz.prog.cellsOf 60 = 2 := by kernel_rfl
  obtain ⟨y1, h1, f1, b1⟩ := Iq (hg 1 _ rfl)
  have e1 : (cs.drop 1).take (Tryz.prog.cellsOf 60) = Flat.enc y1 := h1
  rw [hc1] at e1
  have hall := (fM e0 e1)
  rw [List.drop_zero, List.take_of_length_le (Nat.le_of_eq hlen)] at hall
  have hbk : Bulk.bk y0 + (Bulk.bk y1 + 1) ≤ Rows.uptoBulk x.1 := by
    rw [hx]; simp only [Rows.uptoBulk, Rows.uptoBulkAll, List.map_cons, List.map_nil]; omega
  exact ⟨⟨y0, y1⟩, hall, ⟨f0, f1⟩, hbk⟩
theorem QW : xA Tryz.prog 162 Gy := fun {H enc w base spare held fuel cs x} h => by
  obtain ⟨xs, m, _, hx, hlen, hxl, hg⟩ := DataW.trod_struct Tryz.underlying162 h
  have hc : Tryz.prog.cellsOf 162 = 2 := by kernel_rfl
  have hxs : xs.length = 2 := hxl
  rw [hc] at hlen
  rcases xs with _ | ⟨x0, xs⟩
  · simp at hxs
  rcases xs with _ | ⟨x1, xs⟩
  · simp at hxs
  rcases xs with _ | ⟨_, _⟩
  rotate_left
  · simp at hxs
  have hc0 : Tryz.prog.cellsOf 9 = 1 := by kernel_rfl
  obtain ⟨y0, h0, f0, b0⟩ := (jO Tryz.underlying9) (hg 0 _ rfl)
  have e0 : (cs.drop 0).take (Tryz.prog.cellsOf 9) = Flat.enc y0 := h0
  rw [hc0] at e0
  have hc1 : Tryz.prog.cellsOf 160 = 1 := by kernel_rfl
  obtain ⟨y1, h1, f1, b1⟩ := (iI Tryz.underlying160 (by kernel_rfl) Qx) (hg 1 _ rfl)
  obtain ⟨A1, C1, e1, v1⟩ := h1
  replace e1 : (cs.drop 1).take (Tryz.prog.cellsOf 160) = [.slice A1 y1.length C1] := e1
  rw [hc1] at e1
  have hall := (fM e0 e1)
  rw [List.drop_zero, List.take_of_length_le (Nat.le_of_eq hlen)] at hall
  have hbk : Bulk.bk y0 + (Bulk.bk y1 + 1) ≤ Rows.uptoBulk x.1 := by
    rw [hx]; simp only [Rows.uptoBulk, Rows.uptoBulkAll, List.map_cons, List.map_nil]; omega
  exact ⟨⟨y0, y1⟩, ⟨A1, C1, hall, v1⟩, ⟨f0, f1⟩, hbk⟩
theorem Rt : xA Tryz.prog 214 nK := fun {H enc w base spare held fuel cs x} h => by
  obtain ⟨xs, m, _, hx, hlen, hxl, hg⟩ := DataW.trod_struct Tryz.underlying214 h
  have hc : Tryz.prog.cellsOf 214 = 4 := by kernel_rfl
  have hxs : xs.length = 4 := hxl
  rw [hc] at hlen
  rcases xs with _ | ⟨x0, xs⟩
  · simp at hxs
  rcases xs with _ | ⟨x1, xs⟩
  · simp at hxs
  rcases xs with _ | ⟨x2, xs⟩
  · simp at hxs
  rcases xs with _ | ⟨x3, xs⟩
  · simp at hxs
  rcases xs with _ | ⟨_, _⟩
  rotate_left
  · simp at hxs
  have hc0 : Tryz.prog.cellsOf 9 = 1 := by kernel_rfl
  obtain ⟨y0, h0, f0, b0⟩ := (jO Tryz.underlying9) (hg 0 _ rfl)
  have e0 : (cs.drop 0).take (Tryz.prog.cellsOf 9) = Flat.enc y0 := h0
  rw [hc0] at e0
  have hc1 : Tryz.prog.cellsOf 66 = 1 := by kernel_rfl
  obtain ⟨y1, h1, f1, b1⟩ := (iI Tryz.underlying66 (by kernel_rfl) (jO Tryz.underlying9)) (hg 1 _ rfl)
  obtain ⟨A1, C1, e1, v1⟩ := h1
  replace e1 : (cs.drop 1).take (Tryz.prog.cellsOf 66) = [.slice A1 y1.length C1] := e1
  rw [hc1] at e1
  have hc2 : Tryz.prog.cellsOf 3 = 1 := by kernel_rfl
  obtain ⟨y2, h2, f2, b2⟩ := (iE Tryz.underlying3) (hg 2 _ rfl)
  have e2 : (cs.drop 2).take (Tryz.prog.cellsOf 3) = Flat.enc y2 := h2
  rw [hc2] at e2
  have hc3 : Tryz.prog.cellsOf 3 = 1 := by kernel_rfl
  obtain ⟨y3, h3, f3, b3⟩ := (iE Tryz.underlying3) (hg 3 _ rfl)
  have e3 : (cs.drop 3).take (Tryz.prog.cellsOf 3) = Flat.enc y3 := h3
  rw [hc3] at e3
  have hall := (fM (fM (fM e0 e1) e2) e3)
  rw [List.drop_zero, List.take_of_length_le (Nat.le_of_eq hlen)] at hall
  have hbk : Bulk.bk y0 + (Bulk.bk y1 + (Bulk.bk y2 + (Bulk.bk y3 + 1))) ≤ Rows.uptoBulk x.1 := by
    rw [hx]; simp only [Rows.uptoBulk, Rows.uptoBulkAll, List.map_cons, List.map_nil]; omega
  exact ⟨⟨y0, y1, y2, y3⟩, ⟨A1, C1, hall, v1⟩, ⟨f0, f1, f2, f3⟩, hbk⟩
theorem QJ : xA Tryz.prog 174 wO := fun {H enc w base spare held fuel cs x} h => by
  obtain ⟨xs, m, _, hx, hlen, hxl, hg⟩ := DataW.trod_struct Tryz.underlying174 h
  have hc : Tryz.prog.cellsOf 174 = 3 := by kernel_rfl
  have hxs : xs.length = 3 := hxl
  rw [hc] at hlen
  rcases xs with _ | ⟨x0, xs⟩
  · simp at hxs
  rcases xs with _ | ⟨x1, xs⟩
  · simp at hxs
  rcases xs with _ | ⟨x2, xs⟩
  · simp at hxs
  rcases xs with _ | ⟨_, _⟩
  rotate_left
  · simp at hxs
  have hc0 : Tryz.prog.cellsOf 3 = 1 := by kernel_rfl
  obtain ⟨y0, h0, f0, b0⟩ := (iE Tryz.underlying3) (hg 0 _ rfl)
  have e0 : (cs.drop 0).take (Tryz.prog.cellsOf 3) = Flat.enc y0 := h0
  rw [hc0] at e0
  have hc1 : Tryz.prog.cellsOf 118 = 1 := by kernel_rfl
  obtain ⟨y1, h1, f1, b1⟩ := (iI Tryz.underlying118 (by kernel_rfl) Ov) (hg 1 _ rfl)
  obtain ⟨A1, C1, e1, v1⟩ := h1
  replace e1 : (cs.drop 1).take (Tryz.prog.cellsOf 118) = [.slice A1 y1.length C1] := e1
  rw [hc1] at e1
  have hc2 : Tryz.prog.cellsOf 3 = 1 := by kernel_rfl
  obtain ⟨y2, h2, f2, b2⟩ := (iE Tryz.underlying3) (hg 2 _ rfl)
  have e2 : (cs.drop 2).take (Tryz.prog.cellsOf 3) = Flat.enc y2 := h2
  rw [hc2] at e2
  have hall := (fM (fM e0 e1) e2)
  rw [List.drop_zero, List.take_of_length_le (Nat.le_of_eq hlen)] at hall
  have hbk : Bulk.bk y0 + (Bulk.bk y1 + (Bulk.bk y2 + 1)) ≤ Rows.uptoBulk x.1 := by
    rw [hx]; simp only [Rows.uptoBulk, Rows.uptoBulkAll, List.map_cons, List.map_nil]; omega
  exact ⟨⟨y0, y1, y2⟩, ⟨A1, C1, hall, v1⟩, ⟨f0, f1, f2⟩, hbk⟩
theorem TK {a b c d : Nat} (h : a ≤ c) (k : b ≤ d + 1) : a + b ≤ c + d + 1 := by omega
theorem RN : xA Tryz.prog 41 xM := fun {H enc w base spare held fuel cs x} h => by
  obtain ⟨xs, m, _, hx, hlen, hxl, hg⟩ := DataW.trod_struct Tryz.underlying41 h
  have hc : Tryz.prog.cellsOf 41 = 7 := by kernel_rfl
  have hxs : xs.length = 7 := hxl
  rw [hc] at hlen
  rcases xs with _ | ⟨x0, xs⟩
  · simp at hxs
  rcases xs with _ | ⟨x1, xs⟩
  · simp at hxs
  rcases xs with _ | ⟨x2, xs⟩
  · simp at hxs
  rcases xs with _ | ⟨x3, xs⟩
  · simp at hxs
  rcases xs with _ | ⟨x4, xs⟩
  · simp at hxs
  rcases xs with _ | ⟨x5, xs⟩
  · simp at hxs
  rcases xs with _ | ⟨x6, xs⟩
  · simp at hxs
  rcases xs with _ | ⟨_, _⟩
  rotate_left
  · simp at hxs
  have hc0 : Tryz.prog.cellsOf 3 = 1 := by kernel_rfl
  obtain ⟨y0, h0, f0, b0⟩ := (iE Tryz.underlying3) (hg 0 _ rfl)
  have e0 : (cs.drop 0).take (Tryz.prog.cellsOf 3) = Flat.enc y0 := h0
  rw [hc0] at e0
  have hc1 : Tryz.prog.cellsOf 3 = 1 := by kernel_rfl
  obtain ⟨y1, h1, f1, b1⟩ := (iE Tryz.underlying3) (hg 1 _ rfl)
  have e1 : (cs.drop 1).take (Tryz.prog.cellsOf 3) = Flat.enc y1 := h1
  rw [hc1] at e1
  have hc2 : Tryz.prog.cellsOf 3 = 1 := by kernel_rfl
  obtain ⟨y2, h2, f2, b2⟩ := (iE Tryz.underlying3) (hg 2 _ rfl)
  have e2 : (cs.drop 2).take (Tryz.prog.cellsOf 3) = Flat.enc y2 := h2
  rw [hc2] at e2
  have hc3 : Tryz.prog.cellsOf 3 = 1 := by kernel_rfl
  obtain ⟨y3, h3, f3, b3⟩ := (iE Tryz.underlying3) (hg 3 _ rfl)
  have e3 : (cs.drop 3).take (Tryz.prog.cellsOf 3) = Flat.enc y3 := h3
  rw [hc3] at e3
  have hc4 : Tryz.prog.cellsOf 3 = 1 := by kernel_rfl
  obtain ⟨y4, h4, f4, b4⟩ := (iE Tryz.underlying3) (hg 4 _ rfl)
  have e4 : (cs.drop 4).take (Tryz.prog.cellsOf 3) = Flat.enc y4 := h4
  rw [hc4] at e4
  have hc5 : Tryz.prog.cellsOf 38 = 1 := by kernel_rfl
  obtain ⟨y5, h5, f5, b5⟩ := (iI Tryz.underlying38 (by kernel_rfl) Rt) (hg 5 _ rfl)
  obtain ⟨A5, C5, e5, v5⟩ := h5
  replace e5 : (cs.drop 5).take (Tryz.prog.cellsOf 38) = [.slice A5 y5.length C5] := e5
  rw [hc5] at e5
  have hc6 : Tryz.prog.cellsOf 39 = 1 := by kernel_rfl
  obtain ⟨y6, h6, f6, b6⟩ := (iI Tryz.underlying39 (by kernel_rfl) QJ) (hg 6 _ rfl)
  obtain ⟨A6, C6, e6, v6⟩ := h6
  replace e6 : (cs.drop 6).take (Tryz.prog.cellsOf 39) = [.slice A6 y6.length C6] := e6
  rw [hc6] at e6
  have hall := (fM (fM (fM (fM (fM (fM e0 e1) e2) e3) e4) e5) e6)
  rw [List.drop_zero, List.take_of_length_le (Nat.le_of_eq hlen)] at hall
  have hbk : Bulk.bk y0 + (Bulk.bk y1 + (Bulk.bk y2 + (Bulk.bk y3 + (Bulk.bk y4 + (Bulk.bk y5 + (Bulk.bk y6 + 1)))))) ≤ Rows.uptoBulk x.1 := by
    rw [hx]; simp only [Rows.uptoBulk, Rows.uptoBulkAll, List.map_cons, List.map_nil]; exact (TK b0 (TK b1 (TK b2 (TK b3 (TK b4 (TK b5 (TK b6 (Nat.le_refl _))))))))
  exact ⟨⟨y0, y1, y2, y3, y4, y5, y6⟩, ⟨A5, C5, A6, C6, hall, v5, v6⟩, ⟨f0, f1, f2, f3, f4, f5, f6⟩, hbk⟩
theorem TJ {a b c d : Nat} (h : a ≤ c) (k : b ≤ d + 1) : a + b ≤ c + d + 1 := by omega
theorem RU : xA Tryz.prog 43 Order := fun {H enc w base spare held fuel cs x} h => by
  obtain ⟨xs, m, _, hx, hlen, hxl, hg⟩ := DataW.trod_struct Tryz.underlying43 h
  have hc : Tryz.prog.cellsOf 43 = 20 := by kernel_rfl
  have hxs : xs.length = 11 := hxl
  rw [hc] at hlen
  rcases xs with _ | ⟨x0, xs⟩
  · simp at hxs
  rcases xs with _ | ⟨x1, xs⟩
  · simp at hxs
  rcases xs with _ | ⟨x2, xs⟩
  · simp at hxs
  rcases xs with _ | ⟨x3, xs⟩
  · simp at hxs
  rcases xs with _ | ⟨x4, xs⟩
  · simp at hxs
  rcases xs with _ | ⟨x5, xs⟩
  · simp at hxs
  rcases xs with _ | ⟨x6, xs⟩
  · simp at hxs
  rcases xs with _ | ⟨x7, xs⟩
  · simp at hxs
  rcases xs with _ | ⟨x8, xs⟩
  · simp at hxs
  rcases xs with _ | ⟨x9, xs⟩
  · simp at hxs
  rcases xs with _ | ⟨x10, xs⟩
  · simp at hxs
  rcases xs with _ | ⟨_, _⟩
  rotate_left
  · simp at hxs
  have hc0 : Tryz.prog.cellsOf 22 = 1 := by kernel_rfl
  obtain ⟨y0, h0, f0, b0⟩ := (iI Tryz.underlying22 (by kernel_rfl) Q8) (hg 0 _ rfl)
  obtain ⟨A0, C0, e0, v0⟩ := h0
  replace e0 : (cs.drop 0).take (Tryz.prog.cellsOf 22) = [.slice A0 y0.length C0] := e0
  rw [hc0] at e0
  have hc1 : Tryz.prog.cellsOf 26 = 2 := by kernel_rfl
  obtain ⟨y1, h1, f1, b1⟩ := SB (hg 1 _ rfl)
  obtain ⟨A1_0, C1_0, A1_1, C1_1, e1, v1_0, v1_1⟩ := h1
  replace e1 : (cs.drop 1).take (Tryz.prog.cellsOf 26) = [.slice A1_0 y1.Parts.length C1_0, .slice A1_1 y1.Nets.length C1_1] := e1
  rw [hc1] at e1
  have hc2 : Tryz.prog.cellsOf 27 = 1 := by kernel_rfl
  obtain ⟨y2, h2, f2, b2⟩ := (iI Tryz.underlying27 (by kernel_rfl) Rn) (hg 2 _ rfl)
  obtain ⟨A2, C2, e2, v2⟩ := h2
  replace e2 : (cs.drop 3).take (Tryz.prog.cellsOf 27) = [.slice A2 y2.length C2] := e2
  rw [hc2] at e2
  have hc3 : Tryz.prog.cellsOf 28 = 1 := by kernel_rfl
  obtain ⟨y3, h3, f3, b3⟩ := (iI Tryz.underlying28 (by kernel_rfl) SC) (hg 3 _ rfl)
  obtain ⟨A3, C3, e3, v3⟩ := h3
  replace e3 : (cs.drop 4).take (Tryz.prog.cellsOf 28) = [.slice A3 y3.length C3] := e3
  rw [hc3] at e3
  have hc4 : Tryz.prog.cellsOf 29 = 1 := by kernel_rfl
  obtain ⟨y4, h4, f4, b4⟩ := (iI Tryz.underlying29 (by kernel_rfl) Qm) (hg 4 _ rfl)
  obtain ⟨A4, C4, e4, v4⟩ := h4
  replace e4 : (cs.drop 5).take (Tryz.prog.cellsOf 29) = [.slice A4 y4.length C4] := e4
  rw [hc4] at e4
  have hc5 : Tryz.prog.cellsOf 33 = 3 := by kernel_rfl
  obtain ⟨y5, h5, f5, b5⟩ := Qm (hg 5 _ rfl)
  obtain ⟨A5_0, C5_0, A5_1, C5_1, e5, v5_0, v5_1⟩ := h5
  replace e5 : (cs.drop 6).take (Tryz.prog.cellsOf 33) = [.int .i64 y5.Unit, .slice A5_0 y5.Tools.length C5_0, .slice A5_1 y5.Steps.length C5_1] := e5
  rw [hc5] at e5
  have hc6 : Tryz.prog.cellsOf 34 = 1 := by kernel_rfl
  obtain ⟨y6, h6, f6, b6⟩ := (iI Tryz.underlying34 (by kernel_rfl) Sj) (hg 6 _ rfl)
  obtain ⟨A6, C6, e6, v6⟩ := h6
  replace e6 : (cs.drop 9).take (Tryz.prog.cellsOf 34) = [.slice A6 y6.length C6] := e6
  rw [hc6] at e6
  have hc7 : Tryz.prog.cellsOf 35 = 1 := by kernel_rfl
  obtain ⟨y7, h7, f7, b7⟩ := (iI Tryz.underlying35 (by kernel_rfl) QO) (hg 7 _ rfl)
  obtain ⟨A7, C7, e7, v7⟩ := h7
  replace e7 : (cs.drop 10).take (Tryz.prog.cellsOf 35) = [.slice A7 y7.length C7] := e7
  rw [hc7] at e7
  have hc8 : Tryz.prog.cellsOf 36 = 1 := by kernel_rfl
  obtain ⟨y8, h8, f8, b8⟩ := (iI Tryz.underlying36 (by kernel_rfl) QC) (hg 8 _ rfl)
  obtain ⟨A8, C8, e8, v8⟩ := h8
  replace e8 : (cs.drop 11).take (Tryz.prog.cellsOf 36) = [.slice A8 y8.length C8] := e8
  rw [hc8] at e8
  have hc9 : Tryz.prog.cellsOf 37 = 1 := by kernel_rfl
  obtain ⟨y9, h9, f9, b9⟩ := (iI Tryz.underlying37 (by kernel_rfl) QW) (hg 9 _ rfl)
  obtain ⟨A9, C9, e9, v9⟩ := h9
  replace e9 : (cs.drop 12).take (Tryz.prog.cellsOf 37) = [.slice A9 y9.length C9] := e9
  rw [hc9] at e9
  have hc10 : Tryz.prog.cellsOf 41 = 7 := by kernel_rfl
  obtain ⟨y10, h10, f10, b10⟩ := RN (hg 10 _ rfl)
  obtain ⟨A10_0, C10_0, A10_1, C10_1, e10, v10_0, v10_1⟩ := h10
  replace e10 : (cs.drop 13).take (Tryz.prog.cellsOf 41) = [.int .i64 y10.Clearance, .int .i64 y10.Width, .int .i64 y10.Ring, .int .i64 y10.Edge, .int .i64 y10.HoleGap, .slice A10_0 y10.Classes.length C10_0, .slice A10_1 y10.Areas.length C10_1] := e10
  rw [hc10] at e10
  have hall := (fM (fM (fM (fM (fM (fM (fM (fM (fM (fM e0 e1) e2) e3) e4) e5) e6) e7) e8) e9) e10)
  rw [List.drop_zero, List.take_of_length_le (Nat.le_of_eq hlen)] at hall
  have hbk : Bulk.bk y0 + (Bulk.bk y1 + (Bulk.bk y2 + (Bulk.bk y3 + (Bulk.bk y4 + (Bulk.bk y5 + (Bulk.bk y6 + (Bulk.bk y7 + (Bulk.bk y8 + (Bulk.bk y9 + (Bulk.bk y10 + 1)))))))))) ≤ Rows.uptoBulk x.1 := by
    rw [hx]; simp only [Rows.uptoBulk, Rows.uptoBulkAll, List.map_cons, List.map_nil]; exact (TJ b0 (TJ b1 (TJ b2 (TJ b3 (TJ b4 (TJ b5 (TJ b6 (TJ b7 (TJ b8 (TJ b9 (TJ b10 (Nat.le_refl _))))))))))))
  exact ⟨⟨y0, y1, y2, y3, y4, y5, y6, y7, y8, y9, y10⟩, ⟨A0, C0, A1_0, C1_0, A1_1, C1_1, A2, C2, A3, C3, A4, C4, A5_0, C5_0, A5_1, C5_1, A6, C6, A7, C7, A8, C8, A9, C9, A10_0, C10_0, A10_1, C10_1, hall, v0, v1_0, v1_1, v2, v3, v4, v5_0, v5_1, v6, v7, v8, v9, v10_0, v10_1⟩, ⟨f0, f1, f2, f3, f4, f5, f6, f7, f8, f9, f10⟩, hbk⟩
theorem Q5 : xA Tryz.prog 109 Bit := fun {H enc w base spare held fuel cs x} h => by
  obtain ⟨xs, m, _, hx, hlen, hxl, hg⟩ := DataW.trod_struct Tryz.underlying109 h
  have hc : Tryz.prog.cellsOf 109 = 4 := by kernel_rfl
  have hxs : xs.length = 4 := hxl
  rw [hc] at hlen
  rcases xs with _ | ⟨x0, xs⟩
  · simp at hxs
  rcases xs with _ | ⟨x1, xs⟩
  · simp at hxs
  rcases xs with _ | ⟨x2, xs⟩
  · simp at hxs
  rcases xs with _ | ⟨x3, xs⟩
  · simp at hxs
  rcases xs with _ | ⟨_, _⟩
  rotate_left
  · simp at hxs
  have hc0 : Tryz.prog.cellsOf 9 = 1 := by kernel_rfl
  obtain ⟨y0, h0, f0, b0⟩ := (jO Tryz.underlying9) (hg 0 _ rfl)
  have e0 : (cs.drop 0).take (Tryz.prog.cellsOf 9) = Flat.enc y0 := h0
  rw [hc0] at e0
  have hc1 : Tryz.prog.cellsOf 3 = 1 := by kernel_rfl
  obtain ⟨y1, h1, f1, b1⟩ := (iE Tryz.underlying3) (hg 1 _ rfl)
  have e1 : (cs.drop 1).take (Tryz.prog.cellsOf 3) = Flat.enc y1 := h1
  rw [hc1] at e1
  have hc2 : Tryz.prog.cellsOf 3 = 1 := by kernel_rfl
  obtain ⟨y2, h2, f2, b2⟩ := (iE Tryz.underlying3) (hg 2 _ rfl)
  have e2 : (cs.drop 2).take (Tryz.prog.cellsOf 3) = Flat.enc y2 := h2
  rw [hc2] at e2
  have hc3 : Tryz.prog.cellsOf 3 = 1 := by kernel_rfl
  obtain ⟨y3, h3, f3, b3⟩ := (iE Tryz.underlying3) (hg 3 _ rfl)
  have e3 : (cs.drop 3).take (Tryz.prog.cellsOf 3) = Flat.enc y3 := h3
  rw [hc3] at e3
  have hall := (fM (fM (fM e0 e1) e2) e3)
  rw [List.drop_zero, List.take_of_length_le (Nat.le_of_eq hlen)] at hall
  have hbk : Bulk.bk y0 + (Bulk.bk y1 + (Bulk.bk y2 + (Bulk.bk y3 + 1))) ≤ Rows.uptoBulk x.1 := by
    rw [hx]; simp only [Rows.uptoBulk, Rows.uptoBulkAll, List.map_cons, List.map_nil]; omega
  exact ⟨⟨y0, y1, y2, y3⟩, hall, ⟨f0, f1, f2, f3⟩, hbk⟩
theorem UE : ownKnob Tryz.prog.godebug = none := by kernel_rfl
theorem UF (os : Os) : laidMet Tryz.prog Rows.topDrillDepthsRow.laid ((World.laidAll Tryz.prog os Rows.topDrillDepthsRow.laid).forCall (fun _ _ => 0) ⟨#[], #[.agg #[.slice none 0 0, .slice none 0 0, .slice none 0 0, .slice none 0 0, .slice none 0 0, .slice none 0 0, .int .i64 0, .slice none 0 0, .slice none 0 0, .slice none 0 0, .slice none 0 0, .slice none 0 0, .slice none 0 0, .int .i64 0, .int .i64 0, .int .i64 0, .int .i64 0, .int .i64 0, .slice none 0 0, .slice none 0 0], .slice none 0 0, .int .i64 0], []⟩).memory := laidMet_laidAll _ (by kernel_rfl) (by kernel_rfl)
theorem Ux (os : Os) {H : Type} (enc : TypeId × Value → H) : ∃ places, DataW.whole enc Tryz.prog ((World.laidAll Tryz.prog os Rows.topDrillDepthsRow.laid).forCall (fun _ _ => 0) ⟨#[], #[.agg #[.slice none 0 0, .slice none 0 0, .slice none 0 0, .slice none 0 0, .slice none 0 0, .slice none 0 0, .int .i64 0, .slice none 0 0, .slice none 0 0, .slice none 0 0, .slice none 0 0, .slice none 0 0, .slice none 0 0, .int .i64 0, .int .i64 0, .int .i64 0, .int .i64 0, .int .i64 0, .slice none 0 0, .slice none 0 0], .slice none 0 0, .int .i64 0], []⟩).memory Tryz.f4.params.toList Rows.topDrillDepthsSpec.vars false ((#[.agg #[.slice none 0 0, .slice none 0 0, .slice none 0 0, .slice none 0 0, .slice none 0 0, .slice none 0 0, .int .i64 0, .slice none 0 0, .slice none 0 0, .slice none 0 0, .slice none 0 0, .slice none 0 0, .slice none 0 0, .int .i64 0, .int .i64 0, .int .i64 0, .int .i64 0, .int .i64 0, .slice none 0 0, .slice none 0 0], .slice none 0 0, .int .i64 0] : Array Value).toList) 8 = some ([.agg [.nil, .agg [.nil, .nil], .nil, .nil, .nil, .agg [.lit (.int .i64 0), .nil, .nil], .nil, .nil, .nil, .nil, .agg [.lit (.int .i64 0), .lit (.int .i64 0), .lit (.int .i64 0), .lit (.int .i64 0), .lit (.int .i64 0), .nil, .nil]], .nil, .lit (.int .i64 0)], [], places) :=
  ⟨[], by kernel_rfl⟩
set_option maxRecDepth 100000 in
theorem Ut (os : Os) (started : os.Started) (H : Type) (enc : TypeId × Value → H) (F : Stop.Interp) :
    ReturnsInHanded {} Tryz.checked os 4 .any ((OpenSpec.ofChange Rows.topDrillDepthsSpec).preRow enc Tryz.prog Tryz.f4 Rows.topDrillDepthsRow.domain false Rows.topDrillDepthsRow.laid) (((OpenSpec.ofChange Rows.topDrillDepthsSpec).at F).post enc Tryz.prog Tryz.f4 false true false false) := by
  obtain ⟨places, hx⟩ := Ux os enc
  refine returnsInHanded_of_row (C := Tryz.checked) (s := (OpenSpec.ofChange Rows.topDrillDepthsSpec)) UE started (by kernel_rfl) Tryz.func4
    (witness_row_atRef (enc := enc) (C := Tryz.checked) false (World.laidAll Tryz.prog os Rows.topDrillDepthsRow.laid) #[.agg #[.slice none 0 0, .slice none 0 0, .slice none 0 0, .slice none 0 0, .slice none 0 0, .slice none 0 0, .int .i64 0, .slice none 0 0, .slice none 0 0, .slice none 0 0, .slice none 0 0, .slice none 0 0, .slice none 0 0, .int .i64 0, .int .i64 0, .int .i64 0, .int .i64 0, .int .i64 0, .slice none 0 0, .slice none 0 0], .slice none 0 0, .int .i64 0] (World.laidAll_os _ _ _) (by kernel_rfl) (by kernel_rfl) (by kernel_rfl)
      (OpenSpec.preRow_of_cond 8 hx (by kernel_rfl) (fun k hk => by cases hk) (by kernel_rfl) (UF os))) ?_
  intro W base args ds gs before hval0 hW hcnd0 hcond hreach0 hlaid _ _
  clear hcnd0
  have hval : ∀ (j : Nat) t v, Tryz.f4.params[j]? = some t → args[j]? = some v → Value.okWide Tryz.prog W .any base t v := hval0
  have hW' := hW
  obtain ⟨p, q, hA0, hV, hpq, hfz, hnd⟩ := hW
  have hA : DataW.TrodAll enc Tryz.prog W 0 (fun _ => true) true Tryz.f4.params.toList args.toList ds p := hA0
  have hA1 := hA
  rw [Tryz.params4] at hA hval
  obtain ⟨v0, vs0, d0, ds0, p0, q0, hargs, rfl, hp0, h0, r0⟩ := trodAll_cons hA
  obtain ⟨v1, vs1, d1, ds1, p1, q1, rfl, rfl, hp1, h1, r1⟩ := trodAll_cons r0
  obtain ⟨v2, vs2, d2, ds2, p2, q2, rfl, rfl, hp2, h2, r2⟩ := trodAll_cons r1
  obtain ⟨rfl, rfl, hq3⟩ := trodAll_nil r2
  obtain rfl : args = #[v0, v1, v2] := by cases args; simp_all
  obtain ⟨rfl, rfl⟩ := trodVars_none hV
  obtain ⟨cs0, rfl, hsz0⟩ := okWide_struct Tryz.underlying43 (hval 0 43 v0 rfl rfl)
  obtain ⟨fuel0, hf0⟩ := h0
  obtain ⟨y0, ⟨A0_0, C0_0, A0_1, C0_1, A0_2, C0_2, A0_3, C0_3, A0_4, C0_4, A0_5, C0_5, A0_6, C0_6, A0_7, C0_7, A0_8, C0_8, A0_9, C0_9, A0_10, C0_10, A0_11, C0_11, A0_12, C0_12, A0_13, C0_13, e0, hv0_0, hv0_1, hv0_2, hv0_3, hv0_4, hv0_5, hv0_6, hv0_7, hv0_8, hv0_9, hv0_10, hv0_11, hv0_12, hv0_13⟩, f0, b0⟩ := RU hf0
  obtain rfl := (Array.ext' e0 : cs0 = List.toArray _)
  obtain ⟨a1, l1, c1, rfl⟩ := okWide_slice Tryz.underlying44 (hval 1 44 v1 rfl rfl)
  obtain ⟨fuel1, hf1⟩ := h1
  obtain ⟨y1, ⟨A1, C1, e1, hv1⟩, f1, b1⟩ := (iI Tryz.underlying44 (by kernel_rfl) Q5) hf1
  obtain rfl : l1 = y1.length := by have := congrArg (fun l => l[0]?) e1; simp [Value.cells] at this; exact this.2.1
  obtain ⟨rfl, rfl⟩ : a1 = A1 ∧ c1 = C1 := by have := congrArg (fun l => l[0]?) e1; simp [Value.cells] at this; exact this
  obtain ⟨y2, rfl, _, _, w2⟩ := open_int Tryz.underlying3 (hval 2 3 v2 rfl rfl) h2
  have hT := Jl hlaid (by kernel_rfl)
  refine Calls.mono (UM y0 y1 y2 W _ _ (hv0_0.mono (fun b hb => ⟨⟨hb, fun e => e⟩, rfl⟩)) _ _ (hv0_1.mono (fun b hb => ⟨⟨hb, fun e => e⟩, rfl⟩)) _ _ (hv0_2.mono (fun b hb => ⟨⟨hb, fun e => e⟩, rfl⟩)) _ _ (hv0_3.mono (fun b hb => ⟨⟨hb, fun e => e⟩, rfl⟩)) _ _ (hv0_4.mono (fun b hb => ⟨⟨hb, fun e => e⟩, rfl⟩)) _ _ (hv0_5.mono (fun b hb => ⟨⟨hb, fun e => e⟩, rfl⟩)) _ _ (hv0_6.mono (fun b hb => ⟨⟨hb, fun e => e⟩, rfl⟩)) _ _ (hv0_7.mono (fun b hb => ⟨⟨hb, fun e => e⟩, rfl⟩)) _ _ (hv0_8.mono (fun b hb => ⟨⟨hb, fun e => e⟩, rfl⟩)) _ _ (hv0_9.mono (fun b hb => ⟨⟨hb, fun e => e⟩, rfl⟩)) _ _ (hv0_10.mono (fun b hb => ⟨⟨hb, fun e => e⟩, rfl⟩)) _ _ (hv0_11.mono (fun b hb => ⟨⟨hb, fun e => e⟩, rfl⟩)) _ _ (hv0_12.mono (fun b hb => ⟨⟨hb, fun e => e⟩, rfl⟩)) _ _ (hv0_13.mono (fun b hb => ⟨⟨hb, fun e => e⟩, rfl⟩)) _ _ (hv1.mono (fun b hb => ⟨⟨hb, fun e => e⟩, rfl⟩)) hT _ (Uy y0 y1 y2 f0 f1)) ?_
  rintro e W' ⟨v, rfl, r, rfl, hr, hs⟩
  subst hr
  exact ⟨_, rfl, P6 (s := Rows.topDrillDepthsSpec) (tb := 4) (by kernel_rfl) (by rw [Tryz.params4]; intro t ht; simp only [List.mem_cons, List.not_mem_nil, or_false] at ht; rcases ht with rfl | rfl | rfl <;> exact ⟨by kernel_rfl, by decide⟩) hW' hA1 (by rw [hpq, List.append_nil]) rfl rfl rfl rfl rfl (by kernel_rfl) Tryz.underlying4 hs⟩
theorem Uz : Rows.TopDrillDepthsSaid :=
  OpenClaim.holds_of_cond 4 Tryz.f4 rfl rfl rfl rfl rfl rfl rfl ⟨rfl, rfl, rfl, rfl, rfl⟩ rfl rfl rfl rfl rfl (by kernel_rfl) Tryz.func4 (by kernel_rfl)
    (of_decide_eq_true (by kernel_rfl)) (by unfold Func.isWrapper; first | (rw [if_pos (by decide +kernel)]; kernel_rfl) | (rw [if_neg (by decide +kernel)]; exact ⟨rfl, rfl⟩))
    (fun os started H enc _ F => by rw [OpenClaim.pre_eq_preRow]; exact Ut os started H enc F)
theorem Uw (f : FuncId) (fn : Func) (hf : Tryz.pinned.checked.prog.funcNamed "etchhouse/etchhousetop.TopDrillDepths" = some f) (hfn : Tryz.pinned.checked.prog.funcs[f]? = some fn) :
    false = Tryz.pinned.checked.prog.looks [] ∧ ∀ (j : Nat) t, fn.params[j]? = some t → Tryz.pinned.checked.prog.wantsStandIn t = false := by
  obtain rfl : f = 4 := Option.some.inj ((show Tryz.prog.funcNamed "etchhouse/etchhousetop.TopDrillDepths" = some 4 by kernel_rfl).symm.trans hf) |>.symm
  obtain rfl : fn = Tryz.f4 := (Option.some.inj (Tryz.func4.symm.trans hfn)).symm
  refine ⟨by kernel_rfl, fun j t ht => ?_⟩
  rw [Tryz.params4] at ht
  have hm := Array.mem_of_getElem? ht
  simp only [List.mem_toArray, List.mem_cons, List.not_mem_nil, or_false] at hm
  rcases hm with rfl | rfl | rfl
  · exact (show Tryz.prog.wantsStandIn 43 = false by kernel_rfl)
  · exact (show Tryz.prog.wantsStandIn 44 = false by kernel_rfl)
  · exact (show Tryz.prog.wantsStandIn 3 = false by kernel_rfl)
theorem proved_law_Depths : Rows.TopDrillDepthsCardSaid :=
  Claim7.holds_tied_plain_at .later [] _ _ _ _ Uz (fun _ h => by cases h) (by kernel_rfl) (fun _ h => by cases h) topDrillDepths_row_tie rfl ⟨rfl, rfl⟩ (by kernel_rfl) rfl Uw (by kernel_rfl)
end Go.Proofs.YtbegofbmbcghdaaGreatDoor

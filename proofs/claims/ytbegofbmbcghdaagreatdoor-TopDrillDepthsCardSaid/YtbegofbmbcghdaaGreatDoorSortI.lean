/- Chapter texts of ours, as far as the claim needs them. -/
import Derived.Test.YtbegofbmbcghdaaGreatDoorSortP
import Derived.Shelf.SortM.Plain
import Derived.Shelf.SortM.SortNone
namespace Go.Proofs.YtbegofbmbcghdaaGreatDoor
open Go Go.RowKit Go.Sort
set_option linter.unusedVariables false
set_option linter.unusedSectionVars false
set_option linter.unusedSimpArgs false
section
variable {P : Program} {ρ : Go.Shelf.Ren} {w0 w : World} {F0 : Nat → Prop}
theorem MK (xs : List Int) : xs.flatMap Flat.enc = xs.map (Value.int .i64) := by
  induction xs with
  | nil => rfl
  | cons x r ih => rw [List.flatMap_cons, ih]; rfl
theorem Oe : Flat.sz Int = 1 := rfl
theorem NW {e : TypeId} {g : Nat} {xs : List Int} {cur : Array Value} (hh : w.heap[g]? = some (.cells cur e (0, 0))) (ht : cur.toList.take xs.length = xs.map (Value.int .i64)) : Holds (Value.int .i64) w g 0 xs.toArray := by
  intro j hj
  have hj' : j < xs.length := by simpa using hj
  refine ⟨?_, by simp [World.frozen?, hh]⟩
  rw [cell_of_row w g _ cur e (0, 0) hh, Nat.zero_add, getElem!_pos xs.toArray j hj]
  have h1 : (xs.map (Value.int .i64))[j]? = some (.int .i64 xs[j]) := by rw [List.getElem?_map, List.getElem?_eq_getElem hj']; rfl
  rw [← ht, List.getElem?_take, if_pos hj', Array.getElem?_toList] at h1
  simpa using h1
theorem Qc {e : TypeId} {g C n : Nat} {xs ys : List Int} {os : Array Obj} {A : Option Addr} (hA : A = some ⟨g, 0, none⟩) (hs : Sat w0 F0 [hown e A C xs] w) (hne : 0 < xs.length) (hl : ys.length = xs.length) :
    Sat w0 F0 [hown e A C ys] (Sort.grow (putRow (Value.int .i64) (Sort.ahead w n) g 0 ys.toArray) os) := by
  subst hA
  obtain ⟨F, hp, hlt, hupd⟩ := hs.upd 0 rfl
  obtain ⟨g2, cur, hg2, hh, hC, hM, hcs, htake, hF⟩ := yc hp hne
  injection hg2 with hg2
  injection hg2 with hg2
  subst hg2
  have hgl := hlt g ((hF g).2 rfl)
  have hput : (putRow (Value.int .i64) (Sort.ahead w n) g 0 ys.toArray).heap[g]? = some (.cells (putCells (Value.int .i64) 0 ys.toArray cur) e (0, 0)) := by
    unfold putRow mapBlock
    simp [Sort.ahead, Array.getElem?_modify, hh, onCells]
  have hsize : (putRow (Value.int .i64) (Sort.ahead w n) g 0 ys.toArray).heap.size = w.heap.size := by
    rw [size_putRow]; rfl
  refine hupd _ (hown e (some ⟨g, 0, none⟩) C ys) F ⟨rfl, rfl, rfl, ?_, fun b hb hb2 => ?_, ?_⟩ ⟨⟨?_, .inr ⟨g, C, putCells (Value.int .i64) 0 ys.toArray cur, by simp, Nat.zero_le _, ?_, ?_, hM, ?_, ?_⟩⟩, fun b => (hF b).trans (by simp [Value.ownBlock]; exact eq_comm)⟩ (fun b hb => ⟨.inl hb, ?_⟩)
  · unfold Sort.grow; simp [hsize]
  · unfold Sort.grow
    rw [Array.getElem?_append_left (by rw [hsize]; exact hb)]
    unfold putRow mapBlock
    have : g ≠ b := fun e => hb2 ((hF b).2 e.symm)
    simp [Sort.ahead, Array.getElem?_modify, this]
  · intro _; show w.drawn ≤ w.drawn + n; omega
  · rw [fV]
  · unfold Sort.grow
    rw [Array.getElem?_append_left (by rw [hsize]; exact hgl)]
    exact hput
  · simpa [hl] using hC
  · simp [putCells, hcs]
  · rw [MK]
    have hcl : cur.size = C * 1 := hcs
    refine List.ext_getElem? (fun j => ?_)
    rw [List.getElem?_take, Array.getElem?_toList, List.getElem?_map, Oe]
    rcases Nat.lt_or_ge j (ys.length * 1) with hj | hj
    · rw [if_pos hj]
      have hj2 : j < ys.length := by omega
      simp only [putCells, Array.getElem?_mapIdx]
      rw [Array.getElem?_eq_getElem (show j < cur.size by omega), List.getElem?_eq_getElem hj2]
      simp [hj2]
    · rw [if_neg (by omega), List.getElem?_eq_none (by omega)]; rfl
  · unfold Sort.grow; simp [hsize]; have := hlt b hb; omega
def BA (xs : List Int) : List Int := xs.mergeSort (fun x y => decide (x ≤ y))
theorem L8 (L : Go.Proofs.SlLaysM.n5 P ρ) {e : TypeId} {A : Option Addr} {C : Nat} {xs : List Int} (hs : Sat w0 F0 [hown e A C xs] w) (hlen : xs.length < 4611686018427387904) :
    Ret P (ρ.f 5) #[.slice A xs.length C] w fun v w' => v = .tuple #[] ∧ Sat w0 F0 [hown e A C (BA xs)] w' := by
  rcases Nat.eq_zero_or_pos xs.length with h0 | h0
  · have hx : xs = [] := List.eq_nil_of_length_eq_zero h0
    subst hx
    refine Calls.mono (AnyM.slices_Sort_int_none L A C w) ?_
    rintro e' w' ⟨rfl, rfl⟩
    exact ⟨_, rfl, rfl, by unfold BA; rw [List.mergeSort_nil]; exact hs⟩
  · obtain ⟨F, hp, hlt, hupd⟩ := hs.upd 0 rfl
    obtain ⟨g1, cur, rfl, hh, hC, hM, hcs, htake, hF⟩ := yc hp h0
    rw [MK, Oe, Nat.mul_one] at htake
    refine Calls.mono (AnyM.slices_Sort_int L g1 0 C xs w (NW hh htake) (hlt g1 ((hF g1).2 rfl)) hlen) ?_
    rintro e' w' ⟨rfl, n, os, rfl⟩
    exact ⟨_, rfl, rfl, Qc rfl hs h0 (List.length_mergeSort _)⟩
end
end Go.Proofs.YtbegofbmbcghdaaGreatDoor

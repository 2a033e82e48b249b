/- slices.SortFunc at structs, by the kit's shelf, over rows that are owned. Plain lemmas over any program. -/
import Derived.Test.YtcmlcgjjkccaeaaDoorRaw
import Derived.Shelf.SlSortCmp.NoneTotal
namespace Go.Proofs.YtcmlcgjjkccaeaaDoor
open Go Go.RowKit Go.Sort
set_option linter.unusedVariables false

section
variable {α : Type} [Flat α] [Inhabited α]
theorem flatK_enc (xs : List α) : (flatK (α := α) Flat.enc (Flat.sz α) xs.toArray).toList = xs.flatMap Flat.enc := by
  have hpos : 0 < Flat.sz α := Flat.pos
  refine List.ext_getElem? (fun j => ?_)
  rcases Nat.lt_or_ge j (xs.length * Flat.sz α) with hj | hj
  · have hq : j / Flat.sz α < xs.length := Nat.div_lt_of_lt_mul (by rw [Nat.mul_comm]; exact hj)
    have h1 := get_flatK (α := α) Flat.enc (Flat.sz α) xs.toArray j (by simpa using hj)
    have hsz : j < (flatK (α := α) Flat.enc (Flat.sz α) xs.toArray).size := by simpa using hj
    rw [getElem!_pos _ j hsz] at h1
    have h2 := getElem?_flatMap_enc xs _ _ (List.getElem?_eq_getElem hq) (j % Flat.sz α) (Nat.mod_lt _ hpos)
    rw [Nat.div_add_mod' j (Flat.sz α)] at h2
    rw [h2, Array.getElem?_toList, Array.getElem?_eq_getElem hsz, h1]
    have h3 : xs.toArray[j / Flat.sz α]! = xs[j / Flat.sz α] := by
      rw [getElem!_pos xs.toArray _ (by simpa using hq)]; simp
    rw [h3]
    have h4 : j % Flat.sz α < (Flat.enc xs[j / Flat.sz α]).length := by rw [Flat.len]; exact Nat.mod_lt _ hpos
    rw [List.getElem?_eq_getElem h4, getElem!_pos (Flat.enc xs[j / Flat.sz α]) (j % Flat.sz α) h4]
  · rw [List.getElem?_eq_none (by simpa using hj), List.getElem?_eq_none (by rw [length_flatMap_enc]; exact hj)]
theorem keeps_grow {W w' : World} (h : Keeps W (fun _ => False) w') : ∃ q os, w' = Sort.grow (W.drewN q) os := by
  refine ⟨w'.drawn - W.drawn, w'.heap.extract W.heap.size w'.heap.size, ?_⟩
  have hh : w'.heap = W.heap ++ w'.heap.extract W.heap.size w'.heap.size := by
    apply Array.ext_getElem?
    intro i
    rcases Nat.lt_or_ge i W.heap.size with hi | hi
    · rw [h.block i hi (fun e => e), Array.getElem?_append_left hi]
    · rw [Array.getElem?_append_right hi, Array.getElem?_extract]
      have : W.heap.size + (i - W.heap.size) = i := by omega
      rw [this]
      split
      · rfl
      · rename_i hn
        rw [Array.getElem?_eq_none]
        omega
  have h1 := h.drawn; have h2 := h.os; have h3 := h.tape; have h4 := h.output
  cases w' with
  | mk heap tape drawn os output =>
    simp only at hh h1 h2 h3 h4
    subst h2; subst h3; subst h4
    unfold Sort.grow World.drewN
    simp only
    rw [← hh]
    congr 1
    omega
end

section
variable {P : Program} {ρ : Go.Shelf.Ren} {w0 w : World} {F0 : Nat → Prop} {α : Type} [Flat α] [Inhabited α]
theorem own_holdsK {e : TypeId} {g C : Nat} {xs : List α} {cur : Array Value} (hh : w.heap[g]? = some (.cells cur e (0, 0))) (ht : cur.toList.take (xs.length * Flat.sz α) = xs.flatMap Flat.enc) : HoldsK (α := α) Flat.enc (Flat.sz α) w g 0 xs.toArray := by
  intro j hj
  rw [size_flatK] at hj
  have hj' : j < xs.length * Flat.sz α := by simpa using hj
  have hsz : j < (flatK (α := α) Flat.enc (Flat.sz α) xs.toArray).size := by simpa using hj'
  refine ⟨?_, by simp [World.frozen?, hh]⟩
  rw [cell_of_row w g _ cur e (0, 0) hh, Nat.zero_add, getElem!_pos _ j hsz]
  have h1 : (flatK (α := α) Flat.enc (Flat.sz α) xs.toArray).toList[j]? = some (flatK (α := α) Flat.enc (Flat.sz α) xs.toArray)[j] := by
    rw [Array.getElem?_toList, Array.getElem?_eq_getElem hsz]
  rw [flatK_enc, ← ht, List.getElem?_take, if_pos hj', Array.getElem?_toList] at h1
  exact h1
theorem sorted_sat {e : TypeId} {g C n : Nat} {xs : List α} {d : Array α} {os : Array Obj} {A : Option Addr} (hA : A = some ⟨g, 0, none⟩) (hs : Sat w0 F0 [hown e A C xs] w) (hne : 0 < xs.length) (hd : d.size = xs.length) :
    Sat w0 F0 [hown e A C d.toList] (sortWorldK (α := α) Flat.enc (Flat.sz α) w g 0 n d os) := by
  subst hA
  obtain ⟨F, hp, hlt, hupd⟩ := hs.upd 0 rfl
  obtain ⟨g2, cur, hg2, hh, hC, hM, hcs, htake, hF⟩ := own_form hp hne
  injection hg2 with hg2
  injection hg2 with hg2
  subst hg2
  have hgl := hlt g ((hF g).2 rfl)
  have hput : (putRowK (α := α) Flat.enc (Flat.sz α) (Sort.ahead w n) g 0 d).heap[g]? = some (.cells (putCells id 0 (flatK (α := α) Flat.enc (Flat.sz α) d) cur) e (0, 0)) := by
    unfold putRowK putRow mapBlock
    simp [Sort.ahead, Array.getElem?_modify, hh, onCells]
  have hsize : (putRowK (α := α) Flat.enc (Flat.sz α) (Sort.ahead w n) g 0 d).heap.size = w.heap.size := by
    unfold putRowK; rw [size_putRow]; rfl
  refine hupd _ (hown e (some ⟨g, 0, none⟩) C d.toList) F ⟨rfl, rfl, rfl, ?_, fun b hb hb2 => ?_, ?_⟩ ⟨⟨?_, .inr ⟨g, C, putCells id 0 (flatK (α := α) Flat.enc (Flat.sz α) d) cur, by simp, Nat.zero_le _, ?_, ?_, hM, ?_, ?_⟩⟩, fun b => (hF b).trans (by simp [Value.ownBlock]; exact eq_comm)⟩ (fun b hb => ⟨.inl hb, ?_⟩)
  · unfold sortWorldK Sort.grow; simp [hsize]
  · unfold sortWorldK Sort.grow
    rw [Array.getElem?_append_left (by rw [hsize]; exact hb)]
    unfold putRowK putRow mapBlock
    have : g ≠ b := fun e => hb2 ((hF b).2 e.symm)
    simp [Sort.ahead, Array.getElem?_modify, this]
  · show w.drawn ≤ w.drawn + n; omega
  · rw [length_flatMap_enc]
  · unfold sortWorldK Sort.grow
    rw [Array.getElem?_append_left (by rw [hsize]; exact hgl)]
    exact hput
  · simpa [hd] using hC
  · simp [putCells, hcs]
  · have hfl := flatK_enc d.toList
    have e1 : d.toList.toArray = d := by simp
    rw [e1] at hfl
    rw [← hfl]
    refine List.ext_getElem? (fun j => ?_)
    have hcl : cur.size = C * Flat.sz α := hcs
    have hle : d.size * Flat.sz α ≤ C * Flat.sz α := Nat.mul_le_mul_right _ (by rw [hd]; exact hC)
    rw [List.getElem?_take, Array.getElem?_toList, Array.getElem?_toList]
    have hlen : d.toList.length = d.size := by simp
    rw [hlen]
    rcases Nat.lt_or_ge j (d.size * Flat.sz α) with hj | hj
    · rw [if_pos hj]
      have hsz : j < (flatK (α := α) Flat.enc (Flat.sz α) d).size := by simpa using hj
      simp only [putCells, Array.getElem?_mapIdx]
      rw [Array.getElem?_eq_getElem (show j < cur.size by omega), Array.getElem?_eq_getElem hsz]
      simp [hj, hsz]
    · rw [if_neg (by omega), Array.getElem?_eq_none (by simpa using hj)]
  · unfold sortWorldK Sort.grow; simp [hsize]; have := hlt b hb; omega
/-- slices.SortFunc, its comparison by a contract of its own -/
theorem sortFunc_run (L : Go.Proofs.SlLaysF0.n6 P ρ) {e : TypeId} (aE : ∀ w, (isAgg (ρ.t 24)).run P w = .ok true w) (zE : ∀ w, (Go.sizeOf (ρ.t 24)).run P w = .ok (Flat.sz α) w) (cf : α → α → Int) (hO : Sort.SWO (ltOf cf)) (g : Nat)
    (eg : ∀ args w, (callFunc g args).run P w = .ok (.enter g args) w) (hc : ∀ x y w, Ret P g #[.agg (Flat.enc x).toArray, .agg (Flat.enc y).toArray] w fun v w' => v = .int .i64 (cf x y) ∧ Sat w none_ [] w')
    {A : Option Addr} {C : Nat} {xs : List α} (hs : Sat w0 F0 [hown e A C xs] w) (hlen : xs.length < 4611686018427387904) :
    Ret P (ρ.f 6) #[.slice A xs.length C, .func (.func g) #[] #[]] w fun v w' => v = .tuple #[] ∧ ∃ ys : List α, ys.Perm xs ∧ ys.Pairwise (fun a b => ¬ cf b a < 0) ∧ Sat w0 F0 [hown e A C ys] w' := by
  rcases Nat.eq_zero_or_pos xs.length with h0 | h0
  · have hx : xs = [] := List.eq_nil_of_length_eq_zero h0
    subst hx
    refine Calls.mono (AnyF.slices_SortFunc_none { L with } A C (.func (.func g) #[] #[]) w) ?_
    rintro e' w' ⟨rfl, rfl⟩
    exact ⟨_, rfl, rfl, [], List.Perm.refl _, List.Pairwise.nil, hs⟩
  · obtain ⟨F, hp, hlt, hupd⟩ := hs.upd 0 rfl
    obtain ⟨g1, cur, rfl, hh, hC, hM, hcs, htake, hF⟩ := own_form hp h0
    have hcmp : CmpLays P g #[] (Flat.enc (α := α)) (Flat.sz α) cf g1 0 xs.toArray.size w := fun m os dk hdk x y => by
      have h1 := hc x y (sortWorldK (α := α) Flat.enc (Flat.sz α) w g1 0 m dk os)
      refine Calls.mono h1 ?_
      rintro e' w' ⟨v, rfl, rfl, hk⟩
      exact ⟨rfl, keeps_grow hk.keeps⟩
    refine Calls.mono (AnyQ.slices_SortFunc L (Flat.sz α) aE zE Flat.enc Flat.len Flat.one cf hO g #[] g1 0 C xs.toArray w eg hcmp (own_holdsK (C := C) hh htake) (hlt g1 ((hF g1).2 rfl)) (by simpa using hlen)) ?_
    rintro e' w' ⟨rfl, d, n, os, hperm, hsort, rfl⟩
    have hd : d.size = xs.length := by have := hperm.1; simpa using this
    refine ⟨_, rfl, rfl, d.toList, ?_, ?_, sorted_sat rfl hs h0 hd⟩
    · have := hperm.2.2
      simp only [List.size_toArray, ← hd] at this
      have e1 : (d.extract 0 d.size).toList = d.toList := by simp
      have e2 : (xs.toArray.extract 0 d.size).toList = xs := by rw [hd]; simp
      rw [e1, e2] at this
      exact this
    · rw [List.pairwise_iff_getElem]
      intro i j hi hj hij
      have hi' : i < d.size := by simpa using hi
      have hj' : j < d.size := by simpa using hj
      have := hsort i j (Nat.zero_le _) hij (by simpa [hd] using hj')
      rw [getElem!_pos d i hi', getElem!_pos d j hj'] at this
      unfold ltOf at this
      simpa using this
end
end Go.Proofs.YtcmlcgjjkccaeaaDoor

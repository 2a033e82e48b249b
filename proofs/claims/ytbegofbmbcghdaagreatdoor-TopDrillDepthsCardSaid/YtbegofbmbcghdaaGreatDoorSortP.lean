/- Chapter texts of ours, as far as the claim needs them. -/
import Derived.Test.YtbegofbmbcghdaaGreatDoorStrs
import Derived.Laws.Append
import Derived.Laws.AppendOwn
import Derived.Lib.Overlaps
import Derived.Shelf.SlSortCmp.NoneTotal
namespace Go.Proofs.YtbegofbmbcghdaaGreatDoor
open Go Go.RowKit
set_option linter.unusedVariables false
set_option linter.unusedSectionVars false
set_option linter.unusedSimpArgs false
def hraw (e : TypeId) (g : Nat) (cs : List Value) : gJ :=
  ⟨fun w F => w.heap[g]? = some (.cells cs.toArray e (0, 0)) ∧ ∀ b, F b ↔ b = g, fun ⟨h, hF⟩ hb => ⟨(hb g ((hF g).2 rfl)).trans h, hF⟩⟩
section
variable {w w0 : World} {M : Nat → Prop} {σ : List gJ}
theorem Sat.SL (hs : Sat w0 M σ w) (q : Nat) {α : Type} [Flat α] {e : TypeId} {A : Option Addr} {C : Nat} {xs : List α} (hq : σ[q]? = some (hown e A C xs)) (hne : 0 < xs.length) :
    ∃ g cs, A = some ⟨g, 0, none⟩ ∧ xs.length ≤ C ∧ C ≤ maxLen ∧ cs.length = C * Flat.sz α ∧ cs.take (xs.length * Flat.sz α) = xs.flatMap Flat.enc ∧ Sat w0 M (σ.set q (hraw e g cs)) w := by
  obtain ⟨F, hp, hlt, hupd⟩ := hs.upd q hq
  obtain ⟨g, cur, rfl, hh, hC, hM, hcs, htake, hF⟩ := yc hp hne
  exact ⟨g, cur.toList, rfl, hC, hM, by simpa using hcs, htake, hupd w _ F (Keeps.refl _ _) ⟨by simpa using hh, hF⟩ (fun b hb => ⟨.inl hb, hlt b hb⟩)⟩
theorem Sat.ofRaw (hs : Sat w0 M σ w) (q : Nat) {α : Type} [Flat α] {e : TypeId} {g : Nat} {cs : List Value} (hq : σ[q]? = some (hraw e g cs)) {C : Nat} (ys : List α) (hl : cs.length = C * Flat.sz α) (hC : ys.length ≤ C) (hM : C ≤ maxLen)
    (ht : cs.take (ys.length * Flat.sz α) = ys.flatMap Flat.enc) : Sat w0 M (σ.set q (hown e (some ⟨g, 0, none⟩) C ys)) w := by
  obtain ⟨F, ⟨hh, hF⟩, hlt, hupd⟩ := hs.upd q hq
  refine hupd w _ F (Keeps.refl _ _) ⟨⟨fV _, .inr ⟨g, C, cs.toArray, by simp, Nat.zero_le _, hh, hC, hM, by simpa using hl, by simpa using ht⟩⟩, fun b => (hF b).trans (by simp [Value.ownBlock]; exact eq_comm)⟩ (fun b hb => ⟨.inl hb, hlt b hb⟩)
theorem QM {α : Type} [Flat α] (ys : List α) : ∀ v ∈ ys.flatMap Flat.enc, v.oneCell' = true := by
  intro v hv
  obtain ⟨y, _, hy⟩ := List.mem_flatMap.1 hv
  exact Flat.one y v hy
end
section
variable {P : Program} {n : Nat} {fs : Fr} {a : Act} {o : Oper} {v : Value} {ops : Array Oper} {rest : List Oper} {Q : Exit → Act → World → Prop} {w w0 : World} {M : Nat → Prop} {σ : List gJ}
theorem V.cap {t : TypeId} {x : Operand} {A : Option Addr} {l C : Nat} {e : TypeId} (ho : o.op = .call ⟨.builtin .cap, #[x], #[t]⟩) (hx : ev fs x = some (.slice A l C))
    (ht : ∀ w, (underlying t).run P w = .ok (.slice e) w) : ∀ a w, fB n fs a → Sat w0 M σ w → kC P o a w (.int .i64 C) := fun a w hf _ => by
  have e1 := hf.gX hx
  unfold kC execOp
  simp only [ho, resolve, invoke, builtin, Sem.run_bind, Sem.run_pure, Result.andThen_ok, List.map_toArray, List.map_cons, List.map_nil, e1, Builtin.cap_]
  simp [Sem.run_bind, ht, goInt]
end
section
variable {α : Type} [Flat α] {s v : List α} {cs : List Value} {k C : Nat}
theorem Po (s : List α) (k : Nat) : (s.flatMap Flat.enc).take (k * Flat.sz α) = (s.take k).flatMap Flat.enc := by
  rcases Nat.le_total k s.length with h | h
  · have hx : s.flatMap Flat.enc = (s.take k).flatMap Flat.enc ++ (s.drop k).flatMap Flat.enc := by rw [← List.flatMap_append, List.take_append_drop]
    have hl : ((s.take k).flatMap Flat.enc).length = k * Flat.sz α := by rw [fV, List.length_take, Nat.min_eq_left h]
    rw [hx, ← hl, List.take_left' rfl]
  · rw [List.take_of_length_le h, List.take_of_length_le]
    rw [fV]; exact Nat.mul_le_mul_right _ h
theorem Qn (s : List α) (k : Nat) : (s.flatMap Flat.enc).drop (k * Flat.sz α) = (s.drop k).flatMap Flat.enc := by
  rcases Nat.le_total k s.length with h | h
  · have hx : s.flatMap Flat.enc = (s.take k).flatMap Flat.enc ++ (s.drop k).flatMap Flat.enc := by rw [← List.flatMap_append, List.take_append_drop]
    have hl : ((s.take k).flatMap Flat.enc).length = k * Flat.sz α := by rw [fV, List.length_take, Nat.min_eq_left h]
    rw [hx, ← hl, List.drop_left' rfl]
  · rw [List.drop_of_length_le h, List.drop_of_length_le]
    · rfl
    · rw [fV]; exact Nat.mul_le_mul_right _ h
end
open Go Go.RowKit Go.Sort
section
variable {α : Type} [Flat α] [Inhabited α]
theorem JV (xs : List α) : (flatK (α := α) Flat.enc (Flat.sz α) xs.toArray).toList = xs.flatMap Flat.enc := by
  have hpos : 0 < Flat.sz α := Flat.pos
  refine List.ext_getElem? (fun j => ?_)
  rcases Nat.lt_or_ge j (xs.length * Flat.sz α) with hj | hj
  · have hq : j / Flat.sz α < xs.length := Nat.div_lt_of_lt_mul (by rw [Nat.mul_comm]; exact hj)
    have h1 := get_flatK (α := α) Flat.enc (Flat.sz α) xs.toArray j (by simpa using hj)
    have hsz : j < (flatK (α := α) Flat.enc (Flat.sz α) xs.toArray).size := by simpa using hj
    rw [getElem!_pos _ j hsz] at h1
    have h2 := jD xs _ _ (List.getElem?_eq_getElem hq) (j % Flat.sz α) (Nat.mod_lt _ hpos)
    rw [Nat.div_add_mod' j (Flat.sz α)] at h2
    rw [h2, Array.getElem?_toList, Array.getElem?_eq_getElem hsz, h1]
    have h3 : xs.toArray[j / Flat.sz α]! = xs[j / Flat.sz α] := by
      rw [getElem!_pos xs.toArray _ (by simpa using hq)]; simp
    rw [h3]
    have h4 : j % Flat.sz α < (Flat.enc xs[j / Flat.sz α]).length := by rw [Flat.len]; exact Nat.mod_lt _ hpos
    rw [List.getElem?_eq_getElem h4, getElem!_pos (Flat.enc xs[j / Flat.sz α]) (j % Flat.sz α) h4]
  · rw [List.getElem?_eq_none (by simpa using hj), List.getElem?_eq_none (by rw [fV]; exact hj)]
theorem Nw {W w' : World} (h : Keeps W (fun _ => False) w') : ∃ q os, w' = Sort.grow (W.drewN q) os := by
  refine ⟨w'.drawn - W.drawn, w'.heap.extract W.heap.size w'.heap.size, ?_⟩
  have hh : w'.heap = W.heap ++ w'.heap.extract W.heap.size w'.heap.size := by
    apply Array.ext_getElem?
    intro i
    rcases Nat.lt_or_ge i W.heap.size with hi | hi
    · rw [h.block i hi (fun e => e), Array.getElem?_append_left hi]
    · rw [Array.getElem?_append_right hi, Array.getElem?_extract]
      have : W.heap.size + (i - W.heap.size) = i := by omega
      rw [this]
      split
      · rfl
      · rename_i hn
        rw [Array.getElem?_eq_none]
        omega
  have h1 := h.drawn rfl; have h2 := h.os; have h3 := h.tape; have h4 := h.output
  cases w' with
  | mk heap tape drawn os output =>
    simp only at hh h1 h2 h3 h4
    subst h2; subst h3; subst h4
    unfold Sort.grow World.drewN
    simp only
    rw [← hh]
    congr 1
    omega
end
section
variable {P : Program} {ρ : Go.Shelf.Ren} {w0 w : World} {F0 : Nat → Prop} {α : Type} [Flat α] [Inhabited α]
theorem Ob {e : TypeId} {g C : Nat} {xs : List α} {cur : Array Value} (hh : w.heap[g]? = some (.cells cur e (0, 0))) (ht : cur.toList.take (xs.length * Flat.sz α) = xs.flatMap Flat.enc) : HoldsK (α := α) Flat.enc (Flat.sz α) w g 0 xs.toArray := by
  intro j hj
  rw [size_flatK] at hj
  have hj' : j < xs.length * Flat.sz α := by simpa using hj
  have hsz : j < (flatK (α := α) Flat.enc (Flat.sz α) xs.toArray).size := by simpa using hj'
  refine ⟨?_, by simp [World.frozen?, hh]⟩
  rw [cell_of_row w g _ cur e (0, 0) hh, Nat.zero_add, getElem!_pos _ j hsz]
  have h1 : (flatK (α := α) Flat.enc (Flat.sz α) xs.toArray).toList[j]? = some (flatK (α := α) Flat.enc (Flat.sz α) xs.toArray)[j] := by
    rw [Array.getElem?_toList, Array.getElem?_eq_getElem hsz]
  rw [JV, ← ht, List.getElem?_take, if_pos hj', Array.getElem?_toList] at h1
  exact h1
theorem Nu {e : TypeId} {g C n : Nat} {xs : List α} {d : Array α} {os : Array Obj} {A : Option Addr} (hA : A = some ⟨g, 0, none⟩) (hs : Sat w0 F0 [hown e A C xs] w) (hne : 0 < xs.length) (hd : d.size = xs.length) :
    Sat w0 F0 [hown e A C d.toList] (sortWorldK (α := α) Flat.enc (Flat.sz α) w g 0 n d os) := by
  subst hA
  obtain ⟨F, hp, hlt, hupd⟩ := hs.upd 0 rfl
  obtain ⟨g2, cur, hg2, hh, hC, hM, hcs, htake, hF⟩ := yc hp hne
  injection hg2 with hg2
  injection hg2 with hg2
  subst hg2
  have hgl := hlt g ((hF g).2 rfl)
  have hput : (putRowK (α := α) Flat.enc (Flat.sz α) (Sort.ahead w n) g 0 d).heap[g]? = some (.cells (putCells id 0 (flatK (α := α) Flat.enc (Flat.sz α) d) cur) e (0, 0)) := by
    unfold putRowK putRow mapBlock
    simp [Sort.ahead, Array.getElem?_modify, hh, onCells]
  have hsize : (putRowK (α := α) Flat.enc (Flat.sz α) (Sort.ahead w n) g 0 d).heap.size = w.heap.size := by
    unfold putRowK; rw [size_putRow]; rfl
  refine hupd _ (hown e (some ⟨g, 0, none⟩) C d.toList) F ⟨rfl, rfl, rfl, ?_, fun b hb hb2 => ?_, ?_⟩ ⟨⟨?_, .inr ⟨g, C, putCells id 0 (flatK (α := α) Flat.enc (Flat.sz α) d) cur, by simp, Nat.zero_le _, ?_, ?_, hM, ?_, ?_⟩⟩, fun b => (hF b).trans (by simp [Value.ownBlock]; exact eq_comm)⟩ (fun b hb => ⟨.inl hb, ?_⟩)
  · unfold sortWorldK Sort.grow; simp [hsize]
  · unfold sortWorldK Sort.grow
    rw [Array.getElem?_append_left (by rw [hsize]; exact hb)]
    unfold putRowK putRow mapBlock
    have : g ≠ b := fun e => hb2 ((hF b).2 e.symm)
    simp [Sort.ahead, Array.getElem?_modify, this]
  · intro _; show w.drawn ≤ w.drawn + n; omega
  · rw [fV]
  · unfold sortWorldK Sort.grow
    rw [Array.getElem?_append_left (by rw [hsize]; exact hgl)]
    exact hput
  · simpa [hd] using hC
  · simp [putCells, hcs]
  · have hfl := JV d.toList
    have e1 : d.toList.toArray = d := by simp
    rw [e1] at hfl
    rw [← hfl]
    refine List.ext_getElem? (fun j => ?_)
    have hcl : cur.size = C * Flat.sz α := hcs
    have hle : d.size * Flat.sz α ≤ C * Flat.sz α := Nat.mul_le_mul_right _ (by rw [hd]; exact hC)
    rw [List.getElem?_take, Array.getElem?_toList, Array.getElem?_toList]
    have hlen : d.toList.length = d.size := by simp
    rw [hlen]
    rcases Nat.lt_or_ge j (d.size * Flat.sz α) with hj | hj
    · rw [if_pos hj]
      have hsz : j < (flatK (α := α) Flat.enc (Flat.sz α) d).size := by simpa using hj
      simp only [putCells, Array.getElem?_mapIdx]
      rw [Array.getElem?_eq_getElem (show j < cur.size by omega), Array.getElem?_eq_getElem hsz]
      simp [hj, hsz]
    · rw [if_neg (by omega), Array.getElem?_eq_none (by simpa using hj)]
  · unfold sortWorldK Sort.grow; simp [hsize]; have := hlt b hb; omega
theorem E5 (L : Go.Proofs.SlLaysF0.n6 P ρ) {e : TypeId} (aE : ∀ w, (isAgg (ρ.t 24)).run P w = .ok true w) (zE : ∀ w, (Go.sizeOf (ρ.t 24)).run P w = .ok (Flat.sz α) w) (cf : α → α → Int) (hO : Sort.SWO (ltOf cf)) (g : Nat)
    (eg : ∀ args w, (callFunc g args).run P w = .ok (.enter g args) w) (hc : ∀ x y w, Ret P g #[.agg (Flat.enc x).toArray, .agg (Flat.enc y).toArray] w fun v w' => v = .int .i64 (cf x y) ∧ Sat w none_ [] w')
    {A : Option Addr} {C : Nat} {xs : List α} (hs : Sat w0 F0 [hown e A C xs] w) (hlen : xs.length < 4611686018427387904) :
    Ret P (ρ.f 6) #[.slice A xs.length C, .func (.func g) #[] #[]] w fun v w' => v = .tuple #[] ∧ ∃ ys : List α, ys.Perm xs ∧ ys.Pairwise (fun a b => ¬ cf b a < 0) ∧ Sat w0 F0 [hown e A C ys] w' := by
  rcases Nat.eq_zero_or_pos xs.length with h0 | h0
  · have hx : xs = [] := List.eq_nil_of_length_eq_zero h0
    subst hx
    refine Calls.mono (AnyF.slices_SortFunc_none { L with } A C (.func (.func g) #[] #[]) w) ?_
    rintro e' w' ⟨rfl, rfl⟩
    exact ⟨_, rfl, rfl, [], List.Perm.refl _, List.Pairwise.nil, hs⟩
  · obtain ⟨F, hp, hlt, hupd⟩ := hs.upd 0 rfl
    obtain ⟨g1, cur, rfl, hh, hC, hM, hcs, htake, hF⟩ := yc hp h0
    have hcmp : CmpLays P g #[] (Flat.enc (α := α)) (Flat.sz α) cf g1 0 xs.toArray.size w := fun m os dk hdk x y => by
      have h1 := hc x y (sortWorldK (α := α) Flat.enc (Flat.sz α) w g1 0 m dk os)
      refine Calls.mono h1 ?_
      rintro e' w' ⟨v, rfl, rfl, hk⟩
      exact ⟨rfl, Nw hk.keeps⟩
    refine Calls.mono (AnyQ.slices_SortFunc L (Flat.sz α) aE zE Flat.enc Flat.len Flat.one cf hO g #[] g1 0 C xs.toArray w eg hcmp (Ob (C := C) hh htake) (hlt g1 ((hF g1).2 rfl)) (by simpa using hlen)) ?_
    rintro e' w' ⟨rfl, d, n, os, hperm, hsort, rfl⟩
    have hd : d.size = xs.length := by have := hperm.1; simpa using this
    refine ⟨_, rfl, rfl, d.toList, ?_, ?_, Nu rfl hs h0 hd⟩
    · have := hperm.2.2
      simp only [List.size_toArray, ← hd] at this
      have e1 : (d.extract 0 d.size).toList = d.toList := by simp
      have e2 : (xs.toArray.extract 0 d.size).toList = xs := by rw [hd]; simp
      rw [e1, e2] at this
      exact this
    · rw [List.pairwise_iff_getElem]
      intro i j hi hj hij
      have hi' : i < d.size := by simpa using hi
      have hj' : j < d.size := by simpa using hj
      have := hsort i j (Nat.zero_le _) hij (by simpa [hd] using hj')
      rw [getElem!_pos d i hi', getElem!_pos d j hj'] at this
      unfold ltOf at this
      simpa using this
end
section
variable {α : Type} [Flat α]
abbrev Ou (p : α → Prop) : Flat {x : α // p x} := ⟨Flat.sz α, Flat.pos, fun x => Flat.enc x.1, fun x => Flat.len x.1, fun x => Flat.one x.1⟩
theorem LZ (p : α → Prop) (e : TypeId) (A : Option Addr) (C : Nat) (xs : List {x : α // p x}) : @hown _ (Ou p) e A C xs = hown e A C (xs.map (·.1)) := by
  have h1 : (xs.map (·.1)).length = xs.length := List.length_map _
  have h2 : (xs.map (·.1)).flatMap Flat.enc = xs.flatMap (fun x => Flat.enc x.1) := by rw [List.flatMap_map]
  unfold hown
  simp only [h1, h2]
  rfl
variable {P : Program} {ρ : Go.Shelf.Ren} {w0 w : World} {F0 : Nat → Prop}
theorem zV (L : Go.Proofs.SlLaysF0.n6 P ρ) {e : TypeId} (aE : ∀ w, (isAgg (ρ.t 24)).run P w = .ok true w) (zE : ∀ w, (Go.sizeOf (ρ.t 24)).run P w = .ok (Flat.sz α) w) (p : α → Prop) (cf G : α → α → Int) (hO : Sort.SWO (ltOf (fun x y : {x : α // p x} => cf x.1 y.1))) (g : Nat)
    (eg : ∀ args w, (callFunc g args).run P w = .ok (.enter g args) w) (hc : ∀ x y w, Ret P g #[.agg (Flat.enc x).toArray, .agg (Flat.enc y).toArray] w fun v w' => v = .int .i64 (G x y) ∧ Sat w none_ [] w') (hG : ∀ x y, p x → p y → G x y = cf x y)
    {A : Option Addr} {C : Nat} {xs : List α} (hs : Sat w0 F0 [hown e A C xs] w) (hlen : xs.length < 4611686018427387904) (hp : ∀ x ∈ xs, p x) :
    Ret P (ρ.f 6) #[.slice A xs.length C, .func (.func g) #[] #[]] w fun v w' => v = .tuple #[] ∧ ∃ ys : List α, ys.Perm xs ∧ ys.Pairwise (fun a b => ¬ cf b a < 0) ∧ Sat w0 F0 [hown e A C ys] w' := by
  rcases xs with _ | ⟨x, r⟩
  · refine Calls.mono (AnyF.slices_SortFunc_none { L with } A C (.func (.func g) #[] #[]) w) ?_
    rintro e' w' ⟨rfl, rfl⟩
    exact ⟨_, rfl, rfl, [], List.Perm.refl _, List.Pairwise.nil, hs⟩
  · obtain ⟨xs, hxs⟩ : ∃ l : List {x : α // p x}, l.map (·.1) = x :: r := ⟨(x :: r).attachWith p hp, by simp⟩
    letI := Ou p
    letI : Inhabited {x : α // p x} := ⟨⟨x, hp x (List.mem_cons_self ..)⟩⟩
    rw [← hxs, ← LZ] at hs
    have hl : (x :: r).length = xs.length := by rw [← hxs, List.length_map]
    rw [hl] at hlen ⊢
    refine Calls.mono (E5 (α := {x : α // p x}) L aE zE (fun x y => cf x.1 y.1) hO g eg (fun x y w => ?_) hs hlen) ?_
    · refine Calls.mono (hc x.1 y.1 w) ?_
      rintro e' w' ⟨v, rfl, hv, h⟩
      exact ⟨v, rfl, by rw [hv, hG _ _ x.2 y.2], h⟩
    · rintro e' w' ⟨v, rfl, rfl, ys, h1, h2, h3⟩
      rw [LZ] at h3
      refine ⟨_, rfl, rfl, ys.map (·.1), ?_, ?_, h3⟩
      · rw [← hxs]; exact h1.map _
      · rw [List.pairwise_map]; exact h2
end
end Go.Proofs.YtbegofbmbcghdaaGreatDoor

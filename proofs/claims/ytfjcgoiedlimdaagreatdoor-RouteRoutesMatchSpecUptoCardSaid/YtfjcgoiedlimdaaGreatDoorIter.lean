/- Chapter texts of ours, as far as the claim needs them. -/
import Derived.Test.YtfjcgoiedlimdaaGreatDoorStrs
import Derived.Maps.RangeRun
namespace Go.Proofs.YtfjcgoiedlimdaaGreatDoor
open Go Go.RowKit
set_option linter.unusedVariables false
set_option linter.unusedSectionVars false
set_option linter.unusedSimpArgs false
def hrange {K V : Type} (g r : Nat) (ek : K → Value) (ev : V → Value) (m left : List (K × V)) : gW :=
  ⟨fun w F => (∃ es clock seen, w.heap[g]? = some (.map es clock) ∧ ER ek ev m es clock ∧ w.heap[r]? = some (.mapIter (some g) clock seen clock) ∧
      (leftOf es seen).toList.map (fun e => (e.key, e.val)) = left.map (fun p => (ek p.1, ev p.2))) ∧ g ≠ r ∧ ∀ b, F b ↔ b = g ∨ b = r,
    fun ⟨⟨es, c, seen, h1, h2, h3, h4⟩, hne, hF⟩ hb => ⟨⟨es, c, seen, (hb g ((hF g).2 (.inl rfl))).trans h1, h2, (hb r ((hF r).2 (.inr rfl))).trans h3, h4⟩, hne, hF⟩⟩
def hcur {K V : Type} (g r : Nat) (ek : K → Value) (ev : V → Value) (m : List (K × V)) (x : K × V) (left : List (K × V)) : gW :=
  ⟨fun w F => (∃ (es : Array MapEntry) (clock : Nat) (seen : Array Nat) (e : MapEntry), w.heap[g]? = some (.map es clock) ∧ ER ek ev m es clock ∧ w.heap[r]? = some (.mapIter (some g) clock (seen.push e.born) clock) ∧ e ∈ es.toList ∧ e.key = ek x.1 ∧ e.val = ev x.2 ∧
      (leftOf es (seen.push e.born)).toList.map (fun e => (e.key, e.val)) = left.map (fun p => (ek p.1, ev p.2))) ∧ g ≠ r ∧ ∀ b, F b ↔ b = g ∨ b = r,
    fun ⟨⟨es, c, seen, e, h1, h2, h3, h4⟩, hne, hF⟩ hb => ⟨⟨es, c, seen, e, (hb g ((hF g).2 (.inl rfl))).trans h1, h2, (hb r ((hF r).2 (.inr rfl))).trans h3, h4⟩, hne, hF⟩⟩
theorem KT {K V : Type} {ek : K → Value} {ev : V → Value} {m : List (K × V)} {es : Array MapEntry} {c : Nat} (h : ER ek ev m es c) : (es.toList.map (·.born)).Nodup := by
  refine List.pairwise_iff_getElem.2 (fun i j hi hj hij he => ?_)
  rw [List.length_map] at hi hj
  rw [List.getElem_map, List.getElem_map] at he
  have := h.once i j es.toList[i] es.toList[j] (by rw [← Array.getElem?_toList]; exact List.getElem?_eq_getElem hi) (by rw [← Array.getElem?_toList]; exact List.getElem?_eq_getElem hj) he
  omega
theorem zI : ∀ (L : List MapEntry) (i : Nat) (e : MapEntry), (L.map (·.born)).Nodup → L[i]? = some e → L.filter (fun y => !(y.born == e.born)) = L.eraseIdx i
  | [], _, _, _, h => by simp at h
  | y :: r, 0, e, hn, h => by
    simp at h
    subst h
    rw [List.map_cons, List.nodup_cons] at hn
    rw [List.filter_cons_of_neg (by simp), List.eraseIdx_cons_zero]
    refine List.filter_eq_self.2 (fun z hz => ?_)
    have : ¬ z.born = y.born := fun e => hn.1 (List.mem_map.2 ⟨z, hz, e⟩)
    simp [this]
  | y :: r, i + 1, e, hn, h => by
    rw [List.map_cons, List.nodup_cons] at hn
    have hr : r[i]? = some e := by simpa using h
    have : ¬ y.born = e.born := fun h' => hn.1 (List.mem_map.2 ⟨e, List.mem_of_getElem? hr, h'.symm⟩)
    rw [List.filter_cons_of_pos (by simp [this]), List.eraseIdx_cons_succ, zI r i e hn.2 hr]
section
variable {P : Program} {n : Nat} {fs : Fr} {a : Act} {o : Oper} {v : Value} {ops : Array Oper} {rest : List Oper} {Q : Exit → Act → World → Prop} {w w0 : World} {M : Nat → Prop} {σ : List gW}
theorem S.range (q : Nat) (hf : eU n fs a) (hs : Sat w0 M σ w) {d : Nat} (hg : gv ops fs o = some true) (hd : o.dst = some d) (hdn : Nat.blt d n = true) {K V : Type} {g : Nat} {ek : K → Value} {ev' : V → Value} {m : List (K × V)} (hq : σ[q]? = some (hmap g ek ev' m)) {t kt et : TypeId} {x : Operand}
    (ho : o.op = .range t x) (hx : ev fs x = some (.map (some g))) (ht : ∀ w, (underlying t).run P w = .ok (.map kt et) w)
    (k : ∀ r a w', eU n ((d, .pointer (some ⟨r, 0, none⟩)) :: fs) a → Sat w0 M (σ.set q (hrange g r ek ev' m m)) w' → wpList P ops Q rest a w') : wpList P ops Q (o :: rest) a w := by
  refine S.act (R := fun v w' => ∃ r, v = .pointer (some ⟨r, 0, none⟩) ∧ Sat w0 M (σ.set q (hrange g r ek ev' m m)) w') hf hg hd hdn (fun a hf => ?_) (fun v a w' hf ⟨r, hv, hs⟩ => k r a w' (hv ▸ hf) hs)
  obtain ⟨F, ⟨⟨es, c, hh, hm⟩, hF⟩, hlt, hupd⟩ := hs.upd q hq
  have hgl := (Array.getElem?_eq_some_iff.1 hh).1
  have e1 := hf.gZ hx
  refine ⟨_, w.alloc (.mapIter (some g) c #[] c), ?_, w.heap.size, rfl, hupd _ (hrange g w.heap.size ek ev' m m) (fun b => b = g ∨ b = w.heap.size) (Keeps.alloc w _ _) ⟨⟨es, c, #[], ?_, hm, jH w _, ?_⟩, by omega, fun b => Iff.rfl⟩ (fun b hb => ?_)⟩
  · unfold execOp
    simp only [ho, e1, Sem.run_bind]
    have : (Instr.range t (.map (some g))).run P w = .ok (.pointer (some ⟨w.heap.size, 0, none⟩)) (w.alloc (.mapIter (some g) c #[] c)) := by
      unfold Instr.range
      simp only [Sem.run_bind, ht, Result.andThen_ok, Lc hh, Sem.run_pure]
      rfl
    rw [this]; rfl
  · show (w.heap.push _)[g]? = _
    rw [Array.getElem?_push_lt hgl, ← hh, Array.getElem?_eq_getElem hgl]
  · have : leftOf es #[] = es := by unfold leftOf; exact Array.filter_eq_self.2 (fun x hx => by simp)
    rw [this]; exact hm.pairs
  · rcases hb with hb | hb
    · have := hlt b ((hF b).2 hb)
      exact ⟨.inl ((hF b).2 hb), by simp; omega⟩
    · subst hb; exact ⟨.inr (Nat.le_refl _), by simp⟩
theorem S.next (q : Nat) (hf : eU n fs a) (hs : Sat w0 M σ w) {d : Nat} (hg : gv ops fs o = some true) (hd : o.dst = some d) (hdn : Nat.blt d n = true) {K V : Type} {g r : Nat} {ek : K → Value} {ev' : V → Value} {m left : List (K × V)} (hq : σ[q]? = some (hrange g r ek ev' m left)) {x : Operand}
    (ho : o.op = .next x false) (hx : ev fs x = some (.pointer (some ⟨r, 0, none⟩)))
    (k0 : left = [] → ∀ a, eU n ((d, .tuple #[.bool false]) :: fs) a → wpList P ops Q rest a w)
    (k1 : ∀ y rest', left.Perm (y :: rest') → ∀ a w', eU n ((d, .tuple #[.bool true, ek y.1, ev' y.2]) :: fs) a → Sat w0 M (σ.set q (hcur g r ek ev' m y rest')) w' → wpList P ops Q rest a w') : wpList P ops Q (o :: rest) a w := by
  refine S.act (R := fun v w' => (left = [] ∧ v = .tuple #[.bool false] ∧ w' = w) ∨ ∃ y rest', left.Perm (y :: rest') ∧ v = .tuple #[.bool true, ek y.1, ev' y.2] ∧ Sat w0 M (σ.set q (hcur g r ek ev' m y rest')) w') hf hg hd hdn (fun a hf => ?_) (fun v a w' hf h => ?_)
  rotate_left
  · rcases h with ⟨h1, h2, h3⟩ | ⟨y, rest', h1, h2, h3⟩
    · subst h2 h3; exact k0 h1 a hf
    · subst h2; exact k1 y rest' h1 a w' hf h3
  have e1 := hf.gZ hx
  obtain ⟨F, ⟨⟨es, c, seen, h1, h2, h3, h4⟩, hne, hF⟩, _⟩ := hs.upd q hq
  have hop : ∀ {v : Value} {w' : World}, (Instr.next (.pointer (some ⟨r, 0, none⟩)) false o.type).run P w = .ok v w' → (execOp a.eval o).run P w = .ok (.value v) w' := fun {v w'} h => by
    unfold execOp
    simp only [ho, e1, Sem.run_bind, h, Result.andThen_ok]
    rfl
  rcases run_next_at (P := P) w o.type r g c c seen es c h3 h1 h2.born (Nat.le_refl _) with ⟨hz, hrun⟩ | ⟨e, he, w1, hw1, hrun⟩
  · refine ⟨_, _, hop hrun, .inl ⟨?_, rfl, rfl⟩⟩
    have := congrArg List.length h4
    rw [List.length_map, List.length_map, Array.length_toList, hz] at this
    exact List.length_eq_zero_iff.1 this.symm
  · obtain ⟨i, hi⟩ := List.getElem?_of_mem he
    have hil := congrArg (fun l => l[i]?) h4
    simp only [List.getElem?_map, hi, Option.map_some] at hil
    obtain ⟨y, hy, hye⟩ : ∃ y, left[i]? = some y ∧ (e.key, e.val) = (ek y.1, ev' y.2) := by
      cases hl : left[i]? with
      | none => rw [hl] at hil; cases hil
      | some y => rw [hl] at hil; exact ⟨y, rfl, by simpa using hil⟩
    have hk : e.key = ek y.1 := congrArg Prod.fst hye
    have hv : e.val = ev' y.2 := congrArg Prod.snd hye
    have hes : e ∈ es.toList := by unfold leftOf at he; simp at he; exact (by simpa using he.1)
    have hs1 : Sat w0 M σ w1 := by rcases hw1 with rfl | rfl; exact hs; exact hs.drew
    have hh1 : w1.heap = w.heap := by rcases hw1 with rfl | rfl <;> rfl
    obtain ⟨F1, ⟨_, _, hF1⟩, hlt1, hupd⟩ := hs1.upd q hq
    have hrl : r < w1.heap.size := by rw [hh1]; exact (Array.getElem?_eq_some_iff.1 h3).1
    have hnd := KT h2
    have hleft : (leftOf es (seen.push e.born)).toList = (leftOf es seen).toList.eraseIdx i := by
      have hn2 : ((leftOf es seen).toList.map (·.born)).Nodup := by
        unfold leftOf
        rw [Array.toList_filter]
        exact List.Nodup.sublist (List.Sublist.map _ List.filter_sublist) hnd
      rw [← zI _ i e hn2 hi]
      unfold leftOf
      rw [Array.toList_filter, Array.toList_filter, List.filter_filter]
      congr 1
      funext z
      by_cases h : z.born = e.born <;> simp [h]
    have hyl := dO hy
    have hyv : left[i] = y := by rw [List.getElem?_eq_getElem hyl] at hy; injection hy
    refine ⟨_, _, hop hrun, .inr ⟨y, left.eraseIdx i, ?_, by rw [hk, hv], ?_⟩⟩
    · exact uK i left y hy
    · refine hupd (ChangeMaps.setBlock w1 r (.mapIter (some g) c (seen.push e.born) c)) (hcur g r ek ev' m y (left.eraseIdx i)) F1 (Keeps.setObj w1 r _ ((hF1 r).2 (.inr rfl))) ⟨⟨es, c, seen, e, ?_, h2, ?_, hes, hk, hv, ?_⟩, hne, hF1⟩ (fun b hb => ⟨.inl hb, by have := hlt1 b hb; simpa [ChangeMaps.setBlock] using this⟩)
      · show (w1.heap.setIfInBounds r _)[g]? = _
        rw [Array.getElem?_setIfInBounds_ne (by omega), hh1]; exact h1
      · show (w1.heap.setIfInBounds r _)[r]? = _
        rw [Array.getElem?_setIfInBounds_self_of_lt hrl]
      · rw [hleft, ChangeMaps.map_eraseIdx, h4, ← ChangeMaps.map_eraseIdx]
end
end Go.Proofs.YtfjcgoiedlimdaaGreatDoor

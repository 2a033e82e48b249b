/- Chapter texts of ours, as far as the claim needs them. -/
import Derived.Test.YtbegofbmbcghdaaGreatDoorAct
import Derived.Maps.AppendAt
namespace Go.Proofs.YtbegofbmbcghdaaGreatDoor
open Go Go.RowKit
set_option linter.unusedVariables false
set_option linter.unusedSectionVars false
set_option linter.unusedSimpArgs false
theorem View.nil {α : Type} [Rep α] (w : World) (F : Nat → Prop) : View w F none 0 ([] : List α) := ⟨Nat.le_refl _, Nat.zero_le _, fun i x h => by simp at h⟩
section
variable {w w0 : World} {M : Nat → Prop} {σ : List gJ} {p : gJ}
theorem Sat.qi (h : Sat w0 M σ w) {α : Type} [Flat α] (e : TypeId) : Sat w0 M (hown e none 0 ([] : List α) :: σ) w :=
  h.add (Keeps.refl _ _) (F' := fun _ => False) ⟨World.ownsRow_nil w 0 e _, fun b => by simp [Value.ownBlock]⟩ (fun _ e => e.elim)
theorem ji.take {Z : Nat → Prop} : ∀ (k : Nat) {L : List gJ} {U : Nat → Prop}, ji w Z L U → ji w Z (L.take k) U
  | 0, _, _, _ => by simp [ji]
  | _ + 1, [], _, _ => trivial
  | k + 1, p :: L, U, ⟨F, h1, h2, h3⟩ => ⟨F, h1, h2, ji.take k h3⟩
theorem Sat.take (h : Sat w0 M σ w) (k : Nat) : Sat w0 M (σ.take k) w := ⟨h.keeps, h.sat.take k⟩
theorem fB.tell {n : Nat} {fs : Fr} {a : Act} (h : fB n fs a) (t : Nat) {v : Value} (hv : a.tmps.getD t undef = v) : fB n ((t, v) :: fs) a := h.cons hv
end
def room (n bytes : Nat) : Prop := n ≤ 9223372036854775807 ∧ n * bytes ≤ 140737488355328
structure uY (P : Program) (e : TypeId) (sz bytes : Nat) (z : List Value) : Prop where
  info : ∃ i u, P.info? e = some i ∧ i.zero = some u ∧ i.size = sz ∧ i.bytes = bytes ∧ u.cells = z.toArray
theorem Ret.quiet {P : Program} {f : FuncId} {args : Array Value} {w w0 : World} {M : Nat → Prop} {σ : List gJ} {v : Value} (hs : Sat w0 M σ w) (h : Ret P f args w fun v' w' => v' = v ∧ Sat w none_ [] w') :
    Calls P f args w fun e w' => e = .returned v ∧ Sat w0 M σ w' :=
  Calls.mono h fun e w' ⟨v', he, hv, hw⟩ => ⟨hv ▸ he, hs.call hw⟩
section
variable {P : Program} {n : Nat} {fs : Fr} {a : Act} {o : Oper} {v : Value} {ops : Array Oper} {rest : List Oper} {Q : Exit → Act → World → Prop} {w w0 : World} {M : Nat → Prop} {σ : List gJ}
theorem S.Om (hf : fB n fs a) {d : Nat} (hg : gv ops fs o = some true) (hd : o.dst = some d) (hdn : Nat.blt d n = true) {f : FuncId} {args : Array Value}
    (hrun : ∀ a w, fB n fs a → (execOp a.eval o).run P w = .ok (.enter f args) w) (hc : Ret P f args w fun v' w' => v' = v ∧ Sat w none_ [] w')
    (k : ∀ a w', fB n ((d, v) :: fs) a → Sat w none_ [] w' → wpList P ops Q rest a w') : wpList P ops Q (o :: rest) a w :=
  S.call hf hg hd hdn hrun hc fun v' a w' hf' ⟨hv, hs⟩ => k a w' (hv ▸ hf') hs
theorem V.quo {t ty : TypeId} {x y : Operand} {m k : Int} (ho : o.op = .binOp .quo t x y ty) (hx : ev fs x = some (.int .i64 m)) (hy : ev fs y = some (.int .i64 k)) (hk : k ≠ 0) :
    ∀ a w, fB n fs a → Sat w0 M σ w → kC P o a w (.int .i64 (w64 (m.tdiv k))) := fun a w hf _ => by
  have e1 := hf.gX hx
  have e2 := hf.gX hy
  unfold kC execOp
  simp only [ho, e1, e2, eqGuard, binOp, Op.intDiv, hk, if_false]
  rfl
theorem V.rem {t ty : TypeId} {x y : Operand} {m k : Int} (ho : o.op = .binOp .rem t x y ty) (hx : ev fs x = some (.int .i64 m)) (hy : ev fs y = some (.int .i64 k)) (hk : k ≠ 0) :
    ∀ a w, fB n fs a → Sat w0 M σ w → kC P o a w (.int .i64 (m.tmod k)) := fun a w hf _ => by
  have e1 := hf.gX hx
  have e2 := hf.gX hy
  unfold kC execOp
  simp only [ho, e1, e2, eqGuard, binOp, Op.intDiv, hk, if_false]
  rfl
theorem S.make (hf : fB n fs a) (hs : Sat w0 M σ w) {d : Nat} (hg : gv ops fs o = some true) (hd : o.dst = some d) (hdn : Nat.blt d n = true) {α : Type} [Flat α] (zero : α) {t : TypeId} {x y : Operand} {e : TypeId} {z : Int} {N bytes : Nat}
    (ho : o.op = .makeSlice t x y) (hx : ev fs x = some (.int .i64 z)) (hy : ev fs y = some (.int .i64 z)) (ht : P.underlying t = some (.slice e)) (hi : uY P e (Flat.sz α) bytes (Flat.enc zero))
    (hmk : 0 ≤ z ∧ z * bytes ≤ 281474976710656) (hN : z.toNat = N) (h63 : z ≤ 9223372036854775807)
    (k : ∀ A a w', fB n ((d, .slice A (List.replicate N zero).length N) :: fs) a → Sat w0 M (hown e A N (List.replicate N zero) :: σ) w' → wpList P ops Q rest a w') : wpList P ops Q (o :: rest) a w := by
  obtain ⟨i, u, h1, h2, h3, h4, h5⟩ := hi.info
  have hr := run_make (P := P) w t e i u ht h1 h2 .i64 .i64 z z hmk.1 (Int.le_refl _) (by rw [h4, Int.mul_comm]; exact hmk.2) h63
  refine S.act (R := fun v w' => ∃ A, v = .slice A (List.replicate N zero).length N ∧ Sat w0 M (hown e A N (List.replicate N zero) :: σ) w') hf hg hd hdn (fun a hf => ?_) (fun v a w' hf ⟨A, hv, hs⟩ => k A a w' (hv ▸ hf) hs)
  have e1 := hf.gX hx
  have e2 := hf.gX hy
  refine ⟨_, _, ?_, some ⟨w.heap.size, 0, none⟩, rfl, hs.add (Keeps.alloc w (.cells (madeCells u.cells (z.toNat * i.size)) e) _) (F' := fun b => b = w.heap.size) ⟨⟨?_, ?_⟩, fun b => by simp [Value.ownBlock]; exact eq_comm⟩ (fun b hb => by subst hb; simp)⟩
  · unfold execOp
    simp only [ho, e1, e2, Sem.run_bind, hr, Result.andThen_ok, hN, List.length_replicate]
    rfl
  · rw [fV]
  · refine .inr ⟨w.heap.size, N, madeCells u.cells (z.toNat * i.size), rfl, Nat.zero_le _, lU w _, by simp, by unfold maxLen; omega, by rw [size_madeCells, hN, h3], ?_⟩
    have hz : (Flat.enc zero).length = Flat.sz α := Flat.len zero
    have hpos : 0 < Flat.sz α := Flat.pos
    apply List.ext_getElem?
    intro j
    rw [List.length_replicate, List.getElem?_take]
    by_cases hj : j < N * Flat.sz α
    · rw [if_pos hj]
      have hq : j / Flat.sz α < N := Nat.div_lt_of_lt_mul (by rw [Nat.mul_comm]; exact hj)
      have := jD (List.replicate N zero) (j / Flat.sz α) zero (by rw [List.getElem?_replicate, if_pos hq]) (j % Flat.sz α) (Nat.mod_lt _ hpos)
      rw [Nat.div_add_mod' j (Flat.sz α)] at this
      rw [this]
      have hm : j % Flat.sz α < (Flat.enc zero).length := by rw [hz]; exact Nat.mod_lt _ hpos
      simp only [madeCells, h5, Array.getElem?_toList, Array.getElem?_map, List.size_toArray, hz, hN, h3]
      rw [Array.getElem?_range, if_pos hj]
      simp [List.getElem?_eq_getElem hm, hz]
    · rw [if_neg hj, List.getElem?_eq_none (by rw [fV, List.length_replicate]; omega)]
theorem S.rG (hf : fB n fs a) (hs : Sat w0 M σ w) {d : Nat} (hg : gv ops fs o = some true) (hd : o.dst = some d) (hdn : Nat.blt d n = true) {α : Type} [Flat α] (y : α) {t : TypeId} {x : Operand} {e : TypeId} {z : Value}
    (ho : o.op = .buildSlice t 1 #[(0, x)]) (hx : ev fs x = some v) (hv : v.cells = (Flat.enc y).toArray) (ht : ∀ w, (underlying t).run P w = .ok (.slice e) w) (hsz : ∀ w, (Go.sizeOf e).run P w = .ok (Flat.sz α) w)
    (hz : ∀ w, (zeroValue e).run P w = .ok z w) (hzl : z.cells.size = Flat.sz α) (hsm : Flat.sz α ≤ 16777216)
    (k : ∀ A a w', fB n ((d, .slice A [y].length 1) :: fs) a → Sat w0 M (hown e A 1 [y] :: σ) w' → wpList P ops Q rest a w') : wpList P ops Q (o :: rest) a w := by
  refine S.act (R := fun v w' => ∃ A, v = .slice A [y].length 1 ∧ Sat w0 M (hown e A 1 [y] :: σ) w') hf hg hd hdn (fun a hf => ?_) (fun v a w' hf ⟨A, hv, hs⟩ => k A a w' (hv ▸ hf) hs)
  have e1 := hf.gX hx
  have hpos : 0 < Flat.sz α := Flat.pos
  have hl : (Flat.enc y).length = Flat.sz α := Flat.len y
  have hfold : ∀ (l : List Value) (k : Nat) (cs : Array Value), k + l.length ≤ cs.size → (l.zipIdx k).foldl (fun cs (c, j) => cs.setIfInBounds (0 + j) c) cs = (cs.toList.take k ++ l ++ cs.toList.drop (k + l.length)).toArray := by
    intro l
    induction l with
    | nil => intro k cs _; simp
    | cons c l ih =>
      intro k cs hk
      simp only [List.length_cons] at hk
      rw [List.zipIdx_cons, List.foldl_cons, ih (k + 1) _ (by simp; omega)]
      congr 1
      apply List.ext_getElem?
      intro j
      simp only [Nat.zero_add, Array.toList_setIfInBounds, List.getElem?_append, List.getElem?_take, List.getElem?_drop, List.length_append, List.length_take, List.length_drop, List.length_set, Array.length_toList, List.length_cons, List.getElem?_set, List.getElem?_cons]
      grind
  have hfill : Instr.fill (fun i => some (i * Flat.sz α, Flat.sz α)) ((Array.range (1 * Flat.sz α)).map (z.cells[· % z.cells.size]!)) [(0, v)] = some (Flat.enc y).toArray := by
    have hs1 : v.cells.size = Flat.sz α := by rw [hv]; simpa using hl
    unfold Instr.fill Instr.fill
    simp only [Nat.zero_mul]
    rw [if_neg (by simp [hs1])]
    have he : v.cells.zipIdx.toList = (Flat.enc y).zipIdx := by rw [hv]; simp
    rw [← Array.foldl_toList, he, hfold (Flat.enc y) 0 _ (by simp [hl])]
    simp [hl]
  refine ⟨_, _, ?_, some ⟨w.heap.size, 0, none⟩, rfl, hs.add (Keeps.alloc w (.cells (Flat.enc y).toArray e) _) (F' := fun b => b = w.heap.size) ⟨⟨?_, ?_⟩, fun b => by simp [Value.ownBlock]; exact eq_comm⟩ (fun b hb => by subst hb; simp)⟩
  · have hn : ¬ 1 * Flat.sz α > 2 ^ 24 := by omega
    have hn0 : ¬ 1 * Flat.sz α = 0 := by omega
    have hmap : (#[(0, x)].map fun (p : Nat × Operand) => (p.1, a.eval p.2)) = #[(0, v)] := by simp [e1]
    have hop : execOp a.eval o = (do pure (Next.value (← Instr.buildSlice t 1 #[(0, v)])) : Sem Next) := by
      unfold execOp
      simp only [ho]
      rw [← hmap]
    have hrun : (Instr.buildSlice t 1 #[(0, v)]).run P w = .ok (.slice (some ⟨w.heap.size, 0, none⟩) 1 1) (w.alloc (.cells (Flat.enc y).toArray e)) := by
      unfold Instr.buildSlice
      simp only [Sem.run_bind, ht, Result.andThen_ok, hsz, hn, if_false, hn0, hz, Sem.run_pure]
      simp only [hfill]
      rfl
    rw [hop, Sem.run_bind, hrun]
    rfl
  · simp [hl]
  · refine .inr ⟨w.heap.size, 1, (Flat.enc y).toArray, rfl, Nat.zero_le _, lU w _, Nat.le_refl _, by unfold maxLen; omega, by simp [hl], ?_⟩
    simp [hl]
    exact List.take_of_length_le (by omega)
theorem Bh {x y : Operand} {t : TypeId} {u v' : Value} {r : Value} {w' : World} (ho : o.op = .call ⟨.builtin .append, #[x, y], #[t, t]⟩) (hx : a.eval x = u) (hy : a.eval y = v') (hr : (Builtin.append_ #[t, t] o.type #[u, v']).run P w = .ok r w') :
    (execOp a.eval o).run P w = .ok (.value r) w' := by
  unfold execOp
  simp only [ho, resolve, invoke, builtin, Sem.run_bind, Sem.run_pure, Result.andThen_ok, List.map_toArray, List.map_cons, List.map_nil, hx, hy, hr]
theorem Oq {α : Type} [Flat α] {e : TypeId} {xs : List α} {w : World} {v' : Value} (h : w.ownsRow 0 e (Flat.sz α) v' xs.length (xs.flatMap Flat.enc)) : ∃ A C, v' = .slice A xs.length C := by
  rcases h.2 with ⟨hv, h0⟩ | ⟨g, cap, cur, hv, _⟩
  · exact ⟨none, 0, by rw [hv, h0]⟩
  · exact ⟨_, _, hv⟩
theorem S.jq (q : Nat) (hf : fB n fs a) (hs : Sat w0 M σ w) {d : Nat} (hg : gv ops fs o = some true) (hd : o.dst = some d) (hdn : Nat.blt d n = true) {α : Type} [Flat α] {e : TypeId} {A : Option Addr} {C : Nat} {xs ys : List α} (hq : σ[q]? = some (hown e A C xs)) {x y : Operand} {t : TypeId} {A2 : Option Addr} {C2 bytes : Nat} {zc : List Value}
    (ho : o.op = .call ⟨.builtin .append, #[x, y], #[t, t]⟩) (hx : ev fs x = some (.slice A xs.length C)) (hy : ev fs y = some (.slice A2 ys.length C2)) (ht : P.underlying t = some (.slice e)) (hi : uY P e (Flat.sz α) bytes zc) (hzc : zc.length = Flat.sz α) (hroom : room (xs ++ ys).length bytes)
    (hA2 : A2.isSome = true) (hv : View w (old w none_) A2 C2 ys)
    (k : ∀ A' C' a w', fB n ((d, .slice A' (xs ++ ys).length C') :: fs) a → Sat w0 M (σ.set q (hown e A' C' (xs ++ ys))) w' → wpList P ops Q rest a w') : wpList P ops Q (o :: rest) a w := by
  obtain ⟨i, u, h1, h2, h3, h4, h5⟩ := hi.info
  obtain ⟨F, ⟨hown', hF⟩, hlt, hupd⟩ := hs.upd q hq
  obtain ⟨ad, rfl⟩ := Option.isSome_iff_exists.1 hA2
  have hnews : ∀ j v, (ys.flatMap Flat.enc)[j]? = some v → w.cell? (ad.add j) = some v := by
    intro j v hj
    have hpos : 0 < Flat.sz α := Flat.pos
    have hjl : j < ys.length * Flat.sz α := by rw [← fV]; exact (List.getElem?_eq_some_iff.1 hj).1
    have hq : j / Flat.sz α < ys.length := Nat.div_lt_of_lt_mul (by rw [Nat.mul_comm]; exact hjl)
    obtain ⟨ad', had, _, hc⟩ := hv.flat (List.getElem?_eq_getElem hq)
    injection had with had
    subst had
    have hj' := jD ys _ _ (List.getElem?_eq_getElem hq) (j % Flat.sz α) (Nat.mod_lt _ hpos)
    rw [Nat.div_add_mod' j (Flat.sz α)] at hj'
    have := hc (j % Flat.sz α) v (by rw [← hj', hj])
    rwa [Nat.div_add_mod' j (Flat.sz α)] at this
  rw [List.length_append] at hroom
  have h1' : ∀ v ∈ ys.flatMap Flat.enc, v.oneCell' = true := by
    intro v hv
    obtain ⟨y, _, hy⟩ := List.mem_flatMap.1 hv
    exact Flat.one y v hy
  obtain ⟨v', w', hr, hown2, hgr, _, hat⟩ := run_append_own_at (P := P) w 0 t o.type e i u (Flat.sz α) bytes ht h1 h2 h3 h4 (by rw [h5]; simpa using hzc) Flat.pos (.slice A xs.length C) xs.length (xs.flatMap Flat.enc) hown' ad ys.length C2 (ys.flatMap Flat.enc) (by rw [fV]) hnews h1'
    (by unfold maxLen; exact hroom.1) hroom.2 (Nat.zero_le _)
  rw [← List.flatMap_append, ← List.length_append] at hown2
  obtain ⟨A', C', rfl⟩ := Oq hown2
  refine S.act (R := fun v w' => ∃ A' C', v = .slice A' (xs ++ ys).length C' ∧ Sat w0 M (σ.set q (hown e A' C' (xs ++ ys))) w') hf hg hd hdn (fun a hf => ?_) (fun v a w' hf ⟨A, C, hv, hs⟩ => k A C a w' (hv ▸ hf) hs)
  refine ⟨_, w', Bh ho (hf.gX hx) (hf.gX hy) hr, A', C', rfl, hupd w' (hown e A' C' (xs ++ ys)) (fun b => (Value.slice A' (xs ++ ys).length C').ownBlock = some b) (Keeps.of_grownBy hgr (fun b hb => (hF b).2 hb) (lN _ _ _ _ hr)) ⟨hown2, fun b => Iff.rfl⟩ (fun b hb => ⟨?_, (hown2.lt b hb).2⟩)⟩
  rcases hat with hat | hat
  · exact .inl ((hF b).2 (hat ▸ hb))
  · rw [hat] at hb
    injection hb with hb
    exact .inr (Nat.le_of_eq hb)
end
section
variable {α : Type} {xs : List α} {k : Nat} {x : α} {l : List α}
theorem fH (h : k + ([] : List α).length = xs.length) : decide ((k : Int) < (xs.length : Int)) = false := by simp at h ⊢; omega
theorem fZ (h : k + (x :: l).length = xs.length) : k < xs.length := by simp at h; omega
theorem TM (h : k + (x :: l).length = xs.length) : decide ((k : Int) < (xs.length : Int)) = true := by have := fZ h; simpa using this
theorem fO (h : xs.drop k = x :: l) : xs[k]? = some x := by
  have := congrArg (fun l => l[0]?) h
  simpa using this
theorem fE (h : xs.drop k = x :: l) : xs.drop (k + 1) = l := by
  have := congrArg (List.drop 1) h
  simpa using this
theorem fF (h : k + (x :: l).length = xs.length) : k + 1 + l.length = xs.length := by simp at h; omega
end
end Go.Proofs.YtbegofbmbcghdaaGreatDoor

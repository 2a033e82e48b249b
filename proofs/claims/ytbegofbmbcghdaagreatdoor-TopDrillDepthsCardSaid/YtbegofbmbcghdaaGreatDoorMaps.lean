/- Chapter texts of ours, as far as the claim needs them. -/
import Derived.Test.YtbegofbmbcghdaaGreatDoorWord
namespace Go.Proofs.YtbegofbmbcghdaaGreatDoor
open Go Go.RowKit
set_option linter.unusedVariables false
set_option linter.unusedSectionVars false
set_option linter.unusedSimpArgs false
def xG {K V : Type} [DecidableEq K] (m : List (K × V)) (k : K) : Option V := (m.find? (fun p => decide (p.1 = k))).map (·.2)
def zB {K V : Type} [DecidableEq K] : List (K × V) → K → V → List (K × V)
  | [], k, v => [(k, v)]
  | p :: r, k, v => if p.1 = k then (k, v) :: r else p :: zB r k v
theorem Nc {K V : Type} [DecidableEq K] (k k' : K) (v : V) : ∀ m : List (K × V), xG (zB m k v) k' = if k = k' then some v else xG m k'
  | [] => by unfold xG zB; simp only [List.find?_cons, List.find?_nil]; by_cases h : k = k' <;> simp [h]
  | p :: r => by
    have ih := Nc k k' v r
    unfold xG at *
    unfold zB
    by_cases h1 : p.1 = k
    · subst h1
      rw [if_pos rfl]
      by_cases h2 : p.1 = k'
      · simp [h2]
      · simp [List.find?_cons, h2]
    · rw [if_neg h1]
      by_cases h2 : p.1 = k'
      · have h3 : k ≠ k' := fun e => h1 (e ▸ h2)
        simp [List.find?_cons, h2, h3]
      · simp only [List.find?_cons, h2, decide_false]; exact ih
theorem QU (s : Str) : (ba s == ba s) = true := by rw [beq_toListBytes]; simp
structure I4 (P : Program) (kt : TypeId) {K : Type} [DecidableEq K] (ek : K → Value) : Prop where
  check : ∀ em x w, (Instr.checkKey em 10000 kt (ek x)).run P w = .ok () w
  find : ∀ x (es : List MapEntry) (ks : List K) w, es.map (·.key) = ks.map ek → (Instr.findKey kt (ek x) es).run P w = .ok ((ks.findIdx? (fun y => decide (y = x))).bind (fun i => (es[i]?).map (fun e => (i, e.val)))) w
  bits : ∀ x, Instr.sameBits 10000 (ek x) (ek x) = true
section
variable {P : Program}
theorem BR {kt : TypeId} {K : Type} [DecidableEq K] {ek : K → Value} (heq : ∀ x y w, (Op.equal kt (ek x) (ek y)).run P w = .ok (decide (x = y)) w) (x : K) (w : World) :
    ∀ (es : List MapEntry) (ks : List K) (i : Nat), es.map (·.key) = ks.map ek → (Instr.findAsking kt (ek x) es i).run P w = .ok ((ks.findIdx? (fun y => decide (y = x))).bind (fun j => (es[j]?).map (fun e => (i + j, e.val)))) w
  | [], [], i, _ => rfl
  | [], _ :: _, _, h => by simp at h
  | _ :: _, [], _, h => by simp at h
  | e :: es, y :: ks, i, h => by
    simp only [List.map_cons, List.cons.injEq] at h
    unfold Instr.findAsking
    rw [h.1]
    simp only [Sem.run_bind, heq, Result.andThen_ok, List.findIdx?_cons]
    by_cases hxy : x = y
    · subst hxy; simp [Sem.run_pure]
    · have hyx : ¬ y = x := fun e => hxy e.symm
      simp only [hxy, hyx, decide_false, Bool.false_eq_true, if_false]
      rw [BR heq x w es ks (i + 1) h.2]
      cases ks.findIdx? (fun y => decide (y = x)) with
      | none => rfl
      | some j => simp [Nat.add_assoc, Nat.add_comm 1 j]
theorem F6 {d : TypeDesc} {K : Type} [DecidableEq K] {ek : K → Value} (hs : ∀ x y, Instr.sameNow d (ek x) (ek y) = some (decide (x = y))) (x : K) :
    ∀ (es : List MapEntry) (ks : List K) (i : Nat), es.map (·.key) = ks.map ek → Instr.findNow d (ek x) es i = some ((ks.findIdx? (fun y => decide (y = x))).bind (fun j => (es[j]?).map (fun e => (i + j, e.val))))
  | [], [], i, _ => rfl
  | [], _ :: _, _, h => by simp at h
  | _ :: _, [], _, h => by simp at h
  | e :: es, y :: ks, i, h => by
    simp only [List.map_cons, List.cons.injEq] at h
    unfold Instr.findNow
    rw [h.1, hs]
    simp only [List.findIdx?_cons]
    by_cases hxy : x = y
    · subst hxy; simp
    · have hyx : ¬ y = x := fun e => hxy e.symm
      simp only [hxy, hyx, decide_false, Bool.false_eq_true, if_false]
      rw [F6 hs x es ks (i + 1) h.2]
      cases ks.findIdx? (fun y => decide (y = x)) with
      | none => rfl
      | some j => simp [Nat.add_assoc, Nat.add_comm 1 j]
theorem OH {kt : TypeId} {d : TypeDesc} {K : Type} [DecidableEq K] {ek : K → Value} (hu : ∀ w, (underlying kt).run P w = .ok d w) (hs : ∀ x y, Instr.sameNow d (ek x) (ek y) = some (decide (x = y)))
    (hc : ∀ em x w, (Instr.checkKey em 10000 kt (ek x)).run P w = .ok () w) (hb : ∀ x, Instr.sameBits 10000 (ek x) (ek x) = true) : I4 P kt ek :=
  ⟨hc, fun x es ks w h => by
    unfold Instr.findKey
    simp only [Sem.run_bind, hu, Result.andThen_ok, F6 hs x es ks 0 h]
    simp [Sem.run_pure], hb⟩
theorem QD {kt : TypeId} (hu : ∀ w, (underlying kt).run P w = .ok .string w) : I4 P kt (fun s : Str => Value.string (ba s)) :=
  OH hu (fun x y => by
    show some (ba x == ba y) = _
    congr 1
    rw [beq_toListBytes]
    simp only [ba, ByteArray.toList_eq]
    by_cases h : x = y <;> simp [h]) (fun em x w => by unfold Instr.checkKey; simp only [Sem.run_bind, hu, Result.andThen_ok]; rfl) (fun x => by
    show (ba x == ba x) = true
    rw [beq_toListBytes]; simp)
def EY (P : Program) (n : Nat) (t : TypeId) (v : Value) : Prop := ∀ em w, (Instr.checkKey em n t v).run P w = .ok () w
theorem J7 {n : Nat} {t : TypeId} (hu : ∀ w, (underlying t).run P w = .ok .string w) (v : Value) : EY P (n + 1) t v := fun em w => by
  unfold Instr.checkKey; simp only [Sem.run_bind, hu, Result.andThen_ok]; rfl
theorem Es {α : Type} {body : α → PUnit → Sem (ForInStep PUnit)} {w : World} : ∀ (l : List α), (∀ x ∈ l, (body x ⟨⟩).run P w = .ok (.yield ⟨⟩) w) → (forIn l PUnit.unit body : Sem PUnit).run P w = .ok ⟨⟩ w
  | [], _ => rfl
  | x :: r, h => by
    rw [List.forIn_cons]
    simp only [Sem.run_bind, h x (List.mem_cons_self ..), Result.andThen_ok]
    exact Es r (fun y hy => h y (List.mem_cons_of_mem _ hy))
theorem KH {n : Nat} {t : TypeId} {fls : Array Field} {cs : Array Value} (hu : ∀ w, (underlying t).run P w = .ok (.struct fls) w) (h : ∀ f ∈ fls.toList, ∃ v, (∀ w, (part f.type cs f.offset).run P w = .ok v w) ∧ EY P n f.type v) : EY P (n + 1) t (.agg cs) := fun em w => by
  unfold Instr.checkKey
  simp only [Sem.run_bind, hu, Result.andThen_ok]
  rw [← Array.forIn_toList]
  refine (congrArg (fun r => Result.andThen r _) (Es fls.toList (fun f hf => ?_))).trans rfl
  obtain ⟨v, h1, h2⟩ := h f hf
  by_cases hn : f.name ≠ "_"
  · rw [if_pos hn]
    simp only [Sem.run_bind, h1, Result.andThen_ok, h2 em w]
    rfl
  · rw [if_neg hn]; rfl
theorem NH {kt : TypeId} {fls : Array Field} {K : Type} [DecidableEq K] {ek : K → Array Value} (hu : ∀ w, (underlying kt).run P w = .ok (.struct fls) w) (hc : ∀ x, EY P 10000 kt (.agg (ek x)))
    (heq : ∀ x y w, (Op.equal kt (.agg (ek x)) (.agg (ek y))).run P w = .ok (decide (x = y)) w) (hb : ∀ x, Instr.sameBits 10000 (.agg (ek x)) (.agg (ek x)) = true) : I4 P kt (fun x => Value.agg (ek x)) :=
  ⟨fun em x w => hc x em w, fun x es ks w h => by
    unfold Instr.findKey
    simp only [Sem.run_bind, hu, Result.andThen_ok]
    cases es with
    | nil =>
      cases ks with
      | nil => rfl
      | cons y ks => simp at h
    | cons e es =>
      have hn : Instr.findNow (.struct fls) (.agg (ek x)) (e :: es) 0 = none := by
        unfold Instr.findNow
        have : Instr.sameNow (.struct fls) (.agg (ek x)) e.key = none := by cases e.key <;> rfl
        rw [this]
      rw [hn]
      have := BR (P := P) (ek := fun x => Value.agg (ek x)) heq x w (e :: es) ks 0 h
      simpa using this, hb⟩
structure Na {K V : Type} (ek : K → Value) (ev : V → Value) (m : List (K × V)) (es : Array MapEntry) (clock : Nat) : Prop where
  pairs : es.toList.map (fun e => (e.key, e.val)) = m.map (fun p => (ek p.1, ev p.2))
  once : ∀ (i j : Nat) (e e' : MapEntry), es[i]? = some e → es[j]? = some e' → e.born = e'.born → i = j
  born : ∀ e ∈ es.toList, e.born < clock
def hmap {K V : Type} (g : Nat) (ek : K → Value) (ev : V → Value) (m : List (K × V)) : gJ :=
  ⟨fun w F => (∃ es clock, w.heap[g]? = some (.map es clock) ∧ Na ek ev m es clock) ∧ ∀ b, F b ↔ b = g,
    fun ⟨⟨es, c, h, he⟩, hF⟩ hb => ⟨⟨es, c, (hb g ((hF g).2 rfl)).trans h, he⟩, hF⟩⟩
theorem Py {w : World} {r : Nat} {es : Array MapEntry} {clock : Nat} (hb : w.heap[r]? = some (.map es clock)) : (getObj r).run P w = .ok (.map es clock) w := by
  simp [getObj, Sem.run, hb]
theorem PX {w : World} {r : Nat} {es : Array MapEntry} {clock : Nat} (o : Obj) (hb : w.heap[r]? = some (.map es clock)) : (setObj r o).run P w = .ok () { w with heap := w.heap.setIfInBounds r o } := by
  simp [setObj, Sem.run, hb]
theorem Keeps.setObj (w : World) (g : Nat) (o : Obj) {M : Nat → Prop} (h : M g) : Keeps w M { w with heap := w.heap.setIfInBounds g o } :=
  ⟨rfl, rfl, rfl, by simp, fun b _ hm => by
    have : g ≠ b := fun e => hm (e ▸ h)
    simp [this], fun _ => Nat.le_refl _⟩
section
variable {n : Nat} {fs : Fr} {a : Act} {o : Oper} {v : Value} {ops : Array Oper} {rest : List Oper} {Q : Exit → Act → World → Prop} {w w0 : World} {M : Nat → Prop} {σ : List gJ}
theorem S.makeMap (hf : fB n fs a) (hs : Sat w0 M σ w) {d : Nat} (hg : gv ops fs o = some true) (hd : o.dst = some d) (hdn : Nat.blt d n = true) {K V : Type} (ek : K → Value) (ev' : V → Value) {t : TypeId} (ho : o.op = .makeMap t none)
    (k : ∀ g a w', fB n ((d, .map (some g)) :: fs) a → Sat w0 M (hmap g ek ev' [] :: σ) w' → wpList P ops Q rest a w') : wpList P ops Q (o :: rest) a w := by
  refine S.act (R := fun v w' => ∃ g, v = .map (some g) ∧ Sat w0 M (hmap g ek ev' [] :: σ) w') hf hg hd hdn (fun a hf => ?_) (fun v a w' hf ⟨g, hv, hs⟩ => k g a w' (hv ▸ hf) hs)
  refine ⟨_, w.alloc (.map #[] 0), ?_, w.heap.size, rfl, hs.add (Keeps.alloc w _ _) (F' := fun b => b = w.heap.size) ⟨⟨#[], 0, lU w _, rfl, fun i j e e' h => by simp at h, fun e h => by simp at h⟩, fun b => Iff.rfl⟩ (fun b hb => by subst hb; simp)⟩
  unfold execOp
  simp only [ho, Option.map_none, Sem.run_bind]
  rw [show (Instr.makeMap t none).run P w = .ok (.map (some w.heap.size)) (w.alloc (.map #[] 0)) from rfl]
  rfl
theorem Ih {K V : Type} {ek : K → Value} {ev' : V → Value} {m : List (K × V)} {es : Array MapEntry} {c : Nat} (h : Na ek ev' m es c) : es.toList.map (·.key) = (m.map (·.1)).map ek := by
  have := congrArg (fun l => l.map Prod.fst) h.pairs
  simpa [List.map_map, Function.comp_def] using this
theorem Nk {K V : Type} {ek : K → Value} {ev' : V → Value} {m : List (K × V)} {es : Array MapEntry} {c : Nat} (h : Na ek ev' m es c) {i : Nat} {p : K × V} (hp : m[i]? = some p) : ∃ e, es[i]? = some e ∧ e.key = ek p.1 ∧ e.val = ev' p.2 := by
  have := congrArg (fun l => l[i]?) h.pairs
  simp only [List.getElem?_map, hp, Option.map_some, Array.getElem?_toList] at this
  cases he : es[i]? with
  | none => rw [he] at this; cases this
  | some e => rw [he] at this; simp only [Option.map_some, Option.some.injEq, Prod.mk.injEq] at this; exact ⟨e, rfl, this.1, this.2⟩
theorem J3 {K V : Type} [DecidableEq K] (m : List (K × V)) (k : K) : match (m.map (·.1)).findIdx? (fun y => decide (y = k)) with
    | some i => ∃ p, m[i]? = some p ∧ p.1 = k ∧ xG m k = some p.2 ∧ ∀ v, zB m k v = m.set i (k, v)
    | none => xG m k = none ∧ ∀ v, zB m k v = m ++ [(k, v)] := by
  induction m with
  | nil => exact ⟨rfl, fun _ => rfl⟩
  | cons p r ih =>
    simp only [List.map_cons, List.findIdx?_cons]
    by_cases h : p.1 = k
    · simp only [h, decide_true, if_true]
      exact ⟨p, rfl, h, by simp [xG, h], fun v => by simp [zB, h]⟩
    · simp only [h, decide_false, Bool.false_eq_true, if_false]
      have hg : xG (p :: r) k = xG r k := by simp [xG, h]
      cases hr : (r.map (·.1)).findIdx? (fun y => decide (y = k)) with
      | none => rw [hr] at ih; exact ⟨by rw [hg]; exact ih.1, fun v => by simp [zB, h, ih.2 v]⟩
      | some i => rw [hr] at ih; obtain ⟨q, h1, h2, h3, h4⟩ := ih; exact ⟨q, by simpa using h1, h2, by rw [hg]; exact h3, fun v => by simp [zB, h, h4 v]⟩
theorem V.lookup (q : Nat) {K V : Type} [DecidableEq K] {g : Nat} {ek : K → Value} {ev' : V → Value} {m : List (K × V)} (hq : σ[q]? = some (hmap g ek ev' m)) {t kt et : TypeId} {x i : Operand} {k : K} {u z : V} (ho : o.op = .lookup t x i false) (hx : ev fs x = some (.map (some g))) (hi : ev fs i = some (ek k))
    (ht : ∀ w, (underlying t).run P w = .ok (.map kt et) w) (hk : I4 P kt ek) (hz : ∀ w, (zeroValue et).run P w = .ok (ev' z) w) (hu : (xG m k).getD z = u) (hv : ev' u = v) :
    ∀ a w, fB n fs a → Sat w0 M σ w → kC P o a w v := fun a w hf hs => by
  have e1 := hf.gX hx
  have e2 := hf.gX hi
  obtain ⟨F, ⟨⟨es, c, hh, hm⟩, hF⟩, _⟩ := hs.nth hq
  subst hu; subst hv
  refine jg (s := Instr.lookup t (a.eval x) (a.eval i) false) (by unfold execOp; rw [ho]) ?_
  rw [e1, e2]
  unfold Instr.lookup
  simp only [Sem.run_bind, ht, Result.andThen_ok, Py hh, Sem.run_pure, hk.check, hk.find k es.toList (m.map (·.1)) w (Ih hm)]
  have := J3 m k
  split at this <;> rename_i hi'
  · obtain ⟨p, h1, h2, h3, _⟩ := this
    obtain ⟨e, h4, h5, h6⟩ := Nk hm h1
    rw [hi', h3]
    simp [h4, h6, Sem.run_pure]
  · rw [hi', this.1]
    simp [Sem.run_bind, hz, Sem.run_pure]
theorem S.mapUpdate (q : Nat) (hf : fB n fs a) (hs : Sat w0 M σ w) (hg : gv ops fs o = some true) (hd : o.dst = none) {K V : Type} [DecidableEq K] {g : Nat} {ek : K → Value} {ev' : V → Value} {m : List (K × V)} (hq : σ[q]? = some (hmap g ek ev' m)) {t kt et : TypeId} {x i y : Operand} (k : K) (u : V)
    (ho : o.op = .mapUpdate t x i y) (hx : ev fs x = some (.map (some g))) (hi : ev fs i = some (ek k)) (hy : ev fs y = some (ev' u)) (ht : ∀ w, (underlying t).run P w = .ok (.map kt et) w) (hk : I4 P kt ek)
    (kk : ∀ a w', fB n fs a → Sat w0 M (σ.set q (hmap g ek ev' (zB m k u))) w' → wpList P ops Q rest a w') : wpList P ops Q (o :: rest) a w := by
  refine S.RJ (R := fun w' => Sat w0 M (σ.set q (hmap g ek ev' (zB m k u))) w') hf hg hd (fun a hf => ?_) (fun a w' hf hs => kk a w' hf hs)
  obtain ⟨F, ⟨⟨es, c, hh, hm⟩, hF⟩, hlt, hupd⟩ := hs.upd q hq
  have e1 := hf.gX hx
  have e2 := hf.gX hi
  have e3 := hf.gX hy
  have fin : ∀ es' c', Na ek ev' (zB m k u) es' c' → Sat w0 M (σ.set q (hmap g ek ev' (zB m k u))) { w with heap := w.heap.setIfInBounds g (.map es' c') } := fun es' c' h =>
    hupd _ _ F (Keeps.setObj w g _ ((hF g).2 rfl)) ⟨⟨es', c', by have hlt := (Array.getElem?_eq_some_iff.1 hh).1; simp [hlt], h⟩, hF⟩ (fun b hb => ⟨.inl hb, by simpa using hlt b hb⟩)
  have hrun : ∃ es' c', Na ek ev' (zB m k u) es' c' ∧ (Instr.mapUpdate t (.map (some g)) (ek k) (ev' u)).run P w = .ok () { w with heap := w.heap.setIfInBounds g (.map es' c') } := by
    unfold Instr.mapUpdate
    simp only [Sem.run_bind, ht, Result.andThen_ok, Py hh, hk.check, hk.find k es.toList (m.map (·.1)) w (Ih hm)]
    have := J3 m k
    split at this <;> rename_i j hj
    · obtain ⟨p, h1, h2, h3, h4⟩ := this
      obtain ⟨e, h5, h6, h7⟩ := Nk hm h1
      rw [h4]
      refine ⟨es.modify j fun e => { e with key := ek k, val := ev' u }, c, ⟨?_, ?_, ?_⟩, ?_⟩
      · apply List.ext_getElem?
        intro i
        have hpi := congrArg (fun l => l[i]?) hm.pairs
        simp only [List.getElem?_map, Array.getElem?_toList] at hpi ⊢
        rw [Array.getElem?_modify, List.getElem?_set]
        by_cases hji : j = i
        · subst hji
          simp [h5, TL h1]
        · simp only [hji, if_false]; exact hpi
      · intro i i' e e' he he'
        rw [Array.getElem?_modify] at he he'
        have g1 : ∃ e0, es[i]? = some e0 ∧ e0.born = e.born := by
          split at he
          · cases h0 : es[i]? with
            | none => rw [h0] at he; cases he
            | some e0 => rw [h0] at he; injection he with he; subst he; exact ⟨e0, rfl, rfl⟩
          · exact ⟨e, he, rfl⟩
        have g2 : ∃ e0, es[i']? = some e0 ∧ e0.born = e'.born := by
          split at he'
          · cases h0 : es[i']? with
            | none => rw [h0] at he'; cases he'
            | some e0 => rw [h0] at he'; injection he' with he'; subst he'; exact ⟨e0, rfl, rfl⟩
          · exact ⟨e', he', rfl⟩
        obtain ⟨a1, b1, c1⟩ := g1
        obtain ⟨a2, b2, c2⟩ := g2
        intro hbb
        exact hm.once i i' a1 a2 b1 b2 (by rw [c1, c2, hbb])
      · intro e he
        obtain ⟨i, hi'⟩ := List.getElem?_of_mem he
        rw [Array.getElem?_toList, Array.getElem?_modify] at hi'
        split at hi'
        · cases h0 : es[i]? with
          | none => rw [h0] at hi'; cases hi'
          | some e0 =>
            rw [h0] at hi'; injection hi' with hi'; subst hi'
            exact hm.born e0 (by rw [← Array.getElem?_toList] at h0; exact List.mem_of_getElem? h0)
        · rw [← Array.getElem?_toList] at hi'; exact hm.born e (List.mem_of_getElem? hi')
      · rw [hj]
        have hkey : e.key = ek k := by rw [h6, h2]
        simp [h5, hkey, Instr.keyThatStays, hk.bits, Sem.run_pure, PX _ hh]
    · rw [this.2]
      refine ⟨es.push { key := ek k, val := ev' u, born := c }, c + 1, ⟨?_, ?_, ?_⟩, ?_⟩
      · simp [hm.pairs]
      · intro i i' e e' he he' hbb
        have bnd : ∀ (i : Nat) (e : MapEntry), (es.push { key := ek k, val := ev' u, born := c })[i]? = some e → (es[i]? = some e ∧ e.born < c) ∨ (i = es.size ∧ e.born = c) := by
          intro i e h
          rw [Array.getElem?_push] at h
          split at h
          · rename_i hi'; injection h with h; subst h; exact .inr ⟨hi', rfl⟩
          · exact .inl ⟨h, hm.born e (by rw [← Array.getElem?_toList] at h; exact List.mem_of_getElem? h)⟩
        rcases bnd i e he with ⟨g1, g2⟩ | ⟨g1, g2⟩ <;> rcases bnd i' e' he' with ⟨g3, g4⟩ | ⟨g3, g4⟩
        · exact hm.once i i' e e' g1 g3 hbb
        · omega
        · omega
        · omega
      · intro e he
        simp only [Array.toList_push, List.mem_append, List.mem_singleton] at he
        rcases he with h | h
        · have := hm.born e h; omega
        · subst h; exact Nat.lt_succ_self _
      · rw [hj]
        simp [PX _ hh]
  obtain ⟨es', c', h1, h2⟩ := hrun
  refine ⟨_, ?_, fin es' c' h1⟩
  unfold execOp
  simp only [ho, e1, e2, e3, Sem.run_bind, h2, Result.andThen_ok]
  rfl
end
end
end Go.Proofs.YtbegofbmbcghdaaGreatDoor

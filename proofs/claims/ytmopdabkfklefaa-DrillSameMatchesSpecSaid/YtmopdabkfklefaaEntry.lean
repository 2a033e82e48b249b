/- An entry of a map is found or made, and then stored into. Plain lemmas over any program. -/
import Derived.Test.YtmopdabkfklefaaIter
namespace Go.Proofs.Ytmopdabkfklefaa
open Go Go.RowKit
set_option linter.unusedVariables false

theorem mput_mput {K V : Type} [DecidableEq K] (k : K) (u v : V) : ∀ m : List (K × V), mput (mput m k u) k v = mput m k v
  | [] => by simp [mput]
  | p :: r => by
    by_cases h : p.1 = k
    · simp [mput, h]
    · simp [mput, h, mput_mput k u v r]
/-- a map of which the entry of k is told by its stamp b -/
def hent {K V : Type} [DecidableEq K] (g : Nat) (ek : K → Value) (ev : V → Value) (m : List (K × V)) (k : K) (b : Nat) : HProp :=
  ⟨fun w F => (∃ es clock, w.heap[g]? = some (.map es clock) ∧ MapIs ek ev m es clock ∧ ∃ (i : Nat) (e : MapEntry), es[i]? = some e ∧ (m.map (·.1)).findIdx? (fun y => decide (y = k)) = some i ∧ e.born = b) ∧ ∀ b, F b ↔ b = g,
    fun ⟨⟨es, c, h, he⟩, hF⟩ hb => ⟨⟨es, c, (hb g ((hF g).2 rfl)).trans h, he⟩, hF⟩⟩
theorem mapIs_modify {K V : Type} {ek : K → Value} {ev' : V → Value} {m : List (K × V)} {es : Array MapEntry} {c : Nat} (hm : MapIs ek ev' m es c) {j : Nat} {k : K} {p : K × V} (hp : m[j]? = some p) (hk : p.1 = k) (u : V) (f : MapEntry → MapEntry) (hf : ∀ e, es[j]? = some e → (f e).born = e.born ∧ (f e).key = ek k ∧ (f e).val = ev' u) : MapIs ek ev' (m.set j (k, u)) (es.modify j f) c := by
  obtain ⟨e, h5, h6, h7⟩ := pairs_at hm hp
  obtain ⟨f1, f2, f3⟩ := hf e h5
  refine ⟨?_, ?_, ?_⟩
  · apply List.ext_getElem?
    intro i
    have hpi := congrArg (fun l => l[i]?) hm.pairs
    simp only [List.getElem?_map, Array.getElem?_toList] at hpi ⊢
    rw [Array.getElem?_modify, List.getElem?_set]
    by_cases hji : j = i
    · subst hji
      simp [h5, lt_of_get hp, f2, f3]
    · simp only [hji, if_false]; exact hpi
  · intro i i' e e' he he'
    rw [Array.getElem?_modify] at he he'
    have g1 : ∃ e0, es[i]? = some e0 ∧ e0.born = e.born := by
      split at he
      · rename_i hh
        subst hh
        rw [h5] at he; injection he with he; subst he; exact ⟨_, h5, f1.symm⟩
      · exact ⟨e, he, rfl⟩
    have g2 : ∃ e0, es[i']? = some e0 ∧ e0.born = e'.born := by
      split at he'
      · rename_i hh
        subst hh
        rw [h5] at he'; injection he' with he'; subst he'; exact ⟨_, h5, f1.symm⟩
      · exact ⟨e', he', rfl⟩
    obtain ⟨a1, b1, c1⟩ := g1
    obtain ⟨a2, b2, c2⟩ := g2
    intro hbb
    exact hm.once i i' a1 a2 b1 b2 (by rw [c1, c2, hbb])
  · intro e0 he
    obtain ⟨i, hi'⟩ := List.getElem?_of_mem he
    rw [Array.getElem?_toList, Array.getElem?_modify] at hi'
    split at hi'
    · rename_i hh
      subst hh
      rw [h5] at hi'; injection hi' with hi'; subst hi'
      rw [f1]
      exact hm.born e (by rw [← Array.getElem?_toList] at h5; exact List.mem_of_getElem? h5)
    · rw [← Array.getElem?_toList] at hi'; exact hm.born e0 (List.mem_of_getElem? hi')
theorem mapIs_push {K V : Type} {ek : K → Value} {ev' : V → Value} {m : List (K × V)} {es : Array MapEntry} {c : Nat} (hm : MapIs ek ev' m es c) (k : K) (u : V) : MapIs ek ev' (m ++ [(k, u)]) (es.push { key := ek k, val := ev' u, born := c }) (c + 1) := by
  refine ⟨?_, ?_, ?_⟩
  · simp [hm.pairs]
  · intro i i' e e' he he' hbb
    have bnd : ∀ (i : Nat) (e : MapEntry), (es.push { key := ek k, val := ev' u, born := c })[i]? = some e → (es[i]? = some e ∧ e.born < c) ∨ (i = es.size ∧ e.born = c) := by
      intro i e h
      rw [Array.getElem?_push] at h
      split at h
      · rename_i hi'; injection h with h; subst h; exact .inr ⟨hi', rfl⟩
      · exact .inl ⟨h, hm.born e (by rw [← Array.getElem?_toList] at h; exact List.mem_of_getElem? h)⟩
    rcases bnd i e he with ⟨g1, g2⟩ | ⟨g1, g2⟩ <;> rcases bnd i' e' he' with ⟨g3, g4⟩ | ⟨g3, g4⟩
    · exact hm.once i i' e e' g1 g3 hbb
    · omega
    · omega
    · omega
  · intro e he
    simp only [Array.toList_push, List.mem_append, List.mem_singleton] at he
    rcases he with h | h
    · have := hm.born e h; omega
    · subst h; exact Nat.lt_succ_self _
theorem map_len {K V : Type} {ek : K → Value} {ev' : V → Value} {m : List (K × V)} {es : Array MapEntry} {c : Nat} (hm : MapIs ek ev' m es c) : es.size = m.length := by
  have := congrArg List.length hm.pairs
  simpa using this
section
variable {P : Program} {n : Nat} {fs : Fr} {a : Act} {o : Oper} {v : Value} {ops : Array Oper} {rest : List Oper} {Q : Exit → Act → World → Prop} {w w0 : World} {M : Nat → Prop} {σ : List HProp}
/-- an entry is found, or made with the zero -/
theorem S.mapEntry (q : Nat) (hf : FrOk n fs a) (hs : Sat w0 M σ w) {d : Nat} (hg : gv ops fs o = some true) (hd : o.dst = some d) (hdn : Nat.blt d n = true) {K V : Type} [DecidableEq K] {g : Nat} {ek : K → Value} {ev' : V → Value} {m : List (K × V)} (hq : σ[q]? = some (hmap g ek ev' m)) {t kt et : TypeId} {x i : Operand} (k : K) {z u : V}
    (ho : o.op = .mapEntry t x i) (hx : ev fs x = some (.map (some g))) (hi : ev fs i = some (ek k)) (ht : ∀ w, (underlying t).run P w = .ok (.map kt et) w) (hk : KeyOk P kt ek) (hz : ∀ w, (zeroValue et).run P w = .ok (ev' z) w) (hu : (mget m k).getD z = u)
    (kk : ∀ (b : Nat) a w', FrOk n ((d, .tuple #[ev' u, .int .i64 (b : Int)]) :: fs) a → Sat w0 M (σ.set q (hent g ek ev' (mput m k u) k b)) w' → wpList P ops Q rest a w') : wpList P ops Q (o :: rest) a w := by
  subst hu
  refine S.act (R := fun v w' => ∃ b : Nat, v = .tuple #[ev' ((mget m k).getD z), .int .i64 (b : Int)] ∧ Sat w0 M (σ.set q (hent g ek ev' (mput m k ((mget m k).getD z)) k b)) w') hf hg hd hdn (fun a hf => ?_) (fun v a w' hf ⟨b, hv, hs⟩ => kk b a w' (hv ▸ hf) hs)
  obtain ⟨F, ⟨⟨es, c, hh, hm⟩, hF⟩, hlt, hupd⟩ := hs.upd q hq
  have e1 := hf.ev_ok hx
  have e2 := hf.ev_ok hi
  have fin : ∀ es' c' b, (MapIs ek ev' (mput m k ((mget m k).getD z)) es' c' ∧ ∃ (i : Nat) (e : MapEntry), es'[i]? = some e ∧ ((mput m k ((mget m k).getD z)).map (·.1)).findIdx? (fun y => decide (y = k)) = some i ∧ e.born = b) → Sat w0 M (σ.set q (hent g ek ev' (mput m k ((mget m k).getD z)) k b)) { w with heap := w.heap.setIfInBounds g (.map es' c') } := fun es' c' b h =>
    hupd _ _ F (Keeps.setObj w g _ ((hF g).2 rfl)) ⟨⟨es', c', by have hlt := (Array.getElem?_eq_some_iff.1 hh).1; simp [hlt], h⟩, hF⟩ (fun b hb => ⟨.inl hb, by simpa using hlt b hb⟩)
  have hrun : ∃ es' c' b, (MapIs ek ev' (mput m k ((mget m k).getD z)) es' c' ∧ ∃ (i : Nat) (e : MapEntry), es'[i]? = some e ∧ ((mput m k ((mget m k).getD z)).map (·.1)).findIdx? (fun y => decide (y = k)) = some i ∧ e.born = b) ∧ (Instr.mapEntry t (.map (some g)) (ek k)).run P w = .ok (.tuple #[ev' ((mget m k).getD z), .int .i64 (b : Int)]) { w with heap := w.heap.setIfInBounds g (.map es' c') } := by
    unfold Instr.mapEntry
    simp only [Sem.run_bind, ht, Result.andThen_ok, getMap hh, hk.check, hk.find k es.toList (m.map (·.1)) w (pairs_keys hm)]
    have := mget_find m k
    split at this <;> rename_i j hj
    · obtain ⟨p, h1, h2, h3, h4⟩ := this
      obtain ⟨e, h5, h6, h7⟩ := pairs_at hm h1
      rw [h4, h3, Option.getD_some]
      have hkey : e.key = ek k := by rw [h6, h2]
      refine ⟨es.modify j fun e => { e with key := ek k }, c, e.born, ⟨mapIs_modify hm h1 h2 p.2 _ (fun e0 he0 => ?_), j, { e with key := ek k }, ?_, ?_, rfl⟩, ?_⟩
      · rw [h5] at he0; injection he0 with he0; subst he0; exact ⟨rfl, rfl, h7⟩
      · rw [Array.getElem?_modify, if_pos rfl, h5]; rfl
      · rw [set_self m j (k, p.2) (by rw [h1, ← h2])]; exact hj
      · rw [hj]
        simp [h5, hkey, h7, Instr.keyThatStays, hk.bits, Sem.run_pure, setMap _ hh, goInt]
    · rw [this.2, this.1, Option.getD_none]
      refine ⟨es.push { key := ek k, val := ev' z, born := c }, c + 1, c, ⟨mapIs_push hm k z, es.size, _, Array.getElem?_push_size, ?_, rfl⟩, ?_⟩
      · rw [map_len hm, List.map_append, List.findIdx?_append, hj]; simp
      · rw [hj]
        simp [hz, setMap _ hh, goInt, Sem.run_pure]
  obtain ⟨es', c', b, h1, h2⟩ := hrun
  refine ⟨_, _, ?_, b, rfl, fin es' c' b h1⟩
  unfold execOp
  simp only [ho, e1, e2, Sem.run_bind, h2, Result.andThen_ok]
  rfl
/-- the entry is stored into -/
theorem S.entryStore (q : Nat) (hf : FrOk n fs a) (hs : Sat w0 M σ w) (hg : gv ops fs o = some true) (hd : o.dst = none) {K V : Type} [DecidableEq K] {g b : Nat} {ek : K → Value} {ev' : V → Value} {m : List (K × V)} {k : K} {u0 : V} (hq : σ[q]? = some (hent g ek ev' (mput m k u0) k b)) {t : TypeId} {x i y : Operand} (u : V)
    (ho : o.op = .entryStore t x i y) (hx : ev fs x = some (.map (some g))) (hi : ev fs i = some (.int .i64 (b : Int))) (hy : ev fs y = some (ev' u))
    (kk : ∀ a w', FrOk n fs a → Sat w0 M (σ.set q (hmap g ek ev' (mput m k u))) w' → wpList P ops Q rest a w') : wpList P ops Q (o :: rest) a w := by
  refine S.act0 (R := fun w' => Sat w0 M (σ.set q (hmap g ek ev' (mput m k u))) w') hf hg hd (fun a hf => ?_) (fun a w' hf hs => kk a w' hf hs)
  obtain ⟨F, ⟨⟨es, c, hh, hm, i, e, h1, h2, h3⟩, hF⟩, hlt, hupd⟩ := hs.upd q hq
  have e1 := hf.ev_ok hx
  have e2 := hf.ev_ok hi
  have e3 := hf.ev_ok hy
  have hidx : es.findIdx? (fun e => (e.born : Int) == (b : Int)) = some i := by
    rw [Array.findIdx?_eq_some_iff_getElem]
    obtain ⟨hil, hie⟩ := Array.getElem?_eq_some_iff.1 h1
    refine ⟨hil, by rw [hie, h3]; simp, fun j hj => ?_⟩
    intro hb
    have hb2 : ((es[j]'(by omega)).born : Int) = (b : Int) := by simpa using hb
    have : (es[j]'(by omega)).born = e.born := by rw [h3]; omega
    have := hm.once j i _ e (Array.getElem?_eq_getElem (by omega)) h1 this
    omega
  have hfind := mget_find (mput m k u0) k
  rw [h2] at hfind
  obtain ⟨p, p1, p2, p3, p4⟩ := hfind
  have hset : (mput m k u0).set i (k, u) = mput m k u := by rw [← p4, mput_mput]
  refine ⟨_, ?_, hupd { w with heap := w.heap.setIfInBounds g (.map (es.modify i fun e => { e with val := ev' u }) c) } (hmap g ek ev' (mput m k u)) F (Keeps.setObj w g _ ((hF g).2 rfl)) ⟨⟨es.modify i fun e => { e with val := ev' u }, c, by have hlt := (Array.getElem?_eq_some_iff.1 hh).1; simp [hlt], ?_⟩, hF⟩ (fun b hb => ⟨.inl hb, by simpa using hlt b hb⟩)⟩
  · unfold execOp
    simp only [ho, e1, e2, e3, Sem.run_bind]
    have : (Instr.entryStore t (.map (some g)) (.int .i64 (b : Int)) (ev' u)).run P w = .ok () { w with heap := w.heap.setIfInBounds g (.map (es.modify i fun e => { e with val := ev' u }) c) } := by
      unfold Instr.entryStore
      simp only [Sem.run_bind, getMap hh, Result.andThen_ok]
      simp [asInt, asIntOf, Sem.run_pure, hidx, setMap _ hh]
    rw [this]; rfl
  · rw [← hset]
    obtain ⟨e0, q1, q2, q3⟩ := pairs_at hm p1
    refine mapIs_modify hm p1 p2 u _ (fun e9 he9 => ?_)
    rw [q1] at he9; injection he9 with he9; subst he9
    exact ⟨rfl, by rw [← p2]; exact q2, rfl⟩
theorem Sat.unent (q : Nat) {K V : Type} [DecidableEq K] {g b : Nat} {ek : K → Value} {ev' : V → Value} {m : List (K × V)} {k : K} (hq : σ[q]? = some (hent g ek ev' m k b)) (hs : Sat w0 M σ w) : Sat w0 M (σ.set q (hmap g ek ev' m)) w := by
  obtain ⟨F, ⟨⟨es, c, hh, hm, _⟩, hF⟩, hlt, hupd⟩ := hs.upd q hq
  exact hupd w (hmap g ek ev' m) F (Keeps.refl _ _) ⟨⟨es, c, hh, hm⟩, hF⟩ (fun b hb => ⟨.inl hb, hlt b hb⟩)
/-- a look at the entry that has been found or made -/
theorem V.lookupEnt (q : Nat) {K V : Type} [DecidableEq K] {g b : Nat} {ek : K → Value} {ev' : V → Value} {m : List (K × V)} {k : K} {u z : V} (hq : σ[q]? = some (hent g ek ev' (mput m k u) k b)) {t kt et : TypeId} {x i : Operand} (ho : o.op = .lookup t x i false) (hx : ev fs x = some (.map (some g))) (hi : ev fs i = some (ek k))
    (ht : ∀ w, (underlying t).run P w = .ok (.map kt et) w) (hk : KeyOk P kt ek) (hz : ∀ w, (zeroValue et).run P w = .ok (ev' z) w) (hv : ev' u = v) :
    ∀ a w, FrOk n fs a → Sat w0 M σ w → RunV P o a w v := fun a w hf hs =>
  Go.Proofs.Ytmopdabkfklefaa.V.lookup q (getElem?_set_self' σ q _ _ hq) ho hx hi ht hk hz (by rw [mget_put, if_pos rfl]; rfl) hv a w hf (hs.unent q hq)
end
/-- an element of a literal of two rows -/
theorem rows2_at {β : Type} [Rep β] {w : World} {F : Nat → Prop} {a b x : List β} {aA bA : Option Addr} {aC bC : Nat} (va : View w F aA aC a) (vb : View w F bA bC b) {k : Nat} (hx : ([a, b] : List (List β))[k]? = some x) :
    ∃ (B : Option Addr) (D : Nat), ([⟨aA, a.length, aC⟩, ⟨bA, b.length, bC⟩] : List Sl)[k]? = some ⟨B, x.length, D⟩ ∧ View w F B D x := by
  match k, hx with
  | 0, hx => simp at hx; subst hx; exact ⟨aA, aC, rfl, va⟩
  | 1, hx => simp at hx; subst hx; exact ⟨bA, bC, rfl, vb⟩
  | k + 2, hx => simp at hx
end Go.Proofs.Ytmopdabkfklefaa

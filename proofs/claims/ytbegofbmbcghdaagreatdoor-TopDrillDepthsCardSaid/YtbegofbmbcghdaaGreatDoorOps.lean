/- Chapter texts of ours, as far as the claim needs them. -/
import Derived.Test.YtbegofbmbcghdaaGreatDoorBase
namespace Go.Proofs.YtbegofbmbcghdaaGreatDoor
open Go Go.RowKit
set_option linter.unusedVariables false
set_option linter.unusedSectionVars false
set_option linter.unusedSimpArgs false
def kC (P : Program) (o : Oper) (a : Act) (w : World) (v : Value) : Prop := (execOp a.eval o).run P w = .ok (.value v) w
theorem LK (P : Program) (w : World) (op : BinOp) (t : TypeId) (x y : Operand) (u v r : Value) (h : Ez op u v = some r) :
    (do eqGuard op t x y u v; binOp op t u v : Sem Value).run P w = .ok r w := by
  unfold Ez at h
  split at h <;> first
    | (cases h; done)
    | (cases op <;> simp only [AV, Option.some.injEq, reduceCtorEq] at h <;> subst h <;> rfl)
theorem Ky {n : Nat} {fs : Fr} {a : Act} (h : fB n fs a) : ∀ {l : List Operand} {m : List Value}, l.mapM (ev fs) = some m → l.map a.eval = m
  | [], m, hm => by simpa using hm
  | x :: l, m, hm => by
    simp only [List.mapM_cons, Option.bind_eq_bind, Option.pure_def, Option.bind_eq_some_iff, Option.some.injEq] at hm
    obtain ⟨v, hv, r, hr, rfl⟩ := hm
    simp [h.gX hv, Ky h hr]
section
variable {P : Program} {n : Nat} {fs : Fr} {a : Act} {o : Oper} {v : Value}
theorem Fg (h : fB n fs a) (hp : AY fs o.op = some v) (w : World) : kC P o a w v := by
  obtain ⟨dst, op, type, pos, after, guard⟩ := o
  unfold kC execOp
  cases op <;> simp only [AY, reduceCtorEq] at hp
  case move x => simp only [h.gX hp]; rfl
  case assign x => simp only [h.gX hp]; rfl
  case nilCheck x =>
    split at hp <;> try (cases hp; done)
    rename_i p hx
    simp only [h.gX hx, Option.some.injEq] at hp ⊢
    subst hp; rfl
  case binOp op t x y yt =>
    split at hp <;> try (cases hp; done)
    rename_i u u' hu hu'
    simp only [h.gX hu, h.gX hu']
    simp only [Sem.run_bind, LK P w op t x y u u' v hp]
    rfl
  case unOp op t x =>
    cases op <;> simp only [reduceCtorEq] at hp
    case not =>
      split at hp <;> try (cases hp; done)
      rename_i b hb
      simp only [h.gX hb, Option.some.injEq] at hp ⊢
      subst hp; rfl
    case neg =>
      split at hp <;> try (cases hp; done)
      rename_i b hb
      simp only [h.gX hb, Option.some.injEq] at hp ⊢
      subst hp
      have e : (0 - b : Int) = -b := by omega
      show Result.ok (Next.value (Value.int .i64 (IntKind.i64.wrap (0 - b)))) w = _
      rw [e]
  case extract x i =>
    split at hp <;> try (cases hp; done)
    rename_i vs hv
    simp only [h.gX hv, Instr.extract, hp]
    rfl
  case pick c x y =>
    split at hp <;> try (cases hp; done)
    · rename_i hc
      have e1 := h.gX hc
      have e2 := h.gX hp
      show Sem.run P (do pure (Next.value (if ← asBool (a.eval c) then a.eval x else a.eval y))) w = _
      rw [e1, e2]; rfl
    · rename_i hc
      have e1 := h.gX hc
      have e2 := h.gX hp
      show Sem.run P (do pure (Next.value (if ← asBool (a.eval c) then a.eval x else a.eval y))) w = _
      rw [e1, e2]; rfl
  case makeFunc fn first cap =>
    split at hp <;> try (cases hp; done)
    rename_i l m hl hm
    have e1 : first.map a.eval = l.toArray := Array.ext' (by rw [Array.toList_map]; exact Ky h hl)
    have e2 : cap.map a.eval = m.toArray := Array.ext' (by rw [Array.toList_map]; exact Ky h hm)
    simp only [Option.some.injEq] at hp
    subst hp
    simp only [e1, e2]; rfl
end
def gv (ops : Array Oper) (fs : Fr) (o : Oper) : Option Bool :=
  match o.guard with
  | none => some true
  | some (j, want) => match ops[j]? with
    | some oj => match oj.dst with
      | some d => match lk fs d with
        | some (.bool b) => some (b == want)
        | some _ => some false
        | none => none
      | none => none
    | none => none
section
variable {P : Program} {n : Nat} {fs : Fr} {a : Act} {o : Oper} {v : Value} {ops : Array Oper} {rest : List Oper} {Q : Exit → Act → World → Prop} {w w0 : World} {M : Nat → Prop} {σ : List gJ}
theorem IB (b : Bool) : undef ≠ Value.bool b := by intro h; cases h
theorem zK (h : fB n fs a) {b : Bool} (hg : gv ops fs o = some b) : Region.wanted o (yielded ops a.tmps) = b := by
  unfold gv at hg
  unfold Region.wanted
  cases ho : o.guard with
  | none => simp only [ho] at hg ⊢; simpa using hg
  | some jw =>
    obtain ⟨j, want⟩ := jw
    simp only [ho] at hg ⊢
    cases hj : ops[j]? with
    | none => simp [hj] at hg
    | some oj =>
      simp only [hj] at hg
      cases hd : oj.dst with
      | none => simp [hd] at hg
      | some d =>
        simp only [hd] at hg
        cases hl : lk fs d with
        | none => simp [hl] at hg
        | some u =>
          simp only [hl] at hg
          have hget0 := h.get d _ hl
          have hother : (∀ b', u ≠ .bool b') → yielded ops a.tmps j = none := fun hne => by
            simp only [Array.getD_eq_getD_getElem?] at hget0
            simp only [yielded, hj, Option.bind_some, hd]
            cases hx : a.tmps[d]? with
            | none => rfl
            | some y =>
              rw [hx] at hget0
              simp only [Option.getD_some] at hget0
              subst hget0
              cases y <;> first | rfl | exact absurd rfl (hne _)
          cases u <;> try (simp only [Option.some.injEq] at hg; rw [hother (fun _ => by simp), ← hg]; rfl)
          rename_i b'
          have hget := h.get d _ hl
          have hlt : a.tmps[d]? = some (.bool b') := by
            simp only [Array.getD_eq_getD_getElem?] at hget
            cases hx : a.tmps[d]? with
            | none => rw [hx] at hget; exact absurd hget (IB b')
            | some y => rw [hx] at hget; simpa using hget
          simp only [yielded, hj, Option.bind_some, hd, hlt]
          simp only [Option.some.injEq] at hg
          rw [← hg]
          cases b' <;> cases want <;> rfl
theorem S.val (hf : fB n fs a) (hs : Sat w0 M σ w) {d : Nat} (hg : gv ops fs o = some true) (hd : o.dst = some d) (hdn : Nat.blt d n = true)
    (hrun : ∀ a w, fB n fs a → Sat w0 M σ w → kC P o a w v) (k : ∀ a, fB n ((d, v) :: fs) a → wpList P ops Q rest a w) : wpList P ops Q (o :: rest) a w := by
  unfold wpList
  rw [zK hf hg, if_pos rfl]
  refine .inl ?_
  unfold Oper.wp
  rw [hrun a w hf hs]
  show wpList P ops Q rest (a.put o.dst v) w
  rw [hd]
  exact k _ (hf.put d (Nat.blt_eq ▸ hdn) v)
theorem S.skip (hf : fB n fs a) {d : Nat} (hg : gv ops fs o = some false) (hd : o.dst = some d) (hdn : Nat.blt d n = true)
    (k : ∀ a, fB n ((d, undef) :: fs) a → wpList P ops Q rest a w) : wpList P ops Q (o :: rest) a w := by
  unfold wpList
  rw [zK hf hg, if_neg (by simp)]
  rw [hd]
  exact k _ (hf.put d (Nat.blt_eq ▸ hdn) undef)
theorem S.split (hf : fB n fs a) (hs : Sat w0 M σ w) {d : Nat} {b : Bool} (hg : gv ops fs o = some true) (hd : o.dst = some d) (hdn : Nat.blt d n = true)
    (hrun : ∀ a w, fB n fs a → Sat w0 M σ w → kC P o a w (.bool b)) (kt : b = true → ∀ a, fB n ((d, .bool true) :: fs) a → wpList P ops Q rest a w)
    (kf : b = false → ∀ a, fB n ((d, .bool false) :: fs) a → wpList P ops Q rest a w) : wpList P ops Q (o :: rest) a w := by
  refine S.val hf hs hg hd hdn hrun (fun a ha => ?_)
  cases b
  · exact kf rfl a ha
  · exact kt rfl a ha
theorem S.act (hf : fB n fs a) {d : Nat} (hg : gv ops fs o = some true) (hd : o.dst = some d) (hdn : Nat.blt d n = true) {R : Value → World → Prop}
    (hrun : ∀ a, fB n fs a → ∃ v w', (execOp a.eval o).run P w = .ok (.value v) w' ∧ R v w') (k : ∀ v a w', fB n ((d, v) :: fs) a → R v w' → wpList P ops Q rest a w') : wpList P ops Q (o :: rest) a w := by
  unfold wpList
  rw [zK hf hg, if_pos rfl]
  refine .inl ?_
  obtain ⟨v, w', hr, hR⟩ := hrun a hf
  unfold Oper.wp
  rw [hr]
  show wpList P ops Q rest (a.put o.dst v) w'
  rw [hd]
  exact k v _ w' (hf.put d (Nat.blt_eq ▸ hdn) v) hR
theorem S.RJ (hf : fB n fs a) (hg : gv ops fs o = some true) (hd : o.dst = none) {R : World → Prop}
    (hrun : ∀ a, fB n fs a → ∃ w', (execOp a.eval o).run P w = .ok .skip w' ∧ R w') (k : ∀ a w', fB n fs a → R w' → wpList P ops Q rest a w') : wpList P ops Q (o :: rest) a w := by
  unfold wpList
  rw [zK hf hg, if_pos rfl]
  refine .inl ?_
  obtain ⟨w', hr, hR⟩ := hrun a hf
  unfold Oper.wp
  rw [hr]
  show wpList P ops Q rest (a.put o.dst undef) w'
  rw [hd]
  exact k _ w' hf hR
theorem S.call (hf : fB n fs a) {d : Nat} (hg : gv ops fs o = some true) (hd : o.dst = some d) (hdn : Nat.blt d n = true) {f : FuncId} {args : Array Value} {R : Value → World → Prop}
    (hrun : ∀ a w, fB n fs a → (execOp a.eval o).run P w = .ok (.enter f args) w) (hc : Calls P f args w fun e w' => ∃ v, e = .returned v ∧ R v w')
    (k : ∀ v a w', fB n ((d, v) :: fs) a → R v w' → wpList P ops Q rest a w') : wpList P ops Q (o :: rest) a w := by
  unfold wpList
  rw [zK hf hg, if_pos rfl]
  refine .inl ?_
  unfold Oper.wp
  rw [hrun a w hf]
  refine Calls.mono hc ?_
  rintro e w' ⟨v, rfl, hR⟩
  show wpList P ops Q rest (a.put o.dst v) w'
  rw [hd]
  exact k v _ w' (hf.put d (Nat.blt_eq ▸ hdn) v) hR
theorem D.val (hf : fB n fs a) {d : Nat} (hg : gv ops fs o = some true) (hd : o.dst = some d) (hdn : Nat.blt d n = true) {K : Act → Prop}
    (hrun : ∀ a w, fB n fs a → Sat w0 M σ w → kC P o a w v) (k : ∀ a, fB n ((d, v) :: fs) a → wpQuiet P ops (Sat w0 M σ) K rest a) : wpQuiet P ops (Sat w0 M σ) K (o :: rest) a := by
  unfold wpQuiet
  rw [zK hf hg, if_pos rfl]
  refine ⟨v, fun w hw => ?_, ?_⟩
  · unfold Oper.quietAt
    rw [hrun a w hf hw]
    exact ⟨rfl, rfl⟩
  · rw [hd]
    exact k _ (hf.put d (Nat.blt_eq ▸ hdn) v)
theorem D.skip (hf : fB n fs a) {d : Nat} (hg : gv ops fs o = some false) (hd : o.dst = some d) (hdn : Nat.blt d n = true) {K : Act → Prop}
    (k : ∀ a, fB n ((d, undef) :: fs) a → wpQuiet P ops (Sat w0 M σ) K rest a) : wpQuiet P ops (Sat w0 M σ) K (o :: rest) a := by
  unfold wpQuiet
  rw [zK hf hg, if_neg (by simp)]
  rw [hd]
  exact k _ (hf.put d (Nat.blt_eq ▸ hdn) undef)
theorem D.split (hf : fB n fs a) {d : Nat} {b : Bool} (hg : gv ops fs o = some true) (hd : o.dst = some d) (hdn : Nat.blt d n = true) {K : Act → Prop}
    (hrun : ∀ a w, fB n fs a → Sat w0 M σ w → kC P o a w (.bool b)) (kt : b = true → ∀ a, fB n ((d, .bool true) :: fs) a → wpQuiet P ops (Sat w0 M σ) K rest a)
    (kf : b = false → ∀ a, fB n ((d, .bool false) :: fs) a → wpQuiet P ops (Sat w0 M σ) K rest a) : wpQuiet P ops (Sat w0 M σ) K (o :: rest) a := by
  refine D.val hf hg hd hdn hrun (fun a ha => ?_)
  cases b
  · exact kf rfl a ha
  · exact kt rfl a ha
theorem D.call (hf : fB n fs a) {d : Nat} (hg : gv ops fs o = some true) (hd : o.dst = some d) (hdn : Nat.blt d n = true) {f : FuncId} {args : Array Value} {K : Act → Prop}
    (hrun : ∀ a w, fB n fs a → (execOp a.eval o).run P w = .ok (.enter f args) w) (hc : ∀ w, Sat w0 M σ w → Calls P f args w fun e w' => e = .returned v ∧ Sat w0 M σ w')
    (k : ∀ a, fB n ((d, v) :: fs) a → wpQuiet P ops (Sat w0 M σ) K rest a) : wpQuiet P ops (Sat w0 M σ) K (o :: rest) a := by
  unfold wpQuiet
  rw [zK hf hg, if_pos rfl]
  refine ⟨v, fun w hw => ?_, ?_⟩
  · unfold Oper.quietAt
    rw [hrun a w hf]
    exact ⟨rfl, hc w hw⟩
  · rw [hd]
    exact k _ (hf.put d (Nat.blt_eq ▸ hdn) v)
theorem D.done {K : Act → Prop} (h : K a) : wpQuiet P ops (Sat w0 M σ) K [] a := h
theorem R.draw {id : Nat} {l : List Oper} (hm : P.follows .mixedOrders = true) (hB : Region.lexB .any l.toArray = true) (hs : Sat w0 M σ w)
    (h : wpQuiet P l.toArray (Sat w0 M σ) (fun a' => ∀ w', Sat w0 M σ w' → Q .normal a' w') l a) : (Code.region id l.toArray true).wp P Q a w :=
  wp_region_quiet (C := Sat w0 M σ) hm hB hs.drew (by simpa using h)
theorem R.list {id : Nat} {l : List Oper} (h : wpList P l.toArray Q l a w) : (Code.region id l.toArray false).wp P Q a w := wp_region_lit h
theorem R.nil (h : Q .normal a w) : wpList P ops Q [] a w := h
end
section
variable {P : Program} {Q : Exit → Act → World → Prop} {a : Act} {w : World} {c c1 c2 : Code} {J : Act → World → Prop} {id : Nat}
theorem X.eH (h : J a w) : Exit.then J Q .normal a w := h
theorem X.eX (h : Q (.exit id) a w) : Exit.then J Q (.exit id) a w := h
theorem X.eu (h : Q .ret a w) : Exit.then J Q .ret a w := h
theorem X.blk (h : Q .normal a w) : Exit.inBlock id Q .normal a w := h
theorem X.fJ (h : Q .normal a w) : Exit.inBlock id Q (.exit id) a w := by unfold Exit.inBlock; simpa using h
theorem X.eP (h : Q .ret a w) : Exit.inBlock id Q .ret a w := h
theorem C.cut (J : Act → World → Prop) (hJ : ∀ a w, J a w → Q .normal a w) (h : c.wp P (Exit.then J Q) a w) : c.wp P Q a w :=
  wp_mono h fun e a w he => by cases e <;> first | exact hJ a w he | exact he
theorem C.cond {n : Nat} {fs : Fr} (hf : fB n fs a) {x : Operand} {b : Bool} (hx : ev fs x = some (.bool b)) (ht : b = true → c1.wp P Q a w) (he : b = false → c2.wp P Q a w) : (Code.cond x c1 c2).wp P Q a w :=
  wp_cond_split (hf.gX hx) ht he
theorem C.yes {n : Nat} {fs : Fr} (hf : fB n fs a) {x : Operand} (hx : ev fs x = some (.bool true)) (h : c1.wp P Q a w) : (Code.cond x c1 c2).wp P Q a w := wp_cond_true (hf.gX hx) h
theorem C.no {n : Nat} {fs : Fr} (hf : fB n fs a) {x : Operand} (hx : ev fs x = some (.bool false)) (h : c2.wp P Q a w) : (Code.cond x c1 c2).wp P Q a w := wp_cond_false (hf.gX hx) h
theorem C.loop (I : Nat → Act → World → Prop) (k : Nat) (h0 : I k a w) (hz : ∀ a w, ¬ I 0 a w)
    (hr : ∀ k a w, I (k + 1) a w → c.wp P (Exit.then (fun a w => I k a w) Q) a w) : (Code.loop c).wp P Q a w := by
  have least : ∀ a w, (∃ k, I k a w) → ∃ k, I k a w ∧ ∀ j, I j a w → k ≤ j := by
    intro a w ⟨k, hk⟩
    induction k using Nat.strongRecOn with
    | _ k ih =>
      rcases Classical.em (∃ j, j < k ∧ I j a w) with ⟨j, hj, hI⟩ | hno
      · exact ih j hj hI
      · exact ⟨k, hk, fun j hj => Nat.le_of_not_lt fun hl => hno ⟨j, hl, hj⟩⟩
  have μ : ∃ μ : Act → World → Nat, ∀ a w, (∃ k, I k a w) → I (μ a w) a w ∧ ∀ j, I j a w → μ a w ≤ j := by
    refine ⟨fun a w => @dite _ (∃ k, I k a w) (Classical.propDecidable _) (fun h => Classical.choose (least a w h)) (fun _ => 0), fun a w h => ?_⟩
    simp only [dif_pos h]
    exact Classical.choose_spec (least a w h)
  obtain ⟨μ, hμ⟩ := μ
  refine wp_loop (fun a w => ∃ k, I k a w) μ ⟨k, h0⟩ fun a w hI => ?_
  have hm := hμ a w hI
  cases hk : μ a w with
  | zero => rw [hk] at hm; exact absurd hm.1 (hz a w)
  | succ k =>
    rw [hk] at hm
    refine wp_mono (hr k a w hm.1) fun e a' w' he => ?_
    cases e <;> try exact he
    have he' : I k a' w' := he
    exact ⟨⟨k, he'⟩, Nat.lt_succ_of_le ((hμ a' w' ⟨k, he'⟩).2 k he')⟩
theorem C.range {α : Type} (I : List α → Act → World → Prop) (l : List α) (h0 : I l a w)
    (hr : ∀ l a w, I l a w → c.wp P (Exit.then (fun a w => ∃ x r, l = x :: r ∧ I r a w) Q) a w) : (Code.loop c).wp P Q a w := by
  refine C.loop (fun k a w => ∃ l : List α, k = l.length + 1 ∧ I l a w) (l.length + 1) ⟨l, rfl, h0⟩ (fun a w ⟨l, h, _⟩ => by cases h) ?_
  rintro k a w ⟨l, hk, hI⟩
  refine wp_mono (hr l a w hI) fun e a' w' he => ?_
  cases e <;> try exact he
  obtain ⟨x, r, rfl, hI'⟩ := (he : ∃ x r, l = x :: r ∧ I r a' w')
  exact ⟨r, by simpa using hk, hI'⟩
end
abbrev w64 (n : Int) : Int := IntKind.i64.wrap n
def cnd (b : Bool) (A B : Prop) : Prop := (b = true → A) ∧ (b = false → B)
def idx {α : Type} (xs : List α) (i : Int) (k : α → Prop) : Prop := 0 ≤ i ∧ ∃ x, xs[i.toNat]? = some x ∧ k x
def must (p : Prop) (k : Prop) : Prop := p ∧ k
def nC {σ : Type} (F : (σ → Prop) → σ → Prop) : Nat → σ → Prop
  | 0, _ => False
  | k + 1, s => F (nC F k) s
def lp {σ : Type} (F : (σ → Prop) → σ → Prop) (s : σ) : Prop := ∃ k, nC F k s
def forIn' {α σ : Type} (body : Nat → α → σ → (σ → Prop) → Prop) (done : σ → Prop) : List α → Nat → σ → Prop
  | [], _, s => done s
  | x :: r, k, s => body k x s (fun s' => forIn' body done r (k + 1) s')
theorem sQ {σ : Type} {F : (σ → Prop) → σ → Prop} (I : σ → Prop) (μ : σ → Nat) {s : σ} (h0 : I s)
    (step : ∀ (X : σ → Prop) s, I s → (∀ s', I s' → μ s' < μ s → X s') → F X s) : lp F s := by
  have key : ∀ k s, I s → μ s < k → nC F k s := by
    intro k
    induction k with
    | zero => intro s _ h; omega
    | succ k ih => intro s hI hk; exact step _ s hI fun s' hI' hlt => ih s' hI' (by omega)
  exact ⟨_, key (μ s + 1) s h0 (Nat.lt_succ_self _)⟩
theorem EL {α σ : Type} {body : Nat → α → σ → (σ → Prop) → Prop} {done : σ → Prop} (I : Nat → σ → Prop) :
    ∀ (l : List α) (k : Nat) (s : σ), I k s → (∀ j x s, l[j]? = some x → I (k + j) s → ∀ next : σ → Prop, (∀ s', I (k + j + 1) s' → next s') → body (k + j) x s next) → (∀ s, I (k + l.length) s → done s) → forIn' body done l k s
  | [], k, s, h0, _, hd => hd s (by simpa using h0)
  | x :: r, k, s, h0, hstep, hd => by
    refine hstep 0 x s rfl h0 _ (fun s' hs' => EL I r (k + 1) s' hs' (fun j y s hj hI next hn => ?_) (fun s hs => hd s ?_))
    · have := hstep (j + 1) y s (by simpa using hj) (by rw [show k + (j + 1) = k + 1 + j by omega]; exact hI) next (fun s' h => hn s' (by rw [show k + 1 + j + 1 = k + (j + 1) + 1 by omega]; exact h))
      rw [show k + 1 + j = k + (j + 1) by omega]; exact this
    · simp only [List.length_cons]; rw [show k + (r.length + 1) = k + 1 + r.length by omega]; exact hs
end Go.Proofs.YtbegofbmbcghdaaGreatDoor

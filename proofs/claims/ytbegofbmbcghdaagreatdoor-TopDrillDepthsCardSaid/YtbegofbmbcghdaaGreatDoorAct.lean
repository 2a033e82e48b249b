/- Chapter texts of ours, as far as the claim needs them. -/
import Derived.Test.YtbegofbmbcghdaaGreatDoorMem
namespace Go.Proofs.YtbegofbmbcghdaaGreatDoor
open Go Go.RowKit
set_option linter.unusedVariables false
set_option linter.unusedSectionVars false
set_option linter.unusedSimpArgs false
section
variable {w w0 : World} {M : Nat → Prop} {σ : List gJ} {p q : gJ}
theorem eraseIdx_set {α : Type} : ∀ (l : List α) (k : Nat) (x : α), (l.set k x).eraseIdx k = l.eraseIdx k
  | [], k, x => by simp
  | y :: l, 0, x => by simp
  | y :: l, k + 1, x => by simp [eraseIdx_set l k x]
theorem getElem?_set_self' {α : Type} (l : List α) (k : Nat) (x y : α) (h : l[k]? = some y) : (l.set k x)[k]? = some x := by
  rw [List.getElem?_set_self (List.getElem?_eq_some_iff.1 h).1]
theorem Sat.upd (h : Sat w0 M σ w) (k : Nat) (hk : σ[k]? = some p) : ∃ F : Nat → Prop, p.holds w F ∧ (∀ b, F b → b < w.heap.size) ∧
    ∀ (w' : World) (p' : gJ) (F' : Nat → Prop), Keeps w F w' → p'.holds w' F' → (∀ b, F' b → (F b ∨ w.heap.size ≤ b) ∧ b < w'.heap.size) → Sat w0 M (σ.set k p') w' := by
  obtain ⟨F, hp, hF, hall⟩ := (h.front k hk).turn
  refine ⟨F, hp, hF, fun w' p' F' h1 h2 h3 => (hall w' p' F' h1 h2 h3).perm ?_⟩
  have := sJ k (σ.set k p') p' (getElem?_set_self' σ k p' p hk)
  rw [eraseIdx_set] at this
  exact this.symm
theorem Sat.call {w' : World} {L : List gJ} (h : Sat w0 M σ w) (h' : Sat w (fun _ => False) L w') : Sat w0 M (L ++ σ) w' := by
  have key : ∀ (L : List gJ) (U : Nat → Prop), ji w' (fun b => (False ∨ w.heap.size ≤ b) ∧ b < w'.heap.size) L U → (∀ b, U b → w.heap.size ≤ b) → ji w' (fun b => (M b ∨ w0.heap.size ≤ b) ∧ b < w'.heap.size) (L ++ σ) U := by
    intro L
    induction L with
    | nil =>
      intro U _ hU
      refine ji.mono h.sat (fun b hz => ⟨hz.1, Nat.lt_of_lt_of_le hz.2 h'.keeps.size⟩) (fun b hz _ e => ?_) (fun b hz _ => h'.keeps.block b hz.2 (fun e => e))
      have := hU b e; have := hz.2; omega
    | cons p L ih =>
      intro U ⟨F, hp, hF, hr⟩ hU
      refine ⟨F, hp, fun b hb => ⟨⟨.inr (Nat.le_trans h.keeps.size ((hF b hb).1.1.resolve_left (fun e => e))), (hF b hb).1.2⟩, (hF b hb).2⟩, ih _ hr (fun b hb => ?_)⟩
      rcases hb with hb | hb
      · exact hU b hb
      · exact (hF b hb).1.1.resolve_left (fun e => e)
  exact ⟨h.keeps.trans h'.keeps (fun _ _ e => e.elim), key L _ h'.sat (fun _ e => e.elim)⟩
end
theorem lU (w : World) (o : Obj) : (w.alloc o).heap[w.heap.size]? = some o := by
  show (w.heap.push o)[w.heap.size]? = some o
  simp
theorem size_setRow (w : World) (g : Nat) (cs : Array Value) : (w.setRow g cs).heap.size = w.heap.size := by simp [World.setRow]
theorem Keeps.setRow (w : World) (g : Nat) (cs : Array Value) {M : Nat → Prop} (h : M g) : Keeps w M (w.setRow g cs) :=
  ⟨rfl, rfl, rfl, by rw [size_setRow]; exact Nat.le_refl _, fun b _ hm => setRow_other w g b cs (fun e => hm (e ▸ h)), fun _ => Nat.le_refl _⟩
def Ret (P : Program) (f : FuncId) (args : Array Value) (w : World) (R : Value → World → Prop) : Prop := Calls P f args w fun e w' => ∃ v, e = .returned v ∧ R v w'
theorem Ret.mono {P : Program} {f : FuncId} {args : Array Value} {w : World} {R R' : Value → World → Prop} (h : Ret P f args w R) (hr : ∀ v w', R v w' → R' v w') : Ret P f args w R' :=
  Calls.mono h fun e w' ⟨v, he, hR⟩ => ⟨v, he, hr v w' hR⟩
section
variable {P : Program} {n : Nat} {fs : Fr} {a : Act} {o : Oper} {v : Value} {ops : Array Oper} {rest : List Oper} {Q : Exit → Act → World → Prop} {w w0 : World} {M : Nat → Prop} {σ : List gJ}
theorem S.box (hf : fB n fs a) (hs : Sat w0 M σ w) {d : Nat} (hg : gv ops fs o = some true) (hd : o.dst = some d) (hdn : Nat.blt d n = true) {e : TypeId} {x : Operand} (vs : List Value)
    (ho : o.op = .box e x) (hx : ev fs x = some v) (hv : v.cells = vs.toArray)
    (k : ∀ g a w', fB n ((d, .pointer (some ⟨g, 0, none⟩)) :: fs) a → Sat w0 M (hbox g e vs :: σ) w' → wpList P ops Q rest a w') : wpList P ops Q (o :: rest) a w := by
  refine S.act (R := fun u w' => ∃ g, u = .pointer (some ⟨g, 0, none⟩) ∧ Sat w0 M (hbox g e vs :: σ) w') hf hg hd hdn (fun a hf => ?_) (fun u a w' hf ⟨g, hu, hs⟩ => k g a w' (hu ▸ hf) hs)
  have e1 := hf.gX hx
  refine ⟨.pointer (some ⟨w.heap.size, 0, none⟩), w.alloc (.cells vs.toArray e), ?_, w.heap.size, rfl, hs.add (Keeps.alloc w _ _) (F' := fun b => b = w.heap.size) ⟨lU w _, fun b => Iff.rfl⟩ (fun b hb => by subst hb; simp)⟩
  unfold execOp
  simp only [ho, e1, Instr.box, newVar, newRow, hv]
  rfl
theorem S.alloc (hf : fB n fs a) (hs : Sat w0 M σ w) {d : Nat} (hg : gv ops fs o = some true) (hd : o.dst = some d) (hdn : Nat.blt d n = true) {e : TypeId} (vs : List Value)
    (ho : o.op = .alloc e) (hz : ∀ w, (zeroValue e).run P w = .ok v w) (hv : v.cells = vs.toArray)
    (k : ∀ g a w', fB n ((d, .pointer (some ⟨g, 0, none⟩)) :: fs) a → Sat w0 M (hbox g e vs :: σ) w' → wpList P ops Q rest a w') : wpList P ops Q (o :: rest) a w := by
  refine S.act (R := fun u w' => ∃ g, u = .pointer (some ⟨g, 0, none⟩) ∧ Sat w0 M (hbox g e vs :: σ) w') hf hg hd hdn (fun a hf => ?_) (fun u a w' hf ⟨g, hu, hs⟩ => k g a w' (hu ▸ hf) hs)
  refine ⟨.pointer (some ⟨w.heap.size, 0, none⟩), w.alloc (.cells vs.toArray e), ?_, w.heap.size, rfl, hs.add (Keeps.alloc w _ _) (F' := fun b => b = w.heap.size) ⟨lU w _, fun b => Iff.rfl⟩ (fun b hb => by subst hb; simp)⟩
  unfold execOp
  simp only [ho, Instr.alloc, Sem.run_bind, hz, Result.andThen_ok, newVar, newRow, hv]
  rfl
theorem S.fG (q : Nat) (hf : fB n fs a) (hs : Sat w0 M σ w) (hg : gv ops fs o = some true) (hd : o.dst = none) {t : TypeId} {x y : Operand} {g off m : Nat} {e : TypeId} {vs : List Value} (us vs' : List Value) (hq : σ[q]? = some (hbox g e vs))
    (ho : o.op = .store t x y) (hx : ev fs x = some (.pointer (some ⟨g, off, none⟩))) (hy : ev fs y = some v) (hv : v.cells = us.toArray) (hsz : ∀ w, (Go.sizeOf t).run P w = .ok m w)
    (hl : Nat.beq us.length m = true) (hfit : Nat.ble (off + m) vs.length = true) (h1 : us.all (·.oneCell') = true) (hvs : vs.take off ++ us ++ vs.drop (off + m) = vs')
    (k : ∀ a w', fB n fs a → Sat w0 M (σ.set q (hbox g e vs')) w' → wpList P ops Q rest a w') : wpList P ops Q (o :: rest) a w := by
  refine S.RJ (R := fun w' => Sat w0 M (σ.set q (hbox g e vs')) w') hf hg hd (fun a hf => ?_) (fun a w' hf hs => k a w' hf hs)
  obtain ⟨F, ⟨hh, hF⟩, hlt, hupd⟩ := hs.upd q hq
  have e1 := hf.gX hx
  have e2 := hf.gX hy
  have hl' := Nat.eq_of_beq_eq_true hl
  have hfit' := Nat.le_of_ble_eq_true hfit
  have hr := EI (P := P) (w := w) hsz g off e vs.toArray hh v us hv hl' (by simpa using hfit') (fun u hu => (List.all_eq_true.1 h1) u hu)
  refine ⟨_, ?_, hupd (w.setRow g vs'.toArray) (hbox g e vs') F (Keeps.setRow w g _ ((hF g).2 rfl)) ⟨setRow_heap w g vs.toArray vs'.toArray e _ hh, hF⟩ (fun b hb => ⟨.inl hb, by rw [size_setRow]; exact hlt b hb⟩)⟩
  unfold execOp
  simp only [ho, e1, e2, Sem.run_bind, hr, Result.andThen_ok]
  rw [← hvs]; rfl
theorem splice {β : Type} (cur : List β) (N base sz off m : Nat) (z us : List β) (h1 : base + sz ≤ N) (h2 : N ≤ cur.length) (h3 : off + m ≤ sz) (h4 : us.length = m) (h5 : z.length = sz) (h6 : ∀ j, j < sz → z[j]? = cur[base + j]?) :
    (cur.take (base + off) ++ us ++ cur.drop (base + off + m)).take N = (cur.take N).take base ++ (z.take off ++ us ++ z.drop (off + m)) ++ (cur.take N).drop (base + sz) := by
  apply List.ext_getElem?
  intro j
  have ez : ∀ k, z[k]? = if k < sz then cur[base + k]? else none := fun k => by
    by_cases hk : k < sz
    · rw [if_pos hk, h6 k hk]
    · rw [if_neg hk, List.getElem?_eq_none (by omega)]
  simp only [List.getElem?_append, List.getElem?_take, List.getElem?_drop, List.length_append, List.length_take, List.length_drop, h4, h5, ez, Nat.min_def]
  grind
theorem S.zA (q : Nat) (hf : fB n fs a) (hs : Sat w0 M σ w) (hg : gv ops fs o = some true) (hd : o.dst = none) {t : TypeId} {x y : Operand} {α : Type} [Flat α] {e : TypeId} {A : Option Addr} {C : Nat} {xs : List α} {i k' off m : Nat} {z : α} (z' : α) (us : List Value)
    (hq : σ[q]? = some (hown e A C xs)) (hz : xs[i]? = some z) (ho : o.op = .store t x y) (hx : ev fs x = some (fA A k')) (hk : k' = i * Flat.sz α + off) (hy : ev fs y = some v) (hv : v.cells = us.toArray)
    (hsz : ∀ w, (Go.sizeOf t).run P w = .ok m w) (hl : us.length = m) (hfit : off + m ≤ Flat.sz α) (h1 : us.all (·.oneCell') = true) (hvs : (Flat.enc z).take off ++ us ++ (Flat.enc z).drop (off + m) = Flat.enc z')
    (k : ∀ a w', fB n fs a → Sat w0 M (σ.set q (hown e A C (xs.set i z'))) w' → wpList P ops Q rest a w') : wpList P ops Q (o :: rest) a w := by
  refine S.RJ (R := fun w' => Sat w0 M (σ.set q (hown e A C (xs.set i z'))) w') hf hg hd (fun a hf => ?_) (fun a w' hf hs => k a w' hf hs)
  obtain ⟨F, hp, hlt, hupd⟩ := hs.upd q hq
  have e1 := hf.gX hx
  have e2 := hf.gX hy
  obtain ⟨hi, hzi⟩ := List.getElem?_eq_some_iff.1 hz
  obtain ⟨g, cur, rfl, hh, hC, hM, hcs, htake, hF⟩ := yc hp hi
  have hin : i * Flat.sz α + Flat.sz α ≤ xs.length * Flat.sz α := by
    have : (i + 1) * Flat.sz α ≤ xs.length * Flat.sz α := Nat.mul_le_mul_right _ hi
    rw [Nat.add_mul] at this; omega
  have hCs : xs.length * Flat.sz α ≤ C * Flat.sz α := Nat.mul_le_mul_right _ hC
  have hr := EI (P := P) (w := w) hsz g k' e cur hh v us hv hl (by rw [hcs, hk]; omega) (fun u hu => (List.all_eq_true.1 h1) u hu)
  have hcl : cur.toList.length = C * Flat.sz α := by simpa using hcs
  refine ⟨_, ?_, hupd (w.setRow g (cur.toList.take k' ++ us ++ cur.toList.drop (k' + m)).toArray) (hown e (some ⟨g, 0, none⟩) C (xs.set i z')) F (Keeps.setRow w g _ ((hF g).2 rfl)) ⟨⟨?_, ?_⟩, fun b => (hF b).trans (by simp [Value.ownBlock]; exact eq_comm)⟩ (fun b hb => ⟨.inl hb, by rw [size_setRow]; exact hlt b hb⟩)⟩
  · unfold execOp
    simp only [ho, e1, e2, fA, Addr.add_lit, Nat.zero_add, Sem.run_bind, hr, Result.andThen_ok]
    rfl
  · rw [fV]
  · refine .inr ⟨g, C, (cur.toList.take k' ++ us ++ cur.toList.drop (k' + m)).toArray, by simp, Nat.zero_le _, setRow_heap w g cur _ e _ hh, by simpa using hC, hM, ?_, ?_⟩
    · simp only [List.size_toArray, List.length_append, List.length_take, List.length_drop, hcl, hl, hk]
      omega
    · rw [← Bl xs i z' hi, ← hvs, ← htake, List.length_set, hk]
      refine splice cur.toList (xs.length * Flat.sz α) (i * Flat.sz α) (Flat.sz α) off m (Flat.enc z) us hin (by omega) hfit hl (Flat.len z) (fun j hj => ?_)
      rw [← jD xs i z hz j hj, ← htake, List.getElem?_take, if_pos (by omega)]
def evs (fs : Fr) : List Operand → Option (List Value)
  | [] => some []
  | x :: r => match ev fs x, evs fs r with
    | some v, some l => some (v :: l)
    | _, _ => none
theorem NE (h : fB n fs a) : ∀ {l : List Operand} {m : List Value}, evs fs l = some m → l.map a.eval = m
  | [], m, hm => by simpa [evs] using hm
  | x :: l, m, hm => by
    unfold evs at hm
    split at hm <;> try (cases hm; done)
    rename_i v r hv hr
    simp only [Option.some.injEq] at hm
    subst hm
    simp [h.gX hv, NE h hr]
theorem uj {x : Operand} {xs : Array Operand} {ts : Array TypeId} {f : FuncId} {first cap : Array Value} {vs : List Value} (ho : o.op = .call ⟨.value x, xs, ts⟩) (hx : ev fs x = some (.func (.func f) first cap)) (hxs : evs fs xs.toList = some vs)
    (hc : ∀ args w, (callFunc f args).run P w = .ok (.enter f args) w) {args : Array Value} (hargs : first ++ vs.toArray ++ cap = args) :
    ∀ a w, fB n fs a → (execOp a.eval o).run P w = .ok (.enter f args) w := fun a w hf => by
  have e1 := hf.gX hx
  have e2 : xs.map a.eval = vs.toArray := Array.ext' (by rw [Array.toList_map]; exact NE hf hxs)
  unfold execOp
  simp only [ho, resolve, e1, e2, Deferred.ofValue, Sem.run_bind, Sem.run_pure, Result.andThen_ok, invoke]
  rw [← hargs]
  exact hc _ w
theorem Cm {x : Operand} {xs : Array Operand} {ts : Array TypeId} {f : FuncId} {vs : List Value} (ho : o.op = .call ⟨.value x, xs, ts⟩) (hx : ev fs x = some (.func (.func f) #[] #[])) (hxs : evs fs xs.toList = some vs)
    (hc : ∀ args w, (callFunc f args).run P w = .ok (.enter f args) w) : ∀ a w, fB n fs a → (execOp a.eval o).run P w = .ok (.enter f vs.toArray) w :=
  uj ho hx hxs hc (by simp)
end
def EC : Nat → List Value → Fr
  | _, [] => []
  | k, v :: r => (k, v) :: EC (k + 1) r
theorem H6 : ∀ (l : List Value) (k t : Nat) (v : Value), lk (EC k l) t = some v → k ≤ t ∧ l[t - k]? = some v
  | [], k, t, v, h => by simp [EC, lk] at h
  | u :: r, k, t, v, h => by
    unfold EC lk at h
    cases hb : Nat.beq t k with
    | true =>
      simp only [hb, cond_true, Option.some.injEq] at h
      have := Nat.eq_of_beq_eq_true hb
      subst this; subst h
      simp
    | false =>
      simp only [hb, cond_false] at h
      obtain ⟨h1, h2⟩ := H6 r (k + 1) t v h
      refine ⟨by omega, ?_⟩
      rw [show t - k = (t - (k + 1)) + 1 by omega]
      simpa using h2
theorem fC {P : Program} {f : FuncId} {fn : Func} {c : Code} {n : Nat} {args : List Value} {fs : Fr} {w : World} {R : Value → World → Prop} (hf : P.funcs[f]? = some fn) (hb : fn.body = some c) (hn : fn.ntmps = n) (hl : Nat.ble args.length n = true)
    (hfs : EC 0 args = fs) (h : ∀ a, fB n fs a → c.wp P (bodyPost P fn (fun e w' => ∃ v, e = .returned v ∧ R v w')) a w) : Ret P f args.toArray w R := by
  refine calls_of_wp hf hb (h _ ?_)
  subst hfs
  have hl' := Nat.le_of_ble_eq_true hl
  refine ⟨by simp [hn]; omega, rfl, fun t v hv => ?_⟩
  obtain ⟨_, h2⟩ := H6 args 0 t v hv
  simp only [Nat.sub_zero] at h2
  have hlt := (List.getElem?_eq_some_iff.1 h2).1
  simp only [Array.getD_eq_getD_getElem?]
  rw [Array.getElem?_append_left (by simpa using hlt)]
  simp [h2]
section
variable {P : Program} {fn : Func} {n : Nat} {fs : Fr} {a : Act} {w : World} {R : Value → World → Prop}
def iH (P : Program) (w : World) (a : Act) (r : ResultVar) (v : Value) : Prop := (match r with
    | .tmp t => (pure (a.tmps.getD t undef) : Sem Value)
    | .cell x t => do loadVar t (← asAddr (a.tmps.getD x undef))).run P w = .ok v w
theorem iH.tmp (hf : fB n fs a) {t : Nat} {v : Value} (h : lk fs t = some v) : iH P w a (.tmp t) v := by
  unfold iH
  simp only [hf.get t v h]
  rfl
theorem iH.box (hf : fB n fs a) {w0 : World} {M : Nat → Prop} {σ : List gJ} (hs : Sat w0 M σ w) (q : Nat) {x t g m : Nat} {e : TypeId} {vs : List Value} {v : Value} {agg : Bool} (hq : σ[q]? = some (hbox g e vs)) (h : lk fs x = some (.pointer (some ⟨g, 0, none⟩)))
    (hag : ∀ w, (isAgg t).run P w = .ok agg w) (hsz : ∀ w, (Go.sizeOf t).run P w = .ok m w) (hl : Nat.beq vs.length m = true) (hv : mkv agg vs = some v) : iH P w a (.cell x t) v := by
  obtain ⟨F, ⟨hg, _⟩, _⟩ := hs.nth hq
  have := zL (P := P) (w := w) hag hsz ⟨g, 0, none⟩ vs (Nat.eq_of_beq_eq_true hl) (fun j u hu => by rw [Addr.add_lit, cell_of_row w g _ vs.toArray e (0, 0) hg]; simpa using hu) hv
  unfold iH
  simp only [hf.get x _ h]
  exact this
theorem L.Tf (hr : fn.results = #[]) (hf : fB n fs a) (h : R (.tuple #[]) w) : bodyPost P fn (fun e w' => ∃ v, e = .returned v ∧ R v w') .normal a w :=
  ⟨hf.defers, _, by simp [results, hr], _, rfl, h⟩
theorem iV {r : ResultVar} (hr : fn.results = #[r]) {v : Value} (h1 : iH P w a r v) : (results fn a.tmps).run P w = .ok v w := by
  have key : ∀ g : ResultVar → Sem Value, (g r).run P w = .ok v w → (do let vs ← (#[r] : Array ResultVar).mapM g; pure (if h : vs.size = 1 then vs[0] else .tuple vs) : Sem Value).run P w = .ok v w := by
    intro g h1
    simp [h1]
  unfold results
  rw [hr]
  exact key _ h1
theorem xq {r s : ResultVar} (hr : fn.results = #[r, s]) {v u : Value} (h1 : iH P w a r v) (h2 : iH P w a s u) : (results fn a.tmps).run P w = .ok (.tuple #[v, u]) w := by
  have key : ∀ g : ResultVar → Sem Value, (g r).run P w = .ok v w → (g s).run P w = .ok u w → (do let vs ← (#[r, s] : Array ResultVar).mapM g; pure (if h : vs.size = 1 then vs[0] else .tuple vs) : Sem Value).run P w = .ok (.tuple #[v, u]) w := by
    intro g h1 h2
    simp [h1, h2]
  unfold results
  rw [hr]
  exact key _ h1 h2
theorem mY {r s t : ResultVar} (hr : fn.results = #[r, s, t]) {v u x : Value} (h1 : iH P w a r v) (h2 : iH P w a s u) (h3 : iH P w a t x) : (results fn a.tmps).run P w = .ok (.tuple #[v, u, x]) w := by
  have key : ∀ g : ResultVar → Sem Value, (g r).run P w = .ok v w → (g s).run P w = .ok u w → (g t).run P w = .ok x w → (do let vs ← (#[r, s, t] : Array ResultVar).mapM g; pure (if h : vs.size = 1 then vs[0] else .tuple vs) : Sem Value).run P w = .ok (.tuple #[v, u, x]) w := by
    intro g h1 h2 h3
    simp [h1, h2, h3]
  unfold results
  rw [hr]
  exact key _ h1 h2 h3
theorem L.ret (hf : fB n fs a) {v : Value} (hr : (results fn a.tmps).run P w = .ok v w) (h : R v w) : bodyPost P fn (fun e w' => ∃ v, e = .returned v ∧ R v w') .ret a w :=
  ⟨hf.defers, v, hr, v, rfl, h⟩
end
end Go.Proofs.YtbegofbmbcghdaaGreatDoor

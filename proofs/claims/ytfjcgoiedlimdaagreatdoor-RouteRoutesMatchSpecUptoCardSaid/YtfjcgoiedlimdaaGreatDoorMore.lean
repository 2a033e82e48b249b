/- Chapter texts of ours, as far as the claim needs them. -/
import Derived.Test.YtfjcgoiedlimdaaGreatDoorMem
import Derived.Maps.AppendAt
namespace Go.Proofs.YtfjcgoiedlimdaaGreatDoor
open Go Go.RowKit
set_option linter.unusedVariables false
set_option linter.unusedSectionVars false
set_option linter.unusedSimpArgs false
section
variable {w w0 : World} {M : Nat → Prop} {σ : List gW} {p q : gW}
theorem eraseIdx_set {α : Type} : ∀ (l : List α) (k : Nat) (x : α), (l.set k x).eraseIdx k = l.eraseIdx k
  | [], k, x => by simp
  | y :: l, 0, x => by simp
  | y :: l, k + 1, x => by simp [eraseIdx_set l k x]
theorem getElem?_set_self' {α : Type} (l : List α) (k : Nat) (x y : α) (h : l[k]? = some y) : (l.set k x)[k]? = some x := by
  rw [List.getElem?_set_self (List.getElem?_eq_some_iff.1 h).1]
theorem Sat.upd (h : Sat w0 M σ w) (k : Nat) (hk : σ[k]? = some p) : ∃ F : Nat → Prop, p.holds w F ∧ (∀ b, F b → b < w.heap.size) ∧
    ∀ (w' : World) (p' : gW) (F' : Nat → Prop), Keeps w F w' → p'.holds w' F' → (∀ b, F' b → (F b ∨ w.heap.size ≤ b) ∧ b < w'.heap.size) → Sat w0 M (σ.set k p') w' := by
  obtain ⟨F, hp, hF, hall⟩ := (h.front k hk).turn
  refine ⟨F, hp, hF, fun w' p' F' h1 h2 h3 => (hall w' p' F' h1 h2 h3).perm ?_⟩
  have := uK k (σ.set k p') p' (getElem?_set_self' σ k p' p hk)
  rw [eraseIdx_set] at this
  exact this.symm
theorem Sat.call {w' : World} {L : List gW} (h : Sat w0 M σ w) (h' : Sat w (fun _ => False) L w') : Sat w0 M (L ++ σ) w' := by
  have key : ∀ (L : List gW) (U : Nat → Prop), jB w' (fun b => (False ∨ w.heap.size ≤ b) ∧ b < w'.heap.size) L U → (∀ b, U b → w.heap.size ≤ b) → jB w' (fun b => (M b ∨ w0.heap.size ≤ b) ∧ b < w'.heap.size) (L ++ σ) U := by
    intro L
    induction L with
    | nil =>
      intro U _ hU
      refine jB.mono h.sat (fun b hz => ⟨hz.1, Nat.lt_of_lt_of_le hz.2 h'.keeps.size⟩) (fun b hz _ e => ?_) (fun b hz _ => h'.keeps.block b hz.2 (fun e => e))
      have := hU b e; have := hz.2; omega
    | cons p L ih =>
      intro U ⟨F, hp, hF, hr⟩ hU
      refine ⟨F, hp, fun b hb => ⟨⟨.inr (Nat.le_trans h.keeps.size ((hF b hb).1.1.resolve_left (fun e => e))), (hF b hb).1.2⟩, (hF b hb).2⟩, ih _ hr (fun b hb => ?_)⟩
      rcases hb with hb | hb
      · exact hU b hb
      · exact (hF b hb).1.1.resolve_left (fun e => e)
  exact ⟨h.keeps.trans h'.keeps (fun _ _ e => e.elim), key L _ h'.sat (fun _ e => e.elim)⟩
end
theorem jH (w : World) (o : Obj) : (w.alloc o).heap[w.heap.size]? = some o := by
  show (w.heap.push o)[w.heap.size]? = some o
  simp
theorem size_setRow (w : World) (g : Nat) (cs : Array Value) : (w.setRow g cs).heap.size = w.heap.size := by simp [World.setRow]
theorem Keeps.setRow (w : World) (g : Nat) (cs : Array Value) {M : Nat → Prop} (h : M g) : Keeps w M (w.setRow g cs) :=
  ⟨rfl, rfl, rfl, by rw [size_setRow]; exact Nat.le_refl _, fun b _ hm => setRow_other w g b cs (fun e => hm (e ▸ h)), fun _ => Nat.le_refl _⟩
def Ret (P : Program) (f : FuncId) (args : Array Value) (w : World) (R : Value → World → Prop) : Prop := Calls P f args w fun e w' => ∃ v, e = .returned v ∧ R v w'
theorem Ret.mono {P : Program} {f : FuncId} {args : Array Value} {w : World} {R R' : Value → World → Prop} (h : Ret P f args w R) (hr : ∀ v w', R v w' → R' v w') : Ret P f args w R' :=
  Calls.mono h fun e w' ⟨v, he, hR⟩ => ⟨v, he, hr v w' hR⟩
section
variable {P : Program} {n : Nat} {fs : Fr} {a : Act} {o : Oper} {v : Value} {ops : Array Oper} {rest : List Oper} {Q : Exit → Act → World → Prop} {w w0 : World} {M : Nat → Prop} {σ : List gW}
theorem S.box (hf : eU n fs a) (hs : Sat w0 M σ w) {d : Nat} (hg : gv ops fs o = some true) (hd : o.dst = some d) (hdn : Nat.blt d n = true) {e : TypeId} {x : Operand} (vs : List Value)
    (ho : o.op = .box e x) (hx : ev fs x = some v) (hv : v.cells = vs.toArray)
    (k : ∀ g a w', eU n ((d, .pointer (some ⟨g, 0, none⟩)) :: fs) a → Sat w0 M (hbox g e vs :: σ) w' → wpList P ops Q rest a w') : wpList P ops Q (o :: rest) a w := by
  refine S.act (R := fun u w' => ∃ g, u = .pointer (some ⟨g, 0, none⟩) ∧ Sat w0 M (hbox g e vs :: σ) w') hf hg hd hdn (fun a hf => ?_) (fun u a w' hf ⟨g, hu, hs⟩ => k g a w' (hu ▸ hf) hs)
  have e1 := hf.gZ hx
  refine ⟨.pointer (some ⟨w.heap.size, 0, none⟩), w.alloc (.cells vs.toArray e), ?_, w.heap.size, rfl, hs.add (Keeps.alloc w _ _) (F' := fun b => b = w.heap.size) ⟨jH w _, fun b => Iff.rfl⟩ (fun b hb => by subst hb; simp)⟩
  unfold execOp
  simp only [ho, e1, Instr.box, newVar, newRow, hv]
  rfl
theorem S.alloc (hf : eU n fs a) (hs : Sat w0 M σ w) {d : Nat} (hg : gv ops fs o = some true) (hd : o.dst = some d) (hdn : Nat.blt d n = true) {e : TypeId} (vs : List Value)
    (ho : o.op = .alloc e) (hz : ∀ w, (zeroValue e).run P w = .ok v w) (hv : v.cells = vs.toArray)
    (k : ∀ g a w', eU n ((d, .pointer (some ⟨g, 0, none⟩)) :: fs) a → Sat w0 M (hbox g e vs :: σ) w' → wpList P ops Q rest a w') : wpList P ops Q (o :: rest) a w := by
  refine S.act (R := fun u w' => ∃ g, u = .pointer (some ⟨g, 0, none⟩) ∧ Sat w0 M (hbox g e vs :: σ) w') hf hg hd hdn (fun a hf => ?_) (fun u a w' hf ⟨g, hu, hs⟩ => k g a w' (hu ▸ hf) hs)
  refine ⟨.pointer (some ⟨w.heap.size, 0, none⟩), w.alloc (.cells vs.toArray e), ?_, w.heap.size, rfl, hs.add (Keeps.alloc w _ _) (F' := fun b => b = w.heap.size) ⟨jH w _, fun b => Iff.rfl⟩ (fun b hb => by subst hb; simp)⟩
  unfold execOp
  simp only [ho, Instr.alloc, Sem.run_bind, hz, Result.andThen_ok, newVar, newRow, hv]
  rfl
theorem S.fM (q : Nat) (hf : eU n fs a) (hs : Sat w0 M σ w) (hg : gv ops fs o = some true) (hd : o.dst = none) {t : TypeId} {x y : Operand} {g off m : Nat} {e : TypeId} {vs : List Value} (us vs' : List Value) (hq : σ[q]? = some (hbox g e vs))
    (ho : o.op = .store t x y) (hx : ev fs x = some (.pointer (some ⟨g, off, none⟩))) (hy : ev fs y = some v) (hv : v.cells = us.toArray) (hsz : ∀ w, (Go.sizeOf t).run P w = .ok m w)
    (hl : Nat.beq us.length m = true) (hfit : Nat.ble (off + m) vs.length = true) (h1 : us.all (·.oneCell') = true) (hvs : vs.take off ++ us ++ vs.drop (off + m) = vs')
    (k : ∀ a w', eU n fs a → Sat w0 M (σ.set q (hbox g e vs')) w' → wpList P ops Q rest a w') : wpList P ops Q (o :: rest) a w := by
  refine S.P8 (R := fun w' => Sat w0 M (σ.set q (hbox g e vs')) w') hf hg hd (fun a hf => ?_) (fun a w' hf hs => k a w' hf hs)
  obtain ⟨F, ⟨hh, hF⟩, hlt, hupd⟩ := hs.upd q hq
  have e1 := hf.gZ hx
  have e2 := hf.gZ hy
  have hl' := Nat.eq_of_beq_eq_true hl
  have hfit' := Nat.le_of_ble_eq_true hfit
  have hr := CZ (P := P) (w := w) hsz g off e vs.toArray hh v us hv hl' (by simpa using hfit') (fun u hu => (List.all_eq_true.1 h1) u hu)
  refine ⟨_, ?_, hupd (w.setRow g vs'.toArray) (hbox g e vs') F (Keeps.setRow w g _ ((hF g).2 rfl)) ⟨setRow_heap w g vs.toArray vs'.toArray e _ hh, hF⟩ (fun b hb => ⟨.inl hb, by rw [size_setRow]; exact hlt b hb⟩)⟩
  unfold execOp
  simp only [ho, e1, e2, Sem.run_bind, hr, Result.andThen_ok]
  rw [← hvs]; rfl
theorem splice {β : Type} (cur : List β) (N base sz off m : Nat) (z us : List β) (h1 : base + sz ≤ N) (h2 : N ≤ cur.length) (h3 : off + m ≤ sz) (h4 : us.length = m) (h5 : z.length = sz) (h6 : ∀ j, j < sz → z[j]? = cur[base + j]?) :
    (cur.take (base + off) ++ us ++ cur.drop (base + off + m)).take N = (cur.take N).take base ++ (z.take off ++ us ++ z.drop (off + m)) ++ (cur.take N).drop (base + sz) := by
  apply List.ext_getElem?
  intro j
  have ez : ∀ k, z[k]? = if k < sz then cur[base + k]? else none := fun k => by
    by_cases hk : k < sz
    · rw [if_pos hk, h6 k hk]
    · rw [if_neg hk, List.getElem?_eq_none (by omega)]
  simp only [List.getElem?_append, List.getElem?_take, List.getElem?_drop, List.length_append, List.length_take, List.length_drop, h4, h5, ez, Nat.min_def]
  grind
theorem S.je (q : Nat) (hf : eU n fs a) (hs : Sat w0 M σ w) (hg : gv ops fs o = some true) (hd : o.dst = none) {t : TypeId} {x y : Operand} {α : Type} [Flat α] {e : TypeId} {A : Option Addr} {C : Nat} {xs : List α} {i k' off m : Nat} {z : α} (z' : α) (us : List Value)
    (hq : σ[q]? = some (hown e A C xs)) (hz : xs[i]? = some z) (ho : o.op = .store t x y) (hx : ev fs x = some (eP A k')) (hk : k' = i * Flat.sz α + off) (hy : ev fs y = some v) (hv : v.cells = us.toArray)
    (hsz : ∀ w, (Go.sizeOf t).run P w = .ok m w) (hl : us.length = m) (hfit : off + m ≤ Flat.sz α) (h1 : us.all (·.oneCell') = true) (hvs : (Flat.enc z).take off ++ us ++ (Flat.enc z).drop (off + m) = Flat.enc z')
    (k : ∀ a w', eU n fs a → Sat w0 M (σ.set q (hown e A C (xs.set i z'))) w' → wpList P ops Q rest a w') : wpList P ops Q (o :: rest) a w := by
  refine S.P8 (R := fun w' => Sat w0 M (σ.set q (hown e A C (xs.set i z'))) w') hf hg hd (fun a hf => ?_) (fun a w' hf hs => k a w' hf hs)
  obtain ⟨F, hp, hlt, hupd⟩ := hs.upd q hq
  have e1 := hf.gZ hx
  have e2 := hf.gZ hy
  obtain ⟨hi, hzi⟩ := List.getElem?_eq_some_iff.1 hz
  obtain ⟨g, cur, rfl, hh, hC, hM, hcs, htake, hF⟩ := yL hp hi
  have hin : i * Flat.sz α + Flat.sz α ≤ xs.length * Flat.sz α := by
    have : (i + 1) * Flat.sz α ≤ xs.length * Flat.sz α := Nat.mul_le_mul_right _ hi
    rw [Nat.add_mul] at this; omega
  have hCs : xs.length * Flat.sz α ≤ C * Flat.sz α := Nat.mul_le_mul_right _ hC
  have hr := CZ (P := P) (w := w) hsz g k' e cur hh v us hv hl (by rw [hcs, hk]; omega) (fun u hu => (List.all_eq_true.1 h1) u hu)
  have hcl : cur.toList.length = C * Flat.sz α := by simpa using hcs
  refine ⟨_, ?_, hupd (w.setRow g (cur.toList.take k' ++ us ++ cur.toList.drop (k' + m)).toArray) (hown e (some ⟨g, 0, none⟩) C (xs.set i z')) F (Keeps.setRow w g _ ((hF g).2 rfl)) ⟨⟨?_, ?_⟩, fun b => (hF b).trans (by simp [Value.ownBlock]; exact eq_comm)⟩ (fun b hb => ⟨.inl hb, by rw [size_setRow]; exact hlt b hb⟩)⟩
  · unfold execOp
    simp only [ho, e1, e2, eP, Addr.add_lit, Nat.zero_add, Sem.run_bind, hr, Result.andThen_ok]
    rfl
  · rw [fE]
  · refine .inr ⟨g, C, (cur.toList.take k' ++ us ++ cur.toList.drop (k' + m)).toArray, by simp, Nat.zero_le _, setRow_heap w g cur _ e _ hh, by simpa using hC, hM, ?_, ?_⟩
    · simp only [List.size_toArray, List.length_append, List.length_take, List.length_drop, hcl, hl, hk]
      omega
    · rw [← zF xs i z' hi, ← hvs, ← htake, List.length_set, hk]
      refine splice cur.toList (xs.length * Flat.sz α) (i * Flat.sz α) (Flat.sz α) off m (Flat.enc z) us hin (by omega) hfit hl (Flat.len z) (fun j hj => ?_)
      rw [← jg xs i z hz j hj, ← htake, List.getElem?_take, if_pos (by omega)]
def evs (fs : Fr) : List Operand → Option (List Value)
  | [] => some []
  | x :: r => match ev fs x, evs fs r with
    | some v, some l => some (v :: l)
    | _, _ => none
theorem Gw (h : eU n fs a) : ∀ {l : List Operand} {m : List Value}, evs fs l = some m → l.map a.eval = m
  | [], m, hm => by simpa [evs] using hm
  | x :: l, m, hm => by
    unfold evs at hm
    split at hm <;> try (cases hm; done)
    rename_i v r hv hr
    simp only [Option.some.injEq] at hm
    subst hm
    simp [h.gZ hv, Gw h hr]
theorem qL {x : Operand} {xs : Array Operand} {ts : Array TypeId} {f : FuncId} {first cap : Array Value} {vs : List Value} (ho : o.op = .call ⟨.value x, xs, ts⟩) (hx : ev fs x = some (.func (.func f) first cap)) (hxs : evs fs xs.toList = some vs)
    (hc : ∀ args w, (callFunc f args).run P w = .ok (.enter f args) w) {args : Array Value} (hargs : first ++ vs.toArray ++ cap = args) :
    ∀ a w, eU n fs a → (execOp a.eval o).run P w = .ok (.enter f args) w := fun a w hf => by
  have e1 := hf.gZ hx
  have e2 : xs.map a.eval = vs.toArray := Array.ext' (by rw [Array.toList_map]; exact Gw hf hxs)
  unfold execOp
  simp only [ho, resolve, e1, e2, Deferred.ofValue, Sem.run_bind, Sem.run_pure, Result.andThen_ok, invoke]
  rw [← hargs]
  exact hc _ w
theorem L8 {x : Operand} {xs : Array Operand} {ts : Array TypeId} {f : FuncId} {vs : List Value} (ho : o.op = .call ⟨.value x, xs, ts⟩) (hx : ev fs x = some (.func (.func f) #[] #[])) (hxs : evs fs xs.toList = some vs)
    (hc : ∀ args w, (callFunc f args).run P w = .ok (.enter f args) w) : ∀ a w, eU n fs a → (execOp a.eval o).run P w = .ok (.enter f vs.toArray) w :=
  qL ho hx hxs hc (by simp)
end
def CV : Nat → List Value → Fr
  | _, [] => []
  | k, v :: r => (k, v) :: CV (k + 1) r
theorem FO : ∀ (l : List Value) (k t : Nat) (v : Value), lk (CV k l) t = some v → k ≤ t ∧ l[t - k]? = some v
  | [], k, t, v, h => by simp [CV, lk] at h
  | u :: r, k, t, v, h => by
    unfold CV lk at h
    cases hb : Nat.beq t k with
    | true =>
      simp only [hb, cond_true, Option.some.injEq] at h
      have := Nat.eq_of_beq_eq_true hb
      subst this; subst h
      simp
    | false =>
      simp only [hb, cond_false] at h
      obtain ⟨h1, h2⟩ := FO r (k + 1) t v h
      refine ⟨by omega, ?_⟩
      rw [show t - k = (t - (k + 1)) + 1 by omega]
      simpa using h2
theorem fF {P : Program} {f : FuncId} {fn : Func} {c : Code} {n : Nat} {args : List Value} {fs : Fr} {w : World} {R : Value → World → Prop} (hf : P.funcs[f]? = some fn) (hb : fn.body = some c) (hn : fn.ntmps = n) (hl : Nat.ble args.length n = true)
    (hfs : CV 0 args = fs) (h : ∀ a, eU n fs a → c.wp P (bodyPost P fn (fun e w' => ∃ v, e = .returned v ∧ R v w')) a w) : Ret P f args.toArray w R := by
  refine calls_of_wp hf hb (h _ ?_)
  subst hfs
  have hl' := Nat.le_of_ble_eq_true hl
  refine ⟨by simp [hn]; omega, rfl, fun t v hv => ?_⟩
  obtain ⟨_, h2⟩ := FO args 0 t v hv
  simp only [Nat.sub_zero] at h2
  have hlt := (List.getElem?_eq_some_iff.1 h2).1
  simp only [Array.getD_eq_getD_getElem?]
  rw [Array.getElem?_append_left (by simpa using hlt)]
  simp [h2]
section
variable {P : Program} {fn : Func} {n : Nat} {fs : Fr} {a : Act} {w : World} {R : Value → World → Prop}
def mF (P : Program) (w : World) (a : Act) (r : ResultVar) (v : Value) : Prop := (match r with
    | .tmp t => (pure (a.tmps.getD t undef) : Sem Value)
    | .cell x t => do loadVar t (← asAddr (a.tmps.getD x undef))).run P w = .ok v w
theorem mF.tmp (hf : eU n fs a) {t : Nat} {v : Value} (h : lk fs t = some v) : mF P w a (.tmp t) v := by
  unfold mF
  simp only [hf.get t v h]
  rfl
theorem mF.box (hf : eU n fs a) {w0 : World} {M : Nat → Prop} {σ : List gW} (hs : Sat w0 M σ w) (q : Nat) {x t g m : Nat} {e : TypeId} {vs : List Value} {v : Value} {agg : Bool} (hq : σ[q]? = some (hbox g e vs)) (h : lk fs x = some (.pointer (some ⟨g, 0, none⟩)))
    (hag : ∀ w, (isAgg t).run P w = .ok agg w) (hsz : ∀ w, (Go.sizeOf t).run P w = .ok m w) (hl : Nat.beq vs.length m = true) (hv : mkv agg vs = some v) : mF P w a (.cell x t) v := by
  obtain ⟨F, ⟨hg, _⟩, _⟩ := hs.nth hq
  have := wK (P := P) (w := w) hag hsz ⟨g, 0, none⟩ vs (Nat.eq_of_beq_eq_true hl) (fun j u hu => by rw [Addr.add_lit, cell_of_row w g _ vs.toArray e (0, 0) hg]; simpa using hu) hv
  unfold mF
  simp only [hf.get x _ h]
  exact this
theorem L.wY (hr : fn.results = #[]) (hf : eU n fs a) (h : R (.tuple #[]) w) : bodyPost P fn (fun e w' => ∃ v, e = .returned v ∧ R v w') .normal a w :=
  ⟨hf.defers, _, by simp [results, hr], _, rfl, h⟩
theorem tY {r : ResultVar} (hr : fn.results = #[r]) {v : Value} (h1 : mF P w a r v) : (results fn a.tmps).run P w = .ok v w := by
  have key : ∀ g : ResultVar → Sem Value, (g r).run P w = .ok v w → (do let vs ← (#[r] : Array ResultVar).mapM g; pure (if h : vs.size = 1 then vs[0] else .tuple vs) : Sem Value).run P w = .ok v w := by
    intro g h1
    simp [h1]
  unfold results
  rw [hr]
  exact key _ h1
theorem CQ {r s : ResultVar} (hr : fn.results = #[r, s]) {v u : Value} (h1 : mF P w a r v) (h2 : mF P w a s u) : (results fn a.tmps).run P w = .ok (.tuple #[v, u]) w := by
  have key : ∀ g : ResultVar → Sem Value, (g r).run P w = .ok v w → (g s).run P w = .ok u w → (do let vs ← (#[r, s] : Array ResultVar).mapM g; pure (if h : vs.size = 1 then vs[0] else .tuple vs) : Sem Value).run P w = .ok (.tuple #[v, u]) w := by
    intro g h1 h2
    simp [h1, h2]
  unfold results
  rw [hr]
  exact key _ h1 h2
theorem wX {r s t : ResultVar} (hr : fn.results = #[r, s, t]) {v u x : Value} (h1 : mF P w a r v) (h2 : mF P w a s u) (h3 : mF P w a t x) : (results fn a.tmps).run P w = .ok (.tuple #[v, u, x]) w := by
  have key : ∀ g : ResultVar → Sem Value, (g r).run P w = .ok v w → (g s).run P w = .ok u w → (g t).run P w = .ok x w → (do let vs ← (#[r, s, t] : Array ResultVar).mapM g; pure (if h : vs.size = 1 then vs[0] else .tuple vs) : Sem Value).run P w = .ok (.tuple #[v, u, x]) w := by
    intro g h1 h2 h3
    simp [h1, h2, h3]
  unfold results
  rw [hr]
  exact key _ h1 h2 h3
theorem L.ret (hf : eU n fs a) {v : Value} (hr : (results fn a.tmps).run P w = .ok v w) (h : R v w) : bodyPost P fn (fun e w' => ∃ v, e = .returned v ∧ R v w') .ret a w :=
  ⟨hf.defers, v, hr, v, rfl, h⟩
end
theorem View.nil {α : Type} [Rep α] (w : World) (F : Nat → Prop) : View w F none 0 ([] : List α) := ⟨Nat.le_refl _, Nat.zero_le _, fun i x h => by simp at h⟩
section
variable {w w0 : World} {M : Nat → Prop} {σ : List gW} {p : gW}
theorem Sat.rM (h : Sat w0 M σ w) {α : Type} [Flat α] (e : TypeId) : Sat w0 M (hown e none 0 ([] : List α) :: σ) w :=
  h.add (Keeps.refl _ _) (F' := fun _ => False) ⟨World.ownsRow_nil w 0 e _, fun b => by simp [Value.ownBlock]⟩ (fun _ e => e.elim)
theorem jB.take {Z : Nat → Prop} : ∀ (k : Nat) {L : List gW} {U : Nat → Prop}, jB w Z L U → jB w Z (L.take k) U
  | 0, _, _, _ => by simp [jB]
  | _ + 1, [], _, _ => trivial
  | k + 1, p :: L, U, ⟨F, h1, h2, h3⟩ => ⟨F, h1, h2, jB.take k h3⟩
theorem Sat.take (h : Sat w0 M σ w) (k : Nat) : Sat w0 M (σ.take k) w := ⟨h.keeps, h.sat.take k⟩
theorem eU.tell {n : Nat} {fs : Fr} {a : Act} (h : eU n fs a) (t : Nat) {v : Value} (hv : a.tmps.getD t undef = v) : eU n ((t, v) :: fs) a := h.cons hv
end
def room (n bytes : Nat) : Prop := n ≤ 9223372036854775807 ∧ n * bytes ≤ 140737488355328
structure pX (P : Program) (e : TypeId) (sz bytes : Nat) (z : List Value) : Prop where
  info : ∃ i u, P.info? e = some i ∧ i.zero = some u ∧ i.size = sz ∧ i.bytes = bytes ∧ u.cells = z.toArray
section
variable {P : Program} {n : Nat} {fs : Fr} {a : Act} {o : Oper} {v : Value} {ops : Array Oper} {rest : List Oper} {Q : Exit → Act → World → Prop} {w w0 : World} {M : Nat → Prop} {σ : List gW}
theorem S.QE (hf : eU n fs a) {d : Nat} (hg : gv ops fs o = some true) (hd : o.dst = some d) (hdn : Nat.blt d n = true) {f : FuncId} {args : Array Value}
    (hrun : ∀ a w, eU n fs a → (execOp a.eval o).run P w = .ok (.enter f args) w) (hc : Ret P f args w fun v' w' => v' = v ∧ Sat w none_ [] w')
    (k : ∀ a w', eU n ((d, v) :: fs) a → Sat w none_ [] w' → wpList P ops Q rest a w') : wpList P ops Q (o :: rest) a w :=
  S.call hf hg hd hdn hrun hc fun v' a w' hf' ⟨hv, hs⟩ => k a w' (hv ▸ hf') hs
theorem V.quo {t ty : TypeId} {x y : Operand} {m k : Int} (ho : o.op = .binOp .quo t x y ty) (hx : ev fs x = some (.int .i64 m)) (hy : ev fs y = some (.int .i64 k)) (hk : k ≠ 0) :
    ∀ a w, eU n fs a → Sat w0 M σ w → jd P o a w (.int .i64 (w64 (m.tdiv k))) := fun a w hf _ => by
  have e1 := hf.gZ hx
  have e2 := hf.gZ hy
  unfold jd execOp
  simp only [ho, e1, e2, eqGuard, binOp, Op.intDiv, hk, if_false]
  rfl
theorem V.rem {t ty : TypeId} {x y : Operand} {m k : Int} (ho : o.op = .binOp .rem t x y ty) (hx : ev fs x = some (.int .i64 m)) (hy : ev fs y = some (.int .i64 k)) (hk : k ≠ 0) :
    ∀ a w, eU n fs a → Sat w0 M σ w → jd P o a w (.int .i64 (m.tmod k)) := fun a w hf _ => by
  have e1 := hf.gZ hx
  have e2 := hf.gZ hy
  unfold jd execOp
  simp only [ho, e1, e2, eqGuard, binOp, Op.intDiv, hk, if_false]
  rfl
theorem S.make (hf : eU n fs a) (hs : Sat w0 M σ w) {d : Nat} (hg : gv ops fs o = some true) (hd : o.dst = some d) (hdn : Nat.blt d n = true) {α : Type} [Flat α] (zero : α) {t : TypeId} {x y : Operand} {e : TypeId} {z : Int} {N bytes : Nat}
    (ho : o.op = .makeSlice t x y) (hx : ev fs x = some (.int .i64 z)) (hy : ev fs y = some (.int .i64 z)) (ht : P.underlying t = some (.slice e)) (hi : pX P e (Flat.sz α) bytes (Flat.enc zero))
    (hmk : 0 ≤ z ∧ z * bytes ≤ 281474976710656) (hN : z.toNat = N) (h63 : z ≤ 9223372036854775807)
    (k : ∀ A a w', eU n ((d, .slice A (List.replicate N zero).length N) :: fs) a → Sat w0 M (hown e A N (List.replicate N zero) :: σ) w' → wpList P ops Q rest a w') : wpList P ops Q (o :: rest) a w := by
  obtain ⟨i, u, h1, h2, h3, h4, h5⟩ := hi.info
  have hr := run_make (P := P) w t e i u ht h1 h2 .i64 .i64 z z hmk.1 (Int.le_refl _) (by rw [h4, Int.mul_comm]; exact hmk.2) h63
  refine S.act (R := fun v w' => ∃ A, v = .slice A (List.replicate N zero).length N ∧ Sat w0 M (hown e A N (List.replicate N zero) :: σ) w') hf hg hd hdn (fun a hf => ?_) (fun v a w' hf ⟨A, hv, hs⟩ => k A a w' (hv ▸ hf) hs)
  have e1 := hf.gZ hx
  have e2 := hf.gZ hy
  refine ⟨_, _, ?_, some ⟨w.heap.size, 0, none⟩, rfl, hs.add (Keeps.alloc w (.cells (madeCells u.cells (z.toNat * i.size)) e) _) (F' := fun b => b = w.heap.size) ⟨⟨?_, ?_⟩, fun b => by simp [Value.ownBlock]; exact eq_comm⟩ (fun b hb => by subst hb; simp)⟩
  · unfold execOp
    simp only [ho, e1, e2, Sem.run_bind, hr, Result.andThen_ok, hN, List.length_replicate]
    rfl
  · rw [fE]
  · refine .inr ⟨w.heap.size, N, madeCells u.cells (z.toNat * i.size), rfl, Nat.zero_le _, jH w _, by simp, by unfold maxLen; omega, by rw [size_madeCells, hN, h3], ?_⟩
    have hz : (Flat.enc zero).length = Flat.sz α := Flat.len zero
    have hpos : 0 < Flat.sz α := Flat.pos
    apply List.ext_getElem?
    intro j
    rw [List.length_replicate, List.getElem?_take]
    by_cases hj : j < N * Flat.sz α
    · rw [if_pos hj]
      have hq : j / Flat.sz α < N := Nat.div_lt_of_lt_mul (by rw [Nat.mul_comm]; exact hj)
      have := jg (List.replicate N zero) (j / Flat.sz α) zero (by rw [List.getElem?_replicate, if_pos hq]) (j % Flat.sz α) (Nat.mod_lt _ hpos)
      rw [Nat.div_add_mod' j (Flat.sz α)] at this
      rw [this]
      have hm : j % Flat.sz α < (Flat.enc zero).length := by rw [hz]; exact Nat.mod_lt _ hpos
      simp only [madeCells, h5, Array.getElem?_toList, Array.getElem?_map, List.size_toArray, hz, hN, h3]
      rw [Array.getElem?_range, if_pos hj]
      simp [List.getElem?_eq_getElem hm, hz]
    · rw [if_neg hj, List.getElem?_eq_none (by rw [fE, List.length_replicate]; omega)]
theorem S.jP (hf : eU n fs a) (hs : Sat w0 M σ w) {d : Nat} (hg : gv ops fs o = some true) (hd : o.dst = some d) (hdn : Nat.blt d n = true) {α : Type} [Flat α] (y : α) {t : TypeId} {x : Operand} {e : TypeId} {z : Value}
    (ho : o.op = .buildSlice t 1 #[(0, x)]) (hx : ev fs x = some v) (hv : v.cells = (Flat.enc y).toArray) (ht : ∀ w, (underlying t).run P w = .ok (.slice e) w) (hsz : ∀ w, (Go.sizeOf e).run P w = .ok (Flat.sz α) w)
    (hz : ∀ w, (zeroValue e).run P w = .ok z w) (hzl : z.cells.size = Flat.sz α) (hsm : Flat.sz α ≤ 16777216)
    (k : ∀ A a w', eU n ((d, .slice A [y].length 1) :: fs) a → Sat w0 M (hown e A 1 [y] :: σ) w' → wpList P ops Q rest a w') : wpList P ops Q (o :: rest) a w := by
  refine S.act (R := fun v w' => ∃ A, v = .slice A [y].length 1 ∧ Sat w0 M (hown e A 1 [y] :: σ) w') hf hg hd hdn (fun a hf => ?_) (fun v a w' hf ⟨A, hv, hs⟩ => k A a w' (hv ▸ hf) hs)
  have e1 := hf.gZ hx
  have hpos : 0 < Flat.sz α := Flat.pos
  have hl : (Flat.enc y).length = Flat.sz α := Flat.len y
  have hfold : ∀ (l : List Value) (k : Nat) (cs : Array Value), k + l.length ≤ cs.size → (l.zipIdx k).foldl (fun cs (c, j) => cs.setIfInBounds (0 + j) c) cs = (cs.toList.take k ++ l ++ cs.toList.drop (k + l.length)).toArray := by
    intro l
    induction l with
    | nil => intro k cs _; simp
    | cons c l ih =>
      intro k cs hk
      simp only [List.length_cons] at hk
      rw [List.zipIdx_cons, List.foldl_cons, ih (k + 1) _ (by simp; omega)]
      congr 1
      apply List.ext_getElem?
      intro j
      simp only [Nat.zero_add, Array.toList_setIfInBounds, List.getElem?_append, List.getElem?_take, List.getElem?_drop, List.length_append, List.length_take, List.length_drop, List.length_set, Array.length_toList, List.length_cons, List.getElem?_set, List.getElem?_cons]
      grind
  have hfill : Instr.fill (fun i => some (i * Flat.sz α, Flat.sz α)) ((Array.range (1 * Flat.sz α)).map (z.cells[· % z.cells.size]!)) [(0, v)] = some (Flat.enc y).toArray := by
    have hs1 : v.cells.size = Flat.sz α := by rw [hv]; simpa using hl
    unfold Instr.fill Instr.fill
    simp only [Nat.zero_mul]
    rw [if_neg (by simp [hs1])]
    have he : v.cells.zipIdx.toList = (Flat.enc y).zipIdx := by rw [hv]; simp
    rw [← Array.foldl_toList, he, hfold (Flat.enc y) 0 _ (by simp [hl])]
    simp [hl]
  refine ⟨_, _, ?_, some ⟨w.heap.size, 0, none⟩, rfl, hs.add (Keeps.alloc w (.cells (Flat.enc y).toArray e) _) (F' := fun b => b = w.heap.size) ⟨⟨?_, ?_⟩, fun b => by simp [Value.ownBlock]; exact eq_comm⟩ (fun b hb => by subst hb; simp)⟩
  · have hn : ¬ 1 * Flat.sz α > 2 ^ 24 := by omega
    have hn0 : ¬ 1 * Flat.sz α = 0 := by omega
    have hmap : (#[(0, x)].map fun (p : Nat × Operand) => (p.1, a.eval p.2)) = #[(0, v)] := by simp [e1]
    have hop : execOp a.eval o = (do pure (Next.value (← Instr.buildSlice t 1 #[(0, v)])) : Sem Next) := by
      unfold execOp
      simp only [ho]
      rw [← hmap]
    have hrun : (Instr.buildSlice t 1 #[(0, v)]).run P w = .ok (.slice (some ⟨w.heap.size, 0, none⟩) 1 1) (w.alloc (.cells (Flat.enc y).toArray e)) := by
      unfold Instr.buildSlice
      simp only [Sem.run_bind, ht, Result.andThen_ok, hsz, hn, if_false, hn0, hz, Sem.run_pure]
      simp only [hfill]
      rfl
    rw [hop, Sem.run_bind, hrun]
    rfl
  · simp [hl]
  · refine .inr ⟨w.heap.size, 1, (Flat.enc y).toArray, rfl, Nat.zero_le _, jH w _, Nat.le_refl _, by unfold maxLen; omega, by simp [hl], ?_⟩
    simp [hl]
    exact List.take_of_length_le (by omega)
theorem zL {x y : Operand} {t : TypeId} {u v' : Value} {r : Value} {w' : World} (ho : o.op = .call ⟨.builtin .append, #[x, y], #[t, t]⟩) (hx : a.eval x = u) (hy : a.eval y = v') (hr : (Builtin.append_ #[t, t] o.type #[u, v']).run P w = .ok r w') :
    (execOp a.eval o).run P w = .ok (.value r) w' := by
  unfold execOp
  simp only [ho, resolve, invoke, builtin, Sem.run_bind, Sem.run_pure, Result.andThen_ok, List.map_toArray, List.map_cons, List.map_nil, hx, hy, hr]
theorem OA {α : Type} [Flat α] {e : TypeId} {xs : List α} {w : World} {v' : Value} (h : w.ownsRow 0 e (Flat.sz α) v' xs.length (xs.flatMap Flat.enc)) : ∃ A C, v' = .slice A xs.length C := by
  rcases h.2 with ⟨hv, h0⟩ | ⟨g, cap, cur, hv, _⟩
  · exact ⟨none, 0, by rw [hv, h0]⟩
  · exact ⟨_, _, hv⟩
theorem S.iU (q : Nat) (hf : eU n fs a) (hs : Sat w0 M σ w) {d : Nat} (hg : gv ops fs o = some true) (hd : o.dst = some d) (hdn : Nat.blt d n = true) {α : Type} [Flat α] {e : TypeId} {A : Option Addr} {C : Nat} {xs ys : List α} (hq : σ[q]? = some (hown e A C xs)) {x y : Operand} {t : TypeId} {A2 : Option Addr} {C2 bytes : Nat} {zc : List Value}
    (ho : o.op = .call ⟨.builtin .append, #[x, y], #[t, t]⟩) (hx : ev fs x = some (.slice A xs.length C)) (hy : ev fs y = some (.slice A2 ys.length C2)) (ht : P.underlying t = some (.slice e)) (hi : pX P e (Flat.sz α) bytes zc) (hzc : zc.length = Flat.sz α) (hroom : room (xs ++ ys).length bytes)
    (hA2 : A2.isSome = true) (hv : View w (old w none_) A2 C2 ys)
    (k : ∀ A' C' a w', eU n ((d, .slice A' (xs ++ ys).length C') :: fs) a → Sat w0 M (σ.set q (hown e A' C' (xs ++ ys))) w' → wpList P ops Q rest a w') : wpList P ops Q (o :: rest) a w := by
  obtain ⟨i, u, h1, h2, h3, h4, h5⟩ := hi.info
  obtain ⟨F, ⟨hown', hF⟩, hlt, hupd⟩ := hs.upd q hq
  obtain ⟨ad, rfl⟩ := Option.isSome_iff_exists.1 hA2
  have hnews : ∀ j v, (ys.flatMap Flat.enc)[j]? = some v → w.cell? (ad.add j) = some v := by
    intro j v hj
    have hpos : 0 < Flat.sz α := Flat.pos
    have hjl : j < ys.length * Flat.sz α := by rw [← fE]; exact (List.getElem?_eq_some_iff.1 hj).1
    have hq : j / Flat.sz α < ys.length := Nat.div_lt_of_lt_mul (by rw [Nat.mul_comm]; exact hjl)
    obtain ⟨ad', had, _, hc⟩ := hv.flat (List.getElem?_eq_getElem hq)
    injection had with had
    subst had
    have hj' := jg ys _ _ (List.getElem?_eq_getElem hq) (j % Flat.sz α) (Nat.mod_lt _ hpos)
    rw [Nat.div_add_mod' j (Flat.sz α)] at hj'
    have := hc (j % Flat.sz α) v (by rw [← hj', hj])
    rwa [Nat.div_add_mod' j (Flat.sz α)] at this
  rw [List.length_append] at hroom
  have h1' : ∀ v ∈ ys.flatMap Flat.enc, v.oneCell' = true := by
    intro v hv
    obtain ⟨y, _, hy⟩ := List.mem_flatMap.1 hv
    exact Flat.one y v hy
  obtain ⟨v', w', hr, hown2, hgr, _, hat⟩ := run_append_own_at (P := P) w 0 t o.type e i u (Flat.sz α) bytes ht h1 h2 h3 h4 (by rw [h5]; simpa using hzc) Flat.pos (.slice A xs.length C) xs.length (xs.flatMap Flat.enc) hown' ad ys.length C2 (ys.flatMap Flat.enc) (by rw [fE]) hnews h1'
    (by unfold maxLen; exact hroom.1) hroom.2 (Nat.zero_le _)
  rw [← List.flatMap_append, ← List.length_append] at hown2
  obtain ⟨A', C', rfl⟩ := OA hown2
  refine S.act (R := fun v w' => ∃ A' C', v = .slice A' (xs ++ ys).length C' ∧ Sat w0 M (σ.set q (hown e A' C' (xs ++ ys))) w') hf hg hd hdn (fun a hf => ?_) (fun v a w' hf ⟨A, C, hv, hs⟩ => k A C a w' (hv ▸ hf) hs)
  refine ⟨_, w', zL ho (hf.gZ hx) (hf.gZ hy) hr, A', C', rfl, hupd w' (hown e A' C' (xs ++ ys)) (fun b => (Value.slice A' (xs ++ ys).length C').ownBlock = some b) (Keeps.of_grownBy hgr (fun b hb => (hF b).2 hb) (lm _ _ _ _ hr)) ⟨hown2, fun b => Iff.rfl⟩ (fun b hb => ⟨?_, (hown2.lt b hb).2⟩)⟩
  rcases hat with hat | hat
  · exact .inl ((hF b).2 (hat ▸ hb))
  · rw [hat] at hb
    injection hb with hb
    exact .inr (Nat.le_of_eq hb)
end
section
variable {α : Type} {xs : List α} {k : Nat} {x : α} {l : List α}
theorem fQ (h : k + ([] : List α).length = xs.length) : decide ((k : Int) < (xs.length : Int)) = false := by simp at h ⊢; omega
theorem gJ (h : k + (x :: l).length = xs.length) : k < xs.length := by simp at h; omega
theorem gQ (h : k + (x :: l).length = xs.length) : decide ((k : Int) < (xs.length : Int)) = true := by have := gJ h; simpa using this
theorem gm (h : xs.drop k = x :: l) : xs[k]? = some x := by
  have := congrArg (fun l => l[0]?) h
  simpa using this
theorem fD (h : xs.drop k = x :: l) : xs.drop (k + 1) = l := by
  have := congrArg (List.drop 1) h
  simpa using this
theorem fJ (h : k + (x :: l).length = xs.length) : k + 1 + l.length = xs.length := by simp at h; omega
end
end Go.Proofs.YtfjcgoiedlimdaaGreatDoor

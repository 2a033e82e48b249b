/- Chapter texts of ours, as far as the claim needs them. -/
import Derived.Test.YtfjcgoiedlimdaaGreatDoorStrs
import Derived.Lib.AppendStr
import Derived.Lib.LaidTab
import Derived.Lib.ItoaNum
import Derived.LoopN
namespace Go.Proofs.YtfjcgoiedlimdaaGreatDoor
open Go Go.RowKit Go.Lib
set_option linter.unusedVariables false
set_option linter.unusedSectionVars false
set_option linter.unusedSimpArgs false
instance OC : Flat UInt8 := ⟨1, Nat.one_pos, fun x => [.int .u8 x.toNat], fun _ => rfl, fun _ v hv => by simp at hv; subst hv; rfl⟩
attribute [instance 50] JK
section
variable {P : Program} {n : Nat} {fs : Fr} {a : Act} {o : Oper} {ops : Array Oper} {rest : List Oper} {Q : Exit → Act → World → Prop} {w w0 : World} {M : Nat → Prop} {σ : List gW} {v : Value}
theorem V.Kq {t e : TypeId} {parts : Array (Nat × Operand)} {m k : Nat} {z : Value} {pv : List (Nat × Value)} {cells : Array Value} (ho : o.op = .build t parts) (hz : ∀ w, (zeroValue t).run P w = .ok z w) (hu : ∀ w, (underlying t).run P w = .ok (.array k e) w)
    (hsz : ∀ w, (Go.sizeOf e).run P w = .ok m w) (hpv : yU fs parts.toList = some pv) (hfill : Instr.fill (fun i => some (i * m, m)) z.cells pv = some cells) :
    ∀ a w, eU n fs a → Sat w0 M σ w → jd P o a w (.agg cells) := fun a w hf _ => by
  have e : parts.map (fun (p : Nat × Operand) => (p.1, a.eval p.2)) = pv.toArray := Array.ext' (by rw [Array.toList_map]; exact zB hf hpv)
  refine iL (s := Instr.build t (parts.map (fun (p : Nat × Operand) => (p.1, a.eval p.2)))) (by unfold execOp; rw [ho]) ?_
  rw [e]
  unfold Instr.build
  simp only [Sem.run_bind, hz, hu, Result.andThen_ok, hsz, hfill]
  rfl
end
open Go Go.RowKit
section
variable {P : Program} {ops : Array Oper} {Q : Exit → Act → World → Prop} {md : Region.Mode} {K : World → Prop} {s : Nat}
theorem GN {i : Nat} {oi : Oper} {v : Value} (hi : ops[i]? = some oi) (hsel : ∀ (j : Nat) (o : Oper) cs b, ops[j]? = some o → o.op ≠ .select cs b)
    (hQ : ∀ c a w, Q (.panic c) (a.put oi.dst v) w → Q (.panic c) a w) :
    ∀ (fuel : Nat) (listed : Array Bool) (a : Act) (w : World),
      (∀ j oj, ops[j]? = some oj → j ≠ i → listed.getD j true = false → (∀ e ∈ oj.after, Region.binds md e = true → e.on ≠ i) → oi.apart ops oj = true) →
      i ∈ Region.ready md ops listed → YieldsIf P ops (fun _ => True) oi v a → i ≠ s → (listed.getD s true = false → K w) →
      ji P md ops Q K s fuel (listed.setIfInBounds i true) (a.put oi.dst v) w → ji P md ops Q K s (fuel + 1) listed a w := by
  intro fuel
  induction fuel with
  | zero =>
    intro listed a w _ hr hy his hK H
    refine ⟨fun h => (by rw [h] at hr; cases hr), fun j hj => ?_⟩
    by_cases hji : j = i
    · subst hji; exact hy.wpOp hi trivial ⟨fun hh => hK (by rw [getD_set_ne true his] at hh; exact hh), H⟩
    · have := ready_mono hj hji
      rw [H.1] at this
      cases this
  | succ fuel ih =>
    intro listed a w hfree hr hy his hK H
    refine ⟨fun h => (by rw [h] at hr; cases hr), fun j hj => ?_⟩
    by_cases hji : j = i
    · subst hji; exact hy.wpOp hi trivial ⟨fun hh => hK (by rw [getD_set_ne true his] at hh; exact hh), H⟩
    · have h1 := H.2 j (ready_mono hj hji)
      obtain ⟨hjun, oj, hoj, hall⟩ := mem_ready.1 hj
      have hnot : ∀ e ∈ oj.after, Region.binds md e = true → e.on ≠ i := fun e he hb heq => by
        have h1 := hall e he hb
        have h0 := (mem_ready.1 hr).1
        rw [heq] at h1
        rcases Nat.lt_or_ge i listed.size with h' | h'
        · simp [h'] at h0 h1; rw [h0] at h1; cases h1
        · simp [Array.getElem?_eq_none h'] at h1
      have h2 := wpOp_putIf hoj (hfree j oj hoj hji hjun hnot) (fun cs b => hsel i oi cs b hi) (fun cs b => hsel j oj cs b hoj) hQ hy h1
      have hfree' : ∀ k ok, ops[k]? = some ok → k ≠ i → (listed.setIfInBounds j true).getD k true = false →
          (∀ e ∈ ok.after, Region.binds md e = true → e.on ≠ i) → oi.apart ops ok = true := fun k ok hk hki hun hno => by
        refine hfree k ok hk hki ?_ hno
        by_cases hjk : j = k
        · subst hjk; exact hjun
        · rw [getD_set_ne true hjk] at hun; exact hun
      refine wpOp_mono (fun a' w' h3 => ?_) h2
      have hf : (listed.setIfInBounds j true).getD s true = false → K w' := fun hh => h3.2.1 (by rw [Array.setIfInBounds_comm _ _ (Ne.symm hji), getD_set_ne true his]; exact hh)
      refine ⟨hf, ih (listed.setIfInBounds j true) a' w' hfree' (ready_mono hr (Ne.symm hji)) h3.1 his hf ?_⟩
      rw [Array.setIfInBounds_comm _ _ hji]
      exact h3.2.2
end
section
variable {P : Program} {n : Nat} {fs : Fr} {a : Act} {o : Oper} {v : Value} {ops : Array Oper} {Q : Exit → Act → World → Prop} {w : World} {K : World → Prop} {fuel i s : Nat} {listed : Array Bool}
theorem M.tZ (hf : eU n fs a) (hs : K w) {d : Nat} (hi : ops[i]? = some o) (hg : gv ops fs o = some true) (hd : o.dst = some d) (hdn : Nat.blt d n = true) (h1 : Region.noSelect ops = true) (h2 : Region.free .any ops listed i = true) (h3 : (Region.ready .any ops listed).contains i = true) (h6 : Nat.beq i s = false)
    (hrun : ∀ (w1 : World) a w, eU n fs a → Sat w1 none_ [] w → jd P o a w v) (k : ∀ a, eU n ((d, v) :: fs) a → ji P .any ops (gI Q) K s fuel (listed.setIfInBounds i true) a w) : ji P .any ops (gI Q) K s (fuel + 1) listed a w := by
  refine GN (v := v) hi (Region.noSelect_spec h1) (fun c a w h => h) fuel listed a w (Region.free_spec hi h2) (by simpa using h3) (.inl ⟨xE hf hg, fun w _ => hrun w a w hf (Sat.start w none_)⟩) (fun e => by rw [e, Nat.beq_refl] at h6; cases h6) (fun _ => hs) ?_
  rw [hd]
  exact k _ (hf.put d (Nat.blt_eq ▸ hdn) v)
end
def Qy {α : Type} (o : Option α) (A : Prop) (B : α → Prop) : Prop := (o = none → A) ∧ ∀ x, o = some x → B x
section
variable {P : Program} {n : Nat} {fs : Fr} {a : Act} {o : Oper} {ops : Array Oper} {rest : List Oper} {Q : Exit → Act → World → Prop} {w w0 : World} {M : Nat → Prop} {σ : List gW} {v : Value}
theorem run_typeInfo_some {t : TypeId} {info : TypeInfo} (h : P.info? t = some info) : (typeInfo t).run P w = .ok info w := by
  unfold typeInfo
  simp only [Sem.run_bind, run_program, Result.andThen_ok, h, Sem.run_pure]
theorem nS {r : Operand} {name : String} {xs : Array Operand} {ts : Array TypeId} {f : FuncId} {u : Value} {vs full : List Value} (ho : o.op = .call ⟨.invoke r name, xs, ts⟩) (hr : ev fs r = some u) (hxs : evs fs xs.toList = some vs)
    (hm : (callMethod u name vs.toArray).run P w = .ok (.enter f full.toArray) w) : ∀ a, eU n fs a → (execOp a.eval o).run P w = .ok (.enter f full.toArray) w := by
  intro a hf
  have e1 := hf.gZ hr
  have e2 : xs.map a.eval = vs.toArray := Array.ext' (by rw [Array.toList_map]; exact Gw hf hxs)
  unfold execOp
  simp only [ho, resolve, Sem.run_bind, Sem.run_pure, Result.andThen_ok, e1, e2]
  have e3 : (#[u] ++ vs.toArray)[0]? = some u := by simp
  have e4 : (#[u] ++ vs.toArray).extract 1 (#[u] ++ vs.toArray).size = vs.toArray := by simp
  unfold invoke
  simp only [e3, e4]
  exact hm
theorem Jw {t e : TypeId} {i : TypeInfo} {name : String} {sig : TypeId} {f : FuncId} {g : Nat} {vs : List Value} (hi : P.info? t = some i) (hfi : i.methods.find? (·.name == name) = some ⟨name, sig, #[], some (f, true)⟩) (ht : P.underlying t = some (.pointer e)) (hc : ∀ args w, (callFunc f args).run P w = .ok (.enter f args) w) :
    (callMethod (.iface t (.pointer (some ⟨g, 0, none⟩))) name vs.toArray).run P w = .ok (.enter f (Value.pointer (some ⟨g, 0, none⟩) :: vs).toArray) w := by
  unfold callMethod
  obtain ⟨k, hk⟩ : ∃ k, P.types.size + Made.depth = k + 1 := ⟨P.types.size + Made.depth - 1, by have : 0 < Made.depth := by decide
                                                                                                omega⟩
  have hm : (Go.method (k + 1) t (.pointer (some ⟨g, 0, none⟩)) name).run P w = .ok (f, .pointer (some ⟨g, 0, none⟩)) w := by
    unfold Go.method
    simp only [Sem.run_bind, run_typeInfo_some hi, Result.andThen_ok, hfi]
    unfold Go.follow Go.receiverAt
    simp only [Sem.run_bind, Sem.run_pure, Result.andThen_ok, run_underlying ht, Array.toList]
    rfl
  simp only [Sem.run_bind, run_program, Result.andThen_ok, hk, hm]
  rw [hc]
  simp
theorem vJ {t e : TypeId} {i : TypeInfo} {name : String} {sig : TypeId} {f : FuncId} {g : Nat} {u : Value} {vs : List Value} (hi : P.info? t = some i) (hfi : i.methods.find? (·.name == name) = some ⟨name, sig, #[], some (f, false)⟩) (ht : P.underlying t = some (.pointer e)) (hl : (loadVar e ⟨g, 0, none⟩).run P w = .ok u w) (hc : ∀ args w, (callFunc f args).run P w = .ok (.enter f args) w) :
    (callMethod (.iface t (.pointer (some ⟨g, 0, none⟩))) name vs.toArray).run P w = .ok (.enter f (u :: vs).toArray) w := by
  unfold callMethod
  obtain ⟨k, hk⟩ : ∃ k, P.types.size + Made.depth = k + 1 := ⟨P.types.size + Made.depth - 1, by have : 0 < Made.depth := by decide
                                                                                                omega⟩
  have hm : (Go.method (k + 1) t (.pointer (some ⟨g, 0, none⟩)) name).run P w = .ok (f, u) w := by
    unfold Go.method
    simp only [Sem.run_bind, run_typeInfo_some hi, Result.andThen_ok, hfi]
    unfold Go.follow Go.receiverAt Go.Place.get
    simp only [Sem.run_bind, Sem.run_pure, Result.andThen_ok, run_underlying ht, Array.toList]
    have e1 : ∀ s1 s2, (Builtin.ssaWrapNilChk_ #[t] t #[.pointer (some ⟨g, 0, none⟩), strVal s1, strVal s2]).run P w = .ok (.pointer (some ⟨g, 0, none⟩)) w := fun _ _ => rfl
    have e2 : (asAddr (.pointer (some ⟨g, 0, none⟩))).run P w = .ok ⟨g, 0, none⟩ w := rfl
    simp [e1, e2, hl]
  simp only [Sem.run_bind, run_program, Result.andThen_ok, hk, hm]
  rw [hc]
  simp
theorem vk (q : Nat) (hs : Sat w0 M σ w) {t : TypeId} {g m : Nat} {e : TypeId} {vs : List Value} {agg : Bool} (hq : σ[q]? = some (hbox g e vs)) (hag : ∀ w, (isAgg t).run P w = .ok agg w) (hsz : ∀ w, (Go.sizeOf t).run P w = .ok m w) (hl : Nat.beq (vs.take m).length m = true) (hv : mkv agg (vs.take m) = some v) :
    (loadVar t ⟨g, 0, none⟩).run P w = .ok v w := by
  obtain ⟨F, ⟨hg, _⟩, _⟩ := hs.nth hq
  have e1 : (Instr.loadAt t (.pointer (some ⟨g, 0, none⟩))).run P w = (loadVar t ⟨g, 0, none⟩).run P w := rfl
  rw [← e1]
  refine wK hag hsz _ (vs.take m) (Nat.eq_of_beq_eq_true hl) (fun j u hu => ?_) hv
  rw [Addr.add_lit, cell_of_row w g (0 + j) vs.toArray e (0, 0) hg]
  rw [List.getElem?_take] at hu
  split at hu
  · simpa using hu
  · cases hu
theorem V.yO {t : TypeId} {x : Operand} {u : Value} (ho : o.op = .makeInterface t x) (hx : ev fs x = some u) (ht : ∀ w, ∃ d, (underlying t).run P w = .ok d w ∧ (match d with | .interface _ => false | _ => true) = true) :
    ∀ a w, eU n fs a → Sat w0 M σ w → jd P o a w (.iface t u) := fun a w hf _ => by
  have e1 := hf.gZ hx
  refine iL (s := Instr.makeInterface t (a.eval x)) (by unfold execOp; rw [ho]) ?_
  rw [e1]
  obtain ⟨d, hd, hn⟩ := ht w
  unfold Instr.makeInterface
  simp only [Sem.run_bind, hd, Result.andThen_ok]
  split
  · cases hn
  · rfl
theorem V.assert {t xt : TypeId} {x : Operand} {u : Value} (ho : o.op = .typeAssert x xt t false) (hx : ev fs x = some (.iface t u)) (ht : ∀ w, ∃ d, (underlying t).run P w = .ok d w ∧ (match d with | .interface _ => false | _ => true) = true) :
    ∀ a w, eU n fs a → Sat w0 M σ w → jd P o a w u := fun a w hf _ => by
  have e1 := hf.gZ hx
  refine iL (s := Instr.typeAssert (a.eval x) xt t false) (by unfold execOp; rw [ho]) ?_
  rw [e1]
  obtain ⟨d, hd, hn⟩ := ht w
  unfold Instr.typeAssert
  simp only [Sem.run_bind, hd, Result.andThen_ok]
  cases d <;> first | (cases hn; done) | simp
theorem S.zO (hf : eU n fs a) {d : Nat} (hg : gv ops fs o = some true) (hd : o.dst = some d) (hdn : Nat.blt d n = true) {f : FuncId} {args : Array Value} {R : Value → World → Prop}
    (hrun : ∀ a, eU n fs a → (execOp a.eval o).run P w = .ok (.enter f args) w) (hc : Calls P f args w fun e w' => ∃ v, e = .returned v ∧ R v w')
    (k : ∀ v a w', eU n ((d, v) :: fs) a → R v w' → wpList P ops Q rest a w') : wpList P ops Q (o :: rest) a w := by
  unfold wpList
  rw [xE hf hg, if_pos rfl]
  refine .inl ?_
  unfold Oper.wp
  rw [hrun a hf]
  refine Calls.mono hc ?_
  rintro e w' ⟨v, rfl, hR⟩
  show wpList P ops Q rest (a.put o.dst v) w'
  rw [hd]
  exact k v _ w' (hf.put d (Nat.blt_eq ▸ hdn) v) hR
theorem V.J4 {t : TypeId} {x i : Operand} {cs : Array Value} {e : TypeId} {k m : Nat} {z : Int} (ho : o.op = .index t x i) (hx : ev fs x = some (.agg cs)) (hi : ev fs i = some (.int .i64 z))
    (ht : ∀ w, (underlying t).run P w = .ok (.array k e) w) (hm : ∀ w, (Go.sizeOf e).run P w = .ok m w) (h0 : 0 ≤ z ∧ z < (k : Int)) (hp : ∀ w, (part e cs (z.toNat * m)).run P w = .ok v w) :
    ∀ a w, eU n fs a → Sat w0 M σ w → jd P o a w v := fun a w hf _ => by
  have e1 := hf.gZ hx
  have e2 := hf.gZ hi
  refine iL (s := Instr.index t (a.eval x) (a.eval i)) (by unfold execOp; rw [ho]) ?_
  rw [e1, e2]
  unfold Instr.index
  simp only [Sem.run_bind, asIntOf, Sem.run_pure, Result.andThen_ok, ht, h0, and_self, if_true, hm, hp]
theorem C.round {c : Code} {Q : Exit → Act → World → Prop} {m k : Nat} (h : m = k + 1) (hc : c.wp P (Exit.then (Code.rounds P c Q k) Q) a w) : Code.rounds P c Q m a w := by subst h; exact hc
end
abbrev iv (n : Int) : Value := .int .i64 n
abbrev pn (g k : Nat) : Value := .pointer (some ⟨g, k, none⟩)
def QC : Bool → Bool → Bool
  | true, b => b
  | false, b => !b
def okv (n : Nat) (ops : Array Oper) (fs : Fr) (o : Oper) (b : Bool) : Option Nat :=
  match gv ops fs o with
  | some c => match o.dst with
    | some d => match QC c b && Nat.blt d n with
      | true => some d
      | false => none
    | none => none
  | none => none
theorem iG {n : Nat} {ops : Array Oper} {fs : Fr} {o : Oper} {b : Bool} {d : Nat} (h : okv n ops fs o b = some d) : gv ops fs o = some b ∧ o.dst = some d ∧ Nat.blt d n = true := by
  unfold okv at h
  split at h
  · rename_i c hc
    split at h
    · rename_i d' hd
      split at h
      · rename_i hb
        injection h with h; subst h
        rw [Bool.and_eq_true] at hb
        refine ⟨?_, hd, hb.2⟩
        rw [hc]
        have := hb.1
        cases c <;> cases b <;> first | rfl | cases this
      · cases h
    · cases h
  · cases h
def okh (ops : Array Oper) (listed : Array Bool) (i : Nat) : Bool := Region.noSelect ops && Region.free .any ops listed i && (Region.ready .any ops listed).contains i
theorem nX {ops : Array Oper} {listed : Array Bool} {i : Nat} (h : okh ops listed i = true) : Region.noSelect ops = true ∧ Region.free .any ops listed i = true ∧ (Region.ready .any ops listed).contains i = true := by
  unfold okh at h
  rw [Bool.and_eq_true, Bool.and_eq_true] at h
  exact ⟨h.1.1, h.1.2, h.2⟩
def okm (ops : Array Oper) (listed : Array Bool) (i s : Nat) : Bool := okh ops listed i && (waitsFor .any ops s i && (!(listed.getD s true) && !(Nat.beq i s)))
theorem JW {ops : Array Oper} {listed : Array Bool} {i s : Nat} (h : okm ops listed i s = true) : okh ops listed i = true ∧ waitsFor .any ops s i = true ∧ listed.getD s true = false ∧ Nat.beq i s = false := by
  unfold okm at h
  rw [Bool.and_eq_true, Bool.and_eq_true, Bool.and_eq_true, Bool.not_eq_true', Bool.not_eq_true'] at h
  exact ⟨h.1, h.2.1, h.2.2.1, h.2.2.2⟩
section
variable {P : Program} {n : Nat} {fs : Fr} {a : Act} {o : Oper} {ops : Array Oper} {rest : List Oper} {Q : Exit → Act → World → Prop} {w w0 : World} {M : Nat → Prop} {σ : List gW} {S : World → Prop} {fuel : Nat} {listed : Array Bool}
theorem S.v (hf : eU n fs a) (hs : Sat w0 M σ w) (v : Value) {d : Nat} (e : okv n ops fs o true = some d) (hrun : ∀ a w, eU n fs a → Sat w0 M σ w → jd P o a w v) (k : ∀ a, eU n ((d, v) :: fs) a → wpList P ops Q rest a w) : wpList P ops Q (o :: rest) a w :=
  S.val hf hs (iG e).1 (iG e).2.1 (iG e).2.2 hrun k
theorem S.p (hf : eU n fs a) (hs : Sat w0 M σ w) (v : Value) {d : Nat} (e : okv n ops fs o true = some d) (hp : xO fs o.op = some v) (k : ∀ a, eU n ((d, v) :: fs) a → wpList P ops Q rest a w) : wpList P ops Q (o :: rest) a w :=
  S.v hf hs v e (V.pure hp) k
theorem S.k (hf : eU n fs a) {d : Nat} (e : okv n ops fs o false = some d) (k : ∀ a, eU n ((d, undef) :: fs) a → wpList P ops Q rest a w) : wpList P ops Q (o :: rest) a w :=
  S.skip hf (iG e).1 (iG e).2.1 (iG e).2.2 k
theorem D.v {K : Act → Prop} (hf : eU n fs a) (v : Value) {d : Nat} (e : okv n ops fs o true = some d) (hrun : ∀ a w, eU n fs a → Sat w0 M σ w → jd P o a w v) (k : ∀ a, eU n ((d, v) :: fs) a → wpQuiet P ops (Sat w0 M σ) K rest a) : wpQuiet P ops (Sat w0 M σ) K (o :: rest) a :=
  D.val hf (iG e).1 (iG e).2.1 (iG e).2.2 hrun k
theorem D.p {K : Act → Prop} (hf : eU n fs a) (v : Value) {d : Nat} (e : okv n ops fs o true = some d) (hp : xO fs o.op = some v) (k : ∀ a, eU n ((d, v) :: fs) a → wpQuiet P ops (Sat w0 M σ) K rest a) : wpQuiet P ops (Sat w0 M σ) K (o :: rest) a :=
  D.v hf v e (V.pure hp) k
theorem D.k {K : Act → Prop} (hf : eU n fs a) {d : Nat} (e : okv n ops fs o false = some d) (k : ∀ a, eU n ((d, undef) :: fs) a → wpQuiet P ops (Sat w0 M σ) K rest a) : wpQuiet P ops (Sat w0 M σ) K (o :: rest) a :=
  D.skip hf (iG e).1 (iG e).2.1 (iG e).2.2 k
theorem H.v (hf : eU n fs a) (hs : S w) (v : Value) (i : Nat) {d : Nat} (hi : ops[i]? = some o) (e : okv n ops fs o true = some d) (h : okh ops listed i = true) (hrun : ∀ a w, eU n fs a → S w → jd P o a w v) (k : ∀ a, eU n ((d, v) :: fs) a → wpAnyH P .any ops (gI Q) S fuel (listed.setIfInBounds i true) a w) : wpAnyH P .any ops (gI Q) S (fuel + 1) listed a w :=
  H.val hf hs hi (iG e).1 (iG e).2.1 (iG e).2.2 (nX h).1 (nX h).2.1 (nX h).2.2 hrun k
theorem H.k (hf : eU n fs a) (hs : S w) (i : Nat) {d : Nat} (hi : ops[i]? = some o) (e : okv n ops fs o false = some d) (h : okh ops listed i = true) (k : ∀ a, eU n ((d, undef) :: fs) a → wpAnyH P .any ops (gI Q) S fuel (listed.setIfInBounds i true) a w) : wpAnyH P .any ops (gI Q) S (fuel + 1) listed a w :=
  H.skip hf hs hi (iG e).1 (iG e).2.1 (iG e).2.2 (nX h).1 (nX h).2.1 (nX h).2.2 k
theorem M.v {s : Nat} (hf : eU n fs a) (hs : S w) (v : Value) (i : Nat) {d : Nat} (hi : ops[i]? = some o) (e : okv n ops fs o true = some d) (h : okm ops listed i s = true) (hrun : ∀ a w, eU n fs a → S w → jd P o a w v) (k : ∀ a, eU n ((d, v) :: fs) a → ji P .any ops (gI Q) S s fuel (listed.setIfInBounds i true) a w) : ji P .any ops (gI Q) S s (fuel + 1) listed a w :=
  have g := JW h
  M.val hf hs hi (iG e).1 (iG e).2.1 (iG e).2.2 (nX g.1).1 (nX g.1).2.1 (nX g.1).2.2 g.2.1 g.2.2.1 g.2.2.2 hrun k
theorem M.k {s : Nat} (hf : eU n fs a) (hs : S w) (i : Nat) {d : Nat} (hi : ops[i]? = some o) (e : okv n ops fs o false = some d) (h : okm ops listed i s = true) (k : ∀ a, eU n ((d, undef) :: fs) a → ji P .any ops (gI Q) S s fuel (listed.setIfInBounds i true) a w) : ji P .any ops (gI Q) S s (fuel + 1) listed a w :=
  have g := JW h
  M.skip hf hs hi (iG e).1 (iG e).2.1 (iG e).2.2 (nX g.1).1 (nX g.1).2.1 (nX g.1).2.2 g.2.1 g.2.2.1 g.2.2.2 k
end
theorem Nr {α : Type} {xs : List α} {z : Int} {y : α} {k : Nat} (h0 : 0 ≤ z) (hy : xs[z.toNat]? = some y) (hl : xs.length = k) : 0 ≤ z ∧ z < (k : Int) := by
  have := dO hy
  omega
theorem Js {α : Type} [Flat α] {P : Program} {t : TypeId} {xs : List α} {cs : Array Value} {z : Int} {y : α} {m : Nat} {v : Value} (hy : xs[z.toNat]? = some y) (hcs : cs = (xs.flatMap Flat.enc).toArray)
    (hag : ∀ w, (isAgg t).run P w = .ok true w) (hsz : ∀ w, (Go.sizeOf t).run P w = .ok m w) (hm : m = Flat.sz α) (hv : v = .agg (Flat.enc y).toArray) : ∀ w, (part t cs (z.toNat * m)).run P w = .ok v w := fun w => by
  subst hm; subst hv
  refine NH hag hsz ?_
  subst hcs
  apply Array.ext_getElem?
  intro j
  rw [Array.getElem?_extract]
  have hlt := dO hy
  have hlen := fE xs
  have hge : (z.toNat + 1) * Flat.sz α ≤ xs.length * Flat.sz α := Nat.mul_le_mul_right _ hlt
  rw [Nat.add_mul, Nat.one_mul] at hge
  simp only [List.getElem?_toArray, List.size_toArray, hlen]
  rw [Nat.min_eq_left (by omega)]
  split
  · rename_i h
    exact jg xs _ y hy j (by omega)
  · rename_i h
    rw [List.getElem?_eq_none (by rw [Flat.len]; omega)]
def okp (n : Nat) (ops : Array Oper) (fs : Fr) (o : Oper) : Option (Nat × Value) :=
  match okv n ops fs o true, xO fs o.op with
  | some d, some v => some (d, v)
  | _, _ => none
theorem wM {n : Nat} {ops : Array Oper} {fs : Fr} {o : Oper} {d : Nat} {v : Value} (h : okp n ops fs o = some (d, v)) : okv n ops fs o true = some d ∧ xO fs o.op = some v := by
  unfold okp at h
  split at h
  · rename_i h1 h2; injection h with h; injection h with h3 h4; subst h3; subst h4; exact ⟨h1, h2⟩
  · cases h
theorem S.q {P : Program} {n : Nat} {fs : Fr} {a : Act} {o : Oper} {ops : Array Oper} {rest : List Oper} {Q : Exit → Act → World → Prop} {w w0 : World} {M : Nat → Prop} {σ : List gW} (hf : eU n fs a) (hs : Sat w0 M σ w) (v : Value) {d : Nat} (e : okp n ops fs o = some (d, v)) (k : ∀ a, eU n ((d, v) :: fs) a → wpList P ops Q rest a w) : wpList P ops Q (o :: rest) a w :=
  S.p hf hs v (wM e).1 (wM e).2 k
theorem X.n {P : Program} {ops : Array Oper} {J : Act → World → Prop} {Q : Exit → Act → World → Prop} {a : Act} {w : World} (h : J a w) : wpList P ops (Exit.then J Q) [] a w := R.nil (X.eF h)
theorem X.l {P : Program} {id : Nat} {l : List Oper} {y : Code} {Q : Exit → Act → World → Prop} {a : Act} {w : World} (h : wpList P l.toArray (Exit.then (y.wp P Q) Q) l a w) : (Code.seq (Code.region id l.toArray false) y).wp P Q a w := wp_seq (R.list h)
section
variable {α β γ δ ε : Type} {k : Nat}
theorem NM {F : (α → Prop) → α → Prop} {s : α} (h : jW F (k + 1) s) : ∃ X : α → Prop, X = (fun s => jW F k s) ∧ F X s := ⟨_, rfl, h⟩
theorem BB {F : (α × β → Prop) → α × β → Prop} {x : α} {y : β} (h : jW F (k + 1) (x, y)) : ∃ X : α → β → Prop, X = (fun x y => jW F k (x, y)) ∧ F (fun s => X s.1 s.2) (x, y) := ⟨_, rfl, h⟩
theorem O4 {F : (α × β × γ → Prop) → α × β × γ → Prop} {x : α} {y : β} {z : γ} (h : jW F (k + 1) (x, y, z)) : ∃ X : α → β → γ → Prop, X = (fun x y z => jW F k (x, y, z)) ∧ F (fun s => X s.1 s.2.1 s.2.2) (x, y, z) := ⟨_, rfl, h⟩
theorem P7 {F : (α × β × γ × δ → Prop) → α × β × γ × δ → Prop} {x : α} {y : β} {z : γ} {u : δ} (h : jW F (k + 1) (x, y, z, u)) : ∃ X : α → β → γ → δ → Prop, X = (fun x y z u => jW F k (x, y, z, u)) ∧ F (fun s => X s.1 s.2.1 s.2.2.1 s.2.2.2) (x, y, z, u) := ⟨_, rfl, h⟩
theorem QG {F : (α × β × γ × δ × ε → Prop) → α × β × γ × δ × ε → Prop} {x : α} {y : β} {z : γ} {u : δ} {v : ε} (h : jW F (k + 1) (x, y, z, u, v)) : ∃ X : α → β → γ → δ → ε → Prop, X = (fun x y z u v => jW F k (x, y, z, u, v)) ∧ F (fun s => X s.1 s.2.1 s.2.2.1 s.2.2.2.1 s.2.2.2.2) (x, y, z, u, v) := ⟨_, rfl, h⟩
theorem zM {B : Nat → α → Unit → (Unit → Prop) → Prop} {D : Unit → Prop} {x : α} {r : List α} (h : forIn' B D (x :: r) k ()) : ∃ X : Prop, X = forIn' B D r (k + 1) () ∧ B k x () (fun _ => X) := ⟨_, rfl, h⟩
theorem uN {B : Nat → α → β → (β → Prop) → Prop} {D : β → Prop} {x : α} {r : List α} {s : β} (h : forIn' B D (x :: r) k s) : ∃ X : β → Prop, X = (fun s => forIn' B D r (k + 1) s) ∧ B k x s X := ⟨_, rfl, h⟩
theorem P5 {B : Nat → α → β × γ → (β × γ → Prop) → Prop} {D : β × γ → Prop} {x : α} {r : List α} {s : β} {t : γ} (h : forIn' B D (x :: r) k (s, t)) : ∃ X : β → γ → Prop, X = (fun s t => forIn' B D r (k + 1) (s, t)) ∧ B k x (s, t) (fun s => X s.1 s.2) := ⟨_, rfl, h⟩
theorem OJ {B : Nat → α → β × γ × δ → (β × γ × δ → Prop) → Prop} {D : β × γ × δ → Prop} {x : α} {r : List α} {s : β} {t : γ} {u : δ} (h : forIn' B D (x :: r) k (s, t, u)) : ∃ X : β → γ → δ → Prop, X = (fun s t u => forIn' B D r (k + 1) (s, t, u)) ∧ B k x (s, t, u) (fun s => X s.1 s.2.1 s.2.2) := ⟨_, rfl, h⟩
theorem fzx {B : Nat → α → β → (β → Prop) → Prop} {D : β → Prop} {s : β} (h : forIn' B D [] k s) : D s := h
end
section
variable {P : Program} {n : Nat} {fs : Fr} {a : Act} {o : Oper} {ops : Array Oper} {rest : List Oper} {Q : Exit → Act → World → Prop} {w w0 : World} {N : Nat → Prop} {σ : List gW} {U : World → Prop} {fuel : Nat} {listed : Array Bool} {J : Act → World → Prop} {K : Act → Prop} {x y : Code} {v : Value} {d : Nat}
theorem Sq (v : Value) {d : Nat} (e : okp n ops fs o = some (d, v)) (k : ∀ a, eU n ((d, v) :: fs) a → wpList P ops Q rest a w) : ∀ a, eU n fs a → wpList P ops Q (o :: rest) a w := fun _ hf => S.q hf (Sat.start w none_) v e k
theorem Sv (hs : Sat w0 N σ w) (v : Value) {d : Nat} (e : okv n ops fs o true = some d) (hrun : ∀ a w, eU n fs a → Sat w0 N σ w → jd P o a w v) (k : ∀ a, eU n ((d, v) :: fs) a → wpList P ops Q rest a w) : ∀ a, eU n fs a → wpList P ops Q (o :: rest) a w := fun _ hf => S.v hf hs v e hrun k
theorem Sk {d : Nat} (e : okv n ops fs o false = some d) (k : ∀ a, eU n ((d, undef) :: fs) a → wpList P ops Q rest a w) : ∀ a, eU n fs a → wpList P ops Q (o :: rest) a w := fun _ hf => S.k hf e k
theorem Dq (v : Value) {d : Nat} (e : okp n ops fs o = some (d, v)) (k : ∀ a, eU n ((d, v) :: fs) a → wpQuiet P ops (Sat w0 N σ) K rest a) : ∀ a, eU n fs a → wpQuiet P ops (Sat w0 N σ) K (o :: rest) a := fun _ hf => D.p hf v (wM e).1 (wM e).2 k
theorem Dw (v : Value) {d : Nat} (e : okv n ops fs o true = some d) (hrun : ∀ a w, eU n fs a → Sat w0 N σ w → jd P o a w v) (k : ∀ a, eU n ((d, v) :: fs) a → wpQuiet P ops (Sat w0 N σ) K rest a) : ∀ a, eU n fs a → wpQuiet P ops (Sat w0 N σ) K (o :: rest) a := fun _ hf => D.v hf v e hrun k
theorem Dk {d : Nat} (e : okv n ops fs o false = some d) (k : ∀ a, eU n ((d, undef) :: fs) a → wpQuiet P ops (Sat w0 N σ) K rest a) : ∀ a, eU n fs a → wpQuiet P ops (Sat w0 N σ) K (o :: rest) a := fun _ hf => D.k hf e k
theorem Hw (hs : U w) (v : Value) (i : Nat) {d : Nat} (hi : ops[i]? = some o) (e : okv n ops fs o true = some d) (hrun : ∀ a w, eU n fs a → U w → jd P o a w v) (k : ∀ a, eU n ((d, v) :: fs) a → wpAnyH P .any ops (gI Q) U fuel (listed.setIfInBounds i true) a w) (h : okh ops listed i = true := by kernel_rfl) : ∀ a, eU n fs a → wpAnyH P .any ops (gI Q) U (fuel + 1) listed a w := fun _ hf => H.v hf hs v i hi e h hrun k
theorem Hq (hs : Sat w0 N σ w) (v : Value) (i : Nat) {d : Nat} (hi : ops[i]? = some o) (e : okp n ops fs o = some (d, v)) (k : ∀ a, eU n ((d, v) :: fs) a → wpAnyH P .any ops (gI Q) (Sat w0 N σ) fuel (listed.setIfInBounds i true) a w) (h : okh ops listed i = true := by kernel_rfl) : ∀ a, eU n fs a → wpAnyH P .any ops (gI Q) (Sat w0 N σ) (fuel + 1) listed a w := fun _ hf => H.v hf hs v i hi (wM e).1 h (V.pure (wM e).2) k
theorem Hkx (hs : U w) (i : Nat) {d : Nat} (hi : ops[i]? = some o) (e : okv n ops fs o false = some d) (k : ∀ a, eU n ((d, undef) :: fs) a → wpAnyH P .any ops (gI Q) U fuel (listed.setIfInBounds i true) a w) (h : okh ops listed i = true := by kernel_rfl) : ∀ a, eU n fs a → wpAnyH P .any ops (gI Q) U (fuel + 1) listed a w := fun _ hf => H.k hf hs i hi e h k
theorem Mw {s : Nat} (hs : U w) (v : Value) (i : Nat) {d : Nat} (hi : ops[i]? = some o) (e : okv n ops fs o true = some d) (hrun : ∀ a w, eU n fs a → U w → jd P o a w v) (k : ∀ a, eU n ((d, v) :: fs) a → ji P .any ops (gI Q) U s fuel (listed.setIfInBounds i true) a w) (h : okm ops listed i s = true := by kernel_rfl) : ∀ a, eU n fs a → ji P .any ops (gI Q) U s (fuel + 1) listed a w := fun _ hf => M.v hf hs v i hi e h hrun k
theorem Mq {s : Nat} (hs : Sat w0 N σ w) (v : Value) (i : Nat) {d : Nat} (hi : ops[i]? = some o) (e : okp n ops fs o = some (d, v)) (k : ∀ a, eU n ((d, v) :: fs) a → ji P .any ops (gI Q) (Sat w0 N σ) s fuel (listed.setIfInBounds i true) a w) (h : okm ops listed i s = true := by kernel_rfl) : ∀ a, eU n fs a → ji P .any ops (gI Q) (Sat w0 N σ) s (fuel + 1) listed a w := fun _ hf => M.v hf hs v i hi (wM e).1 h (V.pure (wM e).2) k
theorem Mkx {s : Nat} (hs : U w) (i : Nat) {d : Nat} (hi : ops[i]? = some o) (e : okv n ops fs o false = some d) (k : ∀ a, eU n ((d, undef) :: fs) a → ji P .any ops (gI Q) U s fuel (listed.setIfInBounds i true) a w) (h : okm ops listed i s = true := by kernel_rfl) : ∀ a, eU n fs a → ji P .any ops (gI Q) U s (fuel + 1) listed a w := fun _ hf => M.k hf hs i hi e h k
theorem Ho (i : Nat) (hi : ops[i]? = some o) (h : wpList P ops (Exit.then (fun a' w' => U w' ∧ wpAnyH P .any ops (gI Q) U fuel (listed.setIfInBounds i true) a' w') (gI Q)) [o] a w) (hr : Region.ready .any ops listed = [i] := by kernel_rfl) : wpAnyH P .any ops (gI Q) U (fuel + 1) listed a w := H.one hi hr h
theorem Hd (h : Q .normal a w) (hr : Region.ready .any ops listed = [] := by kernel_rfl) : wpAnyH P .any ops (gI Q) U fuel listed a w := H.done hr h
theorem Mo {s : Nat} (i : Nat) (hi : ops[i]? = some o) (h : wpList P ops (Exit.then (fun a' w' => U w' ∧ ji P .any ops (gI Q) U s fuel (listed.setIfInBounds i true) a' w') (gI Q)) [o] a w) (hr : Region.ready .any ops listed = [i] := by kernel_rfl) : ji P .any ops (gI Q) U s (fuel + 1) listed a w := M.one hi hr h
theorem Md {s : Nat} (h : Q .normal a w) (hr : Region.ready .any ops listed = [] := by kernel_rfl) : ji P .any ops (gI Q) U s fuel listed a w := M.done hr h
theorem Al (hf : eU n fs a) (k : ∀ a, eU n fs a → wpList P ops Q rest a w) : wpList P ops Q rest a w := k a hf
theorem Ah (hf : eU n fs a) (k : ∀ a, eU n fs a → wpAnyH P .any ops Q U fuel listed a w) : wpAnyH P .any ops Q U fuel listed a w := k a hf
theorem Am {s : Nat} (hf : eU n fs a) (k : ∀ a, eU n fs a → ji P .any ops Q U s fuel listed a w) : ji P .any ops Q U s fuel listed a w := k a hf
theorem Ad (hf : eU n fs a) (k : ∀ a, eU n fs a → wpQuiet P ops U K rest a) : wpQuiet P ops U K rest a := k a hf
theorem Yl {id : Nat} {l : List Oper} (hf : eU n fs a) (k : ∀ a, eU n fs a → wpList P l.toArray (Exit.then (y.wp P Q) Q) l a w) : (Code.seq (Code.region id l.toArray false) y).wp P Q a w := X.l (k a hf)
theorem Rm {id : Nat} {l : List Oper} (hf : eU n fs a) (k : ∀ a, eU n fs a → wpList P l.toArray Q l a w) : (Code.region id l.toArray false).wp P Q a w := R.list (k a hf)
theorem Xn (k : ∀ a, eU n fs a → J a w) : ∀ a, eU n fs a → wpList P ops (Exit.then J Q) [] a w := fun a hf => X.n (k a hf)
theorem Xl {id : Nat} {l : List Oper} (k : ∀ a, eU n fs a → wpList P l.toArray (Exit.then (y.wp P Q) Q) l a w) : ∀ a, eU n fs a → (Code.seq (Code.region id l.toArray false) y).wp P Q a w := fun a hf => X.l (k a hf)
theorem Ws (k : ∀ a, eU n fs a → x.wp P (Exit.then (fun a w => y.wp P Q a w) Q) a w) : ∀ a, eU n fs a → (Code.seq x y).wp P Q a w := fun a hf => wp_seq (k a hf)
theorem Rl {id : Nat} {l : List Oper} (k : ∀ a, eU n fs a → wpList P l.toArray Q l a w) : ∀ a, eU n fs a → (Code.region id l.toArray false).wp P Q a w := fun a hf => R.list (k a hf)
theorem Wb {id : Nat} {c : Code} (k : ∀ a, eU n fs a → c.wp P (Exit.inBlock id Q) a w) : ∀ a, eU n fs a → (Code.block id c).wp P Q a w := fun a hf => wp_block (k a hf)
theorem Wsk (k : ∀ a, eU n fs a → Q .normal a w) : ∀ a, eU n fs a → (Code.skip).wp P Q a w := fun a hf => wp_skip (k a hf)
theorem Xt (k : ∀ a, eU n fs a → J a w) : ∀ a, eU n fs a → Exit.then J Q .normal a w := fun a hf => X.eF (k a hf)
theorem Xb {id : Nat} (k : ∀ a, eU n fs a → Q .normal a w) : ∀ a, eU n fs a → Exit.inBlock id Q .normal a w := fun a hf => X.blk (k a hf)
theorem Hsp (hf : eU n fs a) (hs : U w) {d : Nat} {b : Bool} (i : Nat) (hi : ops[i]? = some o) (e : okv n ops fs o true = some d) (hrun : ∀ a w, eU n fs a → U w → jd P o a w (.bool b)) (kt : b = true → ∀ a, eU n ((d, .bool true) :: fs) a → wpAnyH P .any ops (gI Q) U fuel (listed.setIfInBounds i true) a w) (kf : b = false → ∀ a, eU n ((d, .bool false) :: fs) a → wpAnyH P .any ops (gI Q) U fuel (listed.setIfInBounds i true) a w) (h : okh ops listed i = true := by kernel_rfl) : wpAnyH P .any ops (gI Q) U (fuel + 1) listed a w :=
  H.split hf hs hi (iG e).1 (iG e).2.1 (iG e).2.2 (nX h).1 (nX h).2.1 (nX h).2.2 hrun kt kf
theorem Sc (hf : eU n fs a) {x : Operand} {xs : Array Operand} {ts : Array TypeId} {f : FuncId} {vs : List Value} {d : Nat} {R : Value → World → Prop} (hc : Ret P f vs.toArray w R) (e : okv n ops fs o true = some d) (ho : o.op = .call ⟨.value x, xs, ts⟩) (hx : ev fs x = some (.func (.func f) #[] #[])) (hxs : evs fs xs.toList = some vs)
    (hcf : ∀ args w, (callFunc f args).run P w = .ok (.enter f args) w) (k : ∀ v a w', eU n ((d, v) :: fs) a → R v w' → wpList P ops Q rest a w') : wpList P ops Q (o :: rest) a w :=
  S.call hf (iG e).1 (iG e).2.1 (iG e).2.2 (L8 ho hx hxs hcf) hc k
theorem Su (hf : eU n fs a) {x : Operand} {xs : Array Operand} {ts : Array TypeId} {f : FuncId} {vs : List Value} {d : Nat} (hc : Ret P f vs.toArray w fun v' w' => v' = v ∧ Sat w none_ [] w') (e : okv n ops fs o true = some d) (ho : o.op = .call ⟨.value x, xs, ts⟩) (hx : ev fs x = some (.func (.func f) #[] #[])) (hxs : evs fs xs.toList = some vs)
    (hcf : ∀ args w, (callFunc f args).run P w = .ok (.enter f args) w) (k : ∀ a w', eU n ((d, v) :: fs) a → Sat w none_ [] w' → wpList P ops Q rest a w') : wpList P ops Q (o :: rest) a w :=
  S.QE hf (iG e).1 (iG e).2.1 (iG e).2.2 (L8 ho hx hxs hcf) hc k
theorem Hs {id : Nat} (hs : Sat w0 N σ w) (hm : P.follows .mixedOrders = true) (h : Sat w0 N σ w.drew → wpAnyH P .any ops (gI Q) (Sat w0 N σ) ops.size (Array.replicate ops.size false) a w.drew) : (Code.region id ops true).wp P Q a w := H.start hm (h hs.drew)
theorem Hm {id : Nat} {τ : List gW} (ht : Sat w0 N τ w) (hs : Sat w0 N σ w) (hm : P.follows .mixedOrders = true) (h : Sat w0 N σ w.drew → wpAnyH P .any ops (gI Q) (Sat w0 N τ) ops.size (Array.replicate ops.size false) a w.drew) : (Code.region id ops true).wp P Q a w := H.start hm (h hs.drew)
theorem Ci (hf : eU n fs a) {b : Bool} {A B : Prop} (h : (b = true → A) ∧ (b = false → B)) {z : Operand} (e : ev fs z = some (.bool b)) (k1 : b = true → A → x.wp P Q a w) (k2 : b = false → B → y.wp P Q a w) : (Code.cond z x y).wp P Q a w := C.cond hf e (fun c => k1 c (h.1 c)) (fun c => k2 c (h.2 c))
theorem Si (hf : eU n fs a) (hs : Sat w0 N σ w) {b : Bool} {A B : Prop} (h : (b = true → A) ∧ (b = false → B)) {d : Nat} (e : okv n ops fs o true = some d) (hrun : ∀ a w, eU n fs a → Sat w0 N σ w → jd P o a w (.bool b)) (k1 : b = true → A → ∀ a, eU n ((d, .bool true) :: fs) a → wpList P ops Q rest a w) (k2 : b = false → B → ∀ a, eU n ((d, .bool false) :: fs) a → wpList P ops Q rest a w) : wpList P ops Q (o :: rest) a w :=
  S.split hf hs (iG e).1 (iG e).2.1 (iG e).2.2 hrun (fun c => k1 c (h.1 c)) (fun c => k2 c (h.2 c))
def LZ (fs : Fr) : Fr → Option Fr
  | [] => some []
  | p :: r => match lk fs p.1, LZ fs r with
    | some x, some l => some ((p.1, x) :: l)
    | _, _ => none
theorem eU.pk {gs : Fr} (h : eU n fs a) (e : LZ fs gs = some gs) : eU n gs a := by
  refine h.sub ?_
  have key : ∀ (gs gs' : Fr), LZ fs gs = some gs' → ∀ p ∈ gs', lk fs p.1 = some p.2 := by
    intro gs
    induction gs with
    | nil => intro gs' e p hp; injection e with e; subst e; cases hp
    | cons q r ih =>
      intro gs' e p hp
      unfold LZ at e
      split at e
      · rename_i x l h1 h2
        injection e with e; subst e
        rcases List.mem_cons.1 hp with hp | hp
        · subst hp; exact h1
        · exact ih l h2 p hp
      · cases e
  exact key gs gs e
def frs : List Nat → List gW → Option (List gW)
  | [], σ => some σ
  | k :: r, σ => match σ[k]? with
    | some p => frs r (p :: σ.eraseIdx k)
    | none => none
theorem Sat.fr {σ' : List gW} (hs : Sat w0 N σ w) (l : List Nat) (e : frs l σ = some σ') : Sat w0 N σ' w := by
  induction l generalizing σ with
  | nil => injection e with e; subst e; exact hs
  | cons k r ih =>
    unfold frs at e
    split at e
    · rename_i p hp; exact ih (hs.front k hp) e
    · cases e
theorem eU.ts {α : Type} (h : eU n fs a) (t : Nat) (xs : List α) (i : Nat) (z : α) {A : Option Addr} {C : Nat} (e : lk fs t = some (.slice A xs.length C)) : eU n ((t, .slice A (xs.set i z).length C) :: fs) a :=
  h.tell t ((h.get t _ e).trans (congrArg (fun n => Value.slice A n C) List.length_set.symm))
theorem Lr {fn : Func} {t : Nat} {v : Value} {R : Value → World → Prop} (hf : eU n fs a) (hr : fn.results = #[.tmp t]) (e : lk fs t = some v) (h : R v w) : bodyPost P fn (fun e w' => ∃ v, e = .returned v ∧ R v w') .ret a w := L.ret hf (tY hr (mF.tmp hf e)) h
theorem Ls {fn : Func} {t t' : Nat} {v v' : Value} {R : Value → World → Prop} (hf : eU n fs a) (hr : fn.results = #[.tmp t, .tmp t']) (e : lk fs t = some v) (e' : lk fs t' = some v') (h : R (.tuple #[v, v']) w) : bodyPost P fn (fun e w' => ∃ v, e = .returned v ∧ R v w') .ret a w := L.ret hf (CQ hr (mF.tmp hf e) (mF.tmp hf e')) h
theorem Va {α : Type} [Rep α] {A : Option Addr} {C : Nat} {xs : List α} (hv : View w0 (old w0 N) A C xs) (hs : Sat w0 N σ w) : View w (old w none_) A C xs := (Ag.args _ _ _).view hv hs
theorem Ve {A : Option Addr} {k : Nat} {cs : List Value} (h : gU w0 (old w0 N) A k cs) (hs : Sat w0 N σ w) : gU w (old w none_) A k cs := (Ag.args _ _ _).elem h hs
theorem Z {α : Sort _} {a : α} : a = a := rfl
end
end Go.Proofs.YtfjcgoiedlimdaaGreatDoor

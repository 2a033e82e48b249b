/- Chapter texts of ours, as far as the claim needs them. -/
import Derived.Test.YtihjaehkdgdenaaGreatDoorStrs
import Derived.Lib.AppendStr
import Derived.Lib.LaidTab
import Derived.Lib.ItoaNum
import Derived.LoopN
namespace Go.Proofs.YtihjaehkdgdenaaGreatDoor
open Go Go.RowKit Go.Lib
set_option linter.unusedVariables false
set_option linter.unusedSectionVars false
set_option linter.unusedSimpArgs false
instance instFlatByte : Flat UInt8 := ⟨1, Nat.one_pos, fun x => [.int .u8 x.toNat], fun _ => rfl, fun _ v hv => by simp at hv; subst hv; rfl⟩
attribute [instance 50] instRepList
section
variable {P : Program} {n : Nat} {fs : Fr} {a : Act} {o : Oper} {ops : Array Oper} {rest : List Oper} {Q : Exit → Act → World → Prop} {w w0 : World} {M : Nat → Prop} {σ : List HProp} {v : Value}
theorem V.buildArr {t e : TypeId} {parts : Array (Nat × Operand)} {m k : Nat} {z : Value} {pv : List (Nat × Value)} {cells : Array Value} (ho : o.op = .build t parts) (hz : ∀ w, (zeroValue t).run P w = .ok z w) (hu : ∀ w, (underlying t).run P w = .ok (.array k e) w)
    (hsz : ∀ w, (Go.sizeOf e).run P w = .ok m w) (hpv : evParts fs parts.toList = some pv) (hfill : Instr.fill (fun i => some (i * m, m)) z.cells pv = some cells) :
    ∀ a w, FrOk n fs a → Sat w0 M σ w → RunV P o a w (.agg cells) := fun a w hf _ => by
  have e : parts.map (fun (p : Nat × Operand) => (p.1, a.eval p.2)) = pv.toArray := Array.ext' (by rw [Array.toList_map]; exact evParts_ok hf hpv)
  refine exec_value (s := Instr.build t (parts.map (fun (p : Nat × Operand) => (p.1, a.eval p.2)))) (by unfold execOp; rw [ho]) ?_
  rw [e]
  unfold Instr.build
  simp only [Sem.run_bind, hz, hu, Result.andThen_ok, hsz, hfill]
  rfl
theorem V.indexArr {t : TypeId} {x i : Operand} {g k : Nat} {e : TypeId} {z : Int} (ho : o.op = .indexAddr t x i) (hx : ev fs x = some (.pointer (some ⟨g, 0, none⟩))) (hi : ev fs i = some (.int .i64 z))
    (ht : ∀ w, (underlying t).run P w = .ok (.array k e) w) (hm : ∀ w, (Go.sizeOf e).run P w = .ok 1 w) (h0 : 0 ≤ z) (h1 : z.toNat < k) :
    ∀ a w, FrOk n fs a → Sat w0 M σ w → RunV P o a w (.pointer (some ⟨g, z.toNat, none⟩)) := fun a w hf _ => by
  have e1 := hf.ev_ok hx
  have e2 := hf.ev_ok hi
  refine exec_value (s := Instr.indexAt t (a.eval x) (a.eval i)) (by unfold execOp; rw [ho]) ?_
  rw [e1, e2]
  have hz : 0 ≤ z ∧ z < (k : Int) := ⟨h0, by omega⟩
  unfold Instr.indexAt
  simp only [Sem.run_bind, asIntOf, Sem.run_pure, Result.andThen_ok, ht, hz, and_self, if_true, hm, Nat.mul_one]
  simp [Instr.sureAddr, Addr.add_lit]
end
end Go.Proofs.YtihjaehkdgdenaaGreatDoor
namespace Go.Proofs.YtihjaehkdgdenaaGreatDoor
open Go Go.RowKit
set_option linter.unusedVariables false
set_option linter.unusedSectionVars false
set_option linter.unusedSimpArgs false
section
variable {P : Program} {ops : Array Oper} {Q : Exit → Act → World → Prop} {md : Region.Mode} {K : World → Prop} {s : Nat}
theorem wpAnyM_firstP {i : Nat} {oi : Oper} {v : Value} (hi : ops[i]? = some oi) (hsel : ∀ (j : Nat) (o : Oper) cs b, ops[j]? = some o → o.op ≠ .select cs b)
    (hQ : ∀ c a w, Q (.panic c) (a.put oi.dst v) w → Q (.panic c) a w) :
    ∀ (fuel : Nat) (listed : Array Bool) (a : Act) (w : World),
      (∀ j oj, ops[j]? = some oj → j ≠ i → listed.getD j true = false → (∀ e ∈ oj.after, Region.binds md e = true → e.on ≠ i) → oi.apart ops oj = true) →
      i ∈ Region.ready md ops listed → YieldsIf P ops (fun _ => True) oi v a → i ≠ s → (listed.getD s true = false → K w) →
      wpAnyM P md ops Q K s fuel (listed.setIfInBounds i true) (a.put oi.dst v) w → wpAnyM P md ops Q K s (fuel + 1) listed a w := by
  intro fuel
  induction fuel with
  | zero =>
    intro listed a w _ hr hy his hK H
    refine ⟨fun h => (by rw [h] at hr; cases hr), fun j hj => ?_⟩
    by_cases hji : j = i
    · subst hji; exact hy.wpOp hi trivial ⟨fun hh => hK (by rw [getD_set_ne true his] at hh; exact hh), H⟩
    · have := ready_mono hj hji
      rw [H.1] at this
      cases this
  | succ fuel ih =>
    intro listed a w hfree hr hy his hK H
    refine ⟨fun h => (by rw [h] at hr; cases hr), fun j hj => ?_⟩
    by_cases hji : j = i
    · subst hji; exact hy.wpOp hi trivial ⟨fun hh => hK (by rw [getD_set_ne true his] at hh; exact hh), H⟩
    · have h1 := H.2 j (ready_mono hj hji)
      obtain ⟨hjun, oj, hoj, hall⟩ := mem_ready.1 hj
      have hnot : ∀ e ∈ oj.after, Region.binds md e = true → e.on ≠ i := fun e he hb heq => by
        have h1 := hall e he hb
        have h0 := (mem_ready.1 hr).1
        rw [heq] at h1
        rcases Nat.lt_or_ge i listed.size with h' | h'
        · simp [h'] at h0 h1; rw [h0] at h1; cases h1
        · simp [Array.getElem?_eq_none h'] at h1
      have h2 := wpOp_putIf hoj (hfree j oj hoj hji hjun hnot) (fun cs b => hsel i oi cs b hi) (fun cs b => hsel j oj cs b hoj) hQ hy h1
      have hfree' : ∀ k ok, ops[k]? = some ok → k ≠ i → (listed.setIfInBounds j true).getD k true = false →
          (∀ e ∈ ok.after, Region.binds md e = true → e.on ≠ i) → oi.apart ops ok = true := fun k ok hk hki hun hno => by
        refine hfree k ok hk hki ?_ hno
        by_cases hjk : j = k
        · subst hjk; exact hjun
        · rw [getD_set_ne true hjk] at hun; exact hun
      refine wpOp_mono (fun a' w' h3 => ?_) h2
      have hf : (listed.setIfInBounds j true).getD s true = false → K w' := fun hh => h3.2.1 (by rw [Array.setIfInBounds_comm _ _ (Ne.symm hji), getD_set_ne true his]; exact hh)
      refine ⟨hf, ih (listed.setIfInBounds j true) a' w' hfree' (ready_mono hr (Ne.symm hji)) h3.1 his hf ?_⟩
      rw [Array.setIfInBounds_comm _ _ hji]
      exact h3.2.2
end
section
variable {P : Program} {n : Nat} {fs : Fr} {a : Act} {o : Oper} {v : Value} {ops : Array Oper} {Q : Exit → Act → World → Prop} {w : World} {K : World → Prop} {fuel i s : Nat} {listed : Array Bool}
theorem M.valp (hf : FrOk n fs a) (hs : K w) {d : Nat} (hi : ops[i]? = some o) (hg : gv ops fs o = some true) (hd : o.dst = some d) (hdn : Nat.blt d n = true) (h1 : Region.noSelect ops = true) (h2 : Region.free .any ops listed i = true) (h3 : (Region.ready .any ops listed).contains i = true) (h6 : Nat.beq i s = false)
    (hrun : ∀ (w1 : World) a w, FrOk n fs a → Sat w1 none_ [] w → RunV P o a w v) (k : ∀ a, FrOk n ((d, v) :: fs) a → wpAnyM P .any ops (noPanic Q) K s fuel (listed.setIfInBounds i true) a w) : wpAnyM P .any ops (noPanic Q) K s (fuel + 1) listed a w := by
  refine wpAnyM_firstP (v := v) hi (Region.noSelect_spec h1) (fun c a w h => h) fuel listed a w (Region.free_spec hi h2) (by simpa using h3) (.inl ⟨gv_ok hf hg, fun w _ => hrun w a w hf (Sat.start w none_)⟩) (fun e => by rw [e, Nat.beq_refl] at h6; cases h6) (fun _ => hs) ?_
  rw [hd]
  exact k _ (hf.put d (Nat.blt_eq ▸ hdn) v)
end
def optq {α : Type} (o : Option α) (A : Prop) (B : α → Prop) : Prop := (o = none → A) ∧ ∀ x, o = some x → B x
section
variable {P : Program} {n : Nat} {fs : Fr} {a : Act} {o : Oper} {ops : Array Oper} {rest : List Oper} {Q : Exit → Act → World → Prop} {w w0 : World} {M : Nat → Prop} {σ : List HProp} {v : Value}
theorem run_typeInfo_some {t : TypeId} {info : TypeInfo} (h : P.info? t = some info) : (typeInfo t).run P w = .ok info w := by
  unfold typeInfo
  simp only [Sem.run_bind, run_program, Result.andThen_ok, h, Sem.run_pure]
theorem run_invoke {r : Operand} {name : String} {xs : Array Operand} {ts : Array TypeId} {f : FuncId} {u : Value} {vs full : List Value} (ho : o.op = .call ⟨.invoke r name, xs, ts⟩) (hr : ev fs r = some u) (hxs : evs fs xs.toList = some vs)
    (hm : (callMethod u name vs.toArray).run P w = .ok (.enter f full.toArray) w) : ∀ a, FrOk n fs a → (execOp a.eval o).run P w = .ok (.enter f full.toArray) w := by
  intro a hf
  have e1 := hf.ev_ok hr
  have e2 : xs.map a.eval = vs.toArray := Array.ext' (by rw [Array.toList_map]; exact evs_ok hf hxs)
  unfold execOp
  simp only [ho, resolve, Sem.run_bind, Sem.run_pure, Result.andThen_ok, e1, e2]
  have e3 : (#[u] ++ vs.toArray)[0]? = some u := by simp
  have e4 : (#[u] ++ vs.toArray).extract 1 (#[u] ++ vs.toArray).size = vs.toArray := by simp
  unfold invoke
  simp only [e3, e4]
  exact hm
theorem meth_ptr {t e : TypeId} {i : TypeInfo} {name : String} {sig : TypeId} {f : FuncId} {g : Nat} {vs : List Value} (hi : P.info? t = some i) (hfi : i.methods.find? (·.name == name) = some ⟨name, sig, #[], some (f, true)⟩) (ht : P.underlying t = some (.pointer e)) (hc : ∀ args w, (callFunc f args).run P w = .ok (.enter f args) w) :
    (callMethod (.iface t (.pointer (some ⟨g, 0, none⟩))) name vs.toArray).run P w = .ok (.enter f (Value.pointer (some ⟨g, 0, none⟩) :: vs).toArray) w := by
  unfold callMethod
  obtain ⟨k, hk⟩ : ∃ k, P.types.size + Made.depth = k + 1 := ⟨P.types.size + Made.depth - 1, by have : 0 < Made.depth := by decide
                                                                                                omega⟩
  have hm : (Go.method (k + 1) t (.pointer (some ⟨g, 0, none⟩)) name).run P w = .ok (f, .pointer (some ⟨g, 0, none⟩)) w := by
    unfold Go.method
    simp only [Sem.run_bind, run_typeInfo_some hi, Result.andThen_ok, hfi]
    unfold Go.follow Go.receiverAt
    simp only [Sem.run_bind, Sem.run_pure, Result.andThen_ok, run_underlying ht, Array.toList]
    rfl
  simp only [Sem.run_bind, run_program, Result.andThen_ok, hk, hm]
  rw [hc]
  simp
theorem meth_val {t e : TypeId} {i : TypeInfo} {name : String} {sig : TypeId} {f : FuncId} {g : Nat} {u : Value} {vs : List Value} (hi : P.info? t = some i) (hfi : i.methods.find? (·.name == name) = some ⟨name, sig, #[], some (f, false)⟩) (ht : P.underlying t = some (.pointer e)) (hl : (loadVar e ⟨g, 0, none⟩).run P w = .ok u w) (hc : ∀ args w, (callFunc f args).run P w = .ok (.enter f args) w) :
    (callMethod (.iface t (.pointer (some ⟨g, 0, none⟩))) name vs.toArray).run P w = .ok (.enter f (u :: vs).toArray) w := by
  unfold callMethod
  obtain ⟨k, hk⟩ : ∃ k, P.types.size + Made.depth = k + 1 := ⟨P.types.size + Made.depth - 1, by have : 0 < Made.depth := by decide
                                                                                                omega⟩
  have hm : (Go.method (k + 1) t (.pointer (some ⟨g, 0, none⟩)) name).run P w = .ok (f, u) w := by
    unfold Go.method
    simp only [Sem.run_bind, run_typeInfo_some hi, Result.andThen_ok, hfi]
    unfold Go.follow Go.receiverAt Go.Place.get
    simp only [Sem.run_bind, Sem.run_pure, Result.andThen_ok, run_underlying ht, Array.toList]
    have e1 : ∀ s1 s2, (Builtin.ssaWrapNilChk_ #[t] t #[.pointer (some ⟨g, 0, none⟩), strVal s1, strVal s2]).run P w = .ok (.pointer (some ⟨g, 0, none⟩)) w := fun _ _ => rfl
    have e2 : (asAddr (.pointer (some ⟨g, 0, none⟩))).run P w = .ok ⟨g, 0, none⟩ w := rfl
    simp [e1, e2, hl]
  simp only [Sem.run_bind, run_program, Result.andThen_ok, hk, hm]
  rw [hc]
  simp
theorem load_box (q : Nat) (hs : Sat w0 M σ w) {t : TypeId} {g m : Nat} {e : TypeId} {vs : List Value} {agg : Bool} (hq : σ[q]? = some (hbox g e vs)) (hag : ∀ w, (isAgg t).run P w = .ok agg w) (hsz : ∀ w, (Go.sizeOf t).run P w = .ok m w) (hl : Nat.beq (vs.take m).length m = true) (hv : mkv agg (vs.take m) = some v) :
    (loadVar t ⟨g, 0, none⟩).run P w = .ok v w := by
  obtain ⟨F, ⟨hg, _⟩, _⟩ := hs.nth hq
  have e1 : (Instr.loadAt t (.pointer (some ⟨g, 0, none⟩))).run P w = (loadVar t ⟨g, 0, none⟩).run P w := rfl
  rw [← e1]
  refine run_loadAt' hag hsz _ (vs.take m) (Nat.eq_of_beq_eq_true hl) (fun j u hu => ?_) hv
  rw [Addr.add_lit, cell_of_row w g (0 + j) vs.toArray e (0, 0) hg]
  rw [List.getElem?_take] at hu
  split at hu
  · simpa using hu
  · cases hu
theorem V.makeIface {t : TypeId} {x : Operand} {u : Value} (ho : o.op = .makeInterface t x) (hx : ev fs x = some u) (ht : ∀ w, ∃ d, (underlying t).run P w = .ok d w ∧ (match d with | .interface _ => false | _ => true) = true) :
    ∀ a w, FrOk n fs a → Sat w0 M σ w → RunV P o a w (.iface t u) := fun a w hf _ => by
  have e1 := hf.ev_ok hx
  refine exec_value (s := Instr.makeInterface t (a.eval x)) (by unfold execOp; rw [ho]) ?_
  rw [e1]
  obtain ⟨d, hd, hn⟩ := ht w
  unfold Instr.makeInterface
  simp only [Sem.run_bind, hd, Result.andThen_ok]
  split
  · cases hn
  · rfl
theorem V.assert {t xt : TypeId} {x : Operand} {u : Value} (ho : o.op = .typeAssert x xt t false) (hx : ev fs x = some (.iface t u)) (ht : ∀ w, ∃ d, (underlying t).run P w = .ok d w ∧ (match d with | .interface _ => false | _ => true) = true) :
    ∀ a w, FrOk n fs a → Sat w0 M σ w → RunV P o a w u := fun a w hf _ => by
  have e1 := hf.ev_ok hx
  refine exec_value (s := Instr.typeAssert (a.eval x) xt t false) (by unfold execOp; rw [ho]) ?_
  rw [e1]
  obtain ⟨d, hd, hn⟩ := ht w
  unfold Instr.typeAssert
  simp only [Sem.run_bind, hd, Result.andThen_ok]
  cases d <;> first | (cases hn; done) | simp
theorem S.callW (hf : FrOk n fs a) {d : Nat} (hg : gv ops fs o = some true) (hd : o.dst = some d) (hdn : Nat.blt d n = true) {f : FuncId} {args : Array Value} {R : Value → World → Prop}
    (hrun : ∀ a, FrOk n fs a → (execOp a.eval o).run P w = .ok (.enter f args) w) (hc : Calls P f args w fun e w' => ∃ v, e = .returned v ∧ R v w')
    (k : ∀ v a w', FrOk n ((d, v) :: fs) a → R v w' → wpList P ops Q rest a w') : wpList P ops Q (o :: rest) a w := by
  unfold wpList
  rw [gv_ok hf hg, if_pos rfl]
  refine .inl ?_
  unfold Oper.wp
  rw [hrun a hf]
  refine Calls.mono hc ?_
  rintro e w' ⟨v, rfl, hR⟩
  show wpList P ops Q rest (a.put o.dst v) w'
  rw [hd]
  exact k v _ w' (hf.put d (Nat.blt_eq ▸ hdn) v) hR
theorem V.indexAgg {t : TypeId} {x i : Operand} {cs : Array Value} {e : TypeId} {k m : Nat} {z : Int} (ho : o.op = .index t x i) (hx : ev fs x = some (.agg cs)) (hi : ev fs i = some (.int .i64 z))
    (ht : ∀ w, (underlying t).run P w = .ok (.array k e) w) (hm : ∀ w, (Go.sizeOf e).run P w = .ok m w) (h0 : 0 ≤ z ∧ z < (k : Int)) (hp : ∀ w, (part e cs (z.toNat * m)).run P w = .ok v w) :
    ∀ a w, FrOk n fs a → Sat w0 M σ w → RunV P o a w v := fun a w hf _ => by
  have e1 := hf.ev_ok hx
  have e2 := hf.ev_ok hi
  refine exec_value (s := Instr.index t (a.eval x) (a.eval i)) (by unfold execOp; rw [ho]) ?_
  rw [e1, e2]
  unfold Instr.index
  simp only [Sem.run_bind, asIntOf, Sem.run_pure, Result.andThen_ok, ht, h0, and_self, if_true, hm, hp]
end
end Go.Proofs.YtihjaehkdgdenaaGreatDoor
namespace Go.Proofs.YtihjaehkdgdenaaGreatDoor
open Go Go.RowKit
set_option linter.unusedVariables false
set_option linter.unusedSectionVars false
set_option linter.unusedSimpArgs false
abbrev iv (n : Int) : Value := .int .i64 n
abbrev pn (g k : Nat) : Value := .pointer (some ⟨g, k, none⟩)
def sameB : Bool → Bool → Bool
  | true, b => b
  | false, b => !b
def okv (n : Nat) (ops : Array Oper) (fs : Fr) (o : Oper) (b : Bool) : Option Nat :=
  match gv ops fs o with
  | some c => match o.dst with
    | some d => match sameB c b && Nat.blt d n with
      | true => some d
      | false => none
    | none => none
  | none => none
theorem okv_spec {n : Nat} {ops : Array Oper} {fs : Fr} {o : Oper} {b : Bool} {d : Nat} (h : okv n ops fs o b = some d) : gv ops fs o = some b ∧ o.dst = some d ∧ Nat.blt d n = true := by
  unfold okv at h
  split at h
  · rename_i c hc
    split at h
    · rename_i d' hd
      split at h
      · rename_i hb
        injection h with h; subst h
        rw [Bool.and_eq_true] at hb
        refine ⟨?_, hd, hb.2⟩
        rw [hc]
        have := hb.1
        cases c <;> cases b <;> first | rfl | cases this
      · cases h
    · cases h
  · cases h
def okh (ops : Array Oper) (listed : Array Bool) (i : Nat) : Bool := Region.noSelect ops && Region.free .any ops listed i && (Region.ready .any ops listed).contains i
theorem okh_spec {ops : Array Oper} {listed : Array Bool} {i : Nat} (h : okh ops listed i = true) : Region.noSelect ops = true ∧ Region.free .any ops listed i = true ∧ (Region.ready .any ops listed).contains i = true := by
  unfold okh at h
  rw [Bool.and_eq_true, Bool.and_eq_true] at h
  exact ⟨h.1.1, h.1.2, h.2⟩
def okm (ops : Array Oper) (listed : Array Bool) (i s : Nat) : Bool := okh ops listed i && (waitsFor .any ops s i && (!(listed.getD s true) && !(Nat.beq i s)))
theorem okm_spec {ops : Array Oper} {listed : Array Bool} {i s : Nat} (h : okm ops listed i s = true) : okh ops listed i = true ∧ waitsFor .any ops s i = true ∧ listed.getD s true = false ∧ Nat.beq i s = false := by
  unfold okm at h
  rw [Bool.and_eq_true, Bool.and_eq_true, Bool.and_eq_true, Bool.not_eq_true', Bool.not_eq_true'] at h
  exact ⟨h.1, h.2.1, h.2.2.1, h.2.2.2⟩
section
variable {P : Program} {n : Nat} {fs : Fr} {a : Act} {o : Oper} {ops : Array Oper} {rest : List Oper} {Q : Exit → Act → World → Prop} {w w0 : World} {M : Nat → Prop} {σ : List HProp} {S : World → Prop} {fuel : Nat} {listed : Array Bool}
theorem S.v (hf : FrOk n fs a) (hs : Sat w0 M σ w) (v : Value) {d : Nat} (e : okv n ops fs o true = some d) (hrun : ∀ a w, FrOk n fs a → Sat w0 M σ w → RunV P o a w v) (k : ∀ a, FrOk n ((d, v) :: fs) a → wpList P ops Q rest a w) : wpList P ops Q (o :: rest) a w :=
  S.val hf hs (okv_spec e).1 (okv_spec e).2.1 (okv_spec e).2.2 hrun k
theorem S.p (hf : FrOk n fs a) (hs : Sat w0 M σ w) (v : Value) {d : Nat} (e : okv n ops fs o true = some d) (hp : pureOp fs o.op = some v) (k : ∀ a, FrOk n ((d, v) :: fs) a → wpList P ops Q rest a w) : wpList P ops Q (o :: rest) a w :=
  S.v hf hs v e (V.pure hp) k
theorem S.k (hf : FrOk n fs a) {d : Nat} (e : okv n ops fs o false = some d) (k : ∀ a, FrOk n ((d, undef) :: fs) a → wpList P ops Q rest a w) : wpList P ops Q (o :: rest) a w :=
  S.skip hf (okv_spec e).1 (okv_spec e).2.1 (okv_spec e).2.2 k
theorem D.v {K : Act → Prop} (hf : FrOk n fs a) (v : Value) {d : Nat} (e : okv n ops fs o true = some d) (hrun : ∀ a w, FrOk n fs a → Sat w0 M σ w → RunV P o a w v) (k : ∀ a, FrOk n ((d, v) :: fs) a → wpQuiet P ops (Sat w0 M σ) K rest a) : wpQuiet P ops (Sat w0 M σ) K (o :: rest) a :=
  D.val hf (okv_spec e).1 (okv_spec e).2.1 (okv_spec e).2.2 hrun k
theorem D.p {K : Act → Prop} (hf : FrOk n fs a) (v : Value) {d : Nat} (e : okv n ops fs o true = some d) (hp : pureOp fs o.op = some v) (k : ∀ a, FrOk n ((d, v) :: fs) a → wpQuiet P ops (Sat w0 M σ) K rest a) : wpQuiet P ops (Sat w0 M σ) K (o :: rest) a :=
  D.v hf v e (V.pure hp) k
theorem D.k {K : Act → Prop} (hf : FrOk n fs a) {d : Nat} (e : okv n ops fs o false = some d) (k : ∀ a, FrOk n ((d, undef) :: fs) a → wpQuiet P ops (Sat w0 M σ) K rest a) : wpQuiet P ops (Sat w0 M σ) K (o :: rest) a :=
  D.skip hf (okv_spec e).1 (okv_spec e).2.1 (okv_spec e).2.2 k
theorem H.v (hf : FrOk n fs a) (hs : S w) (v : Value) (i : Nat) {d : Nat} (hi : ops[i]? = some o) (e : okv n ops fs o true = some d) (h : okh ops listed i = true) (hrun : ∀ a w, FrOk n fs a → S w → RunV P o a w v) (k : ∀ a, FrOk n ((d, v) :: fs) a → wpAnyH P .any ops (noPanic Q) S fuel (listed.setIfInBounds i true) a w) : wpAnyH P .any ops (noPanic Q) S (fuel + 1) listed a w :=
  H.val hf hs hi (okv_spec e).1 (okv_spec e).2.1 (okv_spec e).2.2 (okh_spec h).1 (okh_spec h).2.1 (okh_spec h).2.2 hrun k
theorem H.k (hf : FrOk n fs a) (hs : S w) (i : Nat) {d : Nat} (hi : ops[i]? = some o) (e : okv n ops fs o false = some d) (h : okh ops listed i = true) (k : ∀ a, FrOk n ((d, undef) :: fs) a → wpAnyH P .any ops (noPanic Q) S fuel (listed.setIfInBounds i true) a w) : wpAnyH P .any ops (noPanic Q) S (fuel + 1) listed a w :=
  H.skip hf hs hi (okv_spec e).1 (okv_spec e).2.1 (okv_spec e).2.2 (okh_spec h).1 (okh_spec h).2.1 (okh_spec h).2.2 k
theorem M.v {s : Nat} (hf : FrOk n fs a) (hs : S w) (v : Value) (i : Nat) {d : Nat} (hi : ops[i]? = some o) (e : okv n ops fs o true = some d) (h : okm ops listed i s = true) (hrun : ∀ a w, FrOk n fs a → S w → RunV P o a w v) (k : ∀ a, FrOk n ((d, v) :: fs) a → wpAnyM P .any ops (noPanic Q) S s fuel (listed.setIfInBounds i true) a w) : wpAnyM P .any ops (noPanic Q) S s (fuel + 1) listed a w :=
  have g := okm_spec h
  M.val hf hs hi (okv_spec e).1 (okv_spec e).2.1 (okv_spec e).2.2 (okh_spec g.1).1 (okh_spec g.1).2.1 (okh_spec g.1).2.2 g.2.1 g.2.2.1 g.2.2.2 hrun k
theorem M.k {s : Nat} (hf : FrOk n fs a) (hs : S w) (i : Nat) {d : Nat} (hi : ops[i]? = some o) (e : okv n ops fs o false = some d) (h : okm ops listed i s = true) (k : ∀ a, FrOk n ((d, undef) :: fs) a → wpAnyM P .any ops (noPanic Q) S s fuel (listed.setIfInBounds i true) a w) : wpAnyM P .any ops (noPanic Q) S s (fuel + 1) listed a w :=
  have g := okm_spec h
  M.skip hf hs hi (okv_spec e).1 (okv_spec e).2.1 (okv_spec e).2.2 (okh_spec g.1).1 (okh_spec g.1).2.1 (okh_spec g.1).2.2 g.2.1 g.2.2.1 g.2.2.2 k
end
theorem tab_lt {α : Type} {xs : List α} {z : Int} {y : α} {k : Nat} (h0 : 0 ≤ z) (hy : xs[z.toNat]? = some y) (hl : xs.length = k) : 0 ≤ z ∧ z < (k : Int) := by
  have := lt_of_get hy
  omega
theorem tab_part {α : Type} [Flat α] {P : Program} {t : TypeId} {xs : List α} {cs : Array Value} {z : Int} {y : α} {m : Nat} {v : Value} (hy : xs[z.toNat]? = some y) (hcs : cs = (xs.flatMap Flat.enc).toArray)
    (hag : ∀ w, (isAgg t).run P w = .ok true w) (hsz : ∀ w, (Go.sizeOf t).run P w = .ok m w) (hm : m = Flat.sz α) (hv : v = .agg (Flat.enc y).toArray) : ∀ w, (part t cs (z.toNat * m)).run P w = .ok v w := fun w => by
  subst hm; subst hv
  refine part_agg hag hsz ?_
  subst hcs
  apply Array.ext_getElem?
  intro j
  rw [Array.getElem?_extract]
  have hlt := lt_of_get hy
  have hlen := length_flatMap_enc xs
  have hge : (z.toNat + 1) * Flat.sz α ≤ xs.length * Flat.sz α := Nat.mul_le_mul_right _ hlt
  rw [Nat.add_mul, Nat.one_mul] at hge
  simp only [List.getElem?_toArray, List.size_toArray, hlen]
  rw [Nat.min_eq_left (by omega)]
  split
  · rename_i h
    exact getElem?_flatMap_enc xs _ y hy j (by omega)
  · rename_i h
    rw [List.getElem?_eq_none (by rw [Flat.len]; omega)]
def okp (n : Nat) (ops : Array Oper) (fs : Fr) (o : Oper) : Option (Nat × Value) :=
  match okv n ops fs o true, pureOp fs o.op with
  | some d, some v => some (d, v)
  | _, _ => none
theorem okp_spec {n : Nat} {ops : Array Oper} {fs : Fr} {o : Oper} {d : Nat} {v : Value} (h : okp n ops fs o = some (d, v)) : okv n ops fs o true = some d ∧ pureOp fs o.op = some v := by
  unfold okp at h
  split at h
  · rename_i h1 h2; injection h with h; injection h with h3 h4; subst h3; subst h4; exact ⟨h1, h2⟩
  · cases h
theorem S.q {P : Program} {n : Nat} {fs : Fr} {a : Act} {o : Oper} {ops : Array Oper} {rest : List Oper} {Q : Exit → Act → World → Prop} {w w0 : World} {M : Nat → Prop} {σ : List HProp} (hf : FrOk n fs a) (hs : Sat w0 M σ w) (v : Value) {d : Nat} (e : okp n ops fs o = some (d, v)) (k : ∀ a, FrOk n ((d, v) :: fs) a → wpList P ops Q rest a w) : wpList P ops Q (o :: rest) a w :=
  S.p hf hs v (okp_spec e).1 (okp_spec e).2 k
theorem X.n {P : Program} {ops : Array Oper} {J : Act → World → Prop} {Q : Exit → Act → World → Prop} {a : Act} {w : World} (h : J a w) : wpList P ops (Exit.then J Q) [] a w := R.nil (X.then_ h)
theorem X.l {P : Program} {id : Nat} {l : List Oper} {y : Code} {Q : Exit → Act → World → Prop} {a : Act} {w : World} (h : wpList P l.toArray (Exit.then (y.wp P Q) Q) l a w) : (Code.seq (Code.region id l.toArray false) y).wp P Q a w := wp_seq (R.list h)
end Go.Proofs.YtihjaehkdgdenaaGreatDoor

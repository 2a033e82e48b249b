/- Chapter texts of ours, as far as the claim needs them. -/
import Derived.Test.YtcmlcgjjkccaeaaDoorStrs
import Derived.Lib.AppendStr
import Derived.Lib.LaidTab
import Derived.Lib.ItoaNum
namespace Go.Proofs.YtcmlcgjjkccaeaaDoor
open Go Go.RowKit Go.Lib
set_option linter.unusedVariables false
set_option linter.unusedSimpArgs false
instance instFlatByte : Flat UInt8 := ⟨1, Nat.one_pos, fun x => [.int .u8 x.toNat], fun _ => rfl, fun _ v hv => by simp at hv; subst hv; rfl⟩
attribute [instance 50] instRepList
section
variable {P : Program} {n : Nat} {fs : Fr} {a : Act} {o : Oper} {ops : Array Oper} {rest : List Oper} {Q : Exit → Act → World → Prop} {w w0 : World} {M : Nat → Prop} {σ : List HProp} {v : Value}
theorem V.indexArr {t : TypeId} {x i : Operand} {g k : Nat} {e : TypeId} {z : Int} (ho : o.op = .indexAddr t x i) (hx : ev fs x = some (.pointer (some ⟨g, 0, none⟩))) (hi : ev fs i = some (.int .i64 z))
    (ht : ∀ w, (underlying t).run P w = .ok (.array k e) w) (hm : ∀ w, (Go.sizeOf e).run P w = .ok 1 w) (h0 : 0 ≤ z) (h1 : z.toNat < k) :
    ∀ a w, FrOk n fs a → Sat w0 M σ w → RunV P o a w (.pointer (some ⟨g, z.toNat, none⟩)) := fun a w hf _ => by
  have e1 := hf.ev_ok hx
  have e2 := hf.ev_ok hi
  refine exec_value (s := Instr.indexAt t (a.eval x) (a.eval i)) (by unfold execOp; rw [ho]) ?_
  rw [e1, e2]
  have hz : 0 ≤ z ∧ z < (k : Int) := ⟨h0, by omega⟩
  unfold Instr.indexAt
  simp only [Sem.run_bind, asIntOf, Sem.run_pure, Result.andThen_ok, ht, hz, and_self, if_true, hm, Nat.mul_one]
  simp [Instr.sureAddr, Addr.add_lit]
theorem V.loadArr (q : Nat) {t : TypeId} {x : Operand} {g : Nat} {e : TypeId} {vs : List Value} {xs : List Str} {z : Int} {y : Str} (hq : σ[q]? = some (hbox g e vs)) (hvs : vs = xs.map (fun s => Value.string (ba s))) (hy : xs[z.toNat]? = some y) (ho : o.op = .load t x) (hx : ev fs x = some (.pointer (some ⟨g, z.toNat, none⟩)))
    (hag : ∀ w, (isAgg t).run P w = .ok false w) (hsz : ∀ w, (Go.sizeOf t).run P w = .ok 1 w) :
    ∀ a w, FrOk n fs a → Sat w0 M σ w → RunV P o a w (.string (ba y)) := by
  have h1 : (vs.drop z.toNat).take 1 = [.string (ba y)] := by
    have hg : vs[z.toNat]? = some (.string (ba y)) := by rw [hvs, List.getElem?_map, hy]; rfl
    have hlt := lt_of_get hg
    rw [List.drop_eq_getElem_cons hlt]
    rw [List.getElem?_eq_getElem hlt] at hg
    injection hg with hg
    rw [hg]; rfl
  exact V.loadBox q hq ho hx hag hsz (by rw [h1]; rfl) (by rw [h1]; rfl)
end
def TabIn (P : Program) (w : World) (F : Nat → Prop) : Prop := ∃ g, P.globalNamed "internal/strconv.uint64pow10" = some g ∧ F g ∧ ∃ cs t fz, w.heap[g]? = some (.cells cs t fz) ∧ cs = (Lib.pow10Tab.map fun z => Value.int .u64 z).toArray
theorem TabIn.mono {P : Program} {w w' : World} {F F' : Nat → Prop} (h : TabIn P w F) (hF : ∀ b, F b → F' b ∧ w'.heap[b]? = w.heap[b]?) : TabIn P w' F' := by
  obtain ⟨g, h1, h2, cs, t, fz, h3, h4⟩ := h
  exact ⟨g, h1, (hF g h2).1, cs, t, fz, (hF g h2).2.trans h3, h4⟩
end Go.Proofs.YtcmlcgjjkccaeaaDoor

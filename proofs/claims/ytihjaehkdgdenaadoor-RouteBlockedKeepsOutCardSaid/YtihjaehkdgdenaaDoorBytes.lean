/- Chapter texts of ours, as far as the claim needs them. -/
import Derived.Test.YtihjaehkdgdenaaDoorStrs
import Derived.Lib.AppendStr
import Derived.Lib.LaidTab
import Derived.Lib.ItoaNum
namespace Go.Proofs.YtihjaehkdgdenaaDoor
open Go Go.RowKit Go.Lib
set_option linter.unusedVariables false
set_option linter.unusedSectionVars false
set_option linter.unusedSimpArgs false
instance instFlatByte : Flat UInt8 := ⟨1, Nat.one_pos, fun x => [.int .u8 x.toNat], fun _ => rfl, fun _ v hv => by simp at hv; subst hv; rfl⟩
attribute [instance 50] instRepList
section
variable {P : Program} {n : Nat} {fs : Fr} {a : Act} {o : Oper} {ops : Array Oper} {rest : List Oper} {Q : Exit → Act → World → Prop} {w w0 : World} {M : Nat → Prop} {σ : List HProp} {v : Value}
theorem V.buildArr {t e : TypeId} {parts : Array (Nat × Operand)} {m k : Nat} {z : Value} {pv : List (Nat × Value)} {cells : Array Value} (ho : o.op = .build t parts) (hz : ∀ w, (zeroValue t).run P w = .ok z w) (hu : ∀ w, (underlying t).run P w = .ok (.array k e) w)
    (hsz : ∀ w, (Go.sizeOf e).run P w = .ok m w) (hpv : evParts fs parts.toList = some pv) (hfill : Instr.fill (fun i => some (i * m, m)) z.cells pv = some cells) :
    ∀ a w, FrOk n fs a → Sat w0 M σ w → RunV P o a w (.agg cells) := fun a w hf _ => by
  have e : parts.map (fun (p : Nat × Operand) => (p.1, a.eval p.2)) = pv.toArray := Array.ext' (by rw [Array.toList_map]; exact evParts_ok hf hpv)
  refine exec_value (s := Instr.build t (parts.map (fun (p : Nat × Operand) => (p.1, a.eval p.2)))) (by unfold execOp; rw [ho]) ?_
  rw [e]
  unfold Instr.build
  simp only [Sem.run_bind, hz, hu, Result.andThen_ok, hsz, hfill]
  rfl
theorem V.indexArr {t : TypeId} {x i : Operand} {g k : Nat} {e : TypeId} {z : Int} (ho : o.op = .indexAddr t x i) (hx : ev fs x = some (.pointer (some ⟨g, 0, none⟩))) (hi : ev fs i = some (.int .i64 z))
    (ht : ∀ w, (underlying t).run P w = .ok (.array k e) w) (hm : ∀ w, (Go.sizeOf e).run P w = .ok 1 w) (h0 : 0 ≤ z) (h1 : z.toNat < k) :
    ∀ a w, FrOk n fs a → Sat w0 M σ w → RunV P o a w (.pointer (some ⟨g, z.toNat, none⟩)) := fun a w hf _ => by
  have e1 := hf.ev_ok hx
  have e2 := hf.ev_ok hi
  refine exec_value (s := Instr.indexAt t (a.eval x) (a.eval i)) (by unfold execOp; rw [ho]) ?_
  rw [e1, e2]
  have hz : 0 ≤ z ∧ z < (k : Int) := ⟨h0, by omega⟩
  unfold Instr.indexAt
  simp only [Sem.run_bind, asIntOf, Sem.run_pure, Result.andThen_ok, ht, hz, and_self, if_true, hm, Nat.mul_one]
  simp [Instr.sureAddr, Addr.add_lit]
end
end Go.Proofs.YtihjaehkdgdenaaDoor

/- Chapter texts of ours, as far as the claim needs them. -/
import Derived.Test.YtdnilnmdbgcmoaaGreatDoorNear
import Derived.Lib.AppendStr
import Derived.Lib.LaidTab
import Derived.Lib.ItoaNum
namespace Go.Proofs.YtdnilnmdbgcmoaaGreatDoor
open Go Go.RowKit Go.Lib
set_option linter.unusedVariables false
set_option linter.unusedSectionVars false
set_option linter.unusedSimpArgs false
instance instFlatByte : Flat UInt8 := ⟨1, Nat.one_pos, fun x => [.int .u8 x.toNat], fun _ => rfl, fun _ v hv => by simp at hv; subst hv; rfl⟩
attribute [instance 50] instRepList
section
variable {P : Program} {n : Nat} {fs : Fr} {a : Act} {o : Oper} {ops : Array Oper} {rest : List Oper} {Q : Exit → Act → World → Prop} {w w0 : World} {M : Nat → Prop} {σ : List HProp} {v : Value}
theorem V.buildArr {t e : TypeId} {parts : Array (Nat × Operand)} {m k : Nat} {z : Value} {pv : List (Nat × Value)} {cells : Array Value} (ho : o.op = .build t parts) (hz : ∀ w, (zeroValue t).run P w = .ok z w) (hu : ∀ w, (underlying t).run P w = .ok (.array k e) w)
    (hsz : ∀ w, (Go.sizeOf e).run P w = .ok m w) (hpv : evParts fs parts.toList = some pv) (hfill : Instr.fill (fun i => some (i * m, m)) z.cells pv = some cells) :
    ∀ a w, FrOk n fs a → Sat w0 M σ w → RunV P o a w (.agg cells) := fun a w hf _ => by
  have e : parts.map (fun (p : Nat × Operand) => (p.1, a.eval p.2)) = pv.toArray := Array.ext' (by rw [Array.toList_map]; exact evParts_ok hf hpv)
  refine exec_value (s := Instr.build t (parts.map (fun (p : Nat × Operand) => (p.1, a.eval p.2)))) (by unfold execOp; rw [ho]) ?_
  rw [e]
  unfold Instr.build
  simp only [Sem.run_bind, hz, hu, Result.andThen_ok, hsz, hfill]
  rfl
end
def TabIn (P : Program) (w : World) (F : Nat → Prop) : Prop := ∃ g, P.globalNamed "internal/strconv.uint64pow10" = some g ∧ F g ∧ ∃ cs t fz, w.heap[g]? = some (.cells cs t fz) ∧ cs = (Lib.pow10Tab.map fun z => Value.int .u64 z).toArray
theorem TabIn.of {P : Program} {w : World} (h : Lib.TabIs P w "internal/strconv.uint64pow10" .u64 Lib.pow10Tab) : TabIn P w (old w none_) := by
  unfold Lib.TabIs World.var? at h
  obtain ⟨g, h1, h2⟩ := Option.bind_eq_some_iff.1 h
  refine ⟨g, h1, ?_, ?_⟩
  · refine ⟨?_, fun e => e⟩
    cases hb : w.heap[g]? with
    | none => rw [hb] at h2; cases h2
    | some x => exact (Array.getElem?_eq_some_iff.1 hb).1
  · cases hb : w.heap[g]? with
    | none => rw [hb] at h2; cases h2
    | some x =>
      rw [hb] at h2
      cases x with
      | cells cs t fz => exact ⟨cs, t, fz, rfl, Option.some.inj h2⟩
      | _ => cases h2
theorem TabIn.mono {P : Program} {w w' : World} {F F' : Nat → Prop} (h : TabIn P w F) (hF : ∀ b, F b → F' b ∧ w'.heap[b]? = w.heap[b]?) : TabIn P w' F' := by
  obtain ⟨g, h1, h2, cs, t, fz, h3, h4⟩ := h
  exact ⟨g, h1, (hF g h2).1, cs, t, fz, (hF g h2).2.trans h3, h4⟩
end Go.Proofs.YtdnilnmdbgcmoaaGreatDoor

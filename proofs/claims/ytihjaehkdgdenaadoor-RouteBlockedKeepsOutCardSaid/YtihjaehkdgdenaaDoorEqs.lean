/- Chapter texts of ours, as far as the claim needs them. -/
import Derived.Test.YtihjaehkdgdenaaDoorHeld
namespace Go.Proofs.YtihjaehkdgdenaaDoor
open Go Go.RowKit
set_option linter.unusedVariables false
set_option linter.unusedSectionVars false
set_option linter.unusedSimpArgs false
section
variable {P : Program} {w : World} {d : Nat}
theorem eq_int {t : TypeId} {k : IntKind} (hu : ∀ w, (underlying t).run P w = .ok (.int k) w) (a b : Int) : (Op.equalIn (d + 1) t (.int k a) (.int k b)).run P w = .ok (a == b) w := by
  unfold Op.equalIn
  rw [Sem.run_bind, hu]
  simp
theorem part_leaf {t : TypeId} {cs : Array Value} {off : Nat} {v : Value} (hag : ∀ w, (isAgg t).run P w = .ok false w) (h : cs[off]? = some v) : (part t cs off).run P w = .ok v w := by
  unfold part
  simp [Sem.run_bind, hag, h]
theorem part_agg {t : TypeId} {cs cs' : Array Value} {off m : Nat} (hag : ∀ w, (isAgg t).run P w = .ok true w) (hsz : ∀ w, (Go.sizeOf t).run P w = .ok m w) (h : cs.extract off (off + m) = cs') : (part t cs off).run P w = .ok (.agg cs') w := by
  unfold part
  simp [Sem.run_bind, hag, hsz, h]
theorem eqF_nil {xs ys : Array Value} : (Op.eqFields d xs ys []).run P w = .ok true w := rfl
theorem eqF_cons {f : Field} {fs : List Field} {xs ys : Array Value} {a b : Value} {r r' : Bool} (hn : f.name ≠ "_") (h1 : (part f.type xs f.offset).run P w = .ok a w) (h2 : (part f.type ys f.offset).run P w = .ok b w) (h3 : (Op.equalIn d f.type a b).run P w = .ok r w)
    (h4 : (Op.eqFields d xs ys fs).run P w = .ok r' w) : (Op.eqFields d xs ys (f :: fs)).run P w = .ok (r && r') w := by
  unfold Op.eqFields
  rw [if_pos hn]
  simp only [Sem.run_bind, h1, h2, h3, Result.andThen_ok]
  cases r
  · simp
  · simp [h4]
theorem eqStruct {t : TypeId} {fls : Array Field} {xs ys : Array Value} {r r' : Bool} (hu : P.underlying t = some (.struct fls)) (hp : P.stoodInHeld t = false) (h : (Op.eqFields d xs ys fls.toList).run P w = .ok r' w) (hr : r' = r) : (Op.equalIn (d + 1) t (.agg xs) (.agg ys)).run P w = .ok r w := by
  have e : P.fieldsOf t = fls := by simp only [Program.fieldsOf, hu]
  rw [run_equalIn_struct w d t xs ys (by rw [e, hu]) hp, e, h, hr]
variable {n : Nat} {fs : Fr} {o : Oper} {w0 : World} {M : Nat → Prop} {σ : List HProp}
theorem V.aggeql {t ty : TypeId} {x y : Operand} {xs ys : Array Value} {r : Bool} (ho : o.op = .binOp .eql t x y ty) (hx : ev fs x = some (.agg xs)) (hy : ev fs y = some (.agg ys)) (hg : P.eqGuardType P.depth t = false) (he : ∀ w, (Op.equalIn 10000 t (.agg xs) (.agg ys)).run P w = .ok r w) :
    ∀ a w, FrOk n fs a → Sat w0 M σ w → RunV P o a w (.bool r) := fun a w hf _ => by
  have e1 := hf.ev_ok hx
  have e2 := hf.ev_ok hy
  refine exec_value (s := (do eqGuard .eql t x y (a.eval x) (a.eval y); binOp .eql t (a.eval x) (a.eval y))) (by unfold execOp; rw [ho]) ?_
  rw [e1, e2]
  have : (binOp .eql t (.agg xs) (.agg ys)).run P w = .ok (.bool r) w := by
    simp only [binOp, Op.equal, Op.maxDepth, Sem.run_bind, he, Result.andThen_ok]; rfl
  unfold eqGuard
  simp [Sem.run_bind, hg, this]
end
end Go.Proofs.YtihjaehkdgdenaaDoor

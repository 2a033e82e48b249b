/- Chapter texts of ours, as far as the claim needs them. -/
import Derived.Test.YtbegofbmbcghdaaGreatDoorHeld
namespace Go.Proofs.YtbegofbmbcghdaaGreatDoor
open Go Go.RowKit
set_option linter.unusedVariables false
set_option linter.unusedSectionVars false
set_option linter.unusedSimpArgs false
section
variable {P : Program} {w : World} {d : Nat}
theorem eq_int {t : TypeId} {k : IntKind} (hu : ∀ w, (underlying t).run P w = .ok (.int k) w) (a b : Int) : (Op.equalIn (d + 1) t (.int k a) (.int k b)).run P w = .ok (a == b) w := by
  unfold Op.equalIn
  rw [Sem.run_bind, hu]
  simp
theorem P9 {t : TypeId} (hu : ∀ w, (underlying t).run P w = .ok .string w) (a b : Str) : (Op.equalIn (d + 1) t (.string (ba a)) (.string (ba b))).run P w = .ok (a == b) w := by
  unfold Op.equalIn
  rw [Sem.run_bind, hu]
  have h1 : (ba a == ba b) = (a == b) := by
    rw [beq_toListBytes]
    simp [ba, ByteArray.toList_eq]
  simp [h1]
theorem jf {t : TypeId} {cs : Array Value} {off : Nat} {v : Value} (hag : ∀ w, (isAgg t).run P w = .ok false w) (h : cs[off]? = some v) : (part t cs off).run P w = .ok v w := by
  unfold part
  simp [Sem.run_bind, hag, h]
theorem GN {xs ys : Array Value} : (Op.eqFields d xs ys []).run P w = .ok true w := rfl
theorem vw {f : Field} {fs : List Field} {xs ys : Array Value} {a b : Value} {r r' : Bool} (hn : f.name ≠ "_") (h1 : (part f.type xs f.offset).run P w = .ok a w) (h2 : (part f.type ys f.offset).run P w = .ok b w) (h3 : (Op.equalIn d f.type a b).run P w = .ok r w)
    (h4 : (Op.eqFields d xs ys fs).run P w = .ok r' w) : (Op.eqFields d xs ys (f :: fs)).run P w = .ok (r && r') w := by
  unfold Op.eqFields
  rw [if_pos hn]
  simp only [Sem.run_bind, h1, h2, h3, Result.andThen_ok]
  cases r
  · simp
  · simp [h4]
theorem Ey {t : TypeId} {fls : Array Field} {xs ys : Array Value} {r r' : Bool} (hu : P.underlying t = some (.struct fls)) (hp : P.stoodInHeld t = false) (h : (Op.eqFields d xs ys fls.toList).run P w = .ok r' w) (hr : r' = r) : (Op.equalIn (d + 1) t (.agg xs) (.agg ys)).run P w = .ok r w := by
  have e : P.fieldsOf t = fls := by simp only [Program.fieldsOf, hu]
  rw [run_equalIn_struct w d t xs ys (by rw [e, hu]) hp, e, h, hr]
variable {n : Nat} {fs : Fr} {o : Oper} {w0 : World} {M : Nat → Prop} {σ : List gJ}
theorem V.NT {t ty : TypeId} {x y : Operand} {xs ys : Array Value} {r : Bool} (ho : o.op = .binOp .eql t x y ty) (hx : ev fs x = some (.agg xs)) (hy : ev fs y = some (.agg ys)) (hg : P.eqGuardType P.depth t = false) (he : ∀ w, (Op.equalIn 10000 t (.agg xs) (.agg ys)).run P w = .ok r w) :
    ∀ a w, fB n fs a → Sat w0 M σ w → kC P o a w (.bool r) := fun a w hf _ => by
  have e1 := hf.gX hx
  have e2 := hf.gX hy
  refine jg (s := (do eqGuard .eql t x y (a.eval x) (a.eval y); binOp .eql t (a.eval x) (a.eval y))) (by unfold execOp; rw [ho]) ?_
  rw [e1, e2]
  have : (binOp .eql t (.agg xs) (.agg ys)).run P w = .ok (.bool r) w := by
    simp only [binOp, Op.equal, Op.maxDepth, Sem.run_bind, he, Result.andThen_ok]; rfl
  unfold eqGuard
  simp [Sem.run_bind, hg, this]
theorem V.Kr {t ty : TypeId} {x y : Operand} {xs ys : Array Value} {r : Bool} (ho : o.op = .binOp .neq t x y ty) (hx : ev fs x = some (.agg xs)) (hy : ev fs y = some (.agg ys)) (hg : P.eqGuardType P.depth t = false) (he : ∀ w, (Op.equalIn 10000 t (.agg xs) (.agg ys)).run P w = .ok r w) :
    ∀ a w, fB n fs a → Sat w0 M σ w → kC P o a w (.bool (!r)) := fun a w hf _ => by
  have e1 := hf.gX hx
  have e2 := hf.gX hy
  refine jg (s := (do eqGuard .neq t x y (a.eval x) (a.eval y); binOp .neq t (a.eval x) (a.eval y))) (by unfold execOp; rw [ho]) ?_
  rw [e1, e2]
  have : (binOp .neq t (.agg xs) (.agg ys)).run P w = .ok (.bool (!r)) w := by
    simp only [binOp, Op.equal, Op.maxDepth, Sem.run_bind, he, Result.andThen_ok]; rfl
  unfold eqGuard
  simp [Sem.run_bind, hg, this]
end
@[simp] theorem rD {A B : Prop} : cnd true A B ↔ A := ⟨fun h => h.1 rfl, fun h => ⟨fun _ => h, fun e => by cases e⟩⟩
@[simp] theorem jI {A B : Prop} : cnd false A B ↔ B := ⟨fun h => h.2 rfl, fun h => ⟨fun e => (by cases e), fun _ => h⟩⟩
theorem zG {b : Bool} {A B : Prop} : cnd b A B ↔ if b = true then A else B := by cases b <;> simp
theorem eU {b : Bool} {A B : Prop} (ht : b = true → A) (hf : b = false → B) : cnd b A B := ⟨ht, hf⟩
theorem Pz {b : Bool} {A B A' B' : Prop} (h : cnd b A B) (ha : A → A') (hb : B → B') : cnd b A' B' := ⟨fun e => ha (h.1 e), fun e => hb (h.2 e)⟩
theorem Nr {α : Type} {xs : List α} {i : Int} {k : α → Prop} {x : α} (h0 : 0 ≤ i) (hx : xs[i.toNat]? = some x) (h : k x) : idx xs i k := ⟨h0, x, hx, h⟩
theorem gW {α : Type} {xs : List α} {i : Nat} {k : α → Prop} {x : α} (hx : xs[i]? = some x) (h : k x) : idx xs (i : Int) k := ⟨Int.natCast_nonneg _, x, hx, h⟩
theorem Aa {α : Type} [Inhabited α] {xs : List α} {i : Int} {k : α → Prop} (h0 : 0 ≤ i) (h1 : i < xs.length) (h : k (xs.getD i.toNat default)) : idx xs i k := by
  have hlt : i.toNat < xs.length := by omega
  refine ⟨h0, xs[i.toNat], List.getElem?_eq_getElem hlt, ?_⟩
  rw [List.getD_eq_getElem?_getD, List.getElem?_eq_getElem hlt] at h
  exact h
theorem tZ {α : Type} [Inhabited α] {xs : List α} {i : Nat} {x : α} (h : xs[i]? = some x) : xs.getD i default = x := by rw [List.getD_eq_getElem?_getD, h]; rfl
theorem iQ {α σ : Type} {body : Nat → α → σ → (σ → Prop) → Prop} {done : σ → Prop} (I : Nat → σ → Prop) {l : List α} {s : σ} (h0 : I 0 s)
    (step : ∀ k x s, l[k]? = some x → I k s → ∀ next : σ → Prop, (∀ s', I (k + 1) s' → next s') → body k x s next) (hd : ∀ s, I l.length s → done s) : forIn' body done l 0 s :=
  EL I l 0 s h0 (fun j x s hj hI next hn => by
    rw [Nat.zero_add] at hI ⊢
    exact step j x s hj hI next (fun s' h => hn s' (by rw [Nat.zero_add]; exact h))) (fun s hI => hd s (by rw [Nat.zero_add] at hI; exact hI))
theorem gV {n : Int} (h1 : -9223372036854775808 ≤ n) (h2 : n ≤ 9223372036854775807) : w64 n = n := by
  show IntKind.i64.wrap n = n
  rw [IntKind.wrap_i64]; omega
theorem lX {n bytes : Nat} (h : n * bytes ≤ 140737488355328) (hb : 0 < bytes) : room n bytes := ⟨by have := Nat.le_mul_of_pos_right n hb; omega, h⟩
class Fits (α : Type) where
  fits : α → Prop
instance Ru : Fits Int := ⟨fun _ => True⟩
instance QF : Fits Bool := ⟨fun _ => True⟩
instance RH : Fits Str := ⟨fun s => s.length ≤ 9223372036854775807⟩
instance QS {α : Type} [Fits α] : Fits (List α) := ⟨fun l => ∀ x ∈ l, Fits.fits x⟩
end Go.Proofs.YtbegofbmbcghdaaGreatDoor

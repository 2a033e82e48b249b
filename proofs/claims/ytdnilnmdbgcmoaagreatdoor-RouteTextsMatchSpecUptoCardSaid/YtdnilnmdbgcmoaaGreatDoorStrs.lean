/- Chapter texts of ours, as far as the claim needs them. -/
import Derived.Test.YtdnilnmdbgcmoaaGreatDoorMark
namespace Go.Proofs.YtdnilnmdbgcmoaaGreatDoor
open Go Go.RowKit
set_option linter.unusedVariables false
set_option linter.unusedSectionVars false
set_option linter.unusedSimpArgs false
class Bulk (α : Type) where
  bk : α → Nat
  one : ∀ x, 1 ≤ bk x
instance instBulkInt : Bulk Int := ⟨fun _ => 1, fun _ => Nat.le_refl _⟩
instance instBulkBool : Bulk Bool := ⟨fun _ => 1, fun _ => Nat.le_refl _⟩
instance instBulkStr : Bulk Str := ⟨fun s => s.length + 1, fun _ => Nat.le_add_left _ _⟩
instance instBulkList {α : Type} [Bulk α] : Bulk (List α) := ⟨fun l => (l.map Bulk.bk).sum + 1, fun _ => Nat.le_add_left _ _⟩
theorem bulk_mem {α : Type} [Bulk α] {l : List α} {x : α} (h : x ∈ l) : Bulk.bk x < Bulk.bk l := by
  show Bulk.bk x < (l.map Bulk.bk).sum + 1
  have : ∀ (l : List α), x ∈ l → Bulk.bk x ≤ (l.map Bulk.bk).sum := by
    intro l
    induction l with
    | nil => intro h; cases h
    | cons y r ih =>
      intro h
      simp only [List.map_cons, List.sum_cons]
      rcases List.mem_cons.1 h with h | h
      · subst h; omega
      · have := ih h; omega
  have := this l h
  omega
def countB (s : Str) (c : Int) : Int := (s.count c.toNat.toUInt8 : Nat)
section
variable {P : Program} {n : Nat} {fs : Fr} {o : Oper} {v : Value} {w0 : World} {M : Nat → Prop} {σ : List HProp}
theorem ba_extract (s : Str) (l h : Nat) : (ba s).extract l h = ba ((s.take h).drop l) := by
  apply ByteArray.ext
  simp [ba, ByteArray.data_extract, List.extract_toArray, List.extract_eq_take_drop, List.drop_take]
theorem V.sliceStr {t : TypeId} {x : Operand} {lo hi : Option Operand} {zl zh : Option Int} {s : Str} {L H : Int} (ho : o.op = .slice t x lo hi none) (hx : ev fs x = some (.string (ba s))) (hlo : evB fs lo = some zl) (hhi : evB fs hi = some zh)
    (ht : ∀ w, (underlying t).run P w = .ok .string w) (hL : zl.getD 0 = L) (hH : zh.getD s.length = H) (hb : 0 ≤ L ∧ L ≤ H ∧ H ≤ s.length) :
    ∀ a w, FrOk n fs a → Sat w0 M σ w → RunV P o a w (.string (ba (seg s L H))) := fun a w hf _ => by
  have e1 := hf.ev_ok hx
  have e2 : lo.map a.eval = zl.map (Value.int .i64) := by
    cases lo with
    | none => simp only [evB, Option.some.injEq] at hlo; rw [← hlo]; rfl
    | some y =>
      simp only [evB] at hlo
      split at hlo <;> try (cases hlo; done)
      rename_i z hz
      simp only [Option.some.injEq] at hlo; rw [← hlo]; simp [hf.ev_ok hz]
  have e3 : hi.map a.eval = zh.map (Value.int .i64) := by
    cases hi with
    | none => simp only [evB, Option.some.injEq] at hhi; rw [← hhi]; rfl
    | some y =>
      simp only [evB] at hhi
      split at hhi <;> try (cases hhi; done)
      rename_i z hz
      simp only [Option.some.injEq] at hhi; rw [← hhi]; simp [hf.ev_ok hz]
  refine exec_value (s := Instr.sliceAt t (a.eval x) (lo.map a.eval) (hi.map a.eval) (Option.map a.eval none)) (by unfold execOp; rw [ho]) ?_
  rw [e1, e2, e3]
  unfold Instr.sliceAt Instr.slice
  have hb' : 0 ≤ zl.getD 0 ∧ zl.getD 0 ≤ zh.getD ((ba s).size : Nat) ∧ zh.getD ((ba s).size : Nat) ≤ ((ba s).size : Nat) := by rw [ba_size, hL, hH]; exact hb
  simp only [Sem.run_bind, ht, Result.andThen_ok, Option.map_none, Option.isSome_none, Bool.false_eq_true, if_false, run_sliceBounds hb' (Nat.le_refl _), Sem.run_pure, ba_extract, hL]
  rw [ba_size, hH]
  rfl
theorem V.strAdd {t ty : TypeId} {x y : Operand} {s u : Str} (ho : o.op = .binOp .add t x y ty) (hx : ev fs x = some (.string (ba s))) (hy : ev fs y = some (.string (ba u))) (hl : s.length + u.length ≤ 9223372036854775807) :
    ∀ a w, FrOk n fs a → Sat w0 M σ w → RunV P o a w (.string (ba (s ++ u))) := fun a w hf _ => by
  have e1 := hf.ev_ok hx
  have e2 := hf.ev_ok hy
  refine exec_value (s := (do eqGuard .add t x y (a.eval x) (a.eval y); binOp .add t (a.eval x) (a.eval y))) (by unfold execOp; rw [ho]) ?_
  rw [e1, e2]
  have : ba s ++ ba u = ba (s ++ u) := by apply ByteArray.ext; simp [ba]
  have hm : ¬ (((ba s).size + (ba u).size : Nat) : Int) > IntKind.i64.max := by
    rw [ba_size, ba_size]
    have : IntKind.i64.max = 9223372036854775807 := rfl
    omega
  simp [eqGuard, binOp, Op.stringOp, this]; rw [ba_size, ba_size]; omega
end
end Go.Proofs.YtdnilnmdbgcmoaaGreatDoor

/- Chapter texts of ours, as far as the claim needs them. -/
import Derived.Test.YtcmlcgjjkccaeaaDoorBytes
namespace Go.Proofs.YtcmlcgjjkccaeaaDoor
open Go Go.RowKit
set_option linter.unusedVariables false
set_option linter.unusedSimpArgs false
def sval (xs : List Str) : List Value := xs.map (fun s => .string (ba s))
section
variable {w w0 : World} {M : Nat → Prop} {σ : List HProp} {P : Program} {n : Nat} {fs : Fr} {a : Act} {o : Oper} {v : Value} {ops : Array Oper} {rest : List Oper} {Q : Exit → Act → World → Prop}
theorem S.storeArr (q : Nat) (hf : FrOk n fs a) (hs : Sat w0 M σ w) (hg : gv ops fs o = some true) (hd : o.dst = none) {t : TypeId} {x y : Operand} {g i : Nat} {e : TypeId} {xs : List Str} {z : Str} (s : Str) (hq : σ[q]? = some (hbox g e (sval xs))) (hz : xs[i]? = some z)
    (ho : o.op = .store t x y) (hx : ev fs x = some (.pointer (some ⟨g, i, none⟩))) (hy : ev fs y = some (.string (ba s))) (hsz : ∀ w, (Go.sizeOf t).run P w = .ok 1 w)
    (k : ∀ a w', FrOk n fs a → Sat w0 M (σ.set q (hbox g e (sval (xs.set i s)))) w' → wpList P ops Q rest a w') : wpList P ops Q (o :: rest) a w := by
  have hl : (sval xs).length = xs.length := List.length_map _
  have hlt := lt_of_get hz
  refine S.storeBox q hf hs hg hd [.string (ba s)] (sval (xs.set i s)) hq ho hx hy rfl hsz rfl (by rw [hl]; exact Nat.ble_eq_true_of_le (by omega)) rfl ?_ k
  unfold sval
  rw [List.map_set, List.set_eq_take_append_cons_drop, if_pos (by rw [List.length_map]; exact hlt)]
  simp
end
end Go.Proofs.YtcmlcgjjkccaeaaDoor

/- Chapter texts of ours, as far as the claim needs them. -/
import Derived.Test.YtihjaehkdgdenaaDoorStrs
import Derived.Laws.Append
import Derived.Laws.AppendOwn
import Derived.Lib.Overlaps
namespace Go.Proofs.YtihjaehkdgdenaaDoor
open Go Go.RowKit
set_option linter.unusedVariables false
set_option linter.unusedSectionVars false
set_option linter.unusedSimpArgs false
def hraw (e : TypeId) (g : Nat) (cs : List Value) : HProp :=
  ⟨fun w F => w.heap[g]? = some (.cells cs.toArray e (0, 0)) ∧ ∀ b, F b ↔ b = g, fun ⟨h, hF⟩ hb => ⟨(hb g ((hF g).2 rfl)).trans h, hF⟩⟩
section
variable {w w0 : World} {M : Nat → Prop} {σ : List HProp}
theorem Sat.ofRaw (hs : Sat w0 M σ w) (q : Nat) {α : Type} [Flat α] {e : TypeId} {g : Nat} {cs : List Value} (hq : σ[q]? = some (hraw e g cs)) {C : Nat} (ys : List α) (hl : cs.length = C * Flat.sz α) (hC : ys.length ≤ C) (hM : C ≤ maxLen)
    (ht : cs.take (ys.length * Flat.sz α) = ys.flatMap Flat.enc) : Sat w0 M (σ.set q (hown e (some ⟨g, 0, none⟩) C ys)) w := by
  obtain ⟨F, ⟨hh, hF⟩, hlt, hupd⟩ := hs.upd q hq
  refine hupd w _ F (Keeps.refl _ _) ⟨⟨length_flatMap_enc _, .inr ⟨g, C, cs.toArray, by simp, Nat.zero_le _, hh, hC, hM, by simpa using hl, by simpa using ht⟩⟩, fun b => (hF b).trans (by simp [Value.ownBlock]; exact eq_comm)⟩ (fun b hb => ⟨.inl hb, hlt b hb⟩)
theorem view_cells {α : Type} [Flat α] {A : Option Addr} {C : Nat} {ys : List α} (hv : View w (old w none_) A C ys) {ad : Addr} (hA : A = some ad) (j : Nat) (v : Value) (hj : (ys.flatMap Flat.enc)[j]? = some v) : w.cell? (ad.add j) = some v := by
  have hpos : 0 < Flat.sz α := Flat.pos
  have hjl : j < ys.length * Flat.sz α := by rw [← length_flatMap_enc]; exact (List.getElem?_eq_some_iff.1 hj).1
  have hq : j / Flat.sz α < ys.length := Nat.div_lt_of_lt_mul (by rw [Nat.mul_comm]; exact hjl)
  obtain ⟨ad', had, _, hc⟩ := hv.flat (List.getElem?_eq_getElem hq)
  rw [hA] at had
  injection had with had
  subst had
  have hj' := getElem?_flatMap_enc ys _ _ (List.getElem?_eq_getElem hq) (j % Flat.sz α) (Nat.mod_lt _ hpos)
  rw [Nat.div_add_mod' j (Flat.sz α)] at hj'
  have := hc (j % Flat.sz α) v (by rw [← hj', hj])
  rwa [Nat.div_add_mod' j (Flat.sz α)] at this
end
section
variable {P : Program} {w : World}
theorem run_append_zeros {t tn ty e : TypeId} {i : TypeInfo} {z : Value} {kn : IntKind} (ht : P.underlying t = some (.slice e)) (htn : P.underlying tn = some (.int kn)) (hi : P.info? e = some i) (hz : i.zero = some z)
    (ad : Option Addr) (k C cnt : Nat) (olds : List Value) (hlo : olds.length = k * i.size) (holds : ∀ a, ad = some a → ∀ j v, olds[j]? = some v → w.cell? (a.add j) = some v) (had : ad = none → k = 0) (hg : C < k + cnt) (h63 : ((k + cnt : Nat) : Int) ≤ 9223372036854775807) (h48 : (k + cnt) * i.bytes ≤ 140737488355328) (hsz : 0 < i.size) (h0 : 0 < cnt) :
    (Builtin.append_ #[t, tn] ty #[.slice ad k C, .int .i64 cnt]).run P w =
      .ok (.slice (some ⟨w.heap.size, 0, none⟩) (k + cnt) (grownCap w (k + cnt) C e)) (w.drew.alloc (.cells (olds.toArray ++ Builtin.zeroCells z.cells cnt ++ Builtin.zeroCells z.cells (grownCap w (k + cnt) C e - (k + cnt))) e)) := by
  have hw : IntKind.i64.wrap (cnt : Int) = cnt := by rw [IntKind.wrap_i64]; omega
  have hn : ¬ (k + cnt ≤ C) := by omega
  have hneg : ¬ ((cnt : Int) < 0) := by omega
  have h63' : ¬ (9223372036854775807 < ((k : Int) + (cnt : Int))) := by omega
  have hcb : cnt * i.bytes ≤ (k + cnt) * i.bytes := Nat.mul_le_mul_right _ (by omega)
  have h48i : ¬ (281474976710656 < (cnt : Int) * (i.bytes : Int)) := by rw [← Int.natCast_mul]; omega
  have hnx := nextslicecap_le hg
  have hnb : Builtin.nextslicecap (k + cnt) C * i.bytes ≤ 2 * (k + cnt) * i.bytes := Nat.mul_le_mul_right _ hnx
  rw [Nat.mul_assoc] at hnb
  have h48' : ¬ (281474976710656 < Builtin.nextslicecap (k + cnt) C * i.bytes) := by omega
  have hns : ¬ (cnt * i.size = 0) := Nat.mul_ne_zero (by omega) (by omega)
  have hns' : ¬ (cnt = 0 ∨ i.size = 0) := by omega
  cases ad with
  | none =>
    have hk := had rfl
    subst hk
    have : olds = [] := List.eq_nil_of_length_eq_zero (by rw [hlo]; simp)
    subst this
    simp [Builtin.append_, run_underlying ht, run_underlying htn, sizeOf, typeInfo, zeroValue, hi, hz, asInt, asIntOf, hw, hn, hneg, hns, hns', h63', h48', h48i, Question.forced, run_firstCells_none, newRow, grownCap]
    rw [Nat.zero_add] at hn h48'
    have h63'' : ¬ (9223372036854775807 < (cnt : Int)) := by omega
    simp [hn, h63'', h48', run_firstCells_none]
  | some a =>
    have hfo := run_firstCells_some (P := P) w.drew i.size k a k C olds hlo (by simpa using holds a rfl)
    simp [Builtin.append_, run_underlying ht, run_underlying htn, sizeOf, typeInfo, zeroValue, hi, hz, asInt, asIntOf, hw, hn, hneg, hns, hns', h63', h48', h48i, Question.forced, hfo, newRow, grownCap]
end
section
variable {P : Program} {n : Nat} {fs : Fr} {a : Act} {o : Oper} {v : Value} {ops : Array Oper} {rest : List Oper} {Q : Exit → Act → World → Prop} {w w0 : World} {M : Nat → Prop} {σ : List HProp}
theorem V.cap {t : TypeId} {x : Operand} {A : Option Addr} {l C : Nat} {e : TypeId} (ho : o.op = .call ⟨.builtin .cap, #[x], #[t]⟩) (hx : ev fs x = some (.slice A l C))
    (ht : ∀ w, (underlying t).run P w = .ok (.slice e) w) : ∀ a w, FrOk n fs a → Sat w0 M σ w → RunV P o a w (.int .i64 C) := fun a w hf _ => by
  have e1 := hf.ev_ok hx
  unfold RunV execOp
  simp only [ho, resolve, invoke, builtin, Sem.run_bind, Sem.run_pure, Result.andThen_ok, List.map_toArray, List.map_cons, List.map_nil, e1, Builtin.cap_]
  simp [Sem.run_bind, ht, goInt]
theorem S.growRaw (q : Nat) (hf : FrOk n fs a) (hs : Sat w0 M σ w) {d : Nat} (hg : gv ops fs o = some true) (hd : o.dst = some d) (hdn : Nat.blt d n = true) {x y : Operand} {t tn e : TypeId} {kn : IntKind} {A : Option Addr} {C bytes k cnt : Nat} {zc : List Value} {α : Type} [Flat α] {xs : List α} (hq : σ[q]? = some (hown e A C xs))
    (ho : o.op = .call ⟨.builtin .append, #[x, y], #[t, tn]⟩) (hk : k ≤ xs.length) (hx : ev fs x = some (.slice A k C)) (hy : ev fs y = some (.int .i64 (cnt : Int))) (ht : P.underlying t = some (.slice e)) (htn : P.underlying tn = some (.int kn)) (hi : TyInfo P e (Flat.sz α) bytes zc) (hzc : zc.length = Flat.sz α)
    (hC : C < k + cnt) (h0 : 0 < cnt) (hroom : room (k + cnt) bytes)
    (K : ∀ g cs C' a w', FrOk n ((d, .slice (some ⟨g, 0, none⟩) (k + cnt) C') :: fs) a → cs.length = C' * Flat.sz α → k + cnt ≤ C' → C' ≤ maxLen → cs.take (k * Flat.sz α) = (xs.take k).flatMap Flat.enc → Sat w0 M (hraw e g cs :: σ) w' → wpList P ops Q rest a w') : wpList P ops Q (o :: rest) a w := by
  obtain ⟨i, u, h1, h2, h3, h4, h5⟩ := hi.info
  refine S.act (R := fun v w' => ∃ g cs C', v = .slice (some ⟨g, 0, none⟩) (k + cnt) C' ∧ cs.length = C' * Flat.sz α ∧ k + cnt ≤ C' ∧ C' ≤ maxLen ∧ cs.take (k * Flat.sz α) = (xs.take k).flatMap Flat.enc ∧ Sat w0 M (hraw e g cs :: σ) w') hf hg hd hdn (fun a hf => ?_) (fun v a w' hf ⟨g, cs, C', hv, i1, i2, i3, i4, hs⟩ => K g cs C' a w' (hv ▸ hf) i1 i2 i3 i4 hs)
  have e1 := hf.ev_ok hx
  have e2 := hf.ev_ok hy
  have hview := (hs.ownView q hq).take k
  have hlo : ((xs.take k).flatMap Flat.enc).length = k * i.size := by rw [length_flatMap_enc, h3, List.length_take, Nat.min_eq_left hk]
  have hr := run_append_zeros (P := P) (w := w) (t := t) (tn := tn) (ty := o.type) ht htn h1 h2 A k C cnt ((xs.take k).flatMap Flat.enc) hlo (fun ad hA j v hj => view_cells hview hA j v hj) (fun hA => by
    rcases Nat.eq_zero_or_pos k with h | h
    · exact h
    · have := hs.ownSome q hq (i := 0) (by omega); rw [hA] at this; cases this) hC (by have := hroom.1; omega) (by rw [h4]; exact hroom.2) (by rw [h3]; exact Flat.pos) h0
  have hge := grownCap_ge w (k + cnt) C e
  have hle := grownCap_le_maxLen w (k + cnt) C e (by unfold maxLen; exact hroom.1)
  have hus : u.cells.size = Flat.sz α := by rw [h5]; simpa using hzc
  refine ⟨_, _, ?_, w.heap.size, ((xs.take k).flatMap Flat.enc) ++ (Builtin.zeroCells u.cells cnt).toList ++ (Builtin.zeroCells u.cells (grownCap w (k + cnt) C e - (k + cnt))).toList, grownCap w (k + cnt) C e, rfl, ?_, hge, hle, ?_,
    Sat.add (w := w) hs ((Keeps.drew w _).trans (Keeps.alloc w.drew (.cells ((((xs.take k).flatMap Flat.enc)).toArray ++ Builtin.zeroCells u.cells cnt ++ Builtin.zeroCells u.cells (grownCap w (k + cnt) C e - (k + cnt))) e) _) (fun _ _ h => h)) (F' := fun b => b = w.heap.size) ⟨?_, fun b => Iff.rfl⟩ (fun b hb => by subst hb; simp)⟩
  · unfold execOp
    simp only [ho, resolve, invoke, builtin, Sem.run_bind, Sem.run_pure, Result.andThen_ok, List.map_toArray, List.map_cons, List.map_nil, e1, e2, hr]
  · simp only [List.length_append, hlo, h3, Array.length_toList, Builtin.zeroCells, Array.size_map, Array.size_range, hus]
    rw [← Nat.add_mul, ← Nat.add_mul]; congr 1; omega
  · rw [List.append_assoc, List.take_left']; rw [hlo, h3]
  · have : (w.drew.alloc (.cells ((((xs.take k).flatMap Flat.enc)).toArray ++ Builtin.zeroCells u.cells cnt ++ Builtin.zeroCells u.cells (grownCap w (k + cnt) C e - (k + cnt))) e)).heap[w.heap.size]? = _ := heap_alloc_self w.drew _
    rw [this]
    simp
theorem V.sliceCap {t e : TypeId} {x hi : Operand} {A : Option Addr} {l C sz H : Nat} (ho : o.op = .slice t x none (some hi) none) (hx : ev fs x = some (.slice A l C)) (hhi : ev fs hi = some (.int .i64 (H : Int)))
    (ht : ∀ w, (underlying t).run P w = .ok (.slice e) w) (hsz : ∀ w, (Go.sizeOf e).run P w = .ok sz w) (hH : H ≤ C) : ∀ a w, FrOk n fs a → Sat w0 M σ w → RunV P o a w (.slice A H C) := fun a w hf _ => by
  have e1 := hf.ev_ok hx
  have e3 := hf.ev_ok hhi
  refine exec_value (s := Instr.sliceAt t (a.eval x) none (some (a.eval hi)) none) (by unfold execOp; rw [ho]; rfl) ?_
  rw [e1, e3]
  unfold Instr.sliceAt Instr.slice Instr.sliceBounds
  simp only [Sem.run_bind, ht, Result.andThen_ok, hsz, Sem.run_pure]
  rw [run_sliceBound (by omega)]
  simp [Int.toNat_natCast]
  intro _
  cases A <;> simp [Addr.add]
theorem V.subNat {t ty : TypeId} {x y : Operand} {a1 b1 c1 : Nat} (ho : o.op = .binOp .sub t x y ty) (hx : ev fs x = some (.int .i64 (a1 : Int))) (hy : ev fs y = some (.int .i64 (b1 : Int))) (hc : b1 + c1 = a1) (h63 : a1 ≤ 9223372036854775807) :
    ∀ a w, FrOk n fs a → Sat w0 M σ w → RunV P o a w (.int .i64 (c1 : Int)) :=
  V.pure (by simp only [pureOp, ho, hx, hy, binPure, binInt]; rw [show IntKind.i64.wrap ((a1 : Int) - (b1 : Int)) = (c1 : Int) by rw [IntKind.wrap_i64]; omega])
theorem View.from_ {α : Type} [Flat α] {F : Nat → Prop} {g o1 C : Nat} {xs : List α} (h : View w F (some ⟨g, o1, none⟩) C xs) {k : Nat} (hk : k ≤ xs.length) : View w F (some ⟨g, o1 + k * Flat.sz α, none⟩) (C - k) (xs.drop k) := by
  refine ⟨by have := h.cap; rw [List.length_drop]; omega, Nat.le_trans (Nat.sub_le _ _) h.most, fun i x hx => ?_⟩
  rw [List.getElem?_drop] at hx
  obtain ⟨cs, ⟨ad, had, hF, hc⟩, hr⟩ := h.at_ _ _ hx
  injection had with had
  subst had
  refine ⟨cs, ⟨_, rfl, hF, fun j v hv => ?_⟩, hr⟩
  have := hc j v hv
  rw [Addr.add_lit] at this ⊢
  show w.cell? ⟨g, o1 + k * Flat.sz α + (i * Flat.sz α + j), none⟩ = some v
  have e : (k + i) * Rep.sz α + j = k * Flat.sz α + (i * Flat.sz α + j) := by
    show (k + i) * Flat.sz α + j = _
    rw [Nat.add_mul]; omega
  rw [e] at this
  rw [Nat.add_assoc]; exact this
end
end Go.Proofs.YtihjaehkdgdenaaDoor

/- Chapter texts of ours, as far as the claim needs them. -/
import Derived.Test.YtfjcgoiedlimdaaGreatDoorStrs
import Derived.Laws.Append
import Derived.Laws.AppendOwn
import Derived.Lib.Overlaps
namespace Go.Proofs.YtfjcgoiedlimdaaGreatDoor
open Go Go.RowKit
set_option linter.unusedVariables false
set_option linter.unusedSectionVars false
set_option linter.unusedSimpArgs false
def hraw (e : TypeId) (g : Nat) (cs : List Value) : gW :=
  ⟨fun w F => w.heap[g]? = some (.cells cs.toArray e (0, 0)) ∧ ∀ b, F b ↔ b = g, fun ⟨h, hF⟩ hb => ⟨(hb g ((hF g).2 rfl)).trans h, hF⟩⟩
section
variable {w w0 : World} {M : Nat → Prop} {σ : List gW}
theorem Sat.JJ (hs : Sat w0 M σ w) (q : Nat) {α : Type} [Flat α] {e : TypeId} {A : Option Addr} {C : Nat} {xs : List α} (hq : σ[q]? = some (hown e A C xs)) (hne : 0 < xs.length) :
    ∃ g cs, A = some ⟨g, 0, none⟩ ∧ xs.length ≤ C ∧ C ≤ maxLen ∧ cs.length = C * Flat.sz α ∧ cs.take (xs.length * Flat.sz α) = xs.flatMap Flat.enc ∧ Sat w0 M (σ.set q (hraw e g cs)) w := by
  obtain ⟨F, hp, hlt, hupd⟩ := hs.upd q hq
  obtain ⟨g, cur, rfl, hh, hC, hM, hcs, htake, hF⟩ := yL hp hne
  exact ⟨g, cur.toList, rfl, hC, hM, by simpa using hcs, htake, hupd w _ F (Keeps.refl _ _) ⟨by simpa using hh, hF⟩ (fun b hb => ⟨.inl hb, hlt b hb⟩)⟩
theorem Sat.ofRaw (hs : Sat w0 M σ w) (q : Nat) {α : Type} [Flat α] {e : TypeId} {g : Nat} {cs : List Value} (hq : σ[q]? = some (hraw e g cs)) {C : Nat} (ys : List α) (hl : cs.length = C * Flat.sz α) (hC : ys.length ≤ C) (hM : C ≤ maxLen)
    (ht : cs.take (ys.length * Flat.sz α) = ys.flatMap Flat.enc) : Sat w0 M (σ.set q (hown e (some ⟨g, 0, none⟩) C ys)) w := by
  obtain ⟨F, ⟨hh, hF⟩, hlt, hupd⟩ := hs.upd q hq
  refine hupd w _ F (Keeps.refl _ _) ⟨⟨fE _, .inr ⟨g, C, cs.toArray, by simp, Nat.zero_le _, hh, hC, hM, by simpa using hl, by simpa using ht⟩⟩, fun b => (hF b).trans (by simp [Value.ownBlock]; exact eq_comm)⟩ (fun b hb => ⟨.inl hb, hlt b hb⟩)
theorem Sat.OT (hs : Sat w0 M σ w) (q : Nat) {e : TypeId} {g : Nat} {cs : List Value} (hq : σ[q]? = some (hraw e g cs)) : g < w.heap.size ∧ w.heap[g]? = some (.cells cs.toArray e (0, 0)) := by
  obtain ⟨F, ⟨hh, hF⟩, hlt⟩ := hs.nth hq
  exact ⟨hlt g ((hF g).2 rfl), hh⟩
theorem Sat.L6 (hs : Sat w0 M σ w) (q : Nat) {e : TypeId} {g : Nat} {cs : List Value} (hq : σ[q]? = some (hraw e g cs)) {α : Type} [Flat α] (o C : Nat) (ys : List α) (h : (cs.drop o).take (ys.length * Flat.sz α) = ys.flatMap Flat.enc) (hc : ys.length ≤ C) (hM : C ≤ maxLen) :
    View w (old w none_) (some ⟨g, o, none⟩) C ys := by
  obtain ⟨hlt, hh⟩ := hs.OT q hq
  refine ⟨hc, hM, fun i x hx => ⟨Flat.enc x, ⟨_, rfl, ⟨hlt, fun e => e⟩, fun j v hv => ?_⟩, rfl⟩⟩
  rw [Addr.add_lit]
  show w.cell? ⟨g, o + (i * Flat.sz α + j), none⟩ = some v
  rw [cell_of_row w g _ cs.toArray e (0, 0) hh]
  have hi := dO hx
  have hj : j < Flat.sz α := by have := dO hv; rwa [Flat.len] at this
  have hlen : i * Flat.sz α + j < ys.length * Flat.sz α := by
    have : (i + 1) * Flat.sz α ≤ ys.length * Flat.sz α := Nat.mul_le_mul_right _ hi
    rw [Nat.add_mul] at this; omega
  have h2 := jg ys i x hx j hj
  rw [← h, List.getElem?_take, if_pos hlen, List.getElem?_drop, hv] at h2
  simpa using h2
theorem BL {α : Type} [Flat α] {A : Option Addr} {C : Nat} {ys : List α} (hv : View w (old w none_) A C ys) {ad : Addr} (hA : A = some ad) (j : Nat) (v : Value) (hj : (ys.flatMap Flat.enc)[j]? = some v) : w.cell? (ad.add j) = some v := by
  have hpos : 0 < Flat.sz α := Flat.pos
  have hjl : j < ys.length * Flat.sz α := by rw [← fE]; exact (List.getElem?_eq_some_iff.1 hj).1
  have hq : j / Flat.sz α < ys.length := Nat.div_lt_of_lt_mul (by rw [Nat.mul_comm]; exact hjl)
  obtain ⟨ad', had, _, hc⟩ := hv.flat (List.getElem?_eq_getElem hq)
  rw [hA] at had
  injection had with had
  subst had
  have hj' := jg ys _ _ (List.getElem?_eq_getElem hq) (j % Flat.sz α) (Nat.mod_lt _ hpos)
  rw [Nat.div_add_mod' j (Flat.sz α)] at hj'
  have := hc (j % Flat.sz α) v (by rw [← hj', hj])
  rwa [Nat.div_add_mod' j (Flat.sz α)] at this
theorem LP {α : Type} [Flat α] (ys : List α) : ∀ v ∈ ys.flatMap Flat.enc, v.oneCell' = true := by
  intro v hv
  obtain ⟨y, _, hy⟩ := List.mem_flatMap.1 hv
  exact Flat.one y v hy
end
section
variable {P : Program} {w : World}
theorem Iy {t t' ty e : TypeId} {sz : Nat} (ht : P.underlying t = some (.slice e)) (hsz : ∀ w, (Go.sizeOf e).run P w = .ok sz w) (g o1 l1 c1 : Nat) (cs : List Value) (hg : w.heap[g]? = some (.cells cs.toArray e (0, 0))) (ad : Addr) (l2 c2 : Nat) (src : List Value)
    (hsrc : ∀ j v, src[j]? = some v → w.cell? (ad.add j) = some v) (hl : src.length = min l2 l1 * sz) (hfit : o1 + src.length ≤ cs.length) (h1 : ∀ v ∈ src, v.oneCell' = true) :
    (Builtin.copy_ #[t, t'] ty #[.slice (some ⟨g, o1, none⟩) l1 c1, .slice (some ad) l2 c2]).run P w = .ok (goInt (min l2 l1)) (w.setRow g (cs.take o1 ++ src ++ cs.drop (o1 + src.length)).toArray) := by
  have hld := run_loadCells_list (P := P) w ad src hsrc
  rw [hl] at hld
  have hst := run_storeCells_at P g o1 e src 0 cs.toArray w hg (by simpa using hfit) h1
  simp only [Nat.add_zero] at hst
  have e0 : Nat.min l2 l1 = min l2 l1 := rfl
  simp [Builtin.copy_, run_underlying ht, hsz, Builtin.lenOf, Builtin.firstCells, hld, hst, e0]
  congr 1
  omega
theorem Ei {t tn ty e : TypeId} {i : TypeInfo} {z : Value} {kn : IntKind} (ht : P.underlying t = some (.slice e)) (htn : P.underlying tn = some (.int kn)) (hi : P.info? e = some i) (hz : i.zero = some z)
    (ad : Option Addr) (k C cnt : Nat) (olds : List Value) (hlo : olds.length = k * i.size) (holds : ∀ a, ad = some a → ∀ j v, olds[j]? = some v → w.cell? (a.add j) = some v) (had : ad = none → k = 0) (hg : C < k + cnt) (h63 : ((k + cnt : Nat) : Int) ≤ 9223372036854775807) (h48 : (k + cnt) * i.bytes ≤ 140737488355328) (hsz : 0 < i.size) (h0 : 0 < cnt) :
    (Builtin.append_ #[t, tn] ty #[.slice ad k C, .int .i64 cnt]).run P w =
      .ok (.slice (some ⟨w.heap.size, 0, none⟩) (k + cnt) (grownCap w (k + cnt) C e)) (w.drew.alloc (.cells (olds.toArray ++ Builtin.zeroCells z.cells cnt ++ Builtin.zeroCells z.cells (grownCap w (k + cnt) C e - (k + cnt))) e)) := by
  have hw : IntKind.i64.wrap (cnt : Int) = cnt := by rw [IntKind.wrap_i64]; omega
  have hn : ¬ (k + cnt ≤ C) := by omega
  have hneg : ¬ ((cnt : Int) < 0) := by omega
  have h63' : ¬ (9223372036854775807 < ((k : Int) + (cnt : Int))) := by omega
  have hcb : cnt * i.bytes ≤ (k + cnt) * i.bytes := Nat.mul_le_mul_right _ (by omega)
  have h48i : ¬ (281474976710656 < (cnt : Int) * (i.bytes : Int)) := by rw [← Int.natCast_mul]; omega
  have hnx := nextslicecap_le hg
  have hnb : Builtin.nextslicecap (k + cnt) C * i.bytes ≤ 2 * (k + cnt) * i.bytes := Nat.mul_le_mul_right _ hnx
  rw [Nat.mul_assoc] at hnb
  have h48' : ¬ (281474976710656 < Builtin.nextslicecap (k + cnt) C * i.bytes) := by omega
  have hns : ¬ (cnt * i.size = 0) := Nat.mul_ne_zero (by omega) (by omega)
  have hns' : ¬ (cnt = 0 ∨ i.size = 0) := by omega
  cases ad with
  | none =>
    have hk := had rfl
    subst hk
    have : olds = [] := List.eq_nil_of_length_eq_zero (by rw [hlo]; simp)
    subst this
    simp [Builtin.append_, run_underlying ht, run_underlying htn, sizeOf, typeInfo, zeroValue, hi, hz, asInt, asIntOf, hw, hn, hneg, hns, hns', h63', h48', h48i, Question.forced, run_firstCells_none, newRow, grownCap]
    rw [Nat.zero_add] at hn h48'
    have h63'' : ¬ (9223372036854775807 < (cnt : Int)) := by omega
    simp [hn, h63'', h48', run_firstCells_none]
  | some a =>
    have hfo := run_firstCells_some (P := P) w.drew i.size k a k C olds hlo (by simpa using holds a rfl)
    simp [Builtin.append_, run_underlying ht, run_underlying htn, sizeOf, typeInfo, zeroValue, hi, hz, asInt, asIntOf, hw, hn, hneg, hns, hns', h63', h48', h48i, Question.forced, hfo, newRow, grownCap]
end
section
variable {P : Program} {n : Nat} {fs : Fr} {a : Act} {o : Oper} {v : Value} {ops : Array Oper} {rest : List Oper} {Q : Exit → Act → World → Prop} {w w0 : World} {M : Nat → Prop} {σ : List gW}
theorem V.cap {t : TypeId} {x : Operand} {A : Option Addr} {l C : Nat} {e : TypeId} (ho : o.op = .call ⟨.builtin .cap, #[x], #[t]⟩) (hx : ev fs x = some (.slice A l C))
    (ht : ∀ w, (underlying t).run P w = .ok (.slice e) w) : ∀ a w, eU n fs a → Sat w0 M σ w → jd P o a w (.int .i64 C) := fun a w hf _ => by
  have e1 := hf.gZ hx
  unfold jd execOp
  simp only [ho, resolve, invoke, builtin, Sem.run_bind, Sem.run_pure, Result.andThen_ok, List.map_toArray, List.map_cons, List.map_nil, e1, Builtin.cap_]
  simp [Sem.run_bind, ht, goInt]
theorem S.yc (q : Nat) (hf : eU n fs a) (hs : Sat w0 M σ w) {d : Nat} (hg : gv ops fs o = some true) (hd : o.dst = some d) (hdn : Nat.blt d n = true) {x y : Operand} {t t' e : TypeId} {g o1 l1 c1 l2 c2 : Nat} {cs : List Value} {A2 : Option Addr} (hq : σ[q]? = some (hraw e g cs))
    (ho : o.op = .call ⟨.builtin .copy, #[x, y], #[t, t']⟩) (hx : ev fs x = some (.slice (some ⟨g, o1, none⟩) l1 c1)) (hy : ev fs y = some (.slice A2 l2 c2)) (ht : P.underlying t = some (.slice e)) {α : Type} [Flat α] (hsz : ∀ w, (Go.sizeOf e).run P w = .ok (Flat.sz α) w)
    (ys : List α) (hA : A2.isSome = true) (hv : View w (old w none_) A2 c2 ys) (hyl : ys.length = min l2 l1) (hfit : o1 + ys.length * Flat.sz α ≤ cs.length)
    (k : ∀ a w', eU n ((d, .int .i64 ((min l2 l1 : Nat) : Int)) :: fs) a → Sat w0 M (σ.set q (hraw e g (cs.take o1 ++ ys.flatMap Flat.enc ++ cs.drop (o1 + ys.length * Flat.sz α)))) w' → wpList P ops Q rest a w') : wpList P ops Q (o :: rest) a w := by
  obtain ⟨ad, rfl⟩ := Option.isSome_iff_exists.1 hA
  refine S.act (R := fun v w' => v = .int .i64 ((min l2 l1 : Nat) : Int) ∧ Sat w0 M (σ.set q (hraw e g (cs.take o1 ++ ys.flatMap Flat.enc ++ cs.drop (o1 + ys.length * Flat.sz α)))) w') hf hg hd hdn (fun a hf => ?_) (fun v a w' hf ⟨hv, hs⟩ => k a w' (hv ▸ hf) hs)
  obtain ⟨F, ⟨hh, hF⟩, hlt, hupd⟩ := hs.upd q hq
  have e1 := hf.gZ hx
  have e2 := hf.gZ hy
  have hl : (ys.flatMap Flat.enc).length = min l2 l1 * Flat.sz α := by rw [fE, hyl]
  have hlen : (ys.flatMap Flat.enc).length = ys.length * Flat.sz α := fE ys
  have hr := Iy (P := P) (w := w) (t' := t') (ty := o.type) ht hsz g o1 l1 c1 cs hh ad l2 c2 (ys.flatMap Flat.enc) (fun j v hj => BL hv rfl j v hj) hl (by rw [hlen]; exact hfit) (LP ys)
  rw [hlen] at hr
  refine ⟨_, _, ?_, rfl, hupd (w.setRow g (cs.take o1 ++ ys.flatMap Flat.enc ++ cs.drop (o1 + ys.length * Flat.sz α)).toArray) _ F (Keeps.setRow w g _ ((hF g).2 rfl)) ⟨setRow_heap w g cs.toArray _ e _ hh, hF⟩ (fun b hb => ⟨.inl hb, by rw [size_setRow]; exact hlt b hb⟩)⟩
  unfold execOp
  simp only [ho, resolve, invoke, builtin, Sem.run_bind, Sem.run_pure, Result.andThen_ok, List.map_toArray, List.map_cons, List.map_nil, e1, e2, hr]
  simp [goInt]
  omega
theorem S.Jd (q : Nat) (hf : eU n fs a) (hs : Sat w0 M σ w) {d : Nat} (hg : gv ops fs o = some true) (hd : o.dst = some d) (hdn : Nat.blt d n = true) {x y : Operand} {t tn e : TypeId} {kn : IntKind} {A : Option Addr} {C bytes k cnt : Nat} {zc : List Value} {α : Type} [Flat α] {xs : List α} (hq : σ[q]? = some (hown e A C xs))
    (ho : o.op = .call ⟨.builtin .append, #[x, y], #[t, tn]⟩) (hk : k ≤ xs.length) (hx : ev fs x = some (.slice A k C)) (hy : ev fs y = some (.int .i64 (cnt : Int))) (ht : P.underlying t = some (.slice e)) (htn : P.underlying tn = some (.int kn)) (hi : pX P e (Flat.sz α) bytes zc) (hzc : zc.length = Flat.sz α)
    (hC : C < k + cnt) (h0 : 0 < cnt) (hroom : room (k + cnt) bytes)
    (K : ∀ g cs C' a w', eU n ((d, .slice (some ⟨g, 0, none⟩) (k + cnt) C') :: fs) a → cs.length = C' * Flat.sz α → k + cnt ≤ C' → C' ≤ maxLen → cs.take (k * Flat.sz α) = (xs.take k).flatMap Flat.enc → Sat w0 M (hraw e g cs :: σ) w' → wpList P ops Q rest a w') : wpList P ops Q (o :: rest) a w := by
  obtain ⟨i, u, h1, h2, h3, h4, h5⟩ := hi.info
  refine S.act (R := fun v w' => ∃ g cs C', v = .slice (some ⟨g, 0, none⟩) (k + cnt) C' ∧ cs.length = C' * Flat.sz α ∧ k + cnt ≤ C' ∧ C' ≤ maxLen ∧ cs.take (k * Flat.sz α) = (xs.take k).flatMap Flat.enc ∧ Sat w0 M (hraw e g cs :: σ) w') hf hg hd hdn (fun a hf => ?_) (fun v a w' hf ⟨g, cs, C', hv, i1, i2, i3, i4, hs⟩ => K g cs C' a w' (hv ▸ hf) i1 i2 i3 i4 hs)
  have e1 := hf.gZ hx
  have e2 := hf.gZ hy
  have hview := (hs.fA q hq).take k
  have hlo : ((xs.take k).flatMap Flat.enc).length = k * i.size := by rw [fE, h3, List.length_take, Nat.min_eq_left hk]
  have hr := Ei (P := P) (w := w) (t := t) (tn := tn) (ty := o.type) ht htn h1 h2 A k C cnt ((xs.take k).flatMap Flat.enc) hlo (fun ad hA j v hj => BL hview hA j v hj) (fun hA => by
    rcases Nat.eq_zero_or_pos k with h | h
    · exact h
    · have := hs.fZ q hq (i := 0) (by omega); rw [hA] at this; cases this) hC (by have := hroom.1; omega) (by rw [h4]; exact hroom.2) (by rw [h3]; exact Flat.pos) h0
  have hge := grownCap_ge w (k + cnt) C e
  have hle := grownCap_le_maxLen w (k + cnt) C e (by unfold maxLen; exact hroom.1)
  have hus : u.cells.size = Flat.sz α := by rw [h5]; simpa using hzc
  refine ⟨_, _, ?_, w.heap.size, ((xs.take k).flatMap Flat.enc) ++ (Builtin.zeroCells u.cells cnt).toList ++ (Builtin.zeroCells u.cells (grownCap w (k + cnt) C e - (k + cnt))).toList, grownCap w (k + cnt) C e, rfl, ?_, hge, hle, ?_,
    Sat.add (w := w) hs ((Keeps.drew w _).trans (Keeps.alloc w.drew (.cells ((((xs.take k).flatMap Flat.enc)).toArray ++ Builtin.zeroCells u.cells cnt ++ Builtin.zeroCells u.cells (grownCap w (k + cnt) C e - (k + cnt))) e) _) (fun _ _ h => h)) (F' := fun b => b = w.heap.size) ⟨?_, fun b => Iff.rfl⟩ (fun b hb => by subst hb; simp)⟩
  · unfold execOp
    simp only [ho, resolve, invoke, builtin, Sem.run_bind, Sem.run_pure, Result.andThen_ok, List.map_toArray, List.map_cons, List.map_nil, e1, e2, hr]
  · simp only [List.length_append, hlo, h3, Array.length_toList, Builtin.zeroCells, Array.size_map, Array.size_range, hus]
    rw [← Nat.add_mul, ← Nat.add_mul]; congr 1; omega
  · rw [List.append_assoc, List.take_left']; rw [hlo, h3]
  · have : (w.drew.alloc (.cells ((((xs.take k).flatMap Flat.enc)).toArray ++ Builtin.zeroCells u.cells cnt ++ Builtin.zeroCells u.cells (grownCap w (k + cnt) C e - (k + cnt))) e)).heap[w.heap.size]? = _ := jH w.drew _
    rw [this]
    simp
theorem V.xN {t e : TypeId} {x hi : Operand} {A : Option Addr} {l C sz H : Nat} (ho : o.op = .slice t x none (some hi) none) (hx : ev fs x = some (.slice A l C)) (hhi : ev fs hi = some (.int .i64 (H : Int)))
    (ht : ∀ w, (underlying t).run P w = .ok (.slice e) w) (hsz : ∀ w, (Go.sizeOf e).run P w = .ok sz w) (hH : H ≤ C) : ∀ a w, eU n fs a → Sat w0 M σ w → jd P o a w (.slice A H C) := fun a w hf _ => by
  have e1 := hf.gZ hx
  have e3 := hf.gZ hhi
  refine iL (s := Instr.sliceAt t (a.eval x) none (some (a.eval hi)) none) (by unfold execOp; rw [ho]; rfl) ?_
  rw [e1, e3]
  unfold Instr.sliceAt Instr.slice Instr.sliceBounds
  simp only [Sem.run_bind, ht, Result.andThen_ok, hsz, Sem.run_pure]
  rw [run_sliceBound (by omega)]
  simp [Int.toNat_natCast]
  intro _
  cases A <;> simp [Addr.add]
theorem V.addNat {t ty : TypeId} {x y : Operand} {a1 b1 c1 : Nat} (ho : o.op = .binOp .add t x y ty) (hx : ev fs x = some (.int .i64 (a1 : Int))) (hy : ev fs y = some (.int .i64 (b1 : Int))) (hc : a1 + b1 = c1) (h63 : c1 ≤ 9223372036854775807) :
    ∀ a w, eU n fs a → Sat w0 M σ w → jd P o a w (.int .i64 (c1 : Int)) :=
  V.pure (by simp only [xO, ho, hx, hy, zf, xP]; rw [show IntKind.i64.wrap ((a1 : Int) + (b1 : Int)) = (c1 : Int) by rw [IntKind.wrap_i64]; omega])
theorem V.subNat {t ty : TypeId} {x y : Operand} {a1 b1 c1 : Nat} (ho : o.op = .binOp .sub t x y ty) (hx : ev fs x = some (.int .i64 (a1 : Int))) (hy : ev fs y = some (.int .i64 (b1 : Int))) (hc : b1 + c1 = a1) (h63 : a1 ≤ 9223372036854775807) :
    ∀ a w, eU n fs a → Sat w0 M σ w → jd P o a w (.int .i64 (c1 : Int)) :=
  V.pure (by simp only [xO, ho, hx, hy, zf, xP]; rw [show IntKind.i64.wrap ((a1 : Int) - (b1 : Int)) = (c1 : Int) by rw [IntKind.wrap_i64]; omega])
theorem V.sliceFrom {t e : TypeId} {x lo : Operand} {g o1 l C sz k : Nat} (ho : o.op = .slice t x (some lo) none none) (hx : ev fs x = some (.slice (some ⟨g, o1, none⟩) l C)) (hlo : ev fs lo = some (.int .i64 (k : Int)))
    (ht : ∀ w, (underlying t).run P w = .ok (.slice e) w) (hsz : ∀ w, (Go.sizeOf e).run P w = .ok sz w) (hk : k ≤ l) (hl : l ≤ C) (hC : k < C) : ∀ a w, eU n fs a → Sat w0 M σ w → jd P o a w (.slice (some ⟨g, o1 + k * sz, none⟩) (l - k) (C - k)) := fun a w hf hs => by
  have h := V.slice (n := n) (w0 := w0) (M := M) (σ := σ) (L := (k : Int)) (H := (l : Int)) (l' := l - k) ho hx (show evB fs (some lo) = some (some (k : Int)) by simp [evB, hlo]) (zh := none) rfl ht hsz rfl rfl ⟨Int.natCast_nonneg _, by omega, Int.le_refl _⟩ hl (by simp) a w hf hs
  have e1 : xg (some (⟨g, o1, none⟩ : Addr)) C ((k : Int)).toNat sz = some ⟨g, o1 + k * sz, none⟩ := by
    unfold xg
    rw [Int.toNat_natCast, if_neg (by omega)]
    simp [Addr.add_lit]
  rw [e1, Int.toNat_natCast] at h
  exact h
theorem View.from_ {α : Type} [Flat α] {F : Nat → Prop} {g o1 C : Nat} {xs : List α} (h : View w F (some ⟨g, o1, none⟩) C xs) {k : Nat} (hk : k ≤ xs.length) : View w F (some ⟨g, o1 + k * Flat.sz α, none⟩) (C - k) (xs.drop k) := by
  refine ⟨by have := h.cap; rw [List.length_drop]; omega, Nat.le_trans (Nat.sub_le _ _) h.most, fun i x hx => ?_⟩
  rw [List.getElem?_drop] at hx
  obtain ⟨cs, ⟨ad, had, hF, hc⟩, hr⟩ := h.at_ _ _ hx
  injection had with had
  subst had
  refine ⟨cs, ⟨_, rfl, hF, fun j v hv => ?_⟩, hr⟩
  have := hc j v hv
  rw [Addr.add_lit] at this ⊢
  show w.cell? ⟨g, o1 + k * Flat.sz α + (i * Flat.sz α + j), none⟩ = some v
  have e : (k + i) * Rep.sz α + j = k * Flat.sz α + (i * Flat.sz α + j) := by
    show (k + i) * Flat.sz α + j = _
    rw [Nat.add_mul]; omega
  rw [e] at this
  rw [Nat.add_assoc]; exact this
theorem V.LV {x : Operand} {xs : Array Operand} {ts : Array TypeId} {f : FuncId} {fn : Func} {vs : List Value} {e : Array Value → Sem Value} (hf' : P.funcs[f]? = some fn) (hname : (fn.name == "runtime.NumGoroutine") = false) (hb : fn.body.isNone = true) (hn : Extern.findNext fn = none) (he : Extern.find fn = some e)
    (ho : o.op = .call ⟨.value x, xs, ts⟩) (hx : ev fs x = some (.func (.func f) #[] #[])) (hxs : evs fs xs.toList = some vs) (hr : ∀ w, Sat w0 M σ w → (e vs.toArray).run P w = .ok v w) :
    ∀ a w, eU n fs a → Sat w0 M σ w → jd P o a w v := fun a w hf hs => by
  have e1 := hf.gZ hx
  have e2 : xs.map a.eval = vs.toArray := Array.ext' (by rw [Array.toList_map]; exact Gw hf hxs)
  unfold jd execOp
  simp only [ho, resolve, e1, e2, Deferred.ofValue, Sem.run_bind, Sem.run_pure, Result.andThen_ok, invoke]
  have h1 : (#[] : Array Value) ++ vs.toArray ++ #[] = vs.toArray := by simp
  rw [h1, run_callFunc_extern hf' hname hb hn he, hr w hs]
  rfl
theorem EQ {α : Type} [Flat α] {S B e : TypeId} {g o1 l c C2 : Nat} {A2 : Option Addr} {cs : List Value} {ys : List α} (hs : Sat w0 M (hraw e g cs :: hown e A2 C2 ys :: σ) w) (ht : P.underlying S = some (.slice e)) (hz : ∀ w, (Go.sizeOf e).run P w = .ok (Flat.sz α) w) (hy : 0 < ys.length) (hc : 0 < cs.length) :
    (Extern.SlicesOverlaps.overlaps #[S, S] #[B] #[.slice A2 ys.length C2, .slice (some ⟨g, o1, none⟩) l c]).run P w = .ok (.bool false) w := by
  obtain ⟨F, ⟨hh, hF⟩, _, G, hp, hG, _⟩ := hs.sat
  obtain ⟨g2, cur, rfl, hh2, _, _, hcs2, _, hF2⟩ := yL hp hy
  have hne : g2 ≠ g := fun e => (hG g2 ((hF2 g2).2 rfl)).2 (.inr ((hF g2).2 e))
  refine Lib.run_overlaps_apart w S B e ht (Flat.sz α) hz ⟨g2, 0, none⟩ ⟨g, o1, none⟩ ys.length C2 l c hne e e cur.size cs.toArray.size ?_ ?_ (by simp; intro h; rw [h] at hc; simp at hc) ?_ ?_
  · simp [World.shape?, hh2]
  · simp [World.shape?, hh]
  · simp [World.frozen?, hh2]
  · simp [World.frozen?, hh2]
end
section
variable {α : Type} [Flat α] {s v : List α} {cs : List Value} {k C : Nat}
theorem Jo (s : List α) (k : Nat) : (s.flatMap Flat.enc).take (k * Flat.sz α) = (s.take k).flatMap Flat.enc := by
  rcases Nat.le_total k s.length with h | h
  · have hx : s.flatMap Flat.enc = (s.take k).flatMap Flat.enc ++ (s.drop k).flatMap Flat.enc := by rw [← List.flatMap_append, List.take_append_drop]
    have hl : ((s.take k).flatMap Flat.enc).length = k * Flat.sz α := by rw [fE, List.length_take, Nat.min_eq_left h]
    rw [hx, ← hl, List.take_left' rfl]
  · rw [List.take_of_length_le h, List.take_of_length_le]
    rw [fE]; exact Nat.mul_le_mul_right _ h
theorem N7 (s : List α) (k : Nat) : (s.flatMap Flat.enc).drop (k * Flat.sz α) = (s.drop k).flatMap Flat.enc := by
  rcases Nat.le_total k s.length with h | h
  · have hx : s.flatMap Flat.enc = (s.take k).flatMap Flat.enc ++ (s.drop k).flatMap Flat.enc := by rw [← List.flatMap_append, List.take_append_drop]
    have hl : ((s.take k).flatMap Flat.enc).length = k * Flat.sz α := by rw [fE, List.length_take, Nat.min_eq_left h]
    rw [hx, ← hl, List.drop_left' rfl]
  · rw [List.drop_of_length_le h, List.drop_of_length_le]
    · rfl
    · rw [fE]; exact Nat.mul_le_mul_right _ h
theorem CX (hk : k ≤ s.length) (h1 : 0 + k * Flat.sz α + v.length * Flat.sz α ≤ cs.length)
    (h2 : 0 + (k + v.length) * Flat.sz α + (s.drop k).length * Flat.sz α ≤ (cs.take (0 + k * Flat.sz α) ++ v.flatMap Flat.enc ++ cs.drop (0 + k * Flat.sz α + v.length * Flat.sz α)).length)
    (i4 : cs.take (k * Flat.sz α) = (s.take k).flatMap Flat.enc) :
    ((cs.take (0 + k * Flat.sz α) ++ v.flatMap Flat.enc ++ cs.drop (0 + k * Flat.sz α + v.length * Flat.sz α)).take (0 + (k + v.length) * Flat.sz α) ++ (s.drop k).flatMap Flat.enc ++
      (cs.take (0 + k * Flat.sz α) ++ v.flatMap Flat.enc ++ cs.drop (0 + k * Flat.sz α + v.length * Flat.sz α)).drop (0 + (k + v.length) * Flat.sz α + (s.drop k).length * Flat.sz α)).take ((s.take k ++ v ++ s.drop k).length * Flat.sz α) = (s.take k ++ v ++ s.drop k).flatMap Flat.enc := by
  simp only [Nat.zero_add] at *
  rw [i4]
  have hl : ((s.take k).flatMap Flat.enc ++ v.flatMap Flat.enc).length = (k + v.length) * Flat.sz α := by
    rw [List.length_append, fE, fE, List.length_take, Nat.min_eq_left hk, Nat.add_mul]
  rw [List.take_left' hl]
  have e : (s.take k).flatMap Flat.enc ++ v.flatMap Flat.enc ++ (s.drop k).flatMap Flat.enc = (s.take k ++ v ++ s.drop k).flatMap Flat.enc := by rw [List.flatMap_append, List.flatMap_append]
  rw [e, List.take_left' (fE _)]
theorem H8 (hk : k ≤ s.length) (i4 : cs.take (s.length * Flat.sz α) = s.flatMap Flat.enc) : (cs.drop (0 + k * Flat.sz α)).take ((s.drop k).length * Flat.sz α) = (s.drop k).flatMap Flat.enc := by
  rw [Nat.zero_add, ← N7, ← i4, List.drop_take, List.length_drop, Nat.sub_mul]
theorem EM (hk : k ≤ s.length) (h1 : 0 + (k + v.length) * Flat.sz α + (s.drop k).length * Flat.sz α ≤ cs.length)
    (h2 : 0 + k * Flat.sz α + v.length * Flat.sz α ≤ (cs.take (0 + (k + v.length) * Flat.sz α) ++ (s.drop k).flatMap Flat.enc ++ cs.drop (0 + (k + v.length) * Flat.sz α + (s.drop k).length * Flat.sz α)).length)
    (i4 : cs.take (s.length * Flat.sz α) = s.flatMap Flat.enc) :
    ((cs.take (0 + (k + v.length) * Flat.sz α) ++ (s.drop k).flatMap Flat.enc ++ cs.drop (0 + (k + v.length) * Flat.sz α + (s.drop k).length * Flat.sz α)).take (0 + k * Flat.sz α) ++ v.flatMap Flat.enc ++
      (cs.take (0 + (k + v.length) * Flat.sz α) ++ (s.drop k).flatMap Flat.enc ++ cs.drop (0 + (k + v.length) * Flat.sz α + (s.drop k).length * Flat.sz α)).drop (0 + k * Flat.sz α + v.length * Flat.sz α)).take ((s.take k ++ v ++ s.drop k).length * Flat.sz α) = (s.take k ++ v ++ s.drop k).flatMap Flat.enc := by
  simp only [Nat.zero_add] at *
  have hkl : k * Flat.sz α ≤ (k + v.length) * Flat.sz α := Nat.mul_le_mul_right _ (by omega)
  have hsl : k * Flat.sz α ≤ s.length * Flat.sz α := Nat.mul_le_mul_right _ hk
  have e1 : (cs.take ((k + v.length) * Flat.sz α) ++ (s.drop k).flatMap Flat.enc ++ cs.drop ((k + v.length) * Flat.sz α + (s.drop k).length * Flat.sz α)).take (k * Flat.sz α) = (s.take k).flatMap Flat.enc := by
    rw [List.append_assoc, List.take_append_of_le_length (by rw [List.length_take]; omega), List.take_take, Nat.min_eq_left hkl, ← Jo, ← i4, List.take_take, Nat.min_eq_left hsl]
  have e2 : (cs.take ((k + v.length) * Flat.sz α) ++ (s.drop k).flatMap Flat.enc ++ cs.drop ((k + v.length) * Flat.sz α + (s.drop k).length * Flat.sz α)).drop (k * Flat.sz α + v.length * Flat.sz α) = (s.drop k).flatMap Flat.enc ++ cs.drop ((k + v.length) * Flat.sz α + (s.drop k).length * Flat.sz α) := by
    rw [List.append_assoc, ← Nat.add_mul, List.drop_left']
    rw [List.length_take]; omega
  rw [e1, e2, ← List.append_assoc]
  have e : (s.take k).flatMap Flat.enc ++ v.flatMap Flat.enc ++ (s.drop k).flatMap Flat.enc = (s.take k ++ v ++ s.drop k).flatMap Flat.enc := by rw [List.flatMap_append, List.flatMap_append]
  rw [e, List.take_left' (fE _)]
end
end Go.Proofs.YtfjcgoiedlimdaaGreatDoor

/- Chapter texts of ours, as far as the claim needs them. -/
import Derived.Test.YtfjcgoiedlimdaaGreatDoorDeep
import Derived.Test.YtfjcgoiedlimdaaGreatDoorRaw
namespace Go.Proofs.YtfjcgoiedlimdaaGreatDoor
open Go Go.RowKit
set_option linter.unusedVariables false
set_option linter.unusedSectionVars false
set_option linter.unusedSimpArgs false
section
variable {α β γ T U : Type} [Rep α] [Rep β] [Flat γ] [Flat T] [Flat U] [Row1 β γ U] [qY α β T] {w w0 : World} {M : Nat → Prop} {σ : List gW} {e e' e'' : TypeId} {A : Option Addr} {C : Nat} {zs : List α} {as : List Dp}
theorem Sat.AL (hs : Sat w0 M σ w) (q : Nat) {k : Nat} (hq : σ[q]? = some (rX e e' e'' A C as zs k)) : Sat w0 M (σ.set q (rX e e' e'' A C as zs (k + 1))) w := by
  cases hz : zs[k]? with
  | some z => exact hs.MH q hq hz
  | none =>
    have hl : zs.length ≤ k := List.getElem?_eq_none_iff.1 hz
    have h1 : (vI e' e'' zs as).length ≤ k := by unfold vI; rw [List.length_zipWith]; omega
    have e1 : rX e e' e'' A C as zs (k + 1) = rX e e' e'' A C as zs k := by
      unfold rX; rw [List.drop_eq_nil_of_le h1, List.drop_eq_nil_of_le (by omega)]
    rw [e1, set_self σ q _ hq]; exact hs
end
section
variable {P : Program} {n : Nat} {fs : Fr} {a : Act} {o : Oper} {v : Value} {ops : Array Oper} {rest : List Oper} {Q : Exit → Act → World → Prop} {w w0 : World} {M : Nat → Prop} {σ : List gW}
theorem V.slice3 {t e : TypeId} {x lo hi mx : Operand} {A : Option Addr} {l C sz i j m : Nat} (ho : o.op = .slice t x (some lo) (some hi) (some mx)) (hx : ev fs x = some (.slice A l C)) (hlo : ev fs lo = some (.int .i64 (i : Int))) (hhi : ev fs hi = some (.int .i64 (j : Int))) (hmx : ev fs mx = some (.int .i64 (m : Int)))
    (ht : ∀ w, (underlying t).run P w = .ok (.slice e) w) (hsz : ∀ w, (Go.sizeOf e).run P w = .ok sz w) (h1 : i ≤ j) (h2 : j ≤ m) (h3 : m ≤ C) : ∀ a w, eU n fs a → Sat w0 M σ w → jd P o a w (.slice (if m = i then A else A.map (·.add (i * sz))) (j - i) (m - i)) := fun a w hf _ => by
  have e1 := hf.gZ hx
  have e2 := hf.gZ hlo
  have e3 := hf.gZ hhi
  have e4 := hf.gZ hmx
  refine iL (s := Instr.sliceAt t (a.eval x) (some (a.eval lo)) (some (a.eval hi)) (some (a.eval mx))) (by unfold execOp; rw [ho]; rfl) ?_
  rw [e1, e2, e3, e4]
  unfold Instr.sliceAt Instr.slice Instr.sliceBounds
  simp only [Sem.run_bind, ht, Result.andThen_ok, hsz, Sem.run_pure]
  rw [run_sliceBound (by omega)]
  simp only [Result.andThen_ok, Sem.run_bind, Sem.run_pure, Int.toNat_natCast, Option.isSome_some, if_true]
  rw [run_sliceBound (by omega)]
  simp only [Result.andThen_ok, Sem.run_bind, Sem.run_pure, Int.toNat_natCast, Option.isSome_some, if_true]
  rw [run_sliceBound (by omega)]
  simp only [Result.andThen_ok, Sem.run_bind, Sem.run_pure, Int.toNat_natCast, Option.isSome_some, if_true]
theorem V.MZ {t e : TypeId} {x lo hi : Operand} {g o1 l C sz i j : Nat} (ho : o.op = .slice t x (some lo) (some hi) none) (hx : ev fs x = some (.slice (some ⟨g, o1, none⟩) l C)) (hlo : ev fs lo = some (.int .i64 (i : Int))) (hhi : ev fs hi = some (.int .i64 (j : Int)))
    (ht : ∀ w, (underlying t).run P w = .ok (.slice e) w) (hsz : ∀ w, (Go.sizeOf e).run P w = .ok sz w) (h1 : i ≤ j) (h2 : j ≤ C) (h3 : i < C) : ∀ a w, eU n fs a → Sat w0 M σ w → jd P o a w (.slice (some ⟨g, o1 + i * sz, none⟩) (j - i) (C - i)) := fun a w hf _ => by
  have e1 := hf.gZ hx
  have e2 := hf.gZ hlo
  have e3 := hf.gZ hhi
  refine iL (s := Instr.sliceAt t (a.eval x) (some (a.eval lo)) (some (a.eval hi)) none) (by unfold execOp; rw [ho]; rfl) ?_
  rw [e1, e2, e3]
  unfold Instr.sliceAt Instr.slice Instr.sliceBounds
  simp only [Sem.run_bind, ht, Result.andThen_ok, hsz, Sem.run_pure]
  rw [run_sliceBound (by omega)]
  simp only [Result.andThen_ok, Sem.run_bind, Sem.run_pure, Int.toNat_natCast, Option.isSome_none, if_false, Bool.false_eq_true]
  rw [run_sliceBound (by omega)]
  simp only [Result.andThen_ok, Sem.run_bind, Sem.run_pure, Int.toNat_natCast]
  rw [if_neg (by omega)]
  simp [Addr.add_lit]
theorem S.Nh (q : Nat) (hf : eU n fs a) (hs : Sat w0 M σ w) {d : Nat} (hg : gv ops fs o = some true) (hd : o.dst = some d) (hdn : Nat.blt d n = true) {x y : Operand} {t e : TypeId} {g k C c2 bytes : Nat} {cs zc : List Value} {A2 : Option Addr} (hq : σ[q]? = some (hraw e g cs))
    (ho : o.op = .call ⟨.builtin .append, #[x, y], #[t, t]⟩) {α : Type} [Flat α] (ys : List α) (hx : ev fs x = some (.slice (some ⟨g, 0, none⟩) k C)) (hy : ev fs y = some (.slice A2 ys.length c2)) (ht : P.underlying t = some (.slice e)) (hi : pX P e (Flat.sz α) bytes zc)
    (hA : A2.isSome = true) (hv : View w (old w none_) A2 c2 ys) (hroom : k + ys.length ≤ C) (hfit : k * Flat.sz α + ys.length * Flat.sz α ≤ cs.length)
    (K : ∀ a w', eU n ((d, .slice (some ⟨g, 0, none⟩) (k + ys.length) C) :: fs) a → Sat w0 M (σ.set q (hraw e g (cs.take (k * Flat.sz α) ++ ys.flatMap Flat.enc ++ cs.drop (k * Flat.sz α + ys.length * Flat.sz α)))) w' → wpList P ops Q rest a w') : wpList P ops Q (o :: rest) a w := by
  obtain ⟨ad, rfl⟩ := Option.isSome_iff_exists.1 hA
  obtain ⟨i, u, i1, i2, i3, i4, i5⟩ := hi.info
  refine S.act (R := fun v w' => v = .slice (some ⟨g, 0, none⟩) (k + ys.length) C ∧ Sat w0 M (σ.set q (hraw e g (cs.take (k * Flat.sz α) ++ ys.flatMap Flat.enc ++ cs.drop (k * Flat.sz α + ys.length * Flat.sz α)))) w') hf hg hd hdn (fun a hf => ?_) (fun v a w' hf ⟨hv, hs⟩ => K a w' (hv ▸ hf) hs)
  obtain ⟨F, ⟨hh, hF⟩, hlt, hupd⟩ := hs.upd q hq
  have e1 := hf.gZ hx
  have e2 := hf.gZ hy
  have hlen : (ys.flatMap Flat.enc).length = ys.length * Flat.sz α := fE ys
  have hr := run_append_room (P := P) w t o.type e i ht i1 g k C cs.toArray hh ad ys.length c2 (ys.flatMap Flat.enc) (by rw [hlen, i3]) (fun j v hj => BL hv rfl j v hj) (LP ys) hroom (by rw [i3, hlen]; simpa using hfit)
  rw [i3, hlen] at hr
  refine ⟨_, _, ?_, rfl, hupd (w.setRow g (cs.take (k * Flat.sz α) ++ ys.flatMap Flat.enc ++ cs.drop (k * Flat.sz α + ys.length * Flat.sz α)).toArray) _ F (Keeps.setRow w g _ ((hF g).2 rfl)) ⟨setRow_heap w g cs.toArray _ e _ hh, hF⟩ (fun b hb => ⟨.inl hb, by rw [size_setRow]; exact hlt b hb⟩)⟩
  unfold execOp
  simp only [ho, resolve, invoke, builtin, Sem.run_bind, Sem.run_pure, Result.andThen_ok, List.map_toArray, List.map_cons, List.map_nil, e1, e2, hr]
theorem G7 {u : Array Value} {z : List Value} (hu : u = z.toArray) (hz : 0 < z.length) (h1 : ∀ v ∈ z, v.oneCell' = true) (m : Nat) : (Builtin.zeroCells u m).toList.length = m * z.length ∧ ∀ v ∈ (Builtin.zeroCells u m).toList, v.oneCell' = true := by
  subst hu
  refine ⟨by simp [Builtin.zeroCells], fun v hv => ?_⟩
  simp only [Builtin.zeroCells, Array.toList_map, List.mem_map] at hv
  obtain ⟨i, _, rfl⟩ := hv
  have hlt : i % z.toArray.size < z.length := by simpa using Nat.mod_lt _ hz
  refine h1 _ ?_
  rw [getElem!_pos _ _ (by simpa using hlt)]
  simp
theorem S.Qs (hf : eU n fs a) (hg : gv ops fs o = some true) (hd : o.dst = none) {R : World → Prop}
    (hrun : ∀ a, eU n fs a → ∃ v w', (execOp a.eval o).run P w = .ok (.value v) w' ∧ R w') (k : ∀ a w', eU n fs a → R w' → wpList P ops Q rest a w') : wpList P ops Q (o :: rest) a w := by
  unfold wpList
  rw [xE hf hg, if_pos rfl]
  refine .inl ?_
  obtain ⟨v, w', hr, hR⟩ := hrun a hf
  unfold Oper.wp
  rw [hr]
  show wpList P ops Q rest (a.put o.dst v) w'
  rw [hd]
  exact k a w' hf hR
theorem S.Nw (q : Nat) (hf : eU n fs a) (hs : Sat w0 M σ w) (hg : gv ops fs o = some true) (hd : o.dst = none) {x : Operand} {t e : TypeId} {g o1 l c bytes sz : Nat} {cs zc : List Value} (hq : σ[q]? = some (hraw e g cs))
    (ho : o.op = .call ⟨.builtin .clear, #[x], #[t]⟩) (hx : ev fs x = some (.slice (some ⟨g, o1, none⟩) l c)) (ht : P.underlying t = some (.slice e)) (hi : pX P e sz bytes zc) (hzl : zc.length = sz) (hsz : 0 < sz) (hz1 : ∀ v ∈ zc, v.oneCell' = true) (hl : 0 < l) (hfit : o1 + l * sz ≤ cs.length)
    (K : ∀ a w' zs, eU n fs a → zs.length = l * sz → Sat w0 M (σ.set q (hraw e g (cs.take o1 ++ zs ++ cs.drop (o1 + l * sz)))) w' → wpList P ops Q rest a w') : wpList P ops Q (o :: rest) a w := by
  obtain ⟨i, u, i1, i2, i3, i4, i5⟩ := hi.info
  obtain ⟨z1, z2⟩ := G7 i5 (by omega) hz1 l
  rw [hzl] at z1
  refine S.Qs (R := fun w' => Sat w0 M (σ.set q (hraw e g (cs.take o1 ++ (Builtin.zeroCells u.cells l).toList ++ cs.drop (o1 + l * sz)))) w') hf hg hd (fun a hf => ?_) (fun a w' hf hs => K a w' _ hf z1 hs)
  obtain ⟨F, ⟨hh, hF⟩, hlt, hupd⟩ := hs.upd q hq
  have e1 := hf.gZ hx
  have hst := run_storeCells_at P g o1 e (Builtin.zeroCells u.cells l).toList 0 cs.toArray w hh (by rw [z1]; simpa using hfit) z2
  simp only [Nat.add_zero, z1] at hst
  have hu := run_underlying (P := P) (w := w) ht
  obtain ⟨l', rfl⟩ : ∃ l', l = l' + 1 := ⟨l - 1, by omega⟩
  refine ⟨.tuple #[], _, ?_, hupd (w.setRow g (cs.take o1 ++ (Builtin.zeroCells u.cells (l' + 1)).toList ++ cs.drop (o1 + (l' + 1) * sz)).toArray) _ F (Keeps.setRow w g _ ((hF g).2 rfl)) ⟨setRow_heap w g cs.toArray _ e _ hh, hF⟩ (fun b hb => ⟨.inl hb, by rw [size_setRow]; exact hlt b hb⟩)⟩
  unfold execOp
  simp only [ho, resolve, invoke, builtin, Sem.run_bind, Sem.run_pure, Result.andThen_ok, List.map_toArray, List.map_cons, List.map_nil, e1]
  simp [Builtin.clear_, run_underlying ht, zeroValue, typeInfo, i1, i2, hst]
end
section
variable {α : Type} [Flat α] {s : List α} {cs zs : List Value} {i j C : Nat}
theorem MK (hij : i < j) (hj : j ≤ s.length) (hc : s.length * Flat.sz α ≤ cs.length) (i4 : cs.take (s.length * Flat.sz α) = s.flatMap Flat.enc) {D : List Value} (hD : D = cs.take (i * Flat.sz α) ++ (s.drop j).flatMap Flat.enc ++ cs.drop (i * Flat.sz α + (s.drop j).length * Flat.sz α)) {o1 : Nat} (ho : o1 = (i + (s.drop j).length) * Flat.sz α) :
    (D.take o1 ++ zs ++ D.drop (o1 + zs.length)).take ((s.take i ++ s.drop j).length * Flat.sz α) = (s.take i ++ s.drop j).flatMap Flat.enc := by
  have hi : i * Flat.sz α ≤ s.length * Flat.sz α := Nat.mul_le_mul_right _ (by omega)
  have hlen : (s.take i ++ s.drop j).length = i + (s.drop j).length := by rw [List.length_append, List.length_take, Nat.min_eq_left (by omega)]
  have e1 : cs.take (i * Flat.sz α) = (s.take i).flatMap Flat.enc := by rw [← Jo, ← i4, List.take_take, Nat.min_eq_left hi]
  have hl : (cs.take (i * Flat.sz α) ++ (s.drop j).flatMap Flat.enc).length = o1 := by
    rw [List.length_append, fE, List.length_take, Nat.min_eq_left (by omega), ho, Nat.add_mul]
  rw [hlen, ← ho, hD, List.take_left' hl, List.append_assoc, List.take_left' hl, e1, List.flatMap_append]
end
end Go.Proofs.YtfjcgoiedlimdaaGreatDoor

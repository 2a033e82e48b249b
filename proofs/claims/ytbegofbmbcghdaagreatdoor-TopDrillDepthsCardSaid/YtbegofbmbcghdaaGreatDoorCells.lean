/- Chapter texts of ours, as far as the claim needs them. -/
import Derived.Test.YtbegofbmbcghdaaGreatDoorSortP
import Derived.Test.YtbegofbmbcghdaaGreatDoorNest
namespace Go.Proofs.YtbegofbmbcghdaaGreatDoor
open Go Go.RowKit
set_option linter.unusedVariables false
set_option linter.unusedSectionVars false
set_option linter.unusedSimpArgs false
section
variable {P : Program} {n : Nat} {fs : Fr} {a : Act} {o : Oper} {v : Value} {ops : Array Oper} {rest : List Oper} {Q : Exit → Act → World → Prop} {w w0 : World} {M : Nat → Prop} {σ : List gJ}
theorem S.RG (hf : fB n fs a) (hg : gv ops fs o = some true) (hd : o.dst = none) {R : World → Prop}
    (hrun : ∀ a, fB n fs a → ∃ v w', (execOp a.eval o).run P w = .ok (.value v) w' ∧ R w') (k : ∀ a w', fB n fs a → R w' → wpList P ops Q rest a w') : wpList P ops Q (o :: rest) a w := by
  unfold wpList
  rw [zK hf hg, if_pos rfl]
  refine .inl ?_
  obtain ⟨v, w', hr, hR⟩ := hrun a hf
  unfold Oper.wp
  rw [hr]
  show wpList P ops Q rest (a.put o.dst v) w'
  rw [hd]
  exact k a w' hf hR
end
def zeroed {α : Type} (xs : List α) (lo hi : Int) (z : α) : List α := xs.mapIdx (fun j x => if lo ≤ (j : Int) ∧ (j : Int) < hi then z else x)
theorem gG {α : Type} {xs : List α} {lo hi : Int} {z : α} : (zeroed xs lo hi z).length = xs.length := by simp [zeroed]
theorem Cb {α : Type} {xs : List α} {lo hi : Int} {z : α} (h : 0 ≤ lo ∧ lo ≤ hi ∧ hi ≤ (xs.length : Int)) : zeroed xs lo hi z = xs.take lo.toNat ++ List.replicate (hi.toNat - lo.toNat) z ++ xs.drop hi.toNat := by
  refine List.ext_getElem? (fun j => ?_)
  unfold zeroed
  rw [List.getElem?_mapIdx]
  by_cases h1 : j < lo.toNat
  · rw [List.append_assoc, List.getElem?_append_left (by rw [List.length_take]; omega), List.getElem?_take, if_pos h1]
    cases xs[j]? with
    | none => rfl
    | some x => simp only [Option.map_some]; rw [if_neg (by omega)]
  · by_cases h2 : j < hi.toNat
    · rw [List.getElem?_append_left (by simp only [List.length_append, List.length_take, List.length_replicate]; omega), List.getElem?_append_right (by rw [List.length_take]; omega), List.getElem?_replicate, if_pos (by rw [List.length_take]; omega)]
      rw [List.getElem?_eq_getElem (by omega)]
      simp only [Option.map_some]; rw [if_pos (by omega)]
    · rw [List.getElem?_append_right (by simp only [List.length_append, List.length_take, List.length_replicate]; omega), List.getElem?_drop]
      have : hi.toNat + (j - (xs.take lo.toNat ++ List.replicate (hi.toNat - lo.toNat) z).length) = j := by simp only [List.length_append, List.length_take, List.length_replicate]; omega
      rw [this]
      cases xs[j]? with
      | none => rfl
      | some x => simp only [Option.map_some]; rw [if_neg (by omega)]
theorem JG {α : Type} [Flat α] {u : Array Value} {z : α} (hu : u = (Flat.enc z).toArray) (m : Nat) : (Builtin.zeroCells u m).toList = (List.replicate m z).flatMap Flat.enc := by
  subst hu
  have hpos : 0 < Flat.sz α := Flat.pos
  have hsz : (Flat.enc z).toArray.size = Flat.sz α := by simp [Flat.len]
  refine List.ext_getElem? (fun j => ?_)
  have hl : (Builtin.zeroCells (Flat.enc z).toArray m).toList.length = m * Flat.sz α := by simp [Builtin.zeroCells, Flat.len]
  rcases Nat.lt_or_ge j (m * Flat.sz α) with hj | hj
  · have hq : j / Flat.sz α < m := Nat.div_lt_of_lt_mul (by rw [Nat.mul_comm]; exact hj)
    have h2 := jD (List.replicate m z) (j / Flat.sz α) z (by rw [List.getElem?_replicate, if_pos hq]) (j % Flat.sz α) (Nat.mod_lt _ hpos)
    rw [Nat.div_add_mod' j (Flat.sz α)] at h2
    rw [h2]
    have hm : j % Flat.sz α < (Flat.enc z).length := by rw [Flat.len]; exact Nat.mod_lt _ hpos
    rw [List.getElem?_eq_getElem hm]
    simp only [Builtin.zeroCells, Array.getElem?_toList, Array.getElem?_map]
    rw [hsz, Array.getElem?_eq_getElem (by simpa using hj)]
    simp only [Option.map_some, Array.getElem_range]
    rw [getElem!_pos _ _ (by simpa using hm)]
    simp
  · rw [List.getElem?_eq_none (by rw [hl]; exact hj), List.getElem?_eq_none (by rw [fV, List.length_replicate]; exact hj)]
section
variable {P : Program} {n : Nat} {fs : Fr} {a : Act} {o : Oper} {v : Value} {ops : Array Oper} {rest : List Oper} {Q : Exit → Act → World → Prop} {w w0 : World} {M : Nat → Prop} {σ : List gJ}
theorem S.Ja (q : Nat) (hf : fB n fs a) (hs : Sat w0 M σ w) (hg : gv ops fs o = some true) (hd : o.dst = none) {α : Type} [Flat α] (z : α) {x : Operand} {t e : TypeId} {A : Option Addr} {C c l bytes : Nat} {xs : List α} {lo hi : Int} (hq : σ[q]? = some (hown e A C xs))
    (ho : o.op = .call ⟨.builtin .clear, #[x], #[t]⟩) (hx : ev fs x = some (.slice (iY A C lo.toNat (Flat.sz α)) l c)) (hl : l = (seg xs lo hi).length) (ht : P.underlying t = some (.slice e)) (hi' : uY P e (Flat.sz α) bytes (Flat.enc z)) (hp : 0 ≤ lo ∧ lo ≤ hi ∧ hi ≤ (xs.length : Int))
    (K : ∀ a w', fB n fs a → Sat w0 M (σ.set q (hown e A C (zeroed xs lo hi z))) w' → wpList P ops Q rest a w') : wpList P ops Q (o :: rest) a w := by
  rw [seg_length (by omega)] at hl
  subst hl
  rcases Nat.eq_zero_or_pos (hi.toNat - lo.toNat) with h0 | h0
  · have hz : zeroed xs lo hi z = xs := by
      rw [Cb hp, h0, show hi.toNat = lo.toNat by omega]; simp
    rw [h0] at hx
    refine S.RG (R := fun w' => Sat w0 M (σ.set q (hown e A C (zeroed xs lo hi z))) w') hf hg hd (fun a hf => ?_) (fun a w' hf hs => K a w' hf hs)
    have e1 := hf.gX hx
    refine ⟨.tuple #[], w, ?_, by rw [hz, set_self σ q _ hq]; exact hs⟩
    unfold execOp
    simp only [ho, resolve, invoke, builtin, Sem.run_bind, Sem.run_pure, Result.andThen_ok, List.map_toArray, List.map_cons, List.map_nil, e1]
    cases iY A C lo.toNat (Flat.sz α) <;> simp [Builtin.clear_, run_underlying ht]
  · have hne : 0 < xs.length := by omega
    obtain ⟨g, cs, rfl, hC, hM, hcl, htk, hs1⟩ := hs.SL q hq hne
    obtain ⟨i, u, i1, i2, i3, i4, i5⟩ := hi'.info
    have hseg : iY (some ⟨g, 0, none⟩) C lo.toNat (Flat.sz α) = some ⟨g, lo.toNat * Flat.sz α, none⟩ := by
      unfold iY
      rw [if_neg (by omega)]
      simp [Addr.add_lit]
    rw [hseg] at hx
    have hze := JG i5 (hi.toNat - lo.toNat)
    have hzl : (Builtin.zeroCells u.cells (hi.toNat - lo.toNat)).toList.length = (hi.toNat - lo.toNat) * Flat.sz α := by rw [hze, fV, List.length_replicate]
    have hz1 : ∀ v ∈ (Builtin.zeroCells u.cells (hi.toNat - lo.toNat)).toList, v.oneCell' = true := by rw [hze]; exact QM _
    have hspan : lo.toNat * Flat.sz α + (hi.toNat - lo.toNat) * Flat.sz α = hi.toNat * Flat.sz α := by rw [← Nat.add_mul]; congr 1; omega
    have hle1 : hi.toNat * Flat.sz α ≤ xs.length * Flat.sz α := Nat.mul_le_mul_right _ (by omega)
    have hle2 : xs.length * Flat.sz α ≤ C * Flat.sz α := Nat.mul_le_mul_right _ hC
    have hq1 : (σ.set q (hraw e g cs))[q]? = some (hraw e g cs) := getElem?_set_self' σ q _ _ hq
    refine S.RG (R := fun w' => Sat w0 M (σ.set q (hraw e g (cs.take (lo.toNat * Flat.sz α) ++ (List.replicate (hi.toNat - lo.toNat) z).flatMap Flat.enc ++ cs.drop (hi.toNat * Flat.sz α)))) w') hf hg hd (fun a hf => ?_) (fun a w' hf hs2 => K a w' hf ?_)
    · obtain ⟨F, ⟨hh, hF⟩, hlt, hupd⟩ := hs1.upd q hq1
      have e1 := hf.gX hx
      have hst := run_storeCells_at P g (lo.toNat * Flat.sz α) e (Builtin.zeroCells u.cells (hi.toNat - lo.toNat)).toList 0 cs.toArray w hh (by rw [hzl]; simp only [List.size_toArray]; omega) hz1
      simp only [Nat.add_zero, hzl, hspan] at hst
      obtain ⟨l', hl'⟩ : ∃ l', hi.toNat - lo.toNat = l' + 1 := ⟨hi.toNat - lo.toNat - 1, by omega⟩
      rw [← hze]
      have hset : (σ.set q (hraw e g cs)).set q (hraw e g (cs.take (lo.toNat * Flat.sz α) ++ (Builtin.zeroCells u.cells (hi.toNat - lo.toNat)).toList ++ cs.drop (hi.toNat * Flat.sz α))) = σ.set q (hraw e g (cs.take (lo.toNat * Flat.sz α) ++ (Builtin.zeroCells u.cells (hi.toNat - lo.toNat)).toList ++ cs.drop (hi.toNat * Flat.sz α))) := by rw [List.set_set]
      rw [← hset]
      refine ⟨.tuple #[], _, ?_, hupd (w.setRow g (cs.take (lo.toNat * Flat.sz α) ++ (Builtin.zeroCells u.cells (hi.toNat - lo.toNat)).toList ++ cs.drop (hi.toNat * Flat.sz α)).toArray) _ F (Keeps.setRow w g _ ((hF g).2 rfl)) ⟨setRow_heap w g cs.toArray _ e _ hh, hF⟩ (fun b hb => ⟨.inl hb, by rw [size_setRow]; exact hlt b hb⟩)⟩
      unfold execOp
      rw [hl'] at hst ⊢ e1
      simp only [ho, resolve, invoke, builtin, Sem.run_bind, Sem.run_pure, Result.andThen_ok, List.map_toArray, List.map_cons, List.map_nil, e1]
      simp [Builtin.clear_, run_underlying ht, zeroValue, typeInfo, i1, i2, hst]
    · have hq2 := getElem?_set_self' σ q (hraw e g (cs.take (lo.toNat * Flat.sz α) ++ (List.replicate (hi.toNat - lo.toNat) z).flatMap Flat.enc ++ cs.drop (hi.toNat * Flat.sz α))) _ hq
      have h3 := hs2.ofRaw q hq2 (C := C) (zeroed xs lo hi z) ?_ (by rw [gG]; exact hC) hM ?_
      · rwa [List.set_set] at h3
      · simp only [List.length_append, List.length_take, List.length_drop, fV, List.length_replicate, hcl]
        rw [Nat.min_eq_left (by omega)]
        omega
      · have hX : (cs.take (lo.toNat * Flat.sz α) ++ (List.replicate (hi.toNat - lo.toNat) z).flatMap Flat.enc).length = hi.toNat * Flat.sz α := by
          rw [List.length_append, List.length_take, fV, List.length_replicate, hcl, Nat.min_eq_left (by omega)]; exact hspan
        rw [gG, Cb hp, List.flatMap_append, List.flatMap_append, ← Po, ← Qn, ← htk, List.take_take, Nat.min_eq_left (by omega), List.take_append, hX, List.take_of_length_le (by rw [hX]; exact hle1), List.drop_take]
end
section
variable {α β T : Type} [Rep α] [Flat β] [Flat T] [Row1 α β T]
variable {w w0 : World} {M : Nat → Prop} {σ L : List gJ} {e e' : TypeId} {A : Option Addr} {C : Nat} {zs : List α} {ads : List (Option Addr × Nat)}
variable {P : Program} {n : Nat} {fs : Fr} {a : Act} {o : Oper} {v : Value} {ops : Array Oper} {rest : List Oper} {Q : Exit → Act → World → Prop}
theorem S.MV (q : Nat) (hf : fB n fs a) (hs : Sat w0 M σ w) (hg : gv ops fs o = some true) (hd : o.dst = none) {t : TypeId} {x y : Operand} {i k' off m : Nat} {z : α} (z' : α) {B : Option Addr} {D : Nat} (us : List Value)
    (hq : σ[q]? = some (hrows e e' A C ads zs)) (hz : zs[i]? = some z) (ha : ads[i]? = some (B, D)) (hin : Row1.inner z' = Row1.inner z)
    (ho : o.op = .store t x y) (hx : ev fs x = some (fA A k')) (hk : k' = i * Flat.sz T + off) (hy : ev fs y = some v) (hv : v.cells = us.toArray)
    (hsz : ∀ w, (Go.sizeOf t).run P w = .ok m w) (hl : us.length = m) (hfit : off + m ≤ Flat.sz T) (h1 : us.all (·.oneCell') = true) (hvs : (Flat.enc (Row1.sh z B D)).take off ++ us ++ (Flat.enc (Row1.sh z B D)).drop (off + m) = Flat.enc (Row1.sh z' B D))
    (k : ∀ a w', fB n fs a → Sat w0 M (σ.set q (hrows e e' A C ads (zs.set i z'))) w' → wpList P ops Q rest a w') : wpList P ops Q (o :: rest) a w := by
  obtain ⟨hs1, hlen⟩ := (hs.front q hq).yH
  refine S.zA 0 hf hs1 hg hd (Row1.sh z' B D) us rfl (yu hz ha) ho hx hk hy hv hsz hl hfit h1 hvs (fun a w' hf hs2 => k a w' hf ?_)
  refine Sat.GZ hq (Sat.Ar (by rw [List.length_set]; exact hlen) ?_)
  have e1 : wH (zs.set i z') ads = (wH zs ads).set i (Row1.sh z' B D) := by
    have h2 : wH (zs.set i z') (ads.set i (B, D)) = (wH zs ads).set i (Row1.sh z' B D) := (sH (fun z (a : Option Addr × Nat) => Row1.sh z a.1 a.2) zs ads i z' (B, D)).symm
    rw [set_self ads i _ ha] at h2
    exact h2
  have e2 : qM e' (zs.set i z') ads = qM e' zs ads := by
    have h2 : (qM e' zs ads).set i (hown e' B D (Row1.inner z')) = qM e' (zs.set i z') (ads.set i (B, D)) := sH (fun z (a : Option Addr × Nat) => hown e' a.1 a.2 (Row1.inner z)) zs ads i z' (B, D)
    rw [set_self ads i _ ha, hin, set_self _ i _ (uz (e' := e') hz ha)] at h2
    exact h2.symm
  rw [e1, e2]
  exact hs2
theorem Sat.PL (hs : Sat w0 M σ w) (q : Nat) {k : Nat} (hq : σ[q]? = some (rQ e e' A C ads zs k)) {z : α} {B : Option Addr} {D : Nat} (hz : zs[k]? = some z) (ha : ads[k]? = some (B, D)) : View w (old w none_) B D (Row1.inner z) :=
  (hs.EP q hq hz ha).fQ 0 rfl
theorem V.NP (q : Nat) {k : Nat} (hq : σ[q]? = some (rQ e e' A C ads zs k)) {z : α} {B : Option Addr} {D : Nat} (hz : zs[k]? = some z) (ha : ads[k]? = some (B, D)) {j k' off m : Nat} {y : β} (hy : (Row1.inner z)[j]? = some y) {t : TypeId} {x : Operand} {agg : Bool} (ho : o.op = .load t x) (hx : ev fs x = some (fA B k'))
    (hk : k' = j * Flat.sz β + off) (hag : ∀ w, (isAgg t).run P w = .ok agg w) (hsz : ∀ w, (Go.sizeOf t).run P w = .ok m w) (hl : (((Flat.enc y).drop off).take m).length = m) (hv : mkv agg (((Flat.enc y).drop off).take m) = some v) :
    ∀ a w, fB n fs a → Sat w0 M σ w → kC P o a w v := fun a w hf hs =>
  V.jh 0 rfl hy ho hx hk hag hsz hl hv a w hf (hs.EP q hq hz ha)
end
end Go.Proofs.YtbegofbmbcghdaaGreatDoor

/- A part of an owned row is cleared. Plain lemmas over any program. -/
import Derived.Test.YtcmgagedebbpoaaCut
namespace Go.Proofs.Ytcmgagedebbpoaa
open Go Go.RowKit
set_option linter.unusedVariables false

def zeroed {α : Type} (xs : List α) (lo hi : Int) (z : α) : List α := xs.mapIdx (fun j x => if lo ≤ (j : Int) ∧ (j : Int) < hi then z else x)
theorem zeroed_length {α : Type} {xs : List α} {lo hi : Int} {z : α} : (zeroed xs lo hi z).length = xs.length := by simp [zeroed]
theorem zeroed_eq {α : Type} {xs : List α} {lo hi : Int} {z : α} (h : 0 ≤ lo ∧ lo ≤ hi ∧ hi ≤ (xs.length : Int)) : zeroed xs lo hi z = xs.take lo.toNat ++ List.replicate (hi.toNat - lo.toNat) z ++ xs.drop hi.toNat := by
  refine List.ext_getElem? (fun j => ?_)
  unfold zeroed
  rw [List.getElem?_mapIdx]
  by_cases h1 : j < lo.toNat
  · rw [List.append_assoc, List.getElem?_append_left (by rw [List.length_take]; omega), List.getElem?_take, if_pos h1]
    cases xs[j]? with
    | none => rfl
    | some x => simp only [Option.map_some]; rw [if_neg (by omega)]
  · by_cases h2 : j < hi.toNat
    · rw [List.getElem?_append_left (by simp only [List.length_append, List.length_take, List.length_replicate]; omega), List.getElem?_append_right (by rw [List.length_take]; omega), List.getElem?_replicate, if_pos (by rw [List.length_take]; omega)]
      rw [List.getElem?_eq_getElem (by omega)]
      simp only [Option.map_some]; rw [if_pos (by omega)]
    · rw [List.getElem?_append_right (by simp only [List.length_append, List.length_take, List.length_replicate]; omega), List.getElem?_drop]
      have : hi.toNat + (j - (xs.take lo.toNat ++ List.replicate (hi.toNat - lo.toNat) z).length) = j := by simp only [List.length_append, List.length_take, List.length_replicate]; omega
      rw [this]
      cases xs[j]? with
      | none => rfl
      | some x => simp only [Option.map_some]; rw [if_neg (by omega)]
theorem zeroCells_enc {α : Type} [Flat α] {u : Array Value} {z : α} (hu : u = (Flat.enc z).toArray) (m : Nat) : (Builtin.zeroCells u m).toList = (List.replicate m z).flatMap Flat.enc := by
  subst hu
  have hpos : 0 < Flat.sz α := Flat.pos
  have hsz : (Flat.enc z).toArray.size = Flat.sz α := by simp [Flat.len]
  refine List.ext_getElem? (fun j => ?_)
  have hl : (Builtin.zeroCells (Flat.enc z).toArray m).toList.length = m * Flat.sz α := by simp [Builtin.zeroCells, Flat.len]
  rcases Nat.lt_or_ge j (m * Flat.sz α) with hj | hj
  · have hq : j / Flat.sz α < m := Nat.div_lt_of_lt_mul (by rw [Nat.mul_comm]; exact hj)
    have h2 := getElem?_flatMap_enc (List.replicate m z) (j / Flat.sz α) z (by rw [List.getElem?_replicate, if_pos hq]) (j % Flat.sz α) (Nat.mod_lt _ hpos)
    rw [Nat.div_add_mod' j (Flat.sz α)] at h2
    rw [h2]
    have hm : j % Flat.sz α < (Flat.enc z).length := by rw [Flat.len]; exact Nat.mod_lt _ hpos
    rw [List.getElem?_eq_getElem hm]
    simp only [Builtin.zeroCells, Array.getElem?_toList, Array.getElem?_map]
    rw [hsz, Array.getElem?_eq_getElem (by simpa using hj)]
    simp only [Option.map_some, Array.getElem_range]
    rw [getElem!_pos _ _ (by simpa using hm)]
    simp
  · rw [List.getElem?_eq_none (by rw [hl]; exact hj), List.getElem?_eq_none (by rw [length_flatMap_enc, List.length_replicate]; exact hj)]
section
variable {P : Program} {n : Nat} {fs : Fr} {a : Act} {o : Oper} {v : Value} {ops : Array Oper} {rest : List Oper} {Q : Exit → Act → World → Prop} {w w0 : World} {M : Nat → Prop} {σ : List HProp}
theorem S.clearSub (q : Nat) (hf : FrOk n fs a) (hs : Sat w0 M σ w) (hg : gv ops fs o = some true) (hd : o.dst = none) {α : Type} [Flat α] (z : α) {x : Operand} {t e : TypeId} {A : Option Addr} {C c l bytes : Nat} {xs : List α} {lo hi : Int} (hq : σ[q]? = some (hown e A C xs))
    (ho : o.op = .call ⟨.builtin .clear, #[x], #[t]⟩) (hx : ev fs x = some (.slice (segA A C lo.toNat (Flat.sz α)) l c)) (hl : l = (seg xs lo hi).length) (ht : P.underlying t = some (.slice e)) (hi' : TyInfo P e (Flat.sz α) bytes (Flat.enc z)) (hp : 0 ≤ lo ∧ lo ≤ hi ∧ hi ≤ (xs.length : Int))
    (K : ∀ a w', FrOk n fs a → Sat w0 M (σ.set q (hown e A C (zeroed xs lo hi z))) w' → wpList P ops Q rest a w') : wpList P ops Q (o :: rest) a w := by
  rw [seg_length (by omega)] at hl
  subst hl
  rcases Nat.eq_zero_or_pos (hi.toNat - lo.toNat) with h0 | h0
  · have hz : zeroed xs lo hi z = xs := by
      rw [zeroed_eq hp, h0, show hi.toNat = lo.toNat by omega]; simp
    rw [h0] at hx
    refine S.act0v (R := fun w' => Sat w0 M (σ.set q (hown e A C (zeroed xs lo hi z))) w') hf hg hd (fun a hf => ?_) (fun a w' hf hs => K a w' hf hs)
    have e1 := hf.ev_ok hx
    refine ⟨.tuple #[], w, ?_, by rw [hz, set_self σ q _ hq]; exact hs⟩
    unfold execOp
    simp only [ho, resolve, invoke, builtin, Sem.run_bind, Sem.run_pure, Result.andThen_ok, List.map_toArray, List.map_cons, List.map_nil, e1]
    cases segA A C lo.toNat (Flat.sz α) <;> simp [Builtin.clear_, run_underlying ht]
  · have hne : 0 < xs.length := by omega
    obtain ⟨g, cs, rfl, hC, hM, hcl, htk, hs1⟩ := hs.toRaw q hq hne
    obtain ⟨i, u, i1, i2, i3, i4, i5⟩ := hi'.info
    have hseg : segA (some ⟨g, 0, none⟩) C lo.toNat (Flat.sz α) = some ⟨g, lo.toNat * Flat.sz α, none⟩ := by
      unfold segA
      rw [if_neg (by omega)]
      simp [Addr.add_lit]
    rw [hseg] at hx
    have hze := zeroCells_enc i5 (hi.toNat - lo.toNat)
    have hzl : (Builtin.zeroCells u.cells (hi.toNat - lo.toNat)).toList.length = (hi.toNat - lo.toNat) * Flat.sz α := by rw [hze, length_flatMap_enc, List.length_replicate]
    have hz1 : ∀ v ∈ (Builtin.zeroCells u.cells (hi.toNat - lo.toNat)).toList, v.oneCell' = true := by rw [hze]; exact enc_one _
    have hspan : lo.toNat * Flat.sz α + (hi.toNat - lo.toNat) * Flat.sz α = hi.toNat * Flat.sz α := by rw [← Nat.add_mul]; congr 1; omega
    have hle1 : hi.toNat * Flat.sz α ≤ xs.length * Flat.sz α := Nat.mul_le_mul_right _ (by omega)
    have hle2 : xs.length * Flat.sz α ≤ C * Flat.sz α := Nat.mul_le_mul_right _ hC
    have hq1 : (σ.set q (hraw e g cs))[q]? = some (hraw e g cs) := getElem?_set_self' σ q _ _ hq
    refine S.act0v (R := fun w' => Sat w0 M (σ.set q (hraw e g (cs.take (lo.toNat * Flat.sz α) ++ (List.replicate (hi.toNat - lo.toNat) z).flatMap Flat.enc ++ cs.drop (hi.toNat * Flat.sz α)))) w') hf hg hd (fun a hf => ?_) (fun a w' hf hs2 => K a w' hf ?_)
    · obtain ⟨F, ⟨hh, hF⟩, hlt, hupd⟩ := hs1.upd q hq1
      have e1 := hf.ev_ok hx
      have hst := run_storeCells_at P g (lo.toNat * Flat.sz α) e (Builtin.zeroCells u.cells (hi.toNat - lo.toNat)).toList 0 cs.toArray w hh (by rw [hzl]; simp only [List.size_toArray]; omega) hz1
      simp only [Nat.add_zero, hzl, hspan] at hst
      obtain ⟨l', hl'⟩ : ∃ l', hi.toNat - lo.toNat = l' + 1 := ⟨hi.toNat - lo.toNat - 1, by omega⟩
      rw [← hze]
      have hset : (σ.set q (hraw e g cs)).set q (hraw e g (cs.take (lo.toNat * Flat.sz α) ++ (Builtin.zeroCells u.cells (hi.toNat - lo.toNat)).toList ++ cs.drop (hi.toNat * Flat.sz α))) = σ.set q (hraw e g (cs.take (lo.toNat * Flat.sz α) ++ (Builtin.zeroCells u.cells (hi.toNat - lo.toNat)).toList ++ cs.drop (hi.toNat * Flat.sz α))) := by rw [List.set_set]
      rw [← hset]
      refine ⟨.tuple #[], _, ?_, hupd (w.setRow g (cs.take (lo.toNat * Flat.sz α) ++ (Builtin.zeroCells u.cells (hi.toNat - lo.toNat)).toList ++ cs.drop (hi.toNat * Flat.sz α)).toArray) _ F (Keeps.setRow w g _ ((hF g).2 rfl)) ⟨setRow_heap w g cs.toArray _ e _ hh, hF⟩ (fun b hb => ⟨.inl hb, by rw [size_setRow]; exact hlt b hb⟩)⟩
      unfold execOp
      rw [hl'] at hst ⊢ e1
      simp only [ho, resolve, invoke, builtin, Sem.run_bind, Sem.run_pure, Result.andThen_ok, List.map_toArray, List.map_cons, List.map_nil, e1]
      simp [Builtin.clear_, run_underlying ht, zeroValue, typeInfo, i1, i2, hst]
    · have hq2 := getElem?_set_self' σ q (hraw e g (cs.take (lo.toNat * Flat.sz α) ++ (List.replicate (hi.toNat - lo.toNat) z).flatMap Flat.enc ++ cs.drop (hi.toNat * Flat.sz α))) _ hq
      have h3 := hs2.ofRaw q hq2 (C := C) (zeroed xs lo hi z) ?_ (by rw [zeroed_length]; exact hC) hM ?_
      · rwa [List.set_set] at h3
      · simp only [List.length_append, List.length_take, List.length_drop, length_flatMap_enc, List.length_replicate, hcl]
        rw [Nat.min_eq_left (by omega)]
        omega
      · have hX : (cs.take (lo.toNat * Flat.sz α) ++ (List.replicate (hi.toNat - lo.toNat) z).flatMap Flat.enc).length = hi.toNat * Flat.sz α := by
          rw [List.length_append, List.length_take, length_flatMap_enc, List.length_replicate, hcl, Nat.min_eq_left (by omega)]; exact hspan
        rw [zeroed_length, zeroed_eq hp, List.flatMap_append, List.flatMap_append, ← enc_take, ← enc_drop, ← htk, List.take_take, Nat.min_eq_left (by omega), List.take_append, hX, List.take_of_length_le (by rw [hX]; exact hle1), List.drop_take]
end
end Go.Proofs.Ytcmgagedebbpoaa

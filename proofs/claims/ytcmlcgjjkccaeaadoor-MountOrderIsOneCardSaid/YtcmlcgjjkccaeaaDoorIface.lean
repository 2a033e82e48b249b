/- Chapter texts of ours, as far as the claim needs them. -/
import Derived.Test.YtcmlcgjjkccaeaaDoorBytes
import Derived.LoopN
namespace Go.Proofs.YtcmlcgjjkccaeaaDoor
open Go Go.RowKit
set_option linter.unusedVariables false
set_option linter.unusedSimpArgs false
section
variable {P : Program} {ops : Array Oper} {Q : Exit → Act → World → Prop} {md : Region.Mode} {K : World → Prop} {s : Nat}
theorem wpAnyM_firstP {i : Nat} {oi : Oper} {v : Value} (hi : ops[i]? = some oi) (hsel : ∀ (j : Nat) (o : Oper) cs b, ops[j]? = some o → o.op ≠ .select cs b)
    (hQ : ∀ c a w, Q (.panic c) (a.put oi.dst v) w → Q (.panic c) a w) :
    ∀ (fuel : Nat) (listed : Array Bool) (a : Act) (w : World),
      (∀ j oj, ops[j]? = some oj → j ≠ i → listed.getD j true = false → (∀ e ∈ oj.after, Region.binds md e = true → e.on ≠ i) → oi.apart ops oj = true) →
      i ∈ Region.ready md ops listed → YieldsIf P ops (fun _ => True) oi v a → i ≠ s → (listed.getD s true = false → K w) →
      wpAnyM P md ops Q K s fuel (listed.setIfInBounds i true) (a.put oi.dst v) w → wpAnyM P md ops Q K s (fuel + 1) listed a w := by
  intro fuel
  induction fuel with
  | zero =>
    intro listed a w _ hr hy his hK H
    refine ⟨fun h => (by rw [h] at hr; cases hr), fun j hj => ?_⟩
    by_cases hji : j = i
    · subst hji; exact hy.wpOp hi trivial ⟨fun hh => hK (by rw [getD_set_ne true his] at hh; exact hh), H⟩
    · have := ready_mono hj hji
      rw [H.1] at this
      cases this
  | succ fuel ih =>
    intro listed a w hfree hr hy his hK H
    refine ⟨fun h => (by rw [h] at hr; cases hr), fun j hj => ?_⟩
    by_cases hji : j = i
    · subst hji; exact hy.wpOp hi trivial ⟨fun hh => hK (by rw [getD_set_ne true his] at hh; exact hh), H⟩
    · have h1 := H.2 j (ready_mono hj hji)
      obtain ⟨hjun, oj, hoj, hall⟩ := mem_ready.1 hj
      have hnot : ∀ e ∈ oj.after, Region.binds md e = true → e.on ≠ i := fun e he hb heq => by
        have h1 := hall e he hb
        have h0 := (mem_ready.1 hr).1
        rw [heq] at h1
        rcases Nat.lt_or_ge i listed.size with h' | h'
        · simp [h'] at h0 h1; rw [h0] at h1; cases h1
        · simp [Array.getElem?_eq_none h'] at h1
      have h2 := wpOp_putIf hoj (hfree j oj hoj hji hjun hnot) (fun cs b => hsel i oi cs b hi) (fun cs b => hsel j oj cs b hoj) hQ hy h1
      have hfree' : ∀ k ok, ops[k]? = some ok → k ≠ i → (listed.setIfInBounds j true).getD k true = false →
          (∀ e ∈ ok.after, Region.binds md e = true → e.on ≠ i) → oi.apart ops ok = true := fun k ok hk hki hun hno => by
        refine hfree k ok hk hki ?_ hno
        by_cases hjk : j = k
        · subst hjk; exact hjun
        · rw [getD_set_ne true hjk] at hun; exact hun
      refine wpOp_mono (fun a' w' h3 => ?_) h2
      have hf : (listed.setIfInBounds j true).getD s true = false → K w' := fun hh => h3.2.1 (by rw [Array.setIfInBounds_comm _ _ (Ne.symm hji), getD_set_ne true his]; exact hh)
      refine ⟨hf, ih (listed.setIfInBounds j true) a' w' hfree' (ready_mono hr (Ne.symm hji)) h3.1 his hf ?_⟩
      rw [Array.setIfInBounds_comm _ _ hji]
      exact h3.2.2
end
section
variable {P : Program} {n : Nat} {fs : Fr} {a : Act} {o : Oper} {v : Value} {ops : Array Oper} {Q : Exit → Act → World → Prop} {w : World} {K : World → Prop} {fuel i s : Nat} {listed : Array Bool}
theorem M.valp (hf : FrOk n fs a) (hs : K w) {d : Nat} (hi : ops[i]? = some o) (hg : gv ops fs o = some true) (hd : o.dst = some d) (hdn : Nat.blt d n = true) (h1 : Region.noSelect ops = true) (h2 : Region.free .any ops listed i = true) (h3 : (Region.ready .any ops listed).contains i = true) (h6 : Nat.beq i s = false)
    (hrun : ∀ (w1 : World) a w, FrOk n fs a → Sat w1 none_ [] w → RunV P o a w v) (k : ∀ a, FrOk n ((d, v) :: fs) a → wpAnyM P .any ops (noPanic Q) K s fuel (listed.setIfInBounds i true) a w) : wpAnyM P .any ops (noPanic Q) K s (fuel + 1) listed a w := by
  refine wpAnyM_firstP (v := v) hi (Region.noSelect_spec h1) (fun c a w h => h) fuel listed a w (Region.free_spec hi h2) (by simpa using h3) (.inl ⟨gv_ok hf hg, fun w _ => hrun w a w hf (Sat.start w none_)⟩) (fun e => by rw [e, Nat.beq_refl] at h6; cases h6) (fun _ => hs) ?_
  rw [hd]
  exact k _ (hf.put d (Nat.blt_eq ▸ hdn) v)
end
end Go.Proofs.YtcmlcgjjkccaeaaDoor

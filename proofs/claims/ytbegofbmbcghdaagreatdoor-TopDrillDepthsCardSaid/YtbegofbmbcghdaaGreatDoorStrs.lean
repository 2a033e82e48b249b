/- Chapter texts of ours, as far as the claim needs them. -/
import Derived.Test.YtbegofbmbcghdaaGreatDoorNest
namespace Go.Proofs.YtbegofbmbcghdaaGreatDoor
open Go Go.RowKit
set_option linter.unusedVariables false
set_option linter.unusedSectionVars false
set_option linter.unusedSimpArgs false
section
variable {P : Program} {ops : Array Oper} {Q : Exit → Act → World → Prop} {md : Region.Mode} {K : World → Prop} {s : Nat}
def jk (P : Program) (md : Region.Mode) (ops : Array Oper) (Q : Exit → Act → World → Prop) (K : World → Prop) (s : Nat) : Nat → Array Bool → Act → World → Prop
  | 0, listed, a, w => Region.ready md ops listed = [] ∧ Q .normal a w
  | fuel + 1, listed, a, w =>
    (Region.ready md ops listed = [] → Q .normal a w) ∧
    ∀ i ∈ Region.ready md ops listed, wpOp P ops Q i (fun a' w' => ((listed.setIfInBounds i true).getD s true = false → K w') ∧ jk P md ops Q K s fuel (listed.setIfInBounds i true) a' w') a w
theorem Dn : ∀ (fuel : Nat) (listed : Array Bool) (a : Act) (w : World), jk P md ops Q K s fuel listed a w → wpAny P md ops Q fuel listed a w
  | 0, _, _, _, h => h
  | fuel + 1, _, _, _, h => ⟨h.1, fun i hi => wpOp_mono (fun a' w' h' => Dn fuel _ a' w' h'.2) (h.2 i hi)⟩
theorem ET {i : Nat} {oi os : Oper} {v : Value} (hi : ops[i]? = some oi) (hos : ops[s]? = some os) (hwait : ∃ e ∈ os.after, Region.binds md e = true ∧ e.on = i) (hsel : ∀ (j : Nat) (o : Oper) cs b, ops[j]? = some o → o.op ≠ .select cs b)
    (hQ : ∀ c a w, Q (.panic c) (a.put oi.dst v) w → Q (.panic c) a w) :
    ∀ (fuel : Nat) (listed : Array Bool) (a : Act) (w : World),
      (∀ j oj, ops[j]? = some oj → j ≠ i → listed.getD j true = false → (∀ e ∈ oj.after, Region.binds md e = true → e.on ≠ i) → oi.apart ops oj = true) →
      i ∈ Region.ready md ops listed → YieldsIf P ops K oi v a → listed.getD s true = false → i ≠ s → K w →
      jk P md ops Q K s fuel (listed.setIfInBounds i true) (a.put oi.dst v) w → jk P md ops Q K s (fuel + 1) listed a w := by
  intro fuel
  induction fuel with
  | zero =>
    intro listed a w _ hr hy hsl his hK H
    refine ⟨fun h => (by rw [h] at hr; cases hr), fun j hj => ?_⟩
    by_cases hji : j = i
    · subst hji; exact hy.wpOp hi hK ⟨fun _ => hK, H⟩
    · have := ready_mono hj hji
      rw [H.1] at this
      cases this
  | succ fuel ih =>
    intro listed a w hfree hr hy hsl his hK H
    refine ⟨fun h => (by rw [h] at hr; cases hr), fun j hj => ?_⟩
    by_cases hji : j = i
    · subst hji; exact hy.wpOp hi hK ⟨fun _ => hK, H⟩
    · have h1 := H.2 j (ready_mono hj hji)
      obtain ⟨hjun, oj, hoj, hall⟩ := mem_ready.1 hj
      have hnot : ∀ e ∈ oj.after, Region.binds md e = true → e.on ≠ i := fun e he hb heq => by
        have h1 := hall e he hb
        have h0 := (mem_ready.1 hr).1
        rw [heq] at h1
        rcases Nat.lt_or_ge i listed.size with h' | h'
        · simp [h'] at h0 h1; rw [h0] at h1; cases h1
        · simp [Array.getElem?_eq_none h'] at h1
      have hjs : j ≠ s := fun e => by
        subst e
        obtain ⟨e, he, hb, hon⟩ := hwait
        rw [hos] at hoj; injection hoj with hoj; subst hoj
        exact hnot e he hb hon
      have h2 := wpOp_putIf hoj (hfree j oj hoj hji hjun hnot) (fun cs b => hsel i oi cs b hi) (fun cs b => hsel j oj cs b hoj) hQ hy h1
      have hfree' : ∀ k ok, ops[k]? = some ok → k ≠ i → (listed.setIfInBounds j true).getD k true = false →
          (∀ e ∈ ok.after, Region.binds md e = true → e.on ≠ i) → oi.apart ops ok = true := fun k ok hk hki hun hno => by
        refine hfree k ok hk hki ?_ hno
        by_cases hjk : j = k
        · subst hjk; exact hjun
        · rw [getD_set_ne true hjk] at hun; exact hun
      have hs2 : (listed.setIfInBounds j true).getD s true = false := by rw [getD_set_ne true hjs]; exact hsl
      have hs3 : ((listed.setIfInBounds i true).setIfInBounds j true).getD s true = false := by rw [getD_set_ne true hjs, getD_set_ne true his]; exact hsl
      refine wpOp_mono (fun a' w' h3 => ⟨fun _ => h3.2.1 hs3, ih (listed.setIfInBounds j true) a' w' hfree' (ready_mono hr (Ne.symm hji)) h3.1 hs2 his (h3.2.1 hs3) ?_⟩) h2
      rw [Array.setIfInBounds_comm _ _ hji]
      exact h3.2.2
def waitsFor (md : Region.Mode) (ops : Array Oper) (s i : Nat) : Bool := match ops[s]? with
  | some os => os.after.any (fun e => Region.binds md e && e.on == i)
  | none => false
theorem waitsFor_spec {i : Nat} (h : waitsFor md ops s i = true) : ∃ os, ops[s]? = some os ∧ ∃ e ∈ os.after, Region.binds md e = true ∧ e.on = i := by
  unfold waitsFor at h
  split at h
  · rename_i os hos
    obtain ⟨k, hk, h1⟩ := Array.any_eq_true.1 h
    simp only [Bool.and_eq_true, beq_iff_eq] at h1
    exact ⟨os, hos, os.after[k], Array.getElem_mem hk, h1.1, h1.2⟩
  · cases h
end
section
variable {P : Program} {n : Nat} {fs : Fr} {a : Act} {o : Oper} {v : Value} {ops : Array Oper} {Q : Exit → Act → World → Prop} {w w0 : World} {M : Nat → Prop} {σ : List gJ} {K : World → Prop} {fuel i s : Nat} {listed : Array Bool}
theorem M.start {id : Nat} (s : Nat) (K : World → Prop) (hm : P.follows .mixedOrders = true) (h : jk P .any ops (gu Q) K s ops.size (Array.replicate ops.size false) a w.drew) : (Code.region id ops true).wp P Q a w :=
  wp_mono (wp_region_any hm (Dn _ _ _ _ h)) fun e a w he => by cases e <;> first | exact he | exact (he : False).elim
theorem M.val (hf : fB n fs a) (hs : K w) {d : Nat} (hi : ops[i]? = some o) (hg : gv ops fs o = some true) (hd : o.dst = some d) (hdn : Nat.blt d n = true) (h1 : Region.noSelect ops = true) (h2 : Region.free .any ops listed i = true) (h3 : (Region.ready .any ops listed).contains i = true)
    (h4 : waitsFor .any ops s i = true) (h5 : listed.getD s true = false) (h6 : Nat.beq i s = false)
    (hrun : ∀ a w, fB n fs a → K w → kC P o a w v) (k : ∀ a, fB n ((d, v) :: fs) a → jk P .any ops (gu Q) K s fuel (listed.setIfInBounds i true) a w) : jk P .any ops (gu Q) K s (fuel + 1) listed a w := by
  obtain ⟨os, hos, hw⟩ := waitsFor_spec h4
  refine ET (v := v) hi hos hw (Region.noSelect_spec h1) (fun c a w h => h) fuel listed a w (Region.free_spec hi h2) (by simpa using h3) (.inl ⟨zK hf hg, fun w hw => hrun a w hf hw⟩) h5 (fun e => by rw [e, Nat.beq_refl] at h6; cases h6) hs ?_
  rw [hd]
  exact k _ (hf.put d (Nat.blt_eq ▸ hdn) v)
theorem M.skip (hf : fB n fs a) (hs : K w) {d : Nat} (hi : ops[i]? = some o) (hg : gv ops fs o = some false) (hd : o.dst = some d) (hdn : Nat.blt d n = true) (h1 : Region.noSelect ops = true) (h2 : Region.free .any ops listed i = true) (h3 : (Region.ready .any ops listed).contains i = true)
    (h4 : waitsFor .any ops s i = true) (h5 : listed.getD s true = false) (h6 : Nat.beq i s = false)
    (k : ∀ a, fB n ((d, undef) :: fs) a → jk P .any ops (gu Q) K s fuel (listed.setIfInBounds i true) a w) : jk P .any ops (gu Q) K s (fuel + 1) listed a w := by
  obtain ⟨os, hos, hw⟩ := waitsFor_spec h4
  refine ET (v := undef) hi hos hw (Region.noSelect_spec h1) (fun c a w h => h) fuel listed a w (Region.free_spec hi h2) (by simpa using h3) (.inr ⟨zK hf hg, rfl⟩) h5 (fun e => by rw [e, Nat.beq_refl] at h6; cases h6) hs ?_
  rw [hd]
  exact k _ (hf.put d (Nat.blt_eq ▸ hdn) undef)
theorem M.split (hf : fB n fs a) (hs : K w) {d : Nat} {b : Bool} (hi : ops[i]? = some o) (hg : gv ops fs o = some true) (hd : o.dst = some d) (hdn : Nat.blt d n = true) (h1 : Region.noSelect ops = true) (h2 : Region.free .any ops listed i = true) (h3 : (Region.ready .any ops listed).contains i = true)
    (h4 : waitsFor .any ops s i = true) (h5 : listed.getD s true = false) (h6 : Nat.beq i s = false)
    (hrun : ∀ a w, fB n fs a → K w → kC P o a w (.bool b)) (kt : b = true → ∀ a, fB n ((d, .bool true) :: fs) a → jk P .any ops (gu Q) K s fuel (listed.setIfInBounds i true) a w)
    (kf : b = false → ∀ a, fB n ((d, .bool false) :: fs) a → jk P .any ops (gu Q) K s fuel (listed.setIfInBounds i true) a w) : jk P .any ops (gu Q) K s (fuel + 1) listed a w := by
  refine M.val hf hs hi hg hd hdn h1 h2 h3 h4 h5 h6 hrun (fun a ha => ?_)
  cases b
  · exact kf rfl a ha
  · exact kt rfl a ha
theorem M.one (hi : ops[i]? = some o) (hr : Region.ready .any ops listed = [i]) (h : wpList P ops (Exit.then (fun a' w' => K w' ∧ jk P .any ops (gu Q) K s fuel (listed.setIfInBounds i true) a' w') (gu Q)) [o] a w) : jk P .any ops (gu Q) K s (fuel + 1) listed a w := by
  refine ⟨fun h0 => (by rw [hr] at h0; cases h0), fun j hj => ?_⟩
  have : j = i := by rw [hr] at hj; simpa using hj
  subst this
  refine wpOp_mono (K := fun a' w' => K w' ∧ jk P .any ops (gu Q) K s fuel (listed.setIfInBounds j true) a' w') (fun a' w' h' => ⟨fun _ => h'.1, h'.2⟩) ?_
  unfold wpOp
  rw [hi]
  exact h
theorem M.last (hi : ops[i]? = some o) (hr : Region.ready .any ops listed = [i]) (hl : (listed.setIfInBounds i true).getD s true = true) (h : wpList P ops (Exit.then (fun a' w' => jk P .any ops (gu Q) K s fuel (listed.setIfInBounds i true) a' w') (gu Q)) [o] a w) : jk P .any ops (gu Q) K s (fuel + 1) listed a w := by
  refine ⟨fun h0 => (by rw [hr] at h0; cases h0), fun j hj => ?_⟩
  have : j = i := by rw [hr] at hj; simpa using hj
  subst this
  refine wpOp_mono (K := fun a' w' => jk P .any ops (gu Q) K s fuel (listed.setIfInBounds j true) a' w') (fun a' w' h' => ⟨fun e => (by rw [hl] at e; cases e), h'⟩) ?_
  unfold wpOp
  rw [hi]
  exact h
theorem M.done (hr : Region.ready .any ops listed = []) (h : Q .normal a w) : jk P .any ops (gu Q) K s fuel listed a w := by
  cases fuel with
  | zero => exact ⟨hr, h⟩
  | succ fuel => exact ⟨fun _ => h, by rw [hr]; simp⟩
end
class Bulk (α : Type) where
  bk : α → Nat
  one : ∀ x, 1 ≤ bk x
instance Rw : Bulk Int := ⟨fun _ => 1, fun _ => Nat.le_refl _⟩
instance Qv : Bulk Bool := ⟨fun _ => 1, fun _ => Nat.le_refl _⟩
instance Rz : Bulk Str := ⟨fun s => s.length + 1, fun _ => Nat.le_add_left _ _⟩
instance QZ {α : Type} [Bulk α] : Bulk (List α) := ⟨fun l => (l.map Bulk.bk).sum + 1, fun _ => Nat.le_add_left _ _⟩
def countB (s : Str) (c : Int) : Int := (s.count c.toNat.toUInt8 : Nat)
section
variable {P : Program} {n : Nat} {fs : Fr} {o : Oper} {v : Value} {w0 : World} {M : Nat → Prop} {σ : List gJ}
theorem V.rV {t ty : TypeId} {x y : Operand} {s u : Str} (ho : o.op = .binOp .add t x y ty) (hx : ev fs x = some (.string (ba s))) (hy : ev fs y = some (.string (ba u))) (hl : s.length + u.length ≤ 9223372036854775807) :
    ∀ a w, fB n fs a → Sat w0 M σ w → kC P o a w (.string (ba (s ++ u))) := fun a w hf _ => by
  have e1 := hf.gX hx
  have e2 := hf.gX hy
  refine jg (s := (do eqGuard .add t x y (a.eval x) (a.eval y); binOp .add t (a.eval x) (a.eval y))) (by unfold execOp; rw [ho]) ?_
  rw [e1, e2]
  have : ba s ++ ba u = ba (s ++ u) := by apply ByteArray.ext; simp [ba]
  have hm : ¬ (((ba s).size + (ba u).size : Nat) : Int) > IntKind.i64.max := by
    rw [vN, vN]
    have : IntKind.i64.max = 9223372036854775807 := rfl
    omega
  simp [eqGuard, binOp, Op.stringOp, this]; rw [vN, vN]; omega
end
end Go.Proofs.YtbegofbmbcghdaaGreatDoor

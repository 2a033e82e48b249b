/- Chapter texts of ours, as far as the claim needs them. -/
import Derived.Test.YtcmlcgjjkccaeaaDoorDoorL
import Derived.Test.YtcmlcgjjkccaeaaDoorDoorD
import Derived.Test.YtcmlcgjjkccaeaaDoorStab
import Derived.Test.YtcmlcgjjkccaeaaDoorHeap
namespace Go.Proofs.YtcmlcgjjkccaeaaDoor
open Go Go.RowKit
set_option linter.unusedVariables false
set_option linter.unusedSimpArgs false
def tallB (b : List Body) (p : Place) : Int := ((bodyAt b p.Typ).getD noBody).Tall
def nozB (b : List Body) (p : Place) : Str := ((bodyAt b p.Typ).getD noBody).Nozzle
def sideP (p : Place) : Int := if p.Below = true then 1 else 0
def ltP (b : List Body) (p q : Place) : Bool := decide (sideP p < sideP q ∨ (sideP p = sideP q ∧ (tallB b p < tallB b q ∨ (tallB b p = tallB b q ∧ (strLt (nozB b p) (nozB b q) = true ∨ (nozB b p = nozB b q ∧ strLt p.Part q.Part = true))))))
theorem ltP_iff {b : List Body} {p q : Place} : ltP b p q = true ↔ (sideP p < sideP q ∨ (sideP p = sideP q ∧ (tallB b p < tallB b q ∨ (tallB b p = tallB b q ∧ (strLt (nozB b p) (nozB b q) = true ∨ (nozB b p = nozB b q ∧ strLt p.Part q.Part = true)))))) := by
  unfold ltP; exact decide_eq_true_iff
theorem ltP_irr (b : List Body) (p : Place) : ltP b p p = false := by
  cases h : ltP b p p
  · rfl
  · have := ltP_iff.1 h
    simp [strLt_irrefl] at this
theorem ltP_trans {b : List Body} {p q r : Place} (h1 : ltP b p q = true) (h2 : ltP b q r = true) : ltP b p r = true := by
  rw [ltP_iff] at *
  rcases h1 with h1 | ⟨e1, h1 | ⟨e2, h1 | ⟨e3, h1⟩⟩⟩ <;> rcases h2 with h2 | ⟨f1, h2 | ⟨f2, h2 | ⟨f3, h2⟩⟩⟩
  all_goals first
    | (left; omega)
    | (refine .inr ⟨by omega, .inl (by omega)⟩)
    | (refine .inr ⟨by omega, .inr ⟨by omega, .inl ?_⟩⟩; first | exact strLt_trans _ _ _ h1 h2 | (rw [← f3]; exact h1) | (rw [e3]; exact h2))
    | (refine .inr ⟨by omega, .inr ⟨by omega, .inr ⟨e3.trans f3, strLt_trans _ _ _ h1 h2⟩⟩⟩)
theorem ltP_tri (b : List Body) (p q : Place) : ltP b p q = true ∨ ltP b q p = true ∨ (sideP p = sideP q ∧ tallB b p = tallB b q ∧ nozB b p = nozB b q ∧ p.Part = q.Part) := by
  rw [ltP_iff, ltP_iff]
  by_cases h1 : sideP p = sideP q
  · by_cases h2 : tallB b p = tallB b q
    · rcases strLt_total (nozB b p) (nozB b q) with h3 | h3 | h3
      · rcases strLt_total p.Part q.Part with h4 | h4 | h4
        · exact .inr (.inr ⟨h1, h2, h3, h4⟩)
        · exact .inl (.inr ⟨h1, .inr ⟨h2, .inr ⟨h3, h4⟩⟩⟩)
        · exact .inr (.inl (.inr ⟨h1.symm, .inr ⟨h2.symm, .inr ⟨h3.symm, h4⟩⟩⟩))
      · exact .inl (.inr ⟨h1, .inr ⟨h2, .inl h3⟩⟩)
      · exact .inr (.inl (.inr ⟨h1.symm, .inr ⟨h2.symm, .inl h3⟩⟩))
    · rcases Int.lt_or_lt_of_ne h2 with h3 | h3
      · exact .inl (.inr ⟨h1, .inl h3⟩)
      · exact .inr (.inl (.inr ⟨h1.symm, .inl h3⟩))
  · rcases Int.lt_or_lt_of_ne h1 with h3 | h3
    · exact .inl (.inl h3)
    · exact .inr (.inl (.inl h3))
theorem ltP_same {b : List Body} {p q r : Place} (h : sideP p = sideP q ∧ tallB b p = tallB b q ∧ nozB b p = nozB b q ∧ p.Part = q.Part) : ltP b p r = ltP b q r ∧ ltP b r p = ltP b r q := by
  obtain ⟨h1, h2, h3, h4⟩ := h
  constructor <;> unfold ltP <;> rw [h1, h2, h3, h4]
theorem ltP_le {b : List Body} {p q r : Place} (h1 : ltP b q p = false) (h2 : ltP b r q = false) : ltP b r p = false := by
  cases h : ltP b r p
  · rfl
  · rcases ltP_tri b p q with h3 | h3 | h3
    · rw [ltP_trans h h3] at h2; cases h2
    · rw [h3] at h1; cases h1
    · rw [(ltP_same h3).2] at h; rw [h] at h2; cases h2
theorem ltP_asy {b : List Body} {p q : Place} (h : ltP b p q = true) : ltP b q p = false := by
  cases hh : ltP b q p
  · rfl
  · have := ltP_trans h hh; rw [ltP_irr] at this; cases this
def plc (l : List Place) (i : Int) : Place := l.getD i.toNat default
def ltI (b : List Body) (l : List Place) (i k : Int) : Bool := ltP b (plc l i) (plc l k)
theorem lo_ltI (b : List Body) (l : List Place) (P : Int → Prop) : Lo (ltI b l) P := ⟨fun x _ => ltP_irr _ _, fun x y z _ _ _ h1 h2 => ltP_le h1 h2, fun x y _ _ h => ltP_asy h⟩
def Num (l : List Place) (i : Int) : Prop := 0 ≤ i ∧ i < l.length
theorem plc_get {l : List Place} {i : Int} (h : Num l i) : l[i.toNat]? = some (plc l i) := by
  unfold plc
  obtain ⟨h0, h1⟩ := h
  rw [List.getD_eq_getElem?_getD, List.getElem?_eq_getElem (show i.toNat < l.length by omega)]; rfl
def ord4 (b : List Body) (p q : Place) : Int :=
  let c := fun (x y : Int) => if x < y then (-1 : Int) else if x > y then 1 else 0
  if c (sideP p) (sideP q) ≠ 0 then c (sideP p) (sideP q) else if c (tallB b p) (tallB b q) ≠ 0 then c (tallB b p) (tallB b q) else if cmpStr (nozB b p) (nozB b q) ≠ 0 then cmpStr (nozB b p) (nozB b q) else cmpStr p.Part q.Part
theorem ord4_lt (b : List Body) (p q : Place) : decide (ord4 b p q < 0) = ltP b p q := by
  unfold ltP
  refine decide_eq_decide.2 ?_
  unfold ord4
  simp only
  generalize sideP p = a1; generalize sideP q = a2; generalize tallB b p = t1; generalize tallB b q = t2
  rcases Int.lt_trichotomy a1 a2 with h1 | h1 | h1
  · rw [if_pos (by rw [if_pos h1]; decide), if_pos h1]; simp [h1]
  · subst h1
    rw [if_neg (show ¬ _ ≠ (0 : Int) by rw [if_neg (Int.lt_irrefl _), if_neg (Int.lt_irrefl _)]; simp)]
    rcases Int.lt_trichotomy t1 t2 with h2 | h2 | h2
    · rw [if_pos (by rw [if_pos h2]; decide), if_pos h2]; simp [h2]
    · subst h2
      rw [if_neg (show ¬ _ ≠ (0 : Int) by rw [if_neg (Int.lt_irrefl _), if_neg (Int.lt_irrefl _)]; simp)]
      rcases cmpStr_spec (nozB b p) (nozB b q) with ⟨h3, h4⟩ | ⟨h3, h4, _⟩ | ⟨h3, h4, h5, h6⟩
      · rw [h3, if_neg (by simp), h4, strLt_irrefl]
        rcases cmpStr_spec p.Part q.Part with ⟨h5, h6⟩ | ⟨h5, h6, _⟩ | ⟨h5, h6, h7, h8⟩
        · rw [h5, h6, strLt_irrefl]; simp
        · rw [h5, h6]; simp
        · rw [h5, h7]; simp
      · rw [h3, if_pos (by decide), h4]; simp
      · rw [h3, if_pos (by decide), h5]; simp [h6]
    · rw [if_pos (by rw [if_neg (by omega), if_pos h2]; decide), if_neg (by omega), if_pos h2]
      have h3 : ¬ t1 < t2 := by omega
      have h4 : ¬ t1 = t2 := by omega
      simp [h3, h4]
  · rw [if_pos (by rw [if_neg (by omega), if_pos h1]; decide), if_neg (by omega), if_pos h1]
    have h3 : ¬ a1 < a2 := by omega
    have h4 : ¬ a1 = a2 := by omega
    simp [h3, h4]
theorem S_compare_int {x y : Int} {Q : Int → Prop} (h : Q (if x < y then -1 else if x > y then 1 else 0)) : M_compare_int x y Q := by
  unfold M_compare_int M_isNaN_int
  simp only [bne_self_eq_false, cnd_false]
  refine cnd_of (fun e => ?_) (fun e => cnd_of (fun e2 => ?_) (fun e2 => ?_))
  · rw [if_pos (by simpa using e)] at h; exact h
  · rw [if_neg (by simpa using e), if_pos (by simpa using e2)] at h; exact h
  · rw [if_neg (by simpa using e), if_neg (by simpa using e2)] at h; exact h
theorem S_mount_side {p : Place} {Q : Int → Prop} (h : Q (sideP p)) : M_mount_side p Q := by
  unfold M_mount_side
  unfold sideP at h
  refine cnd_of (fun e => ?_) (fun e => ?_)
  · rw [if_pos e] at h; exact h
  · rw [if_neg (by simp [e])] at h; exact h
theorem ne_of_f {x : Int} (h : (x != 0) = false) : ¬ x ≠ 0 := by simpa using h
section
variable {b : List Body} {l : List Place}
theorem S_Ordered1 (hb : BodiesOk b) {i k : Int} (hi : Num l i) (hk : Num l k) {Q : Int → Prop} (h : ∀ c, decide (c < 0) = ltI b l i k → Q c) : M_Ordered1 i k b l Q := by
  unfold M_Ordered1
  refine ⟨hi.1, _, plc_get hi, S_mount_bodyOf hb ⟨hk.1, _, plc_get hk, S_mount_bodyOf hb (S_mount_side (S_mount_side (S_compare_int (S_compare_int ?_))))⟩⟩
  have h' := h (ord4 b (plc l i) (plc l k)) (ord4_lt b _ _)
  unfold M_or_int
  unfold ord4 tallB nozB at h'
  simp only at h'
  show forIn' _ _ _ 0 ()
  simp only [forIn', M_or_int_L1]
  refine cnd_of (fun e => ?_) (fun e => cnd_of (fun e2 => ?_) (fun e2 => cnd_of (fun e3 => ?_) (fun e3 => cnd_of (fun e4 => ?_) (fun e4 => ?_))))
  · rw [if_pos (bne_iff_ne.1 e)] at h'; exact h'
  · rw [if_neg (ne_of_f e), if_pos (bne_iff_ne.1 e2)] at h'; exact h'
  · rw [if_neg (ne_of_f e), if_neg (ne_of_f e2), if_pos (bne_iff_ne.1 e3)] at h'; exact h'
  · rw [if_neg (ne_of_f e), if_neg (ne_of_f e2), if_neg (ne_of_f e3)] at h'; exact h'
  · rw [if_neg (ne_of_f e), if_neg (ne_of_f e2), if_neg (ne_of_f e3)] at h'
    rw [show cmpStr (plc l i).Part (plc l k).Part = 0 by simpa using e4] at h'; exact h'
end
end Go.Proofs.YtcmlcgjjkccaeaaDoor

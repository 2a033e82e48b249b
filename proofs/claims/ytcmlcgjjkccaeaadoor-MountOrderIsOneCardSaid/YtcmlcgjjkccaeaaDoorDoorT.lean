/- Chapter texts of ours, as far as the claim needs them. -/
import Derived.Test.YtcmlcgjjkccaeaaDoorDoorS
import Derived.Test.YtcmlcgjjkccaeaaDoorDoorN
namespace Go.Proofs.YtcmlcgjjkccaeaaDoor
open Go Go.RowKit
set_option linter.unusedVariables false
set_option linter.unusedSimpArgs false
def IsP (n : Nat) (o : List Int) : Prop := o.Nodup ∧ ∀ x ∈ o, 0 ≤ x ∧ x < n
instance (n : Nat) (o : List Int) : Decidable (IsP n o) := by unfold IsP; infer_instance
theorem isP_take {n : Nat} {l : List Int} (h : IsP n l) (k : Nat) : IsP n (l.take k) := ⟨List.Nodup.sublist (List.take_sublist k l) h.1, fun x hx => h.2 x (List.mem_of_mem_take hx)⟩
theorem S_mount_isOrder {l : List Int} {n : Nat} (hn : n ≤ 100000) {Q : Bool → Prop} (h : Q (decide (IsP n l ∧ l.length = n))) : M_mount_isOrder l (n : Int) Q := by
  unfold M_mount_isOrder
  refine ⟨⟨Int.natCast_nonneg _, by omega⟩, ?_⟩
  refine forIn0 (fun k s => s.length = n ∧ IsP n (l.take k) ∧ ∀ i, i < n → s.getD i false = decide ((i : Int) ∈ l.take k)) ⟨by simp, ⟨by simp, fun x hx => by simp at hx⟩, fun i hi => by simp [List.getD_eq_getElem?_getD, List.getElem?_replicate]; split <;> rfl⟩ (fun k x s hx hI next hnx => ?_) (fun s hI => ?_)
  · obtain ⟨i1, i2, i3⟩ := hI
    have hk := lt_of_get hx
    have et : l.take (k + 1) = l.take k ++ [x] := by rw [List.take_add_one, hx]; rfl
    have hw : within x 0 (w64 ((n : Int) - 1)) = decide (0 ≤ x ∧ x < n) := by
      rw [w64_id (by omega) (by omega)]; unfold within
      rw [Bool.eq_iff_iff]; simp; omega
    unfold M_mount_isOrder_L1 M_mount_isOrder_k2
    rw [hw]
    refine cnd_of (fun e => cnd_of (fun _ => ?_) (fun e => by cases e)) (fun e => ?_)
    · have : decide (IsP n l ∧ l.length = n) = false := by
        refine decide_eq_false (fun hh => ?_)
        have := hh.1.2 x (List.mem_of_getElem? hx)
        simp at e; omega
      rw [this] at h; exact h
    · have hx2 : 0 ≤ x ∧ x < n := by simpa using e
      have hxs : x.toNat < s.length := by omega
      refine ⟨hx2.1, s[x.toNat], List.getElem?_eq_getElem hxs, ?_⟩
      have h3 := i3 x.toNat (by omega)
      rw [List.getD_eq_getElem?_getD, List.getElem?_eq_getElem hxs] at h3
      have hxx : ((x.toNat : Nat) : Int) = x := by omega
      rw [hxx] at h3
      simp only [Option.getD_some] at h3
      refine cnd_of (fun e2 => ?_) (fun e2 => ⟨hx2.1, s[x.toNat], List.getElem?_eq_getElem hxs, hnx _ ⟨by simp [i1], ?_, fun i hi => ?_⟩⟩)
      · have : decide (IsP n l ∧ l.length = n) = false := by
          refine decide_eq_false (fun hh => ?_)
          have := (isP_take hh.1 (k + 1)).1
          rw [et, List.nodup_append] at this
          rw [e2] at h3
          exact this.2.2 x (by simpa using h3.symm) x (by simp) rfl
        rw [this] at h; exact h
      · rw [et]
        rw [e2] at h3
        have hnm : x ∉ l.take k := by simpa using h3.symm
        refine ⟨List.nodup_append.2 ⟨i2.1, by simp, fun a ha b hb => ?_⟩, fun a ha => ?_⟩
        · simp at hb; subst hb; intro hab; subst hab; exact hnm ha
        · rcases List.mem_append.1 ha with ha | ha
          · exact i2.2 a ha
          · simp at ha; subst ha; exact hx2
      · rw [et, List.getD_eq_getElem?_getD, List.getElem?_set]
        have h4 := i3 i hi
        rw [List.getD_eq_getElem?_getD] at h4
        by_cases hxi : x.toNat = i
        · subst hxi; rw [if_pos rfl, if_pos hxs, hxx]; simp
        · rw [if_neg hxi, h4]
          have : ¬ ((i : Int) = x) := by omega
          simp [this]
  · obtain ⟨i1, i2, i3⟩ := hI
    rw [List.take_length] at i2
    have : ((l.length : Int) == (n : Int)) = decide (IsP n l ∧ l.length = n) := by
      rw [Bool.eq_iff_iff]; simp [i2]; omega
    show Q _
    rw [this]; exact h
theorem S_ref10_IsOrder {l : List Int} {n : Nat} (hn : n ≤ 100000) {Q : Bool → Prop} (h : Q (decide (IsP n l ∧ l.length = n))) : M_ref10_IsOrder l (n : Int) Q := S_mount_isOrder hn h
section
variable {b : List Body} {l : List Place}
theorem ord_isP {o : List Int} (h : o.Perm ((List.range l.length).map (fun n : Nat => (n : Int)))) : IsP l.length o ∧ o.length = l.length := by
  refine ⟨⟨h.nodup_iff.2 ?_, fun x hx => ?_⟩, by rw [h.length_eq]; simp⟩
  · exact List.pairwise_map.2 (List.nodup_range.imp (fun {a b} hne e => hne (by omega)))
  · have := num_range (l := l) x (h.mem_iff.1 hx)
    exact ⟨this.1, this.2⟩
theorem S_equal_int {xs ys : List Int} {Q : Bool → Prop} (h : Q (decide (xs = ys))) : M_equal_int xs ys Q := by
  unfold M_equal_int
  refine cnd_of (fun e => ?_) (fun e => ?_)
  · have : xs ≠ ys := fun hh => by subst hh; simp at e
    rw [decide_eq_false this] at h; exact h
  · have hl : xs.length = ys.length := by have : (xs.length : Int) = (ys.length : Int) := by simpa using e
                                          omega
    refine forIn0 (fun k (_ : Unit) => xs.take k = ys.take k) (by simp) (fun k x s hx hI next hn => ?_) (fun s hI => ?_)
    · have hk := lt_of_get hx
      have hy : ys[k]? = some (ys[k]'(by omega)) := List.getElem?_eq_getElem _
      unfold M_equal_int_L1
      refine idx_nat hy (cnd_of (fun e2 => ?_) (fun e2 => hn _ ?_))
      · have : xs ≠ ys := fun hh => by
          subst hh; rw [hx] at hy; injection hy with hy
          simp [← hy] at e2
        rw [decide_eq_false this] at h; exact h
      · have e3 : x = ys[k]'(by omega) := by simpa using e2
        rw [List.take_add_one, List.take_add_one, hI, hx, hy, e3]
    · have : xs = ys := by rw [List.take_length, hl, List.take_length] at hI; exact hI
      rw [decide_eq_true this] at h; exact h
end
end Go.Proofs.YtcmlcgjjkccaeaaDoor

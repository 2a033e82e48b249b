/- Chapter texts of ours, as far as the claim needs them. -/
import Derived.Test.YtihjaehkdgdenaaGreatDoorRtI2
import Derived.Test.YtihjaehkdgdenaaGreatDoorRtG3
namespace Go.Proofs.YtihjaehkdgdenaaGreatDoor
open Go Go.RowKit
set_option linter.unusedVariables false
set_option linter.unusedSectionVars false
set_option linter.unusedSimpArgs false
theorem S_ref_checkWay {g : Grid} (hg : GOk g) {w : List Cell} {Q : Int → Prop} (h : Q (wayF g w)) : M_ref7_checkWay g w Q := by
  unfold M_ref7_checkWay
  unfold wayF at h
  refine cnd_of (fun e => ?_) (fun e => cnd_of (fun e2 => ?_) (fun e2 => ?_))
  · rw [if_pos (by simp at e; simp [e])] at h; exact h
  · rw [if_neg (by simp at e e2; omega), if_pos (by simp at e2; omega)] at h; exact h
  · have hl : w.length ≤ 40000 := by simp at e2; omega
    rw [if_neg (by simp at e; simp [e]), if_neg (by omega)] at h
    refine forIn_checkI (Q := Q) (wayBad g w) (fun k _ => True) trivial (fun k x m next hx hm hI hne h0 => ?_) (by
      by_cases e9 : firstBad (wayBad g w) w 0 = 0
      · rw [if_pos e9]; rw [e9] at h; exact fun _ _ => h
      · rw [if_neg e9]; exact h)
    unfold M_ref7_checkWay_L1
    have hlt := lt_of_get hx
    refine S_ref_isCell hg.sz ?_
    unfold wayBad at hne h0
    cases e6 : inG g x with
    | false => simp only [Bool.not_false, cnd_true]; rw [if_pos e6] at hne; exact hne (by decide)
    | true =>
      simp only [Bool.not_true, cnd_false]
      rw [if_neg (by simp [e6])] at hne h0
      refine S_contains_cell ?_
      refine cnd_of (fun e7 => ?_) (fun e7 => ?_)
      · rw [if_pos (by simpa using e7)] at hne; exact hne (by decide)
      · rw [if_neg (by simpa using e7)] at hne h0
        have fin : ¬ (0 < k ∧ axC (w.getD (k - 1) default) x = 0) → M_ref7_checkWay_k2 w Q k x (next ()) false := fun hn => by
          rw [if_neg hn] at hne h0
          unfold M_ref7_checkWay_k2
          simp only [cnd_false]
          refine ⟨⟨Int.le_refl _, by omega, by omega⟩, ?_⟩
          refine S_contains_cell ?_
          have hseg : seg w 0 (k : Int) = w.take k := by unfold seg; simp
          rw [hseg]
          refine cnd_of (fun e8 => ?_) (fun e8 => ?_)
          · rw [if_pos (by simpa using e8)] at hne; exact hne (by decide)
          · rw [if_neg (by simpa using e8)] at h0
            exact h0 rfl () trivial
        refine cnd_of (fun e8 => ?_) (fun e8 => ?_)
        · have hk : 0 < k := by simpa using e8
          refine prev_idx hx hk (by omega) ?_
          have hp := (wayBad_in (hI (k - 1) _ (by omega) (prev_get hx hk))).1
          refine S_along hg.sz hp e6 ?_
          by_cases e9 : axC (w.getD (k - 1) default) x = 0
          · rw [if_pos ⟨hk, e9⟩] at hne
            rw [e9]
            unfold M_ref7_checkWay_k2
            show cnd true _ _
            simp only [cnd_true]; exact hne (by decide)
          · rw [show (axC (w.getD (k - 1) default) x == 0) = false from beq_eq_false_iff_ne.2 e9]
            exact fin (fun hh => e9 hh.2)
        · have hk : ¬ 0 < k := by simpa using e8
          exact fin (fun hh => hk hh.1)
theorem S_ref_costOf {g : Grid} (hg : GOk g) {c : Costs} (hc : COk c) {w : List Cell} (hw : wayF g w = 0) {Q : Int → Prop} (h : Q (costW c w)) : M_ref7_costOf c w Q := by
  obtain ⟨hl, hne, hall⟩ := cells_of_way hw
  refine cost_loop hg hc hw (fun X n last k hX hQ hk hkl hn => ?_) h
  show M_ref7_costOf_L1 c w Q (fun n4 n5 n6 => X (n4, n5, n6)) n last k
  unfold M_ref7_costOf_L1
  refine cnd_of (fun e => ?_) (fun e => hQ (by simp at e; omega))
  have hlt : k < w.length := by simp at e; omega
  have hx : w[k]? = some w[k] := List.getElem?_eq_getElem hlt
  have hy : w[k - 1]? = some (w[k - 1]'(by omega)) := List.getElem?_eq_getElem (by omega)
  have gx := (wayBad_in (hall _ _ hx)).1
  have gy := (wayBad_in (hall _ _ hy)).1
  rw [show w64 ((k : Int) - 1) = ((k - 1 : Nat) : Int) by rw [w64_id] <;> omega, show w64 ((k : Int) + 1) = ((k + 1 : Nat) : Int) by rw [w64_id] <;> omega]
  refine idx_nat hy (idx_nat hx (S_along hg.sz gy gx (S_ref_stepCost ?_)))
  have hsc := stepC_le hc w[k].Layer last (axC (w[k - 1]'(by omega)) w[k])
  rw [w64_id (n := n + _) (by omega) (by omega)]
  have hgo := hX _ _ hk hx hy gx gy hn.1 hn.2
  rw [stepC_last] at hgo
  refine cnd_of (fun e2 => ?_) (fun e2 => ?_)
  · rw [if_neg (by simpa using e2)] at hgo; exact hgo
  · rw [if_pos (by simpa using e2)] at hgo; exact hgo
end Go.Proofs.YtihjaehkdgdenaaGreatDoor

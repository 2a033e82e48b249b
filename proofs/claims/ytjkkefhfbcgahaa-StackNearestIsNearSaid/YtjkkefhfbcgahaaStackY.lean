/- Chapter 4: the fewest sheets as the reference has them. -/
import Derived.Test.YtjkkefhfbcgahaaStackX
namespace Go.Proofs.Ytjkkefhfbcgahaa
open Go Go.RowKit
set_option linter.unusedVariables false

def tabF (M : Nat) (G : List Int) (i : Nat) : List (List Int) := (List.range (G.length + 1)).map (fun p => if i ≤ p then fewL M (G.drop p) else [])
def tabR (M : Nat) (G : List Int) (i : Nat) (now : List Int) : List (List Int) := (List.range (G.length + 1)).map (fun p => if p = i then now else if i ≤ p then fewL M (G.drop p) else [])
theorem tabF_get {M : Nat} {G : List Int} {i p : Nat} (hp : p ≤ G.length) : (tabF M G i)[p]? = some (if i ≤ p then fewL M (G.drop p) else []) := by
  unfold tabF; rw [List.getElem?_map, List.getElem?_range (by omega)]; rfl
theorem tabR_get {M : Nat} {G : List Int} {i p : Nat} {now : List Int} (hp : p ≤ G.length) : (tabR M G i now)[p]? = some (if p = i then now else if i ≤ p then fewL M (G.drop p) else []) := by
  unfold tabR; rw [List.getElem?_map, List.getElem?_range (by omega)]; rfl
theorem tabF_len (M : Nat) (G : List Int) (i : Nat) : (tabF M G i).length = G.length + 1 := by simp [tabF]
theorem tabR_len (M : Nat) (G : List Int) (i : Nat) (now : List Int) : (tabR M G i now).length = G.length + 1 := by simp [tabR]
theorem tabF_set {M : Nat} {G : List Int} {i : Nat} (hi : i ≤ G.length) (now : List Int) : (tabF M G (i + 1)).set i now = tabR M G i now := by
  refine List.ext_getElem? (fun p => ?_)
  rw [List.getElem?_set, tabF_len]
  by_cases hp : p ≤ G.length
  · rw [tabF_get hp, tabR_get hp]
    by_cases e : i = p
    · subst e; rw [if_pos rfl, if_pos (by omega), if_pos rfl]
    · rw [if_neg e, show (if p = i then now else if i ≤ p then fewL M (G.drop p) else []) = (if i ≤ p then fewL M (G.drop p) else []) from if_neg (fun hh => e hh.symm)]
      by_cases e2 : i ≤ p
      · rw [if_pos e2, if_pos (by omega)]
      · rw [if_neg e2, if_neg (by omega)]
  · rw [if_neg (by omega), List.getElem?_eq_none (by rw [tabF_len]; omega), List.getElem?_eq_none (by rw [tabR_len]; omega)]
theorem tabR_set {M : Nat} {G : List Int} {i : Nat} (hi : i ≤ G.length) (now now' : List Int) : (tabR M G i now).set i now' = tabR M G i now' := by
  refine List.ext_getElem? (fun p => ?_)
  rw [List.getElem?_set, tabR_len]
  by_cases hp : p ≤ G.length
  · rw [tabR_get hp, tabR_get hp]
    by_cases e : i = p
    · subst e; rw [if_pos rfl, if_pos (by omega), if_pos rfl]
    · rw [if_neg e, show (if p = i then now else if i ≤ p then fewL M (G.drop p) else []) = (if i ≤ p then fewL M (G.drop p) else []) from if_neg (fun hh => e hh.symm), show (if p = i then now' else if i ≤ p then fewL M (G.drop p) else []) = (if i ≤ p then fewL M (G.drop p) else []) from if_neg (fun hh => e hh.symm)]
  · rw [if_neg (by omega), List.getElem?_eq_none (by rw [tabR_len]; omega), List.getElem?_eq_none (by rw [tabR_len]; omega)]
theorem tabR_done (M : Nat) (G : List Int) (i : Nat) : tabR M G i (fewL M (G.drop i)) = tabF M G i := by
  unfold tabR tabF
  refine List.map_congr_left (fun p _ => ?_)
  by_cases e : p = i
  · subst e; rw [if_pos rfl, if_pos (Nat.le_refl _)]
  · rw [if_neg e]
theorem tabF_top (M : Nat) (G : List Int) : (List.replicate (G.length + 1) ([] : List Int)).set G.length [0] = tabF M G G.length := by
  refine List.ext_getElem? (fun p => ?_)
  rw [List.getElem?_set, List.length_replicate]
  by_cases hp : p ≤ G.length
  · rw [tabF_get hp]
    by_cases e : G.length = p
    · subst e; rw [if_pos rfl, if_pos (by omega), if_pos (Nat.le_refl _)]
      simp [fewL]
    · rw [if_neg e, if_neg (by omega), List.getElem?_replicate, if_pos (by omega)]
  · rw [if_neg (by omega), List.getElem?_eq_none (by simp; omega), List.getElem?_eq_none (by rw [tabF_len]; omega)]
theorem S_ref4_fewest {G : List Int} {M : Nat} (hG : GluesOk G) (hM : 1 ≤ M ∧ M ≤ 8) {Q : List (List Int) → Prop} (h : Q (tabF M G 0)) : M_ref4_fewest G (M : Int) Q := by
  unfold M_ref4_fewest
  have hc := hG.1
  have w1 : w64 ((G.length : Int) + 1) = ((G.length + 1 : Nat) : Int) := by rw [w64_id (by omega) (by omega)]; omega
  rw [w1]
  refine ⟨⟨by omega, by omega⟩, ?_⟩
  rw [Int.toNat_natCast]
  refine idx_nat (x := []) (by rw [List.getElem?_replicate, if_pos (by omega)]) ?_
  rw [tabF_top M G, w64_id (n := (G.length : Int) - 1) (by omega) (by omega)]
  refine lp_upto (fun j => (tabF M G (G.length - j), (G.length : Int) - 1 - (j : Int))) G.length (by simp) (fun X j hj hX => ?_) (fun X => ?_)
  · obtain ⟨i, hi⟩ : ∃ i, i + j + 1 = G.length := ⟨G.length - 1 - j, by omega⟩
    have hX : X (tabF M G (G.length - (j + 1)), (G.length : Int) - 1 - ((j + 1 : Nat) : Int)) := hX
    rw [show G.length - (j + 1) = i by omega, show (G.length : Int) - 1 - ((j + 1 : Nat) : Int) = (i : Int) - 1 by omega] at hX
    show M_ref4_fewest_L1 G (M : Int) Q (fun l2 n2 => X (l2, n2)) (tabF M G (G.length - j)) ((G.length : Int) - 1 - (j : Int))
    rw [show G.length - j = i + 1 by omega, show (G.length : Int) - 1 - (j : Int) = (i : Int) by omega]
    have hg : G[i]? = some (G[i]'(by omega)) := List.getElem?_eq_getElem (by omega)
    generalize hge : G[i]'(by omega) = g at hg
    have hgb := hG.2 g (List.mem_of_getElem? hg)
    have hfe : fewL M (G.drop i) = rowOf g.toNat M (fewL M (G.drop (i + 1))) := by rw [drop_glue hg]; rfl
    have hsz := few_size hG hM (i + 1)
    have hval : ∀ (k : Nat) (a : Int), (fewL M (G.drop (i + 1)))[k]? = some a → -1 ≤ a ∧ a ≤ 480 := fun k a ha => few_val hG hM ha
    have hmg := mul_le (j := M) hgb (by omega)
    have wi : w64 ((i : Int) + 1) = ((i + 1 : Nat) : Int) := by rw [w64_id (by omega) (by omega)]; omega
    unfold M_ref4_fewest_L1
    refine cnd_of (fun _ => ?_) (fun e => absurd (of_decide_eq_false e) (by omega))
    rw [wi]
    refine idx_nat (tabF_get (by omega)) ?_
    rw [if_pos (Nat.le_refl _)]
    have hat : ∀ now, (tabR M G i now)[i + 1]? = some (fewL M (G.drop (i + 1))) := fun now => by rw [tabR_get (by omega), if_neg (by omega), if_pos (by omega)]
    generalize fewL M (G.drop (i + 1)) = after at hfe hsz hval hat
    refine idx_nat hg ?_
    have w4 : w64 ((after.length : Int) + w64 ((M : Int) * g)) = ((after.length + M * g.toNat : Nat) : Int) := by
      rw [mul_nat hgb, w64_id (n := ((M * g.toNat : Nat) : Int)) (by omega) (by omega), w64_id (by omega) (by omega)]; omega
    rw [w4]
    refine ⟨⟨by omega, by omega⟩, ?_⟩
    refine idx_nat (tabF_get (by omega)) ?_
    rw [Int.toNat_natCast, Int.toNat_natCast, tabF_set (by omega)]
    refine lp_upto (fun p => (tabR M G i (List.replicate p (-1) ++ List.replicate (after.length + M * g.toNat - p) 0), (p : Int))) (after.length + M * g.toNat) (by simp) (fun Y p hp hY => ?_) (fun Y => ?_)
    · have hY : Y (tabR M G i (List.replicate (p + 1) (-1) ++ List.replicate (after.length + M * g.toNat - (p + 1)) 0), ((p + 1 : Nat) : Int)) := hY
      show M_ref4_fewest_L2 (M : Int) (i : Int) _ after g (fun l4 n4 => Y (l4, n4)) _ (p : Int)
      unfold M_ref4_fewest_L2
      rw [w4, Int.toNat_natCast, List.length_replicate]
      refine cnd_of (fun _ => ?_) (fun e => absurd (of_decide_eq_false e) (by omega))
      refine idx_nat (tabR_get (by omega)) ?_
      rw [if_pos rfl]
      refine idx_nat (x := 0) (by rw [List.getElem?_append_right (by simp), List.length_replicate, List.getElem?_replicate, if_pos (by omega)]) ?_
      rw [Int.toNat_natCast, Int.toNat_natCast, w64_id (n := (p : Int) + 1) (by omega) (by omega), show (p : Int) + 1 = ((p + 1 : Nat) : Int) by omega, tabR_set (by omega)]
      have hset : (List.replicate p (-1 : Int) ++ List.replicate (after.length + M * g.toNat - p) 0).set p (-1) = List.replicate (p + 1) (-1 : Int) ++ List.replicate (after.length + M * g.toNat - (p + 1)) 0 := by
        rw [show after.length + M * g.toNat - p = (after.length + M * g.toNat - (p + 1)) + 1 by omega, List.replicate_succ (n := after.length + M * g.toNat - (p + 1))]
        rw [List.set_append_right _ _ (by simp)]
        simp [List.replicate_succ']
      rw [hset]; exact hY
    · show M_ref4_fewest_L2 (M : Int) (i : Int) _ after g (fun l4 n4 => Y (l4, n4)) _ ((after.length + M * g.toNat : Nat) : Int)
      unfold M_ref4_fewest_L2
      rw [w4, Int.toNat_natCast, List.length_replicate]
      refine cnd_of (fun e => absurd (of_decide_eq_true e) (by omega)) (fun _ => ?_)
      rw [wi]
      refine idx_nat (hat _) ?_
      refine forIn0 (fun k l6 => l6 = tabR M G i (rowUp g.toNat M after k)) (by simp [rowUp]) (fun k x l6 hx hI next hn => ?_) (fun l6 hI => ?_)
      · have hk := lt_of_get hx
        have hxa : after.getD k 0 = x := by rw [List.getD_eq_getElem?_getD, hx]; rfl
        have hX2 := hn _ rfl
        rw [rowUp, hxa] at hX2
        have hxv := hval k x hx
        unfold M_ref4_fewest_L3
        by_cases hneg : x < 0
        · rw [if_pos hneg, ← hI] at hX2
          refine lp_upto (fun _ => (l6, 1)) 0 rfl (fun _ _ hm => absurd hm (by omega)) (fun Z => ?_)
          show M_ref4_fewest_L4 (M : Int) (i : Int) g k x next (fun l8 n6 => Z (l8, n6)) l6 1
          unfold M_ref4_fewest_L4 M_ref4_fewest_k5
          exact cnd_of (fun e => absurd (of_decide_eq_true e) (by omega)) (fun _ => cnd_of (fun e => by cases e) (fun _ => hX2))
        rw [if_neg hneg] at hX2
        subst hI
        refine lp_upto (fun j => (tabR M G i (cellsTo g.toNat k x (rowUp g.toNat M after k) j), ((j + 1 : Nat) : Int))) M rfl (fun Z j hj hZ => ?_) (fun Z => ?_)
        · have hZ : Z (tabR M G i (cellsTo g.toNat k x (rowUp g.toNat M after k) (j + 1)), ((j + 1 + 1 : Nat) : Int)) := hZ
          show M_ref4_fewest_L4 (M : Int) (i : Int) g k x next (fun l8 n6 => Z (l8, n6)) _ ((j + 1 : Nat) : Int)
          unfold M_ref4_fewest_L4 M_ref4_fewest_k5 M_ref4_fewest_k6
          refine cnd_of (fun _ => ?_) (fun e => absurd (of_decide_eq_false e) (by omega))
          refine cnd_of (fun _ => ?_) (fun e => absurd (of_decide_eq_false e) (by omega))
          have hjg := mul_le (j := j + 1) hgb (by omega)
          have hjm : (j + 1) * g.toNat ≤ M * g.toNat := Nat.mul_le_mul_right _ (by omega)
          have w6 : w64 ((k : Int) + w64 (((j + 1 : Nat) : Int) * g)) = ((k + (j + 1) * g.toNat : Nat) : Int) := by
            rw [mul_nat hgb, w64_id (n := (((j + 1) * g.toNat : Nat) : Int)) (by omega) (by omega), w64_id (by omega) (by omega)]; omega
          rw [w6, wi]
          have hlen : (cellsTo g.toNat k x (rowUp g.toNat M after k) j).length = after.length + M * g.toNat := by rw [cellsTo_len, rowUp_len]
          have hlt : k + (j + 1) * g.toNat < (cellsTo g.toNat k x (rowUp g.toNat M after k) j).length := by rw [hlen]; omega
          have hcell := get_getD hlt
          rw [cellsTo] at hZ
          unfold cellStep at hZ
          generalize cellsTo g.toNat k x (rowUp g.toNat M after k) j = now at hZ hlen hlt hcell ⊢
          refine idx_nat (tabR_get (by omega)) ?_
          rw [if_pos rfl]
          refine idx_nat hcell ?_
          rw [w64_id (n := x + ((j + 1 : Nat) : Int)) (by omega) (by omega), Int.toNat_natCast, Int.toNat_natCast, Int.toNat_natCast, w64_id (n := ((j + 1 : Nat) : Int) + 1) (by omega) (by omega), show ((j + 1 : Nat) : Int) + 1 = ((j + 1 + 1 : Nat) : Int) by omega]
          have put : (now.getD (k + (j + 1) * g.toNat) 0 < 0 ∨ x + ((j + 1 : Nat) : Int) < now.getD (k + (j + 1) * g.toNat) 0) → idx (tabR M G i now) (i : Int) (fun x8 => idx x8 ((k + (j + 1) * g.toNat : Nat) : Int) (fun x9 => must (i ≠ i + 1) (Z ((tabR M G i now).set i (x8.set (k + (j + 1) * g.toNat) (x + ((j + 1 : Nat) : Int))), ((j + 1 + 1 : Nat) : Int))))) := fun hc => by
            rw [if_pos hc] at hZ
            refine idx_nat (tabR_get (by omega)) ?_
            rw [if_pos rfl]
            refine idx_nat hcell ⟨by omega, ?_⟩
            rw [tabR_set (by omega)]; exact hZ
          refine cnd_of (fun e1 => cnd_of (fun _ => put (.inl (of_decide_eq_true e1))) (fun e => by cases e)) (fun e1 => cnd_of (fun e2 => put (.inr (of_decide_eq_true e2))) (fun e2 => ?_))
          rw [if_neg (fun hh => by
            rcases hh with hh | hh
            · exact (of_decide_eq_false e1) hh
            · exact (of_decide_eq_false e2) hh)] at hZ
          exact hZ
        · show M_ref4_fewest_L4 (M : Int) (i : Int) g k x next (fun l8 n6 => Z (l8, n6)) _ ((M + 1 : Nat) : Int)
          unfold M_ref4_fewest_L4 M_ref4_fewest_k5
          exact cnd_of (fun _ => cnd_of (fun e => absurd (of_decide_eq_true e) (by omega)) (fun _ => hX2)) (fun _ => cnd_of (fun e => by cases e) (fun _ => hX2))
      · subst hI
        rw [w64_id (n := (i : Int) - 1) (by omega) (by omega)]
        have hd := tabR_done M G i
        rw [hfe] at hd
        unfold rowOf at hd
        rw [hd]; exact hX
  · show M_ref4_fewest_L1 G (M : Int) Q (fun l2 n2 => X (l2, n2)) (tabF M G (G.length - G.length)) ((G.length : Int) - 1 - (G.length : Int))
    unfold M_ref4_fewest_L1
    rw [Nat.sub_self]
    exact cnd_of (fun e => absurd (of_decide_eq_true e) (by omega)) (fun _ => h)
end Go.Proofs.Ytjkkefhfbcgahaa

/- Chapter 4: the fewest sheets: what the programs compute. -/
import Derived.Test.YtjkkefhfbcgahaaStackV
namespace Go.Proofs.Ytjkkefhfbcgahaa
open Go Go.RowKit
set_option linter.unusedVariables false

theorem c16 {n : Int} (h1 : -32768 ≤ n) (h2 : n ≤ 32767) : cvt .i16 n = n := by
  have e : IntKind.i16.wrap n = (n + 32768) % 65536 - 32768 := by simp [IntKind.wrap, IntKind.bits, IntKind.signed]; split <;> omega
  show IntKind.i16.wrap n = n
  rw [e]; omega
theorem get_getD {l : List Int} {t : Nat} (h : t < l.length) : l[t]? = some (l.getD t 0) := by rw [List.getD_eq_getElem?_getD, List.getElem?_eq_getElem h]; rfl
def GluesOk (G : List Int) : Prop := G.length ≤ 60 ∧ ∀ g ∈ G, 1 ≤ g ∧ g ≤ 2000
def rowI (M : Nat) (G : List Int) (i : Nat) : List I16 := (fewL M (G.drop i)).map I16.mk
def tabI (M : Nat) (G : List Int) (i : Nat) : List (List I16) := (List.range (G.length + 1)).map (fun p => if i ≤ p then rowI M G p else [])
theorem tabI_get {M : Nat} {G : List Int} {i p : Nat} (hp : p ≤ G.length) : (tabI M G i)[p]? = some (if i ≤ p then rowI M G p else []) := by
  unfold tabI; rw [List.getElem?_map, List.getElem?_range (by omega)]; rfl
theorem tabI_len (M : Nat) (G : List Int) (i : Nat) : (tabI M G i).length = G.length + 1 := by simp [tabI]
theorem tabI_set {M : Nat} {G : List Int} {i : Nat} (hi : i ≤ G.length) : (tabI M G (i + 1)).set i (rowI M G i) = tabI M G i := by
  refine List.ext_getElem? (fun p => ?_)
  rw [List.getElem?_set, tabI_len]
  by_cases hp : p ≤ G.length
  · rw [tabI_get hp, tabI_get hp]
    by_cases e : i = p
    · subst e; rw [if_pos rfl, if_pos (by omega), if_pos (Nat.le_refl _)]
    · rw [if_neg e]
      by_cases e2 : i ≤ p
      · rw [if_pos e2, if_pos (by omega)]
      · rw [if_neg e2, if_neg (by omega)]
  · rw [if_neg (by omega), List.getElem?_eq_none (by rw [tabI_len]; omega), List.getElem?_eq_none (by rw [tabI_len]; omega)]
theorem tabI_top (M : Nat) (G : List Int) : (List.replicate (G.length + 1) ([] : List I16)).set G.length [(⟨0⟩ : I16)] = tabI M G G.length := by
  refine List.ext_getElem? (fun p => ?_)
  rw [List.getElem?_set, List.length_replicate]
  by_cases hp : p ≤ G.length
  · rw [tabI_get hp]
    by_cases e : G.length = p
    · subst e; rw [if_pos rfl, if_pos (by omega), if_pos (Nat.le_refl _)]
      simp [rowI, fewL]
    · rw [if_neg e, if_neg (by omega), List.getElem?_replicate, if_pos (by omega)]
  · rw [if_neg (by omega), List.getElem?_eq_none (by simp; omega), List.getElem?_eq_none (by rw [tabI_len]; omega)]
theorem drop_glue {G : List Int} {i : Nat} {g : Int} (hg : G[i]? = some g) : G.drop i = g :: G.drop (i + 1) := rows_drop_get G i g hg
theorem few_size {M : Nat} {G : List Int} (hG : GluesOk G) (hM : 1 ≤ M ∧ M ≤ 8) (i : Nat) : (fewL M (G.drop i)).length ≤ 960001 := by
  have h1 := few_len (M := M) (G.drop i) (fun x hx => hG.2 x (List.mem_of_mem_drop hx))
  have h2 : M * 2000 * (G.drop i).length ≤ (8 * 2000) * 60 := Nat.mul_le_mul (Nat.mul_le_mul_right _ hM.2) (by rw [List.length_drop]; have := hG.1; omega)
  omega
theorem few_val {M : Nat} {G : List Int} (hG : GluesOk G) (hM : 1 ≤ M ∧ M ≤ 8) {i t : Nat} {v : Int} (h : (fewL M (G.drop i))[t]? = some v) : -1 ≤ v ∧ v ≤ 480 := by
  have h1 := few_range _ _ _ h
  have h2 : M * (G.drop i).length ≤ 8 * 60 := Nat.mul_le_mul hM.2 (by rw [List.length_drop]; have := hG.1; omega)
  omega
/-- the states within a row -/
theorem up_val {g M : Nat} {after : List Int} (ha : ∀ (k : Nat) (a : Int), after[k]? = some a → a ≤ 480) (hM : M ≤ 8) {k j : Nat} (hk : k ≤ after.length) {t : Nat} {v : Int} (hj : j = 0 ∨ (k < after.length ∧ j ≤ M ∧ 0 ≤ after.getD k 0)) (h : (cellsTo g k (after.getD k 0) (rowUp g M after k) j)[t]? = some v) : -1 ≤ v ∧ v ≤ 488 := by
  have hgood : ∃ S, GoodRow g M after S (cellsTo g k (after.getD k 0) (rowUp g M after k) j) := by
    rcases hj with e | ⟨e1, e2, e3⟩
    · subst e; exact ⟨_, good_up k hk⟩
    · exact ⟨_, good_cells (good_up k hk) (by rw [List.getD_eq_getElem?_getD, List.getElem?_eq_getElem e1]; rfl) e3 j e2⟩
  obtain ⟨S, hS⟩ := hgood
  rcases hS.from_ t v h with e | ⟨k', n, a, h1, h2, h3, h4, _, h5⟩
  · omega
  · have := ha k' a h3; omega
theorem mul_nat {M : Nat} {g : Int} (hg : 1 ≤ g ∧ g ≤ 2000) : (M : Int) * g = ((M * g.toNat : Nat) : Int) := by
  rw [Int.natCast_mul]; congr 1; omega
theorem mul_le {j : Nat} {g : Int} (hg : 1 ≤ g ∧ g ≤ 2000) (hj : j ≤ 9) : j * g.toNat ≤ 18000 := by
  have : j * g.toNat ≤ 9 * 2000 := Nat.mul_le_mul hj (by omega)
  omega
theorem S_stack_fewest {G : List Int} {M : Nat} (hG : GluesOk G) (hM : 1 ≤ M ∧ M ≤ 8) {Q : List (List I16) → Prop} (h : Q (tabI M G 0)) : M_stack_fewest G (M : Int) Q := by
  unfold M_stack_fewest
  have hc := hG.1
  have w1 : w64 ((G.length : Int) + 1) = ((G.length + 1 : Nat) : Int) := by rw [w64_id (by omega) (by omega)]; omega
  rw [w1]
  refine ⟨⟨by omega, by omega⟩, ?_⟩
  rw [Int.toNat_natCast]
  refine idx_nat (x := []) (by rw [List.getElem?_replicate, if_pos (by omega)]) ?_
  rw [tabI_top M G, w64_id (n := (G.length : Int) - 1) (by omega) (by omega)]
  refine lp_upto (fun j => (tabI M G (G.length - j), (G.length : Int) - 1 - (j : Int))) G.length (by simp) (fun X j hj hX => ?_) (fun X => ?_)
  · obtain ⟨i, hi⟩ : ∃ i, i + j + 1 = G.length := ⟨G.length - 1 - j, by omega⟩
    have hX : X (tabI M G (G.length - (j + 1)), (G.length : Int) - 1 - ((j + 1 : Nat) : Int)) := hX
    rw [show G.length - (j + 1) = i by omega, show (G.length : Int) - 1 - ((j + 1 : Nat) : Int) = (i : Int) - 1 by omega] at hX
    show M_stack_fewest_L1 G (M : Int) Q (fun l2 n2 => X (l2, n2)) (tabI M G (G.length - j)) ((G.length : Int) - 1 - (j : Int))
    rw [show G.length - j = i + 1 by omega, show (G.length : Int) - 1 - (j : Int) = (i : Int) by omega]
    have hg : G[i]? = some (G[i]'(by omega)) := List.getElem?_eq_getElem (by omega)
    generalize hge : G[i]'(by omega) = g at hg
    have hgb := hG.2 g (List.mem_of_getElem? hg)
    have hfe : fewL M (G.drop i) = rowOf g.toNat M (fewL M (G.drop (i + 1))) := by rw [drop_glue hg]; rfl
    have hsz := few_size hG hM (i + 1)
    have hval : ∀ (k : Nat) (a : Int), (fewL M (G.drop (i + 1)))[k]? = some a → a ≤ 480 := fun k a ha => (few_val hG hM ha).2
    have hval0 : ∀ (k : Nat) (a : Int), (fewL M (G.drop (i + 1)))[k]? = some a → -1 ≤ a := fun k a ha => (few_val hG hM ha).1
    have hrow : rowI M G i = (rowOf g.toNat M (fewL M (G.drop (i + 1)))).map I16.mk := by unfold rowI; rw [hfe]
    have hrow1 : rowI M G (i + 1) = (fewL M (G.drop (i + 1))).map I16.mk := rfl
    have hmg := mul_le (j := M) hgb (by omega)
    unfold M_stack_fewest_L1
    refine cnd_of (fun _ => ?_) (fun e => absurd (of_decide_eq_false e) (by omega))
    rw [w64_id (n := (i : Int) + 1) (by omega) (by omega), show (i : Int) + 1 = ((i + 1 : Nat) : Int) by omega]
    refine idx_nat (tabI_get (by omega)) ?_
    rw [if_pos (Nat.le_refl _), hrow1]
    generalize fewL M (G.drop (i + 1)) = after at hfe hsz hval hval0 hrow
    refine idx_nat hg ?_
    have w4 : w64 (((after.map I16.mk).length : Int) + w64 ((M : Int) * g)) = ((after.length + M * g.toNat : Nat) : Int) := by
      rw [List.length_map, mul_nat hgb, w64_id (n := ((M * g.toNat : Nat) : Int)) (by omega) (by omega), w64_id (by omega) (by omega)]; omega
    rw [w4]
    refine ⟨⟨by omega, by omega⟩, ?_⟩
    rw [Int.toNat_natCast]
    refine lp_upto (fun p => (List.replicate p (⟨-1⟩ : I16) ++ List.replicate (after.length + M * g.toNat - p) (⟨0⟩ : I16), (p : Int))) (after.length + M * g.toNat) (by simp) (fun Y p hp hY => ?_) (fun Y => ?_)
    · have hY : Y (List.replicate (p + 1) (⟨-1⟩ : I16) ++ List.replicate (after.length + M * g.toNat - (p + 1)) (⟨0⟩ : I16), ((p + 1 : Nat) : Int)) := hY
      show M_stack_fewest_L2 (M : Int) _ _ _ _ g (fun l4 n4 => Y (l4, n4)) _ (p : Int)
      unfold M_stack_fewest_L2
      rw [w4, Int.toNat_natCast, List.length_replicate]
      refine cnd_of (fun _ => ?_) (fun e => absurd (of_decide_eq_false e) (by omega))
      refine idx_nat (x := ⟨0⟩) (by rw [List.getElem?_append_right (by simp), List.length_replicate, List.getElem?_replicate, if_pos (by omega)]) ?_
      rw [Int.toNat_natCast, w64_id (n := (p : Int) + 1) (by omega) (by omega), show (p : Int) + 1 = ((p + 1 : Nat) : Int) by omega]
      have hset : (List.replicate p (⟨-1⟩ : I16) ++ List.replicate (after.length + M * g.toNat - p) (⟨0⟩ : I16)).set p ⟨-1⟩ = List.replicate (p + 1) (⟨-1⟩ : I16) ++ List.replicate (after.length + M * g.toNat - (p + 1)) (⟨0⟩ : I16) := by
        rw [show after.length + M * g.toNat - p = (after.length + M * g.toNat - (p + 1)) + 1 by omega, List.replicate_succ (n := after.length + M * g.toNat - (p + 1))]
        rw [List.set_append_right _ _ (by simp)]
        simp [List.replicate_succ']
      rw [hset]; exact hY
    · show M_stack_fewest_L2 (M : Int) _ _ _ _ g (fun l4 n4 => Y (l4, n4)) _ ((after.length + M * g.toNat : Nat) : Int)
      unfold M_stack_fewest_L2
      rw [w4, Int.toNat_natCast, List.length_replicate]
      refine cnd_of (fun e => absurd (of_decide_eq_true e) (by omega)) (fun _ => ?_)
      refine forIn0 (fun k l6 => l6 = (rowUp g.toNat M after k).map I16.mk) (by simp [rowUp]) (fun k x l6 hx hI next hn => ?_) (fun l6 hI => ?_)
      · have hk := lt_of_get hx
        rw [List.length_map] at hk
        have hxa : x = ⟨after.getD k 0⟩ := by
          rw [List.getElem?_map, List.getElem?_eq_getElem hk] at hx
          simp at hx
          rw [← hx, List.getD_eq_getElem?_getD, List.getElem?_eq_getElem hk]; rfl
        subst hxa
        have hX2 := hn _ rfl
        rw [rowUp] at hX2
        unfold M_stack_fewest_L3
        refine cnd_of (fun e => ?_) (fun e => ?_)
        · rw [if_pos (of_decide_eq_true e), ← hI] at hX2; exact hX2
        have ha0 : 0 ≤ after.getD k 0 := by have := of_decide_eq_false e; simp only at this; omega
        have ha480 : after.getD k 0 ≤ 480 := hval k _ (by rw [List.getD_eq_getElem?_getD, List.getElem?_eq_getElem hk]; rfl)
        rw [if_neg (by omega)] at hX2
        subst hI
        refine lp_upto (fun j => ((cellsTo g.toNat k (after.getD k 0) (rowUp g.toNat M after k) j).map I16.mk, ((j + 1 : Nat) : Int))) M rfl (fun Z j hj hZ => ?_) (fun Z => ?_)
        · have hZ : Z ((cellsTo g.toNat k (after.getD k 0) (rowUp g.toNat M after k) (j + 1)).map I16.mk, ((j + 1 + 1 : Nat) : Int)) := hZ
          show M_stack_fewest_L4 (M : Int) g k _ _ (fun l8 n6 => Z (l8, n6)) _ ((j + 1 : Nat) : Int)
          unfold M_stack_fewest_L4 M_stack_fewest_k5
          refine cnd_of (fun _ => ?_) (fun e => absurd (of_decide_eq_false e) (by omega))
          have hjg := mul_le (j := j + 1) hgb (by omega)
          have hjm : (j + 1) * g.toNat ≤ M * g.toNat := Nat.mul_le_mul_right _ (by omega)
          have w6 : w64 ((k : Int) + w64 (((j + 1 : Nat) : Int) * g)) = ((k + (j + 1) * g.toNat : Nat) : Int) := by
            rw [mul_nat hgb, w64_id (n := (((j + 1) * g.toNat : Nat) : Int)) (by omega) (by omega), w64_id (by omega) (by omega)]; omega
          rw [w6]
          have hlen : (cellsTo g.toNat k (after.getD k 0) (rowUp g.toNat M after k) j).length = after.length + M * g.toNat := by rw [cellsTo_len, rowUp_len]
          have hlt : k + (j + 1) * g.toNat < (cellsTo g.toNat k (after.getD k 0) (rowUp g.toNat M after k) j).length := by rw [hlen]; omega
          have hcell : (cellsTo g.toNat k (after.getD k 0) (rowUp g.toNat M after k) j)[k + (j + 1) * g.toNat]? = some ((cellsTo g.toNat k (after.getD k 0) (rowUp g.toNat M after k) j).getD (k + (j + 1) * g.toNat) 0) := get_getD hlt
          refine idx_nat (x := ⟨(cellsTo g.toNat k (after.getD k 0) (rowUp g.toNat M after k) j).getD (k + (j + 1) * g.toNat) 0⟩) (by rw [List.getElem?_map, hcell]; rfl) ?_
          rw [c16 (n := ((j + 1 : Nat) : Int)) (by omega) (by omega), c16 (n := after.getD k 0 + ((j + 1 : Nat) : Int)) (by omega) (by omega), Int.toNat_natCast, w64_id (n := ((j + 1 : Nat) : Int) + 1) (by omega) (by omega), show ((j + 1 : Nat) : Int) + 1 = ((j + 1 + 1 : Nat) : Int) by omega]
          rw [cellsTo] at hZ
          unfold cellStep at hZ
          have put : ((cellsTo g.toNat k (after.getD k 0) (rowUp g.toNat M after k) j).map I16.mk).set (k + (j + 1) * g.toNat) ⟨after.getD k 0 + ((j + 1 : Nat) : Int)⟩ = ((cellsTo g.toNat k (after.getD k 0) (rowUp g.toNat M after k) j).set (k + (j + 1) * g.toNat) (after.getD k 0 + ((j + 1 : Nat) : Int))).map I16.mk := by rw [List.map_set]
          rw [put]
          refine cnd_of (fun e1 => cnd_of (fun _ => ?_) (fun e => by cases e)) (fun e1 => cnd_of (fun e2 => ?_) (fun e2 => ?_))
          · rw [if_pos (.inl (of_decide_eq_true e1))] at hZ; exact hZ
          · rw [if_pos (.inr (of_decide_eq_true e2))] at hZ; exact hZ
          · rw [if_neg (fun hh => by
              rcases hh with hh | hh
              · exact (of_decide_eq_false e1) hh
              · exact (of_decide_eq_false e2) hh)] at hZ
            exact hZ
        · show M_stack_fewest_L4 (M : Int) g k _ _ (fun l8 n6 => Z (l8, n6)) _ ((M + 1 : Nat) : Int)
          unfold M_stack_fewest_L4
          exact cnd_of (fun e => absurd (of_decide_eq_true e) (by omega)) (fun _ => hX2)
      · subst hI
        rw [List.length_map]
        refine idx_nat (tabI_get (by omega)) ?_
        rw [Int.toNat_natCast, w64_id (n := (i : Int) - 1) (by omega) (by omega)]
        have hset := tabI_set (M := M) (G := G) (i := i) (by omega)
        rw [hrow] at hset
        unfold rowOf at hset
        rw [hset]; exact hX
  · show M_stack_fewest_L1 G (M : Int) Q (fun l2 n2 => X (l2, n2)) (tabI M G (G.length - G.length)) ((G.length : Int) - 1 - (G.length : Int))
    unfold M_stack_fewest_L1
    rw [Nat.sub_self]
    exact cnd_of (fun e => absurd (of_decide_eq_true e) (by omega)) (fun _ => h)
end Go.Proofs.Ytjkkefhfbcgahaa

/- Chapter texts of ours, as far as the claim needs them. -/
import Derived.Test.YtcmlcgjjkccaeaaDoorDoorP
import Derived.Test.YtcmlcgjjkccaeaaDoorFind
namespace Go.Proofs.YtcmlcgjjkccaeaaDoor
open Go Go.RowKit
set_option linter.unusedVariables false
set_option linter.unusedSimpArgs false
section
variable {b : List Body} {l : List Place}
theorem lt_of_le_lt {P : Int → Prop} {lt : Int → Int → Bool} (hlo : Lo lt P) {u v x : Int} (hu : P u) (hv : P v) (hx : P x) (h1 : lt v u = false) (h2 : lt v x = true) : lt u x = true := by
  cases h : lt u x
  · have := hlo.tra x u v hx hu hv h h1
    rw [this] at h2; cases h2
  · rfl
theorem lt_of_lt_le {P : Int → Prop} {lt : Int → Int → Bool} (hlo : Lo lt P) {x u v : Int} (hu : P u) (hv : P v) (hx : P x) (h2 : lt x u = true) (h1 : lt v u = false) : lt x v = true := by
  cases h : lt x v
  · have := hlo.tra u v x hu hv hx h1 h
    rw [this] at h2; cases h2
  · rfl
theorem merge_one (hb : BodiesOk b) {X B Z : List Int} {x : Int} (hbig : X.length + B.length + 1 ≤ 90000) (hN : ∀ y ∈ x :: B, Num l y) (hB : Srt (ltI b l) B) {Q : List Int → Prop} (h : ∀ C, C.Perm (x :: B) → Srt (ltI b l) C → Q (X ++ (C ++ Z))) :
    lp (fun again (s : Int × Int) => M_symMerge_L1 (X ++ (x :: (B ++ Z))) (X.length : Int) b l Q (fun n3 n4 => again (n3, n4)) s.1 s.2) (((X.length + 1 : Nat) : Int), ((X.length + 1 + B.length : Nat) : Int)) := by
  have hlo := lo_ltI b l (Num l)
  have hxN := hN x List.mem_cons_self
  have hNB : ∀ {t : Nat} {y : Int}, B[t]? = some y → Num l y := fun ht => hN _ (List.mem_cons_of_mem _ (List.mem_of_getElem? ht))
  refine lp_measN (fun m (s : Int × Int) => ∃ i j : Nat, i ≤ j ∧ j ≤ B.length ∧ s.1 = ((X.length + 1 + i : Nat) : Int) ∧ s.2 = ((X.length + 1 + j : Nat) : Int) ∧ (∀ (t : Nat) y, t < i → B[t]? = some y → ltI b l y x = true) ∧ (∀ (t : Nat) y, j ≤ t → B[t]? = some y → ltI b l y x = false) ∧ m = j - i) (n := B.length)
    ⟨0, B.length, Nat.zero_le _, Nat.le_refl _, rfl, rfl, fun t y ht => by omega, fun t y ht hy => by have := lt_of_get hy; omega, rfl⟩ ?_
  rintro m ⟨n3, n4⟩ F ⟨i, j, hij, hj, e1, e2, hlow, hhigh, hm⟩ hF
  simp only at e1 e2
  subst e1; subst e2
  show M_symMerge_L1 _ _ b l Q (fun n3 n4 => F (n3, n4)) _ _
  unfold M_symMerge_L1
  by_cases hlt : i < j
  · rw [decide_eq_true (show (((X.length + 1 + i : Nat) : Int) < ((X.length + 1 + j : Nat) : Int)) by omega)]
    simp only [cnd_true]
    rw [mid_eq (by omega)]
    have hmid : (X.length + 1 + i + (X.length + 1 + j)) / 2 = X.length + 1 + (i + j) / 2 := by omega
    rw [hmid]
    generalize hh : (i + j) / 2 = k
    have hk1 : i ≤ k := by omega
    have hk2 : k < j := by omega
    have hBk : B[k]? = some (B[k]'(by omega)) := List.getElem?_eq_getElem _
    generalize B[k]'(by omega) = y at hBk
    have hd : (X ++ (x :: (B ++ Z)))[X.length + 1 + k]? = some y := by
      rw [List.getElem?_append_right (by omega), show X.length + 1 + k - X.length = k + 1 by omega, List.getElem?_cons_succ, List.getElem?_append_left (by omega)]; exact hBk
    refine idx_nat hd (idx_at rfl rfl (S_Ordered1 hb (hNB hBk) hxN (fun c hc => ?_)))
    rw [hc]
    refine cnd_of (fun e => ?_) (fun e => ?_)
    · rw [w64_add1 (by omega)]
      refine hF (j - (k + 1)) _ (by omega) ⟨k + 1, j, by omega, hj, by simp only; omega, rfl, fun t z ht hz => ?_, hhigh, rfl⟩
      exact lt_of_le_lt hlo (hNB hz) (hNB hBk) hxN (hB.get hlo (fun y hy => hN y (List.mem_cons_of_mem _ hy)) hz hBk (by omega)) e
    · refine hF (k - i) _ (by omega) ⟨i, k, hk1, by omega, rfl, by simp only, hlow, fun t z ht hz => ?_, rfl⟩
      exact hlo.tra x y z hxN (hNB hBk) (hNB hz) e (hB.get hlo (fun y hy => hN y (List.mem_cons_of_mem _ hy)) hBk hz ht)
  · have hij2 : i = j := by omega
    subst hij2
    rw [decide_eq_false (show ¬ (((X.length + 1 + i : Nat) : Int) < ((X.length + 1 + i : Nat) : Int)) by omega)]
    simp only [cnd_false]
    refine lp_measN (fun m (s : List Int × Int) => ∃ B1 B2 : List Int, B = B1 ++ B2 ∧ B1.length ≤ i ∧ s.1 = X ++ ((B1 ++ x :: B2) ++ Z) ∧ s.2 = ((X.length + B1.length : Nat) : Int) ∧ m = i - B1.length) (n := i) ⟨[], B, rfl, Nat.zero_le _, by simp, by simp, rfl⟩ ?_
    rintro m ⟨l2, n6⟩ G ⟨B1, B2, hBe, hBl, e1, e2, hm⟩ hG
    simp only at e1 e2
    subst e1; subst e2
    show M_symMerge_L2 Q _ (fun l2 n6 => G (l2, n6)) _ _
    unfold M_symMerge_L2
    rw [w64_sub1 (by omega) (by omega)]
    by_cases hl2 : B1.length < i
    · rw [decide_eq_true (show (((X.length + B1.length : Nat) : Int) < ((X.length + 1 + i - 1 : Nat) : Int)) by omega)]
      simp only [cnd_true]
      have hBlen : B.length = B1.length + B2.length := by rw [hBe]; simp
      cases B2 with
      | nil => simp only [List.length_nil] at hBlen; omega
      | cons y B2 =>
        have h1 : X ++ ((B1 ++ x :: y :: B2) ++ Z) = (X ++ B1) ++ x :: (y :: (B2 ++ Z)) := by simp
        have h2 : X ++ ((B1 ++ x :: y :: B2) ++ Z) = (X ++ B1 ++ [x]) ++ y :: (B2 ++ Z) := by simp
        have i1 : ((X.length + B1.length : Nat) : Int) = (((X ++ B1).length : Nat) : Int) := by simp
        have i2 : w64 (((X.length + B1.length : Nat) : Int) + 1) = (((X ++ B1 ++ [x]).length : Nat) : Int) := by rw [w64_add1 (by omega)]; simp only [List.length_append, List.length_singleton]
        have i3 : (((X ++ B1 ++ [x]).length : Nat) : Int) = (((X ++ B1 ++ [y]).length : Nat) : Int) := by simp
        rw [i2]
        refine idx_at h2 rfl (idx_at h1 i1 ?_)
        rw [set_atI (u := y) h1 i1]
        have h3 : (X ++ B1) ++ y :: (y :: (B2 ++ Z)) = (X ++ B1 ++ [y]) ++ y :: (B2 ++ Z) := by simp
        refine idx_at h3 i3 ?_
        rw [set_atI (u := x) h3 i3]
        refine hG (i - (B1.length + 1)) _ (by omega) ⟨B1 ++ [y], B2, by rw [hBe]; simp, by simp; omega, by simp, by simp only [List.length_append, List.length_singleton]; omega, by simp⟩
    · rw [decide_eq_false (show ¬ (((X.length + B1.length : Nat) : Int) < ((X.length + 1 + i - 1 : Nat) : Int)) by omega)]
      simp only [cnd_false]
      have hBi : B1.length = i := by omega
      refine h _ ?_ ?_
      · rw [hBe]; exact List.perm_middle
      · have hs := Srt.append.1 (hBe ▸ hB)
        refine Srt.append.2 ⟨hs.1, List.pairwise_cons.2 ⟨fun y hy => ?_, hs.2.1⟩, fun y hy z hz => ?_⟩
        · obtain ⟨t, ht⟩ := List.getElem?_of_mem hy
          exact hhigh (i + t) y (by omega) (by rw [hBe, List.getElem?_append_right (by omega), show i + t - B1.length = t by omega]; exact ht)
        · rcases List.mem_cons.1 hz with hz | hz
          · subst hz
            obtain ⟨t, ht⟩ := List.getElem?_of_mem hy
            have htl := lt_of_get ht
            have hyB : B[t]? = some y := by rw [hBe, List.getElem?_append_left htl]; exact ht
            exact hlo.asy y z (hNB hyB) hxN (hlow t y (by omega) hyB)
          · exact hs.2.2 y hy z hz
theorem merge_last (hb : BodiesOk b) {X A Z : List Int} {x : Int} (hbig : X.length + A.length + 1 ≤ 90000) (hN : ∀ y ∈ x :: A, Num l y) (hA : Srt (ltI b l) A) {Q : List Int → Prop} (h : ∀ C, C.Perm (x :: A) → Srt (ltI b l) C → Q (X ++ (C ++ Z))) :
    lp (fun again (s : Int × Int) => M_symMerge_L3 (X ++ (A ++ (x :: Z))) ((X.length + A.length : Nat) : Int) b l Q (fun n9 n10 => again (n9, n10)) s.1 s.2) ((X.length : Int), ((X.length + A.length : Nat) : Int)) := by
  have hlo := lo_ltI b l (Num l)
  have hxN := hN x List.mem_cons_self
  have hNA : ∀ {t : Nat} {y : Int}, A[t]? = some y → Num l y := fun ht => hN _ (List.mem_cons_of_mem _ (List.mem_of_getElem? ht))
  refine lp_measN (fun m (s : Int × Int) => ∃ i j : Nat, i ≤ j ∧ j ≤ A.length ∧ s.1 = ((X.length + i : Nat) : Int) ∧ s.2 = ((X.length + j : Nat) : Int) ∧ (∀ (t : Nat) y, t < i → A[t]? = some y → ltI b l x y = false) ∧ (∀ (t : Nat) y, j ≤ t → A[t]? = some y → ltI b l x y = true) ∧ m = j - i) (n := A.length)
    ⟨0, A.length, Nat.zero_le _, Nat.le_refl _, rfl, rfl, fun t y ht => by omega, fun t y ht hy => by have := lt_of_get hy; omega, rfl⟩ ?_
  rintro m ⟨n9, n10⟩ F ⟨i, j, hij, hj, e1, e2, hlow, hhigh, hm⟩ hF
  simp only at e1 e2
  subst e1; subst e2
  show M_symMerge_L3 _ _ b l Q (fun n9 n10 => F (n9, n10)) _ _
  unfold M_symMerge_L3
  have hx : X ++ (A ++ x :: Z) = (X ++ A) ++ x :: Z := by simp
  by_cases hlt : i < j
  · rw [decide_eq_true (show (((X.length + i : Nat) : Int) < ((X.length + j : Nat) : Int)) by omega)]
    simp only [cnd_true]
    rw [mid_eq (by omega)]
    have hmid : (X.length + i + (X.length + j)) / 2 = X.length + (i + j) / 2 := by omega
    rw [hmid]
    generalize hh : (i + j) / 2 = k
    have hk1 : i ≤ k := by omega
    have hk2 : k < j := by omega
    have hAk : A[k]? = some (A[k]'(by omega)) := List.getElem?_eq_getElem _
    generalize A[k]'(by omega) = y at hAk
    have hd : (X ++ (A ++ x :: Z))[X.length + k]? = some y := by rw [get_mid (by omega)]; exact hAk
    refine idx_at hx (by simp) (idx_nat hd (S_Ordered1 hb hxN (hNA hAk) (fun c hc => ?_)))
    rw [hc]
    refine cnd_of (fun e => ?_) (fun e => ?_)
    · have e' : ltI b l x y = false := by simpa using e
      rw [w64_add1 (by omega)]
      refine hF (j - (k + 1)) _ (by omega) ⟨k + 1, j, by omega, hj, by simp only; omega, rfl, fun t z ht hz => ?_, hhigh, rfl⟩
      exact hlo.tra z y x (hNA hz) (hNA hAk) hxN (hA.get hlo (fun y hy => hN y (List.mem_cons_of_mem _ hy)) hz hAk (by omega)) e'
    · have e' : ltI b l x y = true := by simpa using e
      refine hF (k - i) _ (by omega) ⟨i, k, hk1, by omega, rfl, by simp only, hlow, fun t z ht hz => ?_, rfl⟩
      exact lt_of_lt_le hlo (hNA hAk) (hNA hz) hxN e' (hA.get hlo (fun y hy => hN y (List.mem_cons_of_mem _ hy)) hAk hz ht)
  · have hij2 : i = j := by omega
    subst hij2
    rw [decide_eq_false (show ¬ (((X.length + i : Nat) : Int) < ((X.length + i : Nat) : Int)) by omega)]
    simp only [cnd_false]
    refine lp_measN (fun m (s : List Int × Int) => ∃ A1 A2 : List Int, A = A1 ++ A2 ∧ i ≤ A1.length ∧ s.1 = X ++ ((A1 ++ x :: A2) ++ Z) ∧ s.2 = ((X.length + A1.length : Nat) : Int) ∧ m = A1.length) (n := A.length) ⟨A, [], by simp, by omega, by simp, by simp, rfl⟩ ?_
    rintro m ⟨l4, n12⟩ G ⟨A1, A2, hAe, hAl, e1, e2, hm⟩ hG
    simp only at e1 e2
    subst e1; subst e2
    show M_symMerge_L4 Q _ (fun l4 n12 => G (l4, n12)) _ _
    unfold M_symMerge_L4
    have hAlen : A.length = A1.length + A2.length := by rw [hAe]; simp
    by_cases hl2 : i < A1.length
    · rw [decide_eq_true (show (((X.length + A1.length : Nat) : Int) > ((X.length + i : Nat) : Int)) by omega)]
      simp only [cnd_true]
      rcases List.eq_nil_or_concat A1 with rfl | ⟨D, y, rfl⟩
      · simp at hl2
      · simp only [List.concat_eq_append] at hAe hAlen hl2 hAl hm ⊢
        have hDl : (D ++ [y]).length = D.length + 1 := by simp
        rw [hDl] at hAlen hl2 hAl hm ⊢
        have h1 : X ++ (((D ++ [y]) ++ x :: A2) ++ Z) = (X ++ D) ++ y :: (x :: (A2 ++ Z)) := by simp
        have h2 : X ++ (((D ++ [y]) ++ x :: A2) ++ Z) = (X ++ D ++ [y]) ++ x :: (A2 ++ Z) := by simp
        have i1 : w64 (((X.length + (D.length + 1) : Nat) : Int) - 1) = (((X ++ D).length : Nat) : Int) := by rw [w64_sub1 (by omega) (by omega)]; simp only [List.length_append]; omega
        have i2 : ((X.length + (D.length + 1) : Nat) : Int) = (((X ++ D ++ [y]).length : Nat) : Int) := by simp only [List.length_append, List.length_singleton]; omega
        rw [i1]
        refine idx_at h1 rfl (idx_at h2 i2 ?_)
        rw [set_atI (u := y) h2 i2]
        have h3 : (X ++ D ++ [y]) ++ y :: (A2 ++ Z) = (X ++ D) ++ y :: (y :: (A2 ++ Z)) := by simp
        refine idx_at h3 rfl ?_
        rw [set_atI (u := x) h3 rfl]
        exact hG D.length _ (by omega) ⟨D, y :: A2, by rw [hAe]; simp, by omega, by simp, by simp, rfl⟩
    · rw [decide_eq_false (show ¬ (((X.length + A1.length : Nat) : Int) > ((X.length + i : Nat) : Int)) by omega)]
      simp only [cnd_false]
      have hAi : A1.length = i := by omega
      refine h _ ?_ ?_
      · rw [hAe]; exact List.perm_middle
      · have hs := Srt.append.1 (hAe ▸ hA)
        refine Srt.append.2 ⟨hs.1, List.pairwise_cons.2 ⟨fun y hy => ?_, hs.2.1⟩, fun y hy z hz => ?_⟩
        · obtain ⟨t, ht⟩ := List.getElem?_of_mem hy
          have hyA : A[i + t]? = some y := by rw [hAe, List.getElem?_append_right (by omega), show i + t - A1.length = t by omega]; exact ht
          exact hlo.asy x y hxN (hNA hyA) (hhigh (i + t) y (by omega) hyA)
        · rcases List.mem_cons.1 hz with hz | hz
          · subst hz
            obtain ⟨t, ht⟩ := List.getElem?_of_mem hy
            have htl := lt_of_get ht
            exact hlow t y (by omega) (by rw [hAe, List.getElem?_append_left htl]; exact ht)
          · exact hs.2.2 y hy z hz
end
end Go.Proofs.YtcmlcgjjkccaeaaDoor

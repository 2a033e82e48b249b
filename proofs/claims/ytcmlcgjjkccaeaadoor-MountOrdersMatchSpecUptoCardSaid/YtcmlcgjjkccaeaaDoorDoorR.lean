/- Chapter texts of ours, as far as the claim needs them. -/
import Derived.Test.YtcmlcgjjkccaeaaDoorDoorQ
namespace Go.Proofs.YtcmlcgjjkccaeaaDoor
open Go Go.RowKit
set_option linter.unusedVariables false
set_option linter.unusedSimpArgs false
section
variable {b : List Body} {l : List Place}
theorem S_symMerge (hb : BodiesOk b) : ∀ (fuel : Nat) {X A B Z : List Int}, 0 < A.length → 0 < B.length → A.length + B.length ≤ fuel → X.length + A.length + B.length ≤ 80000 → (∀ x ∈ A ++ B, Num l x) → Srt (ltI b l) A → Srt (ltI b l) B →
    ∀ {Q : List Int → Prop}, (∀ C, C.Perm (A ++ B) → Srt (ltI b l) C → Q (X ++ (C ++ Z))) → N_symMerge fuel (X ++ (A ++ (B ++ Z))) (X.length : Int) ((X.length + A.length : Nat) : Int) ((X.length + A.length + B.length : Nat) : Int) b l Q := by
  have hlo := lo_ltI b l (Num l)
  intro fuel
  induction fuel with
  | zero => intro X A B Z hA0 hB0 hf; omega
  | succ fuel ih =>
    intro X A B Z hA0 hB0 hf hbig hN hA hB Q h
    show M_symMerge_B (N_symMerge fuel) _ _ _ _ b l Q
    unfold M_symMerge_B
    rw [w64_subN (by omega) (by omega), w64_subN (by omega) (by omega), show X.length + A.length - X.length = A.length by omega, show X.length + A.length + B.length - (X.length + A.length) = B.length by omega]
    have hNA : ∀ {t : Nat} {y : Int}, A[t]? = some y → Num l y := fun ht => hN _ (List.mem_append.2 (.inl (List.mem_of_getElem? ht)))
    have hNB : ∀ {t : Nat} {y : Int}, B[t]? = some y → Num l y := fun ht => hN _ (List.mem_append.2 (.inr (List.mem_of_getElem? ht)))
    refine cnd_of (fun e => ?_) (fun e => cnd_of (fun e2 => ?_) (fun e2 => ?_))
    · -- one number ahead
      have hA1 : A.length = 1 := by have : (A.length : Int) = 1 := by simpa using e
                                    omega
      obtain ⟨x, rfl⟩ := List.length_eq_one_iff.1 hA1
      have := merge_one hb (X := X) (B := B) (Z := Z) (x := x) (by simp only [List.length_singleton] at hbig; omega) hN hB h
      exact this
    · -- one number behind
      have hB1 : B.length = 1 := by have : (B.length : Int) = 1 := by simpa using e2
                                    omega
      obtain ⟨x, rfl⟩ := List.length_eq_one_iff.1 hB1
      exact merge_last hb (X := X) (A := A) (Z := Z) (x := x) (by simp only [List.length_singleton] at hbig; omega) (fun y hy => hN y (by rcases List.mem_cons.1 hy with h1 | h1 <;> simp [h1])) hA (fun C hp hs => h C (hp.trans (List.perm_append_comm (l₁ := [x]) (l₂ := A))) hs)
    · have hA2 : 2 ≤ A.length := by have : (A.length : Int) ≠ 1 := by simpa using e
                                    omega
      have hB2 : 2 ≤ B.length := by have : (B.length : Int) ≠ 1 := by simpa using e2
                                    omega
      rw [mid_eq (by omega)]
      obtain ⟨a, ha⟩ : ∃ a, a = X.length := ⟨_, rfl⟩
      obtain ⟨m, hm⟩ : ∃ m, m = X.length + A.length := ⟨_, rfl⟩
      obtain ⟨z, hz⟩ : ∃ z, z = X.length + A.length + B.length := ⟨_, rfl⟩
      obtain ⟨mid, hmid⟩ : ∃ mid, mid = (X.length + (X.length + A.length + B.length)) / 2 := ⟨_, rfl⟩
      -- what is done once the parts are found
      have fin : ∀ s : Nat, a ≤ s → s ≤ m → s ≤ mid → mid + m - s ≤ z → (∀ (i j : Nat) x y, i < s → A[i - a]? = some x → a ≤ i → mid + m - s ≤ j → B[j - m]? = some y → m ≤ j → ltI b l y x = false) → (∀ (i j : Nat) x y, s ≤ i → A[i - a]? = some x → m ≤ j → j < mid + m - s → B[j - m]? = some y → ltI b l x y = false) →
          cnd (decide ((s : Int) < (m : Int))) (M_symMerge_k11 (X ++ (A ++ (B ++ Z))) (a : Int) (m : Int) (z : Int) b l Q (N_symMerge fuel) (s : Int) (decide ((m : Int) < w64 ((w64 ((mid : Int) + (m : Int))) - (s : Int))))) (M_symMerge_k11 (X ++ (A ++ (B ++ Z))) (a : Int) (m : Int) (z : Int) b l Q (N_symMerge fuel) (s : Int) false) := by
        intro s hs1 hs2 hs3 hs4 hlow hhigh
        have eend : w64 ((w64 ((mid : Int) + (m : Int))) - (s : Int)) = ((mid + m - s : Nat) : Int) := by rw [w64_addN (by omega), w64_subN (by omega) (by omega)]
        have emid : cvt .i64 (shrI .u64 (cvt .u64 (w64 ((a : Int) + (z : Int)))) 1) = (mid : Int) := by rw [mid_eq (by omega)]; subst ha; subst hz; rw [← hmid]
        obtain ⟨en, hen⟩ : ∃ en, en = mid + m - s := ⟨_, rfl⟩
        rw [eend, ← hen]
        -- the four parts
        obtain ⟨A1, hA1⟩ : ∃ A1, A1 = A.take (s - a) := ⟨_, rfl⟩
        obtain ⟨A2, hA2'⟩ : ∃ A2, A2 = A.drop (s - a) := ⟨_, rfl⟩
        obtain ⟨B1, hB1⟩ : ∃ B1, B1 = B.take (en - m) := ⟨_, rfl⟩
        obtain ⟨B2, hB2'⟩ : ∃ B2, B2 = B.drop (en - m) := ⟨_, rfl⟩
        have hAe : A = A1 ++ A2 := by rw [hA1, hA2', List.take_append_drop]
        have hBe : B = B1 ++ B2 := by rw [hB1, hB2', List.take_append_drop]
        have lA1 : A1.length = s - a := by rw [hA1, List.length_take]; omega
        have lA2 : A2.length = m - s := by rw [hA2', List.length_drop]; omega
        have lB1 : B1.length = en - m := by rw [hB1, List.length_take]; omega
        have lB2 : B2.length = z - en := by rw [hB2', List.length_drop]; omega
        have sA := Srt.append.1 (hAe ▸ hA)
        have sB := Srt.append.1 (hBe ▸ hB)
        have g1 : ∀ x ∈ A1, ∀ y ∈ B2, ltI b l y x = false := fun x hx y hy => by
          obtain ⟨i, hi⟩ := List.getElem?_of_mem hx
          obtain ⟨j, hj⟩ := List.getElem?_of_mem hy
          have hil := lt_of_get hi
          have hjl := lt_of_get hj
          refine hlow (a + i) (en + j) x y (by omega) ?_ (by omega) (by omega) ?_ (by omega)
          · rw [show a + i - a = i by omega, hAe, List.getElem?_append_left hil]; exact hi
          · rw [hBe, List.getElem?_append_right (by omega), show en + j - m - B1.length = j by omega]; exact hj
        have g2 : ∀ x ∈ B1, ∀ y ∈ A2, ltI b l y x = false := fun x hx y hy => by
          obtain ⟨j, hj⟩ := List.getElem?_of_mem hx
          obtain ⟨i, hi⟩ := List.getElem?_of_mem hy
          have hil := lt_of_get hi
          have hjl := lt_of_get hj
          refine hhigh (s + i) (m + j) y x (by omega) ?_ (by omega) (by omega) ?_
          · rw [hAe, List.getElem?_append_right (by omega), show s + i - a - A1.length = i by omega]; exact hi
          · rw [show m + j - m = j by omega, hBe, List.getElem?_append_left hjl]; exact hj
        have hN1 : ∀ x ∈ A1 ++ B1, Num l x := fun x hx => hN x (by rw [hAe, hBe]; rcases List.mem_append.1 hx with h1 | h1 <;> simp [h1])
        have hN2 : ∀ x ∈ A2 ++ B2, Num l x := fun x hx => hN x (by rw [hAe, hBe]; rcases List.mem_append.1 hx with h1 | h1 <;> simp [h1])
        -- the last part
        have last : ∀ C1, C1.Perm (A1 ++ B1) → Srt (ltI b l) C1 → M_symMerge_k8 (a : Int) (m : Int) (z : Int) b l Q (N_symMerge fuel) (s : Int) (X ++ (C1 ++ (A2 ++ (B2 ++ Z)))) := fun C1 p1 s1 => by
          have lC1 : C1.length = mid - a := by rw [p1.length_eq, List.length_append]; omega
          have done : ∀ C2, C2.Perm (A2 ++ B2) → Srt (ltI b l) C2 → Q (X ++ (C1 ++ (C2 ++ Z))) := fun C2 p2 s2 => by
            obtain ⟨h1, h2⟩ := Srt.merge (hAe ▸ hA) (hBe ▸ hB) g1 g2 s1 s2 p1 p2
            have := h (C1 ++ C2) (by rw [hAe, hBe]; exact h2) h1
            rw [List.append_assoc] at this; exact this
          have stay : (A2 = [] ∨ B2 = []) → Q (X ++ (C1 ++ (A2 ++ (B2 ++ Z)))) := fun hh => by
            have := done (A2 ++ B2) (List.Perm.refl _) (by
              rcases hh with hh | hh
              · rw [hh, List.nil_append]; exact sB.2.1
              · rw [hh, List.append_nil]; exact sA.2.1)
            rw [List.append_assoc] at this; exact this
          unfold M_symMerge_k8
          rw [emid, eend, ← hen]
          refine cnd_of (fun f1 => ?_) (fun f1 => ?_)
          · have f1' : mid < en := by have : (mid : Int) < (en : Int) := by simpa using f1
                                      omega
            unfold M_symMerge_k9
            rw [emid, eend, ← hen]
            refine cnd_of (fun f2 => ?_) (fun f2 => ?_)
            · have f2' : en < z := by have : (en : Int) < (z : Int) := by simpa using f2
                                      omega
              have := ih (X := X ++ C1) (A := A2) (B := B2) (Z := Z) (by omega) (by omega) (by omega) (by simp only [List.length_append]; omega) hN2 sA.2.1 sB.2.1 (Q := Q) (fun C2 p2 s2 => by rw [List.append_assoc]; exact done C2 p2 s2)
              rw [List.append_assoc, show ((X ++ C1).length : Int) = (mid : Int) by simp only [List.length_append]; omega, show (((X ++ C1).length + A2.length : Nat) : Int) = (en : Int) by simp only [List.length_append]; omega, show (((X ++ C1).length + A2.length + B2.length : Nat) : Int) = (z : Int) by simp only [List.length_append]; omega] at this
              exact this
            · have f2' : ¬ en < z := by have : ¬ (en : Int) < (z : Int) := by simpa using f2
                                        omega
              exact stay (.inr (List.eq_nil_of_length_eq_zero (by omega)))
          · have f1' : ¬ mid < en := by have : ¬ (mid : Int) < (en : Int) := by simpa using f1
                                        omega
            unfold M_symMerge_k9
            simp only [cnd_false]
            exact stay (.inl (List.eq_nil_of_length_eq_zero (by omega)))
        have first : M_symMerge_k7 (a : Int) (m : Int) (z : Int) b l Q (N_symMerge fuel) (s : Int) (X ++ (A1 ++ (B1 ++ (A2 ++ (B2 ++ Z))))) := by
          have stay : (A1 = [] ∨ B1 = []) → M_symMerge_k8 (a : Int) (m : Int) (z : Int) b l Q (N_symMerge fuel) (s : Int) (X ++ (A1 ++ (B1 ++ (A2 ++ (B2 ++ Z))))) := fun hh => by
            have := last (A1 ++ B1) (List.Perm.refl _) (by
              rcases hh with hh | hh
              · rw [hh, List.nil_append]; exact sB.1
              · rw [hh, List.append_nil]; exact sA.1)
            rw [List.append_assoc] at this; exact this
          unfold M_symMerge_k7
          refine cnd_of (fun f1 => ?_) (fun f1 => ?_)
          · have f1' : a < s := by have : (a : Int) < (s : Int) := by simpa using f1
                                   omega
            unfold M_symMerge_k10
            rw [emid]
            refine cnd_of (fun f2 => ?_) (fun f2 => ?_)
            · have f2' : s < mid := by have : (s : Int) < (mid : Int) := by simpa using f2
                                       omega
              have := ih (X := X) (A := A1) (B := B1) (Z := A2 ++ (B2 ++ Z)) (by omega) (by omega) (by omega) (by omega) hN1 sA.1 sB.1 (Q := fun z2 => M_symMerge_k8 (a : Int) (m : Int) (z : Int) b l Q (N_symMerge fuel) (s : Int) z2) (fun C1 p1 s1 => last C1 p1 s1)
              rw [show (X.length : Int) = (a : Int) by omega, show ((X.length + A1.length : Nat) : Int) = (s : Int) by omega, show ((X.length + A1.length + B1.length : Nat) : Int) = (mid : Int) by omega] at this
              exact this
            · have f2' : ¬ s < mid := by have : ¬ (s : Int) < (mid : Int) := by simpa using f2
                                         omega
              exact stay (.inr (List.eq_nil_of_length_eq_zero (by omega)))
          · have f1' : ¬ a < s := by have : ¬ (a : Int) < (s : Int) := by simpa using f1
                                     omega
            unfold M_symMerge_k10
            simp only [cnd_false]
            exact stay (.inl (List.eq_nil_of_length_eq_zero (by omega)))
        have hdata : X ++ (A ++ (B ++ Z)) = X ++ (A1 ++ (A2 ++ (B1 ++ (B2 ++ Z)))) := by rw [hAe, hBe]; simp
        rw [hdata]
        have flat : (A2 = [] ∨ B1 = []) → M_symMerge_k7 (a : Int) (m : Int) (z : Int) b l Q (N_symMerge fuel) (s : Int) (X ++ (A1 ++ (A2 ++ (B1 ++ (B2 ++ Z))))) := fun hh => by
          have e9 : A2 ++ (B1 ++ (B2 ++ Z)) = B1 ++ (A2 ++ (B2 ++ Z)) := by
            rcases hh with hh | hh <;> rw [hh] <;> simp
          rw [e9]; exact first
        refine cnd_of (fun f1 => ?_) (fun f1 => ?_)
        · have f1' : s < m := by have : (s : Int) < (m : Int) := by simpa using f1
                                 omega
          unfold M_symMerge_k11
          rw [emid, eend, ← hen]
          refine cnd_of (fun f2 => ?_) (fun f2 => ?_)
          · have f2' : m < en := by have : (m : Int) < (en : Int) := by simpa using f2
                                    omega
            have := S_rotate (b := b) (l := l) (X := X ++ A1) (U := A2) (V := B1) (Z := B2 ++ Z) (by omega) (by omega) (by simp only [List.length_append]; omega) (a := (s : Int)) (m := (m : Int)) (c := (en : Int)) (by simp only [List.length_append]; omega) (by simp only [List.length_append]; omega) (by simp only [List.length_append]; omega) (Q := fun z3 => M_symMerge_k7 (a : Int) (m : Int) (z : Int) b l Q (N_symMerge fuel) (s : Int) z3) (by rw [List.append_assoc]; exact first)
            rw [List.append_assoc] at this
            exact this
          · have f2' : ¬ m < en := by have : ¬ (m : Int) < (en : Int) := by simpa using f2
                                      omega
            exact flat (.inr (List.eq_nil_of_length_eq_zero (by omega)))
        · have f1' : ¬ s < m := by have : ¬ (s : Int) < (m : Int) := by simpa using f1
                                   omega
          unfold M_symMerge_k11
          simp only [cnd_false]
          exact flat (.inl (List.eq_nil_of_length_eq_zero (by omega)))
      -- the search
      have search : ∀ s0 r0 : Nat, a ≤ s0 → s0 ≤ r0 → r0 ≤ m → r0 ≤ mid → mid + m ≤ z + s0 → (s0 = a ∨ mid + m - s0 = z) → (r0 = m ∨ mid + m - r0 = m) → M_symMerge_k5 (X ++ (A ++ (B ++ Z))) (a : Int) (m : Int) (z : Int) b l Q (N_symMerge fuel) (s0 : Int) (r0 : Int) := by
        intro s0 r0 h1 h2 h3 h4 h5 h6 h7
        have emid : cvt .i64 (shrI .u64 (cvt .u64 (w64 ((a : Int) + (z : Int)))) 1) = (mid : Int) := by rw [mid_eq (by omega)]; subst ha; subst hz; rw [← hmid]
        unfold M_symMerge_k5
        refine lp_measN (fun k (s : Int × Int) => ∃ i j : Nat, s0 ≤ i ∧ i ≤ j ∧ j ≤ r0 ∧ s.1 = (i : Int) ∧ s.2 = (j : Int) ∧ (∀ (c : Nat) x y, s0 ≤ c → c < i → A[c - a]? = some x → B[mid + m - 1 - c - m]? = some y → ltI b l y x = false) ∧ (∀ (c : Nat) x y, j ≤ c → c < r0 → A[c - a]? = some x → B[mid + m - 1 - c - m]? = some y → ltI b l y x = true) ∧ k = j - i) (n := r0 - s0)
          ⟨s0, r0, Nat.le_refl _, h2, Nat.le_refl _, rfl, rfl, fun c x y g1 g2 => by omega, fun c x y g1 g2 => by omega, rfl⟩ ?_
        rintro k ⟨n17, n18⟩ F ⟨i, j, hi, hij, hj, e1, e2, hlow, hhigh, hk⟩ hF
        simp only at e1 e2
        subst e1; subst e2
        show M_symMerge_L5 _ _ _ _ b l Q (N_symMerge fuel) (fun n17 n18 => F (n17, n18)) _ _
        unfold M_symMerge_L5
        by_cases hlt : i < j
        · rw [decide_eq_true (show ((i : Int) < (j : Int)) by omega)]
          simp only [cnd_true]
          rw [mid_eq (lo := i) (hi := j) (by omega), emid]
          generalize hh : (i + j) / 2 = q
          have hq1 : i ≤ q := by omega
          have hq2 : q < j := by omega
          rw [w64_addN (n := mid) (by omega), w64_sub1 (by omega) (by omega), w64_subN (n := mid + m - 1) (by omega) (by omega)]
          have hAq : A[q - a]? = some (A[q - a]'(by omega)) := List.getElem?_eq_getElem _
          generalize A[q - a]'(by omega) = x at hAq
          have hBq : B[mid + m - 1 - q - m]? = some (B[mid + m - 1 - q - m]'(by omega)) := List.getElem?_eq_getElem _
          generalize B[mid + m - 1 - q - m]'(by omega) = y at hBq
          have hd1 : (X ++ (A ++ (B ++ Z)))[mid + m - 1 - q]? = some y := by
            rw [List.getElem?_append_right (by omega), List.getElem?_append_right (by omega), List.getElem?_append_left (by omega), show mid + m - 1 - q - X.length - A.length = mid + m - 1 - q - m by omega]; exact hBq
          have hd2 : (X ++ (A ++ (B ++ Z)))[q]? = some x := by
            rw [List.getElem?_append_right (by omega), List.getElem?_append_left (by omega), show q - X.length = q - a by omega]; exact hAq
          refine idx_nat hd1 (idx_nat hd2 (S_Ordered1 hb (hNB hBq) (hNA hAq) (fun c hc => ?_)))
          rw [hc]
          have hgA : ∀ {t u : Nat} {v w : Int}, A[t]? = some v → A[u]? = some w → t ≤ u → ltI b l w v = false := fun ht hu htu => hA.get hlo (fun y hy => hN y (List.mem_append.2 (.inl hy))) ht hu htu
          have hgB : ∀ {t u : Nat} {v w : Int}, B[t]? = some v → B[u]? = some w → t ≤ u → ltI b l w v = false := fun ht hu htu => hB.get hlo (fun y hy => hN y (List.mem_append.2 (.inr hy))) ht hu htu
          refine cnd_of (fun e => ?_) (fun e => ?_)
          · have e' : ltI b l y x = false := by simpa using e
            rw [w64_add1 (by omega)]
            refine hF (j - (q + 1)) _ (by omega) ⟨q + 1, j, by omega, by omega, hj, rfl, rfl, fun c x' y' g1 g2 g3 g4 => ?_, hhigh, rfl⟩
            have f1 := hgA g3 hAq (by omega)
            have f2 := hgB hBq g4 (by omega)
            exact hlo.tra x' x y' (hNA g3) (hNA hAq) (hNB g4) f1 (hlo.tra x y y' (hNA hAq) (hNB hBq) (hNB g4) e' f2)
          · have e' : ltI b l y x = true := by simpa using e
            refine hF (q - i) _ (by omega) ⟨i, q, hi, hq1, by omega, rfl, rfl, hlow, fun c x' y' g1 g2 g3 g4 => ?_, rfl⟩
            have f1 := hgA hAq g3 (by omega)
            have f2 := hgB g4 hBq (by omega)
            exact lt_of_lt_le hlo (hNA hAq) (hNA g3) (hNB g4) (lt_of_le_lt hlo (hNB g4) (hNB hBq) (hNA hAq) f2 e') f1
        · have hij2 : i = j := by omega
          subst hij2
          rw [decide_eq_false (show ¬ ((i : Int) < (i : Int)) by omega)]
          simp only [cnd_false]
          rw [emid]
          have hgA : ∀ {t u : Nat} {v w : Int}, A[t]? = some v → A[u]? = some w → t ≤ u → ltI b l w v = false := fun ht hu htu => hA.get hlo (fun y hy => hN y (List.mem_append.2 (.inl hy))) ht hu htu
          have hgB : ∀ {t u : Nat} {v w : Int}, B[t]? = some v → B[u]? = some w → t ≤ u → ltI b l w v = false := fun ht hu htu => hB.get hlo (fun y hy => hN y (List.mem_append.2 (.inr hy))) ht hu htu
          refine fin i (by omega) (by omega) (by omega) (by omega) (fun p q x y g1 g2 g3 g4 g5 g6 => ?_) (fun p q x y g1 g2 g3 g4 g5 => ?_)
          · -- at most
            have hql := lt_of_get g5
            have hi0 : s0 < i := by
              rcases h6 with h6 | h6
              · omega
              · by_cases hh : s0 < i
                · exact hh
                · omega
            have hAi : A[i - 1 - a]? = some (A[i - 1 - a]'(by omega)) := List.getElem?_eq_getElem _
            generalize A[i - 1 - a]'(by omega) = u at hAi
            have hBi : B[mid + m - 1 - (i - 1) - m]? = some (B[mid + m - 1 - (i - 1) - m]'(by omega)) := List.getElem?_eq_getElem _
            generalize B[mid + m - 1 - (i - 1) - m]'(by omega) = v at hBi
            have f0 := hlow (i - 1) u v (by omega) (by omega) hAi hBi
            have f1 := hgA g2 hAi (by omega)
            have f2 := hgB hBi g5 (by omega)
            exact hlo.tra x u y (hNA g2) (hNA hAi) (hNB g5) f1 (hlo.tra u v y (hNA hAi) (hNB hBi) (hNB g5) f0 f2)
          · have hpl := lt_of_get g2
            have hi0 : i < r0 := by
              rcases h7 with h7 | h7
              · omega
              · by_cases hh : i < r0
                · exact hh
                · omega
            have hAi : A[i - a]? = some (A[i - a]'(by omega)) := List.getElem?_eq_getElem _
            generalize A[i - a]'(by omega) = u at hAi
            have hBi : B[mid + m - 1 - i - m]? = some (B[mid + m - 1 - i - m]'(by omega)) := List.getElem?_eq_getElem _
            generalize B[mid + m - 1 - i - m]'(by omega) = v at hBi
            have f0 := hhigh i u v (Nat.le_refl _) hi0 hAi hBi
            have f1 := hgA hAi g2 (by omega)
            have f2 := hgB g5 hBi (by omega)
            have f3 := lt_of_lt_le hlo (hNA hAi) (hNA g2) (hNB hBi) f0 f1
            exact hlo.asy y x (hNB g5) (hNA g2) (lt_of_le_lt hlo (hNB g5) (hNB hBi) (hNA g2) f2 f3)
      rw [← hmid]
      rw [← hz, ← hm, ← ha]
      refine cnd_of (fun f1 => ?_) (fun f1 => ?_)
      · have f1' : mid < m := by have : (m : Int) > (mid : Int) := by simpa using f1
                                 omega
        rw [w64_addN (by omega), w64_subN (by omega) (by omega)]
        exact search (mid + m - z) mid (by omega) (by omega) (by omega) (by omega) (by omega) (.inr (by omega)) (.inr (by omega))
      · have f1' : ¬ mid < m := by have : ¬ (m : Int) > (mid : Int) := by simpa using f1
                                   omega
        exact search a m (by omega) (by omega) (by omega) (by omega) (by omega) (.inl rfl) (.inl rfl)
end
end Go.Proofs.YtcmlcgjjkccaeaaDoor

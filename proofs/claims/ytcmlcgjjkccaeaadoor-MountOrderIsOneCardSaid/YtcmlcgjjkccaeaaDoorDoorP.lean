/- Chapter texts of ours, as far as the claim needs them. -/
import Derived.Test.YtcmlcgjjkccaeaaDoorDoorO
namespace Go.Proofs.YtcmlcgjjkccaeaaDoor
open Go Go.RowKit
set_option linter.unusedVariables false
set_option linter.unusedSimpArgs false
theorem at_mid (P R : List Int) (v : Int) : (P ++ v :: R)[P.length]? = some v := by simp
theorem set_at (P R : List Int) (v u : Int) : (P ++ v :: R).set P.length u = P ++ u :: R := by
  rw [List.set_append_right _ _ (Nat.le_refl _)]; simp
theorem idx_at {L P R : List Int} {v i : Int} {k : Int → Prop} (hL : L = P ++ v :: R) (hi : i = (P.length : Int)) (h : k v) : idx L i k := by
  subst hL; subst hi; exact idx_nat (at_mid P R v) h
theorem set_atI {L P R : List Int} {v u i : Int} (hL : L = P ++ v :: R) (hi : i = (P.length : Int)) : L.set i.toNat u = P ++ u :: R := by
  subst hL; subst hi; rw [Int.toNat_natCast]; exact set_at P R v u
theorem w64_sub1 {n : Nat} (h1 : 1 ≤ n) (h : n ≤ 1000000) : w64 ((n : Int) - 1) = ((n - 1 : Nat) : Int) := by rw [w64_id] <;> omega
theorem w64_add1 {n : Nat} (h : n ≤ 1000000) : w64 ((n : Int) + 1) = ((n + 1 : Nat) : Int) := by rw [w64_id] <;> omega
theorem w64_addN {n m : Nat} (h : n + m ≤ 1000000) : w64 ((n : Int) + (m : Int)) = ((n + m : Nat) : Int) := by rw [w64_id] <;> omega
theorem w64_subN {n m : Nat} (h1 : m ≤ n) (h : n ≤ 1000000) : w64 ((n : Int) - (m : Int)) = ((n - m : Nat) : Int) := by rw [w64_id] <;> omega
section
variable {b : List Body} {l : List Place}
theorem ins_inner (hb : BodiesOk b) {n2 : Int} {again1 : List Int → Int → Prop} {X Z C1 C2 : List Int} {v : Int} (hbig : X.length + C1.length + C2.length + 1 ≤ 100000) (hN : ∀ x ∈ C1 ++ v :: C2, Num l x)
    (hs : Srt (ltI b l) (C1 ++ C2)) (hv : ∀ y ∈ C2, ltI b l v y = true) (h : ∀ C, C.Perm (C1 ++ v :: C2) → Srt (ltI b l) C → again1 (X ++ (C ++ Z)) (w64 (n2 + 1))) :
    lp (fun again (s : List Int × Int) => M_insort_L2 (X.length : Int) b l n2 again1 (fun l4 n4 => again (l4, n4)) s.1 s.2) (X ++ ((C1 ++ v :: C2) ++ Z), ((X.length + C1.length : Nat) : Int)) := by
  have hlo := lo_ltI b l (Num l)
  refine lp_measN (fun m (s : List Int × Int) => ∃ D1 D2 : List Int, s.1 = X ++ ((D1 ++ v :: D2) ++ Z) ∧ s.2 = ((X.length + D1.length : Nat) : Int) ∧ Srt (ltI b l) (D1 ++ D2) ∧ (∀ y ∈ D2, ltI b l v y = true) ∧ (D1 ++ v :: D2).Perm (C1 ++ v :: C2) ∧ m = D1.length) (n := C1.length) ⟨C1, C2, rfl, rfl, hs, hv, List.Perm.refl _, rfl⟩ ?_
  rintro m ⟨l4, n4⟩ F ⟨D1, D2, e1, e2, hs, hv, hp, hm⟩ hF
  simp only at e1 e2
  subst e1; subst e2
  have hN' : ∀ x ∈ D1 ++ v :: D2, Num l x := fun x hx => hN x (hp.mem_iff.1 hx)
  have hlen : D1.length + D2.length + 1 = C1.length + C2.length + 1 := by have := hp.length_eq; simp only [List.length_append, List.length_cons] at this; omega
  have hvN := hN' v (by simp)
  show M_insort_L2 _ b l n2 again1 (fun l4 n4 => F (l4, n4)) _ _
  unfold M_insort_L2
  rcases List.eq_nil_or_concat D1 with rfl | ⟨D, y, rfl⟩
  · rw [decide_eq_false (show ¬ (((X.length + ([] : List Int).length : Nat) : Int) > (X.length : Int)) by simp)]
    simp only [cnd_false]
    unfold M_insort_k3
    simp only [cnd_false]
    refine h _ hp ?_
    show Srt (ltI b l) ([] ++ v :: D2)
    exact List.pairwise_cons.2 ⟨fun y hy => hlo.asy v y hvN (hN' y (by simp [hy])) (hv y hy), hs⟩
  · simp only [List.concat_eq_append] at *
    have hl1 : (D ++ [y]).length = D.length + 1 := by simp
    rw [hl1] at hlen hm ⊢
    rw [decide_eq_true (show (((X.length + (D.length + 1) : Nat) : Int) > (X.length : Int)) by omega)]
    simp only [cnd_true]
    have hL : X ++ (((D ++ [y]) ++ v :: D2) ++ Z) = (X ++ D) ++ y :: v :: (D2 ++ Z) := by simp
    have hL1 : X ++ (((D ++ [y]) ++ v :: D2) ++ Z) = (X ++ D ++ [y]) ++ v :: (D2 ++ Z) := by simp
    have hyN := hN' y (by simp)
    have ep : w64 (((X.length + (D.length + 1) : Nat) : Int) - 1) = (((X ++ D).length : Nat) : Int) := by rw [w64_sub1 (by omega) (by omega)]; simp only [List.length_append]; omega
    have ev : ((X.length + (D.length + 1) : Nat) : Int) = (((X ++ D ++ [y]).length : Nat) : Int) := by simp only [List.length_append, List.length_singleton]; omega
    rw [ep]
    refine idx_at hL1 ev (idx_at hL rfl (S_Ordered1 hb hvN hyN (fun c hc => ?_)))
    rw [hc]
    unfold M_insort_k3
    rw [ep]
    refine cnd_of (fun e => ?_) (fun e => ?_)
    · refine idx_at hL rfl (idx_at hL1 ev ?_)
      rw [set_atI (u := y) hL1 ev]
      have hL2 : (X ++ D ++ [y]) ++ y :: (D2 ++ Z) = (X ++ D) ++ y :: (y :: (D2 ++ Z)) := by simp
      refine idx_at hL2 rfl ?_
      rw [set_atI (u := v) hL2 rfl]
      refine hF D.length _ (by omega) ⟨D, y :: D2, by simp, by simp, by simpa using hs, fun z hz => ?_, ?_, rfl⟩
      · rcases List.mem_cons.1 hz with hz | hz
        · subst hz; exact e
        · exact hv z hz
      · refine List.Perm.trans ?_ hp
        rw [List.append_assoc]
        exact List.Perm.append_left D (List.Perm.swap _ _ _)
    · refine h _ hp ?_
      have h1 := Srt.append.1 hs
      refine Srt.append.2 ⟨h1.1, List.pairwise_cons.2 ⟨fun z hz => hlo.asy v z hvN (hN' z (by simp [hz])) (hv z hz), h1.2.1⟩, fun x hx z hz => ?_⟩
      rcases List.mem_cons.1 hz with hz | hz
      · subst hz
        have hxN := hN' x (List.mem_append.2 (.inl hx))
        refine hlo.tra x y z hxN hyN hvN ?_ e
        rcases List.mem_append.1 hx with h2 | h2
        · exact (Srt.append.1 h1.1).2.2 x h2 y (by simp)
        · simp at h2; subst h2; exact hlo.irr _ hyN
      · exact h1.2.2 x hx z hz
theorem S_insort (hb : BodiesOk b) {X A Z : List Int} (hbig : X.length + A.length ≤ 90000) (hN : ∀ x ∈ A, Num l x) {Q : List Int → Prop} (h : ∀ C, C.Perm A → Srt (ltI b l) C → Q (X ++ (C ++ Z))) : M_insort (X ++ (A ++ Z)) (X.length : Int) ((X.length + A.length : Nat) : Int) b l Q := by
  unfold M_insort
  rw [w64_add1 (by omega)]
  cases A with
  | nil =>
    refine ⟨1, ?_⟩
    show M_insort_L1 _ _ b l Q _ _ _
    unfold M_insort_L1
    rw [decide_eq_false (show ¬ (((X.length + 1 : Nat) : Int) < ((X.length + ([] : List Int).length : Nat) : Int)) by simp only [List.length_nil]; omega)]
    simp only [cnd_false]
    exact h [] (List.Perm.refl _) List.Pairwise.nil
  | cons x0 r0 =>
    generalize hA : x0 :: r0 = A at *
    have hA0 : 0 < A.length := by rw [← hA]; simp
    refine lp_measN (fun m (s : List Int × Int) => ∃ (k : Nat) (C : List Int), 1 ≤ k ∧ k ≤ A.length ∧ C.Perm (A.take k) ∧ Srt (ltI b l) C ∧ s.1 = X ++ ((C ++ A.drop k) ++ Z) ∧ s.2 = ((X.length + k : Nat) : Int) ∧ m = A.length - k) (n := A.length - 1)
      ⟨1, A.take 1, Nat.le_refl _, hA0, List.Perm.refl _, by rw [← hA]; exact List.pairwise_singleton _ _, by rw [List.take_append_drop], rfl, rfl⟩ ?_
    rintro m ⟨l2, n2⟩ F ⟨k, C, hk1, hk, hp, hs, e1, e2, hm⟩ hF
    simp only at e1 e2
    subst e1; subst e2
    have hCl : C.length = k := by rw [hp.length_eq, List.length_take]; omega
    show M_insort_L1 _ _ b l Q (fun l2 n2 => F (l2, n2)) _ _
    unfold M_insort_L1
    by_cases hlt : k < A.length
    · rw [decide_eq_true (show (((X.length + k : Nat) : Int) < ((X.length + A.length : Nat) : Int)) by omega)]
      simp only [cnd_true]
      have hd : A.drop k = A[k] :: A.drop (k + 1) := List.drop_eq_getElem_cons hlt
      have hL : X ++ ((C ++ A.drop k) ++ Z) = X ++ ((C ++ A[k] :: []) ++ (A.drop (k + 1) ++ Z)) := by rw [hd]; generalize A[k] = v; generalize A.drop (k + 1) = R; simp
      rw [hL]
      have en : ((X.length + k : Nat) : Int) = ((X.length + C.length : Nat) : Int) := by rw [hCl]
      have hpk : (C ++ A[k] :: []).Perm (A.take (k + 1)) := by
        rw [List.take_succ_eq_append_getElem hlt]; exact hp.append_right _
      have hNk : ∀ x ∈ C ++ A[k] :: [], Num l x := fun x hx => hN x (List.mem_of_mem_take (hpk.mem_iff.1 hx))
      have := ins_inner hb (n2 := ((X.length + k : Nat) : Int)) (again1 := fun l2 n2 => F (l2, n2)) (X := X) (Z := A.drop (k + 1) ++ Z) (C1 := C) (C2 := []) (v := A[k]) (by simp only [List.length_nil]; omega) hNk (by simpa using hs) (fun y hy => by cases hy) (fun C' hp' hs' => by
        rw [w64_add1 (by omega)]
        exact hF (A.length - (k + 1)) _ (by omega) ⟨k + 1, C', by omega, by omega, hp'.trans hpk, hs', by simp, by simp only; omega, rfl⟩)
      rw [← en] at this
      exact this
    · have hkk : k = A.length := by omega
      rw [decide_eq_false (show ¬ (((X.length + k : Nat) : Int) < ((X.length + A.length : Nat) : Int)) by omega)]
      simp only [cnd_false]
      subst hkk
      rw [List.drop_length, List.append_nil]
      rw [List.take_length] at hp
      exact h C hp hs
theorem S_swapRange {X A Y B Z : List Int} (hAB : A.length = B.length) (hbig : X.length + A.length + Y.length + B.length ≤ 90000) {n : Int} {a : Int} {c : Int} (ha : a = (X.length : Int)) (hc : c = ((X.length + A.length + Y.length : Nat) : Int)) (hn : n = (A.length : Int)) {Q : List Int → Prop} (h : Q (X ++ (B ++ (Y ++ (A ++ Z))))) : M_swapRange (X ++ (A ++ (Y ++ (B ++ Z)))) a c n b l Q := by
  subst ha; subst hc; subst hn
  unfold M_swapRange
  refine lp_measN (fun m (s : List Int × Int) => ∃ A1 A2 B1 B2 : List Int, A = A1 ++ A2 ∧ B = B1 ++ B2 ∧ A1.length = B1.length ∧ s.1 = X ++ ((B1 ++ A2) ++ (Y ++ ((A1 ++ B2) ++ Z))) ∧ s.2 = (A1.length : Int) ∧ m = A2.length) (n := A.length) ⟨[], A, [], B, rfl, rfl, rfl, by simp, rfl, rfl⟩ ?_
  rintro m ⟨l2, n2⟩ F ⟨A1, A2, B1, B2, hA, hB, hl, e1, e2, hm⟩ hF
  simp only at e1 e2
  subst e1; subst e2
  have hl2 : A2.length = B2.length := by rw [hA, hB, List.length_append, List.length_append] at hAB; omega
  show M_swapRange_L1 _ _ _ Q (fun l2 n2 => F (l2, n2)) _ _
  unfold M_swapRange_L1
  cases A2 with
  | nil =>
    cases B2 with
    | cons y r => simp at hl2
    | nil =>
      have : A.length = A1.length := by rw [hA]; simp
      rw [decide_eq_false (show ¬ ((A1.length : Int) < (A.length : Int)) by omega)]
      simp only [cnd_false]
      rw [List.append_nil, List.append_nil]
      rw [List.append_nil] at hA hB
      subst hA; subst hB
      exact h
  | cons x A2 =>
    cases B2 with
    | nil => simp at hl2
    | cons y B2 =>
      have hAl : A.length = A1.length + A2.length + 1 := by rw [hA]; simp; omega
      rw [decide_eq_true (show ((A1.length : Int) < (A.length : Int)) by omega)]
      simp only [cnd_true]
      have ea : w64 ((X.length : Int) + (A1.length : Int)) = (((X ++ B1).length : Nat) : Int) := by rw [w64_addN (by omega)]; simp only [List.length_append]; omega
      have ec : w64 (((X.length + A.length + Y.length : Nat) : Int) + (A1.length : Int)) = (((X ++ (B1 ++ x :: A2) ++ (Y ++ A1)).length : Nat) : Int) := by rw [w64_addN (by omega)]; simp only [List.length_append, List.length_cons]; omega
      have ec2 : (((X ++ (B1 ++ x :: A2) ++ (Y ++ A1)).length : Nat) : Int) = (((X ++ (B1 ++ y :: A2) ++ (Y ++ A1)).length : Nat) : Int) := by simp only [List.length_append, List.length_cons]
      rw [ea, ec]
      have h1 : X ++ ((B1 ++ x :: A2) ++ (Y ++ ((A1 ++ y :: B2) ++ Z))) = (X ++ (B1 ++ x :: A2) ++ (Y ++ A1)) ++ y :: (B2 ++ Z) := by simp
      have h2 : X ++ ((B1 ++ x :: A2) ++ (Y ++ ((A1 ++ y :: B2) ++ Z))) = (X ++ B1) ++ x :: (A2 ++ (Y ++ ((A1 ++ y :: B2) ++ Z))) := by simp
      refine idx_at h1 rfl (idx_at h2 rfl ?_)
      rw [set_atI (u := y) h2 rfl]
      have h3 : (X ++ B1) ++ y :: (A2 ++ (Y ++ ((A1 ++ y :: B2) ++ Z))) = (X ++ (B1 ++ y :: A2) ++ (Y ++ A1)) ++ y :: (B2 ++ Z) := by simp
      refine idx_at h3 ec2 ?_
      rw [set_atI (u := x) h3 ec2, w64_add1 (by omega)]
      exact hF A2.length _ (by simp only [List.length_cons] at hm; omega) ⟨A1 ++ [x], A2, B1 ++ [y], B2, by rw [hA]; simp, by rw [hB]; simp, by simp [hl], by simp, by simp, rfl⟩
theorem S_rotate {X U V Z : List Int} (hU : 0 < U.length) (hV : 0 < V.length) (hbig : X.length + U.length + V.length ≤ 90000) {a m c : Int} (ha : a = (X.length : Int)) (hm : m = ((X.length + U.length : Nat) : Int)) (hc : c = ((X.length + U.length + V.length : Nat) : Int)) {Q : List Int → Prop} (h : Q (X ++ (V ++ (U ++ Z)))) : M_rotate (X ++ (U ++ (V ++ Z))) a m c b l Q := by
  subst ha; subst hm; subst hc
  unfold M_rotate
  rw [w64_subN (by omega) (by omega), w64_subN (by omega) (by omega)]
  refine lp_measN (fun k (s : List Int × Int × Int) => ∃ X1 U1 V1 Z1 : List Int, 0 < U1.length ∧ 0 < V1.length ∧ s.1 = X1 ++ (U1 ++ (V1 ++ Z1)) ∧ s.2.1 = (U1.length : Int) ∧ s.2.2 = (V1.length : Int) ∧ X1.length + U1.length = X.length + U.length ∧ X1.length + U1.length + V1.length ≤ 90000 ∧ X1 ++ (V1 ++ (U1 ++ Z1)) = X ++ (V ++ (U ++ Z)) ∧ k = U1.length + V1.length) (n := U.length + V.length) ⟨X, U, V, Z, hU, hV, rfl, by simp only; omega, by simp only; omega, rfl, hbig, rfl, rfl⟩ ?_
  rintro k ⟨l2, n3, n4⟩ F ⟨X1, U1, V1, Z1, hU1, hV1, e1, e2, e3, hm, hb1, heq, hk⟩ hF
  simp only at e1 e2 e3
  subst e1; subst e2; subst e3
  show M_rotate_L1 _ b l Q (fun l2 n3 n4 => F (l2, n3, n4)) _ _ _
  unfold M_rotate_L1
  have ex : w64 (((X.length + U.length : Nat) : Int) - (U1.length : Int)) = (X1.length : Int) := by rw [w64_subN (by omega) (by omega)]; omega
  rw [ex]
  refine cnd_of (fun e => cnd_of (fun e2 => ?_) (fun e2 => ?_)) (fun e => ?_)
  · have hgt : V1.length < U1.length := by have : (U1.length : Int) > (V1.length : Int) := by simpa using e2
                                           omega
    obtain ⟨P, R, rfl, hP⟩ : ∃ P R : List Int, U1 = P ++ R ∧ P.length = V1.length := ⟨U1.take V1.length, U1.drop V1.length, (List.take_append_drop _ _).symm, by rw [List.length_take]; omega⟩
    simp only [List.length_append] at *
    have := S_swapRange (b := b) (l := l) (X := X1) (A := P) (Y := R) (B := V1) (Z := Z1) hP (by omega) (a := (X1.length : Int)) (c := ((X.length + U.length : Nat) : Int)) (n := (V1.length : Int)) rfl (by omega) (by omega) (Q := fun z1 => F (z1, w64 (((P.length + R.length : Nat) : Int) - (V1.length : Int)), (V1.length : Int))) (by
      rw [w64_subN (by omega) (by omega)]
      refine hF (R.length + P.length) _ (by omega) ⟨X1 ++ V1, R, P, Z1, by omega, by omega, by simp, by simp only; omega, by simp only; omega, by simp only [List.length_append]; omega, by simp only [List.length_append]; omega, ?_, rfl⟩
      rw [← heq]; simp)
    rw [show X1 ++ ((P ++ R) ++ (V1 ++ Z1)) = X1 ++ (P ++ (R ++ (V1 ++ Z1))) by simp]
    exact this
  · have hlt : U1.length < V1.length := by
      have h1 : ¬ (U1.length : Int) > (V1.length : Int) := by simpa using e2
      have h2 : (U1.length : Int) ≠ (V1.length : Int) := by simpa using e
      omega
    obtain ⟨P, R, rfl, hP⟩ : ∃ P R : List Int, V1 = P ++ R ∧ R.length = U1.length := ⟨V1.take (V1.length - U1.length), V1.drop (V1.length - U1.length), (List.take_append_drop _ _).symm, by rw [List.length_drop]; omega⟩
    simp only [List.length_append] at *
    rw [w64_addN (by omega), w64_subN (n := X.length + U.length + (P.length + R.length)) (by omega) (by omega)]
    have := S_swapRange (b := b) (l := l) (X := X1) (A := U1) (Y := P) (B := R) (Z := Z1) hP.symm (by omega) (a := (X1.length : Int)) (c := ((X.length + U.length + (P.length + R.length) - U1.length : Nat) : Int)) (n := (U1.length : Int)) rfl (by omega) rfl (Q := fun z2 => F (z2, (U1.length : Int), w64 (((P.length + R.length : Nat) : Int) - (U1.length : Int)))) (by
      rw [w64_subN (by omega) (by omega)]
      refine hF (R.length + P.length) _ (by omega) ⟨X1, R, P, U1 ++ Z1, by omega, by omega, by simp, by simp only; omega, by simp only; omega, by omega, by omega, ?_, rfl⟩
      rw [← heq]; simp)
    rw [show X1 ++ (U1 ++ ((P ++ R) ++ Z1)) = X1 ++ (U1 ++ (P ++ (R ++ Z1))) by simp]
    exact this
  · have he : U1.length = V1.length := by
      have h2 : (U1.length : Int) = (V1.length : Int) := by simpa using e
      omega
    have := S_swapRange (b := b) (l := l) (X := X1) (A := U1) (Y := []) (B := V1) (Z := Z1) he (by simp only [List.length_nil]; omega) (a := (X1.length : Int)) (c := ((X.length + U.length : Nat) : Int)) (n := (U1.length : Int)) rfl (by simp only [List.length_nil]; omega) rfl (Q := Q) (by
      rw [List.nil_append, heq]; exact h)
    rw [List.nil_append] at this
    exact this
end
end Go.Proofs.YtcmlcgjjkccaeaaDoor

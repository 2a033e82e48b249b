/- Chapter texts of ours, as far as the claim needs them. -/
import Derived.Test.YtcmlcgjjkccaeaaDoorDoorR
namespace Go.Proofs.YtcmlcgjjkccaeaaDoor
open Go Go.RowKit
set_option linter.unusedVariables false
set_option linter.unusedSimpArgs false
inductive Chs (lt : Int → Int → Bool) (k : Nat) : List Int → Prop
  | last {L : List Int} : L.length ≤ k → Srt lt L → Chs lt k L
  | cons {C R : List Int} : C.length = k → Srt lt C → Chs lt k R → Chs lt k (C ++ R)
inductive Ful (lt : Int → Int → Bool) (k : Nat) : List Int → Prop
  | nil : Ful lt k []
  | snoc {D C : List Int} : Ful lt k D → C.length = k → Srt lt C → Ful lt k (D ++ C)
theorem Ful.chs {lt : Int → Int → Bool} {k : Nat} {D : List Int} (h : Ful lt k D) : ∀ {R : List Int}, Chs lt k R → Chs lt k (D ++ R) := by
  induction h with
  | nil => intro R hR; exact hR
  | snoc _ hl hs ih => intro R hR; rw [List.append_assoc]; exact ih (.cons hl hs hR)
theorem Chs.srt {lt : Int → Int → Bool} {k : Nat} {L : List Int} (h : Chs lt k L) (hl : L.length ≤ k) : Srt lt L := by
  cases h with
  | last _ hs => exact hs
  | @cons C R hc hs hr =>
    have : R = [] := List.eq_nil_of_length_eq_zero (by rw [List.length_append] at hl; omega)
    subst this; rw [List.append_nil]; exact hs
theorem Chs.split {lt : Int → Int → Bool} {k : Nat} {L : List Int} (h : Chs lt k L) (hl : k < L.length) : ∃ C R, L = C ++ R ∧ C.length = k ∧ Srt lt C ∧ Chs lt k R := by
  cases h with
  | last h1 _ => omega
  | cons hc hs hr => exact ⟨_, _, rfl, hc, hs, hr⟩
section
variable {b : List Body} {l : List Place}
theorem S_stable (hb : BodiesOk b) {L : List Int} (hbig : L.length ≤ 20000) (hN : ∀ x ∈ L, Num l x) {Q : List Int → Prop} (h : ∀ C, C.Perm L → Srt (ltI b l) C → Q C) : M_stable L (L.length : Int) b l Q := by
  have hlo := lo_ltI b l (Num l)
  unfold M_stable
  refine lp_measN (fun k (s : List Int × Int × Int) => ∃ D R : List Int, Ful (ltI b l) 20 D ∧ (D ++ R).Perm L ∧ s.1 = D ++ R ∧ s.2.1 = (D.length : Int) ∧ s.2.2 = ((D.length + 20 : Nat) : Int) ∧ k = R.length) (n := L.length) ⟨[], L, .nil, List.Perm.refl _, rfl, rfl, rfl, rfl⟩ ?_
  rintro k ⟨l2, n3, n4⟩ F ⟨D, R, hD, hp, e1, e2, e3, hk⟩ hF
  simp only at e1 e2 e3
  subst e1; subst e2; subst e3
  have hlen := hp.length_eq
  rw [List.length_append] at hlen
  show M_stable_L1 _ b l Q (fun l2 n3 n4 => F (l2, n3, n4)) _ _ _
  unfold M_stable_L1
  by_cases hlt : D.length + 20 ≤ L.length
  · rw [decide_eq_true (show ((D.length + 20 : Nat) : Int) ≤ (L.length : Int) by omega)]
    simp only [cnd_true]
    obtain ⟨P, S, rfl, hP⟩ : ∃ P S : List Int, R = P ++ S ∧ P.length = 20 := ⟨R.take 20, R.drop 20, (List.take_append_drop _ _).symm, by rw [List.length_take]; omega⟩
    have := S_insort hb (X := D) (A := P) (Z := S) (by omega) (fun x hx => hN x (hp.mem_iff.1 (by simp [hx]))) (Q := fun z1 => F (z1, ((D.length + 20 : Nat) : Int), w64 (((D.length + 20 : Nat) : Int) + 20))) (fun C hpC hsC => by
      have hCl : C.length = 20 := by rw [hpC.length_eq, hP]
      rw [show w64 (((D.length + 20 : Nat) : Int) + 20) = ((D.length + 20 + 20 : Nat) : Int) from w64_addN (m := 20) (by omega)]
      refine hF S.length _ (by rw [List.length_append] at hk; omega) ⟨D ++ C, S, .snoc hD hCl hsC, ?_, by simp, by simp only [List.length_append]; omega, by simp only [List.length_append]; omega, rfl⟩
      rw [List.append_assoc]
      exact (List.Perm.append_left D (hpC.append_right S)).trans hp)
    rw [hP] at this
    exact this
  · rw [decide_eq_false (show ¬ ((D.length + 20 : Nat) : Int) ≤ (L.length : Int) by omega)]
    simp only [cnd_false]
    have := S_insort hb (X := D) (A := R) (Z := []) (by omega) (fun x hx => hN x (hp.mem_iff.1 (by simp [hx]))) (Q := fun z2 => lp (fun again (s : List Int × Int) => M_stable_L2 (L.length : Int) b l Q (fun l4 n6 => again (l4, n6)) s.1 s.2) (z2, 20)) (fun C hpC hsC => by
      have hCl := hpC.length_eq
      rw [List.append_nil]
      refine lp_measN (fun k (s : List Int × Int) => ∃ (bs : Nat) (E : List Int), 20 ≤ bs ∧ bs ≤ 100000 ∧ Chs (ltI b l) bs E ∧ E.Perm L ∧ s.1 = E ∧ s.2 = (bs : Int) ∧ k = L.length - bs) (n := L.length - 20) ⟨20, D ++ C, Nat.le_refl _, by omega, hD.chs (.last (by omega) hsC), (List.Perm.append_left D hpC).trans hp, rfl, rfl, rfl⟩ ?_
      rintro k2 ⟨l4, n6⟩ G ⟨bs, E, hb1, hb2, hch, hpE, e1, e2, hk2⟩ hG
      simp only at e1 e2
      subst e1; subst e2
      have hEl := hpE.length_eq
      show M_stable_L2 _ b l Q (fun l4 n6 => G (l4, n6)) _ _
      unfold M_stable_L2
      by_cases hb3 : bs < L.length
      · rw [decide_eq_true (show (bs : Int) < (L.length : Int) by omega)]
        simp only [cnd_true]
        rw [show w64 (2 * (bs : Int)) = ((2 * bs : Nat) : Int) by rw [w64_id] <;> omega]
        refine lp_measN (fun k (s : List Int × Int × Int) => ∃ D R : List Int, Ful (ltI b l) (2 * bs) D ∧ Chs (ltI b l) bs R ∧ (D ++ R).Perm L ∧ s.1 = D ++ R ∧ s.2.1 = (D.length : Int) ∧ s.2.2 = ((D.length + 2 * bs : Nat) : Int) ∧ k = R.length) (n := l4.length) ⟨[], l4, .nil, hch, hpE, rfl, rfl, by simp, rfl⟩ ?_
        rintro k3 ⟨l6, n9, n10⟩ H ⟨D2, R2, hD2, hR2, hp2, e1, e2, e3, hk3⟩ hH
        simp only at e1 e2 e3
        subst e1; subst e2; subst e3
        have hlen2 := hp2.length_eq
        rw [List.length_append] at hlen2
        show M_stable_L3 _ b l _ (fun l4 n6 => G (l4, n6)) (fun l6 n9 n10 => H (l6, n9, n10)) _ _ _
        unfold M_stable_L3
        rw [w64_addN (n := D2.length) (m := bs) (by omega), show w64 (2 * (bs : Int)) = ((2 * bs : Nat) : Int) by rw [w64_id] <;> omega, show w64 ((bs : Int) * 2) = ((2 * bs : Nat) : Int) by rw [w64_id] <;> omega]
        have next : ∀ C, Srt (ltI b l) C → C.length ≤ 2 * bs → (D2 ++ C).Perm L → G (D2 ++ C, ((2 * bs : Nat) : Int)) := fun C hs hl hpp =>
          hG (L.length - 2 * bs) _ (by omega) ⟨2 * bs, D2 ++ C, by omega, by omega, hD2.chs (.last hl hs), hpp, rfl, rfl, rfl⟩
        by_cases h1 : D2.length + 2 * bs ≤ L.length
        · rw [decide_eq_true (show ((D2.length + 2 * bs : Nat) : Int) ≤ (L.length : Int) by omega)]
          simp only [cnd_true]
          obtain ⟨C1, R3, rfl, hc1, hs1, hR3⟩ := hR2.split (by omega)
          rw [List.length_append] at hlen2
          obtain ⟨C2, R4, rfl, hc2, hs2, hR4⟩ : ∃ C R, R3 = C ++ R ∧ C.length = bs ∧ Srt (ltI b l) C ∧ Chs (ltI b l) bs R := by
            by_cases h3 : bs < R3.length
            · exact hR3.split h3
            · exact ⟨R3, [], by simp, by omega, hR3.srt (by omega), .last (by simp) List.Pairwise.nil⟩
          rw [List.length_append] at hlen2
          have hmem : ∀ x ∈ C1 ++ C2, Num l x := fun x hx => hN x (hp2.mem_iff.1 (by rcases List.mem_append.1 hx with h4 | h4 <;> simp [h4]))
          have := S_symMerge hb (C1.length + C2.length) (X := D2) (A := C1) (B := C2) (Z := R4) (by omega) (by omega) (Nat.le_refl _) (by omega) hmem hs1 hs2 (Q := fun z3 => H (z3, ((D2.length + 2 * bs : Nat) : Int), w64 (((D2.length + 2 * bs : Nat) : Int) + ((2 * bs : Nat) : Int)))) (fun C hpC hsC => by
            have hCl := hpC.length_eq
            rw [List.length_append] at hCl
            rw [w64_addN (by omega)]
            refine hH R4.length _ (by simp only [List.length_append] at hk3; omega) ⟨D2 ++ C, R4, .snoc hD2 (by omega) hsC, hR4, ?_, by simp, by simp only [List.length_append]; omega, by simp only [List.length_append]; omega, rfl⟩
            rw [List.append_assoc]
            refine (List.Perm.append_left D2 (hpC.append_right R4)).trans ?_
            rw [List.append_assoc]; exact hp2)
          rw [hc1, show D2.length + bs + C2.length = D2.length + 2 * bs by omega] at this
          exact ⟨_, this⟩
        · rw [decide_eq_false (show ¬ ((D2.length + 2 * bs : Nat) : Int) ≤ (L.length : Int) by omega)]
          simp only [cnd_false]
          by_cases h2 : D2.length + bs < L.length
          · rw [decide_eq_true (show ((D2.length + bs : Nat) : Int) < (L.length : Int) by omega)]
            simp only [cnd_true]
            obtain ⟨C1, R3, rfl, hc1, hs1, hR3⟩ := hR2.split (by omega)
            rw [List.length_append] at hlen2
            have hs2 := hR3.srt (by omega)
            have hmem : ∀ x ∈ C1 ++ R3, Num l x := fun x hx => hN x (hp2.mem_iff.1 (by rcases List.mem_append.1 hx with h4 | h4 <;> simp [h4]))
            have := S_symMerge hb (C1.length + R3.length) (X := D2) (A := C1) (B := R3) (Z := []) (by omega) (by omega) (Nat.le_refl _) (by omega) hmem hs1 hs2 (Q := fun z4 => G (z4, ((2 * bs : Nat) : Int))) (fun C hpC hsC => by
              have hCl := hpC.length_eq
              rw [List.length_append] at hCl
              rw [List.append_nil]
              exact next C hsC (by omega) ((List.Perm.append_left D2 hpC).trans hp2))
            rw [List.append_nil, hc1, show D2.length + bs + R3.length = L.length by omega] at this
            exact ⟨_, this⟩
          · rw [decide_eq_false (show ¬ ((D2.length + bs : Nat) : Int) < (L.length : Int) by omega)]
            simp only [cnd_false]
            exact next R2 (hR2.srt (by omega)) (by omega) hp2
      · rw [decide_eq_false (show ¬ (bs : Int) < (L.length : Int) by omega)]
        simp only [cnd_false]
        exact h _ hpE (hch.srt (by omega)))
    rw [List.append_nil, hlen] at this
    exact this
def OrdOk (b : List Body) (l : List Place) (o : List Int) : Prop := o.Perm ((List.range l.length).map (fun n : Nat => (n : Int))) ∧ Srt (ltI b l) o
theorem num_range {l : List Place} : ∀ x ∈ (List.range l.length).map (fun n : Nat => (n : Int)), Num l x := fun x hx => by
  obtain ⟨n, hn, rfl⟩ := List.mem_map.1 hx
  have := List.mem_range.1 hn
  exact ⟨Int.natCast_nonneg _, by omega⟩
theorem S_mount_Ordered (hb : Fits.fits b) (hlf : Fits.fits l) {Q : List Int → Int → Prop} (h1 : placesFault b l ≠ 0 → Q [] (placesFault b l)) (h0 : placesFault b l = 0 → ∀ o, OrdOk b l o → Q o 0) : M_mount_Ordered b l Q := by
  unfold M_mount_Ordered
  refine S_mount_CheckPlaces hb hlf (cnd_of (fun e => h1 (by simpa using e)) (fun e => ?_))
  have e' : placesFault b l = 0 := by simpa using e
  have hp := places_ok e'
  have hl := hp.len
  refine forIn0 (fun k (s : List Int) => s = (List.range k).map (fun n : Nat => (n : Int))) rfl (fun k x s hx hI next hn => ?_) (fun s hI => ?_)
  · have := lt_of_get hx
    unfold M_mount_Ordered_L1
    subst hI
    refine ⟨room_of (by simp; omega) (by decide), hn _ ?_⟩
    rw [List.range_succ, List.map_append]; rfl
  · subst hI
    unfold M_sortStable
    exact S_stable hp.bodies (by simp; omega) num_range (fun C hpC hs => h0 e' C ⟨hpC, hs⟩)
end
end Go.Proofs.YtcmlcgjjkccaeaaDoor

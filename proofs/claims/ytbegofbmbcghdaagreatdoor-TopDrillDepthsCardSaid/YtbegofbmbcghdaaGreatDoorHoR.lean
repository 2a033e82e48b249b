/- Chapter texts of ours, as far as the claim needs them. -/
import Derived.Test.YtbegofbmbcghdaaGreatDoorHoD
import Derived.Test.YtbegofbmbcghdaaGreatDoorHoQ
import Derived.Test.YtbegofbmbcghdaaGreatDoorRev
namespace Go.Proofs.YtbegofbmbcghdaaGreatDoor
open Go Go.RowKit
set_option linter.unusedVariables false
set_option linter.unusedSectionVars false
set_option linter.unusedSimpArgs false
theorem OZ {s : List Int} (hs : s.length ≤ 1000000) {Q : List Int → Prop} (h : ∀ r : List Int, r.length ≤ s.length → Q r) : tH s Q := by
  unfold tH
  refine eU (fun _ => h s (Nat.le_refl _)) (fun e => ?_)
  have h2 : 2 ≤ s.length := by have := of_decide_eq_false e; omega
  refine sQ (fun n => ∃ k : Nat, n = (k : Int) ∧ 1 ≤ k ∧ k ≤ s.length) (fun n => s.length - n.toNat) ⟨1, rfl, by omega, by omega⟩ ?_
  rintro X _ ⟨k, rfl, hk1, hk⟩ hX
  unfold rE
  refine eU (fun e => ?_) (fun _ => h s (Nat.le_refl _))
  have hlt : k < s.length := by have := of_decide_eq_true e; omega
  have e1 : w64 ((k : Int) - 1) = ((k - 1 : Nat) : Int) := by rw [gV] <;> omega
  have e2 : w64 ((k : Int) + 1) = ((k + 1 : Nat) : Int) := by rw [gV] <;> omega
  rw [e1, e2]
  refine gW (List.getElem?_eq_getElem hlt) (gW (List.getElem?_eq_getElem (by omega)) (eU (fun _ => ⟨by omega, ?_⟩) (fun _ => hX _ ⟨k + 1, rfl, by omega, by omega⟩ (by omega))))
  refine sQ (fun (t : List Int × Int × Int) => ∃ a b : Nat, t.2.1 = (a : Int) ∧ t.2.2 = (b : Int) ∧ t.1.length = s.length ∧ k ≤ a ∧ a < k + b ∧ 1 ≤ b ∧ b ≤ s.length - k) (fun t => s.length - t.2.2.toNat) ⟨k, 1, rfl, rfl, rfl, by omega, by omega, by omega, by omega⟩ ?_
  rintro Y ⟨l2, _, _⟩ ⟨a, b, h1, h2', hl, ha, hab, hb, hbs⟩ hY
  simp only at h1 h2' hl
  subst h1; subst h2'
  unfold qY
  dsimp only
  have hsl : (seg l2 (k : Int) (s.length : Int)).length = s.length - k := by rw [seg_length (by omega)]; omega
  refine eU (fun e => ?_) (fun _ => ?_)
  · have hbl : b < s.length - k := by have := of_decide_eq_true e; omega
    have e3 : w64 ((b : Int) - 1) = ((b - 1 : Nat) : Int) := by rw [gV] <;> omega
    have e4 : w64 ((b : Int) + 1) = ((b + 1 : Nat) : Int) := by rw [gV] <;> omega
    have e5 : w64 ((a : Int) + 1) = ((a + 1 : Nat) : Int) := by rw [gV] <;> omega
    rw [e3, e4, e5]
    refine gW (List.getElem?_eq_getElem (by omega)) (gW (List.getElem?_eq_getElem (by omega)) (eU (fun _ => ?_) (fun _ => ?_)))
    · exact gW (List.getElem?_eq_getElem (show a < l2.length by omega)) (hY _ ⟨a + 1, b + 1, rfl, rfl, by simpa using hl, by omega, by omega, by omega, by omega⟩ (by simp only; omega))
    · exact hY _ ⟨a, b + 1, rfl, rfl, hl, by omega, by omega, by omega, by omega⟩ (by simp only; omega)
  · refine ⟨by omega, ⟨by rw [gG]; omega, h _ ?_⟩⟩
    rw [List.length_take, gG]; omega
def yM (N : Nat) (xs : List Int) : Prop := xs.length % 2 = 0 ∧ xs.length ≤ N
theorem MC {l : List gm} (hl : l.length ≤ 1000000) (hf : ∀ x ∈ l, far x) {Q : List Int → List gm → Prop} (h : ∀ r z, yM (2 * l.length) r → z.Perm l → Q r z) : qw l Q := by
  unfold qw
  refine ⟨by omega, hf, fun z hz _ => ?_⟩
  have hzl := hz.length_eq
  refine iQ (fun k r => yM (2 * k) r) ⟨rfl, Nat.le_refl _⟩ (fun k x r hx hI next hn => ?_) (fun r hI => h r z (by rw [← hzl]; exact hI) hz)
  have hk := TL hx
  obtain ⟨i1, i2⟩ := hI
  have k2 : ∀ c, (c = true → 0 < r.length) → kH x r (fun l2 => next l2) c := fun c hc => by
    unfold kH
    refine eU (fun e => ?_) (fun _ => ⟨lX (by simp only [List.length_append, List.length_cons, List.length_nil]; omega) (by omega), hn _ ⟨by simp only [List.length_append, List.length_cons, List.length_nil]; omega, by simp only [List.length_append, List.length_cons, List.length_nil]; omega⟩⟩)
    have := hc e
    refine Aa (by rw [gV (by omega) (by omega)]; omega) (by rw [gV (by omega) (by omega)]; omega) (hn _ ⟨by rw [List.length_set]; exact i1, by rw [List.length_set]; omega⟩)
  unfold nH
  refine eU (fun e => ?_) (fun _ => k2 _ (fun e => by cases e))
  have h0 := of_decide_eq_true e
  rw [gV (by omega) (by omega)] at h0
  exact Aa (by rw [gV (by omega) (by omega)]; omega) (by rw [gV (by omega) (by omega)]; omega) (k2 _ (fun _ => by omega))
theorem RP {s : List fU} {b : fU} {N : Nat} (hs : s.length ≤ 1000000) (hg : ∀ x ∈ s, yM N x.Xs) (hb : yM N b.Xs) {Q : List fU → Prop} (h : ∀ r : List fU, r.length ≤ s.length + 1 → (∀ x ∈ r, yM N x.Xs) → Q r) : wZ s b Q := by
  have k2 : ∀ c, (c = true → 0 < s.length) → nY s b Q c := fun c hc => by
    unfold nY
    refine eU (fun e => ?_) (fun _ => ⟨lX (by simp only [List.length_append, List.length_singleton]; omega) (by omega), h _ (by simp) (fun x hx => ?_)⟩)
    · have := hc e
      have e1 : w64 ((s.length : Int) - 1) = ((s.length - 1 : Nat) : Int) := by rw [gV] <;> omega
      rw [e1]
      have hx : s[s.length - 1]? = some s[s.length - 1] := List.getElem?_eq_getElem (by omega)
      refine gW hx (h _ (by simp) (fun x hx' => ?_))
      rcases List.mem_or_eq_of_mem_set hx' with hm | hm
      · exact hg x hm
      · subst hm; show yM N (s[s.length - 1]).Xs; exact hg _ (List.mem_of_getElem? hx)
    · rcases List.mem_append.1 hx with hm | hm
      · exact hg x hm
      · simp at hm; subst hm; exact hb
  have k1 : ∀ c, qo s b Q c := fun c => by
    unfold qo
    refine eU (fun _ => h s (by omega) hg) (fun _ => eU (fun e => ?_) (fun _ => k2 _ (fun e => by cases e)))
    have h0 := of_decide_eq_true e
    rw [gV (by omega) (by omega)] at h0
    have e1 : w64 ((s.length : Int) - 1) = ((s.length - 1 : Nat) : Int) := by rw [gV] <;> omega
    rw [e1]
    exact gW (List.getElem?_eq_getElem (by omega)) (eU (fun _ => k2 _ (fun _ => by omega)) (fun _ => k2 _ (fun e => by cases e)))
  unfold wZ
  exact eU (fun _ => k1 _) (fun _ => k1 _)
theorem Pq {s : List gm} {ys : List Int} {k : Nat} (hk : k < ys.length) (hs : s.length ≤ 1000000) (P : gm → Prop) (hP : ∀ x ∈ s, P x) {Q : List gm → Prop} (h : ∀ r : List gm, r.length ≤ s.length → (∀ x ∈ r, P x) → Q r) : qx s ys (k : Int) Q := by
  unfold qx uM
  have hy : ys[k]? = some ys[k] := List.getElem?_eq_getElem hk
  refine iQ (fun _ _ => True) trivial (fun i x u hx _ next hn => ?_) (fun _ _ => eU (fun _ => h s (Nat.le_refl _) hP) (fun e => by simp at e))
  have hX := hn () trivial
  have hi := TL hx
  unfold nZ zY
  refine gW hy (eU (fun _ => eU (fun _ => h s (Nat.le_refl _) hP) (fun _ => ?_)) (fun _ => hX))
  have e1 : w64 ((i : Int) + 1) = ((i + 1 : Nat) : Int) := by rw [gV] <;> omega
  rw [e1]
  refine sQ (fun (t : List gm × Int × Int) => ∃ a b : Nat, t.2.1 = (a : Int) ∧ t.2.2 = (b : Int) ∧ t.1.length = s.length ∧ a < b ∧ b ≤ s.length ∧ ∀ x ∈ t.1, P x) (fun t => s.length - t.2.2.toNat) ⟨i, i + 1, rfl, rfl, rfl, by omega, by omega, hP⟩ ?_
  rintro Y ⟨l2, _, _⟩ ⟨a, b, h1, h2, hl, hab, hb, hp⟩ hY
  simp only at h1 h2 hl hp
  subst h1; subst h2
  unfold ny
  dsimp only
  refine eU (fun e => ?_) (fun _ => ?_)
  · have hbl : b < l2.length := by have := of_decide_eq_true e; omega
    have e4 : w64 ((b : Int) + 1) = ((b + 1 : Nat) : Int) := by rw [gV] <;> omega
    have e5 : w64 ((a : Int) + 1) = ((a + 1 : Nat) : Int) := by rw [gV] <;> omega
    rw [e4, e5]
    have hbx : l2[b]? = some l2[b] := List.getElem?_eq_getElem hbl
    refine gW hbx ?_
    unfold zY
    refine gW hy (eU (fun _ => ?_) (fun _ => ?_))
    · refine gW (List.getElem?_eq_getElem (show a < l2.length by omega)) (hY _ ⟨a + 1, b + 1, rfl, rfl, by simpa using hl, by omega, by omega, fun x hx => ?_⟩ (by simp only; omega))
      rcases List.mem_or_eq_of_mem_set hx with hm | hm
      · exact hp x hm
      · subst hm; exact hp _ (List.mem_of_getElem? hbx)
    · exact hY _ ⟨a, b + 1, rfl, rfl, hl, by omega, by omega, hp⟩ (by simp only; omega)
  · have hz : 0 ≤ (a : Int) ∧ (a : Int) ≤ (l2.length : Int) ∧ (l2.length : Int) ≤ (l2.length : Int) := ⟨by omega, by omega, by omega⟩
    refine ⟨hz, ⟨by rw [gG]; omega, h _ (by rw [List.length_take, gG]; omega) (fun x hx => ?_)⟩⟩
    rw [Cb hz, List.append_assoc] at hx
    rw [List.take_append_of_le_length (by rw [List.length_take]; omega)] at hx
    exact hp x (List.mem_of_mem_take (List.mem_of_mem_take hx))
theorem KR {l : List gm} (hl : l.length ≤ 1000000) {Q : List gm → Prop} (h : Q l) : yO l Q := IV (lX (by omega) (by omega)) h
theorem QX {l : List gm} (hl : l.length ≤ 2000) (hf : ∀ x ∈ l, far x) {Q : List fU → Prop} (h : ∀ r : List fU, r.length ≤ 4000 → (∀ x ∈ r, yM 4000 x.Xs) → Q r) : vk l Q := by
  unfold vk
  refine KR (by omega) ⟨by omega, hf, fun z1 hz _ => ?_⟩
  have hzl := hz.length_eq
  have hzf : ∀ x ∈ z1, far x := fun x hx => hf x (hz.mem_iff.1 hx)
  refine iQ (fun k r => r.length = 2 * k) rfl (fun k x r hx hI next hn => ?_) (fun r hI => ?_)
  · have hk := TL hx
    exact ⟨lX (by simp only [List.length_append, List.length_cons, List.length_nil]; omega) (by omega), hn _ (by simp only [List.length_append, List.length_cons, List.length_nil]; omega)⟩
  show Bc r _
  have hsl : (BA r).length = r.length := by unfold BA; rw [List.length_mergeSort]
  refine ⟨by omega, OZ (by omega) (fun y2 hy2 => ?_)⟩
  refine sQ (fun (t : List fU × List gm × Int × Int) => ∃ k j : Nat, t.2.2.1 = (k : Int) ∧ t.2.2.2 = (j : Int) ∧ k ≤ y2.length ∧ j ≤ z1.length ∧ t.1.length ≤ k ∧ (∀ x ∈ t.1, yM 4000 x.Xs) ∧ t.2.1.length ≤ j ∧ ∀ x ∈ t.2.1, far x) (fun t => y2.length - t.2.2.1.toNat) ⟨0, 0, rfl, rfl, by omega, by omega, by simp, by simp, by simp, by simp⟩ ?_
  rintro X ⟨l5, l6, _, _⟩ ⟨k, j, h1, h2, hk, hj, h5, g5, h6, g6⟩ hX
  simp only at h1 h2 h5 g5 h6 g6
  subst h1; subst h2
  unfold o5
  dsimp only
  have ek : w64 ((k : Int) + 1) = ((k + 1 : Nat) : Int) := by rw [gV] <;> omega
  rw [ek]
  refine eU (fun e => ?_) (fun _ => h l5 (by omega) g5)
  have hk1 : k + 1 < y2.length := by have := of_decide_eq_true e; omega
  refine Pq (by omega) (by omega) far g6 (fun y3 hy3 gy3 => ?_)
  refine sQ (fun (t : List gm × Int) => ∃ i : Nat, t.2 = (i : Int) ∧ j ≤ i ∧ i ≤ z1.length ∧ t.1.length ≤ i ∧ ∀ x ∈ t.1, far x) (fun t => z1.length - t.2.toNat) ⟨j, rfl, by omega, by omega, by simp only; omega, gy3⟩ ?_
  rintro Y ⟨l8, _⟩ ⟨i, h3, hji, hi, h8, g8⟩ hY
  simp only at h3 h8 g8
  subst h3
  have ei : i < z1.length → w64 ((i : Int) + 1) = ((i + 1 : Nat) : Int) := fun _ => by rw [gV] <;> omega
  have k4 : ∀ c, (c = true → i < z1.length) → o6 z1 y2 l5 (k : Int) (fun l5 l6 b2 n2 => X (l5, l6, b2, n2)) l8 (i : Int) (fun l8 n4 => Y (l8, n4)) c := fun c hc => by
    unfold o6
    rw [ek]
    refine eU (fun e => ?_) (fun _ => ?_)
    · have hil := hc e
      have hx : z1[i]? = some z1[i] := List.getElem?_eq_getElem hil
      rw [ei hil]
      refine gW hx ⟨lX (by simp only [List.length_append, List.length_singleton]; omega) (by omega), hY _ ⟨i + 1, rfl, by omega, by omega, by simp only [List.length_append, List.length_singleton]; omega, fun x hm => ?_⟩ (by simp only; omega)⟩
      rcases List.mem_append.1 hm with hm | hm
      · exact g8 x hm
      · simp at hm; subst hm; exact hzf _ (List.mem_of_getElem? hx)
    · refine gW (List.getElem?_eq_getElem (show k < y2.length by omega)) (gW (List.getElem?_eq_getElem hk1) (MC (by omega) g8 (fun y4 z3 hy4 hz3 => ?_)))
      refine RP (N := 4000) (by omega) g5 ⟨hy4.1, by have := hy4.2; simp only; omega⟩ (fun y5 hy5 gy5 => hX _ ⟨k + 1, i, rfl, rfl, by omega, hi, by simp only; omega, gy5, ?_, fun x hx => g8 x (hz3.mem_iff.1 hx)⟩ (by simp only; omega))
      simp only
      rw [hz3.length_eq]; exact h8
  unfold rU
  dsimp only
  refine eU (fun e => ?_) (fun _ => k4 _ (fun e => by cases e))
  have hil : i < z1.length := by have := of_decide_eq_true e; omega
  exact gW (List.getElem?_eq_getElem hil) (gW (List.getElem?_eq_getElem (show k < y2.length by omega)) (k4 _ (fun _ => hil)))
theorem QB {s : List fU} (hs : s.length ≤ 4000) (hg : ∀ x ∈ s, yM 4000 x.Xs) {Q : List gm → Prop} (h : ∀ r : List gm, r.length ≤ 20000000 → Q r) : vG s Q := by
  unfold vG
  refine iQ (fun k (r : List gm) => r.length ≤ 4000 * k) (by simp) (fun k x r hx hI next hn => ?_) (fun r hI => h r (by omega))
  have hk := TL hx
  obtain ⟨g1, g2⟩ := hg x (List.mem_of_getElem? hx)
  unfold rP
  refine sQ (fun (t : List gm × Int) => ∃ i : Nat, t.2 = (i : Int) ∧ i % 2 = 0 ∧ i ≤ x.Xs.length ∧ t.1.length ≤ r.length + i) (fun t => x.Xs.length - t.2.toNat) ⟨0, rfl, rfl, by omega, by simp⟩ ?_
  rintro Y ⟨l4, _⟩ ⟨i, h3, hi2, hi, h4⟩ hY
  simp only at h3 h4
  subst h3
  unfold rH
  dsimp only
  refine eU (fun e => ?_) (fun e => hn _ (by have := of_decide_eq_false e; omega))
  have hil : i < x.Xs.length := by have := of_decide_eq_true e; omega
  have e1 : w64 ((i : Int) + 1) = ((i + 1 : Nat) : Int) := by rw [gV] <;> omega
  have e2 : w64 ((i : Int) + 2) = ((i + 2 : Nat) : Int) := by rw [gV] <;> omega
  rw [e1, e2]
  exact gW (List.getElem?_eq_getElem hil) (gW (List.getElem?_eq_getElem (by omega)) ⟨lX (by simp only [List.length_append, List.length_singleton]; omega) (by omega), hY _ ⟨i + 2, rfl, by omega, by omega, by simp only [List.length_append, List.length_singleton]; omega⟩ (by simp only; omega)⟩)
theorem KZ {l : List gm} {Q : Int → Prop} (h : ∀ r, (r = 0 → l.length ≤ 2000 ∧ ∀ x ∈ l, far x) → Q r) : pF l Q := by
  unfold pF
  refine eU (fun _ => h 2 (ne0 (by decide))) (fun e => ?_)
  have hl : l.length ≤ 2000 := by have := of_decide_eq_false e; omega
  refine iQ (fun k _ => ∀ i x, i < k → l[i]? = some x → far x) (fun i x hi => by omega) (fun k x s hx hI next hn => ?_) (fun s hI => h 0 (fun _ => ⟨hl, fun x hx => ?_⟩))
  · have k2 : far x → ∀ c, l7 Q (next ()) c := fun hfx c => eU (fun _ => h 13 (ne0 (by decide))) (fun _ => hn _ (fun i y hi hy => by
      rcases Nat.lt_or_ge i k with hlt | hge
      · exact hI i y hlt hy
      · have : i = k := by omega
        subst this; rw [hx] at hy; injection hy with hy; subst hy; exact hfx))
    have bad : ∀ B : Prop, cnd (!false) (Q 1) B := fun B => eU (fun _ => h 1 (ne0 (by decide))) (fun e => by cases e)
    unfold mg xu mX
    refine eU (fun e1 => eU (fun e2 => eU (fun e3 => ?_) (fun _ => bad _)) (fun _ => bad _)) (fun _ => bad _)
    refine eU (fun _ => h 1 (ne0 (by decide))) (fun _ => ?_)
    have hfx : far x := by
      unfold within at e1 e2
      simp at e1 e2
      exact ⟨e1, e2⟩
    exact eU (fun _ => k2 hfx _) (fun _ => k2 hfx _)
  · obtain ⟨i, hi⟩ := List.getElem?_of_mem hx
    exact hI i x (TL hi) hi
theorem Jg {r : List gm} {Q : Int → Prop} (h : ∀ r, Q r) : oH r Q := by
  unfold oH
  refine KZ (fun f hf => eU (fun _ => h _) (fun e => ?_))
  obtain ⟨hl, hfar⟩ := hf (by simpa using e)
  refine sQ (fun n => ∃ k : Nat, n = (k : Int) ∧ 1 ≤ k ∧ k ≤ r.length + 1) (fun n => r.length + 1 - n.toNat) ⟨1, rfl, by omega, by omega⟩ ?_
  rintro X _ ⟨k, rfl, hk1, hk⟩ hX
  unfold lH
  refine eU (fun e => ?_) (fun _ => ?_)
  · have hlt : k < r.length := by have := of_decide_eq_true e; omega
    have e1 : w64 ((k : Int) - 1) = ((k - 1 : Nat) : Int) := by rw [gV] <;> omega
    have e2 : w64 ((k : Int) + 1) = ((k + 1 : Nat) : Int) := by rw [gV] <;> omega
    have k2 : ∀ c, jL Q (k : Int) (fun n2 => X n2) c := fun c => eU (fun _ => h _) (fun _ => by rw [e2]; exact hX _ ⟨k + 1, rfl, by omega, by omega⟩ (by omega))
    rw [e1]
    exact gW (List.getElem?_eq_getElem (by omega)) (gW (List.getElem?_eq_getElem hlt) (eU (fun _ => k2 _) (fun _ => eU (fun _ => k2 _) (fun _ => k2 _))))
  · refine QX hl hfar (fun s hs hg => QB hs hg (fun y _ => ?_))
    unfold yP
    have fin : ∀ c, cnd (!c) (Q 3) (Q 0) := fun c => eU (fun _ => h _) (fun _ => h _)
    refine eU (fun _ => fin _) (fun e => ?_)
    have hyl : y.length = r.length := by simp at e; omega
    refine iQ (fun _ _ => True) trivial (fun k x s hx _ next hn => ?_) (fun s _ => fin _)
    have hk := TL hx
    exact gW (List.getElem?_eq_getElem (by omega)) (eU (fun _ => fin _) (fun _ => hn _ trivial))
theorem G8 {l : List nK} (hf : Fits.fits l) {Q : Int → Prop} (h : ∀ r, Q r) : kQ l Q := by
  unfold kQ
  refine eU (fun _ => h _) (fun e => ?_)
  have hl : l.length ≤ 50 := by have := of_decide_eq_false e; omega
  refine iQ (fun _ _ => True) trivial (fun k x m hx _ next hn => ?_) (fun s _ => h _)
  have hk := TL hx
  unfold kK
  refine jM (hf x (List.mem_of_getElem? hx)).1 (eU (fun _ => h _) (fun _ => eU (fun _ => h _) (fun e2 => ?_)))
  have hnl : x.Nets.length ≤ 1000 := by have := of_decide_eq_false e2; omega
  refine iQ (fun _ _ => True) trivial (fun k2 x2 s2 hx2 _ next2 hn2 => ?_) (fun s2 _ => iQ (fun _ _ => True) trivial (fun k3 x3 s3 hx3 _ next3 hn3 => hn3 _ trivial) (fun m4 _ => ?_))
  · have hk2 := TL hx2
    have k6 : ∀ c, kM Q m x2 (next2 ()) c := fun c => eU (fun _ => h _) (fun _ => eU (fun _ => h _) (fun _ => hn2 _ trivial))
    unfold kJ
    exact uN (eU (fun _ => h _) (fun _ => nX (key := fun s : Str => s) (by omega) (by omega) (k6 _)))
  · have k4 : ∀ c, iD l Q k x (fun m2 => next m2) m4 c := fun c => eU (fun _ => h _) (fun _ => nX (key := nK.Name) (by omega) (by omega) (eU (fun _ => h _) (fun _ => hn _ trivial)))
    exact eU (fun _ => k4 _) (fun _ => k4 _)
theorem Le {r : xM} (hf : Fits.fits r.Classes) {Q : Int → Prop} (h : ∀ r, Q r) : mO r Q := by
  unfold mO sN vJ
  have rest : ∀ c, cnd c (Q 1) (kQ r.Classes fun y2 => cnd (y2 != 0) (Q y2) (cnd (decide ((r.Areas.length : Int) > 50)) (Q 2) (forIn' (fun k x (s : Int) next => jV Q k x s (fun n2 => next n2)) (fun (s : Int) => (fun (n2 : Int) => cnd (decide (n2 > 2000)) (Q 2) (Q 0)) s) r.Areas 0 0))) := fun c => by
    refine eU (fun _ => h _) (fun _ => G8 hf fun _ => eU (fun _ => h _) (fun _ => eU (fun _ => h _) (fun _ => ?_)))
    refine iQ (fun _ _ => True) trivial (fun k x m hx _ next hn => ?_) (fun s _ => eU (fun _ => h _) (fun _ => h _))
    unfold jV
    exact eU (fun _ => h _) (fun _ => Jg fun _ => eU (fun _ => h _) (fun _ => eU (fun _ => h _) (fun _ => hn _ trivial)))
  refine iQ (fun _ _ => True) trivial (fun k x m hx _ next hn => ?_) (fun s _ => rest _)
  exact eU (fun _ => rest _) (fun _ => hn _ trivial)
end Go.Proofs.YtbegofbmbcghdaaGreatDoor

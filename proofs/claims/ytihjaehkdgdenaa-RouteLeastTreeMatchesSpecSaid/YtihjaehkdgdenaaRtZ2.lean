/- Chapter 7: the least tree, in the reference: plain laws. -/
import Derived.Test.YtihjaehkdgdenaaRtZ
import Derived.Test.YtihjaehkdgdenaaRtW2
import Derived.Test.YtihjaehkdgdenaaRtX2
import Derived.Test.YtihjaehkdgdenaaRtR
namespace Go.Proofs.Ytihjaehkdgdenaa
open Go Go.RowKit
set_option linter.unusedVariables false
set_option linter.unusedSimpArgs false

theorem xor_tab : ∀ m < 65, ∀ p < 65, p &&& m = p → xorI .i64 ((m : Nat) : Int) ((p : Nat) : Int) = ((m - p : Nat) : Int) := by decide +kernel
theorem and2_tab : ∀ m < 65, 0 < m → andI .i64 ((m : Nat) : Int) (w64 (((m : Nat) : Int) - 1)) = ((m &&& (m - 1) : Nat) : Int) := by decide +kernel
theorem two_tab : ∀ m < 65, 0 < m → m &&& (m - 1) = 0 → ∃ i < 7, m = 2 ^ i := by decide +kernel
theorem two_tab2 : ∀ i < 7, (2 ^ i) &&& (2 ^ i - 1) = 0 := by decide +kernel
theorem half_tab : ∀ j < 7, w64 (((2 ^ (j + 1) : Nat) : Int).tdiv 2) = ((2 ^ j : Nat) : Int) := by decide +kernel
theorem S_bitOf {i : Nat} (hi : i < 7) {Q : Int → Prop} (h : Q (i : Int)) : M_ref7_bitOf ((2 ^ i : Nat) : Int) Q := by
  unfold M_ref7_bitOf
  refine lp_measN (fun m (s : Int × Int) => s.1 = ((2 ^ m : Nat) : Int) ∧ m ≤ i ∧ s.2 = ((i - m : Nat) : Int)) (n := i) ⟨rfl, Nat.le_refl _, by simp⟩ ?_
  rintro m ⟨a, b⟩ X ⟨h1, h2, h3⟩ hX
  simp only at h1 h3
  subst h1; subst h3
  show M_ref7_bitOf_L1 Q (fun n3 n4 => X (n3, n4)) _ _
  unfold M_ref7_bitOf_L1
  cases m with
  | zero =>
    show cnd false _ _
    simp only [cnd_false]
    exact h
  | succ j =>
    have h4 : 1 < 2 ^ (j + 1) := Nat.one_lt_two_pow (by omega)
    rw [decide_eq_true (show ((2 ^ (j + 1) : Nat) : Int) > 1 by exact Int.ofNat_lt.2 h4)]
    simp only [cnd_true]
    rw [half_tab j (by omega)]
    refine hX j _ (by omega) ⟨rfl, by omega, ?_⟩
    simp only
    rw [w64_id] <;> omega
def refMost (g : Grid) : Int := if (grG g).N > 400 then -1 else 6
theorem pinsF_most (g : Grid) (pins : List Cell) : pinsF g pins (refMost g) = pinsF g pins (treeMost g) := by
  unfold refMost treeMost
  split
  · unfold pinsF
    by_cases h : pins.length = 0
    · rw [if_pos h, if_pos h]
    · rw [if_neg h, if_neg h, if_pos (by omega), if_pos (by omega)]
  · rfl
section
variable {g : Grid} {c : Costs} {pins : List Cell}
theorem base0_two {num : Nat → Nat} {k K n i : Nat} (hi : i < k) (hK : K = 2 ^ i) : base0 num k K n = if num i = n then 0 else -1 := by
  unfold base0
  by_cases h : num i = n
  · rw [if_pos h, if_pos ⟨i, hi, hK, h⟩]
  · rw [if_neg h, if_neg]
    rintro ⟨j, _, h2, h3⟩
    have : j = i := by
      have he : 2 ^ j = 2 ^ i := by rw [← h2, hK]
      rcases Nat.lt_trichotomy j i with h4 | h4 | h4
      · have := (Nat.pow_lt_pow_iff_right (a := 2) (by omega)).2 h4; omega
      · exact h4
      · have := (Nat.pow_lt_pow_iff_right (a := 2) (by omega)).2 h4; omega
    subst this; exact h h3
theorem S_ref_LT_L3 {K n N : Nat} {T : Nat → List Int} (hK0 : 0 < K) (hK : K ≤ 64) {now0 : Int} (hlen : ∀ m, 0 < m → m < K → (T m).length = N) (hn : n < N) (hval : ∀ m, 0 < m → m < K → ∀ (i : Nat) d, (T m)[i]? = some d → -1 ≤ d ∧ d ≤ 1000000000)
    {l5 : List (List Int)} (hl5 : K < l5.length) (hT : ∀ m, m < K → tabOf l5 m = T m) (hrow : (tabOf l5 K)[n]? = some now0) {again2 : List (List Int) → Int → Prop}
    (h : ∀ l7, l7.length = l5.length → (∀ m, m < K → tabOf l7 m = T m) → tabOf l7 K = (tabOf l5 K).set n (foldP T K n (partsOf K) now0) → again2 l7 (w64 ((n : Int) + 1))) : M_ref7_LeastTree_k4 (K : Int) (n : Int) again2 l5 := by
  unfold M_ref7_LeastTree_k4
  rw [and_tab K (by omega) K (by omega) hK0]
  have hle : (K - 1) &&& K ≤ K - 1 := Nat.and_le_left
  have hrl : n < (tabOf l5 K).length := (List.getElem?_eq_some_iff.1 hrow).1
  refine lp_measN (fun m (s : List (List Int) × Int) => ∃ pre, s.2 = (m : Int) ∧ m < K ∧ m &&& K = m ∧ partsOf K = pre ++ partsGo K m m ∧ s.1.length = l5.length ∧ (∀ m, m < K → tabOf s.1 m = T m) ∧ tabOf s.1 K = (tabOf l5 K).set n (foldP T K n pre now0)) (n := (K - 1) &&& K) ⟨[], rfl, by omega, ?_, ?_, rfl, hT, ?_⟩ ?_
  · rw [Nat.and_assoc, Nat.and_self]
  · rw [List.nil_append]; exact partsGo_fuel _ _ _ (by omega) (Nat.le_refl _)
  · rw [show foldP T K n [] now0 = now0 from rfl, list_set_self hrow]
  · rintro p ⟨l7, n7⟩ Z ⟨pre, hp, hpK, hpa, hpre, hl7, hT7, hr7⟩ hZ
    simp only at hp hl7 hT7 hr7
    subst hp
    show M_ref7_LeastTree_L3 (K : Int) (n : Int) again2 (fun l7 n7 => Z (l7, n7)) l7 (p : Int)
    unfold M_ref7_LeastTree_L3
    refine cnd_of (fun e => ?_) (fun e => ?_)
    · have hp1 : 0 < p := by simp at e; omega
      have hx : (T p)[n]? = some ((T p)[n]'(by rw [hlen p hp1 hpK]; exact hn)) := List.getElem?_eq_getElem _
      have hy : (T (K - p))[n]? = some ((T (K - p))[n]'(by rw [hlen (K - p) (by omega) (by omega)]; exact hn)) := List.getElem?_eq_getElem _
      generalize (T p)[n]'(by rw [hlen p hp1 hpK]; exact hn) = x at hx
      generalize (T (K - p))[n]'(by rw [hlen (K - p) (by omega) (by omega)]; exact hn) = y at hy
      have vx := hval p hp1 hpK n x hx
      have vy := hval (K - p) (by omega) (by omega) n y hy
      have g1 : l7[p]? = some (T p) := by rw [← hT7 p hpK]; exact tabOf_get (by omega)
      have g2 : l7[K - p]? = some (T (K - p)) := by rw [← hT7 (K - p) (by omega)]; exact tabOf_get (by omega)
      have g3 : l7[K]? = some (tabOf l7 K) := tabOf_get (by omega)
      generalize hnow : foldP T K n pre now0 = now at hr7
      have g4 : (tabOf l7 K)[n]? = some now := by rw [hr7]; exact List.getElem?_set_self hrl
      have hstep : foldP T K n (pre ++ [p]) now0 = upd now x y := by rw [foldP_snoc, hnow, getDn hx, getDn hy]
      rw [xor_tab K (by omega) p (by omega) hpa]
      refine idx_nat g1 (idx_nat hx (idx_nat g2 (idx_nat hy ?_)))
      have hle2 : (p - 1) &&& K ≤ p - 1 := Nat.and_le_left
      have fin : ∀ l8, l8.length = l5.length → (∀ m, m < K → tabOf l8 m = T m) → tabOf l8 K = (tabOf l5 K).set n (upd now x y) → M_ref7_LeastTree_k6 (K : Int) (p : Int) (fun l7 n7 => Z (l7, n7)) l8 := fun l8 a1 a2 a3 => by
        unfold M_ref7_LeastTree_k6
        rw [and_tab K (by omega) p (by omega) hp1]
        refine hZ ((p - 1) &&& K) _ (by omega) ⟨pre ++ [p], rfl, by omega, by rw [Nat.and_assoc, Nat.and_self], by rw [hpre, partsGo_step hp1]; simp, a1, a2, ?_⟩
        simp only
        rw [hstep]; exact a3
      have stay : ¬ (0 ≤ x ∧ 0 ≤ y ∧ (now < 0 ∨ x + y < now)) → M_ref7_LeastTree_k7 (K : Int) (n : Int) l7 (p : Int) (fun l7 n7 => Z (l7, n7)) x y false := fun hh => by
        unfold M_ref7_LeastTree_k7
        simp only [cnd_false]
        exact fin l7 hl7 hT7 (by unfold upd; rw [if_neg hh]; exact hr7)
      have turn : (0 ≤ x ∧ 0 ≤ y ∧ (now < 0 ∨ x + y < now)) → M_ref7_LeastTree_k7 (K : Int) (n : Int) l7 (p : Int) (fun l7 n7 => Z (l7, n7)) x y true := fun hh => by
        unfold M_ref7_LeastTree_k7
        simp only [cnd_true]
        refine idx_nat g3 (idx_nat g4 ?_)
        rw [w64_id (n := x + y) (by omega) (by omega), Int.toNat_natCast, Int.toNat_natCast]
        obtain ⟨s1, s2⟩ := tabOf_set (l := l7) (K := K) (z := (tabOf l7 K).set n (x + y)) (by omega)
        refine fin _ (by rw [List.length_set]; exact hl7) (fun m hm => (s1 m hm).trans (hT7 m hm)) ?_
        rw [s2, hr7, List.set_set]
        unfold upd
        rw [if_pos hh]
      refine cnd_of (fun e1 => cnd_of (fun e2 => idx_nat g3 (idx_nat g4 (cnd_of (fun e3 => ?_) (fun e3 => ?_)))) (fun e2 => ?_)) (fun e1 => ?_)
      · exact turn ⟨by simpa using e1, by simpa using e2, .inl (by simpa using e3)⟩
      · rw [w64_id (n := x + y) (by simp at e1 e2; omega) (by omega)]
        by_cases e4 : x + y < now
        · rw [decide_eq_true e4]; exact turn ⟨by simpa using e1, by simpa using e2, .inr e4⟩
        · rw [decide_eq_false e4]; exact stay (fun hh => by simp at e3; omega)
      · exact stay (fun hh => by simp at e2; omega)
      · exact stay (fun hh => by simp at e1; omega)
    · have hp1 : p = 0 := by simp at e; omega
      subst hp1
      have hpre2 : partsOf K = pre := by rw [hpre]; simp [partsGo]
      rw [← hpre2] at hr7
      exact h l7 hl7 hT7 hr7
theorem S_ref_LeastTree {Q : Int → Bool → Int → Prop} (h1 : leastTF g c pins ≠ 0 → Q 0 false (leastTF g c pins)) (h0 : leastTF g c pins = 0 → TreeAns g c pins Q) : M_ref7_LeastTree g c pins Q := by
  unfold M_ref7_LeastTree
  unfold leastTF at h1 h0
  refine S_askGrid (cnd_of (fun e => ?_) (fun e => ?_))
  · have e' : bothF g c ≠ 0 := by simpa using e
    rw [if_pos e'] at h1; exact h1 e'
  have e' : bothF g c = 0 := by simpa using e
  obtain ⟨hg, hc⟩ := bothF_zero e'
  rw [if_neg (by simp [e'])] at h1 h0
  have hN := hg.N
  have hf := goodF_of hg hc
  have hnl : (noOf g).length = (grG g).N := by unfold noOf; simp
  rw [grid_w64 hg.sz, NN_eq hg.sz]
  have go : M_ref7_LeastTree_k1 g c pins Q (refMost g) := by
    unfold M_ref7_LeastTree_k1
    refine cnd_of (fun e2 => ?_) (fun e2 => ?_)
    · have : pinsF g pins (treeMost g) = 9 := by unfold pinsF; rw [if_pos (by simpa using e2)]
      rw [this] at h1; exact h1 (by decide)
    refine S_ref_checkPins hg ?_
    rw [pinsF_most]
    refine cnd_of (fun e2 => h1 (by simpa using e2)) (fun e2 => ?_)
    have e3 : pinsF g pins (treeMost g) = 0 := by simpa using e2
    have h0 := h0 e3
    obtain ⟨hp0, hpm, hpn, hpf⟩ := pinsF_zero e3
    have hN4 : (grG g).N ≤ 400 ∧ pins.length ≤ 6 := by unfold treeMost at hpm; split at hpm <;> omega
    have hpow := pow_le hN4.2
    have hfree := pin_free (c := c) hg hpf
    have hx0 : pins[0]? = some (pins.getD 0 default) := by rw [List.getD_eq_getElem?_getD, List.getElem?_eq_getElem hp0]; rfl
    have hxg := hpf _ (List.mem_of_getElem? hx0)
    refine idx_nat (i := 0) hx0 ?_
    refine S_fieldOf hg hc hxg.1 (fun best hbest => ⟨fun hx => (by cases hx), fun x hx => ?_⟩)
    injection hx with hx; subst hx
    have hF : FOk ⟨g, c, noOf g, best⟩ := ⟨hg, hc, rfl⟩
    have esh : shlI .i64 1 (pins.length : Int) = ((2 ^ pins.length : Nat) : Int) := shl_tab _ (by omega)
    unfold TreeAns at h0
    have hAk : ∀ i, 2 ^ i < 2 ^ pins.length → i < pins.length := fun i hi => (Nat.pow_lt_pow_iff_right (by omega)).1 hi
    generalize hA : 2 ^ pins.length = A at h0 hpow esh hAk
    have hA0 : 0 < A := by rw [← hA]; exact Nat.pos_of_ne_zero (by simp)
    refine ⟨by omega, ⟨by rw [esh]; omega, by rw [esh]; omega⟩, ?_⟩
    rw [esh, Int.toNat_natCast]
    refine lp_measN (fun m (s : List (List Int) × Int) => ∃ K : Nat, s.2 = (K : Int) ∧ K + m = A ∧ 0 < K ∧ s.1.length = A ∧ Dwt (grC g c) (pinNum g pins) pins.length (tabOf s.1) K ∧ TOk (grC g c) (tabOf s.1) K) (n := A - 1) ⟨1, rfl, by omega, by omega, by simp, fun m h1 h2 => by omega, ⟨fun m h1 h2 => by omega, fun m h1 h2 => by omega⟩⟩ ?_
    rintro m ⟨l2, n3⟩ X ⟨K, hK, hKm, hK0, hl2, hD, hT⟩ hX
    simp only at hK hl2 hD hT
    subst hK
    show M_ref7_LeastTree_L1 g c pins Q _ (noOf g, best) (fun l2 n3 => X (l2, n3)) l2 (K : Int)
    unfold M_ref7_LeastTree_L1
    rw [esh]
    refine cnd_of (fun e4 => ?_) (fun e4 => ?_)
    · have hKA : K < A := by simpa using e4
      simp only
      rw [hnl]
      refine ⟨⟨by omega, by omega⟩, idx_nat (tabOf_get (by omega)) ?_⟩
      rw [Int.toNat_natCast]
      obtain ⟨q1, q2⟩ := tabOf_set (l := l2) (K := K) (z := List.replicate (grG g).N (0 : Int)) (by omega)
      have hbn : ∀ q, 0 < q → q < K → bnd (grG g).N q ≤ 1000000000 := fun q hq hqK => by
        unfold bnd
        have := Int.mul_le_mul (show (2 * (q : Int) - 1) ≤ 200 by omega) (show ((grG g).N : Int) * 1000 ≤ 400000 by omega) (by omega) (by omega)
        omega
      refine lp_measN (fun m (s : List (List Int) × Int) => ∃ j : Nat, s.2 = (j : Int) ∧ j + m = (grG g).N ∧ s.1.length = A ∧ (∀ m, m < K → tabOf s.1 m = tabOf l2 m) ∧ (tabOf s.1 K).length = (grG g).N ∧ ∀ i, i < j → (tabOf s.1 K)[i]? = some (foldP (tabOf l2) K i (partsOf K) (base0 (pinNum g pins) pins.length K i))) (n := (grG g).N) ⟨0, rfl, by omega, by simp [hl2], q1, by simp only; rw [q2]; simp, fun i hi => by omega⟩ ?_
      rintro m2 ⟨l4, n5⟩ Y ⟨j, hj, hjm, hl4, hT4, hr4, hall⟩ hY
      simp only at hj hl4 hT4 hr4 hall
      subst hj
      show M_ref7_LeastTree_L2 g c pins (noOf g, best) (K : Int) (fun l2 n3 => X (l2, n3)) (fun l4 n5 => Y (l4, n5)) l4 (j : Int)
      unfold M_ref7_LeastTree_L2
      simp only
      rw [hnl]
      refine cnd_of (fun e5 => ?_) (fun e5 => ?_)
      · have hjl : j < (grG g).N := by simpa using e5
        have hxj : (tabOf l4 K)[j]? = some ((tabOf l4 K)[j]'(by rw [hr4]; exact hjl)) := List.getElem?_eq_getElem _
        refine idx_nat (tabOf_get (by omega)) (idx_nat hxj ?_)
        -- the row with its j-th value set
        have go2 : ∀ (l5 : List (List Int)) (v : Int), v = base0 (pinNum g pins) pins.length K j → l5.length = A → (∀ m, m < K → tabOf l5 m = tabOf l4 m) → tabOf l5 K = (tabOf l4 K).set j v → M_ref7_LeastTree_k4 (K : Int) (j : Int) (fun l4 n5 => Y (l4, n5)) l5 := fun l5 v hv a1 a2 a3 => by
          have hrv : (tabOf l5 K)[j]? = some v := by rw [a3]; exact List.getElem?_set_self (by rw [hr4]; exact hjl)
          refine S_ref_LT_L3 (T := tabOf l2) (N := (grG g).N) hK0 (by omega) (fun m a b => hT.len m a b) hjl (fun m a b i d hd => by have := hT.val m a b i d hd; exact ⟨this.1, Int.le_trans this.2.1 (hbn m a b)⟩) (by omega) (fun m hm => (a2 m hm).trans (hT4 m hm)) hrv (fun l7 b1 b2 b3 => ?_)
          rw [show w64 ((j : Int) + 1) = ((j + 1 : Nat) : Int) by rw [w64_id] <;> omega]
          rw [a3, List.set_set, hv] at b3
          refine hY (m2 - 1) _ (by omega) ⟨j + 1, rfl, by omega, by simp only; omega, b2, by simp only; rw [b3, List.length_set]; exact hr4, fun i hi => ?_⟩
          simp only
          rw [b3, List.getElem?_set]
          split
          · rename_i e6; subst e6; rw [if_pos (by rw [hr4]; exact hjl)]
          · rename_i e6; exact hall i (by omega)
        have k8t : base0 (pinNum g pins) pins.length K j = 0 → M_ref7_LeastTree_k8 (K : Int) l4 (j : Int) (fun l4 n5 => Y (l4, n5)) (tabOf l4 K) true := fun hb => by
          unfold M_ref7_LeastTree_k8
          simp only [cnd_true]
          rw [Int.toNat_natCast, Int.toNat_natCast]
          refine idx_nat (List.getElem?_set_self (by rw [hr4]; exact hjl)) ?_
          obtain ⟨s1, s2⟩ := tabOf_set (l := l4) (K := K) (z := (tabOf l4 K).set j (-1)) (by omega)
          obtain ⟨s3, s4⟩ := tabOf_set (l := l4.set K ((tabOf l4 K).set j (-1))) (K := K) (z := ((tabOf l4 K).set j (-1)).set j 0) (by rw [List.length_set]; omega)
          exact go2 _ 0 hb.symm (by simp [hl4]) (fun m hm => (s3 m hm).trans (s1 m hm)) (by rw [s4, List.set_set])
        have k8f : base0 (pinNum g pins) pins.length K j = -1 → M_ref7_LeastTree_k8 (K : Int) l4 (j : Int) (fun l4 n5 => Y (l4, n5)) (tabOf l4 K) false := fun hb => by
          unfold M_ref7_LeastTree_k8
          simp only [cnd_false]
          rw [Int.toNat_natCast, Int.toNat_natCast]
          obtain ⟨s1, s2⟩ := tabOf_set (l := l4) (K := K) (z := (tabOf l4 K).set j (-1)) (by omega)
          exact go2 _ (-1) hb.symm (by simp [hl4]) s1 s2
        rw [and2_tab K (by omega) hK0]
        refine cnd_of (fun e6 => ?_) (fun e6 => ?_)
        · have e6' : K &&& (K - 1) = 0 := by simp only [beq_iff_eq] at e6; omega
          obtain ⟨i, hi7, hKi⟩ := two_tab K (by omega) hK0 e6'
          have hik : i < pins.length := hAk i (by rw [← hKi]; exact hKA)
          refine S_field_cell (f := ⟨g, c, noOf g, best⟩) hg.sz hjl ?_
          rw [hKi]
          refine S_bitOf hi7 ?_
          have hpi : pins[i]? = some (pins.getD i default) := by rw [List.getD_eq_getElem?_getD, List.getElem?_eq_getElem hik]; rfl
          refine idx_nat hpi ?_
          have hpg := (hpf _ (List.mem_of_getElem? hpi)).1
          rw [← hKi]
          have hb := base0_two (num := pinNum g pins) (n := j) hik hKi
          by_cases e7 : cellN g j = pins.getD i default
          · rw [decide_eq_true e7]
            refine k8t (hb.trans (if_pos ?_))
            show numN g (pins.getD i default) = j
            rw [← e7, numN_cellN]
          · rw [decide_eq_false e7]
            refine k8f (hb.trans (if_neg (fun e8 => e7 ?_)))
            have e8' : numN g (pins.getD i default) = j := e8
            rw [← e8', cellN_numN hg.sz hpg]
        · have e6' : K &&& (K - 1) ≠ 0 := by simp only [beq_eq_false_iff_ne] at e6; omega
          refine k8f ?_
          unfold base0
          rw [if_neg]
          rintro ⟨i, hi, hKi, _⟩
          exact e6' (by rw [hKi]; exact two_tab2 i (by omega))
      · have hjl : j = (grG g).N := by simp at e5; omega
        subst hjl
        refine idx_nat (tabOf_get (by omega)) ?_
        have hle : tabOf l4 K = mergeL (pinNum g pins) pins.length (grC g c).N (tabOf l2) K := by
          apply List.ext_getElem?
          intro n
          rcases Nat.lt_or_ge n (grG g).N with hn | hn
          · rw [hall n hn, mergeL_get (show n < (grC g c).N from hn)]
          · rw [List.getElem?_eq_none (by rw [hr4]; exact hn), List.getElem?_eq_none (by unfold mergeL; simp; exact hn)]
        have hbase := hT.base hK0 (fun i hi => (hfree i hi).2)
        rw [← hle] at hbase
        have hbK : bnd (grC g c).N K ≤ 1000000000 ∧ (grC g c).N * 1000 ≤ bnd (grC g c).N K := by
          refine ⟨?_, bnd_mono hK0⟩
          unfold bnd
          have := Int.mul_le_mul (show (2 * (K : Int) - 1) ≤ 200 by omega) (show ((grC g c).N : Int) * 1000 ≤ 400000 by have h9 : (grC g c).N ≤ 400 := hN4.1; omega) (by omega) (by omega)
          omega
        refine S_grow hF (M := bnd (grC g c).N K - (grC g c).N * 1000) ⟨by omega, by omega⟩ hr4 hbase (fun z hz hzb => ?_)
        rw [hle] at hz
        obtain ⟨s1, s2⟩ := tabOf_set (l := l4) (K := K) (z := z) (by omega)
        have s1' : ∀ m, m < K → tabOf (l4.set K z) m = tabOf l2 m := fun m hm => (s1 m hm).trans (hT4 m hm)
        rw [Int.toNat_natCast, show w64 ((K : Int) + 1) = ((K + 1 : Nat) : Int) by rw [w64_id] <;> omega]
        refine hX (m - 1) _ (by omega) ⟨K + 1, rfl, by omega, by omega, by simp [hl4], hD.set s1' (by rw [s2]; exact hz), hT.set hf.ok hK0 (fun i hi => (hfree i hi).2) s1' (by rw [s2]; exact hz) (fun i d hd hd0 => ?_)⟩
        rw [s2] at hd
        have h9 := hzb i d hd hd0
        have h10 : (grG g).N = (grC g c).N := rfl
        rw [h10] at h9
        omega
    · have hKA : K = A := by simp at e4; omega
      subst hKA
      have hxl := (hfree 0 hp0).1
      have hK1 : 1 < K := by rw [← hA]; exact Nat.one_lt_two_pow (by omega)
      have hlK : (tabOf l2 (K - 1)).length = (grG g).N := hT.len (K - 1) (by omega) (by omega)
      rw [show w64 ((K : Int) - 1) = ((K - 1 : Nat) : Int) by rw [w64_id] <;> omega]
      refine idx_nat (tabOf_get (by omega)) ?_
      refine S_field_at (f := ⟨g, c, noOf g, best⟩) hg.sz hxg.1 ?_
      have hd : (tabOf l2 (K - 1))[pinNum g pins 0]? = some ((tabOf l2 (K - 1))[pinNum g pins 0]'(by rw [hlK]; exact hxl)) := List.getElem?_eq_getElem _
      generalize (tabOf l2 (K - 1))[pinNum g pins 0]'(by rw [hlK]; exact hxl) = d at hd
      refine idx_nat (i := pinNum g pins 0) hd ?_
      obtain ⟨q1, q2⟩ := h0 (tabOf l2) hD hT d hd
      exact cnd_of (fun e5 => q1 (by simpa using e5)) (fun e5 => q2 (by simpa using e5))
  refine cnd_of (fun e2 => ?_) (fun e2 => ?_)
  · have : refMost g = -1 := by unfold refMost; rw [if_pos (by simp at e2; omega)]
    rw [this] at go; exact go
  · have : refMost g = 6 := by unfold refMost; rw [if_neg (by simp at e2; omega)]
    rw [this] at go; exact go
end
end Go.Proofs.Ytihjaehkdgdenaa

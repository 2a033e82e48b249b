/- Chapter texts of ours, as far as the claim needs them. -/
import Derived.Test.YtihjaehkdgdenaaGreatDoorRyB
import Derived.Test.YtihjaehkdgdenaaGreatDoorRyA
import Derived.Test.YtihjaehkdgdenaaGreatDoorRtG
import Derived.Test.YtihjaehkdgdenaaGreatDoorUnion
namespace Go.Proofs.YtihjaehkdgdenaaGreatDoor
open Go Go.RowKit
set_option linter.unusedVariables false
set_option linter.unusedSectionVars false
set_option linter.unusedSimpArgs false
theorem S_NewUnion {N : Nat} (hN : N ≤ 3000000) {A : Prop} {B : List Int → Prop} (h : B (idsOf N)) : M_NewUnion (N : Int) fun o => optq o A B := by
  unfold M_NewUnion
  refine ⟨⟨by omega, by omega⟩, ?_⟩
  rw [Int.toNat_natCast]
  have get : ∀ i, i < N → (idsOf N)[i]? = some (i : Int) := fun i hi => by unfold idsOf; rw [List.getElem?_map, List.getElem?_range hi]; rfl
  refine lp_intro (fun s => ∃ k : Nat, s.2 = (k : Int) ∧ k ≤ N ∧ s.1.length = N ∧ ∀ i, i < k → s.1[i]? = some (i : Int)) (fun s => (N - s.2.toNat)) ⟨0, rfl, by omega, by simp, fun i hi => by omega⟩ ?_
  rintro X ⟨l, n⟩ ⟨k, rfl, hk, hl, hi⟩ hX
  show M_NewUnion_L1 _ _ (fun l2 n2 => X (l2, n2)) l (k : Int)
  unfold M_NewUnion_L1
  simp only at hl hi
  rw [Int.toNat_natCast, List.length_replicate]
  refine cnd_of (fun e => ?_) (fun e => ?_)
  · have hkN : k < N := by have := of_decide_eq_true e; omega
    refine idx_nat (List.getElem?_eq_getElem (by omega)) ?_
    have hw : w64 ((k : Int) + 1) = ((k + 1 : Nat) : Int) := by rw [w64_id (by omega) (by omega)]; omega
    rw [Int.toNat_natCast, hw]
    refine hX _ ⟨k + 1, rfl, by omega, by simp [hl], fun i hi' => ?_⟩ (by simp only [Int.toNat_natCast]; omega)
    simp only
    rw [set_get (by omega)]
    by_cases e2 : i = k
    · subst e2; rw [if_pos rfl]
    · rw [if_neg e2]; exact hi i (by omega)
  · have hkN : k = N := by have := of_decide_eq_false e; omega
    subst hkN
    have : l = idsOf k := List.ext_getElem? fun i => by
      rcases Nat.lt_or_ge i k with h1 | h1
      · rw [hi i h1, get i h1]
      · rw [List.getElem?_eq_none (by omega), List.getElem?_eq_none (by unfold idsOf; simp; omega)]
    subst this
    exact ⟨fun e => (by cases e), fun x hx => (by injection hx with hx; subst hx; exact h)⟩
theorem S_Top {N : Nat} {up : List Int} (ok : UfOk N up) {i : Nat} (hi : i < N) {Q : Int → NetlistUnion → Prop}
    (h : ∀ up' r, UfOk N up' → (∀ j s, Rt up j s ↔ Rt up' j s) → Rt up i r → Q (r : Int) ⟨up'⟩) : M_union_Top ⟨up⟩ (i : Int) Q := by
  unfold M_union_Top
  refine lp_measN (fun m (s : List Int × Int) => s.2 = (m : Int) ∧ m < N ∧ UfOk N s.1 ∧ (∀ j t, Rt up j t ↔ Rt s.1 j t) ∧ ∀ r, Rt up m r → Rt up i r) (n := i) ⟨rfl, hi, ok, fun _ _ => Iff.rfl, fun r hr => hr⟩ ?_
  rintro m ⟨l, n⟩ X ⟨hm, hmN, okl, heq, hrt⟩ hX
  simp only at hm okl heq
  subst hm
  show M_union_Top_L1 Q (fun l2 n2 => X (l2, n2)) l (m : Int)
  unfold M_union_Top_L1
  obtain ⟨p, hp, hle⟩ := okl.le m hmN
  refine idx_nat hp (cnd_of (fun e => ?_) (fun e => ?_))
  · have hne : p ≠ m := fun e' => by subst e'; simp at e
    obtain ⟨q, hq, hqle⟩ := okl.le p (by omega)
    refine idx_nat hq ?_
    obtain ⟨ok2, heq2, h1, h2⟩ := halve okl hp hne hq
    have hml : m < l.length := (List.getElem?_eq_some_iff.1 hp).1
    rw [Int.toNat_natCast]
    have hset : (l.set m (q : Int))[m]? = some (q : Int) := by rw [set_get hml, if_pos rfl]
    refine idx_nat hset (hX q _ (by omega) ⟨rfl, by omega, ok2, fun j t => (heq j t).trans (heq2 j t), fun r hr => hrt r ?_⟩)
    have hrl := (heq q r).1 hr
    refine (heq m r).2 (.up hp hne ?_)
    by_cases e2 : q = p
    · subst e2; exact hrl
    · exact .up hq e2 hrl
  · have hpm : p = m := by
      have : (p : Int) = (m : Int) := by simpa using e
      omega
    subst hpm
    exact h l p okl heq (hrt p ((heq p p).2 (.self hp)))
theorem S_Join {N : Nat} {up : List Int} (ok : UfOk N up) {i k : Nat} (hi : i < N) (hk : k < N) {Q : NetlistUnion → Prop}
    (h : ∀ up', UfOk N up' → Same up' i k → (∀ j l, Same up j l → Same up' j l) → (∀ j l, Same up' j l → Same up j l ∨ (Same up j i ∧ Same up k l) ∨ (Same up j k ∧ Same up i l)) → Q ⟨up'⟩) : M_union_Join ⟨up⟩ (i : Int) (k : Int) Q := by
  unfold M_union_Join
  refine S_Top ok hi fun u1 a ok1 eq1 ha => ?_
  refine S_Top ok1 hk fun u2 b ok2 eq2 hb => ?_
  have hb0 : Rt up k b := (eq1 k b).2 hb
  have eqv : ∀ j s, Rt up j s ↔ Rt u2 j s := fun j s => (eq1 j s).trans (eq2 j s)
  have ra : u2[a]? = some (a : Int) := ((eqv i a).1 ha).root
  have rb : u2[b]? = some (b : Int) := ((eqv k b).1 hb0).root
  have hmax : max (a : Int) (b : Int) = ((max a b : Nat) : Int) := by omega
  have hmin : min (a : Int) (b : Int) = ((min a b : Nat) : Int) := by omega
  rw [hmax, hmin, Int.toNat_natCast]
  have rM : u2[max a b]? = some ((max a b : Nat) : Int) := by rcases Nat.le_total a b with h1 | h1 <;> simp [Nat.max_eq_right, Nat.max_eq_left, h1, ra, rb]
  have rm : u2[min a b]? = some ((min a b : Nat) : Int) := by rcases Nat.le_total a b with h1 | h1 <;> simp [Nat.min_eq_right, Nat.min_eq_left, h1, ra, rb]
  refine idx_nat rM ?_
  obtain ⟨ok3, hj⟩ := join ok2 rM rm (by omega)
  have to_new : ∀ {j s}, Rt up j s → Rt (u2.set (max a b) ((min a b : Nat) : Int)) j (if s = max a b then min a b else s) := fun h => hj _ _ ((eqv _ _).1 h)
  refine h _ ok3 ⟨min a b, ?_, ?_⟩ (fun j l ⟨r, h1, h2⟩ => ⟨_, to_new h1, to_new h2⟩) (fun j l ⟨r, h1, h2⟩ => ?_)
  · have := to_new ha
    have e : (if a = max a b then min a b else a) = min a b := by split <;> omega
    rwa [e] at this
  · have := to_new hb0
    have e : (if b = max a b then min a b else b) = min a b := by split <;> omega
    rwa [e] at this
  · have hjN := (Rt.lt ok3 h1).1
    have hlN := (Rt.lt ok3 h2).1
    obtain ⟨s, hs, _⟩ := ok.rt j hjN
    obtain ⟨t, ht, _⟩ := ok.rt l hlN
    have e1 := h1.uniq (to_new hs)
    have e2 := h2.uniq (to_new ht)
    rw [e1] at e2
    have cases3 : s = t ∨ (s = a ∧ t = b) ∨ (s = b ∧ t = a) := by
      by_cases c1 : s = max a b <;> by_cases c2 : t = max a b
      · exact .inl (c1.trans c2.symm)
      · rw [if_pos c1, if_neg c2] at e2; omega
      · rw [if_neg c1, if_pos c2] at e2; omega
      · rw [if_neg c1, if_neg c2] at e2; exact .inl e2
    rcases cases3 with rfl | ⟨rfl, rfl⟩ | ⟨rfl, rfl⟩
    · exact .inl ⟨s, hs, ht⟩
    · exact .inr (.inl ⟨⟨s, hs, ha⟩, ⟨t, hb0, ht⟩⟩)
    · exact .inr (.inr ⟨⟨s, hs, hb0⟩, ⟨t, ha, ht⟩⟩)
theorem S_Sets {N : Nat} {up : List Int} (ok : UfOk N up) (hN : N ≤ 3000000) {Q : List (List Int) → NetlistUnion → Prop}
    (h : ∀ L u', (L.length < 2 ↔ ∀ j, j < N → Rt up j 0) → Q L u') : M_union_Sets ⟨up⟩ Q := by
  unfold M_union_Sets
  refine lp_intro (fun s => ∃ n : Nat, s.2.2.2 = (n : Int) ∧ n ≤ N ∧ UfOk N s.1 ∧ (∀ j t, Rt up j t ↔ Rt s.1 j t) ∧ (s.2.1.length < 2 ↔ ∀ j, j < n → Rt up j 0) ∧ (0 < n → 1 ≤ s.2.1.length) ∧ (n = 0 → s.2.1.length = 0) ∧ s.2.1.length ≤ n ∧ (∀ x ∈ s.2.1, x.length ≤ n) ∧ (∀ r, r < n → up[r]? = some (r : Int) → ∃ q : Nat, mget s.2.2.1 (r : Int) = some (q : Int) ∧ q < s.2.1.length)) (fun s => N - s.2.2.2.toNat)
    ⟨0, rfl, by omega, ok, fun _ _ => Iff.rfl, ⟨fun _ j hj => by omega, fun _ => Nat.zero_lt_two⟩, fun h0 => (by omega), fun _ => rfl, Nat.le_refl _, fun x hx => (by cases hx), fun r hr => by omega⟩ ?_
  rintro X ⟨l, L, m, n'⟩ ⟨n, hn', hn, okl, heq, hI, hI1, hI0, hL, hx, hm⟩ hX
  simp only at hn' okl heq hI hI1 hI0 hL hx hm
  subst hn'
  show M_union_Sets_L1 ⟨up⟩ Q (fun l3 l4 m2 n2 => X (l3, l4, m2, n2)) l L m (n : Int)
  unfold M_union_Sets_L1
  have hlen : (up.length : Int) = (N : Int) := by rw [ok.len]
  show cnd (decide ((n : Int) < (up.length : Int))) _ _
  rw [hlen]
  refine cnd_of (fun e => ?_) (fun e => ?_)
  · have hnN : n < N := by have := of_decide_eq_true e; omega
    refine S_Top okl hnN fun u2 r ok2 eq2 hr => ?_
    have hr0 : Rt up n r := (heq n r).2 hr
    have hrle := (Rt.lt ok hr0).2.2
    have eqv : ∀ j t, Rt up j t ↔ Rt u2 j t := fun j t => (heq j t).trans (eq2 j t)
    have hw : w64 ((n : Int) + 1) = ((n + 1 : Nat) : Int) := by rw [w64_id (by omega) (by omega)]; omega
    have go : ∀ (L' : List (List Int)) (m' : List (Int × Int)), (L'.length < 2 ↔ ∀ j, j < n + 1 → Rt up j 0) → 1 ≤ L'.length → L'.length ≤ n + 1 → (∀ x ∈ L', x.length ≤ n) → (∀ r, r < n + 1 → up[r]? = some (r : Int) → ∃ q : Nat, mget m' (r : Int) = some (q : Int) ∧ q < L'.length) →
        M_union_Sets_k2 (n : Int) (fun l3 l4 m2 n2 => X (l3, l4, m2, n2)) (r : Int) ⟨u2⟩ L' m' := by
      intro L' m' h1 h2 h3 h4 h5
      unfold M_union_Sets_k2
      obtain ⟨q, hq, hql⟩ := h5 r (by omega) hr0.root
      rw [hq, Option.getD_some, Int.toNat_natCast, hw]
      have hg := List.getElem?_eq_getElem hql
      refine idx_nat hg ?_
      have hxl := h4 _ (List.mem_of_getElem? hg)
      refine ⟨⟨by rw [List.length_append, List.length_singleton]; omega, by rw [List.length_append, List.length_singleton]; omega⟩, ?_⟩
      refine hX _ ⟨n + 1, rfl, by omega, ok2, eqv, by simpa using h1, fun _ => by simpa using h2, fun h0 => by omega, by simpa using h3, fun x hx' => ?_, fun r' hr' hrr => ?_⟩ (by simp only [Int.toNat_natCast]; omega)
      · rcases List.mem_or_eq_of_mem_set hx' with h6 | h6
        · have := h4 x h6; omega
        · rw [h6, List.length_append, List.length_singleton]; omega
      · obtain ⟨q', hq', hl'⟩ := h5 r' hr' hrr
        exact ⟨q', hq', by simpa using hl'⟩
    refine cnd_of (fun e2 => ?_) (fun e2 => ?_)
    · have e3 : r = n := by have : (r : Int) = (n : Int) := by simpa using e2
                            omega
      subst e3
      refine ⟨⟨by rw [List.length_append, List.length_singleton]; omega, by rw [List.length_append, List.length_singleton]; omega⟩, go _ _ ?_ ?_ ?_ ?_ ?_⟩
      · rw [List.length_append, List.length_singleton]
        constructor
        · intro h1 j hj
          have h0 : r = 0 := Classical.byContradiction fun hc => by have := hI1 (by omega); omega
          have : j = 0 := by omega
          rw [this]; exact root0 ok (by omega)
        · intro h1
          have := (h1 r (by omega)).uniq hr0
          have := hI0 this.symm
          omega
      · rw [List.length_append, List.length_singleton]; omega
      · rw [List.length_append, List.length_singleton]; omega
      · intro x hx'
        rcases List.mem_append.1 hx' with h1 | h1
        · exact hx x h1
        · rw [List.mem_singleton.1 h1]; exact Nat.zero_le _
      · intro r' hr' hrr
        rw [mget_put]
        by_cases e4 : (r : Int) = (r' : Int)
        · rw [if_pos e4]; exact ⟨L.length, rfl, by rw [List.length_append, List.length_singleton]; omega⟩
        · rw [if_neg e4]
          obtain ⟨q, h1, h2⟩ := hm r' (by omega) hrr
          exact ⟨q, h1, by rw [List.length_append]; omega⟩
    · have e3 : r ≠ n := fun e' => by subst e'; simp at e2
      have hn0 : 0 < n := by omega
      refine go _ _ ⟨fun h1 j hj => ?_, fun h1 => hI.2 fun j hj => h1 j (by omega)⟩ (hI1 hn0) (by omega) hx fun r' hr' hrr => ?_
      · by_cases ej : j = n
        · subst ej
          have h2 := hI.1 h1 r (by omega)
          have h3 := h2.uniq (.self hr0.root)
          rw [h3]; exact hr0
        · exact hI.1 h1 j (by omega)
      · by_cases e4 : r' = n
        · subst e4
          have := hr0.uniq (.self hrr)
          exact absurd this e3
        · exact hm r' (by omega) hrr
  · have hnN : n = N := by have := of_decide_eq_false e; omega
    subst hnN
    exact h L _ hI
end Go.Proofs.YtihjaehkdgdenaaGreatDoor

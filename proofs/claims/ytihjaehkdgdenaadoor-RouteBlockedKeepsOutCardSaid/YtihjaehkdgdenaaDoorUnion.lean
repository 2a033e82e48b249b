/- Chapter texts of ours, as far as the claim needs them. -/
import Derived.Test.YtihjaehkdgdenaaDoorHeap
namespace Go.Proofs.YtihjaehkdgdenaaDoor
open Go Go.RowKit
set_option linter.unusedVariables false
set_option linter.unusedSectionVars false
set_option linter.unusedSimpArgs false
structure UfOk (N : Nat) (up : List Int) : Prop where
  len : up.length = N
  le : ∀ i, i < N → ∃ p : Nat, up[i]? = some (p : Int) ∧ p ≤ i
inductive Rt (up : List Int) : Nat → Nat → Prop
  | self {r : Nat} (h : up[r]? = some (r : Int)) : Rt up r r
  | up {i p r : Nat} (h : up[i]? = some (p : Int)) (hne : p ≠ i) (hr : Rt up p r) : Rt up i r
theorem Rt.root {up : List Int} {i r : Nat} (h : Rt up i r) : up[r]? = some (r : Int) := by
  induction h with
  | self h => exact h
  | up _ _ _ ih => exact ih
theorem Rt.uniq {up : List Int} {i r s : Nat} (h : Rt up i r) : Rt up i s → r = s := by
  induction h with
  | self h =>
    intro hs
    cases hs with
    | self _ => rfl
    | up h2 hne _ => rw [h] at h2; injection h2 with h2; exact absurd (by omega) hne
  | up h hne _ ih =>
    intro hs
    cases hs with
    | self h2 => rw [h] at h2; injection h2 with h2; exact absurd (by omega) hne
    | up h2 _ hr =>
      rw [h] at h2; injection h2 with h2
      have e := Int.ofNat_inj.1 h2
      subst e; exact ih hr
theorem UfOk.rt {N : Nat} {up : List Int} (ok : UfOk N up) : ∀ i, i < N → ∃ r, Rt up i r ∧ r ≤ i := by
  intro i
  induction i using Nat.strongRecOn with
  | _ i ih =>
    intro hi
    obtain ⟨p, hp, hle⟩ := ok.le i hi
    by_cases e : p = i
    · subst e; exact ⟨p, .self hp, Nat.le_refl _⟩
    · obtain ⟨r, hr, hr2⟩ := ih p (by omega) (by omega)
      exact ⟨r, .up hp e hr, by omega⟩
theorem Rt.lt {N : Nat} {up : List Int} (ok : UfOk N up) {i r : Nat} (h : Rt up i r) : i < N ∧ r < N ∧ r ≤ i := by
  have low : ∀ {j p : Nat}, up[j]? = some (p : Int) → j < N ∧ p ≤ j := fun {j p} hj => by
    have hl : j < N := by rw [← ok.len]; exact (List.getElem?_eq_some_iff.1 hj).1
    obtain ⟨q, hq, hle⟩ := ok.le j hl
    rw [hj] at hq; injection hq with hq
    exact ⟨hl, by omega⟩
  induction h with
  | self h => have := low h; omega
  | up h _ _ ih => have := low h; omega
theorem set_get {up : List Int} {m : Nat} {v : Int} (hm : m < up.length) (j : Nat) : (up.set m v)[j]? = if j = m then some v else up[j]? := by
  rw [List.getElem?_set]
  by_cases e : m = j
  · subst e; rw [if_pos rfl, if_pos hm, if_pos rfl]
  · rw [if_neg e, if_neg (Ne.symm e)]
theorem halve {N : Nat} {up : List Int} (ok : UfOk N up) {m p q : Nat} (hm : up[m]? = some (p : Int)) (hne : p ≠ m) (hp : up[p]? = some (q : Int)) : UfOk N (up.set m (q : Int)) ∧ (∀ j s, Rt up j s ↔ Rt (up.set m (q : Int)) j s) ∧ q ≤ p ∧ p < m := by
  have hml : m < up.length := (List.getElem?_eq_some_iff.1 hm).1
  have hmN : m < N := by rw [← ok.len]; exact hml
  obtain ⟨p', h1, h2⟩ := ok.le m hmN
  rw [hm] at h1; injection h1 with h1
  have hpm : p < m := by omega
  obtain ⟨q', h3, h4⟩ := ok.le p (by omega)
  rw [hp] at h3; injection h3 with h3
  have hqp : q ≤ p := by omega
  have ok2 : UfOk N (up.set m (q : Int)) := ⟨by rw [List.length_set]; exact ok.len, fun i hi => by
    rw [set_get hml]
    by_cases e : i = m
    · subst e; exact ⟨q, if_pos rfl, by omega⟩
    · rw [if_neg e]; exact ok.le i hi⟩
  have fwd : ∀ j s, Rt up j s → Rt (up.set m (q : Int)) j s := by
    intro j
    induction j using Nat.strongRecOn with
    | _ j ih =>
      intro s hs
      have hj := Rt.lt ok hs
      by_cases e : j = m
      · subst e
        cases hs with
        | self h => rw [hm] at h; injection h with h; exact absurd (by omega) hne
        | up h hn hr =>
          rw [hm] at h; injection h with h
          have e := Int.ofNat_inj.1 h
          subst e
          have hset : (up.set j (q : Int))[j]? = some (q : Int) := by rw [set_get hml, if_pos rfl]
          cases hr with
          | self h' =>
            rw [hp] at h'; injection h' with h'
            have e2 := Int.ofNat_inj.1 h'
            subst e2
            exact .up hset (by omega) (ih q (by omega) q (.self hp))
          | up h' hn' hr' =>
            rw [hp] at h'; injection h' with h'
            have e2 := Int.ofNat_inj.1 h'
            subst e2
            exact .up hset (by omega) (ih q (by omega) s hr')
      · have hset : (up.set m (q : Int))[j]? = up[j]? := by rw [set_get hml, if_neg e]
        cases hs with
        | self h => exact .self (hset.trans h)
        | up h hn hr =>
          obtain ⟨p2, h5, h6⟩ := ok.le j hj.1
          rw [h] at h5; injection h5 with h5
          exact .up (hset.trans h) hn (ih _ (by omega) s hr)
  refine ⟨ok2, fun j s => ⟨fwd j s, fun h => ?_⟩, hqp, hpm⟩
  obtain ⟨s0, h0, _⟩ := ok.rt j (Rt.lt ok2 h).1
  rw [h.uniq (fwd j s0 h0)]; exact h0
theorem join {N : Nat} {up : List Int} (ok : UfOk N up) {a b : Nat} (ha : up[a]? = some (a : Int)) (hb : up[b]? = some (b : Int)) (hab : b ≤ a) : UfOk N (up.set a (b : Int)) ∧ (∀ j s, Rt up j s → Rt (up.set a (b : Int)) j (if s = a then b else s)) := by
  have hal : a < up.length := (List.getElem?_eq_some_iff.1 ha).1
  refine ⟨⟨by rw [List.length_set]; exact ok.len, fun i hi => ?_⟩, ?_⟩
  · rw [set_get hal]
    by_cases e : i = a
    · subst e; exact ⟨b, if_pos rfl, hab⟩
    · rw [if_neg e]; exact ok.le i hi
  · intro j s h
    have hset : ∀ j, j ≠ a → (up.set a (b : Int))[j]? = up[j]? := fun j hj => by rw [set_get hal, if_neg hj]
    have hseta : (up.set a (b : Int))[a]? = some (b : Int) := by rw [set_get hal, if_pos rfl]
    induction h with
    | @self r h =>
      by_cases e : r = a
      · subst e
        rw [if_pos rfl]
        by_cases e2 : b = r
        · subst e2; exact .self hseta
        · exact .up hseta e2 (.self ((hset b e2).trans hb))
      · rw [if_neg e]; exact .self ((hset r e).trans h)
    | @up i p r h hne hr ih =>
      by_cases e : i = a
      · subst e; rw [ha] at h; injection h with h; exact absurd (Int.ofNat_inj.1 h).symm hne
      · exact .up ((hset i e).trans h) hne ih
def Same (up : List Int) (i j : Nat) : Prop := ∃ r, Rt up i r ∧ Rt up j r
theorem same_refl {N : Nat} {up : List Int} (ok : UfOk N up) {i : Nat} (hi : i < N) : Same up i i := by
  obtain ⟨r, hr, _⟩ := ok.rt i hi; exact ⟨r, hr, hr⟩
theorem Same.symm {up : List Int} {i j : Nat} (h : Same up i j) : Same up j i := by obtain ⟨r, h1, h2⟩ := h; exact ⟨r, h2, h1⟩
theorem Same.trans {up : List Int} {i j k : Nat} (h : Same up i j) (h' : Same up j k) : Same up i k := by
  obtain ⟨r, h1, h2⟩ := h
  obtain ⟨s, h3, h4⟩ := h'
  have := h2.uniq h3; subst this
  exact ⟨r, h1, h4⟩
def idsOf (N : Nat) : List Int := (List.range N).map (fun i : Nat => (i : Int))
theorem init_uf (N : Nat) : UfOk N (idsOf N) ∧ ∀ i j, Same (idsOf N) i j → i = j := by
  have get : ∀ i, i < N → (idsOf N)[i]? = some (i : Int) := fun i hi => by
    unfold idsOf; rw [List.getElem?_map, List.getElem?_range hi]; rfl
  have ok : UfOk N (idsOf N) := ⟨by unfold idsOf; simp, fun i hi => ⟨i, get i hi, Nat.le_refl _⟩⟩
  have rt : ∀ {i r : Nat}, Rt (idsOf N) i r → r = i := fun {i r} h => by
    have hl := Rt.lt ok h
    exact h.uniq (.self (get i hl.1))
  exact ⟨ok, fun i j ⟨r, h1, h2⟩ => (rt h1).symm.trans (rt h2)⟩
theorem root0 {N : Nat} {up : List Int} (ok : UfOk N up) (hN : 0 < N) : Rt up 0 0 := by
  obtain ⟨r, hr, hle⟩ := ok.rt 0 hN
  have : r = 0 := by omega
  subst this; exact hr
end Go.Proofs.YtihjaehkdgdenaaDoor

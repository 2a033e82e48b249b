/- Least trees by sets of pins: the table and its one way to be filled. Plain lemmas, no program in sight. -/
import Derived.Test.YtihjaehkdgdenaaRelax
namespace Go.Proofs.Ytihjaehkdgdenaa
open Go Go.RowKit
set_option linter.unusedVariables false
set_option linter.unusedSimpArgs false

theorem getDn {l : List Int} {i : Nat} {d : Int} (h : l[i]? = some d) : l.getD i (-1) = d := by rw [List.getD_eq_getElem?_getD, h]; rfl
/-- the parts of a set in the order in which they are gone through, from one on -/
def partsGo (m : Nat) : Nat → Nat → List Nat
  | 0, _ => []
  | f + 1, p => if p = 0 then [] else p :: partsGo m f ((p - 1) &&& m)
def partsOf (m : Nat) : List Nat := partsGo m m ((m - 1) &&& m)
theorem partsGo_fuel {m : Nat} : ∀ (f g p : Nat), p ≤ f → p ≤ g → partsGo m f p = partsGo m g p
  | 0, g, p, h1, h2 => by
    obtain rfl : p = 0 := by omega
    cases g <;> simp [partsGo]
  | f + 1, 0, p, h1, h2 => by
    obtain rfl : p = 0 := by omega
    simp [partsGo]
  | f + 1, g + 1, p, h1, h2 => by
    unfold partsGo
    by_cases h0 : p = 0
    · rw [if_pos h0, if_pos h0]
    · rw [if_neg h0, if_neg h0]
      have : (p - 1) &&& m ≤ p - 1 := Nat.and_le_left
      rw [partsGo_fuel f g _ (by omega) (by omega)]
/-- what the table says of two parts, if it is less -/
def upd (now x y : Int) : Int := if 0 ≤ x ∧ 0 ≤ y ∧ (now < 0 ∨ x + y < now) then x + y else now
def foldP (T : Nat → List Int) (m i : Nat) (l : List Nat) (now : Int) : Int := l.foldl (fun now p => upd now ((T p).getD i (-1)) ((T (m - p)).getD i (-1))) now
/-- what stands for a set ahead of the spreading: pin i is cell num i -/
def base0 (num : Nat → Nat) (k m n : Nat) : Int := if ∃ i, i < k ∧ m = 2 ^ i ∧ num i = n then 0 else -1
def mergeL (num : Nat → Nat) (k N : Nat) (T : Nat → List Int) (m : Nat) : List Int := (List.range N).map (fun n => foldP T m n (partsOf m) (base0 num k m n))
theorem mergeL_get {num : Nat → Nat} {k N : Nat} {T : Nat → List Int} {m n : Nat} (h : n < N) : (mergeL num k N T m)[n]? = some (foldP T m n (partsOf m) (base0 num k m n)) := by
  unfold mergeL; rw [List.getElem?_map, List.getElem?_range h]; rfl
theorem partsGo_mem {m : Nat} : ∀ (f p : Nat), p < m → ∀ x ∈ partsGo m f p, 0 < x ∧ x < m
  | 0, p, _, x, hx => by cases hx
  | f + 1, p, hp, x, hx => by
    unfold partsGo at hx
    split at hx
    · cases hx
    · rcases List.mem_cons.1 hx with h | h
      · omega
      · have : (p - 1) &&& m ≤ p - 1 := Nat.and_le_left
        exact partsGo_mem f _ (by omega) x h
theorem partsOf_mem {m : Nat} {x : Nat} (hx : x ∈ partsOf m) : 0 < x ∧ x < m := by
  have h0 : 0 < m := by
    rcases Nat.eq_zero_or_pos m with h | h
    · subst h; simp [partsOf, partsGo] at hx
    · exact h
  have : (m - 1) &&& m ≤ m - 1 := Nat.and_le_left
  exact partsGo_mem _ _ (by omega) x hx
theorem foldP_congr {T T' : Nat → List Int} {m i : Nat} : ∀ (l : List Nat) (now : Int), (∀ p ∈ l, T p = T' p ∧ T (m - p) = T' (m - p)) → foldP T m i l now = foldP T' m i l now
  | [], now, _ => rfl
  | p :: r, now, h => by
    have h1 := h p List.mem_cons_self
    show foldP T m i r (upd now ((T p).getD i (-1)) ((T (m - p)).getD i (-1))) = foldP T' m i r _
    rw [h1.1, h1.2]
    exact foldP_congr r _ (fun q hq => h q (List.mem_cons_of_mem _ hq))
theorem mergeL_congr {num : Nat → Nat} {k N : Nat} {T T' : Nat → List Int} {m : Nat} (h : ∀ p, 0 < p → p < m → T p = T' p) : mergeL num k N T m = mergeL num k N T' m := by
  unfold mergeL
  refine List.map_congr_left (fun n hn => ?_)
  refine foldP_congr _ _ (fun p hp => ?_)
  have := partsOf_mem hp
  exact ⟨h p this.1 this.2, h (m - p) (by omega) (by omega)⟩
/-- the table is filled up to K -/
def Dwt (G : Gr) (num : Nat → Nat) (k : Nat) (T : Nat → List Int) (K : Nat) : Prop := ∀ m, 0 < m → m < K → G.Spr (mergeL num k G.N T m) (T m)
theorem Dwt.eq {G : Gr} {num : Nat → Nat} {k K : Nat} {T T' : Nat → List Int} (h : Dwt G num k T K) (h' : Dwt G num k T' K) : ∀ m, 0 < m → m < K → T m = T' m := by
  intro m
  induction m using Nat.strongRecOn with
  | _ m ih =>
    intro h0 hK
    have h1 := h m h0 hK
    have h2 := h' m h0 hK
    rw [mergeL_congr (T' := T') (fun p hp hpm => ih p hpm hp (by omega))] at h1
    exact h1.eq h2
theorem Dwt.set {G : Gr} {num : Nat → Nat} {k K : Nat} {T T' : Nat → List Int} (h : Dwt G num k T K) (he : ∀ m, m < K → T' m = T m) (hs : G.Spr (mergeL num k G.N T K) (T' K)) : Dwt G num k T' (K + 1) := fun m h0 hm => by
  rcases Nat.lt_succ_iff_lt_or_eq.1 hm with h1 | h1
  · rw [he m h1, mergeL_congr (T' := T) (fun p _ hp => he p (by omega))]
    exact h m h0 h1
  · subst h1
    rw [mergeL_congr (T' := T) (fun p _ hp => he p hp)]; exact hs
/-- the bound of a set's costs -/
def bnd (N m : Nat) : Int := (2 * m - 1) * (N * 1000)
/-- what the costs of a filled table are -/
structure TOk (G : Gr) (T : Nat → List Int) (K : Nat) : Prop where
  len : ∀ m, 0 < m → m < K → (T m).length = G.N
  val : ∀ m, 0 < m → m < K → ∀ (i : Nat) d, (T m)[i]? = some d → -1 ≤ d ∧ d ≤ bnd G.N m ∧ (0 ≤ d → G.no i = false)
theorem upd_ok {now x y : Int} {B C : Int} (h1 : -1 ≤ now ∧ now ≤ B + C) (hx : x ≤ B) (hy : y ≤ C) : -1 ≤ upd now x y ∧ upd now x y ≤ B + C ∧ (0 ≤ upd now x y → 0 ≤ now ∨ 0 ≤ x) := by
  unfold upd; split <;> omega
theorem bnd_add {N m p : Nat} (h0 : 0 < p) (h1 : p < m) : bnd N p + bnd N (m - p) = bnd N m - N * 1000 := by
  unfold bnd
  rw [← Int.add_mul, show (2 * (p : Int) - 1 + (2 * ((m - p : Nat) : Int) - 1)) = (2 * (m : Int) - 1) - 1 by omega, Int.sub_mul, Int.one_mul]
theorem bnd_mono {N m : Nat} (h0 : 0 < m) : N * 1000 ≤ bnd N m := by
  unfold bnd
  have := Int.mul_le_mul_of_nonneg_right (show (1 : Int) ≤ 2 * (m : Int) - 1 by omega) (show (0 : Int) ≤ (N : Int) * 1000 by omega)
  omega
theorem TOk.merge {G : Gr} {num : Nat → Nat} {k K : Nat} {T : Nat → List Int} (h : TOk G T K) (hK : 0 < K) (hnum : ∀ i, i < k → G.no (num i) = false) : ∀ (l : List Nat), (∀ p ∈ l, 0 < p ∧ p < K) → ∀ i, i < G.N → ∀ now, (-1 ≤ now ∧ now ≤ bnd G.N K - G.N * 1000 ∧ (0 ≤ now → G.no i = false)) → -1 ≤ foldP T K i l now ∧ foldP T K i l now ≤ bnd G.N K - G.N * 1000 ∧ (0 ≤ foldP T K i l now → G.no i = false)
  | [], _, i, hi, now, hn => hn
  | p :: r, hl, i, hi, now, hn => by
    obtain ⟨hp0, hpK⟩ := hl p List.mem_cons_self
    refine TOk.merge h hK hnum r (fun q hq => hl q (List.mem_cons_of_mem _ hq)) i hi _ ?_
    have e1 : (T p)[i]? = some ((T p)[i]'(by rw [h.len p hp0 hpK]; exact hi)) := List.getElem?_eq_getElem _
    have e2 : (T (K - p))[i]? = some ((T (K - p))[i]'(by rw [h.len (K - p) (by omega) (by omega)]; exact hi)) := List.getElem?_eq_getElem _
    have v1 := h.val p hp0 hpK i _ e1
    have v2 := h.val (K - p) (by omega) (by omega) i _ e2
    simp only
    rw [getDn e1, getDn e2]
    have hb := bnd_add (N := G.N) hp0 hpK
    generalize (T p)[i]'_ = x at *
    generalize (T (K - p))[i]'_ = y at *
    unfold upd
    split
    · rename_i hc; exact ⟨by omega, by omega, fun _ => v1.2.2 hc.1⟩
    · exact hn
theorem TOk.base {G : Gr} {num : Nat → Nat} {k K : Nat} {T : Nat → List Int} (h : TOk G T K) (hK : 0 < K) (hnum : ∀ i, i < k → G.no (num i) = false) : ∀ (i : Nat) d, (mergeL num k G.N T K)[i]? = some d → -1 ≤ d ∧ d ≤ bnd G.N K - G.N * 1000 ∧ (0 ≤ d → G.no i = false) := fun i d hd => by
  have hi : i < G.N := by
    have := (List.getElem?_eq_some_iff.1 hd).1
    unfold mergeL at this; simpa using this
  rw [mergeL_get hi] at hd
  injection hd with hd
  rw [← hd]
  refine h.merge hK hnum _ (fun p hp => partsOf_mem hp) i hi _ ?_
  have hb := bnd_mono (N := G.N) hK
  unfold base0
  split
  · rename_i hc
    obtain ⟨j, hj, _, e⟩ := hc
    exact ⟨by omega, by omega, fun _ => e ▸ hnum j hj⟩
  · exact ⟨by omega, by omega, fun hh => by omega⟩
theorem TOk.set {G : Gr} {num : Nat → Nat} {k K : Nat} {T T' : Nat → List Int} (ok : G.Ok) (h : TOk G T K) (hK : 0 < K) (hnum : ∀ i, i < k → G.no (num i) = false) (he : ∀ m, m < K → T' m = T m) (hs : G.Spr (mergeL num k G.N T K) (T' K)) (hle : ∀ (i : Nat) d, (T' K)[i]? = some d → 0 ≤ d → d ≤ bnd G.N K) : TOk G T' (K + 1) := by
  refine ⟨fun m h0 hm => ?_, fun m h0 hm i d hd => ?_⟩
  · rcases Nat.lt_succ_iff_lt_or_eq.1 hm with h1 | h1
    · rw [he m h1]; exact h.len m h0 h1
    · subst h1; exact hs.len
  · rcases Nat.lt_succ_iff_lt_or_eq.1 hm with h1 | h1
    · rw [he m h1] at hd; exact h.val m h0 h1 i d hd
    · subst h1
      refine ⟨hs.low i d hd, ?_, fun h0' => ?_⟩
      · by_cases hd0 : 0 ≤ d
        · exact hle i d hd hd0
        · have := bnd_mono (N := G.N) h0; omega
      · obtain ⟨j, d', c, h2, h3, h4, h5⟩ := hs.snd i d hd h0'
        exact h4.ends.2.2.2
end Go.Proofs.Ytihjaehkdgdenaa

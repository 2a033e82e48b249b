/- Chapter 7: the least tree, in the program: plain laws. -/
import Derived.Test.YtihjaehkdgdenaaRtW
import Derived.Test.YtihjaehkdgdenaaRtX
import Derived.Test.YtihjaehkdgdenaaDw
namespace Go.Proofs.Ytihjaehkdgdenaa
open Go Go.RowKit
set_option linter.unusedVariables false
set_option linter.unusedSimpArgs false

theorem and_tab : ∀ m < 65, ∀ p < 65, 0 < p → andI .i64 (w64 ((p : Nat) - 1 : Int)) (m : Nat) = (((p - 1) &&& m : Nat) : Int) := by decide +kernel
theorem shl_tab : ∀ i < 7, shlI .i64 1 (i : Nat) = ((2 ^ i : Nat) : Int) := by decide +kernel
theorem pow_le {k : Nat} (h : k ≤ 6) : 2 ^ k ≤ 64 := by
  have : 2 ^ k ≤ 2 ^ 6 := Nat.pow_le_pow_right (by omega) h
  exact this
/-- the cells of pins by number -/
def pinNum (g : Grid) (pins : List Cell) (i : Nat) : Nat := numN g (pins.getD i default)
def tabOf (l : List (List Int)) (m : Nat) : List Int := l.getD m []
theorem tabOf_set {l : List (List Int)} {K : Nat} {z : List Int} (h : K < l.length) : (∀ m, m < K → tabOf (l.set K z) m = tabOf l m) ∧ tabOf (l.set K z) K = z := by
  refine ⟨fun m hm => ?_, ?_⟩
  · unfold tabOf
    rw [List.getD_eq_getElem?_getD, List.getD_eq_getElem?_getD, List.getElem?_set_ne (by omega)]
  · unfold tabOf
    rw [List.getD_eq_getElem?_getD, List.getElem?_set_self h]; rfl
theorem tabOf_get {l : List (List Int)} {m : Nat} (h : m < l.length) : l[m]? = some (tabOf l m) := by
  unfold tabOf; rw [List.getD_eq_getElem?_getD, List.getElem?_eq_getElem h]; rfl
def treeMost (g : Grid) : Int := if (grG g).N > 400 then 0 else 6
def leastTF (g : Grid) (c : Costs) (pins : List Cell) : Int := if bothF g c ≠ 0 then bothF g c else pinsF g pins (treeMost g)
theorem findF_nil (g : Grid) (c : Costs) : findF g c [] = bothF g c := by
  unfold findF
  by_cases h : bothF g c ≠ 0
  · rw [if_pos h]
  · rw [if_neg h]
    simp at h; simp [h]
theorem list_set_self {α : Type} {l : List α} {i : Nat} {x : α} (h : l[i]? = some x) : l.set i x = l := by
  apply List.ext_getElem?
  intro j
  rw [List.getElem?_set]
  split
  · rename_i e; subst e; rw [if_pos (lt_of_get h), h]
  · rfl
theorem partsGo_step {m p : Nat} (hp : 0 < p) : partsGo m p p = p :: partsGo m ((p - 1) &&& m) ((p - 1) &&& m) := by
  obtain ⟨q, rfl⟩ : ∃ q, p = q + 1 := ⟨p - 1, by omega⟩
  conv => lhs; unfold partsGo
  rw [if_neg (by omega)]
  have : (q + 1 - 1) &&& m ≤ q := by have := Nat.and_le_left (n := q + 1 - 1) (m := m); omega
  rw [partsGo_fuel q _ _ this (Nat.le_refl _)]
/-- what a least tree's answer is -/
def TreeAns (g : Grid) (c : Costs) (pins : List Cell) (Q : Int → Bool → Int → Prop) : Prop :=
  ∀ T, Dwt (grC g c) (pinNum g pins) pins.length T (2 ^ pins.length) → TOk (grC g c) T (2 ^ pins.length) → ∀ d, (T (2 ^ pins.length - 1))[pinNum g pins 0]? = some d → (d < 0 → Q 0 false 0) ∧ (0 ≤ d → Q d true 0)
theorem foldP_snoc (T : Nat → List Int) (m i : Nat) (l : List Nat) (p : Nat) (now : Int) : foldP T m i (l ++ [p]) now = upd (foldP T m i l now) ((T p).getD i (-1)) ((T (m - p)).getD i (-1)) := by
  unfold foldP; rw [List.foldl_append]; rfl
section
variable {g : Grid} {c : Costs} {pins : List Cell}
theorem pin_free (hg : GOk g) (hp : ∀ x ∈ pins, inG g x = true ∧ x ∉ g.Blocked) : ∀ i, i < pins.length → pinNum g pins i < (grG g).N ∧ (grC g c).no (pinNum g pins i) = false := fun i hi => by
  have hm : pins.getD i default ∈ pins := by
    rw [List.getD_eq_getElem?_getD, List.getElem?_eq_getElem hi]; exact List.getElem_mem hi
  have h := hp _ hm
  refine ⟨numN_lt hg.sz h.1, ?_⟩
  show (noOf g).getD (pinNum g pins i) true = false
  rw [List.getD_eq_getElem?_getD]
  unfold pinNum
  rw [noOf_cell hg h.1, decide_eq_false h.2]; rfl
/-- one part's turn at one cell -/
theorem S_LT_L5 {l2 : List (List Int)} {K p n : Nat} {x y now : Int} {l : List Int} (hpK : p < K) (hK : K ≤ 64) (hl2 : K ≤ l2.length) (hy : (tabOf l2 (K - p))[n]? = some y) (hp0 : 0 < p) (hz : l[n]? = some now) (hx : -1 ≤ x ∧ x ≤ 1000000000) (hyb : -1 ≤ y ∧ y ≤ 1000000000) {next : List Int → Prop} (h : next (l.set n (upd now x y))) : M_route_LeastTree_L5 l2 (K : Int) (p : Int) n x l next := by
  unfold M_route_LeastTree_L5
  rw [show w64 ((K : Int) - (p : Int)) = ((K - p : Nat) : Int) by rw [w64_id] <;> omega]
  refine idx_nat (tabOf_get (by omega)) (idx_nat hy ?_)
  have stay : ¬ (0 ≤ x ∧ 0 ≤ y ∧ (now < 0 ∨ x + y < now)) → M_route_LeastTree_k7 n x l next y false := fun hh => by
    unfold M_route_LeastTree_k7
    simp only [cnd_false]
    unfold upd at h
    rw [if_neg hh, list_set_self hz] at h; exact h
  have turn : (0 ≤ x ∧ 0 ≤ y ∧ (now < 0 ∨ x + y < now)) → M_route_LeastTree_k7 n x l next y true := fun hh => by
    unfold M_route_LeastTree_k7
    simp only [cnd_true]
    unfold upd at h
    rw [if_pos hh] at h
    refine idx_nat hz ?_
    rw [w64_id (n := x + y) (by omega) (by omega)]; exact h
  refine cnd_of (fun e => cnd_of (fun e2 => idx_nat hz (cnd_of (fun e3 => ?_) (fun e3 => ?_))) (fun e2 => ?_)) (fun e => ?_)
  · exact turn ⟨by simpa using e, by simpa using e2, .inl (by simpa using e3)⟩
  · rw [w64_id (n := x + y) (by simp at e e2; omega) (by omega)]
    by_cases e4 : x + y < now
    · rw [decide_eq_true e4]; exact turn ⟨by simpa using e, by simpa using e2, .inr e4⟩
    · rw [decide_eq_false e4]; exact stay (fun hh => by simp at e3; omega)
  · exact stay (fun hh => by simp at e2; omega)
  · exact stay (fun hh => by simp at e; omega)
theorem S_route_LeastTree {Q : Int → Bool → Int → Prop} (h1 : leastTF g c pins ≠ 0 → Q 0 false (leastTF g c pins)) (h0 : leastTF g c pins = 0 → TreeAns g c pins Q) : M_route_LeastTree g c pins Q := by
  unfold M_route_LeastTree
  unfold leastTF at h1 h0
  refine S_find (fun e => ⟨fun _ => ?_, fun x hx => by cases hx⟩) (fun e => ⟨fun hx => (by cases hx), fun x hx => ?_⟩)
  · refine cnd_of (fun _ => ?_) (fun e2 => absurd (by simpa using e2) e)
    rw [findF_nil] at e ⊢
    rw [if_pos e] at h1; exact h1 e
  injection hx with hx; subst hx
  rw [findF_nil] at e
  obtain ⟨hg, hc⟩ := bothF_zero e
  rw [if_neg (by simp [e])] at h1 h0
  have hN := hg.N
  have hf := goodF_of hg hc
  have hnl : (noOf g).length = (grG g).N := by unfold noOf; simp
  show cnd false _ _
  simp only [cnd_false]
  rw [hnl]
  have go : M_route_LeastTree_k1 g c pins Q (noOf g) (treeMost g) := by
    unfold M_route_LeastTree_k1
    refine S_route_checkPins hg (cnd_of (fun e2 => h1 (by simpa using e2)) (fun e2 => ?_))
    have e3 : pinsF g pins (treeMost g) = 0 := by simpa using e2
    have h0 := h0 e3
    obtain ⟨hp0, hpm, hpn, hpf⟩ := pinsF_zero e3
    have hN4 : (grG g).N ≤ 400 ∧ pins.length ≤ 6 := by unfold treeMost at hpm; split at hpm <;> omega
    have hpow := pow_le hN4.2
    have hfree := pin_free (c := c) hg hpf
    have esh : shlI .i64 1 (pins.length : Int) = ((2 ^ pins.length : Nat) : Int) := shl_tab _ (by omega)
    unfold TreeAns at h0
    generalize hA : 2 ^ pins.length = A at h0 hpow esh
    refine ⟨by omega, ⟨by rw [esh]; omega, by rw [esh]; omega⟩, ?_⟩
    rw [esh, Int.toNat_natCast]
    have hA0 : 0 < A := by rw [← hA]; exact Nat.pos_of_ne_zero (by simp)
    refine lp_measN (fun m (s : List (List Int) × Int) => ∃ K : Nat, s.2 = (K : Int) ∧ K + m = A ∧ 0 < K ∧ s.1.length = A ∧ Dwt (grC g c) (pinNum g pins) pins.length (tabOf s.1) K ∧ TOk (grC g c) (tabOf s.1) K) (n := A - 1) ⟨1, rfl, by omega, by omega, by simp, fun m h1 h2 => by omega, ⟨fun m h1 h2 => by omega, fun m h1 h2 => by omega⟩⟩ ?_
    rintro m ⟨l2, n3⟩ X ⟨K, hK, hKm, hK0, hl2, hD, hT⟩ hX
    simp only at hK hl2 hD hT
    subst hK
    show M_route_LeastTree_L1 g c pins Q (noOf g) (fun l2 n3 => X (l2, n3)) l2 (K : Int)
    unfold M_route_LeastTree_L1
    refine cnd_of (fun e4 => ?_) (fun e4 => ?_)
    · have hKA : K < A := by rw [hl2] at e4; simpa using e4
      rw [hnl]
      refine ⟨⟨by omega, by omega⟩, ?_⟩
      -- all are -1 at first
      refine lp_measN (fun m (s : List Int × Int) => ∃ j : Nat, s.2 = (j : Int) ∧ j + m = (grG g).N ∧ s.1.length = (grG g).N ∧ ∀ i, i < j → s.1[i]? = some (-1)) (n := (grG g).N) ⟨0, rfl, by omega, by simp, fun i hi => by omega⟩ ?_
      rintro m2 ⟨l4, n5⟩ Y ⟨j, hj, hjm, hl4, hall⟩ hY
      simp only at hj hl4 hall
      subst hj
      show M_route_LeastTree_L2 g c pins (noOf g) l2 (K : Int) (fun l2 n3 => X (l2, n3)) (fun l4 n5 => Y (l4, n5)) l4 (j : Int)
      unfold M_route_LeastTree_L2
      rw [hnl, List.length_replicate]
      refine cnd_of (fun e5 => ?_) (fun e5 => ?_)
      · have hjl : j < (grG g).N := by simpa using e5
        refine idx_nat (List.getElem?_eq_getElem (by omega)) ?_
        rw [Int.toNat_natCast, show w64 ((j : Int) + 1) = ((j + 1 : Nat) : Int) by rw [w64_id] <;> omega]
        refine hY (m2 - 1) _ (by omega) ⟨j + 1, rfl, by omega, by simp [hl4], fun i hi => ?_⟩
        simp only [List.getElem?_set]
        split
        · rename_i e6; rw [if_pos (by omega)]
        · rename_i e6; exact hall i (by omega)
      · have hjl : j = (grG g).N := by simp at e5; omega
        subst hjl
        -- the pins
        refine forIn0 (fun k (l : List Int) => l.length = (grG g).N ∧ ∀ n, n < (grG g).N → l[n]? = some (base0 (pinNum g pins) k K n)) ⟨hl4, fun n hn => ?_⟩ (fun k x l hx hI next hnx => ?_) (fun l hI => ?_)
        · rw [hall n hn]; unfold base0; rw [if_neg (by rintro ⟨i, hi, _⟩; omega)]
        · unfold M_route_LeastTree_L3
          have hk := lt_of_get hx
          have hxm : x ∈ pins := List.mem_of_getElem? hx
          have hxg := (hpf x hxm).1
          have hxl := numN_lt hg.sz hxg
          have hnum : pinNum g pins k = numN g x := by unfold pinNum; rw [List.getD_eq_getElem?_getD, hx]; rfl
          refine ⟨by omega, ?_⟩
          rw [shl_tab k (by omega)]
          refine cnd_of (fun e6 => ?_) (fun e6 => ?_)
          · have e6' : K = 2 ^ k := by simp only [beq_iff_eq] at e6; exact Int.ofNat_inj.1 e6
            refine S_number hg.sz hxg (idx_nat (List.getElem?_eq_getElem (by rw [hI.1]; exact hxl)) ?_)
            rw [Int.toNat_natCast]
            refine hnx _ ⟨by rw [List.length_set]; exact hI.1, fun n hn => ?_⟩
            rw [List.getElem?_set]
            split
            · rename_i e7
              rw [if_pos (by rw [hI.1]; exact hxl)]
              unfold base0
              rw [if_pos ⟨k, by omega, e6', by rw [hnum]; exact e7⟩]
            · rename_i e7
              rw [hI.2 n hn]
              unfold base0
              congr 1
              by_cases hh : ∃ i, i < k ∧ K = 2 ^ i ∧ pinNum g pins i = n
              · obtain ⟨i, a1, a2, a3⟩ := hh
                rw [if_pos ⟨i, a1, a2, a3⟩, if_pos ⟨i, by omega, a2, a3⟩]
              · rw [if_neg hh, if_neg]
                rintro ⟨i, a1, a2, a3⟩
                rcases Nat.lt_succ_iff_lt_or_eq.1 a1 with a4 | a4
                · exact hh ⟨i, a4, a2, a3⟩
                · subst a4; exact e7 (by rw [← hnum]; exact a3)
          · have e6' : K ≠ 2 ^ k := fun hh => by simp only [beq_eq_false_iff_ne] at e6; exact e6 (by rw [hh])
            refine hnx _ ⟨hI.1, fun n hn => ?_⟩
            rw [hI.2 n hn]
            unfold base0
            congr 1
            by_cases hh : ∃ i, i < k ∧ K = 2 ^ i ∧ pinNum g pins i = n
            · obtain ⟨i, a1, a2, a3⟩ := hh
              rw [if_pos ⟨i, a1, a2, a3⟩, if_pos ⟨i, by omega, a2, a3⟩]
            · rw [if_neg hh, if_neg]
              rintro ⟨i, a1, a2, a3⟩
              rcases Nat.lt_succ_iff_lt_or_eq.1 a1 with a4 | a4
              · exact hh ⟨i, a4, a2, a3⟩
              · subst a4; exact e6' a2
        · -- the parts
          show lp _ (l, andI .i64 (w64 ((K : Int) - 1)) (K : Int))
          rw [and_tab K (by omega) K (by omega) hK0]
          have hle : (K - 1) &&& K ≤ K - 1 := Nat.and_le_left
          refine lp_measN (fun m (s : List Int × Int) => ∃ pre, s.2 = (m : Int) ∧ m < K ∧ partsOf K = pre ++ partsGo K m m ∧ s.1.length = (grG g).N ∧ ∀ n, n < (grG g).N → s.1[n]? = some (foldP (tabOf l2) K n pre (base0 (pinNum g pins) pins.length K n))) (n := (K - 1) &&& K) ⟨[], rfl, by omega, ?_, hI.1, hI.2⟩ ?_
          · rw [List.nil_append]; exact partsGo_fuel _ _ _ (by omega) (Nat.le_refl _)
          · rintro p ⟨l8, n7⟩ Z ⟨pre, hp, hpK, hpre, hl8, hval⟩ hZ
            simp only at hp hl8 hval
            subst hp
            show M_route_LeastTree_L4 g c (noOf g) l2 (K : Int) (fun l2 n3 => X (l2, n3)) (fun l8 n7 => Z (l8, n7)) l8 (p : Int)
            unfold M_route_LeastTree_L4
            refine cnd_of (fun e6 => ?_) (fun e6 => ?_)
            · have hp1 : 0 < p := by simp at e6; omega
              refine idx_nat (tabOf_get (by omega)) ?_
              have hlp : (tabOf l2 p).length = (grG g).N := hT.len p hp1 hpK
              have hlq : (tabOf l2 (K - p)).length = (grG g).N := hT.len (K - p) (by omega) (by omega)
              have hbn : ∀ q, 0 < q → q < K → bnd (grG g).N q ≤ 1000000000 := fun q hq hqK => by
                unfold bnd
                have := Int.mul_le_mul (show (2 * (q : Int) - 1) ≤ 200 by omega) (show ((grG g).N : Int) * 1000 ≤ 400000 by omega) (by omega) (by omega)
                omega
              refine forIn0 (fun k (s : List Int) => s.length = (grG g).N ∧ ∀ n, n < (grG g).N → s[n]? = some (foldP (tabOf l2) K n (if n < k then pre ++ [p] else pre) (base0 (pinNum g pins) pins.length K n))) ⟨hl8, fun n hn => by rw [if_neg (by omega)]; exact hval n hn⟩ (fun k x s hx hI2 next hnx => ?_) (fun s hI2 => ?_)
              · have hk : k < (grG g).N := by rw [← hlp]; exact lt_of_get hx
                have hy : (tabOf l2 (K - p))[k]? = some ((tabOf l2 (K - p))[k]'(by rw [hlq]; exact hk)) := List.getElem?_eq_getElem _
                generalize (tabOf l2 (K - p))[k]'(by rw [hlq]; exact hk) = y at hy
                have hz := hI2.2 k hk
                rw [if_neg (by omega)] at hz
                have vx := hT.val p hp1 hpK k x hx
                have vy := hT.val (K - p) (by omega) (by omega) k y hy
                have b1 := hbn p hp1 hpK
                have b2 := hbn (K - p) (by omega) (by omega)
                refine S_LT_L5 hpK (by omega) (by omega) hy hp1 hz ⟨vx.1, Int.le_trans vx.2.1 b1⟩ ⟨vy.1, Int.le_trans vy.2.1 b2⟩ ?_
                refine hnx _ ⟨by rw [List.length_set]; exact hI2.1, fun n hn => ?_⟩
                rw [List.getElem?_set]
                split
                · rename_i e7
                  subst e7
                  rw [if_pos (by rw [hI2.1]; exact hk), if_pos (by omega), foldP_snoc, getDn hx, getDn hy]
                · rename_i e7
                  rw [hI2.2 n hn]
                  by_cases e8 : n < k
                  · rw [if_pos e8, if_pos (by omega)]
                  · rw [if_neg e8, if_neg (by omega)]
              · show Z (s, andI .i64 (w64 ((p : Int) - 1)) (K : Int))
                rw [and_tab K (by omega) p (by omega) hp1]
                have hle2 : (p - 1) &&& K ≤ p - 1 := Nat.and_le_left
                refine hZ ((p - 1) &&& K) _ (by omega) ⟨pre ++ [p], rfl, by omega, ?_, hI2.1, fun n hn => ?_⟩
                · rw [hpre, partsGo_step hp1]; simp
                · rw [hI2.2 n hn, hlp, if_pos hn]
            · have hp1 : p = 0 := by simp at e6; omega
              subst hp1
              have hpre2 : partsOf K = pre := by rw [hpre]; simp [partsGo]
              have hl8e : l8 = mergeL (pinNum g pins) pins.length (grC g c).N (tabOf l2) K := by
                apply List.ext_getElem?
                intro n
                rcases Nat.lt_or_ge n (grG g).N with hn | hn
                · rw [hval n hn, mergeL_get (show n < (grC g c).N from hn), hpre2]
                · rw [List.getElem?_eq_none (by rw [hl8]; exact hn), List.getElem?_eq_none (by unfold mergeL; simp; exact hn)]
              have hbase := hT.base hK0 (fun i hi => (hfree i hi).2)
              rw [← hl8e] at hbase
              have hbK : bnd (grC g c).N K ≤ 1000000000 ∧ (grC g c).N * 1000 ≤ bnd (grC g c).N K := by
                refine ⟨?_, bnd_mono hK0⟩
                unfold bnd
                have := Int.mul_le_mul (show (2 * (K : Int) - 1) ≤ 200 by omega) (show ((grC g c).N : Int) * 1000 ≤ 400000 by have h9 : (grC g c).N ≤ 400 := hN4.1; omega) (by omega) (by omega)
                omega
              refine S_finder_spread (f := ⟨g, c, noOf g⟩) hf (M := bnd (grC g c).N K - (grC g c).N * 1000) ⟨by omega, by omega⟩ hl8 hbase (fun z hz hzb => ?_)
              rw [hl8e] at hz
              refine idx_nat (tabOf_get (by omega)) ?_
              obtain ⟨s1, s2⟩ := tabOf_set (l := l2) (K := K) (z := z) (by omega)
              rw [Int.toNat_natCast, show w64 ((K : Int) + 1) = ((K + 1 : Nat) : Int) by rw [w64_id] <;> omega]
              refine hX (m - 1) _ (by omega) ⟨K + 1, rfl, by omega, by omega, by simp [hl2], hD.set s1 (by rw [s2]; exact hz), hT.set hf.ok hK0 (fun i hi => (hfree i hi).2) s1 (by rw [s2]; exact hz) (fun i d hd hd0 => ?_)⟩
              rw [s2] at hd
              have h9 := hzb i d hd hd0
              have h10 : (grOf ⟨g, c, noOf g⟩).N = (grC g c).N := rfl
              rw [h10] at h9
              omega
    · have hKA : K = A := by rw [hl2] at e4; simp at e4; omega
      subst hKA
      rw [hl2, show w64 ((K : Int) - 1) = ((K - 1 : Nat) : Int) by rw [w64_id] <;> omega]
      refine idx_nat (tabOf_get (by omega)) ?_
      have hx0 : pins[0]? = some (pins.getD 0 default) := by rw [List.getD_eq_getElem?_getD, List.getElem?_eq_getElem hp0]; rfl
      refine idx_nat (i := 0) hx0 ?_
      have hxg := hpf _ (List.mem_of_getElem? hx0)
      have hxl := (hfree 0 hp0).1
      refine S_number hg.sz hxg.1 ?_
      have hK1 : 1 < K := by rw [← hA]; exact Nat.one_lt_two_pow (by omega)
      have hlK : (tabOf l2 (K - 1)).length = (grG g).N := hT.len (K - 1) (by omega) (by omega)
      have hd : (tabOf l2 (K - 1))[pinNum g pins 0]? = some ((tabOf l2 (K - 1))[pinNum g pins 0]'(by rw [hlK]; exact hxl)) := List.getElem?_eq_getElem _
      generalize (tabOf l2 (K - 1))[pinNum g pins 0]'(by rw [hlK]; exact hxl) = d at hd
      refine idx_nat (i := pinNum g pins 0) hd ?_
      obtain ⟨q1, q2⟩ := h0 (tabOf l2) hD hT d hd
      exact cnd_of (fun e5 => q1 (by simpa using e5)) (fun e5 => q2 (by simpa using e5))
  refine cnd_of (fun e2 => ?_) (fun e2 => ?_)
  · have : treeMost g = 0 := by unfold treeMost; rw [if_pos (by simp at e2; omega)]
    rw [this] at go; exact go
  · have : treeMost g = 6 := by unfold treeMost; rw [if_neg (by simp at e2; omega)]
    rw [this] at go; exact go
end
end Go.Proofs.Ytihjaehkdgdenaa

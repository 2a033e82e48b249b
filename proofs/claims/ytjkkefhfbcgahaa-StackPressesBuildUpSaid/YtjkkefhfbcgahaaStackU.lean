/- Chapter 4: presses build up: plain. -/
import Derived.Test.YtjkkefhfbcgahaaStackT
namespace Go.Proofs.Ytjkkefhfbcgahaa
open Go Go.RowKit
set_option linter.unusedVariables false

/-- which spans are drilled behind i presses and j holes of the next one -/
def drillAt (all l : List Through) (i : Nat) (H : List Int) (j : Nat) : List Int := (List.range l.length).map (fun k => if l.getD k default ∈ all.take i ∨ (k : Int) ∈ H.take j then 1 else 0)
theorem drillAt_get {all l : List Through} {i : Nat} {H : List Int} {j k : Nat} (hk : k < l.length) : (drillAt all l i H j)[k]? = some (if l.getD k default ∈ all.take i ∨ (k : Int) ∈ H.take j then 1 else 0) := by
  unfold drillAt; rw [List.getElem?_map, List.getElem?_range hk]; rfl
theorem drillAt_len (all l : List Through) (i : Nat) (H : List Int) (j : Nat) : (drillAt all l i H j).length = l.length := by simp [drillAt]
theorem drillAt_step {all l : List Through} {i : Nat} {H : List Int} {j k : Nat} (hk : k < l.length) (hj : H[j]? = some (k : Int)) : (drillAt all l i H j).set k 1 = drillAt all l i H (j + 1) := by
  refine List.ext_getElem? (fun p => ?_)
  rw [List.getElem?_set, drillAt_len]
  by_cases hp : p < l.length
  · rw [drillAt_get hp, drillAt_get hp]
    by_cases he : k = p
    · subst he
      rw [if_pos rfl, if_pos hk, if_pos]
      refine .inr ?_
      rw [List.take_add_one, hj]; simp
    · rw [if_neg he]
      congr 1
      have : ((p : Int) ∈ H.take (j + 1)) ↔ (p : Int) ∈ H.take j := by
        rw [List.take_add_one, hj]; simp; omega
      simp only [this]
  · rw [if_neg (by omega), List.getElem?_eq_none (by rw [drillAt_len]; omega), List.getElem?_eq_none (by rw [drillAt_len]; omega)]
theorem drillAt_next {all l : List Through} {i : Nat} {b : Through} (hb : all[i]? = some b) : drillAt all l i (holesFor l b l.length) (holesFor l b l.length).length = drillAt all l (i + 1) [] 0 := by
  unfold drillAt
  refine List.map_congr_left (fun k hk => ?_)
  rw [List.mem_range] at hk
  rw [List.take_length]
  have e1 : ((k : Int) ∈ holesFor l b l.length) ↔ l.getD k default = b := by
    rw [mem_holesFor]
    constructor
    · rintro ⟨q, _, h2, h3⟩
      obtain rfl : k = q := by omega
      exact h3
    · intro h; exact ⟨k, hk, rfl, h⟩
  have e2 : (l.getD k default ∈ all.take i ∨ (k : Int) ∈ holesFor l b l.length) ↔ (l.getD k default ∈ all.take (i + 1) ∨ (k : Int) ∈ ([] : List Int).take 0) := by
    rw [e1, List.take_add_one, hb]; simp
  simp only [e2]
theorem not_before {all : List Through} (hp : all.Pairwise (fun a b => liesB b a = false)) {i : Nat} {b : Through} (hb : all[i]? = some b) : ∀ a ∈ all.take i, liesB b a = false := fun a ha => by
  obtain ⟨j, hj1, hj2⟩ := List.getElem_of_mem ha
  rw [List.length_take] at hj1
  have hi := lt_of_get hb
  have := List.pairwise_iff_getElem.1 hp j i (by omega) hi (by omega)
  rw [List.getElem?_eq_getElem hi] at hb
  injection hb with hb
  rw [List.getElem_take] at hj2
  rw [hj2, hb] at this; exact this
theorem lies_self (b : Through) : liesB b b = true := by unfold liesB; simp
theorem law_BuildUp_true (m : List Material) (s : List Layer) (l : List Through) (hmf : Fits.fits m) (hf : Fits.fits s) : M_law_BuildUp m s l (· = true) := by
  unfold M_law_BuildUp
  refine S_stack_Presses hmf hf ?_
  by_cases e : spansFault m s l = 0
  · rw [show pressesOf m s l = (pressTo m s l (allOf m s l).length, 0) by unfold pressesOf; rw [if_neg (fun hh => hh e)]]
    obtain ⟨h1, hll, hspan⟩ := spans_ok e
    obtain ⟨hpw, hin, hmem, _⟩ := all_facts e
    have hal := allOf_len (m := m) (s := s) (l := l)
    obtain ⟨_, hsl, hc2, _, _, _⟩ := stack_ok h1
    refine cnd_of (fun e => by simp at e) (fun _ => ⟨⟨by omega, by omega⟩, ?_⟩)
    refine forIn0 (fun i d => d = drillAt (allOf m s l) l i [] 0) ?_ (fun i x d hx hI next hn => ?_) (fun d hI => ?_)
    · refine List.ext_getElem? (fun p => ?_)
      by_cases hp : p < l.length
      · rw [drillAt_get hp, List.getElem?_replicate, if_pos hp]; simp
      · rw [List.getElem?_eq_none (by simp; omega), List.getElem?_eq_none (by rw [drillAt_len]; omega)]
    · have hi := lt_of_get hx
      rw [pressTo_len] at hi
      rw [pressTo_get m s l _ i hi] at hx
      injection hx with hx
      have hb : (allOf m s l)[i]? = some ((allOf m s l).getD i default) := by rw [List.getD_eq_getElem?_getD, List.getElem?_eq_getElem hi]; rfl
      generalize hbe : (allOf m s l).getD i default = b at hb
      have hxf : x.From = b.From ∧ x.To = b.To ∧ x.Holes = holesFor l b l.length := by rw [← hx]; unfold pressAt; rw [hbe]; exact ⟨rfl, rfl, rfl⟩
      obtain ⟨f1, f2, f3⟩ := hxf
      have hnb := not_before hpw hb
      unfold M_law_BuildUp_L1
      rw [f3]
      refine forIn0 (fun j d2 => d2 = drillAt (allOf m s l) l i (holesFor l b l.length) j) ?_ (fun j h d2 hh hJ next2 hn2 => ?_) (fun d2 hJ => ?_)
      · rw [hI]; unfold drillAt; simp
      · have hX := hn2 _ rfl
        obtain ⟨q, hq, hhq, hlq⟩ := mem_holesFor.1 (List.mem_of_getElem? hh)
        subst hhq
        have hlg : l[q]? = some b := by rw [← hlq, List.getD_eq_getElem?_getD, List.getElem?_eq_getElem hq]; rfl
        rw [← drillAt_step hq hh, ← hJ] at hX
        have hv : d2[q]? = some 0 := by
          rw [hJ, drillAt_get hq, if_neg]
          rintro (hc | hc)
          · rw [hlq] at hc
            have := hnb b hc
            rw [lies_self] at this; cases this
          · have hnd := holesFor_nodup l b l.length
            obtain ⟨p, hp1, hp2⟩ := List.getElem_of_mem hc
            rw [List.length_take] at hp1
            have hjl := lt_of_get hh
            rw [List.getElem?_eq_getElem hjl] at hh
            injection hh with hh
            rw [List.getElem_take, ← hh] at hp2
            have := (List.getElem_inj hnd).1 hp2
            omega
        unfold M_law_BuildUp_L3 M_law_BuildUp_k6
        refine cnd_of (fun e => absurd (of_decide_eq_true e) (by omega)) (fun _ => cnd_of (fun e => absurd (of_decide_eq_true e) (by omega)) (fun _ => idx_nat hlg ?_))
        refine cnd_of (fun e => ?_) (fun _ => idx_nat hv ?_)
        · rw [f1, f2] at e; simp at e
        · rw [Int.toNat_natCast]; exact hX
      · rw [drillAt_next hb] at hJ
        subst hJ
        refine ⟨⟨by omega, by rw [pressTo_len]; omega⟩, ?_⟩
        refine forIn0 (fun _ _ => True) trivial (fun k y s' hy _ next4 hn4 => ?_) (fun _ _ => hn _ rfl)
        have hN := hn4 () trivial
        rw [Int.toNat_natCast] at hy
        have hk := lt_of_get hy
        rw [List.length_take, pressTo_len] at hk
        rw [List.getElem?_take, if_pos (by omega), pressTo_get m s l _ k (by omega)] at hy
        injection hy with hy
        have hbk : (allOf m s l)[k]? = some ((allOf m s l).getD k default) := by rw [List.getD_eq_getElem?_getD, List.getElem?_eq_getElem (by omega)]; rfl
        have hlk := hnb ((allOf m s l).getD k default) (by
          refine List.mem_of_getElem? (i := k) ?_
          rw [List.getElem?_take, if_pos (by omega)]; exact hbk)
        have hyf : y.From = ((allOf m s l).getD k default).From ∧ y.To = ((allOf m s l).getD k default).To := by rw [← hy]; exact ⟨rfl, rfl⟩
        unfold liesB at hlk
        unfold M_law_BuildUp_L4 M_law_BuildUp_k5
        rw [hyf.1, hyf.2, f1, f2]
        refine cnd_of (fun e1 => cnd_of (fun e2 => ?_) (fun _ => hN)) (fun _ => cnd_of (fun e => by cases e) (fun _ => hN))
        exfalso
        simp at e1 e2 hlk
        omega
    · rw [pressTo_len] at hI
      subst hI
      refine forIn0 (fun _ _ => True) trivial (fun k y s' hy _ next4 hn4 => ?_) (fun _ _ => ?_)
      · have hk := lt_of_get hy
        rw [drillAt_len] at hk
        rw [drillAt_get hk, if_pos (.inl (by
          rw [List.take_length]
          have hlg : l[k]? = some (l.getD k default) := by rw [List.getD_eq_getElem?_getD, List.getElem?_eq_getElem hk]; rfl
          exact hmem _ (List.mem_of_getElem? hlg)))] at hy
        injection hy with hy
        subst hy
        unfold M_law_BuildUp_L2
        exact cnd_of (fun e => by simp at e) (fun _ => hn4 () trivial)
      · refine S_stack_Cycles hmf hf ?_
        rw [show cyclesOf m s l = (cycOf m s l, 0) by unfold cyclesOf; rw [if_neg (fun hh => hh e)]]
        obtain ⟨hpos, hlast⟩ := all_last e
        refine cnd_of (fun _ => ?_) (fun e => by simp at e)
        rw [pressTo_len]
        refine cnd_of (fun _ => ?_) (fun e => absurd (of_decide_eq_false e) (by omega))
        rw [w64_id (by omega) (by omega), show (((allOf m s l).length : Int) - 1) = (((allOf m s l).length - 1 : Nat) : Int) by omega]
        refine idx_nat (pressTo_get m s l _ _ (by omega)) ?_
        unfold pressAt
        rw [getD_of hlast]
        have hcl : (cycOf m s l).length = (copOf m s).length := (cyc_len _ _).trans (by simp)
        refine cnd_of (fun _ => cnd_of (fun _ => S_awake rfl) (fun e => ?_)) (fun e => by simp [wholeOf] at e)
        rw [hcl] at e; simp [wholeOf] at e
  · rw [show pressesOf m s l = ([], spansFault m s l) by unfold pressesOf; rw [if_pos e]]
    refine cnd_of (fun _ => cnd_of (fun _ => S_awake rfl) (fun e => by simp at e)) (fun e2 => ?_)
    simp at e2; exact absurd e2 e
end Go.Proofs.Ytjkkefhfbcgahaa

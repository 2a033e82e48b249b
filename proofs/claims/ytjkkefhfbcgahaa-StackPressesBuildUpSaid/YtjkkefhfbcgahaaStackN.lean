/- Chapter 4: the reference's sub-boards: plain. -/
import Derived.Test.YtjkkefhfbcgahaaStackM
namespace Go.Proofs.Ytjkkefhfbcgahaa
open Go Go.RowKit
set_option linter.unusedVariables false

/-! ### cores by the coppers -/
def coreCond (m : List Material) (s : List Layer) (i : Nat) : Prop := (copOf m s).getD i 0 - (copOf m s).getD (i - 1) 0 = 2 ∧ kindAt m (s.getD ((copOf m s).getD i 0 - 1).toNat default) = 2
instance (m : List Material) (s : List Layer) (i : Nat) : Decidable (coreCond m s i) := inferInstanceAs (Decidable (_ ∧ _))
def refTo (m : List Material) (s : List Layer) : Nat → List Through
  | 0 => []
  | i + 1 => refTo m s i ++ (if 1 ≤ i ∧ coreCond m s i then [⟨(i : Int), (i : Int) + 1⟩] else [])
theorem cop_prefix (m : List Material) (s : List Layer) (k : Nat) : ∀ d, copTo m s k <+: copTo m s (k + d)
  | 0 => List.prefix_refl _
  | d + 1 => (cop_prefix m s k d).trans (by rw [show k + (d + 1) = k + d + 1 by omega, copTo]; exact List.prefix_append _ _)
theorem cop_get {m : List Material} {s : List Layer} {k : Nat} (hk : k < s.length) (h1 : kindAt m (s.getD k default) = 1) : (copOf m s)[(copTo m s k).length]? = some (k : Int) := by
  have hp := cop_prefix m s (k + 1) (s.length - (k + 1))
  rw [show k + 1 + (s.length - (k + 1)) = s.length by omega] at hp
  obtain ⟨t, ht⟩ := hp
  unfold copOf
  rw [← ht, List.getElem?_append_left (by rw [copTo, if_pos h1]; simp), copTo, if_pos h1]
  simp
theorem kind_before {m : List Material} {s : List Layer} (h0 : kindAt m (s.getD 0 default) = 1) (hb : ∀ i x, s[i]? = some x → layerBad m s i x = 0) {k : Nat} (hk : k < s.length) (h2 : kindAt m (s.getD k default) = 2) : 1 ≤ k ∧ kindAt m (s.getD (k - 1) default) = 1 := by
  have hk0 : k ≠ 0 := fun e => by subst e; omega
  have hx : s[k]? = some (s.getD k default) := by rw [List.getD_eq_getElem?_getD, List.getElem?_eq_getElem hk]; rfl
  have hx' : s[k - 1]? = some (s.getD (k - 1) default) := by rw [List.getD_eq_getElem?_getD, List.getElem?_eq_getElem (by omega)]; rfl
  have h3 := layerBad_iff.1 (hb _ _ hx)
  have h4 := (layerBad_iff.1 (hb _ _ hx')).1
  have hn := h3.2.2.2.2
  unfold kindBefore at hn
  rw [if_neg hk0] at hn
  exact ⟨by omega, Decidable.byContradiction (fun hc => hn (.inr (.inl ⟨h2, h4, hc⟩)))⟩
theorem kind_after {m : List Material} {s : List Layer} (hb : ∀ i x, s[i]? = some x → layerBad m s i x = 0) {k : Nat} (hk : k < s.length) (h1 : 1 ≤ k) (h2 : kindAt m (s.getD (k - 1) default) = 2) : kindAt m (s.getD k default) = 1 := by
  have hx : s[k]? = some (s.getD k default) := by rw [List.getD_eq_getElem?_getD, List.getElem?_eq_getElem hk]; rfl
  have hn := (layerBad_iff.1 (hb _ _ hx)).2.2.2.2
  unfold kindBefore at hn
  rw [if_neg (by omega)] at hn
  exact Decidable.byContradiction (fun hc => hn (.inr (.inr ⟨h2, hc⟩)))
theorem cond_iff {m : List Material} {s : List Layer} (h0 : kindAt m (s.getD 0 default) = 1) (hb : ∀ i x, s[i]? = some x → layerBad m s i x = 0) {k : Nat} (hk : k < s.length) (h1 : kindAt m (s.getD k default) = 1) :
    (1 ≤ (copTo m s k).length ∧ coreCond m s (copTo m s k).length) ↔ (1 ≤ k ∧ kindAt m (s.getD (k - 1) default) = 2) := by
  have hg := getD_of0 (cop_get hk h1)
  unfold coreCond
  rw [hg]
  constructor
  · rintro ⟨h3, h4, h5⟩
    have hlt : (copTo m s k).length - 1 < (copOf m s).length := by have := lt_of_get (cop_get hk h1); omega
    obtain ⟨i, hi, hie, _⟩ := mem_copTo.1 (List.getElem_mem hlt : (copOf m s)[(copTo m s k).length - 1] ∈ copTo m s s.length)
    rw [getD_of0 (List.getElem?_eq_getElem hlt), hie] at h4
    refine ⟨by omega, ?_⟩
    rw [show ((k : Int) - 1).toNat = k - 1 by omega] at h5
    exact h5
  · rintro ⟨h3, h4⟩
    obtain ⟨h5, h6⟩ := kind_before h0 hb (by omega) h4
    have e1 : copTo m s k = copTo m s (k - 1) := by
      conv => lhs; rw [show k = k - 1 + 1 by omega]
      rw [copTo, if_neg (by omega), List.append_nil]
    have e2 : copTo m s (k - 1) = copTo m s (k - 1 - 1) ++ [((k - 1 - 1 : Nat) : Int)] := by
      conv => lhs; rw [show k - 1 = k - 1 - 1 + 1 by omega]
      rw [copTo, if_pos h6]
    have h7 := getD_of0 (cop_get (k := k - 1 - 1) (by omega) h6)
    have e3 : (copTo m s k).length = (copTo m s (k - 1 - 1)).length + 1 := by rw [e1, e2]; simp
    rw [e3, Nat.add_sub_cancel, h7]
    refine ⟨by omega, by omega, ?_⟩
    rw [show ((k : Int) - 1).toNat = k - 1 by omega]
    exact h4
theorem cores_at {m : List Material} {s : List Layer} (h0 : kindAt m (s.getD 0 default) = 1) (hb : ∀ i x, s[i]? = some x → layerBad m s i x = 0) : ∀ k, k ≤ s.length →
    (s.take k).foldl (coreStep m) ([], 0) = (refTo m s (copTo m s k).length ++ (if 1 ≤ k ∧ kindAt m (s.getD (k - 1) default) = 2 then [⟨((copTo m s k).length : Int), ((copTo m s k).length : Int) + 1⟩] else []), ((copTo m s k).length : Int))
  | 0, _ => by simp [copTo, refTo]
  | k + 1, hk => by
    have ih := cores_at h0 hb k (by omega)
    have hx : s[k]? = some (s.getD k default) := by rw [List.getD_eq_getElem?_getD, List.getElem?_eq_getElem (by omega)]; rfl
    rw [take_foldl_succ (coreStep m) ([], 0) s k _ hx, ih]
    unfold coreStep
    dsimp only
    rw [Nat.add_sub_cancel]
    by_cases h1 : kindAt m (s.getD k default) = 1
    · have hc := cond_iff h0 hb (by omega) h1
      have hl : (copTo m s (k + 1)).length = (copTo m s k).length + 1 := by rw [copTo, if_pos h1]; simp
      rw [if_pos h1, hl, refTo, if_neg (c := 1 ≤ k + 1 ∧ _) (by omega), List.append_nil]
      refine Prod.ext ?_ (by dsimp only; omega)
      dsimp only
      by_cases h2 : 1 ≤ k ∧ kindAt m (s.getD (k - 1) default) = 2
      · rw [if_pos h2, if_pos (hc.2 h2)]
      · rw [if_neg h2, if_neg (fun h => h2 (hc.1 h))]
    · have hl : copTo m s (k + 1) = copTo m s k := by rw [copTo, if_neg h1, List.append_nil]
      have hno : ¬ (1 ≤ k ∧ kindAt m (s.getD (k - 1) default) = 2) := fun h => h1 (kind_after hb (by omega) h.1 h.2)
      rw [if_neg h1, hl, if_neg hno, List.append_nil]
      by_cases h2 : kindAt m (s.getD k default) = 2
      · rw [if_pos h2, if_pos ⟨by omega, h2⟩]
      · rw [if_neg h2, if_neg (fun h => h2 h.2), List.append_nil]
theorem cores_ref {m : List Material} {s : List Layer} (h : stackFault m s = 0) : coresOf m s = refTo m s (copOf m s).length := by
  obtain ⟨_, hsl, h2, h0, h1, hb⟩ := stack_ok h
  unfold coresOf
  have := cores_at h0 hb s.length (Nat.le_refl _)
  rw [List.take_length, if_neg (fun h => by omega), List.append_nil] at this
  rw [this]; rfl
theorem refTo_len (m : List Material) (s : List Layer) : ∀ i, (refTo m s i).length ≤ i
  | 0 => by simp [refTo]
  | i + 1 => by have := refTo_len m s i; simp only [refTo, List.length_append]; split <;> simp <;> omega
/-! ### insertion -/
def before (a b : Through) : Prop := ¬ cmpSpans b a < 0
theorem ins_sorted {P : List Through} {x : Through} {j : Nat} (hs : P.Pairwise before) (hj : j ≤ P.length) (h1 : ∀ y ∈ P.drop j, cmpSpans x y < 0) (h2 : j = 0 ∨ ∃ y, P[j - 1]? = some y ∧ ¬ cmpSpans x y < 0) :
    (P.take j ++ [x] ++ P.drop j).Pairwise before ∧ (P.take j ++ [x] ++ P.drop j).Perm (P ++ [x]) := by
  have hall : ∀ y ∈ P.take j, ¬ cmpSpans x y < 0 := fun y hy => by
    obtain ⟨i, hi⟩ := List.getElem?_of_mem hy
    rw [List.getElem?_take] at hi
    split at hi
    · rename_i hij
      rcases h2 with h2 | ⟨z, hz, hzx⟩
      · omega
      · rcases Nat.lt_or_ge i (j - 1) with h3 | h3
        · obtain ⟨q1, q2⟩ := List.getElem?_eq_some_iff.1 hi
          obtain ⟨q3, q4⟩ := List.getElem?_eq_some_iff.1 hz
          have := List.pairwise_iff_getElem.1 hs i (j - 1) q1 q3 h3
          rw [q2, q4] at this
          unfold before at this
          rw [cmpSpans_lt] at *; omega
        · have : i = j - 1 := by omega
          subst this; rw [hz] at hi; injection hi with hi; subst hi; exact hzx
    · cases hi
  constructor
  · have hp := hs
    rw [← List.take_append_drop j P, List.pairwise_append] at hp
    obtain ⟨p1, p2, p3⟩ := hp
    rw [List.append_assoc, List.pairwise_append]
    refine ⟨p1, List.pairwise_append.2 ⟨List.pairwise_singleton _ _, p2, fun a ha b hb => ?_⟩, fun a ha b hb => ?_⟩
    · simp at ha; subst ha
      have := h1 b hb
      unfold before
      rw [cmpSpans_lt] at *; omega
    · rcases List.mem_append.1 hb with hb | hb
      · simp at hb; subst hb; exact hall a ha
      · exact p3 a ha b hb
  · have e : (P.take j ++ [x] ++ P.drop j).Perm (P.take j ++ (P.drop j ++ [x])) := by
      rw [List.append_assoc]; exact List.Perm.append_left _ List.perm_append_comm
    rw [← List.append_assoc, List.take_append_drop] at e
    exact e
theorem sorted_is {p t : List Through} (hp : ∀ x ∈ p, SpanIn x) (ht : t.Perm p) (hs : t.Pairwise before) : t = sortSpans p := by
  refine List.Perm.eq_of_pairwise (fun a b ha hb h1 h2 => ?_) hs (sortSpans_sorted p) (ht.trans (sortSpans_perm p).symm)
  have ia := hp a (ht.subset ha)
  have ib := hp b ((sortSpans_perm p).subset hb)
  unfold before at h1 h2
  rw [cmpSpans_lt] at h1 h2
  unfold SpanIn at ia ib
  rw [w64_id (by omega) (by omega), w64_id (by omega) (by omega)] at h1 h2
  cases a; cases b
  simp only at *
  congr 1 <;> omega
theorem S_ref4_earlier {a b : Through} {Q : Bool → Prop} (h : Q (decide (cmpSpans a b < 0))) : M_ref4_earlier a b Q := by
  unfold M_ref4_earlier
  have hl := cmpSpans_lt a b
  refine cnd_of (fun e => ?_) (fun e => ?_)
  · have : decide (w64 (a.To - a.From) < w64 (b.To - b.From)) = decide (cmpSpans a b < 0) := by
      rw [decide_eq_decide, hl]; simp at e; omega
    rw [this]; exact h
  · have : decide (a.From < b.From) = decide (cmpSpans a b < 0) := by
      rw [decide_eq_decide, hl]; simp at e; omega
    rw [this]; exact h
/-! ### the sub-boards -/
def subT (x : Through) : R4Sub := ⟨x, false⟩
def subC (x : Through) : R4Sub := ⟨x, true⟩
def subsOf (m : List Material) (s : List Layer) (l : List Through) : List R4Sub := (coresOf m s).map subC ++ (sortSpans (pressedOf (coresOf m s) (l ++ [wholeOf m s]))).map subT
theorem S_insert_sub {s v : List R4Sub} {i : Nat} {Q : List R4Sub → List R4Sub → Prop} (hi : i ≤ s.length) (hv : v ≠ []) (hr : s.length + v.length ≤ 100000) (h : Q (s.take i ++ v ++ s.drop i) v) : M_insert_sub s (i : Int) v Q := by
  refine ⟨⟨Int.natCast_nonneg _, by omega, hv, room_of (by omega) (by omega)⟩, ?_⟩
  rw [Int.toNat_natCast]; exact h
theorem S_ref4_subs {m : List Material} {s : List Layer} (h0 : stackFault m s = 0) {l : List Through} (hl : ∀ x ∈ l, SpanIn x) (hll : l.length ≤ 200) {Q : List R4Sub → Prop} (h : Q (subsOf m s l)) : M_ref4_subs m s l Q := by
  obtain ⟨hm, hsl, hc2, hk0, hk1, hb⟩ := stack_ok h0
  have hcp := copOf_len m s
  have hcl := coresOf_len m s
  have hcr := cores_ref h0
  unfold M_ref4_subs
  refine S_ref4_coppers (by omega) ?_
  refine lp_upto (fun i => ((refTo m s (i + 1)).map subC, ((i + 1 : Nat) : Int))) ((copOf m s).length - 1) (by simp [refTo]) (fun X i hi hX => ?_) (fun X => ?_)
  · unfold M_ref4_subs_L1
    dsimp only
    have hlt : i + 1 < (copOf m s).length := by omega
    refine cnd_of (fun _ => ?_) (fun e => by simp at e; omega)
    rw [show w64 (((i + 1 : Nat) : Int) - 1) = (i : Int) by rw [w64_id] <;> omega]
    refine idx_nat (List.getElem?_eq_getElem hlt) (idx_nat (List.getElem?_eq_getElem (show i < (copOf m s).length by omega)) ?_)
    obtain ⟨p, hp, hpe, _⟩ := mem_copTo.1 (List.getElem_mem hlt : (copOf m s)[i + 1] ∈ copTo m s s.length)
    obtain ⟨q, hq, hqe, _⟩ := mem_copTo.1 (List.getElem_mem (show i < (copOf m s).length by omega) : (copOf m s)[i] ∈ copTo m s s.length)
    have hcc : coreCond m s (i + 1) ↔ (p : Int) - q = 2 ∧ kindAt m (s.getD ((p : Int) - 1).toNat default) = 2 := by
      unfold coreCond
      rw [Nat.add_sub_cancel, getD_of0 (List.getElem?_eq_getElem hlt), getD_of0 (List.getElem?_eq_getElem (show i < (copOf m s).length by omega)), hpe, hqe]
    rw [hpe, hqe]
    have hw : w64 (((i + 1 : Nat) : Int) + 1) = ((i + 1 + 1 : Nat) : Int) := by rw [w64_id] <;> omega
    have hrl := refTo_len m s (i + 1)
    rw [refTo] at hX
    rw [w64_id (n := (p : Int) - q) (by omega) (by omega)]
    have keep : ¬ coreCond m s (i + 1) → X ((refTo m s (i + 1)).map subC, ((i + 1 + 1 : Nat) : Int)) := fun hn => by
      rw [if_neg (fun h => hn h.2), List.append_nil] at hX; exact hX
    refine cnd_of (fun e => ?_) (fun e => ?_)
    · have e : (p : Int) - q = 2 := by simpa using e
      rw [show w64 ((p : Int) - 1) = ((p - 1 : Nat) : Int) by rw [w64_id] <;> omega]
      refine idx_nat (x := s.getD (p - 1) default) (by rw [List.getD_eq_getElem?_getD, List.getElem?_eq_getElem (by omega)]; rfl) (S_ref4_materialOf ?_)
      unfold M_ref4_subs_k2
      rw [hw]
      have hk : kindAt m (s.getD ((p : Int) - 1).toNat default) = (matOf m (s.getD (p - 1) default).Material).Kind := by rw [show ((p : Int) - 1).toNat = p - 1 by omega]; rfl
      rw [hk] at hcc
      refine cnd_of (fun e2 => ?_) (fun e2 => keep (fun hc => by simp at e2; exact e2 (hcc.1 hc).2))
      have e2 : (matOf m (s.getD (p - 1) default).Material).Kind = 2 := by simpa using e2
      rw [if_pos ⟨by omega, hcc.2 ⟨e, e2⟩⟩, List.map_append] at hX
      have es : (⟨(⟨((i + 1 : Nat) : Int), ((i + 1 + 1 : Nat) : Int)⟩ : Through), true⟩ : R4Sub) = subC ⟨((i + 1 : Nat) : Int), ((i + 1 : Nat) : Int) + 1⟩ := rfl
      refine ⟨room_of (by simp only [List.length_append, List.length_map, List.length_singleton]; omega) (by omega), ?_⟩
      rw [es]; exact hX
    · unfold M_ref4_subs_k2
      rw [hw]
      exact cnd_of (fun e => by cases e) (fun _ => keep (fun hc => by simp at e; exact e (hcc.1 hc).1))
  · unfold M_ref4_subs_L1
    dsimp only
    refine cnd_of (fun e => by simp at e; omega) (fun _ => ?_)
    rw [show (copOf m s).length - 1 + 1 = (copOf m s).length by omega, ← hcr]
    refine S_clone_thr (by omega) ⟨room_of (by simp only [List.length_append, List.length_singleton]; omega) (by omega), ?_⟩
    show forIn' _ _ (l ++ [wholeOf m s]) 0 _
    have hin : ∀ x ∈ l ++ [wholeOf m s], SpanIn x := fun x hx => by
      rcases List.mem_append.1 hx with h | h
      · exact hl x h
      · simp at h; subst h; unfold SpanIn wholeOf; simp only; omega
    generalize hB : coresOf m s = B at *
    refine forIn0 (fun k acc => ∃ P : List Through, acc = B.map subC ++ P.map subT ∧ P.Pairwise before ∧ P.Perm (((l ++ [wholeOf m s]).take k).foldl (addNew B) [])) ⟨[], by simp⟩ (fun k x acc hx hI next hn => ?_) (fun acc hI => ?_)
    · obtain ⟨P, rfl, hPs, hPp⟩ := hI
      have hk := lt_of_get hx
      have hlen := pressed_len B ((l ++ [wholeOf m s]).take k) []
      rw [List.length_take, ← hPp.length_eq] at hlen
      simp only [List.length_nil, Nat.zero_add, List.length_append, List.length_singleton] at hlen hk
      have hstep := take_foldl_succ (addNew B) [] _ k x hx
      generalize hA : ((l ++ [wholeOf m s]).take k).foldl (addNew B) [] = A at *
      unfold M_ref4_subs_L2
      refine forIn0 (fun j c => c = ((B.map subC ++ P.map subT).take j).any (fun y => decide (y.Through = x))) rfl (fun j y c hy hI nx hnx => ?_) (fun c hI => ?_)
      · have hXX := hnx _ (take_any_succ _ j y hy (fun y => decide (y.Through = x))).symm
        rw [← hI] at hXX
        unfold M_ref4_subs_L3
        refine cnd_of (fun e => ?_) (fun e => ?_)
        · rw [e, Bool.true_or] at hXX; exact hXX
        · rw [e, Bool.false_or] at hXX; exact hXX
      · rw [List.take_length] at hI
        have hknown : c = true ↔ (x ∈ B ∨ x ∈ A) := by
          rw [hI, List.any_append, List.any_map, List.any_map, Bool.or_eq_true, List.any_eq_true, List.any_eq_true, ← hPp.mem_iff]
          constructor
          · rintro (⟨y, h1, h2⟩ | ⟨y, h1, h2⟩)
            · exact .inl (by have : y = x := of_decide_eq_true h2
                             subst this; exact h1)
            · exact .inr (by have : y = x := of_decide_eq_true h2
                             subst this; exact h1)
          · rintro (h | h)
            · exact .inl ⟨x, h, by simp [subC]⟩
            · exact .inr ⟨x, h, by simp [subT]⟩
        replace hstep : List.foldl (addNew B) [] (List.take (k + 1) (l ++ [wholeOf m s])) = if x ∈ B ∨ x ∈ A then A else A ++ [x] := hstep
        refine cnd_of (fun e => hn _ ⟨P, rfl, hPs, ?_⟩) (fun e => ?_)
        · rw [if_pos (hknown.1 e)] at hstep; rw [hstep]; exact hPp
        · rw [if_neg (fun h => by rw [hknown.2 h] at e; cases e)] at hstep
          have hbl : (B.map subC).length = B.length := List.length_map _
          have hpl : (P.map subT).length = P.length := List.length_map _
          have hX : ∀ j, j ≤ P.length → (∀ y ∈ P.drop j, cmpSpans x y < 0) → (j = 0 ∨ ∃ y, P[j - 1]? = some y ∧ ¬ cmpSpans x y < 0) → M_insert_sub (B.map subC ++ P.map subT) ((B.length + j : Nat) : Int) [(⟨x, false⟩ : R4Sub)] fun y4 z1 => next y4 := fun j hj h1 h2 => by
            obtain ⟨i1, i2⟩ := ins_sorted hPs hj h1 h2
            refine S_insert_sub (by rw [List.length_append, hbl, hpl]; omega) (by simp) (by rw [List.length_append, hbl, hpl, List.length_singleton]; omega) (hn _ ⟨P.take j ++ [x] ++ P.drop j, ?_, i1, ?_⟩)
            · rw [List.take_append, List.drop_append, hbl, List.take_of_length_le (by omega), List.drop_of_length_le (by omega), Nat.add_sub_cancel_left, List.nil_append, List.map_append, List.map_append, List.map_take, List.map_drop]
              simp only [List.append_assoc]
              rfl
            · rw [hstep]; exact i2.trans (List.Perm.append_right _ hPp)
          refine lp_intro (fun n4 => ∃ j, j ≤ P.length ∧ n4 = ((B.length + j : Nat) : Int) ∧ ∀ y ∈ P.drop j, cmpSpans x y < 0) (fun n4 => n4.toNat) ⟨P.length, Nat.le_refl _, by rw [List.length_append, hbl, hpl], by simp⟩ (fun X n4 hI hX2 => ?_)
          obtain ⟨j, hj, rfl, hjd⟩ := hI
          unfold M_ref4_subs_L4 M_ref4_subs_k6
          rw [hbl]
          refine cnd_of (fun e2 => ?_) (fun e2 => cnd_of (fun e => by cases e) (fun _ => hX j hj hjd (.inl (by simp at e2; omega))))
          have hj0 : 0 < j := by simp at e2; omega
          have hjl : j - 1 < P.length := by omega
          rw [show w64 (((B.length + j : Nat) : Int) - 1) = ((B.length + (j - 1) : Nat) : Int) by rw [w64_id] <;> omega]
          refine idx_nat (x := subT P[j - 1]) (by rw [List.getElem?_append_right (by omega), hbl, Nat.add_sub_cancel_left, List.getElem?_map, List.getElem?_eq_getElem hjl]; rfl) (S_ref4_earlier (cnd_of (fun e3 => ?_) (fun e3 => ?_)))
          · refine hX2 _ ⟨j - 1, by omega, rfl, fun y hy => ?_⟩ (by omega)
            rw [List.drop_eq_getElem_cons hjl] at hy
            rcases List.mem_cons.1 hy with hy | hy
            · subst hy; exact of_decide_eq_true e3
            · rw [show j - 1 + 1 = j by omega] at hy; exact hjd y hy
          · exact hX j hj hjd (.inr ⟨P[j - 1], List.getElem?_eq_getElem hjl, of_decide_eq_false e3⟩)
    · obtain ⟨P, rfl, hPs, hPp⟩ := hI
      rw [List.take_length] at hPp
      have := sorted_is (p := pressedOf B (l ++ [wholeOf m s])) (fun x hx => hin x ((pressed_mem _ _ _ _ hx).resolve_left (by simp))) hPp hPs
      subst this
      unfold subsOf at h
      rw [hB] at h
      exact h
end Go.Proofs.Ytjkkefhfbcgahaa

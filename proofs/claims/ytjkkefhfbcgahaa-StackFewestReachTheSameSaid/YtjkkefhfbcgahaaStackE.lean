/- Chapter 4: the mirrored stack, and how a stack bows. -/
import Derived.Test.YtjkkefhfbcgahaaStackD
import Derived.Test.YtjkkefhfbcgahaaRev
namespace Go.Proofs.Ytjkkefhfbcgahaa
open Go Go.RowKit
set_option linter.unusedVariables false

theorem S_clone_layer {s : List Layer} (hs : s.length ≤ 1000) {Q : List Layer → Prop} (h : Q s) : M_clone_layer s Q := by
  unfold M_clone_layer
  exact clone_step (room_of (by omega) (by omega)) h
theorem S_reverse_layer {s : List Layer} (hs : s.length ≤ 1000) {Q : List Layer → Prop} (h : Q s.reverse) : M_reverse_layer s Q := by
  unfold M_reverse_layer
  have e : w64 ((s.length : Int) - 1) = (s.length : Int) - 1 := w64_id (by omega) (by omega)
  rw [e]
  refine rev_loop (lo := 0) (n := s.length) (by omega) (by omega) (Q := Q) (fun X l i j hl hij hj hX => ?_) (fun X l i j hl hij hq => ?_) ?_
  · unfold M_reverse_layer_L1
    have h1 : l[j]? = some l[j] := List.getElem?_eq_getElem (by omega)
    have h2 : l[i]? = some l[i] := List.getElem?_eq_getElem (by omega)
    have hi' : w64 ((i : Int) + 1) = ((i + 1 : Nat) : Int) := by rw [w64_id] <;> omega
    have hj' : w64 ((j : Int) - 1) = ((j - 1 : Nat) : Int) := by rw [w64_id] <;> omega
    refine cnd_of (fun _ => idx_nat h1 (idx_nat h2 ?_)) (fun e => by simp at e; omega)
    have h3 : (l.set i l[j])[j]? = some ((l.set i l[j])[j]'(by simp; omega)) := List.getElem?_eq_getElem _
    refine idx_nat h3 ?_
    have := hX l[j] l[i] (by rw [Nat.zero_add]; exact h1) (by rw [Nat.zero_add]; exact h2)
    simp only [Nat.zero_add] at this
    rw [hi', hj']
    exact this
  · unfold M_reverse_layer_L1
    exact cnd_of (fun e => absurd (by simpa using e) hij) (fun _ => hq)
  · simpa using h
theorem S_equal_layer {xs ys : List Layer} {Q : Bool → Prop} (h : Q (decide (xs = ys))) : M_equal_layer xs ys Q := by
  unfold M_equal_layer
  exact equal_loop (fun k x next h => h) h
theorem S_stack_Mirrored {m : List Material} {s : List Layer} (hmf : Fits.fits m) (hf : Fits.fits s) {Q : List Layer → Int → Prop} (h : if stackFault m s = 0 then Q s.reverse 0 else Q [] (stackFault m s)) : M_stack_Mirrored m s Q := by
  unfold M_stack_Mirrored
  refine S_stack_CheckStack hmf hf (cnd_of (fun e => ?_) (fun e => ?_))
  · rw [if_neg (by simpa using e)] at h; exact h
  · have e' : stackFault m s = 0 := by simpa using e
    rw [if_pos e'] at h
    have := (stack_ok e').2.1
    exact S_clone_layer (by omega) (S_reverse_layer (by omega) h)
theorem S_ref4_Mirrored {m : List Material} {s : List Layer} (hmf : Fits.fits m) (hf : Fits.fits s) {Q : List Layer → Int → Prop} (h : if stackFault m s = 0 then Q s.reverse 0 else Q [] (stackFault m s)) : M_ref4_Mirrored m s Q := by
  unfold M_ref4_Mirrored
  refine S_ref4_CheckStack hmf hf (cnd_of (fun e => ?_) (fun e => ?_))
  · rw [if_neg (by simpa using e)] at h; exact h
  · have e' : stackFault m s = 0 := by simpa using e
    rw [if_pos e'] at h
    have := (stack_ok e').2.1
    exact S_clone_layer (by omega) (S_reverse_layer (by omega) h)

/-! ### how it bows -/
def bowFrom (m : List Material) (all : Int) : Int → List Layer → Int
  | _, [] => 0
  | d, x :: r => (matOf m x.Material).Thick * (matOf m x.Material).Grow * (2 * d + (matOf m x.Material).Thick - all) + bowFrom m all (d + (matOf m x.Material).Thick) r
theorem bowFrom_append (m : List Material) (all : Int) : ∀ (a b : List Layer) (d : Int), bowFrom m all d (a ++ b) = bowFrom m all d a + bowFrom m all (d + thickOf m a) b
  | [], b, d => by simp [bowFrom, thickOf]
  | x :: r, b, d => by
    simp only [List.cons_append, bowFrom, thickOf_cons]
    rw [bowFrom_append m all r b, Int.add_assoc d]
    omega
theorem thickOf_reverse (m : List Material) : ∀ s : List Layer, thickOf m s.reverse = thickOf m s
  | [] => rfl
  | x :: r => by
    have e : thickOf m [x] = (matOf m x.Material).Thick := by rw [thickOf_cons]; simp [thickOf]
    rw [List.reverse_cons, thickOf_append, thickOf_reverse m r, e, thickOf_cons m x r]; omega
theorem bow_mirror (m : List Material) (all : Int) : ∀ (s : List Layer) (d d' : Int), d + d' + thickOf m s = all → bowFrom m all d' s.reverse = -(bowFrom m all d s)
  | [], d, d', _ => by simp [bowFrom]
  | x :: r, d, d', h => by
    rw [thickOf_cons] at h
    rw [List.reverse_cons, bowFrom_append, bow_mirror m all r (d + (matOf m x.Material).Thick) d' (by omega), thickOf_reverse]
    simp only [bowFrom]
    have e : 2 * (d' + thickOf m r) + (matOf m x.Material).Thick - all = -(2 * d + (matOf m x.Material).Thick - all) := by omega
    rw [e, Int.mul_neg]
    omega
theorem bow_names (m : List Material) (all : Int) : ∀ (s s' : List Layer) (d : Int), s.map (·.Material) = s'.map (·.Material) → bowFrom m all d s = bowFrom m all d s'
  | [], [], _, _ => rfl
  | [], _ :: _, _, h => by simp at h
  | _ :: _, [], _, h => by simp at h
  | x :: r, y :: r', d, h => by
    simp only [List.map_cons, List.cons.injEq] at h
    simp only [bowFrom, h.1]
    rw [bow_names m all r r' _ h.2]
def bowOf (m : List Material) (s : List Layer) : Int := bowFrom m (thickOf m s) 0 s
theorem bow_term {t g d all : Int} (ht : 0 ≤ t ∧ t ≤ 2000) (hg : 0 ≤ g ∧ g ≤ 1000) (hd : 0 ≤ d ∧ d ≤ 120000) (ha : 0 ≤ all ∧ all ≤ 120000) :
    0 ≤ t * g ∧ t * g ≤ 2000000 ∧ -1000000000000 ≤ t * g * (2 * d + t - all) ∧ t * g * (2 * d + t - all) ≤ 1000000000000 := by
  have h0 : 0 ≤ t * g := Int.mul_nonneg ht.1 hg.1
  have h1 : t * g ≤ 2000 * 1000 := Int.mul_le_mul ht.2 hg.2 hg.1 (by omega)
  refine ⟨h0, by omega, ?_, ?_⟩
  · have : t * g * (2 * d + t - all) ≥ t * g * (-400000) := Int.mul_le_mul_of_nonneg_left (by omega) h0
    have h3 : t * g * (-400000) ≥ 2000000 * (-400000) := Int.mul_le_mul_of_nonpos_right (by omega) (by omega)
    omega
  · have : t * g * (2 * d + t - all) ≤ t * g * 400000 := Int.mul_le_mul_of_nonneg_left (by omega) h0
    have h3 : t * g * 400000 ≤ 2000000 * 400000 := Int.mul_le_mul_of_nonneg_right (by omega) (by omega)
    omega
theorem bow_loop {m : List Material} (hm : MatsOk m) {s : List Layer} (hl : s.length ≤ 60) {body : Nat → Layer → Int × Int → (Int × Int → Prop) → Prop} {Q : Int → Prop}
    (hb : ∀ k x (n : Int × Int) next, next (w64 (n.1 + (matOf m x.Material).Thick), w64 (n.2 + (w64 ((w64 ((matOf m x.Material).Thick * (matOf m x.Material).Grow)) * (w64 ((w64 ((w64 (2 * n.1)) + (matOf m x.Material).Thick)) - thickOf m s)))))) → body k x n next)
    (h : Q (bowOf m s)) : forIn' body (fun n => Q n.2) s 0 (0, 0) := by
  have hall : 0 ≤ thickOf m s ∧ thickOf m s ≤ 120000 := by have := thickOf_bound hm s; omega
  refine forIn0 (fun k n => n.1 = thickOf m (s.take k) ∧ n.2 = bowFrom m (thickOf m s) 0 (s.take k) ∧ -(1000000000000 * (k : Int)) ≤ n.2 ∧ n.2 ≤ 1000000000000 * (k : Int)) ⟨by simp [thickOf], by simp [bowFrom], by simp, by simp⟩ (fun k x n hx hI next hn => hb _ _ _ _ (hn _ ?_)) (fun n hI => ?_)
  · obtain ⟨n1, n2⟩ := n
    obtain ⟨h1, h2, h3, h4⟩ := hI
    dsimp only at h1 h2 h3 h4 ⊢
    have hk := lt_of_get hx
    have hd : 0 ≤ thickOf m (s.take k) ∧ thickOf m (s.take k) ≤ 120000 := by have := thickOf_bound hm (s.take k); have : (s.take k).length ≤ 60 := by rw [List.length_take]; omega
                                                                             omega
    obtain ⟨_, _, _, t1, t2, g1, g2⟩ := hasMat_kind hm x.Material
    obtain ⟨b1, b2, b3, b4⟩ := bow_term ⟨t1, t2⟩ ⟨g1, g2⟩ hd hall
    have ex : s.take (k + 1) = s.take k ++ [x] := by rw [List.take_add_one, hx]; rfl
    have et : thickOf m (s.take (k + 1)) = thickOf m (s.take k) + (matOf m x.Material).Thick := by rw [ex, thickOf_append]; simp [thickOf_cons, thickOf]
    have eb : bowFrom m (thickOf m s) 0 (s.take (k + 1)) = bowFrom m (thickOf m s) 0 (s.take k) + (matOf m x.Material).Thick * (matOf m x.Material).Grow * (2 * thickOf m (s.take k) + (matOf m x.Material).Thick - thickOf m s) := by
      rw [ex, bowFrom_append]; simp [bowFrom]
    rw [h1, et, eb, ← h2]
    rw [w64_id (n := thickOf m (s.take k) + (matOf m x.Material).Thick) (by omega) (by omega), w64_id (n := (matOf m x.Material).Thick * (matOf m x.Material).Grow) (by omega) (by omega), w64_id (n := 2 * thickOf m (s.take k)) (by omega) (by omega), w64_id (n := 2 * thickOf m (s.take k) + (matOf m x.Material).Thick) (by omega) (by omega), w64_id (n := 2 * thickOf m (s.take k) + (matOf m x.Material).Thick - thickOf m s) (by omega) (by omega)]
    generalize (matOf m x.Material).Thick * (matOf m x.Material).Grow * (2 * thickOf m (s.take k) + (matOf m x.Material).Thick - thickOf m s) = z at *
    rw [w64_id (n := z) (by omega) (by omega), w64_id (by omega) (by omega)]
    refine ⟨rfl, rfl, by omega, by omega⟩
  · rw [List.take_length] at hI
    have := hI.2.1
    show Q n.2
    rw [this]; exact h
theorem S_stack_Bow {m : List Material} {s : List Layer} (hmf : Fits.fits m) (hf : Fits.fits s) {Q : Int → Int → Prop} (h : if stackFault m s = 0 then Q (bowOf m s) 0 else Q 0 (stackFault m s)) : M_stack_Bow m s Q := by
  unfold M_stack_Bow
  refine S_stack_CheckStack hmf hf (cnd_of (fun e => ?_) (fun e => ?_))
  · rw [if_neg (by simpa using e)] at h; exact h
  · have e' : stackFault m s = 0 := by simpa using e
    rw [if_pos e'] at h
    obtain ⟨hm, hl, _⟩ := stack_ok e'
    refine S_stack_thick hm (by omega) (bow_loop (Q := fun n => Q n 0) hm hl (fun k x n next hn => ?_) h)
    unfold M_stack_Bow_L1
    exact S_stack_materialOf hm hn
theorem S_ref4_Bow {m : List Material} {s : List Layer} (hmf : Fits.fits m) (hf : Fits.fits s) {Q : Int → Int → Prop} (h : if stackFault m s = 0 then Q (bowOf m s) 0 else Q 0 (stackFault m s)) : M_ref4_Bow m s Q := by
  unfold M_ref4_Bow
  refine S_ref4_CheckStack hmf hf (cnd_of (fun e => ?_) (fun e => ?_))
  · rw [if_neg (by simpa using e)] at h; exact h
  · have e' : stackFault m s = 0 := by simpa using e
    rw [if_pos e'] at h
    obtain ⟨hm, hl, _⟩ := stack_ok e'
    refine S_ref4_thickness hm (by omega) (bow_loop (Q := fun n => Q n 0) hm hl (fun k x n next hn => ?_) h)
    unfold M_ref4_Bow_L1
    exact S_ref4_materialOf hn

/-! ### a right stack the other way round is right -/
theorem layerBad_iff {m : List Material} {s : List Layer} {k : Nat} {x : Layer} : layerBad m s k x = 0 ↔ kindAt m x ≠ 0 ∧ (kindAt m x = 1 → isWord x.Name = true) ∧ (kindAt m x ≠ 1 → x.Name = []) ∧ (kindAt m x = 1 → ¬ (s.take k).any (fun y => y.Name == x.Name) = true) ∧
    ¬ ((kindAt m x = 1 ∧ kindBefore m s k = 1) ∨ (kindAt m x = 2 ∧ kindBefore m s k ≠ 0 ∧ kindBefore m s k ≠ 1) ∨ (kindBefore m s k = 2 ∧ kindAt m x ≠ 1)) := by
  unfold layerBad
  generalize kindAt m x = kd
  generalize kindBefore m s k = bf
  generalize (s.take k).any (fun y => y.Name == x.Name) = an
  grind
theorem copTo_count (m : List Material) (s : List Layer) : ∀ k, k ≤ s.length → (copTo m s k).length = (s.take k).countP (fun l => kindAt m l == 1)
  | 0, _ => by simp [copTo]
  | k + 1, h => by
    have hx : s[k]? = some (s.getD k default) := by rw [List.getD_eq_getElem?_getD, List.getElem?_eq_getElem (by omega)]; rfl
    rw [copTo, List.length_append, copTo_count m s k (by omega), List.take_add_one, hx, List.countP_append]
    simp only [Option.toList, List.countP_cons, List.countP_nil]
    have hb : (kindAt m (s.getD k default) == 1) = decide (kindAt m (s.getD k default) = 1) := rfl
    by_cases hk : kindAt m (s.getD k default) = 1
    · rw [if_pos hk]; simp only [List.length_singleton, hk, beq_self_eq_true, if_true]
    · rw [if_neg hk]; simp only [List.length_nil, hb, hk, decide_false, Bool.false_eq_true, if_false]
theorem mirror_fault {m : List Material} {s : List Layer} (h : stackFault m s = 0) : stackFault m s.reverse = 0 := by
  obtain ⟨hm, hl, hc, h0, h1, hb⟩ := stack_ok h
  have hmf : matsFault m = 0 := by
    unfold stackFault at h
    split at h
    · rename_i e; exact absurd h e
    · rename_i e; simpa using e
  have hc2 := copTo_len m s s.length
  have hn : 2 ≤ s.length := by unfold copOf at hc; omega
  have hget : ∀ i, i < s.length → s.reverse[i]? = s[s.length - 1 - i]? := fun i hi => List.getElem?_reverse hi
  have hD : ∀ i, i < s.length → s.reverse.getD i default = s.getD (s.length - 1 - i) default := fun i hi => by rw [List.getD_eq_getElem?_getD, List.getD_eq_getElem?_getD, hget i hi]
  have hbad : firstBad (layerBad m s.reverse) s.reverse 0 = 0 := by
    refine firstBad_none _ _ (fun k x hx => ?_)
    rw [Nat.zero_add]
    have hk : k < s.length := by have := lt_of_get hx; simpa using this
    rw [hget k hk] at hx
    have hbx := layerBad_iff.1 (hb _ x hx)
    refine layerBad_iff.2 ⟨hbx.1, hbx.2.1, hbx.2.2.1, fun hk1 hany => ?_, ?_⟩
    · obtain ⟨y, hy, hyn⟩ := List.any_eq_true.1 hany
      obtain ⟨j, hj⟩ := List.getElem?_of_mem hy
      rw [List.getElem?_take] at hj
      split at hj
      · rename_i hjk
        rw [hget j (by omega)] at hj
        have hw : x.Name ≠ [] := fun e => by have := hbx.2.1 hk1; rw [e] at this; cases this
        have hxy : x.Name = y.Name := Eq.symm (by simpa using hyn)
        have := stack_names hb hx hj hxy hw
        omega
      · cases hj
    · unfold kindBefore
      split
      · intro e; rcases e with e | e | e <;> omega
      · rename_i hk0
        rw [hD (k - 1) (by omega), show s.length - 1 - (k - 1) = s.length - 1 - k + 1 by omega]
        have hy : s[s.length - 1 - k + 1]? = some (s.getD (s.length - 1 - k + 1) default) := by rw [List.getD_eq_getElem?_getD, List.getElem?_eq_getElem (by omega)]; rfl
        have hby := (layerBad_iff.1 (hb _ _ hy)).2.2.2.2
        have hkb : kindBefore m s (s.length - 1 - k + 1) = kindAt m x := by
          unfold kindBefore
          rw [if_neg (by omega), Nat.add_sub_cancel, getD_of hx]
        rw [hkb] at hby
        have := hbx.1
        generalize kindAt m x = a at *
        generalize kindAt m (s.getD (s.length - 1 - k + 1) default) = b at *
        omega
  have hcop : (copOf m s.reverse).length = (copOf m s).length := by
    unfold copOf
    rw [copTo_count _ _ _ (Nat.le_refl _), copTo_count _ _ _ (Nat.le_refl _), List.take_length, List.take_length, List.countP_reverse]
  unfold stackFault
  rw [if_neg (by simpa using hmf), if_neg (by simp; omega), if_neg (by simpa using hbad), if_neg]
  rw [hcop, hD 0 (by omega), List.length_reverse, hD (s.length - 1) (by omega)]
  simp only [not_or, Nat.not_lt, Decidable.not_not]
  refine ⟨hc, by rw [Nat.sub_zero]; exact h1, by rw [Nat.sub_self]; exact h0⟩
theorem S_ref4_OwnMirror {s : List Layer} (hl : s.length ≤ 1000) {Q : Bool → Prop} (h : Q (decide (s.map (·.Material) = s.reverse.map (·.Material)))) : M_ref4_OwnMirror s Q := by
  unfold M_ref4_OwnMirror
  refine forIn0 (fun k _ => ∀ i, i < k → (s.map (·.Material))[i]? = (s.reverse.map (·.Material))[i]?) (fun i hi => by omega) (fun k x _ hx hI next hn => ?_) (fun _ hI => ?_)
  · have hk := lt_of_get hx
    unfold M_ref4_OwnMirror_L1
    have hw : w64 (w64 ((s.length : Int) - 1) - (k : Int)) = ((s.length - 1 - k : Nat) : Int) := by rw [w64_id (n := (s.length : Int) - 1) (by omega) (by omega), w64_id] <;> omega
    rw [hw]
    have hy : s[s.length - 1 - k]? = some s[s.length - 1 - k] := List.getElem?_eq_getElem (by omega)
    have e1 : (s.map (·.Material))[k]? = some x.Material := by rw [List.getElem?_map, hx]; rfl
    have e2 : (s.reverse.map (·.Material))[k]? = some s[s.length - 1 - k].Material := by rw [List.getElem?_map, List.getElem?_reverse hk, hy]; rfl
    refine idx_nat hy (cnd_of (fun e => ?_) (fun e => hn _ (fun i hi => ?_)))
    · have hne : s.map (·.Material) ≠ s.reverse.map (·.Material) := fun he => by rw [he, e2] at e1; injection e1 with e1; rw [e1] at e; simp at e
      rw [decide_eq_false hne] at h; exact h
    · rcases Nat.lt_or_ge i k with hlt | hge
      · exact hI i hlt
      · have : i = k := by omega
        subst this
        have : x.Material = s[s.length - 1 - i].Material := by simpa using e
        rw [e1, e2, this]
  · have he : s.map (·.Material) = s.reverse.map (·.Material) := by
      apply List.ext_getElem?
      intro i
      rcases Nat.lt_or_ge i s.length with hlt | hge
      · exact hI i hlt
      · rw [List.getElem?_eq_none (by simpa using hge), List.getElem?_eq_none (by simpa using hge)]
    rw [decide_eq_true he] at h; exact h
theorem law_StackBow_true (m : List Material) (s : List Layer) (hmf : Fits.fits m) (hf : Fits.fits s) : M_law_StackBow m s (· = true) := by
  unfold M_law_StackBow
  have aw : ∀ {Q : Bool → Prop}, Q true → M_awake Q := fun h => S_awake h
  by_cases h0 : stackFault m s = 0
  · obtain ⟨hm, hl, _⟩ := stack_ok h0
    refine S_stack_Mirrored hmf hf ?_
    rw [if_pos h0]
    refine S_ref4_Mirrored hmf hf ?_
    rw [if_pos h0]
    simp only [bne_self_eq_false, cnd_false]
    refine S_equal_layer ?_
    simp only [decide_true, Bool.not_true]
    unfold M_law_StackBow_k1
    rw [cnd_false]
    refine S_stack_Bow hmf hf ?_
    rw [if_pos h0]
    refine S_ref4_Bow hmf hf ?_
    rw [if_pos h0]
    simp only [bne_self_eq_false, cnd_false]
    refine aw ?_
    unfold M_law_StackBow_k2
    simp only [Bool.not_true, bne_self_eq_false, cnd_false]
    have hfr : Fits.fits s.reverse := fun x hx => hf x (List.mem_reverse.1 hx)
    refine S_stack_Bow hmf hfr ?_
    rw [if_pos (mirror_fault h0)]
    have hb : bowOf m s.reverse = -(bowOf m s) := by
      unfold bowOf
      rw [thickOf_reverse]
      exact bow_mirror m (thickOf m s) s 0 0 (by omega)
    have hbd : -9000000000000000 ≤ bowOf m s ∧ bowOf m s ≤ 9000000000000000 := by
      have key : forIn' (fun k x (n : Int × Int) next => next (n.1 + (matOf m x.Material).Thick, n.2)) (fun n => True) s 0 ((0, 0) : Int × Int) := by
        refine forIn0 (fun _ _ => True) trivial (fun k x n _ _ next hn => hn _ trivial) (fun _ _ => trivial)
      have bnd : ∀ (l : List Layer) (d : Int), 0 ≤ d → d + thickOf m l ≤ 120000 → 0 ≤ thickOf m s ∧ thickOf m s ≤ 120000 → -(1000000000000 * (l.length : Int)) ≤ bowFrom m (thickOf m s) d l ∧ bowFrom m (thickOf m s) d l ≤ 1000000000000 * (l.length : Int) := by
        intro l
        induction l with
        | nil => intro d _ _ _; simp [bowFrom]
        | cons x r ih =>
          intro d hd hd2 ha
          rw [thickOf_cons] at hd2
          obtain ⟨_, _, _, t1, t2, g1, g2⟩ := hasMat_kind hm x.Material
          have hr := thickOf_bound hm r
          obtain ⟨b1, b2, b3, b4⟩ := bow_term ⟨t1, t2⟩ ⟨g1, g2⟩ ⟨hd, (by omega : d ≤ 120000)⟩ ha
          have := ih (d + (matOf m x.Material).Thick) (by omega) (by omega) ha
          simp only [bowFrom, List.length_cons]
          omega
      have ht := thickOf_bound hm s
      have := bnd s 0 (by omega) (by omega) (by omega)
      unfold bowOf
      omega
    rw [hb, w64_id (by omega) (by omega)]
    simp only [beq_self_eq_true, cnd_true]
    refine S_ref4_OwnMirror (by omega) (cnd_of (fun e => by simp) (fun e => ?_))
    have he : s.map (·.Material) = s.reverse.map (·.Material) := by simpa using e
    have : bowOf m s.reverse = bowOf m s := by
      unfold bowOf
      rw [thickOf_reverse]
      exact bow_names m (thickOf m s) s.reverse s 0 he.symm
    rw [hb] at this
    have : bowOf m s = 0 := by omega
    simp [this]
  · refine S_stack_Mirrored hmf hf ?_
    rw [if_neg h0]
    refine S_ref4_Mirrored hmf hf ?_
    rw [if_neg h0]
    simp only [bne_self_eq_false, cnd_false]
    refine S_equal_layer ?_
    simp only [decide_true, Bool.not_true]
    unfold M_law_StackBow_k1
    rw [cnd_false]
    refine S_stack_Bow hmf hf ?_
    rw [if_neg h0]
    refine S_ref4_Bow hmf hf ?_
    rw [if_neg h0]
    simp only [bne_self_eq_false, cnd_false]
    refine aw ?_
    unfold M_law_StackBow_k2
    have h1 : (stackFault m s != 0) = true := by simpa using h0
    simp only [Bool.not_true, cnd_false, h1, cnd_true]
end Go.Proofs.Ytjkkefhfbcgahaa

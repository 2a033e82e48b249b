/- Chapter 4: Reached, Slim, Fewest as the reference has them: the law. -/
import Derived.Test.YtjkkefhfbcgahaaStackQ
namespace Go.Proofs.Ytjkkefhfbcgahaa
open Go Go.RowKit
set_option linter.unusedVariables false

theorem S_ref4_Reached {m : List Material} {s : List Layer} {l : List Through} {name : Str} (hmf : Fits.fits m) (hf : Fits.fits s) {Q : List Str → Int → Prop} (h : Q (reachedOf m s l name).1 (reachedOf m s l name).2) : M_ref4_Reached m s l name Q := by
  unfold M_ref4_Reached
  unfold reachedOf at h
  refine S_ref4_CheckSpans hmf hf (cnd_of (fun e => ?_) (fun e => ?_))
  · rw [if_pos (by simpa using e)] at h; exact h
  rw [if_neg (by simpa using e)] at h
  obtain ⟨h1, hll, hspan⟩ := spans_ok (show spansFault m s l = 0 by simpa using e)
  obtain ⟨hm, hsl, _, _, _, hb⟩ := stack_ok h1
  have hcp := copOf_len m s
  refine S_ref4_placeOf hb (cnd_of (fun e => ?_) (fun e => ?_))
  · rw [if_pos (by simpa using e)] at h; exact h
  have hnn : ¬ placeNum s name < 0 := by simpa using e
  rw [if_neg hnn] at h
  obtain ⟨p, k, hp, hk, hki, _⟩ := place_cop hb hnn
  refine S_ref4_coppers (by omega) (S_index_int ?_)
  rw [hki] at h ⊢
  rw [Int.toNat_natCast] at h
  have hkl := lt_of_get hk
  rw [show w64 ((k : Int) + 1) = ((k + 1 : Nat) : Int) by rw [w64_id] <;> omega]
  refine S_ref4_reach (by omega) hspan (by omega) (by omega) ?_
  obtain ⟨hro, _⟩ := reach_spec hspan
  refine forIn0 (fun j acc => acc = namesOf m s (reachOf (copOf m s).length l) ((reachOf (copOf m s).length l).getD k 0) j) rfl (fun j x acc hx hI next hn => ?_) (fun acc hI => by subst hI; exact h)
  have hj := lt_of_get hx
  have hX := hn _ rfl
  rw [namesOf, ← hI] at hX
  have hlen := namesOf_len m s (reachOf (copOf m s).length l) ((reachOf (copOf m s).length l).getD k 0) j
  rw [← hI] at hlen
  unfold M_ref4_Reached_L1
  refine idx_nat (x := decide ((reachOf (copOf m s).length l).getD j 0 = (reachOf (copOf m s).length l).getD k 0)) (by unfold seenOf; rw [List.getElem?_map, List.getElem?_range (by omega)]; simp) (cnd_of (fun e => ?_) (fun e => ?_))
  · rw [if_pos (by simpa using e)] at hX
    obtain ⟨i, hi, hie, _⟩ := mem_copTo.1 (List.mem_of_getElem? hx : x ∈ copTo m s s.length)
    have hna : nameAt m s j = (s.getD i default).Name := by
      unfold nameAt; rw [getD_of0 hx, hie, Int.toNat_natCast]
    rw [hie]
    refine idx_nat (x := s.getD i default) (by rw [List.getD_eq_getElem?_getD, List.getElem?_eq_getElem hi]; rfl) ⟨room_of (by simp only [List.length_append, List.length_singleton]; omega) (by omega), ?_⟩
    rw [← hna]; exact hX
  · rw [if_neg (by simpa using e), List.append_nil] at hX; exact hX
/-! ### spans too slim -/
def slimCond (m : List Material) (s : List Layer) (l : List Through) (sizes : List Int) (most : Int) (k : Nat) : Bool :=
  decide (w64 (10 * thickOf m (seg s ((copOf m s).getD ((l.getD k default).From - 1).toNat 0) ((copOf m s).getD ((l.getD k default).To - 1).toNat 0 + 1))) > w64 (most * sizes.getD k 0))
def slimTo (m : List Material) (s : List Layer) (l : List Through) (sizes : List Int) (most : Int) : Nat → List Int
  | 0 => []
  | k + 1 => slimTo m s l sizes most k ++ (if slimCond m s l sizes most k = true then [(k : Int)] else [])
theorem slimTo_len (m : List Material) (s : List Layer) (l : List Through) (sizes : List Int) (most : Int) : ∀ k, (slimTo m s l sizes most k).length ≤ k
  | 0 => by simp [slimTo]
  | k + 1 => by have := slimTo_len m s l sizes most k; simp only [slimTo, List.length_append]; split <;> simp <;> omega
def slimOf (m : List Material) (s : List Layer) (l : List Through) (sizes : List Int) (most : Int) : List Int × Int :=
  if spansFault m s l ≠ 0 then ([], spansFault m s l) else if sizes.length ≠ l.length then ([], 3)
  else if sizes.any (fun n => !(within n 1 2000)) = true then ([], 1) else if within most 1 1000 = false then ([], 1) else (slimTo m s l sizes most l.length, 0)
theorem cop_sorted (m : List Material) (s : List Layer) : ∀ k, (copTo m s k).Pairwise (· < ·)
  | 0 => by simp [copTo]
  | k + 1 => by
    rw [copTo, List.pairwise_append]
    refine ⟨cop_sorted m s k, by split <;> simp, fun a ha b hb => ?_⟩
    obtain ⟨i, h1, h2, _⟩ := mem_copTo.1 ha
    split at hb
    · simp at hb; omega
    · simp at hb
theorem span_cops {m : List Material} {s : List Layer} {x : Through} (hx : SpanOk (copOf m s).length x) : ∃ a b : Nat, (copOf m s)[(x.From - 1).toNat]? = some (a : Int) ∧ (copOf m s)[(x.To - 1).toNat]? = some (b : Int) ∧ a < b ∧ b < s.length := by
  unfold SpanOk at hx
  have h1 : (x.From - 1).toNat < (copOf m s).length := by omega
  have h2 : (x.To - 1).toNat < (copOf m s).length := by omega
  obtain ⟨a, ha, hae, _⟩ := mem_copTo.1 (List.getElem_mem h1 : (copOf m s)[(x.From - 1).toNat] ∈ copTo m s s.length)
  obtain ⟨b, hb, hbe, _⟩ := mem_copTo.1 (List.getElem_mem h2 : (copOf m s)[(x.To - 1).toNat] ∈ copTo m s s.length)
  have := List.pairwise_iff_getElem.1 (cop_sorted m s s.length) _ _ h1 h2 (by omega)
  have h3 : (copOf m s)[(x.From - 1).toNat] < (copOf m s)[(x.To - 1).toNat] := this
  rw [hae, hbe] at h3
  exact ⟨a, b, by rw [List.getElem?_eq_getElem h1, hae], by rw [List.getElem?_eq_getElem h2, hbe], by omega, hb⟩
theorem S_containsfunc_int {t : List Int} {Q : Bool → Prop} (h : Q (t.any (fun n => !(within n 1 2000)))) : M_containsfunc_int t Q := by
  unfold M_containsfunc_int M_indexfunc_int
  refine forIn_any (fun n => !(within n 1 2000)) (fun k x next hq => ?_) t 0 (A := Q true) ?_
  · unfold M_indexfunc_int_L1 M_Slim1
    have : decide ((k : Int) ≥ 0) = true := by simp
    dsimp only
    rw [this]; exact cnd_iff.2 hq
  · split
    · rename_i e2; rw [e2] at h; exact h
    · rename_i e2
      rw [(Bool.not_eq_true _).mp e2] at h; exact h
theorem slim_step {m : List Material} {s : List Layer} {l : List Through} {sizes : List Int} {most : Int} (hsl : s.length ≤ 60) (hspan : ∀ x ∈ l, SpanOk (copOf m s).length x) (hs : sizes.length = l.length) {k : Nat} {x : Through} (hx : l[k]? = some x) :
    ∃ a b z : Nat, ∃ v : Int, w64 (x.From - 1) = ((x.From - 1).toNat : Int) ∧ w64 (x.To - 1) = ((x.To - 1).toNat : Int) ∧ (copOf m s)[(x.From - 1).toNat]? = some (a : Int) ∧ (copOf m s)[(x.To - 1).toNat]? = some (b : Int) ∧ (0 ≤ (a : Int) ∧ (a : Int) ≤ (b : Int) + 1 ∧ (b : Int) + 1 ≤ (s.length : Int)) ∧ w64 ((b : Int) + 1) = (b : Int) + 1 ∧
      sizes[k]? = some v ∧ (seg s (a : Int) ((b : Int) + 1)).length ≤ 1000 ∧ slimCond m s l sizes most k = decide (w64 (10 * thickOf m (seg s (a : Int) ((b : Int) + 1))) > w64 (most * v)) := by
  have hxo := hspan x (List.mem_of_getElem? hx)
  obtain ⟨a, b, h1, h2, h3, h4⟩ := span_cops hxo
  have hkl := lt_of_get hx
  have hv : sizes[k]? = some (sizes[k]'(by omega)) := List.getElem?_eq_getElem _
  have hcp := copOf_len m s
  unfold SpanOk at hxo
  refine ⟨a, b, 0, _, by rw [w64_id] <;> omega, by rw [w64_id] <;> omega, h1, h2, ⟨by omega, by omega, by omega⟩, by rw [w64_id] <;> omega, hv, ?_, ?_⟩
  · unfold seg; rw [List.length_drop, List.length_take]; omega
  · unfold slimCond
    rw [getD_of hx, getD_of0 h1, getD_of0 h2, getD_of0 hv]
theorem S_stack_Slim {m : List Material} {s : List Layer} {l : List Through} {sizes : List Int} {most : Int} (hmf : Fits.fits m) (hf : Fits.fits s) {Q : List Int → Int → Prop} (h : Q (slimOf m s l sizes most).1 (slimOf m s l sizes most).2) : M_stack_Slim m s l sizes most Q := by
  unfold M_stack_Slim
  unfold slimOf at h
  refine S_stack_CheckSpans hmf hf (cnd_of (fun e => ?_) (fun e => ?_))
  · rw [if_pos (by simpa using e)] at h; exact h
  rw [if_neg (by simpa using e)] at h
  obtain ⟨h1, hll, hspan⟩ := spans_ok (show spansFault m s l = 0 by simpa using e)
  obtain ⟨hm, hsl, _, _, _, hb⟩ := stack_ok h1
  refine cnd_of (fun e => ?_) (fun e => ?_)
  · rw [if_pos (by simp at e; omega)] at h; exact h
  have hs : sizes.length = l.length := by simp at e; omega
  rw [if_neg (by simpa using hs)] at h
  refine S_containsfunc_int ?_
  unfold M_stack_Slim_k1
  refine cnd_of (fun e => cnd_of (fun _ => ?_) (fun e => by cases e)) (fun e => cnd_of (fun e2 => ?_) (fun e2 => ?_))
  · rw [if_pos e] at h; exact h
  · rw [if_neg (by simp [e]), if_pos (by simpa using e2)] at h; exact h
  rw [if_neg (by simp [e]), if_neg (by simpa using e2)] at h
  refine S_stack_coppers hm (by omega) ?_
  refine forIn0 (fun k acc => acc = slimTo m s l sizes most k) rfl (fun k x acc hx hI next hn => ?_) (fun acc hI => by subst hI; exact h)
  have hX := hn _ rfl
  have hlen := slimTo_len m s l sizes most k
  rw [slimTo, ← hI] at hX
  rw [← hI] at hlen
  have hk := lt_of_get hx
  obtain ⟨a, b, _, v, w1, w2, g1, g2, g3, w3, g4, g5, g6⟩ := slim_step (most := most) hsl hspan hs hx
  unfold M_stack_Slim_L1
  rw [w1, w2]
  refine idx_nat g1 (idx_nat g2 ?_)
  rw [w3]
  refine ⟨g3, S_stack_thick hm g5 (idx_nat g4 ?_)⟩
  rw [← g6]
  refine cnd_of (fun e => ?_) (fun e => ?_)
  · rw [if_pos e] at hX; exact ⟨room_of (by simp only [List.length_append, List.length_singleton]; omega) (by omega), hX⟩
  · rw [if_neg (by simp [e]), List.append_nil] at hX; exact hX
theorem S_ref4_Slim {m : List Material} {s : List Layer} {l : List Through} {sizes : List Int} {most : Int} (hmf : Fits.fits m) (hf : Fits.fits s) {Q : List Int → Int → Prop} (h : Q (slimOf m s l sizes most).1 (slimOf m s l sizes most).2) : M_ref4_Slim m s l sizes most Q := by
  unfold M_ref4_Slim
  unfold slimOf at h
  refine S_ref4_CheckSpans hmf hf (cnd_of (fun e => ?_) (fun e => ?_))
  · rw [if_pos (by simpa using e)] at h; exact h
  rw [if_neg (by simpa using e)] at h
  obtain ⟨h1, hll, hspan⟩ := spans_ok (show spansFault m s l = 0 by simpa using e)
  obtain ⟨hm, hsl, _, _, _, hb⟩ := stack_ok h1
  refine cnd_of (fun e => ?_) (fun e => ?_)
  · rw [if_pos (by simp at e; omega)] at h; exact h
  have hs : sizes.length = l.length := by simp at e; omega
  rw [if_neg (by simpa using hs)] at h
  refine forIn_any (fun n => !(within n 1 2000)) (fun k x next hq => ?_) sizes 0 (A := Q [] 1) ?_
  · unfold M_ref4_Slim_L1; exact cnd_iff.2 hq
  split
  · rename_i e; rw [if_pos e] at h; exact h
  rename_i e
  rw [if_neg e] at h
  refine cnd_of (fun e2 => ?_) (fun e2 => ?_)
  · rw [if_pos (by simpa using e2)] at h; exact h
  rw [if_neg (by simpa using e2)] at h
  refine S_ref4_coppers (by omega) ?_
  refine forIn0 (fun k acc => acc = slimTo m s l sizes most k) rfl (fun k x acc hx hI next hn => ?_) (fun acc hI => by subst hI; exact h)
  have hX := hn _ rfl
  have hlen := slimTo_len m s l sizes most k
  rw [slimTo, ← hI] at hX
  rw [← hI] at hlen
  have hk := lt_of_get hx
  obtain ⟨a, b, _, v, w1, w2, g1, g2, g3, w3, g4, g5, g6⟩ := slim_step (most := most) hsl hspan hs hx
  unfold M_ref4_Slim_L2
  rw [w1, w2]
  refine idx_nat g1 (idx_nat g2 ?_)
  rw [w3]
  refine ⟨g3, idx_nat g4 (S_ref4_thickness hm g5 ?_)⟩
  rw [← g6]
  refine cnd_of (fun e => ?_) (fun e => ?_)
  · rw [if_pos e] at hX; exact ⟨room_of (by simp only [List.length_append, List.length_singleton]; omega) (by omega), hX⟩
  · rw [if_neg (by simp [e]), List.append_nil] at hX; exact hX
/-! ### the fewest spans -/
theorem S_equal_bool {xs ys : List Bool} {Q : Bool → Prop} (h : Q (decide (xs = ys))) : M_equal_bool xs ys Q := by
  unfold M_equal_bool
  refine equal_loop (fun k x next hq => ?_) h
  unfold M_equal_bool_L1
  obtain ⟨h0, y, hy, hc⟩ := hq
  refine ⟨h0, y, hy, ?_⟩
  have : (x == y) = decide (x = y) := by rw [Bool.eq_iff_iff]; simp
  dsimp only
  rw [this]; exact hc
theorem S_equal_thr {xs ys : List Through} {Q : Bool → Prop} (h : Q (decide (xs = ys))) : M_equal_thr xs ys Q := by
  unfold M_equal_thr
  exact equal_loop (fun k x next h => h) h
theorem seen_same {n : Nat} {a b : List Through} (ha : ∀ x ∈ a, SpanOk n x) (hb : ∀ x ∈ b, SpanOk n x) : (List.range n).all (fun i => decide (seenOf n a (i + 1) = seenOf n b (i + 1))) = decide (reachOf n a = reachOf n b) := by
  rw [Bool.eq_iff_iff, decide_eq_true_eq, List.all_eq_true]
  constructor
  · intro h
    refine same_cls ha hb (fun c p hc hp => ?_)
    have h1 := of_decide_eq_true (h c (List.mem_range.2 hc))
    obtain ⟨ra, _⟩ := reach_spec ha
    obtain ⟨rb, _⟩ := reach_spec hb
    have key : ∀ (o : List Int), o.length = n → (cls o c (p : Int) ↔ o.getD p 0 = o.getD c 0) := fun o ho => by
      have hp' : o[p]? = some (o[p]'(by omega)) := List.getElem?_eq_getElem _
      have hc' : o[c]? = some (o[c]'(by omega)) := List.getElem?_eq_getElem _
      rw [getD_of0 hp', getD_of0 hc']
      unfold cls
      rw [Int.toNat_natCast, hp', hc']
      constructor
      · rintro ⟨_, y, h1, h2⟩; injection h1 with h1; injection h2 with h2; rw [h1, h2]
      · intro h; exact ⟨Int.natCast_nonneg _, _, rfl, by rw [h]⟩
    rw [key _ ra.1, key _ rb.1]
    have h2 := congrArg (fun t => t[p + 1]?) h1
    unfold seenOf at h2
    simp only [List.getElem?_map] at h2
    rw [List.getElem?_range (by omega)] at h2
    simpa using h2
  · intro h i _
    refine decide_eq_true ?_
    unfold seenOf; rw [h]
theorem S_ref4_sameReach {n : Nat} (hn : n ≤ 60) {a b : List Through} (ha : ∀ x ∈ a, SpanOk n x) (hb : ∀ x ∈ b, SpanOk n x) {Q : Bool → Prop} (h : Q (decide (reachOf n a = reachOf n b))) : M_ref4_sameReach a b (n : Int) Q := by
  unfold M_ref4_sameReach
  refine lp_all (fun i => decide (seenOf n a (i + 1) = seenOf n b (i + 1))) 1 n (A := Q false) (D := Q true) (fun X i hi hX => ?_) (fun X hD => ?_) ?_
  · unfold M_ref4_sameReach_L1
    refine cnd_of (fun _ => ?_) (fun e => by simp at e; omega)
    rw [show (1 : Int) + (i : Int) = ((i + 1 : Nat) : Int) by omega]
    refine S_ref4_reach hn ha (by omega) (by omega) (S_ref4_reach hn hb (by omega) (by omega) (S_equal_bool ?_))
    rw [show w64 (((i + 1 : Nat) : Int) + 1) = 1 + ((i + 1 : Nat) : Int) by rw [w64_id] <;> omega]
    refine cnd_of (fun e => ?_) (fun e => ?_)
    · rw [if_neg (by simpa using e)] at hX; exact hX
    · rw [if_pos (by simpa using e)] at hX; exact hX
  · unfold M_ref4_sameReach_L1
    exact cnd_of (fun e => by simp at e; omega) (fun _ => hD)
  · rw [seen_same ha hb]
    split
    · rename_i e; rw [e] at h; exact h
    · rename_i e; rw [(Bool.not_eq_true _).mp e] at h; exact h
def fewLoop (m : List Material) (s : List Layer) (l : List Through) : Nat → List Through → List Through
  | 0, o => o
  | k + 1, o => fewLoop m s l k (if spansFault m s (o.take k ++ o.drop (k + 1)) = 0 ∧ reachOf (copOf m s).length (o.take k ++ o.drop (k + 1)) = reachOf (copOf m s).length l then o.take k ++ o.drop (k + 1) else o)
def fewOf (m : List Material) (s : List Layer) (l : List Through) : List Through × Int := if spansFault m s l ≠ 0 then ([], spansFault m s l) else (fewLoop m s l l.length l, 0)
theorem cut_sub {o : List Through} {k : Nat} : ∀ x ∈ o.take k ++ o.drop (k + 1), x ∈ o := fun x hx => by
  rcases List.mem_append.1 hx with hx | hx
  · exact List.mem_of_mem_take hx
  · exact List.mem_of_mem_drop hx
theorem S_stack_FewestX {m : List Material} {s : List Layer} {l : List Through} (hmf : Fits.fits m) (hf : Fits.fits s) {Q : List Through → Int → Prop} (h : Q (fewOf m s l).1 (fewOf m s l).2) : M_stack_Fewest m s l Q := by
  unfold M_stack_Fewest
  unfold fewOf at h
  refine S_stack_CheckSpans hmf hf (cnd_of (fun e => ?_) (fun e => ?_))
  · rw [if_pos (by simpa using e)] at h; exact h
  have e0 : spansFault m s l = 0 := by simpa using e
  rw [if_neg (by simpa using e)] at h
  obtain ⟨h1, hll, hspan⟩ := spans_ok e0
  obtain ⟨hm, hsl, _, _, _, hb⟩ := stack_ok h1
  have hcp := copOf_len m s
  refine S_stack_coppers hm (by omega) (S_stack_reach (by omega) hspan (fun _ => S_clone_thr (by omega) ?_))
  rw [w64_id (by omega) (by omega)]
  refine lp_intro (fun st => ∃ k : Nat, st.2 = (k : Int) - 1 ∧ k ≤ st.1.length ∧ spansFault m s st.1 = 0 ∧ fewLoop m s l k st.1 = fewLoop m s l l.length l) (fun st => (st.2 + 1).toNat) ⟨l.length, rfl, Nat.le_refl _, e0, rfl⟩ (fun X st hI hX => ?_)
  obtain ⟨o, n⟩ := st
  obtain ⟨k, i1, i2, i3, i4⟩ := hI
  dsimp only at i1 i2 i3 i4 hX ⊢
  obtain ⟨_, hol, hospan⟩ := spans_ok i3
  unfold M_stack_Fewest_L1
  subst i1
  cases k with
  | zero => exact cnd_of (fun e => by simp at e) (fun _ => by rw [← i4] at h; exact h)
  | succ k =>
    rw [show (((k + 1 : Nat) : Int) - 1) = (k : Int) by omega] at hX ⊢
    refine cnd_of (fun _ => ?_) (fun e => by simp at e)
    rw [show w64 ((k : Int) + 1) = ((k + 1 : Nat) : Int) by rw [w64_id] <;> omega]
    have hw : w64 ((k : Int) - 1) = (k : Int) - 1 := by rw [w64_id] <;> omega
    refine ⟨⟨by omega, by omega⟩, ⟨by omega, by omega, by omega⟩, ?_⟩
    have es : seg o ((k + 1 : Nat) : Int) (o.length : Int) = o.drop (k + 1) := by unfold seg; rw [Int.toNat_natCast, Int.toNat_natCast, List.take_length]
    rw [es, Int.toNat_natCast]
    have hle : (o.take k ++ o.drop (k + 1)).length = o.length - 1 := by rw [List.length_append, List.length_take, List.length_drop]; omega
    refine S_concat_thr (by rw [← List.length_append, hle]; omega) ?_
    have hsub := cut_sub (o := o) (k := k)
    rw [fewLoop] at i4
    generalize hL : o.take k ++ o.drop (k + 1) = L at *
    refine S_stack_reach (by omega) (fun x hx => hospan x (hsub x hx)) (fun _ => S_equal_int ?_)
    have keep : ¬ (spansFault m s L = 0 ∧ reachOf (copOf m s).length L = reachOf (copOf m s).length l) → X (o, (k : Int) - 1) := fun hno => by
      rw [if_neg hno] at i4
      exact hX _ ⟨k, rfl, by dsimp only; omega, i3, i4⟩ (by dsimp only; omega)
    unfold M_stack_Fewest_k2
    rw [hw]
    refine cnd_of (fun e1 => S_stack_CheckSpans hmf hf (cnd_of (fun e2 => ?_) (fun e2 => keep (fun hc => by simp at e2; exact e2 hc.1)))) (fun e1 => cnd_of (fun e => by cases e) (fun _ => keep (fun hc => by simp at e1; exact e1 hc.2)))
    have e2 : spansFault m s L = 0 := by simpa using e2
    rw [if_pos ⟨e2, by simpa using e1⟩] at i4
    exact hX _ ⟨k, rfl, by dsimp only; omega, e2, i4⟩ (by dsimp only; omega)
theorem S_ref4_Fewest {m : List Material} {s : List Layer} {l : List Through} (hmf : Fits.fits m) (hf : Fits.fits s) {Q : List Through → Int → Prop} (h : Q (fewOf m s l).1 (fewOf m s l).2) : M_ref4_Fewest m s l Q := by
  unfold M_ref4_Fewest
  unfold fewOf at h
  refine S_ref4_CheckSpans hmf hf (cnd_of (fun e => ?_) (fun e => ?_))
  · rw [if_pos (by simpa using e)] at h; exact h
  have e0 : spansFault m s l = 0 := by simpa using e
  rw [if_neg (by simpa using e)] at h
  obtain ⟨h1, hll, hspan⟩ := spans_ok e0
  obtain ⟨hm, hsl, _, _, _, hb⟩ := stack_ok h1
  have hcp := copOf_len m s
  refine S_clone_thr (by omega) ?_
  rw [w64_id (by omega) (by omega)]
  refine lp_intro (fun st => ∃ k : Nat, st.2 = (k : Int) - 1 ∧ k ≤ st.1.length ∧ spansFault m s st.1 = 0 ∧ fewLoop m s l k st.1 = fewLoop m s l l.length l) (fun st => (st.2 + 1).toNat) ⟨l.length, rfl, Nat.le_refl _, e0, rfl⟩ (fun X st hI hX => ?_)
  obtain ⟨o, n⟩ := st
  obtain ⟨k, i1, i2, i3, i4⟩ := hI
  dsimp only at i1 i2 i3 i4 hX ⊢
  obtain ⟨_, hol, hospan⟩ := spans_ok i3
  unfold M_ref4_Fewest_L1
  subst i1
  cases k with
  | zero => exact cnd_of (fun e => by simp at e) (fun _ => by rw [← i4] at h; exact h)
  | succ k =>
    rw [show (((k + 1 : Nat) : Int) - 1) = (k : Int) by omega] at hX ⊢
    refine cnd_of (fun _ => S_clone_thr (by omega) ?_) (fun e => by simp at e)
    rw [show w64 ((k : Int) + 1) = ((k + 1 : Nat) : Int) by rw [w64_id] <;> omega]
    refine ⟨⟨by omega, by omega, by omega⟩, ?_⟩
    rw [Int.toNat_natCast, Int.toNat_natCast]
    have hle : (o.take k ++ o.drop (k + 1)).length = o.length - 1 := by rw [List.length_append, List.length_take, List.length_drop]; omega
    rw [fewLoop] at i4
    generalize hL : o.take k ++ o.drop (k + 1) = L at *
    have hw : w64 ((k : Int) - 1) = (k : Int) - 1 := by rw [w64_id] <;> omega
    have keep : ¬ (spansFault m s L = 0 ∧ reachOf (copOf m s).length L = reachOf (copOf m s).length l) → X (o, (k : Int) - 1) := fun hno => by
      rw [if_neg hno] at i4
      exact hX _ ⟨k, rfl, by dsimp only; omega, i3, i4⟩ (by dsimp only; omega)
    unfold M_ref4_Fewest_k2
    rw [hw]
    refine S_ref4_CheckSpans hmf hf (cnd_of (fun e1 => ?_) (fun e1 => cnd_of (fun e => by cases e) (fun _ => keep (fun hc => by simp at e1; exact e1 hc.1))))
    have e1 : spansFault m s L = 0 := by simpa using e1
    obtain ⟨_, _, hLs⟩ := spans_ok e1
    refine S_ref4_coppers (by omega) (S_ref4_sameReach (by omega) hspan hLs (cnd_of (fun e2 => ?_) (fun e2 => keep (fun hc => by simp at e2; exact e2 hc.2.symm))))
    rw [if_pos ⟨e1, by simpa using (of_decide_eq_true e2).symm⟩] at i4
    exact hX _ ⟨k, rfl, by dsimp only; omega, e1, i4⟩ (by dsimp only; omega)
theorem law_Reached_true (m : List Material) (s : List Layer) (l : List Through) (name : Str) (sizes : List Int) (most : Int) (hmf : Fits.fits m) (hf : Fits.fits s) : M_law_Reached m s l name sizes most (· = true) := by
  unfold M_law_Reached M_law_Reached_k1 M_law_Reached_k2
  have aw : M_awake (fun y => y = true) := S_awake rfl
  refine S_stack_Reached hmf hf (S_ref4_Reached hmf hf (cnd_of (fun e => by simp at e) (fun _ => S_equal_str (cnd_of (fun e => by simp at e) (fun _ => ?_)))))
  refine S_stack_Slim hmf hf (S_ref4_Slim hmf hf (cnd_of (fun e => by simp at e) (fun _ => S_equal_int (cnd_of (fun e => by simp at e) (fun _ => ?_)))))
  refine S_stack_FewestX hmf hf (S_ref4_Fewest hmf hf (cnd_of (fun _ => S_equal_thr (cnd_of (fun _ => aw) (fun e => by simp at e))) (fun e => by simp at e)))
end Go.Proofs.Ytjkkefhfbcgahaa

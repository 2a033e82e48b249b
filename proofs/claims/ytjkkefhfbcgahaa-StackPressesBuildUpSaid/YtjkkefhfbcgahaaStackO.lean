/- Chapter 4: the reference's check of spans: plain. -/
import Derived.Test.YtjkkefhfbcgahaaStackN
namespace Go.Proofs.Ytjkkefhfbcgahaa
open Go Go.RowKit
set_option linter.unusedVariables false

theorem firstBad_map {α β : Type} (g : α → β) (f : Nat → β → Int) : ∀ (t : List α) (k : Nat), firstBad (fun k x => f k (g x)) t k = firstBad f (t.map g) k
  | [], _ => rfl
  | x :: t, k => by unfold firstBad; rw [firstBad_map g f t (k + 1)]; rfl
theorem firstBad_append {α : Type} (f : Nat → α → Int) : ∀ (a b : List α) (k : Nat), (∀ j x, a[j]? = some x → f (k + j) x = 0) → firstBad f (a ++ b) k = firstBad f b (k + a.length)
  | [], b, k, _ => rfl
  | x :: a, b, k, h => by
    have h0 : f k x = 0 := h 0 x rfl
    have ih := firstBad_append f a b (k + 1) (fun j y hj => by have := h (j + 1) y (by simpa using hj); rwa [show k + (j + 1) = k + 1 + j by omega] at this)
    show firstBad f (x :: (a ++ b)) k = _
    rw [show k + (x :: a).length = k + 1 + a.length by rw [List.length_cons]; omega, ← ih]
    conv => lhs; unfold firstBad
    rw [if_neg (by simpa using h0)]
theorem S_ref4_inside {a b : Through} {Q : Bool → Prop} (h : Q (liesB a b)) : M_ref4_inside a b Q := by
  unfold M_ref4_inside
  unfold liesB at h
  refine cnd_of (fun e => ?_) (fun e => ?_)
  · rw [show decide (a.From ≥ b.From) = true from e, Bool.true_and] at h; exact h
  · rw [show decide (a.From ≥ b.From) = false from e, Bool.false_and] at h; exact h
theorem S_ref4_held {all : List R4Sub} {a : R4Sub} (ha : SpanIn a.Through) {Q : Bool → Prop} (h : Q (heldB (all.map (·.Through)) a.Through)) : M_ref4_held all a Q := by
  unfold M_ref4_held
  unfold SpanIn at ha
  rw [w64_id (by omega) (by omega)]
  refine lp_all (fun i => (all.map (·.Through)).any (coverB a.Through (a.Through.From + 1 + (i : Int)))) (a.Through.From + 1) (a.Through.To - a.Through.From - 1).toNat (A := Q false) (D := Q true) (fun X i hi hX => ?_) (fun X hD => ?_) ?_
  · unfold M_ref4_held_L1
    refine cnd_of (fun _ => ?_) (fun e => by simp at e; omega)
    rw [show w64 (a.Through.From + 1 + (i : Int) + 1) = a.Through.From + 1 + ((i + 1 : Nat) : Int) by rw [w64_id] <;> omega]
    rw [List.any_map] at hX
    refine forIn0 (fun j c => c = (all.take j).any ((coverB a.Through (a.Through.From + 1 + (i : Int))) ∘ (·.Through))) rfl (fun j y c hy hI nx hnx => ?_) (fun c hI => ?_)
    · have hXX := hnx _ (take_any_succ _ j y hy _).symm
      rw [← hI] at hXX
      unfold M_ref4_held_L2
      refine cnd_of (fun e => ?_) (fun e => ?_)
      · rw [e, Bool.true_or] at hXX; exact hXX
      · rw [e, Bool.false_or] at hXX
        have hXX : nx (coverB a.Through (a.Through.From + 1 + (i : Int)) y.Through) := hXX
        unfold coverB at hXX
        refine cnd_of (fun e1 => S_ref4_inside (cnd_of (fun e2 => ?_) (fun e2 => ?_))) (fun e1 => ?_)
        · rw [e1, e2, Bool.true_and, Bool.true_and] at hXX; exact hXX
        · rw [e1, e2] at hXX; exact hXX
        · rw [e1] at hXX; exact hXX
    · rw [List.take_length] at hI
      rw [← hI] at hX
      refine cnd_of (fun e => ?_) (fun e => ?_)
      · rw [if_neg (by simpa using e)] at hX; exact hX
      · rw [if_pos (by simpa using e)] at hX; exact hX
  · unfold M_ref4_held_L1
    exact cnd_of (fun e => by simp at e; omega) (fun _ => hD)
  · unfold heldB at h
    split
    · rename_i e; rw [e] at h; exact h
    · rename_i e; rw [(Bool.not_eq_true _).mp e] at h; exact h
theorem mem_refTo {m : List Material} {s : List Layer} {x : Through} : ∀ {i : Nat}, x ∈ refTo m s i → x.From ≤ x.To
  | 0, h => by simp [refTo] at h
  | i + 1, h => by
    rw [refTo] at h
    rcases List.mem_append.1 h with h | h
    · exact mem_refTo h
    · split at h
      · simp at h; subst h; dsimp only; omega
      · simp at h
theorem subs_through (m : List Material) (s : List Layer) (l : List Through) : (subsOf m s l).map (·.Through) = allOf m s l := by
  unfold subsOf allOf
  rw [List.map_append, List.map_map, List.map_map]
  congr 1
  · exact List.map_id _
  · exact List.map_id _
theorem S_ref4_CheckSpans {m : List Material} {s : List Layer} {l : List Through} (hmf : Fits.fits m) (hf : Fits.fits s) {Q : Int → Prop} (h : Q (spansFault m s l)) : M_ref4_CheckSpans m s l Q := by
  unfold M_ref4_CheckSpans
  unfold spansFault at h
  refine S_ref4_CheckStack hmf hf (cnd_of (fun e => ?_) (fun e => ?_))
  · rw [if_pos (by simpa using e)] at h; exact h
  have e0 : stackFault m s = 0 := by simpa using e
  rw [if_neg (by simpa using e)] at h
  obtain ⟨hm, hsl, hc2, _⟩ := stack_ok e0
  have hcp := copOf_len m s
  refine cnd_of (fun e => ?_) (fun e => ?_)
  · rw [if_pos (by simpa using e)] at h; exact h
  rw [if_neg (by simpa using e)] at h
  have hll : l.length ≤ 200 := by simp at e; omega
  refine forIn_check (spanBad (copOf m s).length l) (fun k x next hx h1 h0 => ?_) (Q := Q) ?_
  · have hk := lt_of_get hx
    unfold M_ref4_CheckSpans_L1 M_ref4_CheckSpans_k7
    unfold spanBad at h1 h0
    have tail : ¬ (x.From < 1 ∨ x.To > (copOf m s).length ∨ x.To ≤ x.From) → cnd (decide ((k : Int) > 0)) (idx l (w64 ((k : Int) - 1)) fun x1 => cnd (decide (x.From < x1.From)) (M_ref4_CheckSpans_k8 Q (next ()) true) (cnd (x.From == x1.From) (M_ref4_CheckSpans_k8 Q (next ()) (decide (x.To ≤ x1.To))) (M_ref4_CheckSpans_k8 Q (next ()) false))) (M_ref4_CheckSpans_k8 Q (next ()) false) := fun hn => by
      rw [if_neg hn] at h1 h0
      unfold M_ref4_CheckSpans_k8
      refine cnd_of (fun e => ?_) (fun e => cnd_of (fun e => by cases e) (fun _ => h0 (by rw [if_neg (by simp at e; omega)])))
      have hk0 : 0 < k := by simp at e; omega
      have hw : w64 ((k : Int) - 1) = ((k - 1 : Nat) : Int) := by rw [w64_id] <;> omega
      rw [hw]
      refine idx_nat (x := l.getD (k - 1) default) (by rw [List.getD_eq_getElem?_getD, List.getElem?_eq_getElem (by omega)]; rfl) ?_
      generalize l.getD (k - 1) default = y at *
      refine cnd_of (fun e1 => cnd_of (fun _ => ?_) (fun e => by cases e)) (fun e1 => cnd_of (fun e2 => cnd_of (fun e3 => ?_) (fun e3 => ?_)) (fun e2 => cnd_of (fun e => by cases e) (fun _ => ?_)))
      · rw [if_pos ⟨hk0, .inl (by simpa using e1)⟩] at h1; exact h1 (by decide)
      · rw [if_pos ⟨hk0, .inr ⟨by simpa using e2, by simpa using e3⟩⟩] at h1; exact h1 (by decide)
      · exact h0 (by rw [if_neg (by simp at e1 e2 e3; omega)])
      · exact h0 (by rw [if_neg (by simp at e1 e2; omega)])
    refine cnd_of (fun e1 => cnd_of (fun _ => ?_) (fun e => by cases e)) (fun e1 => S_ref4_coppers (by omega) (cnd_of (fun e2 => cnd_of (fun _ => ?_) (fun e => by cases e)) (fun e2 => cnd_of (fun e3 => ?_) (fun e3 => ?_))))
    · rw [if_pos (.inl (by simpa using e1))] at h1; exact h1 (by decide)
    · rw [if_pos (.inr (.inl (by simpa using e2)))] at h1; exact h1 (by decide)
    · rw [if_pos (.inr (.inr (by simpa using e3)))] at h1; exact h1 (by decide)
    · exact tail (by simp at e1 e2 e3; omega)
  · split
    · rename_i eb
      rw [if_neg (by rw [eb]; simp)] at h
      have hin := spans_in (by omega) eb
      have hspan : ∀ x ∈ l, SpanIn x := fun x hx => by have := hin x hx; unfold SpanIn; omega
      refine S_ref4_subs e0 hspan hll ?_
      have hall := subs_through m s l
      have hle : ∀ x ∈ subsOf m s l, x.Through.From ≤ x.Through.To := fun x hx => by
        have hx : x.Through ∈ allOf m s l := by rw [← hall]; exact List.mem_map_of_mem hx
        unfold allOf at hx
        rcases List.mem_append.1 hx with hx | hx
        · rw [cores_ref e0] at hx; exact mem_refTo hx
        · rcases pressed_mem _ _ _ _ ((sortSpans_perm _).subset hx) with h | h
          · simp at h
          · rcases List.mem_append.1 h with h | h
            · have := hin _ h; omega
            · simp at h; rw [h]; unfold wholeOf; dsimp only; omega
      have hca : firstBad (fun k x => clashAt (allOf m s l) k x.Through) (subsOf m s l) 0 = firstBad (clashAt (allOf m s l)) (allOf m s l) 0 := (firstBad_map (fun (x : R4Sub) => x.Through) (clashAt (allOf m s l)) (subsOf m s l) 0).trans (by rw [hall])
      rw [← hca] at h
      refine forIn_check (fun k x => clashAt (allOf m s l) k x.Through) (fun k x next hx h1 h0 => ?_) (Q := Q) ?_
      · have hk := lt_of_get hx
        have hxl := hle x (List.mem_of_getElem? hx)
        unfold M_ref4_CheckSpans_L2
        unfold clashAt at h1 h0
        refine ⟨⟨Int.natCast_nonneg _, by omega⟩, ?_⟩
        rw [Int.toNat_natCast]
        have hany : ((allOf m s l).take k).any (clashB x.Through) = ((subsOf m s l).take k).any ((clashB x.Through) ∘ (·.Through)) := by rw [← hall, ← List.map_take, List.any_map]
        rw [hany] at h1 h0
        refine forIn0 (fun j _ => ((subsOf m s l).take k).take j |>.any ((clashB x.Through) ∘ (·.Through)) |> (· = false)) (by simp) (fun j y st hy hI nx hnx => ?_) (fun st hI => ?_)
        · have hyl := hle y (List.mem_of_mem_take (List.mem_of_getElem? hy))
          have hs := take_any_succ ((subsOf m s l).take k) j y hy ((clashB x.Through) ∘ (·.Through))
          have hI : (((subsOf m s l).take k).take j).any ((clashB x.Through) ∘ (·.Through)) = false := hI
          rw [hI, Bool.false_or] at hs
          have hs : (((subsOf m s l).take k).take (j + 1)).any ((clashB x.Through) ∘ (·.Through)) = clashB x.Through y.Through := hs
          have bad : clashB x.Through y.Through = true → Q 12 := fun hc => by
            have : ((subsOf m s l).take k).any ((clashB x.Through) ∘ (·.Through)) = true := List.any_eq_true.2 ⟨y, List.mem_of_getElem? hy, hc⟩
            rw [if_pos this] at h1; exact h1 (by decide)
          have good : clashB x.Through y.Through = false → nx () := fun hc => hnx () (by show _ = false; rw [hs]; exact hc)
          unfold M_ref4_CheckSpans_L4 M_ref4_CheckSpans_k6
          unfold clashB at bad good
          have hov : decide (max x.Through.From y.Through.From ≤ min x.Through.To y.Through.To) = (decide (x.Through.From ≤ y.Through.To) && decide (y.Through.From ≤ x.Through.To)) := by
            rw [Bool.eq_iff_iff]; simp only [decide_eq_true_eq, Bool.and_eq_true]; omega
          refine cnd_of (fun e1 => S_ref4_inside (cnd_of (fun e2 => S_ref4_inside (cnd_of (fun e3 => bad ?_) (fun e3 => good ?_))) (fun e2 => cnd_of (fun e => by cases e) (fun _ => good ?_)))) (fun e1 => cnd_of (fun e => by cases e) (fun _ => good ?_))
          · rw [← hov, e1, e2, e3]; rfl
          · rw [← hov, e1, e2, e3]; rfl
          · rw [← hov, e1, e2]; rfl
          · rw [← hov, e1]; rfl
        · have hI : (((subsOf m s l).take k).take ((subsOf m s l).take k).length).any ((clashB x.Through) ∘ (·.Through)) = false := hI
          rw [List.take_length] at hI
          exact h0 (by rw [if_neg (by rw [hI]; simp)])
      · split
        · rename_i ec
          rw [if_neg (by rw [ec]; simp)] at h
          have hdrop : (allOf m s l).drop (coresOf m s).length = sortSpans (pressedOf (coresOf m s) (l ++ [wholeOf m s])) := by unfold allOf; rw [List.drop_left' rfl]
          have hdin := allOf_in (m := m) hsl hspan
          rw [hdrop] at h hdin
          have hhe : firstBad (fun k x => if x.core = true then 0 else heldAt (allOf m s l) k x.Through) (subsOf m s l) 0 = firstBad (heldAt (allOf m s l)) (sortSpans (pressedOf (coresOf m s) (l ++ [wholeOf m s]))) 0 := by
            unfold subsOf
            rw [firstBad_append _ _ _ _ (fun j x hj => by
              rw [List.getElem?_map] at hj
              cases hg : (coresOf m s)[j]? with
              | none => rw [hg] at hj; cases hj
              | some z => rw [hg] at hj; injection hj with hj; subst hj; rfl)]
            rw [← heldAt_shift (allOf m s l) _ (0 + ((coresOf m s).map subC).length)]
            rw [← firstBad_map subT]
            rfl
          rw [← hhe] at h
          refine forIn_check (fun k x => if x.core = true then 0 else heldAt (allOf m s l) k x.Through) (fun k x next hx h1 h0 => ?_) (Q := Q) (by split <;> rename_i e9; rw [e9] at h; exact h; exact h)
          unfold M_ref4_CheckSpans_L3 M_ref4_CheckSpans_k4
          refine cnd_of (fun e1 => ?_) (fun e1 => cnd_of (fun e => by cases e) (fun _ => h0 (by rw [if_pos (by simpa using e1)])))
          rw [if_neg (by simpa using e1)] at h1 h0
          have hxin : SpanIn x.Through := by
            have hxm := List.mem_of_getElem? hx
            unfold subsOf at hxm
            rcases List.mem_append.1 hxm with hxm | hxm
            · obtain ⟨z, _, rfl⟩ := List.mem_map.1 hxm; simp [subC] at e1
            · obtain ⟨z, hz, rfl⟩ := List.mem_map.1 hxm; exact hdin z hz
          refine S_ref4_held hxin ?_
          rw [hall]
          unfold heldAt at h1 h0
          refine cnd_of (fun e => ?_) (fun e => ?_)
          · rw [if_neg (by simpa using e)] at h1; exact h1 (by decide)
          · rw [if_pos (by simpa using e)] at h0; exact h0 rfl
        · rename_i ec
          rw [if_pos ec] at h; exact h
    · rename_i eb
      rw [if_pos eb] at h; exact h
end Go.Proofs.Ytjkkefhfbcgahaa

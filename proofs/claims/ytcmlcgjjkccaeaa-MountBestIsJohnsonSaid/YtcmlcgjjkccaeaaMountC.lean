/- Chapter 10: no division of loads has a lesser greater sum. -/
import Derived.Test.YtcmlcgjjkccaeaaMountB
namespace Go.Proofs.Ytcmlcgjjkccaeaa
open Go Go.RowKit
set_option linter.unusedVariables false

theorem S_contains_int {s : List Int} {v : Int} {Q : Bool → Prop} (h : Q (s.contains v)) : M_contains_int s v Q := by
  unfold M_contains_int M_index_int
  refine forIn_any (fun x => v == x) (fun k x next hq => ?_) s 0 (A := Q true) ?_
  · unfold M_index_int_L1
    have : decide ((k : Int) ≥ 0) = true := by simp
    show cnd (v == x) (Q (decide ((k : Int) ≥ 0))) (next ())
    rw [this]
    exact cnd_iff.2 hq
  · have e : s.any (fun x => v == x) = s.contains v := by rw [List.contains_eq_any_beq]
    rw [e]
    split
    · rename_i e2; rw [e2] at h; exact h
    · rename_i e2
      rw [show s.contains v = false by simpa using e2] at h
      simpa using h
/-- the sum of the loads whose numbers are told -/
def sumIf (p : Nat → Bool) (l : List Int) (k : Nat) : Int := (l.zipIdx k).foldl (fun s q => if p q.2 = true then s + q.1 else s) 0
theorem sumIf_cons (p : Nat → Bool) {x : Int} {r : List Int} (k : Nat) (h : Loads (x :: r)) : sumIf p (x :: r) k = (if p k = true then x else 0) + sumIf p r (k + 1) := by
  unfold sumIf
  rw [List.zipIdx_cons, List.foldl_cons]
  obtain ⟨_, h2⟩ := reach_some p r (k + 1) h.tail
  rw [h2]
  simp only [Int.zero_add]
theorem sumIf_snoc (p : Nat → Bool) {l : List Int} {k : Nat} {x : Int} (hx : l[k]? = some x) : sumIf p (l.take (k + 1)) 0 = sumIf p (l.take k) 0 + (if p k = true then x else 0) := by
  unfold sumIf
  rw [List.take_add_one, hx, List.zipIdx_append, List.foldl_append]
  have : (l.take k).length = k := by rw [List.length_take]; have := lt_of_get hx; omega
  simp only [Option.toList, List.zipIdx_cons, List.zipIdx_nil, List.foldl_cons, List.foldl_nil, Nat.zero_add, this]
  split <;> omega
theorem sumIf_bound (p : Nat → Bool) {l : List Int} (h : Loads l) (k : Nat) : 0 ≤ sumIf p l k ∧ sumIf p l k ≤ l.sum := reach_bound h (reach_some p l k h).1
theorem sumIf_not (p : Nat → Bool) : ∀ {l : List Int} (k : Nat), Loads l → sumIf p l k + sumIf (fun i => !(p i)) l k = l.sum
  | [], k, _ => by simp [sumIf]
  | x :: r, k, h => by
    have := sumIf_not p (k + 1) h.tail
    rw [sumIf_cons p k h, sumIf_cons (fun i => !(p i)) k h, List.sum_cons]
    cases p k <;> simp <;> omega
theorem sumIf_congr {p q : Nat → Bool} : ∀ {l : List Int} {k : Nat}, Loads l → (∀ i, k ≤ i → i < k + l.length → p i = q i) → sumIf p l k = sumIf q l k
  | [], k, _, _ => rfl
  | x :: r, k, h, he => by
    rw [sumIf_cons p k h, sumIf_cons q k h, he k (Nat.le_refl _) (by simp), sumIf_congr h.tail (fun i h1 h2 => he i (by omega) (by simp only [List.length_cons]; omega))]
/-- what is taken comes to a sum from which the best one is told -/
theorem pick_sum {A best : Int} (hb : A ≤ 2 * best) : ∀ (r : List Int) (i : Nat) (sum : Int) (out : List Int), Loads r → Goes A best r sum → (∀ v ∈ out, v < (i : Int)) → ∃ s : Int, max s (A - s) = best ∧ s = sum + sumIf (fun j => (pick A best r i sum out).contains (j : Int)) r i ∧ ∀ v : Int, v < (i : Int) → (pick A best r i sum out).contains v = out.contains v
  | [], i, sum, out, hl, hg, ho => by
    obtain ⟨t, h1, h2⟩ := hg
    have : t = 0 := by simpa [reach] using h1
    subst this
    exact ⟨sum, by simpa using h2, by simp [sumIf], fun v hv => rfl⟩
  | x :: r, i, sum, out, hl, hg, ho => by
    have hx := hl x (List.mem_cons_self ..)
    by_cases he : max sum (A - sum) = best
    · have hp : pick A best (x :: r) i sum out = out := by rw [pick, if_pos he]
      rw [hp]
      refine ⟨sum, he, ?_, fun v hv => rfl⟩
      have : sumIf (fun j => out.contains (j : Int)) (x :: r) i = 0 := by
        have h0 : sumIf (fun j => out.contains (j : Int)) (x :: r) i = sumIf (fun _ => false) (x :: r) i := sumIf_congr hl (fun j hj _ => by
          cases hc : out.contains (j : Int) with
          | false => rfl
          | true => have := ho _ (List.contains_iff_mem.1 hc); omega)
        rw [h0]
        have key : ∀ (l : List Int) (k : Nat), sumIf (fun _ => false) l k = 0 := by
          intro l
          induction l with
          | nil => intro k; rfl
          | cons y t ih => intro k; unfold sumIf; rw [List.zipIdx_cons, List.foldl_cons]; exact ih (k + 1)
        exact key _ _
      omega
    · have hn := goes_next hb hg
      rw [pick, if_neg he]
      by_cases hc : (reach r (best - (sum + x)) || reach r (A - best - (sum + x))) = true
      · rw [if_pos hc] at hn ⊢
        obtain ⟨s, h1, h2, h3⟩ := pick_sum hb r (i + 1) (sum + x) (out ++ [(i : Int)]) hl.tail hn (fun v hv => by
          simp only [List.mem_append, List.mem_singleton] at hv
          rcases hv with hv | hv
          · have := ho v hv; omega
          · omega)
        refine ⟨s, h1, ?_, fun v hv => ?_⟩
        · have hc2 : (out ++ [(i : Int)]).contains (i : Int) = true := by simp
          rw [sumIf_cons _ i hl, h3 (i : Int) (by omega), hc2, if_pos rfl, h2]
          omega
        · rw [h3 v (by omega)]
          have : v ≠ (i : Int) := by omega
          simp [this]
      · rw [if_neg hc] at hn ⊢
        obtain ⟨s, h1, h2, h3⟩ := pick_sum hb r (i + 1) sum out hl.tail hn (fun v hv => by have := ho v hv; omega)
        refine ⟨s, h1, ?_, fun v hv => h3 v (by omega)⟩
        rw [sumIf_cons _ i hl, h3 (i : Int) (by omega)]
        have : out.contains (i : Int) = false := by
          cases hc : out.contains (i : Int) with
          | false => rfl
          | true => have := ho _ (List.contains_iff_mem.1 hc); omega
        rw [this, if_neg (by simp), h2]
        omega
theorem least_of {x0 : Int} {r0 : List Int} (hl : Loads (x0 :: r0)) (p : Nat → Bool) : bestOf x0 r0 ≤ max (sumIf p (x0 :: r0) 0) (x0 + r0.sum - sumIf p (x0 :: r0) 0) := by
  obtain ⟨_, lo, _, _⟩ := best_facts hl
  cases hp : p 0
  · have h1 := lo (sumIf (fun i => !(p i)) r0 1) (reach_some (fun i => !(p i)) r0 1 hl.tail).1
    have h2 := sumIf_not p 0 hl
    have h3 : sumIf (fun i => !(p i)) (x0 :: r0) 0 = x0 + sumIf (fun i => !(p i)) r0 1 := by rw [sumIf_cons _ 0 hl]; simp [hp]
    rw [List.sum_cons] at h2
    omega
  · have h1 := lo (sumIf p r0 1) (reach_some p r0 1 hl.tail).1
    have h3 : sumIf p (x0 :: r0) 0 = x0 + sumIf p r0 1 := by rw [sumIf_cons _ 0 hl]; simp [hp]
    omega
theorem law_BalancedLeast_true (l : List Int) (some_ : List Bool) : M_law_BalancedLeast l some_ (· = true) := by
  unfold M_law_BalancedLeast
  have aw : M_awake (fun y => y = true) := S_awake rfl
  refine S_mount_Balanced ?_
  -- the last part, for what is taken
  have fin : Loads l → l.length ≤ 30 → ∀ (out : List Int) (best : Int), (∃ s, max s (l.sum - s) = best ∧ s = sumIf (fun j => out.contains (j : Int)) l 0) → (∀ p, best ≤ max (sumIf p l 0) (l.sum - sumIf p l 0)) →
      forIn' (fun k x (s : Int × Int × Int) next => M_law_BalancedLeast_L1 some_ out k x s.1 s.2.1 s.2.2 (fun n4 n5 n6 => next (n4, n5, n6))) (fun (s : Int × Int × Int) => (fun (n4 : Int) (n5 : Int) (n6 : Int) => cnd ((max n4 (w64 (n5 - n4))) == best) (cnd (decide (best ≤ max n6 (w64 (n5 - n6)))) (M_awake fun y5 => y5 = true) (false = true)) (false = true)) s.1 s.2.1 s.2.2) l 0 (0, 0, 0) := by
    intro hl hn out best hs hle
    have hsum := sum_bound hl
    refine forIn0 (fun k s => s.1 = sumIf (fun j => out.contains (j : Int)) (l.take k) 0 ∧ s.2.1 = (l.take k).sum ∧ s.2.2 = sumIf (fun j => some_.getD j false) (l.take k) 0) ⟨rfl, rfl, rfl⟩ (fun k x s hx hI next hn2 => ?_) (fun s hI => ?_)
    · obtain ⟨n4, n5, n6⟩ := s
      obtain ⟨h1, h2, h3⟩ := hI
      dsimp only at h1 h2 h3 ⊢
      have hk := lt_of_get hx
      have ht1 : Loads (l.take (k + 1)) := fun y hy => hl y (List.mem_of_mem_take hy)
      have hb1 := sum_bound ht1
      have hlen : (l.take (k + 1)).length ≤ 30 := by rw [List.length_take]; omega
      have e2 : (l.take (k + 1)).sum = n5 + x := by rw [h2, List.take_add_one, hx, List.sum_append]; simp
      have e1 := sumIf_snoc (fun j => out.contains (j : Int)) hx
      have e3 := sumIf_snoc (fun j => some_.getD j false) hx
      have b1 := sumIf_bound (fun j => out.contains (j : Int)) ht1 0
      have b3 := sumIf_bound (fun j => some_.getD j false) ht1 0
      have hxb := hl x (List.mem_of_getElem? hx)
      have w5 : w64 (n5 + x) = (l.take (k + 1)).sum := by rw [e2, w64_id] <;> omega
      have tail : ∀ n7, n7 = sumIf (fun j => out.contains (j : Int)) (l.take (k + 1)) 0 → M_law_BalancedLeast_k2 some_ k x n5 n6 (fun n4 n5 n6 => next (n4, n5, n6)) n7 := by
        intro n7 h7
        unfold M_law_BalancedLeast_k2
        have k3 : ∀ c : Bool, c = some_.getD k false → M_law_BalancedLeast_k3 x n5 n6 (fun n4 n5 n6 => next (n4, n5, n6)) n7 c := by
          intro c hc
          unfold M_law_BalancedLeast_k3
          rw [w5]
          refine cnd_of (fun e => hn2 _ ⟨h7, rfl, ?_⟩) (fun e => hn2 _ ⟨h7, rfl, ?_⟩)
          · dsimp only
            rw [e3, ← h3, ← hc, e, if_pos rfl]
            rw [e3, ← h3, ← hc, e, if_pos rfl] at b3
            rw [w64_id] <;> omega
          · dsimp only
            rw [e3, ← h3, ← hc, e, if_neg (by simp)]; omega
        refine cnd_of (fun e => ?_) (fun e => k3 _ ?_)
        · have hlt : k < some_.length := by simp at e; omega
          refine idx_nat (List.getElem?_eq_getElem hlt) (k3 _ ?_)
          rw [List.getD_eq_getElem?_getD, List.getElem?_eq_getElem hlt]; rfl
        · have hge : some_.length ≤ k := by simp at e; omega
          rw [List.getD_eq_getElem?_getD, List.getElem?_eq_none hge]; rfl
      unfold M_law_BalancedLeast_L1
      refine S_contains_int (cnd_of (fun e => tail _ ?_) (fun e => tail _ ?_))
      · rw [e1, ← h1, e, if_pos rfl]
        rw [e1, ← h1, e, if_pos rfl] at b1
        rw [w64_id] <;> omega
      · rw [e1, ← h1, e, if_neg (by simp)]; omega
    · obtain ⟨n4, n5, n6⟩ := s
      obtain ⟨h1, h2, h3⟩ := hI
      dsimp only at h1 h2 h3 ⊢
      rw [List.take_length] at h1 h2 h3
      obtain ⟨s, hs1, hs2⟩ := hs
      have b1 := sumIf_bound (fun j => out.contains (j : Int)) hl 0
      have b3 := sumIf_bound (fun j => some_.getD j false) hl 0
      have hle' := hle (fun j => some_.getD j false)
      rw [← h3] at hle' b3
      rw [← h1] at hs2 b1
      have hs1' : max n4 (l.sum - n4) = best := by rw [← hs2]; exact hs1
      rw [h2, w64_id (n := l.sum - n4) (by omega) (by omega), w64_id (n := l.sum - n6) (by omega) (by omega), hs1']
      simp only [beq_self_eq_true, cnd_true]
      rw [decide_eq_true hle', cnd_true]
      exact aw
  unfold balOf
  split
  · simp; exact aw
  split
  · simp; exact aw
  · rename_i e1 e2
    have hl := loads_ok (by simpa using e2)
    have hn : l.length ≤ 30 := by omega
    cases hlc : l with
    | nil =>
      dsimp only
      rw [hlc] at fin hl hn
      simp only [bne_self_eq_false, cnd_false]
      exact fin hl (by simp) [] 0 ⟨0, by simp, by simp [sumIf]⟩ (fun p => by simp [sumIf])
    | cons x0 r0 =>
      dsimp only
      rw [hlc] at fin hl hn
      simp only [bne_self_eq_false, cnd_false]
      obtain ⟨⟨t, ht1, ht2⟩, lo, hb1, hb2⟩ := best_facts hl
      refine fin hl hn _ _ ?_ (fun p => by rw [List.sum_cons]; exact least_of hl p)
      obtain ⟨s, h1, h2, h3⟩ := pick_sum (A := x0 + r0.sum) (best := bestOf x0 r0) hb2 r0 1 x0 [0] hl.tail ⟨t, ht1, ht2.symm⟩ (fun v hv => by simp at hv; omega)
      refine ⟨s, by rw [List.sum_cons]; exact h1, ?_⟩
      rw [sumIf_cons _ 0 hl, h2]
      have : (pick (x0 + r0.sum) (bestOf x0 r0) r0 1 x0 [0]).contains ((0 : Nat) : Int) = true := by rw [h3 _ (by omega)]; rfl
      simp only [this, if_true]
end Go.Proofs.Ytcmlcgjjkccaeaa

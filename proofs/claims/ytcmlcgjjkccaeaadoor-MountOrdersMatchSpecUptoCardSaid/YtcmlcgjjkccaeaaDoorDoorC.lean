/- Chapter texts of ours, as far as the claim needs them. -/
import Derived.Test.YtcmlcgjjkccaeaaDoorDoorB
import Derived.Test.YtcmlcgjjkccaeaaDoorRev
import Derived.Test.YtcmlcgjjkccaeaaDoorFind
namespace Go.Proofs.YtcmlcgjjkccaeaaDoor
open Go Go.RowKit
set_option linter.unusedVariables false
set_option linter.unusedSimpArgs false
def reach : List Int → Int → Bool
  | [], s => s == 0
  | x :: r, s => reach r s || (decide (x ≤ s) && reach r (s - x))
def Loads (l : List Int) : Prop := ∀ x ∈ l, 0 ≤ x ∧ x ≤ 1000
theorem Loads.tail {x : Int} {r : List Int} (h : Loads (x :: r)) : Loads r := fun y hy => h y (List.mem_cons_of_mem _ hy)
theorem Loads.drop {l : List Int} (h : Loads l) (i : Nat) : Loads (l.drop i) := fun y hy => h y (List.mem_of_mem_drop hy)
theorem sum_bound {l : List Int} (h : Loads l) : 0 ≤ l.sum ∧ l.sum ≤ 1000 * l.length := by
  induction l with
  | nil => simp
  | cons x r ih =>
    have := ih h.tail
    have := h x (List.mem_cons_self ..)
    simp only [List.sum_cons, List.length_cons]
    omega
theorem reach_bound : ∀ {l : List Int} {s : Int}, Loads l → reach l s = true → 0 ≤ s ∧ s ≤ l.sum
  | [], s, _, h => by have : s = 0 := by simpa [reach] using h
                      subst this; simp
  | x :: r, s, hl, h => by
    have hx := hl x (List.mem_cons_self ..)
    have hr := sum_bound hl.tail
    simp only [reach, Bool.or_eq_true, Bool.and_eq_true, decide_eq_true_eq] at h
    simp only [List.sum_cons]
    rcases h with h | ⟨h1, h2⟩
    · have := reach_bound hl.tail h; omega
    · have := reach_bound hl.tail h2; omega
theorem reach_neg {l : List Int} {s : Int} (hl : Loads l) (h : s < 0) : reach l s = false := by
  cases hr : reach l s with
  | false => rfl
  | true => have := reach_bound hl hr; omega
def rowOf (l : List Int) (A i : Nat) : List Bool := (List.range (A + 1)).map (fun (t : Nat) => reach (l.drop i) (t : Int))
def partOf (l : List Int) (A i s : Nat) : List Bool := (List.range (A + 1)).map (fun (t : Nat) => if t < s then reach (l.drop i) (t : Int) else reach (l.drop (i + 1)) (t : Int))
def tbl (l : List Int) (A k : Nat) : List (List Bool) := (List.range (l.length + 1)).map (fun j => if j < k then [] else rowOf l A j)
theorem rowOf_get {l : List Int} {A i t : Nat} (h : t ≤ A) : (rowOf l A i)[t]? = some (reach (l.drop i) (t : Int)) := by
  unfold rowOf; rw [List.getElem?_map, List.getElem?_range (by omega)]; rfl
theorem partOf_get {l : List Int} {A i s t : Nat} (h : t ≤ A) : (partOf l A i s)[t]? = some (if t < s then reach (l.drop i) (t : Int) else reach (l.drop (i + 1)) (t : Int)) := by
  unfold partOf; rw [List.getElem?_map, List.getElem?_range (by omega)]; rfl
theorem tbl_get {l : List Int} {A k j : Nat} (h : j ≤ l.length) : (tbl l A k)[j]? = some (if j < k then [] else rowOf l A j) := by
  unfold tbl; rw [List.getElem?_map, List.getElem?_range (by omega)]; rfl
theorem tbl_len (l : List Int) (A k : Nat) : (tbl l A k).length = l.length + 1 := by simp [tbl]
theorem drop_get {l : List Int} {i : Nat} {x : Int} (hx : l[i]? = some x) : l.drop i = x :: l.drop (i + 1) := by
  obtain ⟨h, he⟩ := List.getElem?_eq_some_iff.1 hx
  rw [← he]; exact List.drop_eq_getElem_cons h
theorem part_step {l : List Int} {A i t : Nat} {x : Int} (hx : l[i]? = some x) (ht : t ≤ A) {b : Bool} (hb : b = reach (l.drop i) (t : Int)) : (partOf l A i t).set t b = partOf l A i (t + 1) := by
  apply List.ext_getElem?
  intro j
  rcases Nat.lt_or_ge A j with hj | hj
  · rw [List.getElem?_eq_none (by simp [partOf]; omega), List.getElem?_eq_none (by simp [partOf]; omega)]
  · rw [List.getElem?_set, partOf_get hj, partOf_get hj]
    by_cases hjt : t = j
    · subst hjt
      rw [if_pos rfl, if_pos (by simp [partOf]; omega), if_pos (by omega), hb]
    · rw [if_neg hjt]
      by_cases hlt : j < t
      · rw [if_pos hlt, if_pos (by omega)]
      · rw [if_neg hlt, if_neg (by omega)]
theorem part_first {l : List Int} {A i : Nat} {x : Int} (hl : Loads l) (hx : l[i]? = some x) : partOf l A i x.toNat = rowOf l A (i + 1) := by
  apply List.ext_getElem?
  intro j
  rcases Nat.lt_or_ge A j with hj | hj
  · rw [List.getElem?_eq_none (by simp [partOf]; omega), List.getElem?_eq_none (by simp [rowOf]; omega)]
  · rw [partOf_get hj, rowOf_get hj]
    split
    · rename_i h
      rw [drop_get hx]
      simp only [reach, show ¬ x ≤ (j : Int) by omega, decide_false, Bool.false_and, Bool.or_false]
    · rfl
theorem part_last {l : List Int} {A i : Nat} : partOf l A i (A + 1) = rowOf l A i := by
  apply List.ext_getElem?
  intro j
  rcases Nat.lt_or_ge A j with hj | hj
  · rw [List.getElem?_eq_none (by simp [partOf]; omega), List.getElem?_eq_none (by simp [rowOf]; omega)]
  · rw [partOf_get hj, rowOf_get hj, if_pos (by omega)]
theorem tbl_set {l : List Int} {A i : Nat} (hi : i < l.length) : (tbl l A (i + 1)).set i (rowOf l A i) = tbl l A i := by
  apply List.ext_getElem?
  intro j
  rcases Nat.lt_or_ge l.length j with hj | hj
  · rw [List.getElem?_eq_none (by simp [tbl]; omega), List.getElem?_eq_none (by simp [tbl]; omega)]
  · rw [List.getElem?_set, tbl_get hj, tbl_get hj]
    by_cases hij : i = j
    · subst hij
      rw [if_pos rfl, if_pos (by rw [tbl_len]; omega), if_neg (by omega)]
    · rw [if_neg hij]
      by_cases hlt : j < i
      · rw [if_pos (by omega), if_pos hlt]
      · rw [if_neg (by omega), if_neg hlt]
theorem tbl_first (l : List Int) (A : Nat) : ((List.replicate (l.length + 1) ([] : List Bool)).set l.length (List.replicate (A + 1) false)).set l.length ((List.replicate (A + 1) false).set 0 true) = tbl l A l.length := by
  rw [List.set_set]
  apply List.ext_getElem?
  intro j
  rcases Nat.lt_or_ge l.length j with hj | hj
  · rw [List.getElem?_eq_none (by simp; omega), List.getElem?_eq_none (by simp [tbl]; omega)]
  · rw [List.getElem?_set, tbl_get hj]
    by_cases hij : l.length = j
    · subst hij
      rw [if_pos rfl, if_pos (by simp), if_neg (by omega)]
      congr 1
      apply List.ext_getElem?
      intro t
      rcases Nat.lt_or_ge A t with ht | ht
      · rw [List.getElem?_eq_none (by simp; omega), List.getElem?_eq_none (by simp [rowOf]; omega)]
      · rw [rowOf_get ht, List.getElem?_set]
        cases t with
        | zero => simp [reach]
        | succ t =>
          rw [if_neg (by omega), List.getElem?_replicate, if_pos (by omega)]
          have : ((t + 1 : Nat) : Int) ≠ 0 := by omega
          simp only [List.drop_length, reach]
          rw [show (((t + 1 : Nat) : Int) == 0) = false by simpa using this]
    · rw [if_neg hij, List.getElem?_replicate, if_pos (by omega), if_pos (by omega)]
theorem S_clone_bool {s : List Bool} (hs : s.length ≤ 100000) {Q : List Bool → Prop} (h : Q s) : M_clone_bool s Q := by
  unfold M_clone_bool
  exact clone_step (room_of (by omega) (by omega)) h
theorem dp_inner {l : List Int} (hl : Loads l) (hn : l.length ≤ 30) {A i : Nat} {x : Int} (hx : l[i]? = some x) (hA : A ≤ 100000) (hxA : x ≤ A) {again2 : List (List Bool) → Int → Prop} (h : again2 (tbl l A i) (w64 ((i : Int) - 1))) :
    lp (fun again (s : List (List Bool) × Int) => M_mount_Balanced_L3 (A : Int) (i : Int) again2 x (fun l4 n6 => again (l4, n6)) s.1 s.2) ((tbl l A (i + 1)).set i (rowOf l A (i + 1)), x) := by
  have hx0 := hl x (List.mem_of_getElem? hx)
  have hi := lt_of_get hx
  refine lp_upto (fun m => ((tbl l A (i + 1)).set i (partOf l A i (x.toNat + m)), ((x.toNat + m : Nat) : Int))) (A + 1 - x.toNat) (by simp only [Nat.add_zero, part_first hl hx]; congr 1; omega) (fun X m hm hX => ?_) (fun X => ?_)
  · unfold M_mount_Balanced_L3
    dsimp only
    rw [show ((x.toNat + (m + 1) : Nat) : Int) = w64 (((x.toNat + m : Nat) : Int) + 1) by rw [w64_id] <;> omega] at hX
    have ht : x.toNat + m ≤ A := by omega
    generalize htt : x.toNat + m = t at *
    rw [show x.toNat + (m + 1) = t + 1 by omega] at hX
    refine cnd_of (fun _ => ?_) (fun e => by simp at e; omega)
    have h1 : ((tbl l A (i + 1)).set i (partOf l A i t))[i]? = some (partOf l A i t) := List.getElem?_set_self (by rw [tbl_len]; omega)
    refine idx_nat h1 (idx_nat (partOf_get ht) ?_)
    rw [if_neg (by omega)]
    have hd := drop_get hx
    simp only [Int.toNat_natCast, List.set_set]
    refine cnd_of (fun e => ?_) (fun e => ?_)
    · have e' : reach (l.drop (i + 1)) (t : Int) = true := e
      rw [part_step hx ht (by rw [hd]; simp only [reach, e', Bool.true_or])]
      exact hX
    · have e' : reach (l.drop (i + 1)) (t : Int) = false := e
      have h2 : ((tbl l A (i + 1)).set i (partOf l A i t))[i + 1]? = some (rowOf l A (i + 1)) := by
        rw [List.getElem?_set_ne (by omega), tbl_get (by omega), if_neg (by omega)]
      have hw : w64 ((i : Int) + 1) = ((i + 1 : Nat) : Int) := by rw [w64_id] <;> omega
      have hw2 : w64 ((t : Int) - x) = ((t - x.toNat : Nat) : Int) := by rw [w64_id] <;> omega
      rw [hw, hw2]
      refine idx_nat h2 (idx_nat (rowOf_get (by omega)) ?_)
      rw [part_step hx ht (by rw [hd]; simp only [reach, e', Bool.false_or, show x ≤ (t : Int) by omega, decide_true, Bool.true_and]; congr 1; omega)]
      exact hX
  · unfold M_mount_Balanced_L3
    dsimp only
    refine cnd_of (fun e => by simp at e; omega) (fun _ => ?_)
    rw [show x.toNat + (A + 1 - x.toNat) = A + 1 by omega, part_last, tbl_set hi]
    exact h
theorem dp_loop {l : List Int} (hl : Loads l) (hn : l.length ≤ 30) {A : Nat} (hA : (A : Int) = l.sum) {F : (List (List Bool) × Int → Prop) → List (List Bool) × Int → Prop} {D : List (List Bool) → Prop}
    (hF : ∀ X tb (i : Int), cnd (decide (i ≥ 0)) (idx tb (w64 (i + 1)) fun x3 => M_clone_bool x3 fun y1 => idx tb i fun x4 => idx l i fun x5 => lp (fun again (s : List (List Bool) × Int) => M_mount_Balanced_L3 (A : Int) i (fun l2 n4 => X (l2, n4)) x5 (fun l4 n6 => again (l4, n6)) s.1 s.2) ((tb.set i.toNat y1), x5)) (D tb) → F X (tb, i)) (h : D (tbl l A 0)) :
    lp F (((List.replicate ((w64 ((l.length : Int) + 1)).toNat) ([] : List Bool)).set l.length (List.replicate ((w64 ((A : Int) + 1)).toNat) false)).set l.length ((List.replicate ((w64 ((A : Int) + 1)).toNat) false).set 0 true), w64 ((l.length : Int) - 1)) := by
  have hs := sum_bound hl
  have e1 : (w64 ((l.length : Int) + 1)).toNat = l.length + 1 := by rw [w64_id] <;> omega
  have e2 : (w64 ((A : Int) + 1)).toNat = A + 1 := by rw [w64_id] <;> omega
  have e3 : w64 ((l.length : Int) - 1) = (l.length : Int) - 1 := by rw [w64_id] <;> omega
  rw [e1, e2, e3, tbl_first]
  refine lp_intro (fun s => ∃ k : Nat, k ≤ l.length ∧ s = (tbl l A k, (k : Int) - 1)) (fun s => (s.2 + 1).toNat) ⟨l.length, Nat.le_refl _, rfl⟩ ?_
  rintro X _ ⟨k, hk, rfl⟩ hX
  refine hF X _ _ (cnd_of (fun e => ?_) (fun e => ?_))
  · have hk0 : 0 < k := by simp at e; omega
    obtain ⟨i, rfl⟩ : ∃ i, k = i + 1 := ⟨k - 1, by omega⟩
    have ei : ((i + 1 : Nat) : Int) - 1 = (i : Int) := by omega
    rw [ei]
    have hw : w64 ((i : Int) + 1) = ((i + 1 : Nat) : Int) := by rw [w64_id] <;> omega
    rw [hw]
    have hx : l[i]? = some l[i] := List.getElem?_eq_getElem (by omega)
    have h3 : (tbl l A (i + 1))[i + 1]? = some (rowOf l A (i + 1)) := by rw [tbl_get (by omega), if_neg (by omega)]
    have h4 : (tbl l A (i + 1))[i]? = some [] := by rw [tbl_get (by omega), if_pos (by omega)]
    have hxA : l[i] ≤ A := by
      have h1 := hl.drop (i + 1)
      have h2 := sum_bound h1
      have h5 : l.sum = (l.take i).sum + (l.drop i).sum := by rw [← List.sum_append, List.take_append_drop]
      have h6 : 0 ≤ (l.take i).sum := (sum_bound (fun y hy => hl y (List.mem_of_mem_take hy))).1
      rw [drop_get hx, List.sum_cons] at h5
      omega
    refine idx_nat h3 (S_clone_bool (by simp [rowOf]; omega) (idx_nat h4 (idx_nat hx ?_)))
    simp only [Int.toNat_natCast]
    refine dp_inner hl hn hx (by omega) hxA ?_
    have hw3 : w64 ((i : Int) - 1) = (i : Int) - 1 := by rw [w64_id] <;> omega
    rw [hw3]
    exact hX _ ⟨i, by omega, rfl⟩ (by simp only; omega)
  · have hk0 : k = 0 := by simp at e; omega
    subst hk0
    exact h
def bestTo (r : List Int) (x0 A : Int) : Nat → Int
  | 0 => A
  | k + 1 => if reach r (k : Int) = true ∧ (k : Int) + x0 ≤ A then min (bestTo r x0 A k) (max ((k : Int) + x0) (A - k - x0)) else bestTo r x0 A k
theorem bestTo_le {r : List Int} {x0 A : Int} : ∀ (k t : Nat), t < k → reach r (t : Int) = true → (t : Int) + x0 ≤ A → bestTo r x0 A k ≤ max ((t : Int) + x0) (A - t - x0)
  | 0, t, h, _, _ => by omega
  | k + 1, t, h, h1, h2 => by
    rw [bestTo]
    rcases Nat.lt_or_ge t k with hlt | hge
    · have := bestTo_le k t hlt h1 h2
      split <;> omega
    · have : t = k := by omega
      subst this
      rw [if_pos ⟨h1, h2⟩]; omega
theorem bestTo_got {r : List Int} {x0 A : Int} : ∀ (k : Nat), bestTo r x0 A k = A ∨ ∃ t : Nat, t < k ∧ reach r (t : Int) = true ∧ (t : Int) + x0 ≤ A ∧ bestTo r x0 A k = max ((t : Int) + x0) (A - t - x0)
  | 0 => .inl rfl
  | k + 1 => by
    rw [bestTo]
    split
    · rename_i h
      rcases Int.le_total (bestTo r x0 A k) (max ((k : Int) + x0) (A - k - x0)) with hc | hc
      · rw [Int.min_eq_left hc]
        rcases bestTo_got k with h1 | ⟨t, h1, h2, h3, h4⟩
        · exact .inl h1
        · exact .inr ⟨t, by omega, h2, h3, h4⟩
      · rw [Int.min_eq_right hc]
        exact .inr ⟨k, by omega, h.1, h.2, rfl⟩
    · rcases bestTo_got k with h1 | ⟨t, h1, h2, h3, h4⟩
      · exact .inl h1
      · exact .inr ⟨t, by omega, h2, h3, h4⟩
theorem reach_sum : ∀ {l : List Int}, Loads l → reach l l.sum = true
  | [], _ => by simp [reach]
  | x :: r, h => by
    have h1 := reach_sum h.tail
    have := sum_bound h.tail
    simp only [reach, List.sum_cons, Bool.or_eq_true, Bool.and_eq_true, decide_eq_true_eq]
    refine .inr ⟨?_, by rw [Int.add_comm x, Int.add_sub_cancel]; exact h1⟩
    exact decide_eq_true (Int.le_add_of_nonneg_right this.1)
def bestOf (x0 : Int) (r : List Int) : Int := bestTo r x0 (x0 + r.sum) (r.sum.toNat + 1)
theorem best_facts {x0 : Int} {r : List Int} (h : Loads (x0 :: r)) : (∃ t : Int, reach r t = true ∧ bestOf x0 r = max (x0 + t) (x0 + r.sum - (x0 + t))) ∧ (∀ t : Int, reach r t = true → bestOf x0 r ≤ max (x0 + t) (x0 + r.sum - (x0 + t))) ∧ bestOf x0 r ≤ x0 + r.sum ∧ x0 + r.sum ≤ 2 * bestOf x0 r := by
  have hs := sum_bound h.tail
  have hx := h x0 (List.mem_cons_self ..)
  have lo : ∀ t : Int, reach r t = true → bestOf x0 r ≤ max (x0 + t) (x0 + r.sum - (x0 + t)) := fun t ht => by
    have hb := reach_bound h.tail ht
    have := bestTo_le (r := r) (x0 := x0) (A := x0 + r.sum) (r.sum.toNat + 1) t.toNat (by omega) (by rw [Int.toNat_of_nonneg hb.1]; exact ht) (by omega)
    unfold bestOf
    omega
  have got : ∃ t : Int, reach r t = true ∧ bestOf x0 r = max (x0 + t) (x0 + r.sum - (x0 + t)) := by
    rcases bestTo_got (r := r) (x0 := x0) (A := x0 + r.sum) (r.sum.toNat + 1) with h1 | ⟨t, _, h2, h3, h4⟩
    · have h5 := lo _ (reach_sum h.tail)
      exact ⟨r.sum, reach_sum h.tail, by unfold bestOf at *; omega⟩
    · exact ⟨(t : Int), h2, by unfold bestOf; omega⟩
  obtain ⟨t, ht, he⟩ := got
  have hb := reach_bound h.tail ht
  exact ⟨⟨t, ht, he⟩, lo, by omega, by omega⟩
def pick (A best : Int) : List Int → Nat → Int → List Int → List Int
  | [], _, _, out => out
  | x :: r, i, sum, out => if max sum (A - sum) = best then out else if (reach r (best - (sum + x)) || reach r (A - best - (sum + x))) = true then pick A best r (i + 1) (sum + x) (out ++ [(i : Int)]) else pick A best r (i + 1) sum out
def Goes (A best : Int) (r : List Int) (sum : Int) : Prop := ∃ t : Int, reach r t = true ∧ max (sum + t) (A - (sum + t)) = best
theorem goes_iff {A best : Int} {r : List Int} {sum : Int} (hb : A ≤ 2 * best) : Goes A best r sum ↔ (reach r (best - sum) || reach r (A - best - sum)) = true := by
  rw [Bool.or_eq_true]
  constructor
  · rintro ⟨t, h1, h2⟩
    rcases (show sum + t = best ∨ sum + t = A - best by omega) with h | h
    · left; rw [show best - sum = t by omega]; exact h1
    · right; rw [show A - best - sum = t by omega]; exact h1
  · rintro (h | h)
    · exact ⟨_, h, by omega⟩
    · exact ⟨_, h, by omega⟩
theorem goes_next {A best : Int} {x : Int} {r : List Int} {sum : Int} (hb : A ≤ 2 * best) (h : Goes A best (x :: r) sum) : if (reach r (best - (sum + x)) || reach r (A - best - (sum + x))) = true then Goes A best r (sum + x) else Goes A best r sum := by
  split
  · rename_i e; exact (goes_iff hb).2 e
  · rename_i e
    obtain ⟨t, h1, h2⟩ := h
    simp only [reach, Bool.or_eq_true, Bool.and_eq_true, decide_eq_true_eq] at h1
    rcases h1 with h1 | ⟨h1, h3⟩
    · exact ⟨t, h1, h2⟩
    · exact absurd ((goes_iff hb).1 ⟨t - x, h3, by rw [show sum + x + (t - x) = sum + t by omega]; exact h2⟩) e
theorem sel_loop {l : List Int} (hl : Loads l) (hn : l.length ≤ 30) {A best : Int} (hA : A = l.sum) (hb1 : best ≤ A) (hb2 : A ≤ 2 * best) {σ : Type} {F : (σ → Prop) → σ → Prop} (mk : List Int → Int → Int → σ) (ix : σ → Int) (hix : ∀ o s i, ix (mk o s i) = i) {R : List Int → Prop} (x0 : Int) (r0 : List Int) (hl0 : l = x0 :: r0) (hg : Goes A best r0 x0)
    (hF : ∀ X out (i : Nat) (sum : Int) (x : Int), out.length ≤ 1000 → 0 ≤ sum → sum ≤ A → l[i]? = some x → sum + x ≤ A → max sum (A - sum) ≠ best → (∀ b, b = (reach (l.drop (i + 1)) (best - (sum + x)) || reach (l.drop (i + 1)) (A - best - (sum + x))) → if b = true then X (mk (out ++ [(i : Int)]) (sum + x) ((i + 1 : Nat) : Int)) else X (mk out sum ((i + 1 : Nat) : Int))) → F X (mk out sum (i : Int)))
    (hD : ∀ X out (i : Nat) (sum : Int), 0 ≤ sum → sum ≤ A → max sum (A - sum) = best → R out → F X (mk out sum (i : Int)))
    (h : R (pick A best r0 1 x0 [0])) : lp F (mk [0] x0 1) := by
  have hs := sum_bound hl
  have htake : ∀ i, 0 ≤ (l.take i).sum ∧ l.sum = (l.take i).sum + (l.drop i).sum := fun i => ⟨(sum_bound (fun y hy => hl y (List.mem_of_mem_take hy))).1, by rw [← List.sum_append, List.take_append_drop]⟩
  refine lp_intro (fun s => ∃ (i : Nat) (out : List Int) (sum : Int), s = mk out sum (i : Int) ∧ 1 ≤ i ∧ i ≤ l.length ∧ 0 ≤ sum ∧ sum ≤ (l.take i).sum ∧ out.length ≤ i ∧ Goes A best (l.drop i) sum ∧ R (pick A best (l.drop i) i sum out)) (fun s => ((l.length : Int) - ix s).toNat) ⟨1, [0], x0, rfl, Nat.le_refl _, by rw [hl0]; simp, ?_, ?_, by simp, ?_, ?_⟩ ?_
  · have := hl x0 (by rw [hl0]; exact List.mem_cons_self ..); exact this.1
  · rw [hl0]; simp
  · rw [hl0]; simpa using hg
  · rw [hl0]; simpa using h
  · rintro X _ ⟨i, out, sum, rfl, hi1, hi2, h0, hsum, hlen, hgo, hR⟩ hX
    have ht := htake i
    have hd0 := sum_bound (hl.drop i)
    by_cases he : max sum (A - sum) = best
    · refine hD X out i sum h0 (by omega) he ?_
      cases hr : l.drop i with
      | nil => rw [hr] at hR; exact hR
      | cons x r => rw [hr] at hR; unfold pick at hR; rw [if_pos he] at hR; exact hR
    · have hlt : i < l.length := by
        rcases Nat.lt_or_ge i l.length with hlt | hge
        · exact hlt
        · rw [List.drop_eq_nil_of_le hge] at hgo
          obtain ⟨t, h1, h2⟩ := hgo
          have : t = 0 := by simpa [reach] using h1
          subst this
          rw [Int.add_zero] at h2
          exact absurd h2 he
      have hx : l[i]? = some l[i] := List.getElem?_eq_getElem hlt
      have hd := drop_get hx
      have ht1 := htake (i + 1)
      have hxb := hl l[i] (List.getElem_mem hlt)
      have hst : (l.take (i + 1)).sum = (l.take i).sum + l[i] := by rw [List.take_add_one, hx, List.sum_append]; simp
      have hd1 := sum_bound (hl.drop (i + 1))
      rw [hd] at hgo hR
      unfold pick at hR
      rw [if_neg he] at hR
      have hnext := goes_next hb2 hgo
      refine hF X out i sum l[i] (by omega) h0 (by omega) hx (by omega) he (fun b hb => ?_)
      rw [← hb] at hR hnext
      split
      · rename_i e
        rw [if_pos e] at hR hnext
        refine hX _ ⟨i + 1, _, _, rfl, by omega, by omega, by omega, by omega, by simp; omega, hnext, hR⟩ (by rw [hix, hix]; omega)
      · rename_i e
        rw [if_neg e] at hR hnext
        refine hX _ ⟨i + 1, _, _, rfl, by omega, by omega, h0, by omega, by omega, hnext, hR⟩ (by rw [hix, hix]; omega)
def loadBad (_ : Nat) (x : Int) : Int := if within x 0 1000 = true then 0 else 1
def balOf (l : List Int) (Q : List Int → Int → Int → Prop) : Prop :=
  if (l.length : Int) > 30 then Q [] 0 2 else if firstBad loadBad l 0 ≠ 0 then Q [] 0 1 else match l with
  | [] => Q [] 0 0
  | x0 :: r0 => Q (pick (x0 + r0.sum) (bestOf x0 r0) r0 1 x0 [0]) (bestOf x0 r0) 0
theorem loads_ok {l : List Int} (h : firstBad loadBad l 0 = 0) : Loads l := fun x hx => by
  obtain ⟨i, hi⟩ := List.getElem?_of_mem hx
  have := firstBad_ok h i x hi
  unfold loadBad within at this
  split at this
  · rename_i e; simpa using e
  · omega
theorem bal_head {l : List Int} {L1 : Nat → Int → Int → (Int → Prop) → Prop} {rest : Int → Prop} {Q : List Int → Int → Int → Prop} (hL : ∀ k x n next, (cnd (!(within x 0 1000)) (Q [] 0 1) (next (w64 (n + x)))) → L1 k x n next)
    (h : if (l.length : Int) > 30 then Q [] 0 2 else if firstBad loadBad l 0 ≠ 0 then Q [] 0 1 else rest l.sum) : cnd (decide ((l.length : Int) > 30)) (Q [] 0 2) (forIn' L1 rest l 0 0) := by
  refine cnd_of (fun e => ?_) (fun e => ?_)
  · rw [if_pos (by simpa using e)] at h; exact h
  · have hn : l.length ≤ 30 := by simp at e; omega
    rw [if_neg (by simpa using e)] at h
    refine forIn0 (fun k n => n = (l.take k).sum ∧ (∀ j y, j < k → l[j]? = some y → loadBad j y = 0)) ⟨by simp, fun j y hj => by omega⟩ (fun k x n hx hI next hn2 => hL _ _ _ _ (cnd_of (fun e => ?_) (fun e => hn2 _ ?_))) (fun n hI => ?_)
    · have hb : loadBad k x ≠ 0 := by unfold loadBad; rw [if_neg (by simpa using e)]; decide
      have := firstBad_at (f := loadBad) l 0 k x (fun j y hj hy => by rw [Nat.zero_add]; exact hI.2 j y hj hy) hx (by rw [Nat.zero_add]; exact hb)
      rw [Nat.zero_add] at this
      rw [if_pos (by rw [this]; exact hb)] at h
      exact h
    · have hk := lt_of_get hx
      have h0 : loadBad k x = 0 := by unfold loadBad; rw [if_pos (by simpa using e)]
      have hall : ∀ j y, j < k + 1 → l[j]? = some y → loadBad j y = 0 := fun j y hj hy => by
        rcases Nat.lt_or_ge j k with hlt | hge
        · exact hI.2 j y hlt hy
        · have : j = k := by omega
          subst this; rw [hx] at hy; injection hy with hy; subst hy; exact h0
      have hs : (l.take (k + 1)).sum = (l.take k).sum + x := by rw [List.take_add_one, hx, List.sum_append]; simp
      have hb : Loads (l.take (k + 1)) := fun y hy => by
        obtain ⟨j, hj⟩ := List.getElem?_of_mem hy
        rw [List.getElem?_take] at hj
        split at hj
        · rename_i hjk
          have := hall j y hjk hj
          unfold loadBad within at this
          split at this
          · rename_i e; simpa using e
          · omega
        · cases hj
      have := sum_bound hb
      have hlen : (l.take (k + 1)).length ≤ 30 := by rw [List.length_take]; omega
      refine ⟨?_, hall⟩
      rw [hI.1, ← hs, w64_id] <;> omega
    · have h0 : firstBad loadBad l 0 = 0 := firstBad_none l 0 (fun j y hy => by rw [Nat.zero_add]; exact hI.2 j y (lt_of_get hy) hy)
      rw [if_neg (by simpa using h0)] at h
      rw [hI.1, List.take_length]; exact h
theorem S_Balanced1 {l : List Int} (hl : Loads l) (hn : l.length ≤ 30) {A : Nat} (hA : A ≤ 100000) {i : Nat} (hi : i < l.length) {sum best : Int} (h0 : 0 ≤ sum) (hb0 : 0 ≤ best) (hb1 : best ≤ A) {Q : Bool → Prop} (h : Q (reach (l.drop (i + 1)) (best - sum) || reach (l.drop (i + 1)) ((A : Int) - best - sum))) :
    M_Balanced1 sum best (A : Int) (tbl l A 0) (i : Int) Q := by
  unfold M_Balanced1
  have hw : w64 ((A : Int) - best) = (A : Int) - best := by rw [w64_id] <;> omega
  have hw1 : w64 ((i : Int) + 1) = ((i + 1 : Nat) : Int) := by rw [w64_id] <;> omega
  rw [hw]
  have step : ∀ (k : Nat) (s : Int) (next : Prop), 0 ≤ s → s ≤ A → (if reach (l.drop (i + 1)) (s - sum) = true then Q true else next) → M_Balanced1_L1 sum (tbl l A 0) (i : Int) Q k s next := by
    intro k s next hs0 hsA hq
    unfold M_Balanced1_L1 M_Balanced1_k2
    refine cnd_of (fun e => ?_) (fun e => ?_)
    · have hge : sum ≤ s := by simpa using e
      have hw2 : w64 (s - sum) = (((s - sum).toNat : Nat) : Int) := by rw [w64_id] <;> omega
      rw [hw1, hw2]
      refine idx_nat (x := rowOf l A (i + 1)) (by rw [tbl_get (by omega), if_neg (by omega)]) (idx_nat (rowOf_get (by omega)) ?_)
      rw [Int.toNat_of_nonneg (by omega)]
      exact cnd_iff.2 hq
    · have hlt : s < sum := by simpa using e
      rw [reach_neg (hl.drop (i + 1)) (by omega)] at hq
      rw [cnd_false]; simpa using hq
  show M_Balanced1_L1 sum (tbl l A 0) (i : Int) Q 0 best (M_Balanced1_L1 sum (tbl l A 0) (i : Int) Q 1 ((A : Int) - best) (Q false))
  refine step 0 best _ hb0 hb1 ?_
  split
  · rename_i e; rw [e, Bool.true_or] at h; exact h
  · rename_i e
    refine step 1 _ _ (by omega) (by omega) ?_
    rw [show reach (l.drop (i + 1)) (best - sum) = false by simpa using e, Bool.false_or] at h
    split
    · rename_i e2; rw [e2] at h; exact h
    · rename_i e2; rw [show reach (l.drop (i + 1)) ((A : Int) - best - sum) = false by simpa using e2] at h; exact h
theorem S_mount_Balanced {l : List Int} {Q : List Int → Int → Int → Prop} (h : balOf l Q) : M_mount_Balanced l Q := by
  unfold M_mount_Balanced
  unfold balOf at h
  refine bal_head (fun k x n next hq => hq) ?_
  split
  · rename_i e; rw [if_pos e] at h; exact h
  · rename_i e
    rw [if_neg e] at h
    split
    · rename_i e2; rw [if_pos e2] at h; exact h
    · rename_i e2
      rw [if_neg e2] at h
      have hl := loads_ok (by simpa using e2)
      have hn : l.length ≤ 30 := by omega
      refine cnd_of (fun e3 => ?_) (fun e3 => ?_)
      · cases l with
        | nil => exact h
        | cons x r => simp at e3; omega
      · cases hlc : l with
        | nil => rw [hlc] at e3; simp at e3
        | cons x0 r0 =>
          have hg := best_facts (hlc ▸ hl)
          have h' : Q (pick (x0 + r0.sum) (bestOf x0 r0) r0 1 x0 [0]) (bestOf x0 r0) 0 := by rw [hlc] at h; exact h
          have hdr : l.drop 1 = r0 := by rw [hlc]; rfl
          have hln : l.length = r0.length + 1 := by rw [hlc]; rfl
          have hsum : l.sum = x0 + r0.sum := by rw [hlc, List.sum_cons]
          have hr0 := sum_bound (hlc ▸ hl : Loads (x0 :: r0)).tail
          have hxb := hl x0 (by rw [hlc]; exact List.mem_cons_self ..)
          rw [← hlc]
          have hs := sum_bound hl
          obtain ⟨A, hA⟩ : ∃ A : Nat, (A : Int) = l.sum := ⟨l.sum.toNat, by omega⟩
          rw [← hsum, ← hA] at hg h'
          rw [← hA]
          have e4 : w64 ((l.length : Int) + 1) = ((l.length + 1 : Nat) : Int) := by rw [w64_id] <;> omega
          have e5 : w64 ((A : Int) + 1) = ((A + 1 : Nat) : Int) := by rw [w64_id] <;> omega
          refine ⟨by rw [e4]; omega, by rw [e5]; omega, ?_⟩
          refine idx_nat (x := []) (by rw [e4, List.getElem?_replicate, if_pos (by simp)]) ?_
          refine idx_nat (i := 0) (x := false) (by rw [e5, List.getElem?_replicate, if_pos (by simp)]) ?_
          refine dp_loop hl hn hA (D := fun tb => idx l 0 fun x10 => lp (fun again (s : Int × Int) => M_mount_Balanced_L4 l Q (A : Int) tb x10 (fun b4 n6 => again (b4, n6)) s.1 s.2) ((A : Int), x10)) (fun X tb i hq => ?_) ?_
          · unfold M_mount_Balanced_L2
            exact hq
          · have hx0 : l[0]? = some x0 := by rw [hlc]; rfl
            refine idx_nat (i := 0) hx0 ?_
            refine lp_upto (fun m => (bestTo r0 x0 A m, x0 + (m : Int))) (r0.sum.toNat + 1) (by simp [bestTo]) (fun X m hm hX => ?_) (fun X => ?_)
            · unfold M_mount_Balanced_L4
              dsimp only
              refine cnd_of (fun _ => ?_) (fun e => by simp at e; omega)
              have hw2 : w64 (x0 + (m : Int) - x0) = (m : Int) := by rw [w64_id] <;> omega
              have hw3 : w64 ((A : Int) - (x0 + (m : Int))) = (A : Int) - (x0 + (m : Int)) := by rw [w64_id] <;> omega
              have hw4 : w64 (x0 + (m : Int) + 1) = x0 + ((m + 1 : Nat) : Int) := by rw [w64_id] <;> omega
              rw [hw2, hw3, hw4]
              refine idx_nat (i := 1) (x := rowOf l A 1) (by rw [tbl_get (by omega), if_neg (by omega)]) (idx_nat (rowOf_get (by omega)) ?_)
              rw [hdr]
              have hb : bestTo r0 x0 A (m + 1) = if reach r0 (m : Int) = true then min (bestTo r0 x0 A m) (max (x0 + (m : Int)) ((A : Int) - (x0 + (m : Int)))) else bestTo r0 x0 A m := by
                rw [bestTo]
                by_cases hr : reach r0 (m : Int) = true
                · rw [if_pos ⟨hr, by omega⟩, if_pos hr]; congr 1; congr 1 <;> omega
                · rw [if_neg (fun e => hr e.1), if_neg hr]
              rw [hb] at hX
              refine cnd_of (fun e => ?_) (fun e => ?_)
              · rw [if_pos e] at hX; exact hX
              · rw [if_neg (by rw [e]; simp)] at hX; exact hX
            · unfold M_mount_Balanced_L4
              dsimp only
              refine cnd_of (fun e => by simp at e; omega) (fun _ => ?_)
              have hbo : bestTo r0 x0 A (r0.sum.toNat + 1) = bestOf x0 r0 := by unfold bestOf; rw [← hsum, hA]
              rw [hbo]
              obtain ⟨⟨t, ht1, ht2⟩, hlo, hb1, hb2⟩ := hg
              refine sel_loop hl hn hA hb1 hb2 (fun o s i => (o, i, s)) (fun s => s.2.1) (fun _ _ _ => rfl) (R := fun out => Q out (bestOf x0 r0) 0) x0 r0 hlc ⟨t, ht1, ht2.symm⟩ (fun X out i sum x hol h0 hsA hx hsx hne hq => ?_) (fun X out i sum h0 hsA he hR => ?_) h'
              · unfold M_mount_Balanced_L5 M_mount_Balanced_k6
                dsimp only
                have hi := lt_of_get hx
                have hxb := hl x (List.mem_of_getElem? hx)
                have hw1 : w64 ((A : Int) - sum) = (A : Int) - sum := by rw [w64_id] <;> omega
                have hw2 : w64 (sum + x) = sum + x := by rw [w64_id] <;> omega
                have hw3 : w64 ((i : Int) + 1) = ((i + 1 : Nat) : Int) := by rw [w64_id] <;> omega
                rw [hw1, hw3]
                refine cnd_of (fun _ => idx_nat hx ?_) (fun e => absurd (by simpa using e) hne)
                rw [hw2]
                refine S_Balanced1 hl hn (by omega) hi (by omega) (by omega) hb1 ?_
                have hq' := hq _ rfl
                refine cnd_of (fun e => ⟨room_of (by simp only [List.length_append, List.length_singleton]; omega) (by omega), ?_⟩) (fun e => ?_)
                · rw [if_pos e] at hq'; exact hq'
                · rw [if_neg (by rw [e]; simp)] at hq'; exact hq'
              · unfold M_mount_Balanced_L5
                dsimp only
                have hw1 : w64 ((A : Int) - sum) = (A : Int) - sum := by rw [w64_id] <;> omega
                rw [hw1, he]
                simp only [bne_self_eq_false, cnd_false]
                exact hR
theorem S_awake {Q : Bool → Prop} (h : Q true) : M_awake Q := by
  unfold M_awake
  refine S_mount_Balanced ?_
  have h1 : firstBad loadBad [5, 4, 3, 2] 0 = 0 := by decide
  have h2 : pick (5 + [4, 3, 2].sum) (bestOf 5 [4, 3, 2]) [4, 3, 2] 1 5 [0] = [0, 3] := by decide +kernel
  have h3 : bestOf 5 [4, 3, 2] = 7 := by decide +kernel
  unfold balOf
  rw [if_neg (by decide), if_neg (by simp [h1])]
  dsimp only
  rw [h2, h3]
  simp only [beq_self_eq_true, cnd_true]
  refine cnd_of (fun _ => idx_nat (i := 1) (x := 3) rfl (by simpa using h)) (fun e => by simp at e)
end Go.Proofs.YtcmlcgjjkccaeaaDoor

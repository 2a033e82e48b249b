/- Chapter 4: what is reached: the laws, plain. -/
import Derived.Test.YtjkkefhfbcgahaaStackI
namespace Go.Proofs.Ytjkkefhfbcgahaa
open Go Go.RowKit
set_option linter.unusedVariables false

theorem getD_of0 {o : List Int} {j : Nat} {x : Int} (h : o[j]? = some x) : o.getD j 0 = x := by rw [List.getD_eq_getElem?_getD, h]; rfl
theorem take_any_succ {α : Type} (l : List α) (k : Nat) (x : α) (hx : l[k]? = some x) (p : α → Bool) : (l.take (k + 1)).any p = ((l.take k).any p || p x) := by
  rw [List.take_add_one, hx, List.any_append]; simp
/-! ### the least of a row -/
def minL (x : List Int) : Int := x.foldl min (x.headD 0)
theorem min_foldl_le : ∀ (x : List Int) (a : Int), x.foldl min a ≤ a ∧ (∀ y ∈ x, x.foldl min a ≤ y) ∧ (x.foldl min a = a ∨ x.foldl min a ∈ x)
  | [], a => by simp
  | y :: x, a => by
    obtain ⟨h1, h2, h3⟩ := min_foldl_le x (min a y)
    simp only [List.foldl_cons]
    refine ⟨by omega, fun z hz => ?_, ?_⟩
    · rcases List.mem_cons.1 hz with hz | hz
      · subst hz; omega
      · exact h2 z hz
    · rcases h3 with h3 | h3
      · rcases Int.le_total a y with h | h
        · exact .inl (by omega)
        · exact .inr (List.mem_cons.2 (.inl (by omega)))
      · exact .inr (List.mem_cons_of_mem _ h3)
theorem minL_spec {x : List Int} (h : x ≠ []) : (∀ y ∈ x, minL x ≤ y) ∧ minL x ∈ x := by
  obtain ⟨_, h2, h3⟩ := min_foldl_le x (x.headD 0)
  refine ⟨h2, ?_⟩
  rcases h3 with h3 | h3
  · unfold minL; rw [h3]
    cases x with
    | nil => exact absurd rfl h
    | cons a r => exact List.mem_cons_self ..
  · exact h3
theorem S_min_int {x : List Int} (h0 : x ≠ []) (hl : x.length ≤ 100000) {Q : Int → Prop} (h : Q (minL x)) : M_min_int x Q := by
  unfold M_min_int
  have hp : 0 < x.length := List.length_pos_iff.2 h0
  refine cnd_of (fun e => by simp at e; omega) (fun _ => idx_nat (i := 0) (x := x.headD 0) (by cases x with | nil => exact absurd rfl h0 | cons a r => rfl) ?_)
  refine lp_upto (fun i => ((x.take (i + 1)).foldl min (x.headD 0), ((i + 1 : Nat) : Int))) (x.length - 1) (by cases x with | nil => exact absurd rfl h0 | cons a r => simp) (fun X i hi hX => ?_) (fun X => ?_)
  · unfold M_min_int_L1
    dsimp only
    have hlt : i + 1 < x.length := by omega
    refine cnd_of (fun _ => idx_nat (List.getElem?_eq_getElem hlt) ?_) (fun e => by simp at e; omega)
    rw [take_foldl_succ min (x.headD 0) x (i + 1) _ (List.getElem?_eq_getElem hlt)] at hX
    rw [show w64 (((i + 1 : Nat) : Int) + 1) = ((i + 1 + 1 : Nat) : Int) by rw [w64_id] <;> omega]
    exact hX
  · unfold M_min_int_L1
    dsimp only
    refine cnd_of (fun e => by simp at e; omega) (fun _ => ?_)
    rw [show x.length - 1 + 1 = x.length by omega, List.take_length]
    exact h
/-! ### reaching -/
def lay (o : List Int) (a b : Nat) (v : Int) : List Int := o.mapIdx (fun j y => if a ≤ j ∧ j < b then v else y)
theorem lay_get (o : List Int) (a b : Nat) (v : Int) (j : Nat) : (lay o a b v)[j]? = o[j]?.map (fun y => if a ≤ j ∧ j < b then v else y) := by unfold lay; rw [List.getElem?_mapIdx]
theorem lay_len (o : List Int) (a b : Nat) (v : Int) : (lay o a b v).length = o.length := by simp [lay]
theorem lay_set {o : List Int} {a b : Nat} {v : Int} (hab : a ≤ b) (hb : b < o.length) : (lay o a b v).set b v = lay o a (b + 1) v := by
  refine List.ext_getElem? (fun j => ?_)
  rw [List.getElem?_set, lay_get, lay_get, lay_len]
  by_cases hj : b = j
  · subst hj
    rw [if_pos rfl, if_pos hb, List.getElem?_eq_getElem hb]
    simp [hab]
  · rw [if_neg hj]
    congr 1
    funext y
    by_cases h2 : a ≤ j ∧ j < b
    · rw [if_pos h2, if_pos (by omega)]
    · rw [if_neg h2, if_neg (by omega)]
theorem lay_same {o : List Int} {a b : Nat} {v : Int} (hb : b < o.length) (h : o[b]? = some v) : lay o a (b + 1) v = lay o a b v := by
  refine List.ext_getElem? (fun j => ?_)
  rw [lay_get, lay_get]
  by_cases hj : b = j
  · subst hj; rw [h]; simp
  · congr 1; funext y
    by_cases h2 : a ≤ j ∧ j < b
    · rw [if_pos h2, if_pos (by omega)]
    · rw [if_neg h2, if_neg (by omega)]
theorem lay_none (o : List Int) (a : Nat) (v : Int) : lay o a a v = o := by
  refine List.ext_getElem? (fun j => ?_)
  rw [lay_get]
  cases o[j]? with
  | none => rfl
  | some y => simp; omega
def part (o : List Int) (x : Through) : List Int := (o.take x.To.toNat).drop (x.From - 1).toNat
def passSpan (o : List Int) (x : Through) : List Int × Bool := (lay o (x.From - 1).toNat x.To.toNat (minL (part o x)), (part o x).any (fun y => y != minL (part o x)))
def passStep (st : List Int × Bool) (x : Through) : List Int × Bool := ((passSpan st.1 x).1, st.2 || (passSpan st.1 x).2)
def pass (l : List Through) (o : List Int) : List Int × Bool := l.foldl passStep (o, false)
def runReach (l : List Through) : Nat → List Int → List Int
  | 0, o => o
  | f + 1, o => if (pass l o).2 = true then runReach l f (pass l o).1 else (pass l o).1
def startOf (n : Nat) : List Int := (List.range n).map (fun (i : Nat) => (i : Int))
def reachOf (n : Nat) (l : List Through) : List Int := runReach l (n * n + 1) (startOf n)
def RowOk (n : Nat) (o : List Int) : Prop := o.length = n ∧ ∀ y ∈ o, 0 ≤ y ∧ y ≤ n
def SpanOk (n : Nat) (x : Through) : Prop := 1 ≤ x.From ∧ x.From < x.To ∧ x.To ≤ n
theorem part_get {n : Nat} {o : List Int} {x : Through} (ho : RowOk n o) (hx : SpanOk n x) : (part o x).length = (x.To - (x.From - 1)).toNat ∧ (part o x) ≠ [] ∧ ∀ i, i < (x.To - (x.From - 1)).toNat → (part o x)[i]? = o[(x.From - 1).toNat + i]? := by
  unfold SpanOk at hx
  have hl : (part o x).length = (x.To - (x.From - 1)).toNat := by
    unfold part; rw [List.length_drop, List.length_take, ho.1]; omega
  refine ⟨hl, fun e => by rw [e] at hl; simp at hl; omega, fun i hi => ?_⟩
  unfold part
  rw [List.getElem?_drop, List.getElem?_take, if_pos (by omega)]
theorem part_min {n : Nat} {o : List Int} {x : Through} (ho : RowOk n o) (hx : SpanOk n x) : 0 ≤ minL (part o x) ∧ minL (part o x) ≤ n ∧ ∀ j y, (x.From - 1).toNat ≤ j → j < x.To.toNat → o[j]? = some y → minL (part o x) ≤ y := by
  obtain ⟨hl, hne, hg⟩ := part_get ho hx
  obtain ⟨h1, h2⟩ := minL_spec hne
  have hmem : minL (part o x) ∈ o := List.mem_of_mem_take (List.mem_of_mem_drop h2)
  have := ho.2 _ hmem
  refine ⟨this.1, this.2, fun j y h3 h4 hy => h1 y ?_⟩
  unfold SpanOk at hx
  have := hg (j - (x.From - 1).toNat) (by omega)
  rw [show (x.From - 1).toNat + (j - (x.From - 1).toNat) = j by omega, hy] at this
  exact List.mem_of_getElem? this
theorem lay_ok {n : Nat} {o : List Int} {x : Through} (ho : RowOk n o) (hx : SpanOk n x) : RowOk n (passSpan o x).1 := by
  refine ⟨by unfold passSpan; rw [lay_len]; exact ho.1, fun y hy => ?_⟩
  obtain ⟨j, hj⟩ := List.getElem?_of_mem hy
  unfold passSpan at hj
  rw [lay_get] at hj
  cases hoj : o[j]? with
  | none => rw [hoj] at hj; cases hj
  | some z =>
    rw [hoj] at hj
    simp only [Option.map_some, Option.some.injEq] at hj
    have hz := ho.2 z (List.mem_of_getElem? hoj)
    have hm := part_min ho hx
    split at hj <;> omega
theorem sum_mapIdx : ∀ (o : List Int) (f : Nat → Int → Int), (∀ j y, o[j]? = some y → f j y ≤ y) → (o.mapIdx f).sum ≤ o.sum ∧ ((∃ j y, o[j]? = some y ∧ f j y ≠ y) → (o.mapIdx f).sum < o.sum)
  | [], f, _ => ⟨by simp, fun ⟨j, y, h, _⟩ => by simp at h⟩
  | z :: o, f, h => by
    obtain ⟨h1, h2⟩ := sum_mapIdx o (fun j => f (j + 1)) (fun j y hy => h (j + 1) y (by simpa using hy))
    have h0 := h 0 z rfl
    rw [List.mapIdx_cons, List.sum_cons, List.sum_cons]
    refine ⟨by omega, fun ⟨j, y, hj, hne⟩ => ?_⟩
    cases j with
    | zero => simp at hj; subst hj; omega
    | succ j => have := h2 ⟨j, y, by simpa using hj, hne⟩; omega
theorem pass_sum {n : Nat} {o : List Int} {x : Through} (ho : RowOk n o) (hx : SpanOk n x) : (passSpan o x).1.sum ≤ o.sum ∧ ((passSpan o x).2 = true → (passSpan o x).1.sum < o.sum) := by
  obtain ⟨hl, hne, hg⟩ := part_get ho hx
  have hm := part_min ho hx
  obtain ⟨h1, h2⟩ := sum_mapIdx o (fun j y => if (x.From - 1).toNat ≤ j ∧ j < x.To.toNat then minL (part o x) else y) (fun j y hy => by
    split
    · rename_i hh; exact hm.2.2 j y hh.1 hh.2 hy
    · exact Int.le_refl _)
  refine ⟨h1, fun hc => h2 ?_⟩
  unfold passSpan at hc
  obtain ⟨y, hy, hyne⟩ := List.any_eq_true.1 hc
  obtain ⟨i, hi⟩ := List.getElem?_of_mem hy
  have hil : i < (x.To - (x.From - 1)).toNat := by rw [← hl]; exact lt_of_get hi
  rw [hg i hil] at hi
  unfold SpanOk at hx
  refine ⟨(x.From - 1).toNat + i, y, hi, ?_⟩
  rw [if_pos ⟨by omega, by omega⟩]
  intro e; rw [e] at hyne; simp at hyne
theorem passes {n : Nat} : ∀ (l : List Through) (st : List Int × Bool), RowOk n st.1 → (∀ x ∈ l, SpanOk n x) → RowOk n (l.foldl passStep st).1 ∧ (l.foldl passStep st).1.sum ≤ st.1.sum ∧ ((l.foldl passStep st).2 = true → st.2 = true ∨ (l.foldl passStep st).1.sum < st.1.sum)
  | [], st, ho, _ => ⟨ho, Int.le_refl _, fun h => .inl h⟩
  | x :: l, st, ho, hl => by
    have hx := hl x (List.mem_cons_self ..)
    have h1 := lay_ok ho hx
    have h2 := pass_sum ho hx
    obtain ⟨i1, i2, i3⟩ := passes l (passStep st x) h1 (fun y hy => hl y (List.mem_cons_of_mem _ hy))
    have e1 : (passStep st x).1 = (passSpan st.1 x).1 := rfl
    have e2 : (passStep st x).2 = (st.2 || (passSpan st.1 x).2) := rfl
    rw [e1] at i2 i3
    simp only [List.foldl_cons]
    refine ⟨i1, by omega, fun h => ?_⟩
    rcases i3 h with h | h
    · rw [e2] at h
      rcases Bool.or_eq_true _ _ ▸ h with h | h
      · exact .inl h
      · exact .inr (by have := h2.2 h; omega)
    · exact .inr (by omega)
theorem sum_bound {n : Nat} : ∀ (o : List Int), (∀ y ∈ o, 0 ≤ y ∧ y ≤ n) → 0 ≤ o.sum ∧ o.sum ≤ n * o.length
  | [], _ => by simp
  | y :: o, h => by
    have h1 := h y (List.mem_cons_self ..)
    have h2 := sum_bound o (fun z hz => h z (List.mem_cons_of_mem _ hz))
    rw [List.sum_cons, List.length_cons]
    have e : (n : Int) * ((o.length + 1 : Nat) : Int) = n * o.length + n := by rw [show ((o.length + 1 : Nat) : Int) = (o.length : Int) + 1 by omega, Int.mul_add, Int.mul_one]
    rw [e]; omega
theorem start_ok (n : Nat) : RowOk n (startOf n) := by
  refine ⟨by simp [startOf], fun y hy => ?_⟩
  obtain ⟨i, hi, rfl⟩ := List.mem_map.1 hy
  have := List.mem_range.1 hi; omega
theorem S_stack_reach {n : Nat} (hn : n ≤ 60) {l : List Through} (hl : ∀ x ∈ l, SpanOk n x) {Q : List Int → Prop} (h : RowOk n (reachOf n l) → Q (reachOf n l)) : M_stack_reach (n : Int) l Q := by
  unfold M_stack_reach
  refine ⟨⟨Int.natCast_nonneg _, by omega⟩, ?_⟩
  rw [Int.toNat_natCast]
  refine lp_upto (fun k => ((List.range n).map (fun (i : Nat) => if i < k then (i : Int) else 0), (k : Int))) n (by simp [List.map_const']) (fun X k hk hX => ?_) (fun X => ?_)
  · unfold M_stack_reach_L1
    dsimp only
    rw [Int.toNat_natCast, List.length_replicate]
    refine cnd_of (fun _ => idx_nat (x := 0) (by rw [List.getElem?_map, List.getElem?_range hk]; simp) ?_) (fun e => by simp at e; omega)
    rw [Int.toNat_natCast, show w64 ((k : Int) + 1) = ((k + 1 : Nat) : Int) by rw [w64_id] <;> omega]
    have e : ((List.range n).map (fun (i : Nat) => if i < k then (i : Int) else 0)).set k (k : Int) = (List.range n).map (fun (i : Nat) => if i < k + 1 then (i : Int) else 0) := by
      refine List.ext_getElem? (fun j => ?_)
      rw [List.getElem?_set]
      rcases Nat.lt_or_ge j n with hj | hj
      · rw [List.getElem?_map, List.getElem?_map, List.getElem?_range hj]
        by_cases hkj : k = j
        · subst hkj; simp [hk]
        · rw [if_neg hkj]
          simp only [Option.map_some]
          congr 1
          by_cases h2 : j < k
          · rw [if_pos h2, if_pos (by omega)]
          · rw [if_neg h2, if_neg (by omega)]
      · rw [if_neg (by omega), List.getElem?_eq_none (by simp; omega), List.getElem?_eq_none (by simp; omega)]
    rw [e]; exact hX
  · unfold M_stack_reach_L1
    dsimp only
    rw [Int.toNat_natCast, List.length_replicate]
    refine cnd_of (fun e => by simp at e) (fun _ => ?_)
    have es : (List.range n).map (fun (i : Nat) => if i < n then (i : Int) else 0) = startOf n := by
      unfold startOf
      refine List.map_congr_left (fun i hi => ?_)
      rw [if_pos (List.mem_range.1 hi)]
    rw [es]
    have hst := start_ok n
    have hsb := sum_bound (startOf n) hst.2
    rw [hst.1] at hsb
    refine lp_intro (fun s => RowOk n s.1 ∧ ∃ f : Nat, s.1.sum < (f : Int) ∧ (s.2 = true → runReach l f s.1 = reachOf n l) ∧ (s.2 = false → s.1 = reachOf n l)) (fun s => if s.2 = true then s.1.sum.toNat + 1 else 0)
      ⟨hst, n * n + 1, by have h9 : ((n * n + 1 : Nat) : Int) = (n : Int) * n + 1 := by simp
                          rw [h9]; show (startOf n).sum < _; omega, fun _ => rfl, fun e => by cases e⟩ (fun X s hI hX => ?_)
    obtain ⟨o, c⟩ := s
    obtain ⟨ho, f, hf, h1, h2⟩ := hI
    dsimp only at ho hf h1 h2 hX ⊢
    unfold M_stack_reach_L2
    refine cnd_of (fun e => ?_) (fun e => by rw [h2 e]; exact h (h2 e ▸ ho))
    have h1 := h1 e
    have hsb := sum_bound o ho.2
    obtain ⟨f', rfl⟩ : ∃ f', f = f' + 1 := ⟨f - 1, by omega⟩
    obtain ⟨p1, p2, p3⟩ := passes l (o, false) ho hl
    have hpb := sum_bound _ p1.2
    refine forIn0 (fun k st => st = (l.take k).foldl passStep (o, false)) rfl (fun k x st hx hI next hnx => ?_) (fun st hI => ?_)
    · have hXX := hnx _ (take_foldl_succ passStep (o, false) l k x hx).symm
      rw [← hI] at hXX
      have hok : RowOk n st.1 := by rw [hI]; exact (passes (l.take k) (o, false) ho (fun y hy => hl y (List.mem_of_mem_take hy))).1
      have hxo := hl x (List.mem_of_getElem? hx)
      obtain ⟨g1, g2, g3⟩ := part_get hok hxo
      have hxo' := hxo
      unfold SpanOk at hxo'
      have hlen := hok.1
      unfold M_stack_reach_L3
      have hw : w64 (x.From - 1) = (((x.From - 1).toNat : Nat) : Int) := by rw [w64_id] <;> omega
      rw [hw]
      refine ⟨⟨Int.natCast_nonneg _, by omega, by omega⟩, ?_⟩
      have es : seg st.1 (((x.From - 1).toNat : Nat) : Int) x.To = part st.1 x := by unfold seg part; rw [Int.toNat_natCast]
      rw [es]
      refine S_min_int g2 (by omega) ?_
      refine lp_upto (fun i => (lay st.1 (x.From - 1).toNat ((x.From - 1).toNat + i) (minL (part st.1 x)), (st.2 || ((part st.1 x).take i).any (fun y => y != minL (part st.1 x))), (((x.From - 1).toNat + i : Nat) : Int))) (x.To - (x.From - 1)).toNat (by simp [lay_none]) (fun Y i hi hY => ?_) (fun Y => ?_)
      · unfold M_stack_reach_L4
        dsimp only
        refine cnd_of (fun _ => ?_) (fun e => by simp at e; omega)
        have hlt : (x.From - 1).toNat + i < st.1.length := by omega
        have hgi := g3 i hi
        rw [List.getElem?_eq_getElem hlt] at hgi
        rw [take_any_succ (part st.1 x) i _ hgi] at hY
        refine idx_nat (x := st.1[(x.From - 1).toNat + i]) (by rw [lay_get, List.getElem?_eq_getElem hlt]; simp) ?_
        rw [Int.toNat_natCast, show w64 ((((x.From - 1).toNat + i : Nat) : Int) + 1) = (((x.From - 1).toNat + (i + 1) : Nat) : Int) by rw [w64_id] <;> omega]
        refine cnd_of (fun e => ?_) (fun e => ?_)
        · rw [lay_set (by omega) hlt]
          rw [e, Bool.or_true, Bool.or_true] at hY
          exact hY
        · rw [e, Bool.or_false] at hY
          have hsame := lay_same (a := (x.From - 1).toNat) hlt (v := minL (part st.1 x)) (by rw [List.getElem?_eq_getElem hlt]; congr 1; simpa using e)
          rw [show (x.From - 1).toNat + (i + 1) = (x.From - 1).toNat + i + 1 by omega, hsame] at hY
          exact hY
      · unfold M_stack_reach_L4
        dsimp only
        refine cnd_of (fun e => by simp at e; omega) (fun _ => ?_)
        rw [List.take_of_length_le (by omega)]
        unfold passStep passSpan at hXX
        rw [show (x.From - 1).toNat + (x.To - (x.From - 1)).toNat = x.To.toNat by omega]
        exact hXX
    · subst hI
      rw [List.take_length]
      have hrun : runReach l (f' + 1) o = if (pass l o).2 = true then runReach l f' (pass l o).1 else (pass l o).1 := rfl
      rw [hrun] at h1
      show X ((pass l o).1, (pass l o).2)
      have q3 : (pass l o).2 = true → (pass l o).1.sum < o.sum := fun e => by
        rcases p3 e with h | h
        · cases h
        · exact h
      have hpb' : 0 ≤ (pass l o).1.sum := hpb.1
      refine hX _ ⟨p1, ?_⟩ ?_
      · cases hc : (pass l o).2 with
        | true => rw [if_pos hc] at h1; exact ⟨f', by have := q3 hc; dsimp only; omega, fun _ => h1, fun e => (by cases e)⟩
        | false => rw [if_neg (by simp [hc])] at h1; exact ⟨((pass l o).1.sum).toNat + 1, by dsimp only; omega, fun e => (by cases e), fun _ => h1⟩
      · dsimp only
        cases hc : (pass l o).2 with
        | true => rw [if_pos rfl, if_pos e]; have := q3 hc; omega
        | false => rw [if_neg (by simp), if_pos e]; omega
/-! ### what is reached from a copper -/
def idxInt (s : List Int) (v : Int) : Int := match s.findIdx? (fun x => v == x) with | some i => (i : Int) | none => -1
theorem S_index_int {s : List Int} {v : Int} {Q : Int → Prop} (h : Q (idxInt s v)) : M_index_int s v Q := by
  unfold M_index_int
  refine forIn_find (fun x => v == x) (fun k x next hx => ?_) s 0 (A := fun i => Q (i : Int)) ?_
  · unfold M_index_int_L1; exact cnd_iff.2 hx
  · unfold idxInt at h
    cases hf : s.findIdx? (fun x => v == x) <;> simp only [hf] at h ⊢
    · exact h
    · simpa using h
def nameAt (m : List Material) (s : List Layer) (k : Nat) : Str := (s.getD ((copOf m s).getD k 0).toNat default).Name
def namesOf (m : List Material) (s : List Layer) (o : List Int) (me : Int) : Nat → List Str
  | 0 => []
  | k + 1 => namesOf m s o me k ++ (if o.getD k 0 = me then [nameAt m s k] else [])
def reachedOf (m : List Material) (s : List Layer) (l : List Through) (name : Str) : List Str × Int :=
  if spansFault m s l ≠ 0 then ([], spansFault m s l) else if placeNum s name < 0 then ([], 9)
  else (namesOf m s (reachOf (copOf m s).length l) ((reachOf (copOf m s).length l).getD (idxInt (copOf m s) (placeNum s name)).toNat 0) (copOf m s).length, 0)
theorem mem_copTo {m : List Material} {s : List Layer} {y : Int} : ∀ {k : Nat}, y ∈ copTo m s k ↔ ∃ i : Nat, i < k ∧ y = (i : Int) ∧ kindAt m (s.getD i default) = 1
  | 0 => by simp [copTo]
  | k + 1 => by
    rw [copTo, List.mem_append, mem_copTo]
    constructor
    · rintro (⟨i, h1, h2, h3⟩ | h)
      · exact ⟨i, by omega, h2, h3⟩
      · split at h
        · rename_i hk; simp at h; exact ⟨k, by omega, h, hk⟩
        · simp at h
    · rintro ⟨i, h1, h2, h3⟩
      rcases Nat.lt_or_ge i k with h | h
      · exact .inl ⟨i, h, h2, h3⟩
      · obtain rfl : i = k := by omega
        exact .inr (by rw [if_pos h3]; simp [h2])
theorem copTo_nodup (m : List Material) (s : List Layer) : ∀ k, (copTo m s k).Nodup
  | 0 => by simp [copTo]
  | k + 1 => by
    rw [copTo, List.nodup_append]
    refine ⟨copTo_nodup m s k, by split <;> simp, fun a ha b hb => ?_⟩
    obtain ⟨i, h1, h2, _⟩ := mem_copTo.1 ha
    split at hb
    · simp at hb; omega
    · simp at hb
theorem idxInt_mem {s : List Int} {v : Int} (h : v ∈ s) : ∃ i : Nat, idxInt s v = (i : Int) ∧ s[i]? = some v := by
  unfold idxInt
  cases hf : s.findIdx? (fun x => v == x) with
  | none => exact absurd (List.findIdx?_eq_none_iff.1 hf v h) (by simp)
  | some i =>
    obtain ⟨h1, h2, _⟩ := List.findIdx?_eq_some_iff_getElem.1 hf
    exact ⟨i, rfl, by rw [List.getElem?_eq_getElem h1]; congr 1; simpa using (by simpa using h2 : v = s[i]).symm⟩
theorem idxInt_at {s : List Int} (hd : s.Nodup) {v : Int} {i : Nat} (h : s[i]? = some v) : idxInt s v = (i : Int) := by
  obtain ⟨j, h1, h2⟩ := idxInt_mem (List.mem_of_getElem? h)
  rw [h1]
  obtain ⟨hi, hi2⟩ := List.getElem?_eq_some_iff.1 h
  obtain ⟨hj, hj2⟩ := List.getElem?_eq_some_iff.1 h2
  have hpw := List.pairwise_iff_getElem.1 (List.nodup_iff_pairwise_ne.1 hd)
  have : i = j := by
    rcases Nat.lt_trichotomy i j with h3 | h3 | h3
    · exact absurd (by rw [hi2, hj2]) (hpw i j hi hj h3)
    · exact h3
    · exact absurd (by rw [hi2, hj2]) (hpw j i hj hi h3)
  omega
/-- the copper of a name -/
theorem place_cop {m : List Material} {s : List Layer} (hb : ∀ i x, s[i]? = some x → layerBad m s i x = 0) {name : Str} (h : ¬ placeNum s name < 0) : ∃ p k : Nat, placeNum s name = (p : Int) ∧ (copOf m s)[k]? = some (p : Int) ∧ idxInt (copOf m s) (placeNum s name) = (k : Int) ∧ nameAt m s k = name := by
  have hlt := (place_lt (s := s) (name := name)).1
  obtain ⟨p, hp⟩ : ∃ p : Nat, placeNum s name = (p : Int) := ⟨(placeNum s name).toNat, by omega⟩
  obtain ⟨hne, ⟨x, hx, hxn⟩, _⟩ := place_some hp
  have hk := name_kind (hb p x hx)
  have hk1 : kindAt m x = 1 := Decidable.byContradiction (fun hc => hne (by rw [← hxn]; exact hk.2 hc))
  have hpl := lt_of_get hx
  have hmem : (p : Int) ∈ copOf m s := mem_copTo.2 ⟨p, hpl, rfl, by rw [getD_of hx]; exact hk1⟩
  obtain ⟨k, h1, h2⟩ := idxInt_mem hmem
  refine ⟨p, k, hp, h2, by rw [hp]; exact h1, ?_⟩
  unfold nameAt
  rw [getD_of0 h2, Int.toNat_natCast, getD_of hx, hxn]
theorem namesOf_len (m : List Material) (s : List Layer) (o : List Int) (me : Int) : ∀ k, (namesOf m s o me k).length ≤ k
  | 0 => by simp [namesOf]
  | k + 1 => by have := namesOf_len m s o me k; simp only [namesOf, List.length_append]; split <;> simp <;> omega
theorem mem_namesOf {m : List Material} {s : List Layer} {o : List Int} {me : Int} {n : Str} : ∀ {k : Nat}, n ∈ namesOf m s o me k ↔ ∃ i, i < k ∧ o.getD i 0 = me ∧ n = nameAt m s i
  | 0 => by simp [namesOf]
  | k + 1 => by
    rw [namesOf, List.mem_append, mem_namesOf]
    constructor
    · rintro (⟨i, h1, h2, h3⟩ | h)
      · exact ⟨i, by omega, h2, h3⟩
      · split at h
        · rename_i hk; simp at h; exact ⟨k, by omega, hk, h⟩
        · simp at h
    · rintro ⟨i, h1, h2, h3⟩
      rcases Nat.lt_or_ge i k with h | h
      · exact .inl ⟨i, h, h2, h3⟩
      · obtain rfl : i = k := by omega
        exact .inr (by rw [if_pos h2]; simp [h3])
theorem spans_ok {m : List Material} {s : List Layer} {l : List Through} (h : spansFault m s l = 0) : stackFault m s = 0 ∧ l.length ≤ 200 ∧ ∀ x ∈ l, SpanOk (copOf m s).length x := by
  unfold spansFault at h
  split at h; · rename_i hn; exact absurd h hn
  rename_i h1
  have h1 : stackFault m s = 0 := Decidable.not_not.1 h1
  obtain ⟨_, hsl, _⟩ := stack_ok h1
  have hcp := copOf_len m s
  split at h; · cases h
  rename_i h2
  split at h; · rename_i hn; exact absurd h hn
  rename_i h3
  exact ⟨h1, by omega, fun x hx => spans_in (by omega) (Decidable.not_not.1 h3) x hx⟩
theorem S_stack_Reached {m : List Material} {s : List Layer} {l : List Through} {name : Str} (hmf : Fits.fits m) (hf : Fits.fits s) {Q : List Str → Int → Prop} (h : Q (reachedOf m s l name).1 (reachedOf m s l name).2) : M_stack_Reached m s l name Q := by
  unfold M_stack_Reached
  unfold reachedOf at h
  refine S_stack_CheckSpans hmf hf (cnd_of (fun e => ?_) (fun e => ?_))
  · rw [if_pos (by simpa using e)] at h; exact h
  rw [if_neg (by simpa using e)] at h
  obtain ⟨h1, hll, hspan⟩ := spans_ok (show spansFault m s l = 0 by simpa using e)
  obtain ⟨hm, hsl, _, _, _, hb⟩ := stack_ok h1
  have hcp := copOf_len m s
  refine S_stack_find (cnd_of (fun e => ?_) (fun e => ?_))
  · rw [if_pos (by simpa using e)] at h; exact h
  have hnn : ¬ placeNum s name < 0 := by simpa using e
  rw [if_neg hnn] at h
  obtain ⟨p, k, hp, hk, hki, _⟩ := place_cop hb hnn
  refine S_stack_coppers hm (by omega) (S_stack_reach (by omega) hspan (fun hro => S_index_int ?_))
  rw [hki] at h ⊢
  rw [Int.toNat_natCast] at h
  have hkl := lt_of_get hk
  have hrl := hro.1
  generalize hR : reachOf (copOf m s).length l = R at *
  refine idx_nat (x := R.getD k 0) (by rw [List.getD_eq_getElem?_getD, List.getElem?_eq_getElem (by omega)]; rfl) ?_
  refine forIn0 (fun j acc => acc = namesOf m s R (R.getD k 0) j) rfl (fun j x acc hx hI next hn => ?_) (fun acc hI => ?_)
  · have hj := lt_of_get hx
    have hX := hn _ rfl
    rw [namesOf, ← hI, getD_of0 hx] at hX
    have hlen := namesOf_len m s R (R.getD k 0) j
    rw [← hI] at hlen
    unfold M_stack_Reached_L1
    have hjc : j < (copOf m s).length := by omega
    refine cnd_of (fun e => ?_) (fun e => ?_)
    · rw [if_pos (by simpa using e)] at hX
      refine idx_nat (List.getElem?_eq_getElem hjc) ?_
      obtain ⟨i, hi, hie, _⟩ := mem_copTo.1 (List.getElem_mem hjc : (copOf m s)[j] ∈ copTo m s s.length)
      have hna : nameAt m s j = (s.getD i default).Name := by
        unfold nameAt; rw [getD_of0 (List.getElem?_eq_getElem hjc), hie, Int.toNat_natCast]
      rw [hie]
      refine idx_nat (x := s.getD i default) (by rw [List.getD_eq_getElem?_getD, List.getElem?_eq_getElem hi]; rfl) ⟨room_of (by simp only [List.length_append, List.length_singleton]; omega) (by omega), ?_⟩
      rw [← hna]; exact hX
    · rw [if_neg (by simpa using e), List.append_nil] at hX; exact hX
  · subst hI; rw [hrl]; exact h
theorem S_equal_str {xs ys : List Str} {Q : Bool → Prop} (h : Q (decide (xs = ys))) : M_equal_str xs ys Q := by
  unfold M_equal_str
  refine equal_loop (fun k x next hq => ?_) h
  unfold M_equal_str_L1
  obtain ⟨h0, y, hy, hc⟩ := hq
  refine ⟨h0, y, hy, ?_⟩
  have : (x == y) = decide (x = y) := by rw [Bool.eq_iff_iff]; simp
  dsimp only
  rw [this]; exact hc
theorem S_contains_str {s : List Str} {v : Str} {Q : Bool → Prop} (h : Q (decide (v ∈ s))) : M_contains_str s v Q := by
  unfold M_contains_str M_index_str
  refine forIn_any (fun x => v == x) (fun k x next hq => ?_) s 0 (A := Q true) ?_
  · unfold M_index_str_L1
    have : decide ((k : Int) ≥ 0) = true := by simp
    dsimp only
    rw [this]; exact cnd_iff.2 hq
  · have e : s.any (fun x => v == x) = decide (v ∈ s) := by rw [Bool.eq_iff_iff]; simp
    rw [e]
    split
    · rename_i e2; rw [e2] at h; exact h
    · rename_i e2
      rw [show decide (v ∈ s) = false by simpa using e2] at h; exact h
theorem law_BothWays_true (m : List Material) (s : List Layer) (l : List Through) (name : Str) (hmf : Fits.fits m) (hf : Fits.fits s) : M_law_BothWays m s l name (· = true) := by
  unfold M_law_BothWays
  have aw : M_awake (fun y => y = true) := S_awake rfl
  refine S_stack_Reached hmf hf ?_
  by_cases h0 : spansFault m s l = 0
  · obtain ⟨h1, hll, hspan⟩ := spans_ok h0
    obtain ⟨hm, hsl, _, _, _, hb⟩ := stack_ok h1
    by_cases hp : placeNum s name < 0
    · have : reachedOf m s l name = ([], 9) := by unfold reachedOf; rw [if_neg (by simp [h0]), if_pos hp]
      rw [this]
      exact cnd_of (fun _ => cnd_of (fun _ => aw) (fun e => by simp at e)) (fun e => by simp at e)
    · obtain ⟨p, k, hpp, hk, hki, hkn⟩ := place_cop hb hp
      have hval : ∀ nm, ¬ placeNum s nm < 0 → reachedOf m s l nm = (namesOf m s (reachOf (copOf m s).length l) ((reachOf (copOf m s).length l).getD (idxInt (copOf m s) (placeNum s nm)).toNat 0) (copOf m s).length, 0) := fun nm hn => by
        unfold reachedOf; rw [if_neg (by simp [h0]), if_neg hn]
      rw [hval name hp]
      simp only [bne_self_eq_false, cnd_false]
      rw [hki, Int.toNat_natCast]
      refine forIn0 (fun _ _ => True) trivial (fun j n u hn _ next hnx => ?_) (fun _ _ => ?_)
      · obtain ⟨i, hi, hme, hni⟩ := mem_namesOf.1 (List.mem_of_getElem? hn)
        have hci := List.getElem?_eq_getElem hi
        obtain ⟨q, hq, hqe, hqk⟩ := mem_copTo.1 (List.getElem_mem hi : (copOf m s)[i] ∈ copTo m s s.length)
        have hqs : s[q]? = some (s.getD q default) := by rw [List.getD_eq_getElem?_getD, List.getElem?_eq_getElem hq]; rfl
        have hnq : n = (s.getD q default).Name := by
          rw [hni]; unfold nameAt; rw [getD_of0 hci, hqe, Int.toNat_natCast]
        have hnn := (name_kind (hb q _ hqs)).1 hqk
        have hpn : ¬ placeNum s n < 0 := by
          unfold placeNum placeOf
          cases hf2 : s.findIdx? (fun l => !(n == []) && l.Name == n) with
          | some i => simp
          | none =>
            have := List.findIdx?_eq_none_iff.1 hf2 _ (List.mem_of_getElem? hqs)
            rw [← hnq] at this hnn
            simp [hnn.2] at this
        obtain ⟨p2, k2, hp2, hk2, hki2, hkn2⟩ := place_cop hb hpn
        have hpq : p2 = q := by
          obtain ⟨hne, ⟨x, hx, hxn⟩, _⟩ := place_some hp2
          exact stack_names hb hx hqs (by rw [hxn, hnq]) (by rw [hxn]; exact hne)
        have hik : idxInt (copOf m s) (placeNum s n) = (i : Int) := by
          rw [hp2, hpq, ← hqe]; exact idxInt_at (copTo_nodup m s s.length) hci
        unfold M_law_BothWays_L1 M_law_BothWays_k2
        refine S_stack_Reached hmf hf ?_
        rw [hval n hpn, hik, Int.toNat_natCast, hme]
        simp only [bne_self_eq_false, cnd_false]
        refine S_equal_str ?_
        simp only [decide_true, Bool.not_true, cnd_false]
        exact hnx _ trivial
      · refine S_contains_str ?_
        have : name ∈ namesOf m s (reachOf (copOf m s).length l) ((reachOf (copOf m s).length l).getD k 0) (copOf m s).length := mem_namesOf.2 ⟨k, lt_of_get hk, rfl, hkn.symm⟩
        rw [decide_eq_true this, cnd_true]
        exact aw
  · have : reachedOf m s l name = ([], spansFault m s l) := by unfold reachedOf; rw [if_pos h0]
    rw [this]
    refine cnd_of (fun _ => cnd_of (fun _ => aw) (fun e => by simp at e)) (fun e => by simp at e; exact absurd e h0)
end Go.Proofs.Ytjkkefhfbcgahaa
